/- TyPrints's law, walked. -/
import Derived.Test.YtblfeokjlecgkaaDoorMem
import Derived.Test.YtblfeokjlecgkaaDoorPureP
import Derived.Test.YtblfeokjlecgkaaDoorTyNone
import Derived.Test.YtblfeokjlecgkaaDoorRRight
namespace Go.Proofs.YtblfeokjlecgkaaDoor
open Go.RowKit

set_option maxRecDepth 100000 in
set_option maxHeartbeats 8000000 in
theorem tyPrints_law (A B : Option Addr) (ca cb : Nat) (a b : List Nd) (w : World) (ta : TyA w w.heap.size A a) (tb : TyA w w.heap.size B b) (_ : a.length ≤ ca) (_ : b.length ≤ cb) (la : a.length ≤ 9223372036854775807) (lb : b.length ≤ 9223372036854775807) (oa : ∀ x ∈ a, x.Ok) (ob : ∀ x ∈ b, x.Ok) (ht : Tab w w.heap.size) :
    Calls Tryd.prog 4 #[.slice A a.length ca, .slice B b.length cb] w fun e w' => e = .returned (.bool true) ∧ Below w.heap.size w w' := by
  have Hoa := Lib.hid oa
  have Hob := Lib.hid ob
  have Hsa := Lib.hid fun x hx => (oa x hx).s1
  have Hsb := Lib.hid fun x hx => (ob x hx).s1
  have M := Lib.hid (Mem.start (P := fun v => (TyA v v.heap.size A a ∧ TyA v v.heap.size B b) ∧ Tab v v.heap.size) ⟨⟨ta, tb⟩, ht⟩ (((keep_ty A a).and (keep_ty B b)).and keep_tab))
  clear oa ob ta tb ht
  go_enter Tryd.func4, Tryd.ntmps4
  go_wp2_with fail
  refine (named_any A ca _ a _ M.out.p.1.1 la).mono ?_
  rintro e w' ⟨rfl, rfl⟩
  cases hna : namedB a
  · go_wp2_with fail
    refine (alive_any _ M.out.p.2).mono ?_
    rintro e w9 ⟨rfl, hb⟩
    replace M := Lib.hid (M.out.step hb)
    clear hb
    go_wp2_with fail
    go_ret
    exact ⟨rfl, M.out.ext⟩
  have HNA := Lib.hid hna
  clear hna
  go_wp2_with fail
  refine (named_any B cb _ b _ M.out.p.1.2 lb).mono ?_
  rintro e w' ⟨rfl, rfl⟩
  cases hnb : namedB b
  · go_wp2_with fail
    refine (alive_any _ M.out.p.2).mono ?_
    rintro e w9 ⟨rfl, hb⟩
    replace M := Lib.hid (M.out.step hb)
    clear hb
    go_wp2_with fail
    go_ret
    exact ⟨rfl, M.out.ext⟩
  have HNB := Lib.hid hnb
  clear hnb
  go_wp2_with fail
  refine (rRight_any A ca a _ M.out.p.1.1 la Hsa.out).mono ?_
  rintro e w1 ⟨rfl, hb⟩
  replace M := Lib.hid (M.out.step hb)
  clear hb
  cases hra : rRightB a
  · go_wp2_with fail
    refine (alive_any _ M.out.p.2).mono ?_
    rintro e w9 ⟨rfl, hb⟩
    replace M := Lib.hid (M.out.step hb)
    clear hb
    go_wp2_with fail
    go_ret
    exact ⟨rfl, M.out.ext⟩
  have HRA := Lib.hid hra
  clear hra
  go_wp2_with fail
  refine (rRight_any B cb b _ M.out.p.1.2 lb Hsb.out).mono ?_
  rintro e w2 ⟨rfl, hb⟩
  replace M := Lib.hid (M.out.step hb)
  clear hb
  cases hrb : rRightB b
  · go_wp2_with fail
    refine (alive_any _ M.out.p.2).mono ?_
    rintro e w9 ⟨rfl, hb⟩
    replace M := Lib.hid (M.out.step hb)
    clear hb
    go_wp2_with fail
    go_ret
    exact ⟨rfl, M.out.ext⟩
  have HRB := Lib.hid hrb
  clear hrb
  go_wp2_with fail
  refine (rPlain_any A ca _ a _ M.out.p.1.1 la).mono ?_
  rintro e w' ⟨rfl, rfl⟩
  cases hpa : plainB a
  · go_wp2_with fail
    refine (alive_any _ M.out.p.2).mono ?_
    rintro e w9 ⟨rfl, hb⟩
    replace M := Lib.hid (M.out.step hb)
    clear hb
    go_wp2_with fail
    go_ret
    exact ⟨rfl, M.out.ext⟩
  have HPA := Lib.hid hpa
  clear hpa
  go_wp2_with fail
  refine (rPlain_any B cb _ b _ M.out.p.1.2 lb).mono ?_
  rintro e w' ⟨rfl, rfl⟩
  cases hpb : plainB b
  · go_wp2_with fail
    refine (alive_any _ M.out.p.2).mono ?_
    rintro e w9 ⟨rfl, hb⟩
    replace M := Lib.hid (M.out.step hb)
    clear hb
    go_wp2_with fail
    go_ret
    exact ⟨rfl, M.out.ext⟩
  have HPB := Lib.hid hpb
  clear hpb
  go_wp2_with fail
  obtain ⟨ia, la2, _, sa, hsa, hsas⟩ := text_of HRA.out HNA.out Hoa.out
  obtain ⟨ib, lb2, _, sb, hsb, hsbs⟩ := text_of HRB.out HNB.out Hob.out
  have hpa0 : (prS 100 a).length ≤ 46400 := by rw [hsa] at hsas; simpa [ByteArray.size] using hsas
  have hpb0 : (prS 100 b).length ≤ 46400 := by rw [hsb] at hsbs; simpa [ByteArray.size] using hsbs
  have Hia := Lib.hid ia
  have Hib := Lib.hid ib
  have hsame := print_same ia ib HPA.out HPB.out
  have hse : (sa.toList == sb.toList) = sameB a b := by
    rw [← hsame, Bool.eq_iff_iff]
    rw [beq_iff_eq, decide_eq_true_eq, hsa, hsb, ByteArray.toList_eq, ByteArray.toList_eq]
  have Hsa2 := Lib.hid hsa
  have Hsb2 := Lib.hid hsb
  clear hsa hsb ia ib hsame
  refine (alive_any _ M.out.p.2).mono ?_
  rintro e w3 ⟨rfl, hb⟩
  replace M := Lib.hid (M.out.step hb)
  clear hb
  go_wp2_with fail
  refine (print_any a.length _ ca A a _ Hia.out.tree M.out.p.1.1 (Nat.le_refl _) (by omega) Hoa.out (by omega) M.out.p.2).mono ?_
  rintro e w4 ⟨rfl, hb⟩
  rw [← Hsa2.out]
  replace M := Lib.hid (M.out.step hb)
  clear hb
  go_wp2_with fail
  refine (print_any b.length _ cb B b _ Hib.out.tree M.out.p.1.2 (Nat.le_refl _) (by omega) Hob.out (by omega) M.out.p.2).mono ?_
  rintro e w5 ⟨rfl, hb⟩
  rw [← Hsb2.out]
  replace M := Lib.hid (M.out.step hb)
  clear hb
  go_wp2_with fail
  refine (same_any A B ca cb a b _ M.out.p.1.1 M.out.p.1.2 la).mono ?_
  rintro e w6 ⟨rfl, hb⟩
  replace M := Lib.hid (M.out.step hb)
  clear hb
  cases hs : sameB a b
  all_goals
    rw [hs] at hse
    clear hs
    go_wp2_with fail
    go_ret
    exact ⟨rfl, M.out.ext⟩
end Go.Proofs.YtblfeokjlecgkaaDoor
