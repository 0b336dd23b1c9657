/- TyTells's law, walked. -/
import Derived.Test.YtblfeokjlecgkaaDoorAsk
import Derived.Test.YtblfeokjlecgkaaDoorInts
import Derived.Test.YtblfeokjlecgkaaDoorPrintR
import Derived.Test.YtblfeokjlecgkaaDoorRRight
namespace Go.Proofs.YtblfeokjlecgkaaDoor
open Go.RowKit

set_option maxRecDepth 100000 in
set_option maxHeartbeats 8000000 in
theorem tyTells_law (A : Option Addr) (ca : Nat) (a : List Nd) (i : Int) (w : World) (ta : TyA w w.heap.size A a) (hca : a.length ≤ ca) (la : a.length ≤ 9223372036854775807) (oa : ∀ x ∈ a, x.Ok) (ht : Tab w w.heap.size) :
    Calls Tryd.prog 7 #[.slice A a.length ca, .int .i64 i] w fun e w' => e = .returned (.bool true) ∧ Below w.heap.size w w' := by
  have Hoa := Lib.hid oa
  have Hsa := Lib.hid fun x hx => (oa x hx).s1
  have M := Lib.hid (Mem.start (P := fun v => TyA v v.heap.size A a ∧ Tab v v.heap.size) ⟨ta, ht⟩ ((keep_ty A a).and keep_tab))
  clear oa ta ht
  go_enter Tryd.func7, Tryd.ntmps7
  go_wp2_with fail
  refine (named_any A ca _ a _ M.out.p.1 la).mono ?_
  rintro e w' ⟨rfl, rfl⟩
  cases hna : namedB a
  · go_wp2_with fail
    refine (alive_any _ M.out.p.2).mono ?_
    rintro e w9 ⟨rfl, hb⟩
    replace M := Lib.hid (M.out.step hb)
    clear hb
    go_wp2_with fail
    go_ret
    exact ⟨rfl, M.out.ext⟩
  have HNA := Lib.hid hna
  clear hna
  go_wp2_with fail
  refine (rRight_any A ca a _ M.out.p.1 la Hsa.out).mono ?_
  rintro e w1 ⟨rfl, hb⟩
  replace M := Lib.hid (M.out.step hb)
  clear hb
  cases hra : rRightB a
  · go_wp2_with fail
    refine (alive_any _ M.out.p.2).mono ?_
    rintro e w9 ⟨rfl, hb⟩
    replace M := Lib.hid (M.out.step hb)
    clear hb
    go_wp2_with fail
    go_ret
    exact ⟨rfl, M.out.ext⟩
  have HRA := Lib.hid hra
  clear hra
  obtain ⟨ia, la2, _, sa, hsa, hsas⟩ := text_of HRA.out HNA.out Hoa.out
  have hpa0 : (prS 100 a).length ≤ 46400 := by rw [hsa] at hsas; simpa [ByteArray.size] using hsas
  have Hia := Lib.hid ia
  have Hsa2 := Lib.hid hsa
  clear hsa ia
  have hown0 := Lib.hid (own_empty 38 3 encN w1)
  have hb0 := Lib.hid (ext_alloc (Below.refl w1.heap.size w1) (.cells #[] 38))
  go_wp2_with (at_builtin; refine wpList_appN rfl (.tmp 16) (.tmp 17) rfl w1.heap.size (l := []) rfl hown0.out (l2 := a) rfl (M.out.p.1.below hb0.out) (by simp; omega) (by simp) ?_; intro A2 cap2 w2 hown2 hg2 _)
  rw [List.nil_append] at hown2
  have hb2 := ext_app hb0.out hg2 (fun k hk => (OwnL.block hown0.out k hk).1)
  replace M := Lib.hid ((M.out.step hb2).add (Q := fun v => OwnN v w1.heap.size A2 cap2 a) hown2 (keep_own _ _ _ _ _ _ _))
  clear hb2 hown2 hg2 hb0 hown0
  refine (print_any a.length _ ca A a _ Hia.out.tree M.out.p.1.1 (Nat.le_refl _) (by omega) Hoa.out (by omega) M.out.p.1.2).mono ?_
  rintro e w3 ⟨rfl, hb⟩
  rw [← Hsa2.out]
  replace M := Lib.hid (M.out.step hb)
  clear hb
  go_wp2_with fail
  refine (rPrint_any a.length ca A a _ Hia.out.tree M.out.p.1.1 (by omega) Hia.out.ok Hoa.out (by omega)).mono ?_
  rintro e w4 ⟨rfl, hb⟩
  rw [← Hsa2.out]
  replace M := Lib.hid (M.out.step hb)
  clear hb
  obtain ⟨E, hE⟩ : ∃ E, E = endR a i := ⟨_, rfl⟩
  have HE := Lib.hid hE
  clear hE
  go_wp2_with fail
  refine (pEnd_all A ca a i _ M.out.p.1.1 (by omega) HRA.out).mono ?_
  rintro e w5 ⟨rfl, hb⟩
  rw [← HE.out]
  replace M := Lib.hid (M.out.step hb)
  clear hb
  go_wp2_with fail
  refine (rEnd_all A ca a i _ M.out.p.1.1 (by omega) HRA.out).mono ?_
  rintro e w6 ⟨rfl, hb⟩
  rw [← HE.out]
  replace M := Lib.hid (M.out.step hb)
  clear hb
  obtain ⟨L, hL⟩ : ∃ L, L = asI (kidsR a i) := ⟨_, rfl⟩
  have hLl : L.length ≤ 1000000 := by
    rw [hL, asI_len]
    exact Nat.le_trans (kidsR_le a i) (by omega)
  have HL := Lib.hid hL
  clear hL
  go_wp2_with fail
  refine (pKids_all A ca a i _ M.out.p.1.1 (by omega) HRA.out).mono ?_
  rw [← HL.out]
  rintro e w7 ⟨A7, cap7, rfl, h7, hb⟩
  replace M := Lib.hid ((M.out.step hb).add (Q := fun v => ReadI v v.heap.size A7 L) h7 (keep_read _ _ _ _))
  clear hb h7
  go_wp2_with fail
  refine (rKids_all A ca a i _ M.out.p.1.1.1 (by omega) HRA.out).mono ?_
  rw [← HL.out]
  rintro e w8 ⟨A8, cap8, rfl, h8, hb⟩
  replace M := Lib.hid ((M.out.step hb).add (Q := fun v => ReadI v v.heap.size A8 L) h8 (keep_read _ _ _ _))
  clear hb h8
  go_wp2_with fail
  refine (ints_any A7 A8 cap7 cap8 _ _ L L _ M.out.p.1.2 M.out.p.2 (by omega)).mono ?_
  rintro e w9 ⟨rfl, n9, rfl⟩
  rw [show decide (L = L) = true from decide_eq_true rfl]
  replace M := Lib.hid ((M.out.drewN n9).drop (Q := fun v => (TyA v v.heap.size A a ∧ Tab v v.heap.size) ∧ OwnN v w1.heap.size A2 cap2 a) (fun v h => h.1.1) (((keep_ty A a).and keep_tab).and (keep_own _ _ _ _ _ _ _)))
  go_wp2_with fail
  refine (alive_any _ M.out.p.1.2).mono ?_
  rintro e w10 ⟨rfl, hb⟩
  replace M := Lib.hid (M.out.step hb)
  clear hb
  obtain ⟨P, hP⟩ : ∃ P, P = partR a i := ⟨_, rfl⟩
  have hPl : P.length ≤ 1000000 := by
    rw [hP]
    exact Nat.le_trans (partR_le a i) (by omega)
  have HP := Lib.hid hP
  clear hP
  go_wp2_with fail
  refine (pPart_all A ca a i _ M.out.p.1.1 (by omega) hca HRA.out).mono ?_
  rw [← HP.out]
  rintro e w11 ⟨A11, cap11, rfl, h11, hb⟩
  replace M := Lib.hid ((M.out.step hb).add (Q := fun v => TyA v v.heap.size A11 P) h11 (keep_ty _ _))
  clear hb h11
  go_wp2_with fail
  refine (rPart_all A ca a i _ M.out.p.1.1.1 (by omega) hca HRA.out).mono ?_
  rw [← HP.out]
  rintro e w12 ⟨A12, cap12, rfl, h12, hb⟩
  replace M := Lib.hid ((M.out.step hb).add (Q := fun v => TyA v v.heap.size A12 P) h12 (keep_ty _ _))
  clear hb h12
  go_wp2_with fail
  refine (one_any A11 A12 cap11 cap12 _ _ P P _ M.out.p.1.2 M.out.p.2 (by omega)).mono ?_
  rintro e w13 ⟨rfl, n13, rfl⟩
  rw [show decide (P = P) = true from decide_eq_true rfl]
  replace M := Lib.hid (M.out.drewN n13)
  go_wp2_with fail
  refine (one_any A A2 ca cap2 _ _ a a _ M.out.p.1.1.1.1 (OwnL.tyA M.out.p.1.1.2) la).mono ?_
  rintro e w14 ⟨rfl, n14, rfl⟩
  rw [show decide (a = a) = true from decide_eq_true rfl]
  replace M := Lib.hid (M.out.drewN n14)
  go_wp2_with fail
  go_ret
  exact ⟨rfl, by have := M.out.ext; rwa [World.drewN_drewN] at this⟩
end Go.Proofs.YtblfeokjlecgkaaDoor
