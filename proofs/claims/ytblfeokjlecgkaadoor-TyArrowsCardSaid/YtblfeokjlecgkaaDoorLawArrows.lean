/- TyArrows's law, walked. -/
import Derived.Test.YtblfeokjlecgkaaDoorAsk
import Derived.Test.YtblfeokjlecgkaaDoorTyNone
import Derived.Test.YtblfeokjlecgkaaDoorRRight
namespace Go.Proofs.YtblfeokjlecgkaaDoor
open Go.RowKit

/-- The two ways in which a function's type may begin. -/
def leftS (sa : ByteArray) (k : Int) : ByteArray := if k = 5 then (⟨#[40]⟩ : ByteArray) ++ sa ++ ⟨#[41]⟩ else sa

theorem bytes_eq {x y : List UInt8} (h : x = y) : (⟨x.toArray⟩ : ByteArray) = ⟨y.toArray⟩ := by rw [h]

/-- A function's type, of two: what is known of it. -/
structure ArrT (a b T : List Nd) : Prop where
  eq : arrowN a b = T
  right : rightB T = true
  rRight : rRightB T = true
  tree : treeP T 100 0 = some T.length
  print : prS 100 T = (if (headNd a).k = 5 then 40 :: (prS 100 a ++ [41]) else prS 100 a) ++ ([32, 45, 62, 32] ++ prS 100 b)
  ok : ∀ z ∈ T, z.Ok
  sz : ∀ z ∈ T, z.s.size ≤ 9223372036854775807
  len : T.length = 1 + a.length + b.length
  part1 : partR T (1 : Int) = a
  part2 : partR T ((1 + a.length : Nat) : Int) = b
  kids : asI (kidsR T (0 : Int)) = [1, ((1 + a.length : Nat) : Int)]
  stat : staticB T = (staticB a && staticB b)
  plain : plainB T = (plainB a && plainB b)

theorem arrT_of {a b : List Nd} (ia : IsT a) (ib : IsT b) (h60a : a.length ≤ 60) (h60b : b.length ≤ 60) (oa : ∀ x ∈ a, x.Ok) (ob : ∀ x ∈ b, x.Ok) : ArrT a b (arrowN a b) := by
  have ho : ∀ z ∈ arrowN a b, z.Ok := fun z hz => by
    rcases List.mem_cons.1 hz with h | h
    · rw [h]; exact ⟨by decide, by decide, by decide, by decide, by decide⟩
    · exact (List.mem_append.1 h).elim (oa z) (ob z)
  have hd1 : (arrowN a b).drop 1 = a ++ b := rfl
  have hd2 : (arrowN a b).drop (1 + a.length) = b ++ [] := by rw [← List.drop_drop, hd1]; simp
  have hr := arrow_right ia ib h60a h60b
  refine ⟨rfl, hr, by rw [right_eq]; exact hr, arrow_tree ia ib h60a h60b, arrow_print ia ib h60a h60b, ho, fun z hz => (ho z hz).s1, arrow_len, ?_, ?_, ?_, arrow_static, arrow_plain⟩
  · have := partR_in hd1 ia.ok ia.fo
    rw [ia.bare] at this
    exact this
  · have := partR_in hd2 ib.ok ib.fo
    rw [ib.bare] at this
    exact this
  · have := kidsR_node (T := arrowN a b) (i := 0) (x := ⟨5, ByteArray.empty, 0⟩) rfl
    rw [Int.natCast_zero] at this
    rw [this, show manyN (⟨5, ByteArray.empty, 0⟩ : Nd) = 2 from rfl, Nat.zero_add, arrow_kids ia ib]
    rfl

theorem ArrT.short {a b T : List Nd} (h : ArrT a b T) (ha : (prS 100 a).length ≤ 46400) (hb : (prS 100 b).length ≤ 46400) : (prS 100 T).length ≤ 100000 := by
  have h1 := congrArg List.length h.print
  generalize (prS 100 T).length = n at *
  rw [h1]
  generalize prS 100 a = pa at *
  generalize prS 100 b = pb at *
  split <;> simp <;> omega

set_option maxRecDepth 100000 in
set_option maxHeartbeats 8000000 in
theorem tyArrows_law (A B : Option Addr) (ca cb : Nat) (a b : List Nd) (w : World) (ta : TyA w w.heap.size A a) (tb : TyA w w.heap.size B b) (_ : a.length ≤ ca) (_ : b.length ≤ cb) (la : a.length ≤ 9223372036854775807) (lb : b.length ≤ 9223372036854775807) (oa : ∀ x ∈ a, x.Ok) (ob : ∀ x ∈ b, x.Ok) (ht : Tab w w.heap.size) :
    Calls Tryd.prog 9 #[.slice A a.length ca, .slice B b.length cb] w fun e w' => e = .returned (.bool true) ∧ Below w.heap.size w w' := by
  have Hoa := Lib.hid oa
  have Hob := Lib.hid ob
  have Hsa := Lib.hid fun x hx => (oa x hx).s1
  have Hsb := Lib.hid fun x hx => (ob x hx).s1
  have M := Lib.hid (Mem.start (P := fun v => (TyA v v.heap.size A a ∧ TyA v v.heap.size B b) ∧ Tab v v.heap.size) ⟨⟨ta, tb⟩, ht⟩ (((keep_ty A a).and (keep_ty B b)).and keep_tab))
  clear oa ob ta tb ht
  go_enter Tryd.func9, Tryd.ntmps9
  go_wp2_with fail
  refine (named_any A ca _ a _ M.out.p.1.1 la).mono ?_
  rintro e w' ⟨rfl, rfl⟩
  cases hna : namedB a
  · go_wp2_with fail
    refine (alive_any _ M.out.p.2).mono ?_
    rintro e w9 ⟨rfl, hb⟩
    replace M := Lib.hid (M.out.step hb)
    clear hb
    go_wp2_with fail
    go_ret
    exact ⟨rfl, M.out.ext⟩
  have HNA := Lib.hid hna
  clear hna
  go_wp2_with fail
  refine (named_any B cb _ b _ M.out.p.1.2 lb).mono ?_
  rintro e w' ⟨rfl, rfl⟩
  cases hnb : namedB b
  · go_wp2_with fail
    refine (alive_any _ M.out.p.2).mono ?_
    rintro e w9 ⟨rfl, hb⟩
    replace M := Lib.hid (M.out.step hb)
    clear hb
    go_wp2_with fail
    go_ret
    exact ⟨rfl, M.out.ext⟩
  have HNB := Lib.hid hnb
  clear hnb
  rcases Nat.lt_or_ge 60 a.length with h60a | h60a
  · go_wp2_with fail
    refine (alive_any _ M.out.p.2).mono ?_
    rintro e w9 ⟨rfl, hb⟩
    replace M := Lib.hid (M.out.step hb)
    clear hb
    go_wp2_with fail
    go_ret
    exact ⟨rfl, M.out.ext⟩
  rcases Nat.lt_or_ge 60 b.length with h60b | h60b
  · go_wp2_with fail
    refine (alive_any _ M.out.p.2).mono ?_
    rintro e w9 ⟨rfl, hb⟩
    replace M := Lib.hid (M.out.step hb)
    clear hb
    go_wp2_with fail
    go_ret
    exact ⟨rfl, M.out.ext⟩
  go_wp2_with fail
  refine (rRight_any A ca a _ M.out.p.1.1 la Hsa.out).mono ?_
  rintro e w1 ⟨rfl, hb⟩
  replace M := Lib.hid (M.out.step hb)
  clear hb
  cases hra : rRightB a
  · go_wp2_with fail
    refine (alive_any _ M.out.p.2).mono ?_
    rintro e w9 ⟨rfl, hb⟩
    replace M := Lib.hid (M.out.step hb)
    clear hb
    go_wp2_with fail
    go_ret
    exact ⟨rfl, M.out.ext⟩
  have HRA := Lib.hid hra
  clear hra
  go_wp2_with fail
  refine (rRight_any B cb b _ M.out.p.1.2 lb Hsb.out).mono ?_
  rintro e w2 ⟨rfl, hb⟩
  replace M := Lib.hid (M.out.step hb)
  clear hb
  cases hrb : rRightB b
  · go_wp2_with fail
    refine (alive_any _ M.out.p.2).mono ?_
    rintro e w9 ⟨rfl, hb⟩
    replace M := Lib.hid (M.out.step hb)
    clear hb
    go_wp2_with fail
    go_ret
    exact ⟨rfl, M.out.ext⟩
  have HRB := Lib.hid hrb
  clear hrb
  obtain ⟨ia, la2, _, sa, hsa, hsas⟩ := text_of HRA.out HNA.out Hoa.out
  obtain ⟨ib, lb2, _, sb, hsb, hsbs⟩ := text_of HRB.out HNB.out Hob.out
  have hpa0 : (prS 100 a).length ≤ 46400 := by rw [hsa] at hsas; simpa [ByteArray.size] using hsas
  have hpb0 : (prS 100 b).length ≤ 46400 := by rw [hsb] at hsbs; simpa [ByteArray.size] using hsbs
  have Hia := Lib.hid ia
  have Hib := Lib.hid ib
  obtain ⟨x, xs, hxa, hxs, hx9⟩ := ia.root
  have Hx0 : Hid (a[0]? = some x) := Lib.hid (by rw [hxa]; rfl)
  have Hhead : Hid (headNd a = x) := Lib.hid (by rw [hxa]; rfl)
  obtain ⟨T, hT⟩ : ∃ T, ArrT a b T := ⟨_, arrT_of ia ib h60a h60b Hoa.out Hob.out⟩
  have HL := hT.len
  have HPl := hT.short hpa0 hpb0
  have HR := Lib.hid hT.right
  have HP := Lib.hid hT.print
  have HT := Lib.hid hT.tree
  have HoT := Lib.hid hT.ok
  have HsT := Lib.hid hT.sz
  have HRR := Lib.hid hT.rRight
  have HP1 := Lib.hid hT.part1
  have HP2 := Lib.hid hT.part2
  have Hkk := Lib.hid hT.kids
  have Hst := Lib.hid hT.stat
  have Hpl := Lib.hid hT.plain
  have HTe := Lib.hid hT.eq
  have hTb : ((T.length : Int) != (a.length : Int) + (b.length : Int) + 1) = false := by rw [bne_eq_false_iff_eq]; omega
  have hTl : T.length ≤ 121 := by omega
  have HLh := Lib.hid HL
  have Hsa2 := Lib.hid hsa
  have Hsb2 := Lib.hid hsb
  clear hsa hsb ia ib hxa hxs hx9 hT HL
  go_wp2_with fail
  refine (pArrow_any A B ca cb a b _ M.out.p.1.1 M.out.p.1.2 (by omega)).mono ?_
  rintro e w3 ⟨A3, cap3, rfl, hown3, hb⟩
  rw [HTe.out] at hown3 ⊢
  have hcap : T.length ≤ cap3 := OwnL.le_cap hown3
  replace M := Lib.hid ((M.out.step hb).add (Q := fun v => TyA v v.heap.size A3 T) (OwnL.tyA hown3) (keep_ty _ _))
  clear hb hown3
  go_wp2_with fail
  refine (right_any A3 cap3 T _ M.out.p.2 (by omega) HsT.out).mono ?_
  rintro e w4 ⟨rfl, hb⟩
  rw [HR.out]
  replace M := Lib.hid (M.out.step hb)
  clear hb
  go_wp2_with fail
  refine (print_any a.length _ ca A a _ Hia.out.tree M.out.p.1.1.1 (Nat.le_refl _) (by omega) Hoa.out (by omega) M.out.p.1.2).mono ?_
  rintro e w5 ⟨rfl, hb⟩
  rw [← Hsa2.out]
  replace M := Lib.hid (M.out.step hb)
  clear hb
  obtain ⟨b1, o1, rfl, hb1, c10, c11, c12⟩ := TyA.at_ M.out.p.1.1.1 Hx0.out
  simp only [Nat.zero_mul, Nat.add_zero] at c10 c11 c12
  have ha0 := getq_lt Hx0.out
  cases h5 : (x.k == 5)
  · have heq : Hid ((⟨(prS 100 T).toArray⟩ : ByteArray) = sa ++ ⟨#[32, 45, 62, 32]⟩ ++ sb) := Lib.hid (by
      rw [HP.out, Hhead.out, if_neg (by simpa using h5), Hsa2.out, Hsb2.out]
      refine bytes_join ?_
      simp [ByteArray.data_append])
    go_wp2_with fail
    clear c10 c11 c12 hb1
    have hk := pKids_all A3 cap3 T 0 _ M.out.p.2 (by omega) HRR.out
    rw [Hkk.out] at hk
    refine hk.mono ?_
    rintro e w6 ⟨A6, cap6, rfl, h6, hb⟩
    clear hk
    replace M := Lib.hid ((M.out.step hb).add (Q := fun v => ReadI v v.heap.size A6 [1, ((1 + a.length : Nat) : Int)]) h6 (keep_read _ _ _ _))
    clear hb
    obtain ⟨kb, ko, rfl, hkb, hk0⟩ := ReadL.int h6 (i := 0) rfl
    obtain ⟨_, _, hke, _, hk1⟩ := ReadL.int h6 (i := 1) rfl
    simp only [Option.some.injEq, Addr.mk.injEq, and_true] at hke
    obtain ⟨rfl, rfl⟩ := hke
    rw [Nat.add_zero] at hk0
    have hl2 : ([1, ((1 + a.length : Nat) : Int)] : List Int).length = 2 := rfl
    rw [hl2]
    clear hl2 h6
    go_wp2_with fail
    have hp := pPart_all A3 cap3 T 1 _ M.out.p.1.2 (by omega) hcap HRR.out
    rw [HP1.out] at hp
    refine hp.mono ?_
    rintro e w7 ⟨A7, cap7, rfl, h7, hb⟩
    clear hp hk0 hk1 hkb
    replace M := Lib.hid ((M.out.step hb).add (Q := fun v => TyA v v.heap.size A7 a) h7 (keep_ty _ _))
    clear hb h7
    go_wp2_with fail
    refine (one_any A7 _ cap7 ca _ _ a a _ M.out.p.2 M.out.p.1.1.1.1.1 la).mono ?_
    rintro e w8 ⟨rfl, m8, rfl⟩
    rw [show decide (a = a) = true from decide_eq_true rfl]
    replace M := Lib.hid ((M.out.drewN m8).drop (Q := fun v => (((TyA v v.heap.size (some ⟨b1, o1, none⟩) a ∧ TyA v v.heap.size B b) ∧ Tab v v.heap.size) ∧ TyA v v.heap.size A3 T) ∧ ReadI v v.heap.size (some ⟨kb, ko, none⟩) [1, ((1 + a.length : Nat) : Int)]) (fun v h => h.1) (((((keep_ty _ _).and (keep_ty _ _)).and keep_tab).and (keep_ty _ _)).and (keep_read _ _ _ _)))
    obtain ⟨_, _, hke, hkb, hk1⟩ := ReadL.int M.out.p.2 (i := 1) rfl
    simp only [Option.some.injEq, Addr.mk.injEq, and_true] at hke
    obtain ⟨rfl, rfl⟩ := hke
    go_wp2_with fail
    have hp := pPart_all A3 cap3 T ((1 + a.length : Nat) : Int) _ M.out.p.1.2 (by omega) hcap HRR.out
    rw [HP2.out] at hp
    refine hp.mono ?_
    rintro e w9 ⟨A9, cap9, rfl, h9, hb⟩
    clear hp hk1 hkb
    replace M := Lib.hid ((M.out.step hb).add (Q := fun v => TyA v v.heap.size A9 b) h9 (keep_ty _ _))
    clear hb h9
    go_wp2_with fail
    refine (one_any A9 B cap9 cb _ _ b b _ M.out.p.2 M.out.p.1.1.1.1.2 lb).mono ?_
    rintro e w10 ⟨rfl, m10, rfl⟩
    rw [show decide (b = b) = true from decide_eq_true rfl]
    replace M := Lib.hid ((M.out.drewN m10).drop (Q := fun v => ((TyA v v.heap.size (some ⟨b1, o1, none⟩) a ∧ TyA v v.heap.size B b) ∧ Tab v v.heap.size) ∧ TyA v v.heap.size A3 T) (fun v h => h.1.1) ((((keep_ty _ _).and (keep_ty _ _)).and keep_tab).and (keep_ty _ _)))
    go_wp2_with fail
    refine (alive_any _ M.out.p.1.2).mono ?_
    rintro e w11 ⟨rfl, hb⟩
    replace M := Lib.hid (M.out.step hb)
    clear hb
    go_wp2_with fail
    refine (print_any T.length _ cap3 A3 T _ HT.out M.out.p.2 (Nat.le_refl _) (by omega) HoT.out (by omega) M.out.p.1.2).mono ?_
    rintro e w12 ⟨rfl, hb⟩
    rw [heq.out]
    replace M := Lib.hid (M.out.step hb)
    clear hb
    go_wp2_with fail
    refine (print_any b.length _ cb B b _ Hib.out.tree M.out.p.1.1.2 (Nat.le_refl _) (by omega) Hob.out (by omega) M.out.p.1.2).mono ?_
    rintro e w13 ⟨rfl, hb⟩
    rw [← Hsb2.out]
    replace M := Lib.hid (M.out.step hb)
    clear hb
    go_wp2_with fail
    refine (static_any A3 cap3 T _ M.out.p.2 (by omega)).mono ?_
    rintro e w14 ⟨rfl, hb⟩
    rw [Hst.out]
    replace M := Lib.hid (M.out.step hb)
    clear hb
    go_wp2_with fail
    refine (static_any _ ca a _ M.out.p.1.1.1 la).mono ?_
    rintro e w15 ⟨rfl, hb⟩
    replace M := Lib.hid (M.out.step hb)
    clear hb
    cases hsa1 : staticB a
    · have Hsa1 := Lib.hid hsa1
      clear hsa1
      go_wp2_with fail
      refine (plain_any A3 cap3 T _ M.out.p.2 (by omega)).mono ?_
      rintro e w17 ⟨rfl, hb⟩
      rw [Hpl.out]
      replace M := Lib.hid (M.out.step hb)
      clear hb
      go_wp2_with fail
      refine (plain_any _ ca a _ M.out.p.1.1.1 la).mono ?_
      rintro e w18 ⟨rfl, hb⟩
      replace M := Lib.hid (M.out.step hb)
      clear hb
      cases hpa1 : plainB a
      · go_wp2_with fail
        go_ret
        exact ⟨ret_bool (by simp), M.out.ext⟩
      · go_wp2_with fail
        refine (plain_any B cb b _ M.out.p.1.1.2 lb).mono ?_
        rintro e w19 ⟨rfl, hb⟩
        replace M := Lib.hid (M.out.step hb)
        clear hb
        go_wp2_with fail
        go_ret
        exact ⟨ret_bool (by simp), M.out.ext⟩
    · have Hsa1 := Lib.hid hsa1
      clear hsa1
      go_wp2_with fail
      refine (static_any B cb b _ M.out.p.1.1.2 lb).mono ?_
      rintro e w16 ⟨rfl, hb⟩
      replace M := Lib.hid (M.out.step hb)
      clear hb
      go_wp2_with fail
      refine (plain_any A3 cap3 T _ M.out.p.2 (by omega)).mono ?_
      rintro e w17 ⟨rfl, hb⟩
      rw [Hpl.out]
      replace M := Lib.hid (M.out.step hb)
      clear hb
      go_wp2_with fail
      refine (plain_any _ ca a _ M.out.p.1.1.1 la).mono ?_
      rintro e w18 ⟨rfl, hb⟩
      replace M := Lib.hid (M.out.step hb)
      clear hb
      cases hpa1 : plainB a
      · go_wp2_with fail
        go_ret
        exact ⟨ret_bool (by simp), M.out.ext⟩
      · go_wp2_with fail
        refine (plain_any B cb b _ M.out.p.1.1.2 lb).mono ?_
        rintro e w19 ⟨rfl, hb⟩
        replace M := Lib.hid (M.out.step hb)
        clear hb
        go_wp2_with fail
        go_ret
        exact ⟨ret_bool (by simp), M.out.ext⟩
  · have heq : Hid ((⟨(prS 100 T).toArray⟩ : ByteArray) = (⟨#[40]⟩ : ByteArray) ++ sa ++ ⟨#[41]⟩ ++ ⟨#[32, 45, 62, 32]⟩ ++ sb) := Lib.hid (by
      rw [HP.out, Hhead.out, if_pos (by simpa using h5), Hsa2.out, Hsb2.out]
      refine bytes_join ?_
      simp [ByteArray.data_append])
    go_wp2_with fail
    clear c10 c11 c12 hb1
    have hk := pKids_all A3 cap3 T 0 _ M.out.p.2 (by omega) HRR.out
    rw [Hkk.out] at hk
    refine hk.mono ?_
    rintro e w6 ⟨A6, cap6, rfl, h6, hb⟩
    clear hk
    replace M := Lib.hid ((M.out.step hb).add (Q := fun v => ReadI v v.heap.size A6 [1, ((1 + a.length : Nat) : Int)]) h6 (keep_read _ _ _ _))
    clear hb
    obtain ⟨kb, ko, rfl, hkb, hk0⟩ := ReadL.int h6 (i := 0) rfl
    obtain ⟨_, _, hke, _, hk1⟩ := ReadL.int h6 (i := 1) rfl
    simp only [Option.some.injEq, Addr.mk.injEq, and_true] at hke
    obtain ⟨rfl, rfl⟩ := hke
    rw [Nat.add_zero] at hk0
    have hl2 : ([1, ((1 + a.length : Nat) : Int)] : List Int).length = 2 := rfl
    rw [hl2]
    clear hl2 h6
    go_wp2_with fail
    have hp := pPart_all A3 cap3 T 1 _ M.out.p.1.2 (by omega) hcap HRR.out
    rw [HP1.out] at hp
    refine hp.mono ?_
    rintro e w7 ⟨A7, cap7, rfl, h7, hb⟩
    clear hp hk0 hk1 hkb
    replace M := Lib.hid ((M.out.step hb).add (Q := fun v => TyA v v.heap.size A7 a) h7 (keep_ty _ _))
    clear hb h7
    go_wp2_with fail
    refine (one_any A7 _ cap7 ca _ _ a a _ M.out.p.2 M.out.p.1.1.1.1.1 la).mono ?_
    rintro e w8 ⟨rfl, m8, rfl⟩
    rw [show decide (a = a) = true from decide_eq_true rfl]
    replace M := Lib.hid ((M.out.drewN m8).drop (Q := fun v => (((TyA v v.heap.size (some ⟨b1, o1, none⟩) a ∧ TyA v v.heap.size B b) ∧ Tab v v.heap.size) ∧ TyA v v.heap.size A3 T) ∧ ReadI v v.heap.size (some ⟨kb, ko, none⟩) [1, ((1 + a.length : Nat) : Int)]) (fun v h => h.1) (((((keep_ty _ _).and (keep_ty _ _)).and keep_tab).and (keep_ty _ _)).and (keep_read _ _ _ _)))
    obtain ⟨_, _, hke, hkb, hk1⟩ := ReadL.int M.out.p.2 (i := 1) rfl
    simp only [Option.some.injEq, Addr.mk.injEq, and_true] at hke
    obtain ⟨rfl, rfl⟩ := hke
    go_wp2_with fail
    have hp := pPart_all A3 cap3 T ((1 + a.length : Nat) : Int) _ M.out.p.1.2 (by omega) hcap HRR.out
    rw [HP2.out] at hp
    refine hp.mono ?_
    rintro e w9 ⟨A9, cap9, rfl, h9, hb⟩
    clear hp hk1 hkb
    replace M := Lib.hid ((M.out.step hb).add (Q := fun v => TyA v v.heap.size A9 b) h9 (keep_ty _ _))
    clear hb h9
    go_wp2_with fail
    refine (one_any A9 B cap9 cb _ _ b b _ M.out.p.2 M.out.p.1.1.1.1.2 lb).mono ?_
    rintro e w10 ⟨rfl, m10, rfl⟩
    rw [show decide (b = b) = true from decide_eq_true rfl]
    replace M := Lib.hid ((M.out.drewN m10).drop (Q := fun v => ((TyA v v.heap.size (some ⟨b1, o1, none⟩) a ∧ TyA v v.heap.size B b) ∧ Tab v v.heap.size) ∧ TyA v v.heap.size A3 T) (fun v h => h.1.1) ((((keep_ty _ _).and (keep_ty _ _)).and keep_tab).and (keep_ty _ _)))
    go_wp2_with fail
    refine (alive_any _ M.out.p.1.2).mono ?_
    rintro e w11 ⟨rfl, hb⟩
    replace M := Lib.hid (M.out.step hb)
    clear hb
    go_wp2_with fail
    refine (print_any T.length _ cap3 A3 T _ HT.out M.out.p.2 (Nat.le_refl _) (by omega) HoT.out (by omega) M.out.p.1.2).mono ?_
    rintro e w12 ⟨rfl, hb⟩
    rw [heq.out]
    replace M := Lib.hid (M.out.step hb)
    clear hb
    go_wp2_with fail
    refine (print_any b.length _ cb B b _ Hib.out.tree M.out.p.1.1.2 (Nat.le_refl _) (by omega) Hob.out (by omega) M.out.p.1.2).mono ?_
    rintro e w13 ⟨rfl, hb⟩
    rw [← Hsb2.out]
    replace M := Lib.hid (M.out.step hb)
    clear hb
    go_wp2_with fail
    refine (static_any A3 cap3 T _ M.out.p.2 (by omega)).mono ?_
    rintro e w14 ⟨rfl, hb⟩
    rw [Hst.out]
    replace M := Lib.hid (M.out.step hb)
    clear hb
    go_wp2_with fail
    refine (static_any _ ca a _ M.out.p.1.1.1 la).mono ?_
    rintro e w15 ⟨rfl, hb⟩
    replace M := Lib.hid (M.out.step hb)
    clear hb
    cases hsa1 : staticB a
    · have Hsa1 := Lib.hid hsa1
      clear hsa1
      go_wp2_with fail
      refine (plain_any A3 cap3 T _ M.out.p.2 (by omega)).mono ?_
      rintro e w17 ⟨rfl, hb⟩
      rw [Hpl.out]
      replace M := Lib.hid (M.out.step hb)
      clear hb
      go_wp2_with fail
      refine (plain_any _ ca a _ M.out.p.1.1.1 la).mono ?_
      rintro e w18 ⟨rfl, hb⟩
      replace M := Lib.hid (M.out.step hb)
      clear hb
      cases hpa1 : plainB a
      · go_wp2_with fail
        go_ret
        exact ⟨ret_bool (by simp), M.out.ext⟩
      · go_wp2_with fail
        refine (plain_any B cb b _ M.out.p.1.1.2 lb).mono ?_
        rintro e w19 ⟨rfl, hb⟩
        replace M := Lib.hid (M.out.step hb)
        clear hb
        go_wp2_with fail
        go_ret
        exact ⟨ret_bool (by simp), M.out.ext⟩
    · have Hsa1 := Lib.hid hsa1
      clear hsa1
      go_wp2_with fail
      refine (static_any B cb b _ M.out.p.1.1.2 lb).mono ?_
      rintro e w16 ⟨rfl, hb⟩
      replace M := Lib.hid (M.out.step hb)
      clear hb
      go_wp2_with fail
      refine (plain_any A3 cap3 T _ M.out.p.2 (by omega)).mono ?_
      rintro e w17 ⟨rfl, hb⟩
      rw [Hpl.out]
      replace M := Lib.hid (M.out.step hb)
      clear hb
      go_wp2_with fail
      refine (plain_any _ ca a _ M.out.p.1.1.1 la).mono ?_
      rintro e w18 ⟨rfl, hb⟩
      replace M := Lib.hid (M.out.step hb)
      clear hb
      cases hpa1 : plainB a
      · go_wp2_with fail
        go_ret
        exact ⟨ret_bool (by simp), M.out.ext⟩
      · go_wp2_with fail
        refine (plain_any B cb b _ M.out.p.1.1.2 lb).mono ?_
        rintro e w19 ⟨rfl, hb⟩
        replace M := Lib.hid (M.out.step hb)
        clear hb
        go_wp2_with fail
        go_ret
        exact ⟨ret_bool (by simp), M.out.ext⟩
end Go.Proofs.YtblfeokjlecgkaaDoor
