/- The document's look at the labels of a node's children. -/
import Derived.Test.YtblfeokjlecgkaaShallowW
namespace Go.Proofs.Ytblfeokjlecgkaa
open Go.RowKit

/-- Whether child k of a node, y, is labelled right behind the child prev. -/
def labK (x y prev : Nd) (k n : Nat) : Bool :=
  if y.k = 9 then isRowB x.k && decide (k + 1 = n) && decide (y.s.size = 0)
  else labelB x.k y.s && !(isRowB x.k && decide (0 < k) && !Op.bytesLess prev.s.toList y.s.toList)

def ndAt (xs : List Nd) (l : List Nat) (k : Nat) : Nd := (xs[(l[k]?).getD 0]?).getD default

def labFrom (xs : List Nd) (x : Nd) (l : List Nat) : Nat → Nat → Bool
  | 0, _ => true
  | d + 1, k => labK x (ndAt xs l k) (ndAt xs l (k - 1)) k l.length && labFrom xs x l d (k + 1)

/-- Whether the labels of the children of the node at a place are right, and they are all there. -/
def labelledB (xs : List Nd) (i : Nat) : Bool :=
  match xs[i]? with
  | none => false
  | some x => decide (((kidsR xs i).length : Int) = many x.k x.n) && labFrom xs x (kidsR xs i) (kidsR xs i).length 0

theorem kidsGo_lt {xs : List Nd} : ∀ (d at_ : Nat), ∀ j ∈ kidsGo xs d at_, j < xs.length := by
  intro d
  induction d with
  | zero => intro at_ j h; simp [kidsGo] at h
  | succ d ih =>
    intro at_ j h
    simp only [kidsGo] at h
    split at h
    · rcases List.mem_cons.1 h with rfl | h
      · assumption
      · exact ih _ j h
    · simp at h

theorem kidsR_lt {xs : List Nd} {i : Int} : ∀ j ∈ kidsR xs i, j < xs.length := by
  intro j h
  unfold kidsR at h
  split at h
  · simp at h
  · split at h
    · simp at h
    · exact kidsGo_lt _ _ j h

theorem kidsGo_len {xs : List Nd} : ∀ (d at_ : Nat), (kidsGo xs d at_).length ≤ d := by
  intro d
  induction d with
  | zero => intro at_; simp [kidsGo]
  | succ d ih =>
    intro at_
    simp only [kidsGo]
    split
    · have := ih (endGo (xs.drop at_) 1 at_)
      simp
      omega
    · simp

theorem row_or {a b : Bool} (h : (a || b) = true) : a = false → b = true := by cases a <;> simp_all

theorem asI_get {l : List Nat} {k j : Nat} (h : l[k]? = some j) : (asI l)[k]? = some (j : Int) := by
  unfold asI
  rw [List.getElem?_map, h]
  rfl

theorem asI_len (l : List Nat) : (asI l).length = l.length := by simp [asI]

set_option maxRecDepth 100000 in
set_option maxHeartbeats 4000000 in
theorem labelled_any (A : Option Addr) (c : Nat) (xs : List Nd) (i : Nat) (w : World) (ha : TyA w w.heap.size A xs) (hl : xs.length ≤ 1000000) (hok : okAll xs) (hi : i < xs.length) (hs : ∀ x ∈ xs, x.s.size ≤ 9223372036854775807) :
    Calls Try.prog 64 #[.slice A xs.length c, .int .i64 i] w fun e w' => e = .returned (.bool (labelledB xs i)) ∧ Below w.heap.size w w' := by
  have Hok := Lib.hid hok
  have Hs := Lib.hid hs
  clear hok hs
  obtain ⟨x, hx⟩ := getq_ex hi
  obtain ⟨M, hM, hM50, _⟩ := many_nat (Hok.out x (mem_of_getq hx))
  have hfin : Hid (labelledB xs i = (decide (((kidsR xs i).length : Int) = (M : Int)) && labFrom xs x (kidsR xs i) (kidsR xs i).length 0)) := Lib.hid (by unfold labelledB; rw [hx]; simp [hM])
  have HM := Lib.hid hM
  have Hx := Lib.hid hx
  clear hx hM
  go_enter Try.func64, Try.ntmps64
  go_wp2_with fail
  refine (rKids_any A c xs i w ha hl Hok.out).mono ?_
  rintro e w1 ⟨A', cap', rfl, hown, hbel⟩
  have hlt := Lib.hid (kidsR_lt (xs := xs) (i := i))
  have hklen := Lib.hid (show (kidsR xs i).length ≤ 50 by
    unfold kidsR
    rw [if_neg (by omega)]
    simp only [Int.toNat_natCast, Hx.out, HM.out]
    exact Nat.le_trans (kidsGo_len _ _) hM50)
  rw [asI_len]
  generalize hks : kidsR xs i = l at *
  have hread := OwnL.read encI_len hown
  have ha1 := (ha.below hbel).more hbel.size
  have hll : l.length ≤ 50 := hklen.out
  clear hks hown
  obtain ⟨b1, o1, rfl, hb1, c10, c11, c12⟩ := ha1.at_ Hx.out
  go_wp2_with fail
  refine (rmany_any _ _ _ _).mono ?_
  rintro e w2 ⟨rfl, hb2⟩
  rw [HM.out]
  have hbel2 := ext_trans hbel hb2
  have ha2 := (ha1.below hb2).more hb2.size
  have hread2 := (ReadL.below hread hb2).more hb2.size
  clear c10 c11 c12 hread ha1 hb2 hb1
  clear hbel
  clear w1
  by_cases hlM : l.length = M
  · have hlMb : ((l.length : Int) != (M : Int)) = false := by simp [hlM]
    have HlM := Lib.hid hlM
    clear hlM
    go_wp2_with fail
    go_loopw [6] (fun k6 wr => ∃ k : Nat, k6 = .int .i64 k ∧ k ≤ l.length ∧ Below w2.heap.size w2 wr ∧ Hid (labFrom xs x l (l.length - k) k = labFrom xs x l l.length 0))
      (fun k6 _ => l.length - (intOf k6).toNat)
    case atStart => exact ⟨0, rfl, Nat.zero_le _, Below.refl _ _, Lib.hid rfl⟩
    case round =>
      obtain ⟨k, rfl, hk, hbr, hgood⟩ := hrel
      rw [show decide ((l.length : Int) = (M : Int)) = true by simp [HlM.out], Bool.true_and] at hfin
      by_cases hp : k < l.length
      · obtain ⟨j, hj⟩ := getq_ex hp
        have hjl := hlt.out j (mem_of_getq hj)
        obtain ⟨y, hy⟩ := getq_ex hjl
        have hys := Lib.hid (Hs.out y (mem_of_getq hy))
        have hstep : Hid (labFrom xs x l (l.length - k) k = (labK x y (ndAt xs l (k - 1)) k l.length && labFrom xs x l (l.length - (k + 1)) (k + 1))) := Lib.hid (by
          rw [show l.length - k = (l.length - (k + 1)) + 1 by omega]
          simp [labFrom, ndAt, hj, hy])
        generalize hpv : ndAt xs l (k - 1) = p at hstep
        have hre := (ReadL.below hread2 hbr).more hbr.size
        have hae := (ha2.below hbr).more hbr.size
        obtain ⟨bl, ol, rfl, hbl, cl⟩ := ReadL.int hre (asI_get hj)
        obtain ⟨bt, ot, hte, hbt, cx0, cx1, cx2⟩ := hae.at_ Hx.out
        simp only [Option.some.injEq, Addr.mk.injEq, and_true] at hte
        obtain ⟨rfl, rfl⟩ := hte
        obtain ⟨_, _, hte, _, cy0, cy1, cy2⟩ := hae.at_ hy
        simp only [Option.some.injEq, Addr.mk.injEq, and_true] at hte
        obtain ⟨rfl, rfl⟩ := hte
        have s1 : bl < wr.heap.size + 1 := by omega
        have s2 : b1 < wr.heap.size + 1 := by omega
        have Hj := Lib.hid hj
        have Hy := Lib.hid hy
        have Hpv := Lib.hid hpv
        clear hj hy hpv
        by_cases h9 : y.k = 9
        · have h9b : (y.k == 9) = true := by simpa using h9
          have H9 := Lib.hid h9
          clear h9
          by_cases hrow : isRowB x.k = true
          · have hr67 : (x.k == 6 || x.k == 7) = true := hrow
            have Hrow := Lib.hid hrow
            by_cases hla : k + 1 = l.length
            · have hlab : ((k : Int) == (l.length : Int) - 1) = true := by simp; omega
              have Hla := Lib.hid hla
              cases he : y.s.toList.isEmpty
              · have He := Lib.hid he
                clear hla hrow
                cases h6b : (x.k == 6)
                all_goals
                  have h7b := Lib.hid (row_or hr67)
                  first | (have h7c := h7b.out h6b; clear h7b) | clear h7b
                  go_wp2_with fail
                  go_ret
                  exact ⟨ret_bool (by rw [hfin.out, ← hgood.out, hstep.out, (show labK x y p k l.length = false by unfold labK; rw [if_pos H9.out, ← isEmpty_size, He.out, Bool.and_false]), Bool.false_and]), ext_trans hbel2 (by repeat (first | exact hbr | refine ext_alloc ?_ _ | refine ext_drewN ?_ _ | refine Below.drew ?_))⟩
              · have He := Lib.hid he
                clear hla hrow
                cases h6b : (x.k == 6)
                all_goals
                  have h7b := Lib.hid (row_or hr67)
                  first | (have h7c := h7b.out h6b; clear h7b) | clear h7b
                  go_wp2_with fail
                  go_roundw
                  case rel => exact ⟨k + 1, by go_num, hp, (by repeat (first | exact hbr | refine ext_alloc ?_ _ | refine ext_drewN ?_ _ | refine Below.drew ?_)), Lib.hid (by rw [← hgood.out, hstep.out, (show labK x y p k l.length = true by unfold labK; rw [if_pos H9.out, ← isEmpty_size, He.out, Hrow.out, decide_eq_true Hla.out]; rfl), Bool.true_and])⟩
                  case measure => simp [intOf]; omega
            · have hlab : ((k : Int) == (l.length : Int) - 1) = false := by rw [beq_eq_false_iff_ne]; omega
              have Hla := Lib.hid hla
              clear hla hrow
              cases h6b : (x.k == 6)
              all_goals
                have h7b := Lib.hid (row_or hr67)
                first | (have h7c := h7b.out h6b; clear h7b) | clear h7b
                go_wp2_with fail
                go_ret
                exact ⟨ret_bool (by rw [hfin.out, ← hgood.out, hstep.out, (show labK x y p k l.length = false by unfold labK; rw [if_pos H9.out, decide_eq_false Hla.out]; simp), Bool.false_and]), ext_trans hbel2 (by repeat (first | exact hbr | refine ext_alloc ?_ _ | refine ext_drewN ?_ _ | refine Below.drew ?_))⟩
          · have Hrow := Lib.hid (show isRowB x.k = false by simpa using hrow)
            have h6b : (x.k == 6) = false := by have := Hrow.out; simp [isRowB] at this; simpa using this.1
            have h7b : (x.k == 7) = false := by have := Hrow.out; simp [isRowB] at this; simpa using this.2
            clear hrow
            go_wp2_with fail
            go_ret
            exact ⟨ret_bool (by rw [hfin.out, ← hgood.out, hstep.out, (show labK x y p k l.length = false by unfold labK; rw [if_pos H9.out, Hrow.out]; rfl), Bool.false_and]), ext_trans hbel2 (by repeat (first | exact hbr | refine ext_alloc ?_ _ | refine ext_drewN ?_ _ | refine Below.drew ?_))⟩
        · have h9b : (y.k == 9) = false := by simpa using h9
          have H9 := Lib.hid h9
          clear h9
          by_cases hk0 : 0 < k
          · have hk0i : (0 : Int) < (k : Int) := by omega
            have Hk0 := Lib.hid hk0
            obtain ⟨jp, hjp⟩ := getq_ex (show k - 1 < l.length by omega)
            have hjpl := hlt.out jp (mem_of_getq hjp)
            obtain ⟨q, hq⟩ := getq_ex hjpl
            have hpq : q = p := by have := Hpv.out; simp [ndAt, hjp, hq] at this; exact this
            subst hpq
            obtain ⟨_, _, hte, _, clp⟩ := ReadL.int hre (asI_get hjp)
            simp only [Option.some.injEq, Addr.mk.injEq, and_true] at hte
            obtain ⟨rfl, rfl⟩ := hte
            obtain ⟨_, _, hte, _, cp0, cp1, cp2⟩ := hae.at_ hq
            simp only [Option.some.injEq, Addr.mk.injEq, and_true] at hte
            obtain ⟨rfl, rfl⟩ := hte
            have hkp : k - 1 < l.length := by omega
            clear hjp hq
            by_cases h6 : x.k = 6
            · have h6b : (x.k == 6) = true := by simpa using h6
              have h7b : (x.k == 7) = false := by simp [h6]
              have Hr : Hid (isRowB x.k = true) := Lib.hid (by simp [isRowB, h6])
              cases hw : wordB y.s
              · have Hw := Lib.hid hw
                have Hl : Hid (labelB x.k y.s = false) := Lib.hid (by unfold labelB; rw [if_pos h6, hw])
                clear h6 hw
                go_wp2_with (go_at_call 108; refine (rIsWord_any _ _ hys.out).mono ?_; rintro e w3 ⟨rfl, rfl⟩; rw [Hw.out])
                go_ret
                exact ⟨ret_bool (by rw [hfin.out, ← hgood.out, hstep.out, (show labK x y q k l.length = false by unfold labK; rw [if_neg H9.out, Hl.out]; rfl), Bool.false_and]), ext_trans hbel2 (by repeat (first | exact hbr | refine ext_alloc ?_ _ | refine ext_drewN ?_ _ | refine Below.drew ?_))⟩
              · have Hw := Lib.hid hw
                have Hl : Hid (labelB x.k y.s = true) := Lib.hid (by unfold labelB; rw [if_pos h6, hw])
                clear h6 hw
                cases hlt : Op.bytesLess q.s.toList y.s.toList
                · have Hlt := Lib.hid hlt
                  go_wp2_with (go_at_call 108; refine (rIsWord_any _ _ hys.out).mono ?_; rintro e w3 ⟨rfl, rfl⟩; rw [Hw.out])
                  go_quiet (fail)
                  go_wp2_with fail
                  go_ret
                  exact ⟨ret_bool (by rw [hfin.out, ← hgood.out, hstep.out, (show labK x y q k l.length = false by unfold labK; rw [if_neg H9.out, Hl.out, Hr.out, Hlt.out]; simp [Hk0.out]), Bool.false_and]), ext_trans hbel2 (by repeat (first | exact hbr | refine ext_alloc ?_ _ | refine ext_drewN ?_ _ | refine Below.drew ?_))⟩
                · have Hlt := Lib.hid hlt
                  go_wp2_with (go_at_call 108; refine (rIsWord_any _ _ hys.out).mono ?_; rintro e w3 ⟨rfl, rfl⟩; rw [Hw.out])
                  go_quiet (fail)
                  go_wp2_with fail
                  go_roundw
                  case rel => exact ⟨k + 1, by go_num, hp, (by repeat (first | exact hbr | refine ext_alloc ?_ _ | refine ext_drewN ?_ _ | refine Below.drew ?_)), Lib.hid (by rw [← hgood.out, hstep.out, (show labK x y q k l.length = true by unfold labK; rw [if_neg H9.out, Hl.out, Hlt.out]; simp), Bool.true_and])⟩
                  case measure => simp [intOf]; omega
            · have h6b : (x.k == 6) = false := by simpa using h6
              by_cases h7 : x.k = 7
              · have h7b : (x.k == 7) = true := by simpa using h7
                have Hr : Hid (isRowB x.k = true) := Lib.hid (by simp [isRowB, h7])
                cases hw : tagB y.s
                · have Hw := Lib.hid hw
                  have Hl : Hid (labelB x.k y.s = false) := Lib.hid (by unfold labelB; rw [if_neg h6, if_pos h7, hw])
                  clear h6 h7 hw
                  go_wp2_with (go_at_call 109; refine (rIsTag_any _ _ hys.out).mono ?_; rintro e w3 ⟨rfl, rfl⟩; rw [Hw.out])
                  go_ret
                  exact ⟨ret_bool (by rw [hfin.out, ← hgood.out, hstep.out, (show labK x y q k l.length = false by unfold labK; rw [if_neg H9.out, Hl.out]; rfl), Bool.false_and]), ext_trans hbel2 (by repeat (first | exact hbr | refine ext_alloc ?_ _ | refine ext_drewN ?_ _ | refine Below.drew ?_))⟩
                · have Hw := Lib.hid hw
                  have Hl : Hid (labelB x.k y.s = true) := Lib.hid (by unfold labelB; rw [if_neg h6, if_pos h7, hw])
                  clear h6 h7 hw
                  cases hlt : Op.bytesLess q.s.toList y.s.toList
                  · have Hlt := Lib.hid hlt
                    go_wp2_with (go_at_call 109; refine (rIsTag_any _ _ hys.out).mono ?_; rintro e w3 ⟨rfl, rfl⟩; rw [Hw.out])
                    go_quiet (fail)
                    go_wp2_with fail
                    go_ret
                    exact ⟨ret_bool (by rw [hfin.out, ← hgood.out, hstep.out, (show labK x y q k l.length = false by unfold labK; rw [if_neg H9.out, Hl.out, Hr.out, Hlt.out]; simp [Hk0.out]), Bool.false_and]), ext_trans hbel2 (by repeat (first | exact hbr | refine ext_alloc ?_ _ | refine ext_drewN ?_ _ | refine Below.drew ?_))⟩
                  · have Hlt := Lib.hid hlt
                    go_wp2_with (go_at_call 109; refine (rIsTag_any _ _ hys.out).mono ?_; rintro e w3 ⟨rfl, rfl⟩; rw [Hw.out])
                    go_quiet (fail)
                    go_wp2_with fail
                    go_roundw
                    case rel => exact ⟨k + 1, by go_num, hp, (by repeat (first | exact hbr | refine ext_alloc ?_ _ | refine ext_drewN ?_ _ | refine Below.drew ?_)), Lib.hid (by rw [← hgood.out, hstep.out, (show labK x y q k l.length = true by unfold labK; rw [if_neg H9.out, Hl.out, Hlt.out]; simp), Bool.true_and])⟩
                    case measure => simp [intOf]; omega
              · have h7b : (x.k == 7) = false := by simpa using h7
                have Hr : Hid (isRowB x.k = false) := Lib.hid (by simp [isRowB, h6, h7])
                cases he : y.s.toList.isEmpty
                · have Hl : Hid (labelB x.k y.s = false) := Lib.hid (by unfold labelB; rw [if_neg h6, if_neg h7, ← isEmpty_size, he])
                  clear h6 h7
                  go_wp2_with fail
                  go_ret
                  exact ⟨ret_bool (by rw [hfin.out, ← hgood.out, hstep.out, (show labK x y q k l.length = false by unfold labK; rw [if_neg H9.out, Hl.out]; rfl), Bool.false_and]), ext_trans hbel2 (by repeat (first | exact hbr | refine ext_alloc ?_ _ | refine ext_drewN ?_ _ | refine Below.drew ?_))⟩
                · have Hl : Hid (labelB x.k y.s = true) := Lib.hid (by unfold labelB; rw [if_neg h6, if_neg h7, ← isEmpty_size, he])
                  clear h6 h7
                  go_wp2_with fail
                  go_quiet (fail)
                  go_wp2_with fail
                  go_roundw
                  case rel => exact ⟨k + 1, by go_num, hp, (by repeat (first | exact hbr | refine ext_alloc ?_ _ | refine ext_drewN ?_ _ | refine Below.drew ?_)), Lib.hid (by rw [← hgood.out, hstep.out, (show labK x y q k l.length = true by unfold labK; rw [if_neg H9.out, Hl.out, Hr.out]; rfl), Bool.true_and])⟩
                  case measure => simp [intOf]; omega
          · have hk0i : ¬ (0 : Int) < (k : Int) := by omega
            have Hk0 := Lib.hid (decide_eq_false hk0)
            by_cases h6 : x.k = 6
            · have h6b : (x.k == 6) = true := by simpa using h6
              have h7b : (x.k == 7) = false := by simp [h6]
              have Hr : Hid (isRowB x.k = true) := Lib.hid (by simp [isRowB, h6])
              cases hw : wordB y.s
              · have Hw := Lib.hid hw
                have Hl : Hid (labelB x.k y.s = false) := Lib.hid (by unfold labelB; rw [if_pos h6, hw])
                clear h6 hw
                go_wp2_with (go_at_call 108; refine (rIsWord_any _ _ hys.out).mono ?_; rintro e w3 ⟨rfl, rfl⟩; rw [Hw.out])
                go_ret
                exact ⟨ret_bool (by rw [hfin.out, ← hgood.out, hstep.out, (show labK x y p k l.length = false by unfold labK; rw [if_neg H9.out, Hl.out]; rfl), Bool.false_and]), ext_trans hbel2 (by repeat (first | exact hbr | refine ext_alloc ?_ _ | refine ext_drewN ?_ _ | refine Below.drew ?_))⟩
              · have Hw := Lib.hid hw
                have Hl : Hid (labelB x.k y.s = true) := Lib.hid (by unfold labelB; rw [if_pos h6, hw])
                clear h6 hw
                go_wp2_with (go_at_call 108; refine (rIsWord_any _ _ hys.out).mono ?_; rintro e w3 ⟨rfl, rfl⟩; rw [Hw.out])
                go_quiet (fail)
                go_wp2_with fail
                go_roundw
                case rel => exact ⟨k + 1, by go_num, hp, (by repeat (first | exact hbr | refine ext_alloc ?_ _ | refine ext_drewN ?_ _ | refine Below.drew ?_)), Lib.hid (by rw [← hgood.out, hstep.out, (show labK x y p k l.length = true by unfold labK; rw [if_neg H9.out, Hl.out, Hk0.out]; simp), Bool.true_and])⟩
                case measure => simp [intOf]; omega
            · have h6b : (x.k == 6) = false := by simpa using h6
              by_cases h7 : x.k = 7
              · have h7b : (x.k == 7) = true := by simpa using h7
                have Hr : Hid (isRowB x.k = true) := Lib.hid (by simp [isRowB, h7])
                cases hw : tagB y.s
                · have Hw := Lib.hid hw
                  have Hl : Hid (labelB x.k y.s = false) := Lib.hid (by unfold labelB; rw [if_neg h6, if_pos h7, hw])
                  clear h6 h7 hw
                  go_wp2_with (go_at_call 109; refine (rIsTag_any _ _ hys.out).mono ?_; rintro e w3 ⟨rfl, rfl⟩; rw [Hw.out])
                  go_ret
                  exact ⟨ret_bool (by rw [hfin.out, ← hgood.out, hstep.out, (show labK x y p k l.length = false by unfold labK; rw [if_neg H9.out, Hl.out]; rfl), Bool.false_and]), ext_trans hbel2 (by repeat (first | exact hbr | refine ext_alloc ?_ _ | refine ext_drewN ?_ _ | refine Below.drew ?_))⟩
                · have Hw := Lib.hid hw
                  have Hl : Hid (labelB x.k y.s = true) := Lib.hid (by unfold labelB; rw [if_neg h6, if_pos h7, hw])
                  clear h6 h7 hw
                  go_wp2_with (go_at_call 109; refine (rIsTag_any _ _ hys.out).mono ?_; rintro e w3 ⟨rfl, rfl⟩; rw [Hw.out])
                  go_quiet (fail)
                  go_wp2_with fail
                  go_roundw
                  case rel => exact ⟨k + 1, by go_num, hp, (by repeat (first | exact hbr | refine ext_alloc ?_ _ | refine ext_drewN ?_ _ | refine Below.drew ?_)), Lib.hid (by rw [← hgood.out, hstep.out, (show labK x y p k l.length = true by unfold labK; rw [if_neg H9.out, Hl.out, Hk0.out]; simp), Bool.true_and])⟩
                  case measure => simp [intOf]; omega
              · have h7b : (x.k == 7) = false := by simpa using h7
                have Hr : Hid (isRowB x.k = false) := Lib.hid (by simp [isRowB, h6, h7])
                cases he : y.s.toList.isEmpty
                · have Hl : Hid (labelB x.k y.s = false) := Lib.hid (by unfold labelB; rw [if_neg h6, if_neg h7, ← isEmpty_size, he])
                  clear h6 h7
                  go_wp2_with fail
                  go_ret
                  exact ⟨ret_bool (by rw [hfin.out, ← hgood.out, hstep.out, (show labK x y p k l.length = false by unfold labK; rw [if_neg H9.out, Hl.out]; rfl), Bool.false_and]), ext_trans hbel2 (by repeat (first | exact hbr | refine ext_alloc ?_ _ | refine ext_drewN ?_ _ | refine Below.drew ?_))⟩
                · have Hl : Hid (labelB x.k y.s = true) := Lib.hid (by unfold labelB; rw [if_neg h6, if_neg h7, ← isEmpty_size, he])
                  clear h6 h7
                  go_wp2_with fail
                  go_quiet (fail)
                  go_wp2_with fail
                  go_roundw
                  case rel => exact ⟨k + 1, by go_num, hp, (by repeat (first | exact hbr | refine ext_alloc ?_ _ | refine ext_drewN ?_ _ | refine Below.drew ?_)), Lib.hid (by rw [← hgood.out, hstep.out, (show labK x y p k l.length = true by unfold labK; rw [if_neg H9.out, Hl.out, Hr.out]; rfl), Bool.true_and])⟩
                  case measure => simp [intOf]; omega
      · have hz := Lib.hid (show labFrom xs x l (l.length - k) k = true by rw [show l.length - k = 0 by omega]; rfl)
        go_wp2_with fail
        go_ret
        exact ⟨ret_bool (by rw [hfin.out, ← hgood.out, hz.out]), ext_trans hbel2 hbr⟩
  · have hlMb : ((l.length : Int) != (M : Int)) = true := by simp; omega
    have HlM := Lib.hid hlM
    clear hlM
    go_wp2_with fail
    go_ret
    exact ⟨ret_bool (by rw [hfin.out, decide_eq_false (by have := HlM.out; omega)]; rfl), hbel2⟩
end Go.Proofs.Ytblfeokjlecgkaa
