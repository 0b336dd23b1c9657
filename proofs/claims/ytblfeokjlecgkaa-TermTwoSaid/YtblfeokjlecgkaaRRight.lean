/- The document's Right, walked. -/
import Derived.Test.YtblfeokjlecgkaaLabelled
namespace Go.Proofs.Ytblfeokjlecgkaa
open Go.RowKit

def okB (x : Nd) : Bool := okNode x.k x.n

def labAll (xs : List Nd) : Nat → Nat → Bool
  | 0, _ => true
  | d + 1, i => labelledB xs i && labAll xs d (i + 1)

/-- The document's answer: whether nodes are a type. -/
def rRightB (xs : List Nd) : Bool :=
  decide (xs.length ≤ 10000) && rootOk xs && xs.all okB && decide (endR xs 0 = (xs.length : Int)) && shallowGo xs [] && labAll xs xs.length 0

set_option maxRecDepth 100000 in
set_option maxHeartbeats 4000000 in
theorem rRight_any (A : Option Addr) (c : Nat) (xs : List Nd) (w : World) (ha : TyA w w.heap.size A xs) (hl : xs.length ≤ 9223372036854775807) (hs : ∀ x ∈ xs, x.s.size ≤ 9223372036854775807) :
    Calls Try.prog 28 #[.slice A xs.length c] w fun e w' => e = .returned (.bool (rRightB xs)) ∧ Below w.heap.size w w' := by
  match hxs0 : xs with
  | [] =>
    go_enter Try.func28, Try.ntmps28
    go_wp2_with fail
    go_ret
    exact ⟨rfl, Below.refl _ _⟩
  | x :: xs' =>
    obtain ⟨b1, o1, rfl, hb1, c10, c11, c12⟩ := ha.at_ (i := 0) (x := x) rfl
    have hlen : (x :: xs').length = xs'.length + 1 := rfl
    simp only [Nat.zero_mul, Nat.add_zero] at c10 c11 c12
    have hn0 : (((x :: xs').length : Int) == 0) = false := by rw [beq_eq_false_iff_ne]; rw [hlen]; omega
    clear hxs0
    generalize hxs : x :: xs' = xs at *
    have Hxs := Lib.hid hxs
    have hpos : 0 < xs.length := by omega
    clear hxs hlen
    have Hs := Lib.hid hs
    clear hs
    by_cases h10 : xs.length ≤ 10000
    · have h10' : ¬ (10000 : Int) < (xs.length : Int) := by omega
      cases he : x.s.toList.isEmpty
      · have hroot : Hid (rootOk xs = false) := Lib.hid (by rw [← Hxs.out]; simp only [rootOk]; rw [← isEmpty_size, he]; rfl)
        go_enter Try.func28, Try.ntmps28
        go_wp2_with fail
        go_ret
        exact ⟨ret_bool (by simp [rRightB, hroot.out]), Below.refl _ _⟩
      · cases h9 : (x.k == 9)
        · have hroot : Hid (rootOk xs = true) := Lib.hid (by rw [← Hxs.out]; simp only [rootOk]; rw [← isEmpty_size, he, h9]; rfl)
          go_enter Try.func28, Try.ntmps28
          go_wp2_with fail
          go_loopw [3] (fun k3 wr => ∃ k : Nat, k3 = .int .i64 k ∧ k ≤ xs.length ∧ Below w.heap.size w wr ∧ Hid (allFrom okB xs k = xs.all okB)) (fun k3 _ => xs.length - (intOf k3).toNat)
          case atStart => exact ⟨0, rfl, Nat.zero_le _, Below.refl _ _, Lib.hid rfl⟩
          case round =>
            obtain ⟨k, rfl, hk, hbr, hgood⟩ := hrel
            by_cases hp : k < xs.length
            · obtain ⟨y, hy⟩ := getq_ex hp
              have hstep := Lib.hid (allFrom_step (p := okB) hy)
              obtain ⟨b2, o2, hte, hb2, c20, c21, c22⟩ := ((ha.below hbr).more hbr.size).at_ hy
              simp only [Option.some.injEq, Addr.mk.injEq, and_true] at hte
              obtain ⟨rfl, rfl⟩ := hte
              clear hy c10 c11 c12
              cases hok : okNode y.k y.n
              · have Hok := Lib.hid hok
                go_wp2_with (go_at_call 61; refine (numbered_any _ _ _ _).mono ?_; rintro e w1 ⟨rfl, hbx⟩; rw [Hok.out])
                go_ret
                exact ⟨ret_bool (by unfold rRightB; rw [← hgood.out, hstep.out, show okB y = false from Hok.out]; simp), ext_trans hbr hbx⟩
              · have Hok := Lib.hid hok
                go_wp2_with (go_at_call 61; refine (numbered_any _ _ _ _).mono ?_; rintro e w1 ⟨rfl, hbx⟩; rw [Hok.out])
                go_roundw
                case rel => exact ⟨k + 1, by go_num, hp, ext_trans hbr hbx, Lib.hid (by rw [← hgood.out, hstep.out, show okB y = true from Hok.out, Bool.true_and])⟩
                case measure => simp [intOf]; omega
            · have hall : Hid (xs.all okB = true) := Lib.hid (by rw [← hgood.out, allFrom_end hp])
              have hokA : okAll xs := fun x hx => List.all_eq_true.1 hall.out x hx
              have HokA := Lib.hid hokA
              have har := (ha.below hbr).more hbr.size
              clear hokA c10 c11 c12
              obtain ⟨wo, rfl⟩ : ∃ wo : World, wo = wr := ⟨_, rfl⟩
              by_cases hend : endR xs 0 = (xs.length : Int)
              · have Hend := Lib.hid hend
                clear hend
                cases hsh : shallowGo xs []
                · have Hsh := Lib.hid hsh
                  clear hsh
                  go_wp2_with fail
                  refine (rEnd_any _ c xs 0 _ har (by omega) HokA.out).mono ?_
                  rintro e w1 ⟨rfl, hb1'⟩
                  rw [Hend.out]
                  have har1 := (har.below hb1').more hb1'.size
                  go_wp2_with fail
                  refine (shallow_any _ c xs _ har1 (by omega) HokA.out).mono ?_
                  rintro e w2 ⟨rfl, hb2'⟩
                  rw [Hsh.out]
                  go_wp2_with fail
                  go_ret
                  exact ⟨ret_bool (by unfold rRightB; rw [Hsh.out]; simp), ext_trans (ext_trans hbr hb1') hb2'⟩
                · have Hsh := Lib.hid hsh
                  clear hsh
                  go_wp2_with fail
                  refine (rEnd_any _ c xs 0 _ har (by omega) HokA.out).mono ?_
                  rintro e w1 ⟨rfl, hb1'⟩
                  rw [Hend.out]
                  have har1 := (har.below hb1').more hb1'.size
                  go_wp2_with fail
                  refine (shallow_any _ c xs _ har1 (by omega) HokA.out).mono ?_
                  rintro e w2 ⟨rfl, hb2'⟩
                  rw [Hsh.out]
                  have hbr2 := ext_trans (ext_trans hbr hb1') hb2'
                  clear hb1' hb2' har1 har
                  go_wp2_with fail
                  go_loopw [4] (fun k4 wi => ∃ j : Nat, k4 = .int .i64 j ∧ j ≤ xs.length ∧ Below w.heap.size w wi ∧ Hid (labAll xs (xs.length - j) j = labAll xs xs.length 0)) (fun k4 _ => xs.length - (intOf k4).toNat)
                  case atStart => exact ⟨0, rfl, Nat.zero_le _, hbr2, Lib.hid rfl⟩
                  case round =>
                    obtain ⟨j, rfl, hj, hbi, hgood2⟩ := hrel
                    by_cases hpj : j < xs.length
                    · have hstep2 : Hid (labAll xs (xs.length - j) j = (labelledB xs j && labAll xs (xs.length - (j + 1)) (j + 1))) := Lib.hid (by rw [show xs.length - j = (xs.length - (j + 1)) + 1 by omega]; rfl)
                      have hai := (ha.below hbi).more hbi.size
                      cases hlb : labelledB xs j
                      · have Hlb := Lib.hid hlb
                        clear hlb
                        go_wp2_with (go_at_call 64; refine (labelled_any _ c xs j _ hai (by omega) HokA.out hpj Hs.out).mono ?_; rintro e w5 ⟨rfl, hbx⟩; rw [Hlb.out])
                        go_ret
                        exact ⟨ret_bool (by unfold rRightB; rw [← hgood2.out, hstep2.out, Hlb.out]; simp), ext_trans hbi hbx⟩
                      · have Hlb := Lib.hid hlb
                        clear hlb
                        go_wp2_with (go_at_call 64; refine (labelled_any _ c xs j _ hai (by omega) HokA.out hpj Hs.out).mono ?_; rintro e w5 ⟨rfl, hbx⟩; rw [Hlb.out])
                        go_roundw
                        case rel => exact ⟨j + 1, by go_num, hpj, ext_trans hbi hbx, Lib.hid (by rw [← hgood2.out, hstep2.out, Hlb.out, Bool.true_and])⟩
                        case measure => simp [intOf]; omega
                    · have hz : Hid (labAll xs xs.length 0 = true) := Lib.hid (by rw [← hgood2.out, show xs.length - j = 0 by omega]; rfl)
                      go_wp2_with fail
                      go_ret
                      exact ⟨ret_bool (by unfold rRightB; rw [hz.out, Hsh.out, Hend.out, hall.out, hroot.out, decide_eq_true h10]; simp), hbi⟩
              · have hendb : (endR xs 0 != (xs.length : Int)) = true := by simpa using hend
                have Hend := Lib.hid hend
                clear hend
                go_wp2_with (go_at_call 62; refine (rEnd_any _ c xs 0 _ har (by omega) HokA.out).mono ?_; rintro e w1 ⟨rfl, hb1'⟩)
                go_ret
                exact ⟨ret_bool (by unfold rRightB; rw [decide_eq_false Hend.out]; simp), ext_trans hbr hb1'⟩
        · have hroot : Hid (rootOk xs = false) := Lib.hid (by rw [← Hxs.out]; simp only [rootOk]; rw [h9]; simp)
          go_enter Try.func28, Try.ntmps28
          go_wp2_with fail
          go_ret
          exact ⟨ret_bool (by simp [rRightB, hroot.out]), Below.refl _ _⟩
    · have h10' : (10000 : Int) < (xs.length : Int) := by omega
      go_enter Try.func28, Try.ntmps28
      go_wp2_with fail
      go_ret
      exact ⟨ret_bool (by simp [rRightB, h10]), Below.refl _ _⟩
end Go.Proofs.Ytblfeokjlecgkaa
