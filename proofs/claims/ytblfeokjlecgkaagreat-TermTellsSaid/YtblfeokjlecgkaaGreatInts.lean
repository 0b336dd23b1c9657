/- The document's Ints: are rows of numbers the same. -/
import Derived.Test.YtblfeokjlecgkaaGreatKidsR
namespace Go.Proofs.YtblfeokjlecgkaaGreat
open Go.RowKit

theorem dropI_eq_succ {xs ys : List Int} {k : Nat} {x y : Int} (hx : xs[k]? = some x) (hy : ys[k]? = some y) :
    decide (xs.drop k = ys.drop k) = (x == y && decide (xs.drop (k + 1) = ys.drop (k + 1))) := by
  rw [drop_cons hx, drop_cons hy, Bool.eq_iff_iff]
  simp

set_option maxHeartbeats 1000000 in
theorem ints_any (A B : Option Addr) (c d Ba Bb : Nat) (xs ys : List Int) (w : World) (ha : ReadI w Ba A xs) (hb : ReadI w Bb B ys)
    (hl : xs.length ≤ 9223372036854775807) :
    Calls Tryz.prog 8 #[.slice A xs.length c, .slice B ys.length d] w fun e w' => e = .returned (.bool (decide (xs = ys))) ∧ ∃ n, w' = w.drewN n := by
  by_cases hlen : xs.length = ys.length
  · rw [← hlen]
    have Hlen := Lib.hid hlen
    clear hlen
    go_enter Tryz.func8, Tryz.ntmps8
    go_wp2_with fail
    go_loopw [5] (fun i w' => ∃ k n : Nat, k ≤ xs.length ∧ i = .int .i64 k ∧ w' = w.drewN n ∧ Hid (decide (xs.drop k = ys.drop k) = decide (xs = ys))) (fun i _ => xs.length - (intOf i).toNat)
    case atStart => exact ⟨0, 0, Nat.zero_le _, rfl, rfl, Lib.hid rfl⟩
    case round =>
      obtain ⟨k, n, hk, rfl, rfl, hgood⟩ := hrel
      by_cases hp : k < xs.length
      · obtain ⟨x, hx⟩ := getq_ex hp
        obtain ⟨y, hy⟩ := getq_ex (show k < ys.length by rw [← Hlen.out]; exact hp)
        have hstep := Lib.hid (dropI_eq_succ hx hy)
        obtain ⟨b1, o1, rfl, hb1, c10⟩ := ReadL.int ha hx
        obtain ⟨b2, o2, rfl, hb2, c20⟩ := ReadL.int hb hy
        have Hx := Lib.hid hx
        have Hy := Lib.hid hy
        clear hx hy
        cases he : (x == y)
        all_goals
          have He := Lib.hid he
          first
            | (have hne : (x != y) = true := by simp [bne, he])
            | (have hne : (x != y) = false := by simp [bne, he])
          clear he
          go_wp2_with fail
          go_quiet (fail)
          go_wp2_with fail
        · go_ret
          exact ⟨ret_bool (by rw [← hgood.out, hstep.out, He.out]; rfl), _, World.drewN_drewN ..⟩
        · go_roundw
          case rel => exact ⟨k + 1, _, hp, by go_num, rfl, Lib.hid (by rw [← hgood.out, hstep.out, He.out, Bool.true_and])⟩
          case measure => simp [intOf]; omega
      · have hfin := Lib.hid (show decide (xs.drop k = ys.drop k) = true by
          have := Hlen.out
          rw [List.drop_of_length_le (by omega), List.drop_of_length_le (by omega)]
          simp)
        go_wp2_with fail
        go_ret
        exact ⟨ret_bool (by rw [← hgood.out, hfin.out]), _, rfl⟩
  · have hle : ((xs.length : Int) != (ys.length : Int)) = true := by simp; omega
    have hfin := Lib.hid (show decide (xs = ys) = false by simp; rintro rfl; exact hlen rfl)
    clear hlen
    go_enter Tryz.func8, Tryz.ntmps8
    go_wp2_with fail
    go_ret
    exact ⟨ret_bool (by rw [hfin.out]), 0, rfl⟩
end Go.Proofs.YtblfeokjlecgkaaGreat
