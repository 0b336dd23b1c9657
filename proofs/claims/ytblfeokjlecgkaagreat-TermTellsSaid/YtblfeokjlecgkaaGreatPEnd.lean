/- The program's End, walked. -/
import Derived.Test.YtblfeokjlecgkaaGreatPrint
namespace Go.Proofs.YtblfeokjlecgkaaGreat
open Go.RowKit

theorem manyN_le {x : Nd} (h : okNode x.k x.n = true) : manyN x ≤ 50 := by
  have h1 := many_bound h
  have h2 := manyN_ok h
  omega

set_option maxRecDepth 100000 in
set_option maxHeartbeats 1000000 in
theorem pEnd_none (A : Option Addr) (c n : Nat) (i : Int) (w : World) (h : i < 0 ∨ (n : Int) ≤ i) :
    Calls Tryz.prog 42 #[.slice A n c, .int .i64 i] w fun e w' => e = .returned (.int .i64 (-1)) ∧ w = w' := by
  by_cases h0 : i < 0
  · clear h
    go_enter Tryz.func42, Tryz.ntmps42
    go_wp2_with fail
    go_ret
    exact ⟨rfl, rfl⟩
  · have h1 : (n : Int) ≤ i := by omega
    clear h
    go_enter Tryz.func42, Tryz.ntmps42
    go_wp2_with fail
    go_ret
    exact ⟨rfl, rfl⟩

set_option maxRecDepth 100000 in
set_option maxHeartbeats 1000000 in
theorem pEnd_any (A : Option Addr) (c : Nat) (T ts rest : List Nd) (i : Nat) (w : World) (ha : TyA w w.heap.size A T) (hl : T.length ≤ 1000000) (hd : T.drop i = ts ++ rest) (hok : okAll ts) (hf : Fo 1 ts) :
    Calls Tryz.prog 42 #[.slice A T.length c, .int .i64 (i : Int)] w fun e w' => e = .returned (.int .i64 ((i + ts.length : Nat) : Int)) ∧ Below w.heap.size w w' := by
  have hi : i < T.length := drop_lt hd hf.pos
  have Hd := Lib.hid hd
  have Hok := Lib.hid hok
  have Hf := Lib.hid hf
  clear hd hok hf
  have h0' : (0 : Int) ≤ (i : Int) := by omega
  have h1' : (i : Int) < (T.length : Int) := by omega
  have hd0 : decide ((i : Int) < 0) = false := by simp
  have hd1 : decide (T.length ≤ i) = false := by simp; omega
  go_enter Tryz.func42, Tryz.ntmps42
  go_wp2_with fail
  go_loopw [1, 5] (fun i1 o5 wr => ∃ (p n : Nat) (ps : List Nd), i1 = .int .i64 p ∧ o5 = .int .i64 n ∧ Hid (T.drop p = ps ++ rest ∧ okAll ps ∧ Fo n ps) ∧ p + ps.length = i + ts.length ∧ i ≤ p ∧ p ≤ T.length ∧ n ≤ 1 + 50 * (p - i) ∧ Below w.heap.size w wr)
    (fun i1 _ _ => T.length - (intOf i1).toNat)
  case atStart => exact ⟨i, 1, ts, rfl, rfl, Lib.hid ⟨Hd.out, Hok.out, Hf.out⟩, rfl, Nat.le_refl _, by omega, by omega, Below.refl _ _⟩
  case round =>
    obtain ⟨p, n, ps, rfl, rfl, hgood, hsum, hip, hpl, hnb, hbel⟩ := hrel
    cases n with
    | zero =>
      have hps := hgood.out.2.2.of_zero
      subst hps
      simp at hsum
      subst hsum
      go_wp2_with fail
      go_ret
      exact ⟨rfl, hbel⟩
    | succ n =>
      obtain ⟨x, ys, rfl⟩ : ∃ x ys, ps = x :: ys := by
        cases ps with
        | nil => exact absurd hgood.out.2.2.nil_of (by omega)
        | cons x ys => exact ⟨x, ys, rfl⟩
      obtain ⟨g1, g2, g3⟩ := hgood.out
      have hx := getq_of_drop (rest := ys ++ rest) g1
      have hpl2 := getq_lt hx
      have hm := (manyP_ok (g2 x (by simp))).trans (manyN_ok (g2 x (by simp)))
      have hm50 := manyN_le (g2 x (by simp))
      have hgood2 := Lib.hid (show T.drop (p + 1) = ys ++ rest ∧ okAll ys ∧ Fo (n + manyN x) ys from ⟨by rw [← List.drop_drop, g1]; rfl, fun z hz => g2 z (by simp [hz]), g3⟩)
      have Hm := Lib.hid hm
      obtain ⟨b1, o1, rfl, hb1, c10, c11, c12⟩ := ((ha.below hbel).more hbel.size).at_ hx
      simp only [List.length_cons] at hsum
      clear hx g1 g2 g3 hgood hm
      generalize hM : manyN x = M at *
      clear hM
      go_wp2_with (go_at_call 56; refine (many_any _ _ _ _).mono ?_; rintro e w1 ⟨rfl, hbx⟩; rw [Hm.out])
      go_roundw
      case rel => exact ⟨p + 1, n + M, ys, by go_num, by go_num, hgood2, by omega, by omega, by omega, by omega, ext_trans hbel hbx⟩
      case measure => simp [intOf]; omega
end Go.Proofs.YtblfeokjlecgkaaGreat
