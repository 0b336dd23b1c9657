/- The document's End: pure and walked. -/
import Derived.Test.YtblfeokjlecgkaaOwnS
namespace Go.Proofs.Ytblfeokjlecgkaa
open Go.RowKit

/-- As many trees as are open are gone over: where that ends. -/
def endGo : List Nd → Int → Nat → Nat
  | [], _, p => p
  | x :: xs, op, p => if op - 1 + many x.k x.n = 0 then p + 1 else endGo xs (op - 1 + many x.k x.n) (p + 1)

/-- Where the node at a place ends. -/
def endR (xs : List Nd) (i : Int) : Int := if i < 0 ∨ (xs.length : Int) ≤ i then -1 else (endGo (xs.drop i.toNat) 1 i.toNat : Nat)

def okAll (xs : List Nd) : Prop := ∀ x ∈ xs, okNode x.k x.n = true

theorem mem_of_getq {α : Type} {l : List α} {i : Nat} {x : α} (h : l[i]? = some x) : x ∈ l := List.mem_of_getElem? h

theorem many_bound {k n : Int} (h : okNode k n = true) : 0 ≤ many k n ∧ many k n ≤ 50 := by
  unfold many
  split
  · omega
  · split
    · rename_i h6
      rw [okNode_row h6] at h
      obtain ⟨h1, h2⟩ := of_decide_eq_true h
      split at h1 <;> omega
    · omega

theorem endGo_step {xs : List Nd} {k : Nat} {x : Nd} (hx : xs[k]? = some x) (op : Int) (p : Nat) :
    endGo (xs.drop k) op p = if op - 1 + many x.k x.n = 0 then p + 1 else endGo (xs.drop (k + 1)) (op - 1 + many x.k x.n) (p + 1) := by
  rw [drop_cons hx]
  rfl

theorem endGo_le : ∀ (xs : List Nd) (op : Int) (p : Nat), endGo xs op p ≤ p + xs.length := by
  intro xs
  induction xs with
  | nil => intro op p; simp [endGo]
  | cons x xs ih =>
    intro op p
    simp only [endGo, List.length_cons]
    split
    · omega
    · have := ih (op - 1 + many x.k x.n) (p + 1)
      omega

theorem endGo_gt : ∀ (xs : List Nd) (op : Int) (p : Nat), xs ≠ [] → p < endGo xs op p := by
  intro xs
  induction xs with
  | nil => intro op p h; exact absurd rfl h
  | cons x xs ih =>
    intro op p _
    simp only [endGo]
    split
    · omega
    · by_cases h : xs = []
      · subst h; simp [endGo]
      · have := ih (op - 1 + many x.k x.n) (p + 1) h
        omega

set_option maxRecDepth 100000 in
set_option maxHeartbeats 1000000 in
theorem rEnd_any (A : Option Addr) (c : Nat) (xs : List Nd) (i : Int) (w : World) (ha : TyA w w.heap.size A xs) (hl : xs.length ≤ 1000000) (hok : okAll xs) :
    Calls Try.prog 62 #[.slice A xs.length c, .int .i64 i] w fun e w' => e = .returned (.int .i64 (endR xs i)) ∧ Below w.heap.size w w' := by
  have Hok := Lib.hid hok
  clear hok
  by_cases h0 : i < 0
  · have hfin := Lib.hid (show endR xs i = -1 by unfold endR; rw [if_pos (.inl h0)])
    go_enter Try.func62, Try.ntmps62
    go_wp2_with fail
    go_ret
    exact ⟨ret_int (by rw [hfin.out]), Below.refl _ _⟩
  by_cases h1 : (xs.length : Int) ≤ i
  · have hfin := Lib.hid (show endR xs i = -1 by unfold endR; rw [if_pos (.inr h1)])
    go_enter Try.func62, Try.ntmps62
    go_wp2_with fail
    go_ret
    exact ⟨ret_int (by rw [hfin.out]), Below.refl _ _⟩
  obtain ⟨n, rfl⟩ := Int.eq_ofNat_of_zero_le (Int.not_lt.1 h0)
  have hn : n < xs.length := by omega
  have hfin := Lib.hid (show endR xs (n : Int) = ((endGo (xs.drop n) 1 n : Nat) : Int) by unfold endR; rw [if_neg (by omega)]; simp)
  have h0' : (0 : Int) ≤ (n : Int) := by omega
  have h1' : (n : Int) < (xs.length : Int) := by omega
  have hd0 : decide ((n : Int) < 0) = false := by simp
  have hd1 : decide (xs.length ≤ n) = false := by simp; omega
  clear h0 h1
  go_enter Try.func62, Try.ntmps62
  go_wp2_with fail
  go_loopw [5, 6] (fun o5 i6 w' => ∃ (k : Nat) (op : Int), o5 = .int .i64 op ∧ i6 = .int .i64 k ∧ n ≤ k ∧ k ≤ xs.length ∧ 1 ≤ op ∧ op ≤ 1 + 50 * ((k : Int) - n) ∧ Below w.heap.size w w' ∧ Hid (endGo (xs.drop k) op k = endGo (xs.drop n) 1 n))
    (fun _ i6 _ => xs.length - (intOf i6).toNat)
  case atStart => exact ⟨n, 1, rfl, rfl, Nat.le_refl _, by omega, by omega, by omega, Below.refl _ _, Lib.hid rfl⟩
  case round =>
    obtain ⟨k, op, rfl, rfl, hnk, hk, hop0, hop1, hbel, hgood⟩ := hrel
    by_cases hp : k < xs.length
    · obtain ⟨x, hx⟩ := getq_ex hp
      have hstep := Lib.hid (endGo_step hx op k)
      have hmb := many_bound (Hok.out x (mem_of_getq hx))
      obtain ⟨m0, m1⟩ := hmb
      obtain ⟨b1, o1, rfl, hb1, c10, c11, c12⟩ := ((ha.below hbel).more hbel.size).at_ hx
      clear hx
      by_cases hz : op - 1 + many x.k x.n = 0
      · have hzb : (op - 1 + many x.k x.n == 0) = true := by simpa using hz
        have Hz := Lib.hid hz
        clear hz
        go_wp2_with (go_at_call 107; refine (rmany_any _ _ _ _).mono ?_; rintro e w1 ⟨rfl, hbx⟩)
        go_ret
        exact ⟨ret_int (by rw [hfin.out, ← hgood.out, hstep.out, if_pos Hz.out]; omega), ext_trans hbel hbx⟩
      · have hzb : (op - 1 + many x.k x.n == 0) = false := by simpa using hz
        have Hz := Lib.hid hz
        have hz2 : 1 ≤ op - 1 + many x.k x.n := by omega
        clear hz
        go_wp2_with (go_at_call 107; refine (rmany_any _ _ _ _).mono ?_; rintro e w1 ⟨rfl, hbx⟩)
        go_roundw
        case rel => exact ⟨k + 1, op - 1 + many x.k x.n, rfl, by go_num, by omega, hp, hz2, by omega, ext_trans hbel hbx, Lib.hid (by rw [← hgood.out, hstep.out, if_neg Hz.out])⟩
        case measure => simp [intOf]; omega
    · have hend := Lib.hid (show endGo (xs.drop k) op k = xs.length by rw [List.drop_of_length_le (by omega)]; simp [endGo]; omega)
      go_wp2_with fail
      go_ret
      exact ⟨ret_int (by rw [hfin.out, ← hgood.out, hend.out]), hbel⟩
end Go.Proofs.Ytblfeokjlecgkaa
