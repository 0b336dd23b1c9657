/- Whether two types are alike: the document's loop, and the program's by a function value. -/
import Derived.Test.YtblfeokjlecgkaaRead
namespace Go.Proofs.Ytblfeokjlecgkaa
open Go.RowKit

/-- A node without its site. -/
def Nd.bare (x : Nd) : Nd := if x.k = 0 then { x with n := 0 } else x

def sameNd (x y : Nd) : Bool := ndEq x.bare y.bare

def sameFrom (xs ys : List Nd) (k : Nat) : Bool := decide ((xs.drop k).map Nd.bare = (ys.drop k).map Nd.bare)
def sameB (xs ys : List Nd) : Bool := decide (xs.map Nd.bare = ys.map Nd.bare)

theorem drop_cons {α : Type} {xs : List α} {k : Nat} {x : α} (hx : xs[k]? = some x) : xs.drop k = x :: xs.drop (k + 1) := by
  have hl := getq_lt hx
  rw [List.drop_eq_getElem_cons hl]
  rw [List.getElem?_eq_getElem hl] at hx
  injection hx with hx
  rw [hx]

theorem sameFrom_step {xs ys : List Nd} {k : Nat} {x y : Nd} (hx : xs[k]? = some x) (hy : ys[k]? = some y) :
    sameFrom xs ys k = (sameNd x y && sameFrom xs ys (k + 1)) := by
  unfold sameFrom sameNd
  rw [drop_cons hx, drop_cons hy, Bool.eq_iff_iff]
  simp [ndEq_iff]

theorem bare_eq (x : Nd) : x.bare = ⟨x.k, x.s, if x.k == 0 then 0 else x.n⟩ := by
  unfold Nd.bare
  by_cases h : x.k = 0 <;> simp [h]

theorem sameFrom_end {xs ys : List Nd} {k : Nat} (h : xs.length = ys.length) (hk : ¬ k < xs.length) : sameFrom xs ys k = true := by
  unfold sameFrom
  rw [List.drop_of_length_le (by omega), List.drop_of_length_le (by omega)]
  simp

theorem sameB_len {xs ys : List Nd} (h : xs.length ≠ ys.length) : sameB xs ys = false := by
  unfold sameB
  simp only [decide_eq_false_iff_not]
  intro e
  have := congrArg List.length e
  simp at this
  exact h this

set_option maxRecDepth 100000 in
set_option maxHeartbeats 1000000 in
theorem rSame_any (A B : Option Addr) (c d : Nat) (xs ys : List Nd) (w : World) (ha : TyA w w.heap.size A xs) (hb : TyA w w.heap.size B ys)
    (hl : xs.length ≤ 9223372036854775807) :
    Calls Try.prog 67 #[.slice A xs.length c, .slice B ys.length d] w fun e w' => e = .returned (.bool (sameB xs ys)) ∧ Below w.heap.size w w' := by
  by_cases hlen : xs.length = ys.length
  · rw [← hlen]
    have Hlen := Lib.hid hlen
    clear hlen
    go_enter Try.func67, Try.ntmps67
    go_wp2_with fail
    go_loopw [5] (fun i w' => ∃ k : Nat, k ≤ xs.length ∧ i = .int .i64 k ∧ Below w.heap.size w w' ∧ Hid (sameFrom xs ys k = sameB xs ys)) (fun i _ => xs.length - (intOf i).toNat)
    case atStart => exact ⟨0, Nat.zero_le _, rfl, Below.refl _ _, Lib.hid rfl⟩
    case round =>
      obtain ⟨k, hk, rfl, hbel, hgood⟩ := hrel
      by_cases hp : k < xs.length
      · obtain ⟨x, hx⟩ := getq_ex hp
        obtain ⟨y, hy⟩ := getq_ex (show k < ys.length by rw [← Hlen.out]; exact hp)
        have hstep := Lib.hid (sameFrom_step hx hy)
        obtain ⟨b1, o1, rfl, hb1, c10, c11, c12⟩ := ((ha.below hbel).more hbel.size).at_ hx
        obtain ⟨b2, o2, rfl, hb2, c20, c21, c22⟩ := ((hb.below hbel).more hbel.size).at_ hy
        have hz := hbel.size
        have q1 : b1 < wr.heap.size + 1 := by omega
        have q2 : b2 < wr.heap.size + 1 := by omega
        clear hx hy
        obtain ⟨n1, hbx, hn1⟩ : ∃ n1, x.bare = ⟨x.k, x.s, n1⟩ ∧ n1 = (if x.k == 0 then 0 else x.n) := ⟨_, bare_eq x, rfl⟩
        obtain ⟨n2, hby, hn2⟩ : ∃ n2, y.bare = ⟨y.k, y.s, n2⟩ ∧ n2 = (if y.k == 0 then 0 else y.n) := ⟨_, bare_eq y, rfl⟩
        have hne := run_neNode ⟨x.k, x.s, n1⟩ ⟨y.k, y.s, n2⟩
        simp only [Nd.val] at hne
        have hsn : ndEq ⟨x.k, x.s, n1⟩ ⟨y.k, y.s, n2⟩ = sameNd x y := by unfold sameNd; rw [hbx, hby]
        clear hbx hby
        rw [hsn] at hne
        clear hsn
        cases hkx : (x.k == 0)
        all_goals
          cases hky : (y.k == 0)
        all_goals
          simp only [hkx, hky, if_true, Bool.false_eq_true, if_false] at hn1 hn2
          subst hn1 hn2
          cases he : sameNd x y
        all_goals
          have He := Lib.hid he
          rw [he] at hne
          clear he
          go_wp2_with fail
          go_region
        all_goals
          go_wp2_with fail
        all_goals first
          | (go_ret
             exact ⟨ret_bool (by rw [← hgood.out, hstep.out, He.out]; rfl), by repeat (first | exact hbel | refine ext_alloc ?_ _ | refine ext_set ?_ (by simp; omega) _ | refine Below.drew ?_ | refine ext_drewN ?_ _)⟩)
          | (go_roundw
             case rel => exact ⟨k + 1, hp, by go_num, (by repeat (first | exact hbel | refine ext_alloc ?_ _ | refine ext_set ?_ (by simp; omega) _ | refine Below.drew ?_ | refine ext_drewN ?_ _)), Lib.hid (by rw [← hgood.out, hstep.out, He.out, Bool.true_and])⟩
             case measure => simp [intOf]; omega)
      · have hfin := Lib.hid (sameFrom_end Hlen.out hp)
        go_wp2_with fail
        go_ret
        exact ⟨ret_bool (by rw [← hgood.out, hfin.out]), hbel⟩
  · have hle : ((xs.length : Int) != (ys.length : Int)) = true := by simp; omega
    have hfin := Lib.hid (sameB_len hlen)
    clear hlen
    go_enter Try.func67, Try.ntmps67
    go_wp2_with fail
    go_ret
    exact ⟨ret_bool (by rw [hfin.out]), Below.refl _ _⟩
end Go.Proofs.Ytblfeokjlecgkaa
