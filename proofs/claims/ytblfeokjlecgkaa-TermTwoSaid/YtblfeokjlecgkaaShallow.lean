/- The document's look at how deep a row of nodes is. -/
import Derived.Test.YtblfeokjlecgkaaKidsR
namespace Go.Proofs.Ytblfeokjlecgkaa
open Go.RowKit

section
variable {α : Type} {enc : α → List Value} {size e base : Nat} {w w' : World} {A : Option Addr} {cap B : Nat} {l : List α}

theorem flatMap_take (hk : ∀ x, (enc x).length = size) : ∀ (l : List α) (k : Nat), (l.take k).flatMap enc = (l.flatMap enc).take (k * size) := by
  intro l
  induction l with
  | nil => intro k; simp
  | cons x l ih =>
    intro k
    cases k with
    | zero => simp
    | succ k =>
      rw [List.take_succ_cons, List.flatMap_cons, List.flatMap_cons, ih, List.take_append, hk, show (k + 1) * size - size = k * size by rw [Nat.succ_mul]; omega, List.take_of_length_le (l := enc x) (by rw [hk, Nat.succ_mul]; omega)]

theorem OwnL.cut (hk : ∀ x, (enc x).length = size) (h : OwnL e size enc w base A cap l) {k : Nat} (hkl : k ≤ l.length) : OwnL e size enc w base A cap (l.take k) := by
  unfold OwnL at h ⊢
  have hlen : (l.take k).length = k := by rw [List.length_take]; omega
  refine ⟨flatMap_len hk _, ?_⟩
  rw [hlen]
  rcases h.2 with ⟨hv, hn⟩ | ⟨g, cap', cur, hv, hbg, hg, hnc, hcm, hcs, htake⟩
  · injection hv with hA hl hc
    subst hA hc
    exact .inl ⟨by rw [show k = 0 by omega], by omega⟩
  · injection hv with hA hl hc
    subst hA hc
    refine .inr ⟨g, cap, cur, rfl, hbg, hg, by omega, hcm, hcs, ?_⟩
    rw [flatMap_take hk, ← htake, List.take_take, Nat.min_eq_left (Nat.mul_le_mul_right _ hkl)]
end

theorem flatMap_encI (l : List Int) : l.flatMap encI = l.map fun n => Value.int .i64 n := by
  induction l with
  | nil => rfl
  | cons n l ih => rw [List.flatMap_cons, List.map_cons, ih]; rfl

/-- A store into a row of ints. -/
theorem OwnL.setI {w : World} {base : Nat} {A : Option Addr} {cap : Nat} {l : List Int} (h : OwnI w base A cap l) {j : Nat} (hj : j < l.length) (n : Int) :
    ∃ g, A = some ⟨g, 0, none⟩ ∧ base ≤ g ∧ g < w.heap.size ∧ (∃ m, l[j]? = some m ∧ w.cell? ⟨g, j, none⟩ = some (.int .i64 m)) ∧ w.frozen? ⟨g, j, none⟩ = false ∧
      OwnI (w.setCell ⟨g, j, none⟩ (.int .i64 n)) base A cap (l.set j n) ∧ w.grownBy (w.setCell ⟨g, j, none⟩ (.int .i64 n)) (some g) := by
  obtain ⟨m, hm⟩ := getq_ex hj
  obtain ⟨b, o, hA, hb, hc⟩ := ReadL.int (OwnL.read encI_len h) hm
  have h' : w.ownsRow base 3 1 (.slice A l.length cap) l.length (l.flatMap encI) := h
  rcases h'.2 with ⟨hv, hn⟩ | ⟨g, cap', cur, hv, hbg, hg, hnc, hcm, hcs, htake⟩
  · injection hv with hA' hl hc'
    rw [hA'] at hA
    cases hA
  · injection hv with hA' hl hc'
    subst hA'
    injection hA with hA
    injection hA with hA1 hA2 hA3
    subst hA1
    rw [← hA2, Nat.zero_add] at hc
    obtain ⟨h2, h3⟩ := World.ownsRow.stored h' j (.int .i64 n)
    refine ⟨g, rfl, hbg, hb, ⟨m, hm, hc⟩, World.ownsRow.frozenAt h' j, ?_, h3⟩
    show (w.setCell ⟨g, j, none⟩ (.int .i64 n)).ownsRow base 3 1 (.slice (some ⟨g, 0, none⟩) (l.set j n).length cap) (l.set j n).length ((l.set j n).flatMap encI)
    rw [List.length_set, flatMap_encI, List.map_set, ← flatMap_encI]
    exact h2

/-- What is open when the node on top is through, or not: nodes that are through close those above. -/
def settle : List Int → Int → List Int
  | [], a => if a = 0 then [] else [a]
  | b :: r, a => if a = 0 then settle r (b - 1) else a :: b :: r

def settleL : List Int → List Int
  | [] => []
  | a :: r => settle r a

def shallowGo : List Nd → List Int → Bool
  | [], _ => true
  | x :: xs, st => if 100 ≤ st.length then false else shallowGo xs (settleL (many x.k x.n :: st))

theorem settle_pos {a : Int} (h : a ≠ 0) (r : List Int) : settle r a = a :: r := by cases r <;> simp [settle, h]
theorem settle_zero (b : Int) (r : List Int) : settle (b :: r) 0 = settle r (b - 1) := by simp [settle]

theorem settle_len : ∀ (r : List Int) (a : Int), (settle r a).length ≤ r.length + 1 := by
  intro r
  induction r with
  | nil => intro a; simp only [settle]; split <;> simp
  | cons b r ih =>
    intro a
    simp only [settle]
    split
    · have := ih (b - 1)
      simp
      omega
    · simp
end Go.Proofs.Ytblfeokjlecgkaa
