/- Nodes of types as data, slices of nodes as lists, and the small facts on worlds that all walks of this seat use. -/
import Derived.Test.YtblfeokjlecgkaaProg
import Derived.WalkKit
import Derived.WalkSpells
import Derived.WalkLawsBesides
import Derived.Deep.Draws
import Derived.Deep.QuietTactic
import Derived.BigQuiet
import Derived.Lib.Hide
import Derived.Laws.StructEq
namespace Go.Proofs.Ytblfeokjlecgkaa
open Go.RowKit

/-- A node of a type: its kind, its label, its number. -/
structure Nd where
  k : Int
  s : ByteArray
  n : Int
  deriving DecidableEq

instance : Inhabited Nd := ⟨⟨0, ByteArray.empty, 0⟩⟩

/-- A node's number and kind are ints, its label is a string of Go's. -/
structure Nd.Ok (x : Nd) : Prop where
  k0 : -9223372036854775808 ≤ x.k
  k1 : x.k ≤ 9223372036854775807
  n0 : -9223372036854775808 ≤ x.n
  n1 : x.n ≤ 9223372036854775807
  s1 : x.s.size ≤ 9223372036854775807

def Nd.val (x : Nd) : Value := .agg #[.int .i64 x.k, .string x.s, .int .i64 x.n]

/-- From the place (b, o) on the nodes xs lie in memory. -/
structure RT (w : World) (b o : Nat) (xs : List Nd) : Prop where
  c0 : ∀ i x, xs[i]? = some x → w.cell? ⟨b, o + i * 3, none⟩ = some (.int .i64 x.k)
  c1 : ∀ i x, xs[i]? = some x → w.cell? ⟨b, o + i * 3 + 1, none⟩ = some (.string x.s)
  c2 : ∀ i x, xs[i]? = some x → w.cell? ⟨b, o + i * 3 + 2, none⟩ = some (.int .i64 x.n)

/-- A slice's address reads as the nodes xs, which lie below block B. -/
def TyA (w : World) (B : Nat) (A : Option Addr) (xs : List Nd) : Prop :=
  xs ≠ [] → ∃ b o, A = some ⟨b, o, none⟩ ∧ b < B ∧ RT w b o xs

section
variable {w w' : World} {B B' : Nat} {A : Option Addr} {xs : List Nd} {b o : Nat}

theorem getq_lt {α : Type} {l : List α} {i : Nat} {x : α} (h : l[i]? = some x) : i < l.length := by
  rcases Nat.lt_or_ge i l.length with g | g
  · exact g
  · rw [List.getElem?_eq_none g] at h; cases h

theorem getq_ex {α : Type} {l : List α} {i : Nat} (h : i < l.length) : ∃ x, l[i]? = some x := ⟨l[i], List.getElem?_eq_getElem h⟩

theorem RT.mono (h : RT w b o xs) (hk : ∀ off, w'.cell? ⟨b, off, none⟩ = w.cell? ⟨b, off, none⟩) : RT w' b o xs :=
  ⟨fun i x hx => (hk _).trans (h.c0 i x hx), fun i x hx => (hk _).trans (h.c1 i x hx), fun i x hx => (hk _).trans (h.c2 i x hx)⟩

theorem RT.drop (h : RT w b o xs) (i : Nat) : RT w b (o + i * 3) (xs.drop i) := by
  refine ⟨fun j x hx => ?_, fun j x hx => ?_, fun j x hx => ?_⟩ <;> rw [List.getElem?_drop] at hx
  · have := h.c0 _ x hx; rwa [show o + (i + j) * 3 = o + i * 3 + j * 3 by omega] at this
  · have := h.c1 _ x hx; rwa [show o + (i + j) * 3 + 1 = o + i * 3 + j * 3 + 1 by omega] at this
  · have := h.c2 _ x hx; rwa [show o + (i + j) * 3 + 2 = o + i * 3 + j * 3 + 2 by omega] at this

theorem RT.take (h : RT w b o xs) (i : Nat) : RT w b o (xs.take i) := by
  have key : ∀ (j : Nat) (x : Nd), (xs.take i)[j]? = some x → xs[j]? = some x := by
    intro j x hx
    have hl := getq_lt hx
    rw [List.length_take] at hl
    rwa [List.getElem?_take_of_lt (by omega)] at hx
  exact ⟨fun j x hx => h.c0 j x (key j x hx), fun j x hx => h.c1 j x (key j x hx), fun j x hx => h.c2 j x (key j x hx)⟩

theorem TyA.nil : TyA w B A [] := fun h => absurd rfl h

theorem TyA.below (h : TyA w B A xs) (hb : Below B w w') : TyA w' B A xs := fun hx => by
  obtain ⟨b, o, rfl, hlt, hr⟩ := h hx
  exact ⟨b, o, rfl, hlt, hr.mono fun off => hb.cell (p := ⟨b, off, none⟩) hlt⟩

theorem TyA.more (h : TyA w B A xs) (hB : B ≤ B') : TyA w B' A xs := fun hx => by
  obtain ⟨b, o, rfl, hlt, hr⟩ := h hx
  exact ⟨b, o, rfl, by omega, hr⟩

theorem TyA.drewN (h : TyA w B A xs) (n : Nat) : TyA (w.drewN n) B A xs := fun hx => by
  obtain ⟨b, o, rfl, hlt, hr⟩ := h hx
  exact ⟨b, o, rfl, hlt, hr.mono fun _ => rfl⟩
theorem TyA.drew (h : TyA w B A xs) : TyA w.drew B A xs := fun hx => by
  obtain ⟨b, o, rfl, hlt, hr⟩ := h hx
  exact ⟨b, o, rfl, hlt, hr.mono fun _ => rfl⟩

theorem TyA.alloc (h : TyA w B A xs) (hB : B ≤ w.heap.size) (ob : Obj) : TyA (w.alloc ob) B A xs := fun hx => by
  obtain ⟨b, o, rfl, hlt, hr⟩ := h hx
  exact ⟨b, o, rfl, hlt, hr.mono fun off => World.cell?_alloc_lt w ob ⟨b, off, none⟩ (Nat.lt_of_lt_of_le hlt hB)⟩

/-- The node at a place below the length. -/
theorem TyA.at_ (h : TyA w B A xs) {i : Nat} {x : Nd} (hx : xs[i]? = some x) :
    ∃ b o, A = some ⟨b, o, none⟩ ∧ b < B ∧ w.cell? ⟨b, o + i * 3, none⟩ = some (.int .i64 x.k) ∧ w.cell? ⟨b, o + i * 3 + 1, none⟩ = some (.string x.s) ∧
      w.cell? ⟨b, o + i * 3 + 2, none⟩ = some (.int .i64 x.n) := by
  obtain ⟨b, o, rfl, hb, hr⟩ := h (by rintro rfl; simp at hx)
  exact ⟨b, o, rfl, hb, hr.c0 i x hx, hr.c1 i x hx, hr.c2 i x hx⟩
end

/-- What lay below stands. -/
theorem bcell {W w1 : World} {B : Nat} (hb : Below B W w1) : (∀ b o, b < B → w1.cell? ⟨b, o, none⟩ = W.cell? ⟨b, o, none⟩) ∧ (∀ b o, b < B → w1.frozen? ⟨b, o, none⟩ = W.frozen? ⟨b, o, none⟩) :=
  ⟨fun b o h => hb.cell (p := ⟨b, o, none⟩) h, fun b o h => hb.frozen (p := ⟨b, o, none⟩) h⟩

theorem ext_trans {w W w1 : World} (h : Below w.heap.size w W) (k : Below W.heap.size W w1) : Below w.heap.size w w1 := h.trans (k.mono h.size)
theorem ext_alloc {w W : World} (h : Below w.heap.size w W) (o : Obj) : Below w.heap.size w (W.alloc o) := h.alloc h.size o
theorem ext_set {w W : World} (h : Below w.heap.size w W) {p : Addr} (hp : w.heap.size ≤ p.block) (u : Value) : Below w.heap.size w (W.setCell p u) := h.setCell hp u
theorem ext_drewN {w W : World} (h : Below w.heap.size w W) (n : Nat) : Below w.heap.size w (W.drewN n) := ⟨h.os, h.tape, h.output, h.size, h.block⟩

theorem below_drewN {B : Nat} {a w : World} (h : Below B a w) (n : Nat) : Below B a (w.drewN n) := ⟨h.os, h.tape, h.output, h.size, h.block⟩

theorem ret_bool {a b : Bool} (h : a = b) : Ending.returned (.bool a) = .returned (.bool b) := by rw [h]
theorem ret_int {k : IntKind} {a b : Int} (h : a = b) : Ending.returned (.int k a) = .returned (.int k b) := by rw [h]
theorem ret_str {a b : ByteArray} (h : a = b) : Ending.returned (.string a) = .returned (.string b) := by rw [h]
end Go.Proofs.Ytblfeokjlecgkaa
