/- Rows in blocks of their own: what a write into one leaves of another. -/
import Derived.Test.YtblfeokjlecgkaaGreatMem
import Derived.Test.YtblfeokjlecgkaaGreatKidsR
namespace Go.Proofs.YtblfeokjlecgkaaGreat
open Go.RowKit

/-- Two addresses lie in two blocks. -/
def Off (A B : Option Addr) : Prop := ∀ a b, A = some a → B = some b → a.block ≠ b.block

theorem Off.symm {A B : Option Addr} (h : Off A B) : Off B A := fun a b ha hb e => h b a hb ha e.symm

theorem ReadL.grown {α : Type} {size : Nat} {enc : α → List Value} {w w' : World} {B : Nat} {A X : Option Addr} {l : List α} {n c : Nat} (h : ReadL size enc w B X l) (hB : B ≤ w.heap.size) (hg : w.grownBy w' ((Value.slice A n c).ownBlock)) (ho : Off A X) : ReadL size enc w' B X l := fun hne => by
  obtain ⟨b, o, rfl, hb, hc⟩ := h hne
  refine ⟨b, o, rfl, hb, fun i x hx j u hu => ?_⟩
  have hblk := hg.block b (by omega) (fun e => by
    obtain ⟨a, ha, hab⟩ := ownBlock_of e.symm
    exact ho a _ ha rfl (by rw [hab]))
  rw [World.cell?_of_block (a := ⟨b, o + i * size + j, none⟩) hblk]
  exact hc i x hx j u hu

theorem TyA.grown {w w' : World} {B : Nat} {A X : Option Addr} {xs : List Nd} {n c : Nat} (h : TyA w B X xs) (hB : B ≤ w.heap.size) (hg : w.grownBy w' ((Value.slice A n c).ownBlock)) (ho : Off A X) : TyA w' B X xs :=
  ReadL.tyA (ReadL.grown h.readL hB hg ho)

theorem Off.app {A A' X : Option Addr} {n c n' c' N : Nat} (h : Off A X) (hA : (Value.slice A' n' c').ownBlock = (Value.slice A n c).ownBlock ∨ (Value.slice A' n' c').ownBlock = some N) (hX : ∀ x, X = some x → x.block < N) : Off A' X := fun a x ha hx e => by
  subst ha hx
  rcases hA with hA | hA
  · obtain ⟨b, hb, hbe⟩ := ownBlock_of (hA.symm.trans (show (Value.slice (some a) n' c').ownBlock = some a.block from rfl))
    exact h b x hb rfl (by rw [hbe, e])
  · have : a.block = N := by simpa [Value.ownBlock] using hA
    have := hX x rfl
    omega

theorem OwnL.lt {α : Type} {e size base : Nat} {enc : α → List Value} {w : World} {A : Option Addr} {cap : Nat} {l : List α} (h : OwnL e size enc w base A cap l) : ∀ a, A = some a → base ≤ a.block ∧ a.block < w.heap.size := fun a ha => by
  subst ha
  exact OwnL.block h a.block rfl

theorem kept_off {α : Type} {e size base n c : Nat} {enc : α → List Value} {A X : Option Addr} {cap : Nat} {l : List α} {w w' : World} (h : OwnL e size enc w base X cap l) (hg : w.grownBy w' ((Value.slice A n c).ownBlock)) (ho : Off A X) : OwnL e size enc w' base X cap l :=
  OwnL.kept h hg fun k hk a ha e2 => by
    obtain ⟨b, hb, hbe⟩ := ownBlock_of hk
    exact ho b a hb ha (by rw [hbe, e2])

theorem below_app {w w' : World} {B n c : Nat} {A : Option Addr} (hg : w.grownBy w' ((Value.slice A n c).ownBlock)) (hB : B ≤ w.heap.size) (hA : ∀ a, A = some a → B ≤ a.block) : Below B w w' :=
  (Below.refl B w).grown hg hB fun k hk => by
    obtain ⟨a, ha, hab⟩ := ownBlock_of hk
    rw [← hab]
    exact hA a ha
end Go.Proofs.YtblfeokjlecgkaaGreat
