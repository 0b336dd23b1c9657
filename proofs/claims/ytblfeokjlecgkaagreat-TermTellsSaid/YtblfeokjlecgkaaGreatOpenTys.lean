/- A row of types among the arguments. -/
import Derived.Test.YtblfeokjlecgkaaGreatOpenA
import Derived.Test.YtblfeokjlecgkaaGreatConcat
import Derived.SliceStrings
namespace Go.Proofs.YtblfeokjlecgkaaGreat
open Go.ChangeShapes Go.WideShapes Go.ChangeAt Go.WideMaps Go.WideElems Go.RowKit Go.Deep
section
variable {H : Type} {enc : TypeId × Value → H} {W : World} {base : Nat} {d : DataW H} {p : List MemPlace} {v : Value} {fuel : Nat} {cs : List Value} {X : DataW H × List MemPlace}

theorem tyCells : Tryz.prog.cellsOf 23 = 1 := by kernel_rfl

theorem open_tys0 (hf : DataW.trod enc Tryz.prog W 0 (fun _ => true) true fuel 24 cs = some X) :
    ∃ (V : Option Addr) (vs : List (Option Addr × Nat × Nat)) (xss : List (List Nd)) (c : Nat), cs = [.slice V vs.length c] ∧ ReadS W W.heap.size V vs ∧ Sls W W.heap.size vs xss ∧ vs.length ≤ c ∧ vs.length ≤ 9223372036854775807 ∧
      (∀ xs ∈ xss, xs.length ≤ 9223372036854775807 ∧ ∀ x ∈ xs, x.Ok) ∧ (∀ (i : Nat) (v : Option Addr × Nat × Nat), vs[i]? = some v → v.2.1 ≤ v.2.2) := by
  rcases open_slice1 Tryz.underlying24 tyCells hf with ⟨hcs, _⟩ | ⟨a, len, cap, m, n, U, D, Pl, hcs, _, hl, hcm, hm, _, hel⟩
  · exact ⟨none, [], [], 0, hcs, ReadL.nil, ⟨rfl, fun i v xs hv => by simp at hv⟩, Nat.le_refl _, by simp, by simp, by simp⟩
  · simp only [if_true] at hm
    subst hm
    have hty : ∀ i, i < len → ∃ q : (Option Addr × Nat × Nat) × List Nd, U i = .slice q.1.1 q.1.2.1 q.1.2.2 ∧ q.1.2.1 = q.2.length ∧ TyA W W.heap.size q.1.1 q.2 ∧ q.2.length ≤ q.1.2.2 ∧ q.2.length ≤ 9223372036854775807 ∧ ∀ x ∈ q.2, x.Ok := fun i hi => by
      obtain ⟨A, xs, c, h1, h2, h3, h4, h5⟩ := open_ty0 (hel i (by omega)).2
      exact ⟨((A, xs.length, c), xs), by simpa using h1, rfl, h2, h3, h4, h5⟩
    obtain ⟨f, hf2⟩ : ∃ f : Nat → (Option Addr × Nat × Nat) × List Nd, ∀ i, i < len → U i = .slice (f i).1.1 (f i).1.2.1 (f i).1.2.2 ∧ (f i).1.2.1 = (f i).2.length ∧ TyA W W.heap.size (f i).1.1 (f i).2 ∧ (f i).2.length ≤ (f i).1.2.2 ∧ (f i).2.length ≤ 9223372036854775807 ∧ ∀ x ∈ (f i).2, x.Ok :=
      ⟨fun i => if h : i < len then Classical.choose (hty i h) else ((none, 0, 0), []), fun i hi => by
        simp only [dif_pos hi]
        exact Classical.choose_spec (hty i hi)⟩
    have hget : ∀ {β : Type} (g : Nat → β) i x, ((List.range len).map g)[i]? = some x → i < len ∧ x = g i := fun g i x hx => by
      have hi : i < len := by have := getq_lt hx; simpa using this
      rw [List.getElem?_map, List.getElem?_range hi] at hx
      injection hx with hx
      exact ⟨hi, hx.symm⟩
    have hlen : ((List.range len).map fun i => (f i).1).length = len := by simp
    refine ⟨some a, (List.range len).map fun i => (f i).1, (List.range len).map fun i => (f i).2, m, by rw [hlen]; exact hcs, fun hne => ?_, ⟨by simp, fun i v xs hv hx => ?_⟩, by rw [hlen]; exact hl, by rw [hlen]; unfold maxLen at hcm; omega, fun xs hx => ?_, fun i v hv => ?_⟩
    · have hn : 0 < len := by
        rcases Nat.eq_zero_or_pos len with h | h
        · subst h; exact absurd rfl hne
        · exact h
      have h0 := (hel 0 (by omega)).1
      obtain ⟨b, off, spot⟩ := a
      have hspot : spot = none := by simpa [Addr.add] using World.cell?_spot h0
      subst hspot
      simp only [add_plain] at hel
      refine ⟨b, off, rfl, World.block_lt_of_cell? W _ (hel 0 (by omega)).1, fun i x hx j u hu => ?_⟩
      obtain ⟨hi, rfl⟩ := hget _ i x hx
      have hj : j = 0 := by have := getq_lt hu; rw [encS_len] at this; omega
      subst hj
      simp [encS] at hu
      subst hu
      rw [Nat.mul_one, Nat.add_zero, (hel i (by omega)).1, (hf2 i hi).1]
    · obtain ⟨hi, rfl⟩ := hget _ i v hv
      obtain ⟨_, rfl⟩ := hget _ i xs hx
      exact ⟨(hf2 i hi).2.1, (hf2 i hi).2.2.1⟩
    · obtain ⟨i, hi, rfl⟩ := List.mem_map.1 hx
      have := hf2 i (List.mem_range.1 hi)
      exact ⟨this.2.2.2.2.1, this.2.2.2.2.2⟩
    · obtain ⟨hi, rfl⟩ := hget _ i v hv
      have := hf2 i hi
      show (f i).1.2.1 ≤ _
      rw [this.2.1]
      exact this.2.2.2.1


set_option maxRecDepth 100000 in
theorem open_tys (hv : Value.okWide Tryz.prog W .any base 24 v) (h : DataW.Trod enc Tryz.prog W 0 (fun _ => true) true 24 v d p) :
    ∃ (V : Option Addr) (vs : List (Option Addr × Nat × Nat)) (xss : List (List Nd)) (c : Nat), v = .slice V vs.length c ∧ ReadS W W.heap.size V vs ∧ Sls W W.heap.size vs xss ∧ vs.length ≤ c ∧ vs.length ≤ 9223372036854775807 ∧
      (∀ xs ∈ xss, xs.length ≤ 9223372036854775807 ∧ ∀ x ∈ xs, x.Ok) ∧ (∀ (i : Nat) (v : Option Addr × Nat × Nat), vs[i]? = some v → v.2.1 ≤ v.2.2) := by
  obtain ⟨a0, n0, c0, rfl⟩ := okWide_slice Tryz.underlying24 hv
  obtain ⟨fuel, hf⟩ := h
  obtain ⟨V, vs, xss, c, hcs, h1⟩ := open_tys0 hf
  simp only [Value.cells, List.cons.injEq, and_true] at hcs
  exact ⟨V, vs, xss, c, hcs, h1⟩
end
end Go.Proofs.YtblfeokjlecgkaaGreat
