/- Laid together by a tool from the texts of this seat: OpenA OpenTys OpenSt. Conditions: each theorem's own. -/
import Derived.Test.YtblfeokjlecgkaaO01
import Derived.Test.YtblfeokjlecgkaaO02
import Derived.Test.YtblfeokjlecgkaaO03
import Derived.Test.YtblfeokjlecgkaaO04
import Derived.Test.YtblfeokjlecgkaaO05
import Derived.Test.YtblfeokjlecgkaaO06
import Derived.Test.YtblfeokjlecgkaaO07
import Derived.Test.YtblfeokjlecgkaaO08
import Derived.Test.YtblfeokjlecgkaaO09
import Derived.Test.YtblfeokjlecgkaaO10
import Derived.Test.YtblfeokjlecgkaaO11
import Derived.Test.YtblfeokjlecgkaaO12
import Derived.Test.YtblfeokjlecgkaaO13
import Derived.Test.YtblfeokjlecgkaaO14
import Derived.Test.YtblfeokjlecgkaaO15
import Derived.Test.YtblfeokjlecgkaaO16
import Derived.Test.YtblfeokjlecgkaaO17
import Derived.Test.YtblfeokjlecgkaaO18
import Derived.Test.YtblfeokjlecgkaaO19
import Derived.Test.YtblfeokjlecgkaaO20
import Derived.Test.YtblfeokjlecgkaaO21
import Derived.Test.YtblfeokjlecgkaaO22
import Derived.Test.YtblfeokjlecgkaaO23
import Derived.Test.YtblfeokjlecgkaaO24
import Derived.Test.YtblfeokjlecgkaaO25
import Derived.Test.YtblfeokjlecgkaaO26
import Derived.Test.YtblfeokjlecgkaaO27
import Derived.Test.YtblfeokjlecgkaaO28
import Derived.Test.YtblfeokjlecgkaaO29
import Derived.Test.YtblfeokjlecgkaaO30
import Derived.Test.YtblfeokjlecgkaaO31
import Derived.Test.YtblfeokjlecgkaaO32
import Derived.Test.YtblfeokjlecgkaaF01
import Derived.Test.YtblfeokjlecgkaaRows
import Derived.ProofKit
import Derived.LaidMore
import Derived.OpenShut
import Derived.Stop.Joined
import Derived.Stop.LaidErr
import Derived.Deep.Slices
import Derived.Deep.Fields
/- From a row's arguments to what the walks ask. -/
namespace Go.Proofs.Ytblfeokjlecgkaa
open Go.ChangeShapes Go.WideShapes Go.ChangeAt Go.WideMaps Go.WideElems Go.RowKit Go.Deep

section
variable {H : Type} {enc : TypeId × Value → H} {W : World} {base : Nat} {d : DataW H} {p : List MemPlace} {v : Value}

set_option maxRecDepth 100000 in
/-- A type among the arguments. -/
theorem open_ty (hv : Value.okWide Try.prog W .any base 34 v) (h : DataW.Trod enc Try.prog W 0 (fun _ => true) true 34 v d p) :
    ∃ (A : Option Addr) (xs : List Nd) (c : Nat), v = .slice A xs.length c ∧ TyA W W.heap.size A xs ∧ xs.length ≤ c ∧ xs.length ≤ 9223372036854775807 ∧ ∀ x ∈ xs, x.Ok := by
  obtain ⟨a0, n0, c0, rfl⟩ := okWide_slice Try.underlying34 hv
  obtain ⟨fuel, hf⟩ := h
  rcases open_slice Try.underlying34 hf with ⟨hcs, _⟩ | ⟨a, len, cap, m, n, D, Pl, hcs, _, hl, hcm, hm, _, hel⟩
  · simp [Value.cells] at hcs
    obtain ⟨rfl, rfl, rfl⟩ := hcs
    exact ⟨none, [], 0, rfl, TyA.nil, Nat.le_refl _, by simp, by simp⟩
  · simp [Value.cells] at hcs
    obtain ⟨rfl, rfl, rfl⟩ := hcs
    simp only [if_true] at hm
    subst hm
    have hnode : ∀ i, i < n0 → ∃ x : Nd, x.Ok ∧ W.cell? (a.add (i * 3)) = some (.int .i64 x.k) ∧ W.cell? (a.add (i * 3 + 1)) = some (.string x.s) ∧ W.cell? (a.add (i * 3 + 2)) = some (.int .i64 x.n) := fun i hi => by
      obtain ⟨cs', hc, ht⟩ := hel i (by omega)
      rw [nodeCells] at hc
      obtain ⟨_, hlen, hat⟩ := World.cells?_some hc
      match cs', hlen with
      | [v0, v1, v2], _ =>
        obtain ⟨ys, n', _, _, _, _, hfld⟩ := DataW.trod_struct Try.underlying48 ht
        have h0 := hfld 0 _ rfl
        have h1 := hfld 1 _ rfl
        have h2 := hfld 2 _ rfl
        change DataW.trod enc Try.prog W 0 _ true n' 3 (([v0, v1, v2].drop 0).take (Try.prog.cellsOf 3)) = _ at h0
        change DataW.trod enc Try.prog W 0 _ true n' 9 (([v0, v1, v2].drop 1).take (Try.prog.cellsOf 9)) = _ at h1
        change DataW.trod enc Try.prog W 0 _ true n' 3 (([v0, v1, v2].drop 2).take (Try.prog.cellsOf 3)) = _ at h2
        rw [show Try.prog.cellsOf 3 = 1 by kernel_rfl] at h0 h2
        rw [show Try.prog.cellsOf 9 = 1 by kernel_rfl] at h1
        have hne : ∀ j, j < 3 → ∃ y, ys[j]? = some y := fun j hj => by
          have : ys.length = 3 := by assumption
          exact getq_ex (by omega)
        obtain ⟨y0, e0⟩ := hne 0 (by omega)
        obtain ⟨y1, e1⟩ := hne 1 (by omega)
        obtain ⟨y2, e2⟩ := hne 2 (by omega)
        obtain ⟨k, hk, _, hkw⟩ := DataW.trod_int Try.underlying3 (h0.trans e0)
        obtain ⟨s, hs, _, hsw⟩ := DataW.trod_string Try.underlying9 (h1.trans e1)
        obtain ⟨nn, hnn, _, hnw⟩ := DataW.trod_int Try.underlying3 (h2.trans e2)
        simp at hk hs hnn
        subst hk hs hnn
        obtain ⟨k0, k1⟩ := int_ok hkw
        obtain ⟨n0, n1⟩ := int_ok hnw
        refine ⟨⟨k, s, nn⟩, ⟨k0, k1, n0, n1, hsw⟩, ?_, ?_, ?_⟩
        · have := hat 0 (by omega); rw [add_add] at this; simpa using this
        · have := hat 1 (by omega); rw [add_add] at this; simpa using this
        · have := hat 2 (by omega); rw [add_add] at this; simpa using this
    have hch : ∃ f : Nat → Nd, ∀ i, i < n0 → (f i).Ok ∧ W.cell? (a.add (i * 3)) = some (.int .i64 (f i).k) ∧ W.cell? (a.add (i * 3 + 1)) = some (.string (f i).s) ∧ W.cell? (a.add (i * 3 + 2)) = some (.int .i64 (f i).n) :=
      ⟨fun i => if h : i < n0 then Classical.choose (hnode i h) else default, fun i hi => by
        simp only [dif_pos hi]
        exact Classical.choose_spec (hnode i hi)⟩
    obtain ⟨f, hf2⟩ := hch
    have hxl : ((List.range n0).map f).length = n0 := by simp
    have hget : ∀ i x, ((List.range n0).map f)[i]? = some x → i < n0 ∧ x = f i := fun i x hx => by
      have hi : i < n0 := by have := getq_lt hx; simpa using this
      rw [List.getElem?_map, List.getElem?_range hi] at hx
      injection hx with hx
      exact ⟨hi, hx.symm⟩
    refine ⟨some a, (List.range n0).map f, m, by rw [hxl], fun hne => ?_, by rw [hxl]; exact hl, by rw [hxl]; unfold maxLen at hcm; omega, fun x hx => ?_⟩
    · have hn : 0 < n0 := by
        rcases Nat.eq_zero_or_pos n0 with h | h
        · subst h; exact absurd rfl hne
        · exact h
      obtain ⟨b, off, spot⟩ := a
      have h0 := (hf2 0 hn).2.1
      have hspot : spot = none := by simpa [Addr.add] using World.cell?_spot h0
      subst hspot
      simp only [add_plain] at hf2
      refine ⟨b, off, rfl, ?_, ⟨fun i x hx => ?_, fun i x hx => ?_, fun i x hx => ?_⟩⟩
      · exact World.block_lt_of_cell? W _ (hf2 0 hn).2.1
      · obtain ⟨hi, rfl⟩ := hget i x hx; exact (hf2 i hi).2.1
      · obtain ⟨hi, rfl⟩ := hget i x hx; have := (hf2 i hi).2.2.1; rwa [← Nat.add_assoc] at this
      · obtain ⟨hi, rfl⟩ := hget i x hx; have := (hf2 i hi).2.2.2; rwa [← Nat.add_assoc] at this
    · obtain ⟨i, hi, rfl⟩ := List.mem_map.1 hx
      exact (hf2 i (List.mem_range.1 hi)).1
end

end Go.Proofs.Ytblfeokjlecgkaa

/- Pairs among a row's arguments. -/
namespace Go.Proofs.Ytblfeokjlecgkaa
open Go.ChangeShapes Go.WideShapes Go.ChangeAt Go.WideMaps Go.WideElems Go.RowKit Go.Deep
section
variable {H : Type} {enc : TypeId × Value → H} {W : World} {base : Nat} {d : DataW H} {p : List MemPlace} {v : Value} {fuel : Nat} {cs : List Value} {X : DataW H × List MemPlace}

end
end Go.Proofs.Ytblfeokjlecgkaa
