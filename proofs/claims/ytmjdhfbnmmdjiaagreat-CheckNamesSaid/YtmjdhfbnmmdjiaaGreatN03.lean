/- Laid together by a tool from the texts of this seat: OpenCk. Conditions: each theorem's own. -/
import Derived.Test.YtmjdhfbnmmdjiaaGreatN02
import Derived.Test.YtmjdhfbnmmdjiaaGreatN01
/- Names with their types, and an expression, among the arguments. -/
namespace Go.Proofs.YtmjdhfbnmmdjiaaGreat
open Go.ChangeShapes Go.WideShapes Go.ChangeAt Go.WideMaps Go.WideElems Go.RowKit Go.Deep
section
variable {H : Type} {enc : TypeId × Value → H} {W : World} {base : Nat} {d : DataW H} {p : List MemPlace} {v : Value} {fuel : Nat} {cs : List Value} {X : DataW H × List MemPlace}
set_option maxRecDepth 100000 in
theorem open_bound (hv : Value.okWide Tryz.prog W .any base 36 v) (h : DataW.Trod enc Tryz.prog W 0 (fun _ => true) true 36 v d p) :
    ∃ (mb : Bn) (m : ByteArray × List Nd), v = .agg #[.string mb.s, .slice mb.A mb.n mb.c] ∧ mb.s = m.1 ∧ mb.n = m.2.length ∧ TyV W (fun _ => False) mb.A mb.c m.2 ∧ EnvS [m] := by
  obtain ⟨cs, rfl, hsz⟩ : ∃ cs, v = .agg cs ∧ cs.size = 2 := by
    simp only [Value.okWide, Tryz.underlying36] at hv
    obtain ⟨cs, h1, h2, _⟩ := hv
    exact ⟨cs, h1, h2.trans boundCells⟩
  obtain ⟨fuel, hf⟩ := h
  obtain ⟨mb, m, he, h1, h2, h3, h4⟩ := open_bound0 hf (by simpa [Value.cells] using hsz)
  obtain ⟨l⟩ := cs
  simp [Value.cells] at he
  subst he
  exact ⟨mb, m, rfl, h1, h2, h3, h4⟩
end
end Go.Proofs.YtmjdhfbnmmdjiaaGreat
