/- TermTwo returns true at every input, and what was handed in reads behind the call as it read before. Conditions: none beyond the row's own. -/
import Derived.Test.YtblfeokjlecgkaaOpenT
import Derived.OpenShut
import Derived.Test.YtblfeokjlecgkaaLawTTwo
namespace Go.Proofs.Ytblfeokjlecgkaa
open Go.ChangeShapes Go.WideShapes Go.ChangeAt Go.WideMaps Go.WideElems Go.RowKit Go.Deep
section
variable {H : Type} {enc : TypeId × Value → H} {W : World} {base : Nat} {d : DataW H} {p : List MemPlace} {v : Value} {fuel : Nat} {cs : List Value} {X : DataW H × List MemPlace}

theorem open_ty0 (hf : DataW.trod enc Try.prog W 0 (fun _ => true) true fuel 34 cs = some X) :
    ∃ (A : Option Addr) (xs : List Nd) (c : Nat), cs = [.slice A xs.length c] ∧ TyA W W.heap.size A xs ∧ xs.length ≤ c ∧ xs.length ≤ 9223372036854775807 ∧ ∀ x ∈ xs, x.Ok := by
  rcases open_slice Try.underlying34 hf with ⟨hcs, _⟩ | ⟨a, n0, cap, m, n, D, Pl, hcs, _, hl, hcm, hm, _, hel⟩
  · exact ⟨none, [], 0, hcs, TyA.nil, Nat.le_refl _, by simp, by simp⟩
  · simp only [if_true] at hm
    subst hm
    subst hcs
    have hnode : ∀ i, i < n0 → ∃ x : Nd, x.Ok ∧ W.cell? (a.add (i * 3)) = some (.int .i64 x.k) ∧ W.cell? (a.add (i * 3 + 1)) = some (.string x.s) ∧ W.cell? (a.add (i * 3 + 2)) = some (.int .i64 x.n) := fun i hi => by
      obtain ⟨cs', hc, ht⟩ := hel i (by omega)
      rw [nodeCells] at hc
      obtain ⟨_, hlen, hat⟩ := World.cells?_some hc
      match cs', hlen with
      | [v0, v1, v2], _ =>
        obtain ⟨ys, n', _, _, _, _, hfld⟩ := DataW.trod_struct Try.underlying48 ht
        have h0 := hfld 0 _ rfl
        have h1 := hfld 1 _ rfl
        have h2 := hfld 2 _ rfl
        change DataW.trod enc Try.prog W 0 _ true n' 3 (([v0, v1, v2].drop 0).take (Try.prog.cellsOf 3)) = _ at h0
        change DataW.trod enc Try.prog W 0 _ true n' 9 (([v0, v1, v2].drop 1).take (Try.prog.cellsOf 9)) = _ at h1
        change DataW.trod enc Try.prog W 0 _ true n' 3 (([v0, v1, v2].drop 2).take (Try.prog.cellsOf 3)) = _ at h2
        rw [show Try.prog.cellsOf 3 = 1 by kernel_rfl] at h0 h2
        rw [show Try.prog.cellsOf 9 = 1 by kernel_rfl] at h1
        have hne : ∀ j, j < 3 → ∃ y, ys[j]? = some y := fun j hj => by
          have : ys.length = 3 := by assumption
          exact getq_ex (by omega)
        obtain ⟨y0, e0⟩ := hne 0 (by omega)
        obtain ⟨y1, e1⟩ := hne 1 (by omega)
        obtain ⟨y2, e2⟩ := hne 2 (by omega)
        obtain ⟨k, hk, _, hkw⟩ := DataW.trod_int Try.underlying3 (h0.trans e0)
        obtain ⟨s, hs, _, hsw⟩ := DataW.trod_string Try.underlying9 (h1.trans e1)
        obtain ⟨nn, hnn, _, hnw⟩ := DataW.trod_int Try.underlying3 (h2.trans e2)
        simp at hk hs hnn
        subst hk hs hnn
        obtain ⟨k0, k1⟩ := int_ok hkw
        obtain ⟨n0, n1⟩ := int_ok hnw
        refine ⟨⟨k, s, nn⟩, ⟨k0, k1, n0, n1, hsw⟩, ?_, ?_, ?_⟩
        · have := hat 0 (by omega); rw [add_add] at this; simpa using this
        · have := hat 1 (by omega); rw [add_add] at this; simpa using this
        · have := hat 2 (by omega); rw [add_add] at this; simpa using this
    have hch : ∃ f : Nat → Nd, ∀ i, i < n0 → (f i).Ok ∧ W.cell? (a.add (i * 3)) = some (.int .i64 (f i).k) ∧ W.cell? (a.add (i * 3 + 1)) = some (.string (f i).s) ∧ W.cell? (a.add (i * 3 + 2)) = some (.int .i64 (f i).n) :=
      ⟨fun i => if h : i < n0 then Classical.choose (hnode i h) else default, fun i hi => by
        simp only [dif_pos hi]
        exact Classical.choose_spec (hnode i hi)⟩
    obtain ⟨f, hf2⟩ := hch
    have hxl : ((List.range n0).map f).length = n0 := by simp
    have hget : ∀ i x, ((List.range n0).map f)[i]? = some x → i < n0 ∧ x = f i := fun i x hx => by
      have hi : i < n0 := by have := getq_lt hx; simpa using this
      rw [List.getElem?_map, List.getElem?_range hi] at hx
      injection hx with hx
      exact ⟨hi, hx.symm⟩
    refine ⟨some a, (List.range n0).map f, m, by rw [hxl], fun hne => ?_, by rw [hxl]; exact hl, by rw [hxl]; unfold maxLen at hcm; omega, fun x hx => ?_⟩
    · have hn : 0 < n0 := by
        rcases Nat.eq_zero_or_pos n0 with h | h
        · subst h; exact absurd rfl hne
        · exact h
      obtain ⟨b, off, spot⟩ := a
      have h0 := (hf2 0 hn).2.1
      have hspot : spot = none := by simpa [Addr.add] using World.cell?_spot h0
      subst hspot
      simp only [add_plain] at hf2
      refine ⟨b, off, rfl, ?_, ⟨fun i x hx => ?_, fun i x hx => ?_, fun i x hx => ?_⟩⟩
      · exact World.block_lt_of_cell? W _ (hf2 0 hn).2.1
      · obtain ⟨hi, rfl⟩ := hget i x hx; exact (hf2 i hi).2.1
      · obtain ⟨hi, rfl⟩ := hget i x hx; have := (hf2 i hi).2.2.1; rwa [← Nat.add_assoc] at this
      · obtain ⟨hi, rfl⟩ := hget i x hx; have := (hf2 i hi).2.2.2; rwa [← Nat.add_assoc] at this
    · obtain ⟨i, hi, rfl⟩ := List.mem_map.1 hx
      exact (hf2 i (List.mem_range.1 hi)).1

set_option maxRecDepth 100000 in
theorem okWide_pair {t e : TypeId} (ht : Try.prog.underlying t = some (.array 2 e)) (hc : Try.prog.cellsOf t = 2) (hv : Value.okWide Try.prog W .any base t v) : ∃ v0 v1, v = .agg #[v0, v1] := by
  simp only [Value.okWide, ht] at hv
  obtain ⟨cs, h1, h2, _⟩ := hv
  rw [hc] at h2
  obtain ⟨l⟩ := cs
  have hl : l.length = 2 := h2
  match l, hl with
  | [v0, v1], _ => exact ⟨v0, v1, h1⟩

set_option maxRecDepth 100000 in
theorem open_ints2 (hv : Value.okWide Try.prog W .any base 73 v) (h : DataW.Trod enc Try.prog W 0 (fun _ => true) true 73 v d p) : ∃ n0 n1 : Int, v = .agg #[.int .i64 n0, .int .i64 n1] := by
  obtain ⟨v0, v1, rfl⟩ := okWide_pair Try.underlying73 (by kernel_rfl) hv
  obtain ⟨fuel, hf⟩ := h
  obtain ⟨xs, m, _, _, _, hl, hat⟩ := DataW.trod_array Try.underlying73 hf
  have h0 := hat 0 (by omega)
  have h1 := hat 1 (by omega)
  rw [show Try.prog.cellsOf 3 = 1 by kernel_rfl] at h0 h1
  obtain ⟨y0, e0⟩ := getq_ex (show 0 < xs.length by omega)
  obtain ⟨y1, e1⟩ := getq_ex (show 1 < xs.length by omega)
  obtain ⟨k0, hk0, _, _⟩ := DataW.trod_int Try.underlying3 (h0.trans e0)
  obtain ⟨k1, hk1, _, _⟩ := DataW.trod_int Try.underlying3 (h1.trans e1)
  simp [Value.cells] at hk0 hk1
  subst hk0 hk1
  exact ⟨k0, k1, rfl⟩

set_option maxRecDepth 100000 in
theorem open_tys2 (hv : Value.okWide Try.prog W .any base 54 v) (h : DataW.Trod enc Try.prog W 0 (fun _ => true) true 54 v d p) :
    ∃ (U0 : Option Addr) (u0 : List Nd) (c0 : Nat) (U1 : Option Addr) (u1 : List Nd) (c1 : Nat), v = .agg #[.slice U0 u0.length c0, .slice U1 u1.length c1] ∧ (TyA W W.heap.size U0 u0 ∧ u0.length ≤ c0 ∧ u0.length ≤ 9223372036854775807 ∧ ∀ x ∈ u0, x.Ok) ∧ (TyA W W.heap.size U1 u1 ∧ u1.length ≤ c1 ∧ u1.length ≤ 9223372036854775807 ∧ ∀ x ∈ u1, x.Ok) := by
  obtain ⟨v0, v1, rfl⟩ := okWide_pair Try.underlying54 (by kernel_rfl) hv
  obtain ⟨fuel, hf⟩ := h
  obtain ⟨xs, m, _, _, _, hl, hat⟩ := DataW.trod_array Try.underlying54 hf
  have h0 := hat 0 (by omega)
  have h1 := hat 1 (by omega)
  rw [show Try.prog.cellsOf 34 = 1 by kernel_rfl] at h0 h1
  obtain ⟨y0, e0⟩ := getq_ex (show 0 < xs.length by omega)
  obtain ⟨y1, e1⟩ := getq_ex (show 1 < xs.length by omega)
  obtain ⟨U0, u0, c0, hu0, a0, b0, l0, o0⟩ := open_ty0 (h0.trans e0)
  obtain ⟨U1, u1, c1, hu1, a1, b1, l1, o1⟩ := open_ty0 (h1.trans e1)
  simp [Value.cells] at hu0 hu1
  subst hu0 hu1
  exact ⟨U0, u0, c0, U1, u1, c1, rfl, ⟨a0, b0, l0, o0⟩, ⟨a1, b1, l1, o1⟩⟩
end
end Go.Proofs.Ytblfeokjlecgkaa

namespace Go.Proofs.Ytblfeokjlecgkaa
open Go.ChangeShapes Go.WideShapes Go.ChangeAt Go.WideMaps Go.WideElems Go.RowKit Go.Deep

set_option maxRecDepth 100000 in
theorem termTwo_lifted (os : Os) (started : os.Started) (H : Type) (enc : TypeId × Value → H) :
    ReturnsInHanded {} Try.checked os 11 .any (Rows.termTwoSpec.pre6 enc Try.prog Try.f11 Rows.termTwoRow.domain false) (Rows.termTwoSpec.post enc Try.prog Try.f11 false true false false) := by
  refine returnsInHanded_of_change (C := Try.checked) own started (by kernel_rfl) Try.func11
    (ChangeSpec.witness6 (enc := enc) (C := Try.checked) false ⟨#[], #[.slice none 0 0, .agg #[.int .i64 0, .int .i64 0], .agg #[.slice none 0 0, .slice none 0 0]], []⟩ 8 (by kernel_rfl) (by kernel_rfl) (by kernel_rfl) (by kernel_rfl)) ?_
  intro W base args ds gs before hval0 hW _ _
  have hval : ∀ (j : Nat) t v, Try.f11.params[j]? = some t → args[j]? = some v → Value.okWide Try.prog W .any base t v := hval0
  have hW' := hW
  obtain ⟨p, q, hA0, hV, rfl, _, _⟩ := hW
  have hA : DataW.TrodAll enc Try.prog W 0 (fun _ => true) true Try.f11.params.toList args.toList ds p := hA0
  rw [Try.params11] at hA hval
  obtain ⟨v0, v1, v2, d0, d1, d2, p0, p1, p2, rfl, rfl, rfl, h0, h1, h2⟩ := trodAll_three hA
  obtain ⟨rfl, rfl⟩ := trodVars_none hV
  obtain ⟨A, x, c, rfl, t, hc, l, o⟩ := open_ty (hval 0 34 v0 rfl rfl) h0
  obtain ⟨n0, n1, rfl⟩ := open_ints2 (hval 1 73 v1 rfl rfl) h1
  obtain ⟨U0, u0, c0, U1, u1, c1, rfl, ⟨t0, hc0, l0, o0⟩, t1, hc1, l1, o1⟩ := open_tys2 (hval 2 54 v2 rfl rfl) h2
  clear hA0 hval0
  simp only [List.append_nil] at hW'
  have hlt0 : ∀ x ∈ p0, x.block < W.heap.size := fun x hx => by simpa using hW'.lt x (by simp [hx])
  have hlt1 : ∀ x ∈ p1, x.block < W.heap.size := fun x hx => by simpa using hW'.lt x (by simp [hx])
  have hlt2 : ∀ x ∈ p2, x.block < W.heap.size := fun x hx => by simpa using hW'.lt x (by simp [hx])
  have ha0 : ∀ (W' : World), Below W.heap.size W W' → DataW.Trod enc Try.prog W' 0 (fun b => decide (b < W.heap.size)) true 34 (.slice A x.length c) d0 p0 := fun W' hn => Below.trod laidOutT (by kernel_rfl) (of_decide_eq_true (by kernel_rfl)) h0 hn hlt0
  have ha1 : ∀ (W' : World), Below W.heap.size W W' → DataW.Trod enc Try.prog W' 0 (fun b => decide (b < W.heap.size)) true 73 (.agg #[.int .i64 n0, .int .i64 n1]) d1 p1 := fun W' hn => Below.trod laidOutT (by kernel_rfl) (of_decide_eq_true (by kernel_rfl)) h1 hn hlt1
  have ha2 : ∀ (W' : World), Below W.heap.size W W' → DataW.Trod enc Try.prog W' 0 (fun b => decide (b < W.heap.size)) true 54 (.agg #[.slice U0 u0.length c0, .slice U1 u1.length c1]) d2 p2 := fun W' hn => Below.trod laidOutT (by kernel_rfl) (of_decide_eq_true (by kernel_rfl)) h2 hn hlt2
  refine (termTwo_law A U0 U1 c c0 c1 x u0 u1 n0 n1 W t t0 t1 hc hc0 hc1 l l0 l1 o o0 o1).mono fun e W' ⟨he, hnx⟩ => ?_
  subst he
  exact ⟨_, rfl, _, _, _, [], _, [], hW', trodAll_mk1 (shut_bool Try.underlying4 true), trodAll_mk3 (ha0 _ hnx) (ha1 _ hnx) (ha2 _ hnx), rfl, hnx.frame _, fun h => by cases h⟩

theorem termTwo_holds : Rows.TermTwoSaid :=
  OpenClaim.holds_of_wide 11 Try.f11 rfl rfl rfl rfl rfl rfl rfl ⟨rfl, rfl, rfl, rfl, rfl⟩ rfl rfl rfl rfl rfl (by kernel_rfl) Try.func11 (by kernel_rfl)
    (of_decide_eq_true (by kernel_rfl)) (by unfold Func.isWrapper; first | (rw [if_pos (by decide +kernel)]; kernel_rfl) | (rw [if_neg (by decide +kernel)]; exact ⟨rfl, rfl⟩))
    (fun os started H enc _ => termTwo_lifted os started H enc)
end Go.Proofs.Ytblfeokjlecgkaa
