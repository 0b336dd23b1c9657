/- More arguments opened: a row of texts, a row of types, a struct of a number and these. -/
import Derived.Test.YtblfeokjlecgkaaDoorOpen
import Derived.Test.YtblfeokjlecgkaaDoorMem
import Derived.SliceStrings
namespace Go.Proofs.YtblfeokjlecgkaaDoor
open Go.ChangeShapes Go.WideShapes Go.ChangeAt Go.WideMaps Go.WideElems Go.RowKit Go.Deep
section
variable {H : Type} {enc : TypeId × Value → H} {W : World} {base : Nat} {d : DataW H} {p : List MemPlace} {v : Value} {fuel : Nat} {cs : List Value} {X : DataW H × List MemPlace}

theorem open_ty0 (hf : DataW.trod enc Tryd.prog W 0 (fun _ => true) true fuel 29 cs = some X) :
    ∃ (A : Option Addr) (xs : List Nd) (c : Nat), cs = [.slice A xs.length c] ∧ TyA W W.heap.size A xs ∧ xs.length ≤ c ∧ xs.length ≤ 9223372036854775807 ∧ ∀ x ∈ xs, x.Ok := by
  rcases open_slice Tryd.underlying29 hf with ⟨hcs, _⟩ | ⟨a, n0, cap, m, n, D, Pl, hcs, _, hl, hcm, hm, _, hel⟩
  · exact ⟨none, [], 0, hcs, TyA.nil, Nat.le_refl _, by simp, by simp⟩
  · simp only [if_true] at hm
    subst hm
    subst hcs
    have hnode : ∀ i, i < n0 → ∃ x : Nd, x.Ok ∧ W.cell? (a.add (i * 3)) = some (.int .i64 x.k) ∧ W.cell? (a.add (i * 3 + 1)) = some (.string x.s) ∧ W.cell? (a.add (i * 3 + 2)) = some (.int .i64 x.n) := fun i hi => by
      obtain ⟨cs', hc, ht⟩ := hel i (by omega)
      rw [nodeCells] at hc
      obtain ⟨_, hlen, hat⟩ := World.cells?_some hc
      match cs', hlen with
      | [v0, v1, v2], _ =>
        obtain ⟨ys, n', _, _, _, _, hfld⟩ := DataW.trod_struct Tryd.underlying38 ht
        have h0 := hfld 0 _ rfl
        have h1 := hfld 1 _ rfl
        have h2 := hfld 2 _ rfl
        change DataW.trod enc Tryd.prog W 0 _ true n' 3 (([v0, v1, v2].drop 0).take (Tryd.prog.cellsOf 3)) = _ at h0
        change DataW.trod enc Tryd.prog W 0 _ true n' 9 (([v0, v1, v2].drop 1).take (Tryd.prog.cellsOf 9)) = _ at h1
        change DataW.trod enc Tryd.prog W 0 _ true n' 3 (([v0, v1, v2].drop 2).take (Tryd.prog.cellsOf 3)) = _ at h2
        rw [show Tryd.prog.cellsOf 3 = 1 by kernel_rfl] at h0 h2
        rw [show Tryd.prog.cellsOf 9 = 1 by kernel_rfl] at h1
        have hne : ∀ j, j < 3 → ∃ y, ys[j]? = some y := fun j hj => by
          have : ys.length = 3 := by assumption
          exact getq_ex (by omega)
        obtain ⟨y0, e0⟩ := hne 0 (by omega)
        obtain ⟨y1, e1⟩ := hne 1 (by omega)
        obtain ⟨y2, e2⟩ := hne 2 (by omega)
        obtain ⟨k, hk, _, hkw⟩ := DataW.trod_int Tryd.underlying3 (h0.trans e0)
        obtain ⟨s, hs, _, hsw⟩ := DataW.trod_string Tryd.underlying9 (h1.trans e1)
        obtain ⟨nn, hnn, _, hnw⟩ := DataW.trod_int Tryd.underlying3 (h2.trans e2)
        simp at hk hs hnn
        subst hk hs hnn
        obtain ⟨k0, k1⟩ := int_ok hkw
        obtain ⟨n0, n1⟩ := int_ok hnw
        refine ⟨⟨k, s, nn⟩, ⟨k0, k1, n0, n1, hsw⟩, ?_, ?_, ?_⟩
        · have := hat 0 (by omega); rw [add_add] at this; simpa using this
        · have := hat 1 (by omega); rw [add_add] at this; simpa using this
        · have := hat 2 (by omega); rw [add_add] at this; simpa using this
    have hch : ∃ f : Nat → Nd, ∀ i, i < n0 → (f i).Ok ∧ W.cell? (a.add (i * 3)) = some (.int .i64 (f i).k) ∧ W.cell? (a.add (i * 3 + 1)) = some (.string (f i).s) ∧ W.cell? (a.add (i * 3 + 2)) = some (.int .i64 (f i).n) :=
      ⟨fun i => if h : i < n0 then Classical.choose (hnode i h) else default, fun i hi => by
        simp only [dif_pos hi]
        exact Classical.choose_spec (hnode i hi)⟩
    obtain ⟨f, hf2⟩ := hch
    have hxl : ((List.range n0).map f).length = n0 := by simp
    have hget : ∀ i x, ((List.range n0).map f)[i]? = some x → i < n0 ∧ x = f i := fun i x hx => by
      have hi : i < n0 := by have := getq_lt hx; simpa using this
      rw [List.getElem?_map, List.getElem?_range hi] at hx
      injection hx with hx
      exact ⟨hi, hx.symm⟩
    refine ⟨some a, (List.range n0).map f, m, by rw [hxl], fun hne => ?_, by rw [hxl]; exact hl, by rw [hxl]; unfold maxLen at hcm; omega, fun x hx => ?_⟩
    · have hn : 0 < n0 := by
        rcases Nat.eq_zero_or_pos n0 with h | h
        · subst h; exact absurd rfl hne
        · exact h
      obtain ⟨b, off, spot⟩ := a
      have h0 := (hf2 0 hn).2.1
      have hspot : spot = none := by simpa [Addr.add] using World.cell?_spot h0
      subst hspot
      simp only [add_plain] at hf2
      refine ⟨b, off, rfl, ?_, ⟨fun i x hx => ?_, fun i x hx => ?_, fun i x hx => ?_⟩⟩
      · exact World.block_lt_of_cell? W _ (hf2 0 hn).2.1
      · obtain ⟨hi, rfl⟩ := hget i x hx; exact (hf2 i hi).2.1
      · obtain ⟨hi, rfl⟩ := hget i x hx; have := (hf2 i hi).2.2.1; rwa [← Nat.add_assoc] at this
      · obtain ⟨hi, rfl⟩ := hget i x hx; have := (hf2 i hi).2.2.2; rwa [← Nat.add_assoc] at this
    · obtain ⟨i, hi, rfl⟩ := List.mem_map.1 hx
      exact (hf2 i (List.mem_range.1 hi)).1

theorem strCells : Tryd.prog.cellsOf 9 = 1 := by kernel_rfl
theorem tyCells : Tryd.prog.cellsOf 29 = 1 := by kernel_rfl

theorem open_strs0 (hf : DataW.trod enc Tryd.prog W 0 (fun _ => true) true fuel 22 cs = some X) :
    ∃ (A : Option Addr) (ls : List ByteArray) (c : Nat), cs = [.slice A ls.length c] ∧ ReadT W W.heap.size A ls ∧ ls.length ≤ c ∧ ls.length ≤ 9223372036854775807 ∧ ∀ s ∈ ls, s.size ≤ 9223372036854775807 := by
  rcases open_strings Tryd.underlying22 Tryd.underlying9 strCells hf with ⟨hcs, _⟩ | ⟨a, len, cap, ss, hcs, _, hl, hcm, hss, _, hel, hsz⟩
  · exact ⟨none, [], 0, hcs, ReadL.nil, Nat.le_refl _, by simp, by simp⟩
  · simp only [if_true] at hss
    have hlen : (ss.take len).length = len := by rw [List.length_take]; omega
    refine ⟨some a, ss.take len, cap, by rw [hlen]; exact hcs, fun hne => ?_, by rw [hlen]; exact hl, by rw [hlen]; unfold maxLen at hcm; omega, fun s hs => hsz s (List.mem_of_mem_take hs)⟩
    have hn : 0 < len := by
      rcases Nat.eq_zero_or_pos len with h | h
      · subst h; exact absurd rfl hne
      · exact h
    have h0 := hel 0 (by omega)
    obtain ⟨b, off, spot⟩ := a
    have hspot : spot = none := by simpa [Addr.add] using World.cell?_spot h0
    subst hspot
    simp only [add_plain] at hel
    refine ⟨b, off, rfl, World.block_lt_of_cell? W _ (hel 0 (by omega)), fun i x hx j u hu => ?_⟩
    have hi : i < len := by have := getq_lt hx; omega
    have hj : j = 0 := by have := getq_lt hu; rw [encT_len] at this; omega
    subst hj
    simp [encT] at hu
    subst hu
    rw [Nat.mul_one, Nat.add_zero]
    have h1 := hel i (by omega)
    rw [List.getElem?_take_of_lt hi] at hx
    rw [h1, List.getD, hx]
    rfl

theorem open_tys0 (hf : DataW.trod enc Tryd.prog W 0 (fun _ => true) true fuel 23 cs = some X) :
    ∃ (V : Option Addr) (vs : List (Option Addr × Nat × Nat)) (xss : List (List Nd)) (c : Nat), cs = [.slice V vs.length c] ∧ ReadS W W.heap.size V vs ∧ Sls W W.heap.size vs xss ∧ vs.length ≤ c ∧ vs.length ≤ 9223372036854775807 ∧
      (∀ xs ∈ xss, xs.length ≤ 9223372036854775807 ∧ ∀ x ∈ xs, x.Ok) ∧ (∀ (i : Nat) (v : Option Addr × Nat × Nat), vs[i]? = some v → v.2.1 ≤ v.2.2) := by
  rcases open_slice1 Tryd.underlying23 tyCells hf with ⟨hcs, _⟩ | ⟨a, len, cap, m, n, U, D, Pl, hcs, _, hl, hcm, hm, _, hel⟩
  · exact ⟨none, [], [], 0, hcs, ReadL.nil, ⟨rfl, fun i v xs hv => by simp at hv⟩, Nat.le_refl _, by simp, by simp, by simp⟩
  · simp only [if_true] at hm
    subst hm
    have hty : ∀ i, i < len → ∃ q : (Option Addr × Nat × Nat) × List Nd, U i = .slice q.1.1 q.1.2.1 q.1.2.2 ∧ q.1.2.1 = q.2.length ∧ TyA W W.heap.size q.1.1 q.2 ∧ q.2.length ≤ q.1.2.2 ∧ q.2.length ≤ 9223372036854775807 ∧ ∀ x ∈ q.2, x.Ok := fun i hi => by
      obtain ⟨A, xs, c, h1, h2, h3, h4, h5⟩ := open_ty0 (hel i (by omega)).2
      exact ⟨((A, xs.length, c), xs), by simpa using h1, rfl, h2, h3, h4, h5⟩
    obtain ⟨f, hf2⟩ : ∃ f : Nat → (Option Addr × Nat × Nat) × List Nd, ∀ i, i < len → U i = .slice (f i).1.1 (f i).1.2.1 (f i).1.2.2 ∧ (f i).1.2.1 = (f i).2.length ∧ TyA W W.heap.size (f i).1.1 (f i).2 ∧ (f i).2.length ≤ (f i).1.2.2 ∧ (f i).2.length ≤ 9223372036854775807 ∧ ∀ x ∈ (f i).2, x.Ok :=
      ⟨fun i => if h : i < len then Classical.choose (hty i h) else ((none, 0, 0), []), fun i hi => by
        simp only [dif_pos hi]
        exact Classical.choose_spec (hty i hi)⟩
    have hget : ∀ {β : Type} (g : Nat → β) i x, ((List.range len).map g)[i]? = some x → i < len ∧ x = g i := fun g i x hx => by
      have hi : i < len := by have := getq_lt hx; simpa using this
      rw [List.getElem?_map, List.getElem?_range hi] at hx
      injection hx with hx
      exact ⟨hi, hx.symm⟩
    have hlen : ((List.range len).map fun i => (f i).1).length = len := by simp
    refine ⟨some a, (List.range len).map fun i => (f i).1, (List.range len).map fun i => (f i).2, m, by rw [hlen]; exact hcs, fun hne => ?_, ⟨by simp, fun i v xs hv hx => ?_⟩, by rw [hlen]; exact hl, by rw [hlen]; unfold maxLen at hcm; omega, fun xs hx => ?_, fun i v hv => ?_⟩
    · have hn : 0 < len := by
        rcases Nat.eq_zero_or_pos len with h | h
        · subst h; exact absurd rfl hne
        · exact h
      have h0 := (hel 0 (by omega)).1
      obtain ⟨b, off, spot⟩ := a
      have hspot : spot = none := by simpa [Addr.add] using World.cell?_spot h0
      subst hspot
      simp only [add_plain] at hel
      refine ⟨b, off, rfl, World.block_lt_of_cell? W _ (hel 0 (by omega)).1, fun i x hx j u hu => ?_⟩
      obtain ⟨hi, rfl⟩ := hget _ i x hx
      have hj : j = 0 := by have := getq_lt hu; rw [encS_len] at this; omega
      subst hj
      simp [encS] at hu
      subst hu
      rw [Nat.mul_one, Nat.add_zero, (hel i (by omega)).1, (hf2 i hi).1]
    · obtain ⟨hi, rfl⟩ := hget _ i v hv
      obtain ⟨_, rfl⟩ := hget _ i xs hx
      exact ⟨(hf2 i hi).2.1, (hf2 i hi).2.2.1⟩
    · obtain ⟨i, hi, rfl⟩ := List.mem_map.1 hx
      have := hf2 i (List.mem_range.1 hi)
      exact ⟨this.2.2.2.2.1, this.2.2.2.2.2⟩
    · obtain ⟨hi, rfl⟩ := hget _ i v hv
      have := hf2 i hi
      show (f i).1.2.1 ≤ _
      rw [this.2.1]
      exact this.2.2.2.1

theorem makesCells : Tryd.prog.cellsOf 25 = 3 := by kernel_rfl

set_option maxRecDepth 100000 in
/-- The struct that TyMakes takes. -/
theorem open_makes (hv : Value.okWide Tryd.prog W .any base 25 v) (h : DataW.Trod enc Tryd.prog W 0 (fun _ => true) true 25 v d p) :
    ∃ (kind : Int) (L V : Option Addr) (cl cv : Nat) (ls : List ByteArray) (vs : List (Option Addr × Nat × Nat)) (xss : List (List Nd)), v = .agg #[.int .i64 kind, .slice L ls.length cl, .slice V vs.length cv] ∧
      ReadT W W.heap.size L ls ∧ ReadS W W.heap.size V vs ∧ Sls W W.heap.size vs xss ∧ ls.length ≤ 9223372036854775807 ∧ vs.length ≤ 9223372036854775807 ∧
      (∀ xs ∈ xss, xs.length ≤ 9223372036854775807 ∧ ∀ x ∈ xs, x.Ok) ∧ (∀ s ∈ ls, s.size ≤ 9223372036854775807) := by
  obtain ⟨cs, rfl, hsz⟩ := okWide_struct Tryd.underlying25 hv
  rw [makesCells] at hsz
  obtain ⟨fuel, hf⟩ := h
  obtain ⟨v0, v1, v2, hcs⟩ : ∃ v0 v1 v2, cs = #[v0, v1, v2] := by
    obtain ⟨l⟩ := cs
    have hl : l.length = 3 := hsz
    match l, hl with
    | [v0, v1, v2], _ => exact ⟨v0, v1, v2, rfl⟩
  subst hcs
  obtain ⟨ys, n', _, _, _, hyl, hfld⟩ := DataW.trod_struct Tryd.underlying25 hf
  have h0 := hfld 0 _ rfl
  have h1 := hfld 1 _ rfl
  have h2 := hfld 2 _ rfl
  change DataW.trod enc Tryd.prog W 0 _ true n' 3 (([v0, v1, v2].drop 0).take (Tryd.prog.cellsOf 3)) = _ at h0
  change DataW.trod enc Tryd.prog W 0 _ true n' 22 (([v0, v1, v2].drop 1).take (Tryd.prog.cellsOf 22)) = _ at h1
  change DataW.trod enc Tryd.prog W 0 _ true n' 23 (([v0, v1, v2].drop 2).take (Tryd.prog.cellsOf 23)) = _ at h2
  rw [show Tryd.prog.cellsOf 3 = 1 by kernel_rfl] at h0
  rw [show Tryd.prog.cellsOf 22 = 1 by kernel_rfl] at h1
  rw [show Tryd.prog.cellsOf 23 = 1 by kernel_rfl] at h2
  have hne : ∀ j, j < 3 → ∃ y, ys[j]? = some y := fun j hj => by
    have : ys.length = 3 := hyl
    exact getq_ex (by omega)
  obtain ⟨y0, e0⟩ := hne 0 (by omega)
  obtain ⟨y1, e1⟩ := hne 1 (by omega)
  obtain ⟨y2, e2⟩ := hne 2 (by omega)
  obtain ⟨k, hk, _, _⟩ := DataW.trod_int Tryd.underlying3 (h0.trans e0)
  obtain ⟨L, ls, cl, hL, tL, _, lL, sL⟩ := open_strs0 (h1.trans e1)
  obtain ⟨V, vs, xss, cv, hV, tV, tS, _, lV, xV, _⟩ := open_tys0 (h2.trans e2)
  simp at hk hL hV
  subst hk hL hV
  exact ⟨k, L, V, cl, cv, ls, vs, xss, rfl, tL, tV, tS, lL, lV, xV, sL⟩
end
end Go.Proofs.YtblfeokjlecgkaaDoor
