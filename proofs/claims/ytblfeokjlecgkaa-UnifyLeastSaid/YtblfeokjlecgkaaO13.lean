/- Laid together by a tool from the texts of this seat: UniI UniJ UniK UniL UniM. Conditions: each theorem's own. -/
import Derived.Test.YtblfeokjlecgkaaO12
/- Types and their trees: there and back. -/
namespace Go.Proofs.Ytblfeokjlecgkaa

/-- What a node of a type's tree is, whatever its numbers are. -/
structure nodeWf (k n : Int) (fs : Fl) (tl : Option Int) : Prop where
  nd : (labsF fs).Nodup
  lf : k = 0 ∨ k = 8 → fs = [] ∧ tl = none
  n0 : k ≠ 8 → n = 0
  n8 : k = 8 → 0 ≤ n
  sh : nodeSh k fs tl
  row : isRowB k = true → Rise fs ∧ ∀ l ∈ labsF fs, rowLabelB k l = true
  tn : ∀ p, tl = some p → 0 ≤ p
  len : isRowB k = true → fs.length + (tailN tl).length ≤ 50
  un : k = 7 → 0 < fs.length + (tailN tl).length

def wfT : Ut → Prop
  | .mk k n fs tl => nodeWf k n fs tl ∧ ∀ p ∈ fs, wfT p.2
termination_by t => SizeOf.sizeOf t
decreasing_by exact Ut.size_mem (by assumption)
theorem wfT_mk {k n : Int} {fs : Fl} {tl : Option Int} : wfT (.mk k n fs tl) ↔ nodeWf k n fs tl ∧ ∀ p ∈ fs, wfT p.2 := by rw [wfT]

theorem labsF_zip : ∀ {ls : List Lb} {us : List Ut}, ls.length = us.length → labsF (ls.zip us) = ls
  | [], [], _ => rfl
  | l :: ls, u :: us, h => by
    have := labsF_zip (ls := ls) (us := us) (by simpa using h)
    simp only [labsF, List.zip_cons_cons, List.map_cons] at this ⊢
    rw [this]
  | [], _ :: _, h => by simp at h
  | _ :: _, [], h => by simp at h
theorem zip_mem {ls : List Lb} {us : List Ut} {p : Lb × Ut} (h : p ∈ ls.zip us) : p.2 ∈ us := (List.of_mem_zip h).2

theorem tOf_one (tss : List (List Nd)) : tOf tss = [] ∨ ∃ t, tOf tss = [t] := by
  unfold tOf
  split
  · next h =>
    rcases Nat.eq_zero_or_pos tss.length with e | e
    · left; rw [List.eq_nil_of_length_eq_zero e]; rfl
    · right
      have : (tss.drop (tss.length - 1)).length = 1 := by rw [List.length_drop]; omega
      exact List.length_eq_one_iff.1 this
  · exact .inl rfl
theorem lt_len (tss : List (List Nd)) : (lOf tss).length + (tOf tss).length = tss.length := by
  have := congrArg List.length (lOf_tOf tss)
  simpa using this
theorem tailN_tlU {tss : List (List Nd)} (h : ∀ ts ∈ tOf tss, ∃ n, 0 ≤ n ∧ ts = [⟨9, ByteArray.empty, n⟩]) : tailN (tlU tss) = (tOf tss).flatten ∧ (tailN (tlU tss)).length = (tOf tss).length ∧ ∀ p, tlU tss = some p → 0 ≤ p ∧ tOf tss = [[⟨9, ByteArray.empty, p⟩]] := by
  rcases tOf_one tss with e | ⟨t, e⟩
  · unfold tlU; rw [e]; exact ⟨rfl, rfl, fun p hp => by simp at hp⟩
  · obtain ⟨n, h0, ht⟩ := h t (by rw [e]; simp)
    unfold tlU
    rw [e, ht]
    refine ⟨rfl, rfl, fun p hp => ?_⟩
    simp [headNd] at hp
    subst hp
    exact ⟨h0, rfl⟩

/-- The three kinds of nodes. -/
theorem node_kinds {x : Nd} {tss : List (List Nd)} (ok : okNode x.k x.n = true) (k9 : x.k ≠ 9) (tr : Trees (manyN x) tss.flatten tss) :
    (x.k = 5 ∧ x.n = 0 ∧ ∃ a b, tss = [a, b]) ∨ (isRowB x.k = true ∧ x.n = (tss.length : Nat) ∧ tss.length ≤ 50 ∧ (x.k = 7 → 0 < tss.length)) ∨ (x.k ≠ 5 ∧ isRowB x.k = false ∧ tss = [] ∧ 0 ≤ x.k ∧ x.k ≤ 8 ∧ (x.k ≠ 8 → x.k ≠ 0 → x.n = 0) ∧ 0 ≤ x.n) := by
  have hm := tr.len
  unfold okNode at ok
  by_cases h5 : x.k = 5
  · left
    have : manyN x = 2 := by unfold manyN many; simp [h5]
    rw [this] at hm
    refine ⟨h5, ?_, ?_⟩
    · rw [if_neg (by omega), if_neg (by omega), if_neg (by omega)] at ok
      exact (of_decide_eq_true ok).2.2
    · match tss, hm with
      | [a, b], _ => exact ⟨a, b, rfl⟩
  · right
    cases hr : isRowB x.k with
    | true =>
      left
      have e := rowMany (y := x) (by unfold okNode; exact ok) hr
      have h67 : x.k = 6 ∨ x.k = 7 := by simpa [isRowB] using hr
      refine ⟨rfl, by rw [← e, hm]; omega, ?_, fun h7 => ?_⟩
      · rw [hm]
        rcases h67 with h | h
        · rw [if_neg (by omega), if_pos h] at ok
          have := (of_decide_eq_true ok).2
          omega
        · rw [if_neg (by omega), if_neg (by omega), if_pos h] at ok
          have := (of_decide_eq_true ok).2
          omega
      · rw [if_neg (by omega), if_neg (by omega), if_pos h7] at ok
        have := (of_decide_eq_true ok).1
        omega
    | false =>
      right
      have : manyN x = 0 := by unfold manyN many; simp [h5, hr]
      rw [this] at hm
      have h67 : x.k ≠ 6 ∧ x.k ≠ 7 := by simpa [isRowB] using hr
      refine ⟨h5, rfl, List.eq_nil_of_length_eq_zero hm, ?_⟩
      split at ok
      · next h => have := of_decide_eq_true ok; omega
      · next h =>
        rw [if_neg h67.1, if_neg h67.2] at ok
        have := of_decide_eq_true ok
        omega

theorem lOf_eq {tss : List (List Nd)} (h : tOf tss = []) : lOf tss = tss := by
  have := lOf_tOf tss
  rw [h, List.append_nil] at this
  exact this
theorem labsT_length (l : List (List Nd)) : (labsT l).length = l.length := by simp [labsT]

theorem rise_zip {ls : List Lb} {us : List Ut} (hl : ls.length = us.length) (h : ls.Pairwise fun a b => ltB a b = true) : Rise (ls.zip us) := by
  unfold Rise
  have : (labsF (ls.zip us)).Pairwise fun a b => ltB a b = true := by rw [labsF_zip hl]; exact h
  exact List.pairwise_map.1 this

theorem gd_wf {ts : List Nd} (h : GdT ts) : wfT (utT ts) := by
  induction h with
  | mk x tss ok k9 tr ch row els tl ih =>
    rw [utT_cons tr, wfT_mk]
    refine ⟨?_, fun p hp => ?_⟩
    · obtain ⟨t1, t2, t3⟩ := tailN_tlU tl
      rcases node_kinds ok k9 tr with ⟨h5, hn, a, b, rfl⟩ | ⟨hr, hn, hl, hu⟩ | ⟨h5, hr, rfl, h0, h8, hn0, hnn⟩
      · have hr : isRowB x.k = false := by rw [h5]; rfl
        have e := (els hr).1
        have e2 : tlU [a, b] = none := by unfold tlU; rw [e]; rfl
        rw [lOf_eq e, e2, h5]
        refine ⟨(show [lA, lB].Nodup by decide), by omega, fun _ => by simp, by omega, ⟨by omega, by omega, fun _ => ⟨⟨_, _, rfl⟩, rfl⟩, fun e => absurd rfl e⟩, fun e => (by simp [isRowB] at e), fun p hp => (by cases hp), fun e => (by simp [isRowB] at e), by omega⟩
      · obtain ⟨r1, r2⟩ := row hr
        have h67 : x.k = 6 ∨ x.k = 7 := by simpa [isRowB] using hr
        have hlu : labsU x.k (lOf tss) = labsT (lOf tss) := by unfold labsU; rw [if_neg (by omega)]
        have hz : (labsT (lOf tss)).length = ((lOf tss).map utT).length := by rw [labsT_length, List.length_map]
        have hfl : ((labsT (lOf tss)).zip ((lOf tss).map utT)).length = (lOf tss).length := by rw [List.length_zip, labsT_length, List.length_map, Nat.min_self]
        have hlt := lt_len tss
        rw [hlu]
        refine ⟨?_, by omega, fun e => if_neg e, by omega, ⟨by omega, by omega, by omega, fun _ e => (by rw [hr] at e; cases e)⟩, fun _ => ⟨rise_zip hz r1, by rw [labsF_zip hz]; exact r2⟩, fun p hp => (t3 p hp).1, fun _ => by rw [hfl, t2]; omega, fun h7 => by rw [hfl, t2]; have := hu h7; omega⟩
        exact (rise_zip hz r1).nodup
      · have e2 : tlU [] = none := rfl
        have e3 : (labsU x.k (lOf [])).zip ((lOf []).map utT) = [] := by simp [lOf, tailB]
        rw [e2, e3]
        refine ⟨List.nodup_nil, fun _ => ⟨rfl, rfl⟩, fun e => if_neg e, fun e => by rw [if_pos e]; exact hnn, ⟨h0, h8, fun e => absurd e h5, fun _ _ => ⟨rfl, rfl⟩⟩, fun e => (by rw [hr] at e; cases e), fun p hp => (by cases hp), fun e => (by rw [hr] at e; cases e), fun e => by rw [e] at hr; cases hr⟩
    · obtain ⟨t, ht, hpt⟩ := List.mem_map.1 (zip_mem hp)
      rw [← hpt]
      exact ih t ht

end Go.Proofs.Ytblfeokjlecgkaa

/- Trees, laid out, are types; what numbers they have. -/
namespace Go.Proofs.Ytblfeokjlecgkaa

theorem GdT.fo {ts : List Nd} (h : GdT ts) : Fo 1 ts := by
  cases h with
  | mk x tss ok k9 tr ch row els tl =>
    have := Fo.cons (n := 0) tr.fo Fo.zero
    simpa using this
theorem GdT.ne {ts : List Nd} (h : GdT ts) : ts ≠ [] := by cases h; simp

theorem flF_flat (fs : Fl) : flF fs = (fs.map fun p => flT p.1 p.2).flatten := by
  induction fs with
  | nil => rw [flF_nil]; rfl
  | cons p fs ih => rw [flF_cons, ih, List.map_cons, List.flatten_cons]

theorem wfT.k9 {t : Ut} (h : wfT t) : t.k ≠ 9 := by
  obtain ⟨k, n, fs, tl⟩ := t
  rw [wfT_mk] at h
  have := h.1.sh.2.1
  show k ≠ 9
  omega

/-- What numbers a tree has. -/
theorem occ_fl (v : Int) : ∀ t, shT t → ∀ s, occN v t ↔ ∃ x ∈ flT s t, isVarB x.k = true ∧ x.n = v := by
  refine Ut.ind fun k n fs tl ih h s => ?_
  rw [shT_mk] at h
  obtain ⟨⟨k0, k8, s5, sE⟩, hc⟩ := h
  rw [occN_mk, flT_mk]
  have ht : tl = some v ↔ ∃ x ∈ tailN tl, isVarB x.k = true ∧ x.n = v := by
    cases tl with
    | none => simp [tailN]
    | some p => simp [tailN, isVarB]
  cases hr : isRowB k with
  | true =>
    have h67 : k = 6 ∨ k = 7 := by simpa [isRowB] using hr
    rw [if_pos rfl, ht]
    have hk : isVarB k = false := by unfold isVarB; rcases h67 with e | e <;> rw [e] <;> rfl
    constructor
    · rintro (e | ⟨x, hx, e⟩ | ⟨p, hp, e⟩)
      · omega
      · exact ⟨x, List.mem_cons_of_mem _ (List.mem_append_right _ hx), e⟩
      · obtain ⟨x, hx, e⟩ := (ih p hp (hc p hp) p.1).1 e
        exact ⟨x, List.mem_cons_of_mem _ (List.mem_append_left _ (by rw [flF_flat]; exact List.mem_flatten.2 ⟨_, List.mem_map.2 ⟨p, hp, rfl⟩, hx⟩)), e⟩
    · rintro ⟨x, hx, e⟩
      rcases List.mem_cons.1 hx with rfl | hx
      · rw [hk] at e; cases e.1
      · rcases List.mem_append.1 hx with hx | hx
        · rw [flF_flat] at hx
          obtain ⟨l, hl, hx⟩ := List.mem_flatten.1 hx
          obtain ⟨p, hp, rfl⟩ := List.mem_map.1 hl
          exact .inr (.inr ⟨p, hp, (ih p hp (hc p hp) p.1).2 ⟨x, hx, e⟩⟩)
        · exact .inr (.inl ⟨x, hx, e⟩)
  | false =>
    rw [if_neg (by simp)]
    have hE : ∀ gs : Fl, flE gs = (gs.map fun p => flT ByteArray.empty p.2).flatten := fun gs => by
      induction gs with
      | nil => rw [flE_nil]; rfl
      | cons p gs ih => rw [flE_cons, ih, List.map_cons, List.flatten_cons]
    have ht0 : tl = none := by
      by_cases h5 : k = 5
      · exact (s5 h5).2
      · exact (sE h5 hr).2
    rw [hE]
    constructor
    · rintro (⟨e1, e2⟩ | e | ⟨p, hp, e⟩)
      · exact ⟨⟨k, s, n⟩, by simp, by rw [e1]; rfl, e2⟩
      · rw [ht0] at e; cases e
      · obtain ⟨x, hx, e⟩ := (ih p hp (hc p hp) ByteArray.empty).1 e
        exact ⟨x, List.mem_cons_of_mem _ (List.mem_flatten.2 ⟨_, List.mem_map.2 ⟨p, hp, rfl⟩, hx⟩), e⟩
    · rintro ⟨x, hx, e⟩
      rcases List.mem_cons.1 hx with rfl | hx
      · left
        refine ⟨?_, e.2⟩
        have := e.1
        simp only [isVarB, Bool.or_eq_true, beq_iff_eq] at this
        omega
      · obtain ⟨l, hl, hx⟩ := List.mem_flatten.1 hx
        obtain ⟨p, hp, rfl⟩ := List.mem_map.1 hl
        exact .inr (.inr ⟨p, hp, (ih p hp (hc p hp) ByteArray.empty).2 ⟨x, hx, e⟩⟩)
end Go.Proofs.Ytblfeokjlecgkaa

/- What is told, step by step, and what is known behind it. -/
namespace Go.Proofs.Ytblfeokjlecgkaa

/-- A tree's labels are of U. -/
def labU (U : List Lb) : Ut → Prop
  | .mk _ _ fs _ => (∀ l ∈ labsF fs, l ∈ U) ∧ ∀ p ∈ fs, labU U p.2
termination_by t => SizeOf.sizeOf t
decreasing_by exact Ut.size_mem (by assumption)
theorem labU_mk {U : List Lb} {k n : Int} {fs : Fl} {tl : Option Int} : labU U (.mk k n fs tl) ↔ (∀ l ∈ labsF fs, l ∈ U) ∧ ∀ p ∈ fs, labU U p.2 := by rw [labU]

/-- Its numbers are such as the state's are; a row with a tail has just the labels of the tail. -/
def tlOk (S : Kn) : Ut → Prop
  | .mk k n fs tl => (k = 8 → S.L n = none ∧ n < S.m) ∧ (∀ p, tl = some p → p < S.m ∧ ∃ ls, S.L p = some ls ∧ ∀ l, l ∈ ls ↔ l ∈ labsF fs) ∧ ∀ c ∈ fs, tlOk S c.2
termination_by t => SizeOf.sizeOf t
decreasing_by exact Ut.size_mem (by assumption)
theorem tlOk_mk {S : Kn} {k n : Int} {fs : Fl} {tl : Option Int} : tlOk S (.mk k n fs tl) ↔ (k = 8 → S.L n = none ∧ n < S.m) ∧ (∀ p, tl = some p → p < S.m ∧ ∃ ls, S.L p = some ls ∧ ∀ l, l ∈ ls ↔ l ∈ labsF fs) ∧ ∀ c ∈ fs, tlOk S c.2 := by rw [tlOk]

theorem TG.of {U : List Lb} {S : Kn} : ∀ t, wfT t → labU U t → tlOk S t → TG U S t := by
  refine Ut.ind fun k n fs tl ih hw hl ht => ?_
  rw [wfT_mk] at hw
  rw [labU_mk] at hl
  rw [tlOk_mk] at ht
  obtain ⟨h, hc⟩ := hw
  have hk : ∀ c ∈ fs, TG U S c.2 := fun c hm => ih c hm (hc c hm) (hl.2 c hm) (ht.2.2 c hm)
  refine ⟨⟨?_, ?_⟩, ?_, ?_, ?_, ?_⟩
  · rw [okT_mk]
    refine ⟨⟨h.nd, h.lf, fun e => (ht.1 e).1, h.n0, fun p hp => ?_⟩, fun c hm => (hk c hm).pend.1⟩
    obtain ⟨_, ls, e1, e2⟩ := ht.2.1 p hp
    exact ⟨ls, e1, fun l hl => (e2 l).2 hl⟩
  · rw [bdT_mk]
    exact ⟨fun e => (ht.1 e).2, fun p hp => (ht.2.1 p hp).1, fun c hm => (hk c hm).pend.2⟩
  · rw [fuT_mk]
    refine ⟨fun q ls hq hL l hl => ?_, fun c hm => (hk c hm).fu⟩
    obtain ⟨_, ls', e1, e2⟩ := ht.2.1 q hq
    rw [hL] at e1
    injection e1 with e1
    subst e1
    exact (e2 l).1 hl
  · rw [shT_mk]
    exact ⟨h.sh, fun c hm => (hk c hm).sh⟩
  · rw [nnT_mk]
    exact ⟨h.n8, h.tn, fun c hm => (hk c hm).nn⟩
  · rw [labT_mk]
    exact ⟨fun l hm => ⟨hl.1 l hm, fun hr => (h.row hr).2 l hm⟩, fun c hm => (hk c hm).lb⟩

/-- No tails, Vars below a number. -/
def noTl (m0 : Int) : Ut → Prop
  | .mk k n fs tl => (k = 8 → n < m0) ∧ tl = none ∧ ∀ c ∈ fs, noTl m0 c.2
termination_by t => SizeOf.sizeOf t
decreasing_by exact Ut.size_mem (by assumption)
theorem noTl_mk {m0 k n : Int} {fs : Fl} {tl : Option Int} : noTl m0 (.mk k n fs tl) ↔ (k = 8 → n < m0) ∧ tl = none ∧ ∀ c ∈ fs, noTl m0 c.2 := by rw [noTl]
theorem noTl.ok {S : Kn} {m0 : Int} (hL : ∀ x, x < m0 → S.L x = none) (hm : m0 ≤ S.m) : ∀ t, noTl m0 t → tlOk S t := by
  refine Ut.ind fun k n fs tl ih h => ?_
  rw [noTl_mk] at h
  rw [tlOk_mk]
  refine ⟨fun e => ⟨hL _ (h.1 e), by have := h.1 e; omega⟩, fun p hp => ?_, fun c hc => ih c hc (h.2.2 c hc)⟩
  rw [h.2.1] at hp
  cases hp
theorem noTl.inst {m0 : Int} {τ τ' : Va} (h : ∀ x, x < m0 → τ.v x = τ'.v x) : ∀ t, noTl m0 t → Proofs.Ytblfeokjlecgkaa.inst τ t = Proofs.Ytblfeokjlecgkaa.inst τ' t := by
  refine Ut.ind fun k n fs tl ih ht => ?_
  rw [noTl_mk] at ht
  rw [inst_eq, inst_eq]
  split
  · next e => exact h n (ht.1 e)
  · rw [ht.2.1, mapF_congr fun p hp => ih p hp (ht.2.2 p hp)]
    rfl

/-! ### What is told -/
inductive Cst where
  | pair (a b : Ut)
  | opn (k : Int) (l : Lb) (v u : Int)
def Cst.holds (τ : Va) : Cst → Prop
  | .pair a b => CoI a b τ
  | .opn k l v u => ∃ (R : Fl) (tl : Option Int), τ.v v = .mk k 0 R tl ∧ getF l R = some (τ.v u)
/-- A tree that may be told. -/
structure Told (U : List Lb) (m0 : Int) (t : Ut) : Prop where
  wf : wfT t
  lb : labU U t
  no : noTl m0 t
def Cst.Good (U : List Lb) (m0 : Int) : Cst → Prop
  | .pair a b => Told U m0 a ∧ Told U m0 b
  | .opn k l v u => isRowB k = true ∧ rowLabelB k l = true ∧ l ∈ U ∧ 0 ≤ v ∧ v < m0 ∧ 0 ≤ u ∧ u < m0
def Cst.dyn : Cst → Nat
  | .pair a b => dynT a + dynT b
  | .opn .. => 1
theorem Cst.Good.like {U : List Lb} {m0 : Int} {c : Cst} (hg : c.Good U m0) {τ τ' : Va} (h : ∀ x, x < m0 → τ.v x = τ'.v x) (hc : c.holds τ) : c.holds τ' := by
  cases c with
  | pair a b =>
    show Co _ _
    rw [← noTl.inst h a hg.1.no, ← noTl.inst h b hg.2.no]
    exact hc
  | opn k l v u =>
    obtain ⟨R, tl, e1, e2⟩ := hc
    exact ⟨R, tl, by rw [← h v hg.2.2.2.2.1]; exact e1, by rw [← h u hg.2.2.2.2.2.2]; exact e2⟩

theorem Told.tg {U : List Lb} {m0 : Int} {S : Kn} {t : Ut} (h : Told U m0 t) (hL : ∀ x, x < m0 → S.L x = none) (hm : m0 ≤ S.m) : TG U S t := TG.of t h.wf h.lb (noTl.ok hL hm t h.no)

/-! ### The most general state, step by step -/
theorem Most.next {m0 : Int} {S S' : Kn} {C c : Va → Prop} (h : Most m0 S C) (s : Step S S' c) (hC : ∀ τ τ' : Va, (∀ x, x < m0 → τ.v x = τ'.v x) → C τ → C τ') (hc : ∀ τ τ' : Va, (∀ x, x < m0 → τ.v x = τ'.v x) → c τ → c τ') : Most m0 S' fun τ => C τ ∧ c τ := by
  have hm := h.m
  refine ⟨s.inv, Int.le_trans h.m s.le.m, fun x hx => by rw [s.le.L x (by omega)]; exact h.sort x hx, fun τ hτ => ⟨?_, s.co τ hτ⟩, fun τ hs hτ => ?_⟩
  · obtain ⟨τ0, h0, ha⟩ := s.le.sat τ hτ
    exact hC τ0 τ (fun x hx => ((ha x (by omega)).1).symm) (h.co τ0 h0)
  · obtain ⟨τ1, h1, e1⟩ := h.gen τ hs hτ.1
    obtain ⟨τ2, h2, a2⟩ := s.gen τ1 h1 (hc τ τ1 e1 hτ.2)
    exact ⟨τ2, h2, fun x hx => by rw [e1 x hx]; exact (a2 x (by omega)).1⟩
theorem Most.none {m0 : Int} {S : Kn} {C c : Va → Prop} (h : Most m0 S C) (d : ∀ τ, S.Sat τ → ¬ c τ) (hc : ∀ τ τ' : Va, (∀ x, x < m0 → τ.v x = τ'.v x) → c τ → c τ') : ∀ τ : Va, (∀ n, stT (τ.v n) ∧ riT (τ.v n)) → ¬ (C τ ∧ c τ) := fun τ hs hτ => by
  obtain ⟨τ1, h1, e1⟩ := h.gen τ hs hτ.1
  exact d τ1 h1 (hc τ τ1 e1 hτ.2)
theorem Most.congr {m0 : Int} {S : Kn} {C D : Va → Prop} (h : Most m0 S C) (hCD : ∀ τ, C τ ↔ D τ) : Most m0 S D :=
  ⟨h.inv, h.m, h.sort, fun τ hτ => (hCD τ).1 (h.co τ hτ), fun τ hs hτ => h.gen τ hs ((hCD τ).2 hτ)⟩

/-- Nothing is known. -/
def Kn.zero (m0 : Int) : Kn := ⟨fun _ => .none, fun _ => .none, Va.id, m0⟩
theorem zero_kg (U : List Lb) {m0 : Int} (h0 : 0 ≤ m0) : KG U (Kn.zero m0) := by
  have i : (Kn.zero m0).Inv := by
    refine ⟨fun v t h => (by cases h), fun v t ls h => (by cases h), fun x _ => rfl, id_wf _, ?_, fun v _ => ⟨rfl, rfl⟩, ?_, fun τ hτ _ t ho => ?_⟩
    · exact fun v t h => by cases h
    · exact ⟨fun n hn _ => bdT_var hn, fun p ls _ h => by cases h⟩
    · rw [inst_comp]
      refine inst_sorts (fun n _ => ?_) (fun p ls h => (by cases h)) t ho
      exact inst_var τ n
  exact ⟨i, .start fun v => rfl, ⟨fun v t h => (by cases h), fun v t ls h => (by cases h)⟩, ⟨h0, fun v t h => (by cases h)⟩, ⟨fun v t h => (by cases h), id_sh _⟩, fun v t h => (by cases h), fun p ls h => (by cases h)⟩
theorem zero_most {m0 : Int} (h0 : 0 ≤ m0) : Most m0 (Kn.zero m0) fun _ => True :=
  ⟨(zero_kg [] h0).inv, Int.le_refl _, fun _ _ => rfl, fun _ _ => trivial, fun τ hs _ => ⟨τ, ⟨⟨fun n _ => hs n, fun p ls h => by cases h⟩, fun v t h => by cases h⟩, fun _ _ => rfl⟩⟩
theorem zero_un {m0 : Int} (h0 : 0 ≤ m0) : ((Kn.zero m0).un : Int) = m0 := by
  have : ∀ n, cnt (fun _ => true) n = n := fun n => by
    induction n with
    | zero => rfl
    | succ n ih => simp only [cnt, ih, if_pos]
  show ((cnt (fun _ => true) m0.toNat : Nat) : Int) = m0
  rw [this]
  omega

/-! ### An open row -/
theorem getF_insF {l : Lb} {x : Ut} {R : Fl} (hR : Rise R) (hl : l ∉ labsF R) (l' : Lb) : getF l' (insF (l, x) R) = if l = l' then some x else getF l' R := by
  have h := insF_rise (p := (l, x)) hR hl
  rw [getF_perm (insF_perm (l, x) R) h.nodup]
  rfl
/-- A row without a label. -/
def dropL (l : Lb) (R : Fl) : Fl := R.filter fun p => !decide (p.1 = l)
theorem dropL_rise {l : Lb} {R : Fl} (h : Rise R) : Rise (dropL l R) := List.Pairwise.filter _ h
theorem dropL_not (l : Lb) (R : Fl) : l ∉ labsF (dropL l R) := by
  intro h
  obtain ⟨p, hp, e⟩ := List.mem_map.1 h
  have := (List.mem_filter.1 hp).2
  simp [e] at this
theorem dropL_get {l l' : Lb} (R : Fl) (hn : l ≠ l') : getF l' (dropL l R) = getF l' R := by
  induction R with
  | nil => rfl
  | cons p R ih =>
    unfold dropL at ih ⊢
    rw [List.filter_cons]
    by_cases e : p.1 = l
    · rw [if_neg (by simp [e]), ih]
      show _ = if p.1 = l' then _ else _
      rw [if_neg (by rw [e]; exact hn)]
    · rw [if_pos (by simp [e])]
      show (if p.1 = l' then _ else _) = if p.1 = l' then _ else _
      rw [ih]
/-- A row is a field of it, and the others. -/
theorem ins_drop {l : Lb} {R : Fl} {x : Ut} (h : Rise R) (hx : getF l R = some x) : insF (l, x) (dropL l R) = R := by
  refine rise_ext (insF_rise (dropL_rise h) (dropL_not l R)) h fun l' => ?_
  rw [getF_insF (dropL_rise h) (dropL_not l R)]
  split
  · next e => rw [← e, hx]
  · next e => exact dropL_get R e

/-- The row that is told. -/
def openT (k : Int) (l : Lb) (u q : Int) : Ut := .mk k 0 [(l, varT u)] (some q)
theorem inst_open {L : Sorts} {τ : Va} (h : τ.Ok L) {k : Int} {l : Lb} {u q : Int} {ls : List Lb} (hk : isRowB k = true) (hq : L q = some ls) (_hl : l ∈ ls) :
    inst τ (openT k l u q) = .mk k 0 (insF (l, τ.v u) (τ.t q).1) (τ.t q).2 := by
  obtain ⟨k8, _⟩ := isRow_k hk
  unfold openT
  rw [inst_eq, if_neg k8]
  have : srtF (mapF (inst τ) [(l, varT u)] ++ (τ.tail (some q)).1) = insF (l, τ.v u) (τ.t q).1 := by
    show insF (l, inst τ (varT u)) (srtF (τ.t q).1) = _
    rw [inst_var, srtF_of_rise (h.t q ls hq).1]
  rw [this]
  rfl

/-- An open row's label, and the two Vars, may be told. -/
def OpnOk (U : List Lb) (S : Kn) (k : Int) (l : Lb) (v u : Int) : Prop := isRowB k = true ∧ rowLabelB k l = true ∧ l ∈ U ∧ 0 ≤ v ∧ (v < S.m ∧ S.L v = none) ∧ 0 ≤ u ∧ u < S.m ∧ S.L u = none

theorem openG_tg {U : List Lb} {S : Kn} {k : Int} {l : Lb} {v u : Int} (hg : OpnOk U S k l v u) (h : KG U S) :
    KG U (S.freshT [l]) ∧ TG U (S.freshT [l]) (varT v) ∧ TG U (S.freshT [l]) (openT k l u S.m) := by
  obtain ⟨g1, g2, g3, g4, g5, g6, g7⟩ := hg
  obtain ⟨k8, k0, k5, ka, kb⟩ := isRow_k g1
  have hK := h.freshT [l] (by simp)
  have hLL : ∀ x, x < S.m ∧ S.L x = none → (S.freshT [l]).L x = none := fun x hx => by
    show (if x = S.m then some [l] else S.L x) = none
    rw [if_neg (by omega)]
    exact hx.2
  have hmm : (S.freshT [l]).m = S.m + 1 := rfl
  have hv : ∀ y, 0 ≤ y → y < S.m ∧ S.L y = none → TG U (S.freshT [l]) (varT y) := fun y h1 h2 => hK.var (hLL y h2) h1 (by omega)
  refine ⟨hK, hv v g4 g5, ?_⟩
  have hw : ∀ y, 0 ≤ y → y < S.m ∧ S.L y = none → wfT (varT y) ∧ labU U (varT y) ∧ tlOk (S.freshT [l]) (varT y) := fun y h1 h2 => by
    refine ⟨?_, ?_, ?_⟩
    · unfold varT
      rw [wfT_mk]
      exact ⟨⟨List.nodup_nil, fun _ => ⟨rfl, rfl⟩, fun e => absurd rfl e, fun _ => h1, ⟨by omega, by omega, fun e => absurd e (by decide), fun _ _ => ⟨rfl, rfl⟩⟩, fun e => (by cases e), fun p hp => (by cases hp), fun e => (by cases e), fun e => absurd e (by decide)⟩, fun p hp => by cases hp⟩
    · unfold varT; rw [labU_mk]; exact ⟨fun l hl => (by cases hl), fun p hp => (by cases hp)⟩
    · unfold varT; rw [tlOk_mk]; exact ⟨fun _ => ⟨hLL y h2, by omega⟩, fun p hp => (by cases hp), fun p hp => (by cases hp)⟩
  obtain ⟨w1, w2, w3⟩ := hw u g6 g7
  have hsm : 0 ≤ S.m := h.nn.m
  refine TG.of _ ?_ ?_ ?_
  · unfold openT
    rw [wfT_mk]
    refine ⟨⟨by simp [labsF], by omega, fun _ => rfl, fun e => absurd e k8, ⟨ka, kb, fun e => absurd e k5, fun _ e => (by rw [g1] at e; cases e)⟩, fun _ => ⟨by simp [Rise], fun l' hl' => ?_⟩, fun p hp => ?_, fun _ => by simp [tailN], fun _ => by simp; omega⟩, fun p hp => ?_⟩
    · simp [labsF] at hl'; subst hl'; exact g2
    · injection hp with hp; omega
    · simp only [List.mem_cons, List.not_mem_nil, or_false] at hp; subst hp; exact w1
  · unfold openT
    rw [labU_mk]
    refine ⟨fun l' hl' => ?_, fun p hp => ?_⟩
    · simp [labsF] at hl'; subst hl'; exact g3
    · simp only [List.mem_cons, List.not_mem_nil, or_false] at hp; subst hp; exact w2
  · unfold openT
    rw [tlOk_mk]
    refine ⟨fun e => absurd e k8, fun p hp => ?_, fun p hp => ?_⟩
    · injection hp with hp
      subst hp
      refine ⟨by rw [hmm]; omega, [l], by show (if S.m = S.m then _ else _) = _; rw [if_pos rfl], fun l' => by simp [labsF]⟩
    · simp only [List.mem_cons, List.not_mem_nil, or_false] at hp
      subst hp
      exact w3

theorem openG_done {U : List Lb} {S S' : Kn} {k : Int} {l : Lb} {v u : Int} (hg : OpnOk U S k l v u) (h : KG U S)
    (s : Step (S.freshT [l]) S' (CoI (varT v) (openT k l u S.m))) : Step S S' (Cst.opn k l v u).holds := by
  obtain ⟨g1, g2, g3, g4, g5, g6, g7⟩ := id hg
  have hmL : (S.freshT [l]).L S.m = some [l] := by show (if S.m = S.m then _ else _) = _; rw [if_pos rfl]
  have hLL : ∀ x, x < S.m ∧ S.L x = none → (S.freshT [l]).L x = none := fun x hx => by
    show (if x = S.m then some [l] else S.L x) = none
    rw [if_neg (by omega)]
    exact hx.2
  have hmm : (S.freshT [l]).m = S.m + 1 := rfl
  refine ⟨s.inv, (Kn.freshT_le h.inv [l]).trans s.le, fun τ hτ => ?_, fun τ hτ hc => ?_⟩
  · have h1 := s.co τ hτ
    obtain ⟨τ0, h0, a0⟩ := s.le.sat τ hτ
    have ev := (a0 v (by omega)).1
    have eu := (a0 u (by omega)).1
    have e2 : inst τ (openT k l u S.m) = inst τ0 (openT k l u S.m) := a0.inst _ (openG_tg hg h).2.2.pend.2
    unfold CoI at h1
    rw [e2, inst_var, ev, inst_open h0.1 g1 hmL (by simp)] at h1
    obtain ⟨st, ri⟩ := h0.1.v v (hLL v g5)
    obtain ⟨su, ru⟩ := h0.1.v u (hLL u g7)
    obtain ⟨t1, t2, t3⟩ := h0.1.t _ _ hmL
    have hlR : l ∉ labsF (τ0.t S.m).1 := fun hl => t2 l hl (by simp)
    have e := h1.eq st (by
      rw [stT_mk]
      refine ⟨(isRow_k g1).2.1, fun p hp => ?_⟩
      rcases List.mem_cons.1 ((insF_perm _ _).mem_iff.1 hp) with rfl | hp
      · exact su
      · exact (t3 p hp).1) ri (by
      rw [riT_mk]
      refine ⟨insF_rise t1 hlR, fun p hp => ?_⟩
      rcases List.mem_cons.1 ((insF_perm _ _).mem_iff.1 hp) with rfl | hp
      · exact ru
      · exact (t3 p hp).2)
    exact ⟨_, _, by rw [ev]; exact e, by rw [getF_insF t1 hlR, if_pos rfl, eu]⟩
  · obtain ⟨R, tl, e1, e2⟩ := hc
    obtain ⟨st, ri⟩ := hτ.1.v v g5.2
    rw [e1] at st ri
    rw [stT_mk] at st
    rw [riT_mk] at ri
    obtain ⟨h1, a1⟩ := Kn.Inv.freshT_gen h.inv (ls := [l]) hτ (R := dropL l R) (tl := tl) (dropL_rise ri.1) (fun l' hl' => by
      simp only [List.mem_cons, List.not_mem_nil, or_false]
      rintro rfl
      exact dropL_not _ R hl') (fun q hq => ⟨st.2 q (List.mem_filter.1 hq).1, ri.2 q (List.mem_filter.1 hq).1⟩)
    have hco : CoI (varT v) (openT k l u S.m) (τ.updT S.m (dropL l R, tl)) := by
      unfold CoI
      rw [inst_open h1.1 g1 hmL (by simp), inst_var]
      have ev : (τ.updT S.m (dropL l R, tl)).v v = .mk k 0 R tl := e1
      have eu : (τ.updT S.m (dropL l R, tl)).v u = τ.v u := rfl
      have et : (τ.updT S.m (dropL l R, tl)).t S.m = (dropL l R, tl) := by show (if S.m = S.m then _ else _) = _; rw [if_pos rfl]
      rw [ev, eu, et]
      show Co _ (.mk k 0 (insF (l, τ.v u) (dropL l R)) tl)
      rw [ins_drop ri.1 e2]
      exact Co.refl _
    obtain ⟨τ2, h2, a2⟩ := s.gen _ h1 hco
    exact ⟨τ2, h2, a1.trans (a2.mono (by rw [hmm]; omega))⟩

theorem openG_dis {U : List Lb} {S : Kn} {k : Int} {l : Lb} {v u : Int} (hg : OpnOk U S k l v u) (h : KG U S)
    (d : Dis (S.freshT [l]) (varT v) (openT k l u S.m)) : ∀ τ, S.Sat τ → ¬ (Cst.opn k l v u).holds τ := by
  rintro τ hτ ⟨R, tl, e1, e2⟩
  obtain ⟨g1, g2, g3, g4, g5, g6, g7⟩ := hg
  have hmL : (S.freshT [l]).L S.m = some [l] := by show (if S.m = S.m then _ else _) = _; rw [if_pos rfl]
  obtain ⟨st, ri⟩ := hτ.1.v v g5.2
  rw [e1] at st ri
  rw [stT_mk] at st
  rw [riT_mk] at ri
  obtain ⟨h1, a1⟩ := Kn.Inv.freshT_gen h.inv (ls := [l]) hτ (R := dropL l R) (tl := tl) (dropL_rise ri.1) (fun l' hl' => by
    simp only [List.mem_cons, List.not_mem_nil, or_false]
    rintro rfl
    exact dropL_not _ R hl') (fun q hq => ⟨st.2 q (List.mem_filter.1 hq).1, ri.2 q (List.mem_filter.1 hq).1⟩)
  refine d _ h1 ?_
  unfold CoI
  rw [inst_open h1.1 g1 hmL (by simp), inst_var]
  have ev : (τ.updT S.m (dropL l R, tl)).v v = .mk k 0 R tl := e1
  have eu : (τ.updT S.m (dropL l R, tl)).v u = τ.v u := rfl
  have et : (τ.updT S.m (dropL l R, tl)).t S.m = (dropL l R, tl) := by show (if S.m = S.m then _ else _) = _; rw [if_pos rfl]
  rw [ev, eu, et]
  show Co _ (.mk k 0 (insF (l, τ.v u) (dropL l R)) tl)
  rw [ins_drop ri.1 e2]
  exact Co.refl _

theorem Cst.Good.opn {U : List Lb} {S : Kn} {m0 : Int} {k : Int} {l : Lb} {v u : Int} (hg : (Cst.opn k l v u).Good U m0) (hL : ∀ x, x < m0 → S.L x = none) (hm : m0 ≤ S.m) : OpnOk U S k l v u := by
  obtain ⟨g1, g2, g3, g4, g5, g6, g7⟩ := hg
  exact ⟨g1, g2, g3, g4, ⟨by omega, hL v g5⟩, g6, by omega, hL u g7⟩
theorem open_tg {U : List Lb} {S : Kn} {m0 : Int} {k : Int} {l : Lb} {v u : Int} (hg : (Cst.opn k l v u).Good U m0) (h : KG U S) (hL : ∀ x, x < m0 → S.L x = none) (hm : m0 ≤ S.m) :
    KG U (S.freshT [l]) ∧ TG U (S.freshT [l]) (varT v) ∧ TG U (S.freshT [l]) (openT k l u S.m) := openG_tg (hg.opn hL hm) h
theorem open_done {U : List Lb} {S S' : Kn} {m0 : Int} {k : Int} {l : Lb} {v u : Int} (hg : (Cst.opn k l v u).Good U m0) (h : KG U S) (hL : ∀ x, x < m0 → S.L x = none) (hm : m0 ≤ S.m)
    (s : Step (S.freshT [l]) S' (CoI (varT v) (openT k l u S.m))) : Step S S' (Cst.opn k l v u).holds := openG_done (hg.opn hL hm) h s
theorem open_dis {U : List Lb} {S : Kn} {m0 : Int} {k : Int} {l : Lb} {v u : Int} (hg : (Cst.opn k l v u).Good U m0) (h : KG U S) (hL : ∀ x, x < m0 → S.L x = none) (hm : m0 ≤ S.m)
    (d : Dis (S.freshT [l]) (varT v) (openT k l u S.m)) : ∀ τ, S.Sat τ → ¬ (Cst.opn k l v u).holds τ := openG_dis (hg.opn hL hm) h d
end Go.Proofs.Ytblfeokjlecgkaa

/- Runs: good states behind what was told; what fits; that the order is all one. -/
namespace Go.Proofs.Ytblfeokjlecgkaa

/-- All variables that were there first are known as types of a right size. -/
def fitK (m0 : Int) (S : Kn) : Prop := ∀ n, 0 ≤ n → n < m0 → ndT (S.σ.v n) ≤ 10000 ∧ dpT (S.σ.v n) ≤ 100

/-- What hangs on the first variables alone. -/
def Low (m0 : Int) (C : Va → Prop) : Prop := ∀ τ τ' : Va, (∀ x, x < m0 → τ.v x = τ'.v x) → C τ → C τ'
theorem Low.and {m0 : Int} {C D : Va → Prop} (h : Low m0 C) (k : Low m0 D) : Low m0 fun τ => C τ ∧ D τ := fun τ τ' e hc => ⟨h τ τ' e hc.1, k τ τ' e hc.2⟩
theorem Low.true (m0 : Int) : Low m0 fun _ => True := fun _ _ _ _ => trivial

theorem only_st {m0 : Int} {τ : Va} (h : ∀ n, n < m0 → stT (τ.v n) ∧ riT (τ.v n)) (n : Int) : stT ((τ.only m0).v n) ∧ riT ((τ.only m0).v n) := by
  show stT (if n < m0 then _ else _) ∧ riT (if n < m0 then _ else _)
  by_cases hx : n < m0
  · rw [if_pos hx]; exact h n hx
  · rw [if_neg hx]; exact ⟨stT_var n, riT_var n⟩
theorem only_v {m0 : Int} (τ : Va) {x : Int} (hx : x < m0) : (τ.only m0).v x = τ.v x := by
  show (if x < m0 then _ else _) = _
  rw [if_pos hx]

/-- Of whatever agrees with what was told the state's types are the outer parts. -/
theorem Most.above {m0 : Int} {S : Kn} {C : Va → Prop} (h : Most m0 S C) (hC : Low m0 C) {τ : Va} (hs : ∀ n, n < m0 → stT (τ.v n) ∧ riT (τ.v n)) (hc : C τ) :
    ∃ τ', S.Sat τ' ∧ ∀ x, x < m0 → τ.v x = τ'.v x ∧ inst τ' (S.σ.v x) = τ.v x := by
  obtain ⟨τ', h1, e1⟩ := h.gen (τ.only m0) (only_st hs) (hC τ _ (fun x hx => (only_v τ hx).symm) hc)
  refine ⟨τ', h1, fun x hx => ?_⟩
  have e := e1 x hx
  rw [only_v τ hx] at e
  have h2 := h.inv.gen τ' h1.1 h1.2 (varT x) (okT_var (h.sort x hx))
  rw [inst_var, inst_var] at h2
  exact ⟨e, by rw [h2, e]⟩
theorem Most.st {m0 : Int} {S : Kn} {C : Va → Prop} (h : Most m0 S C) {n : Int} (hn : n < m0) : stT (S.σ.v n) ∧ riT (S.σ.v n) := h.inv.wf.ok.v n (h.sort n hn)
theorem Most.self {m0 : Int} {S : Kn} {C : Va → Prop} (h : Most m0 S C) : C S.σ := h.co _ h.inv.sat

/-- Types that are asked for no less than others fit, if those do. -/
theorem fit_of {m0 : Int} {S : Kn} {C : Va → Prop} (h : Most m0 S C) (hC : Low m0 C) {τ : Va} (hs : ∀ n, n < m0 → stT (τ.v n) ∧ riT (τ.v n)) (hc : C τ) (hf : ∀ n, 0 ≤ n → n < m0 → ndT (τ.v n) ≤ 10000 ∧ dpT (τ.v n) ≤ 100) : fitK m0 S := fun n h0 hn => by
  obtain ⟨τ', h1, e⟩ := h.above hC hs hc
  obtain ⟨a, b⟩ := inst_nd τ' (S.σ.v n) S.L (h.inv.wf.v n (h.sort n hn))
  rw [(e n hn).2] at a b
  obtain ⟨c, d⟩ := hf n h0 hn
  omega
theorem fit_mono {m0 : Int} {S S' : Kn} {C C' : Va → Prop} (h : Most m0 S C) (hC : Low m0 C) (h' : Most m0 S' C') (hcc : ∀ τ, C' τ → C τ) (hf : fitK m0 S') : fitK m0 S :=
  fit_of h hC (fun _n hn => h'.st hn) (hcc _ h'.self) hf

/-! ### Runs -/
/-- What was told so far, and a good state behind it. -/
structure Run (U : List Lb) (m0 : Int) (C : Va → Prop) (S : Kn) : Prop where
  kg : KG U S
  most : Most m0 S C
  low : Low m0 C
  h0 : 0 ≤ m0
  fit : fitK m0 S
/-- It can't be, or is too large. -/
def Bad (m0 : Int) (C : Va → Prop) : Prop := (∀ τ : Va, (∀ n, stT (τ.v n) ∧ riT (τ.v n)) → ¬ C τ) ∨ ∃ S, Most m0 S C ∧ ¬ fitK m0 S

theorem Run.start (U : List Lb) {m0 : Int} (h0 : 0 ≤ m0) : Run U m0 (fun _ => True) (Kn.zero m0) := by
  refine ⟨zero_kg U h0, zero_most h0, Low.true m0, h0, fun n _ _ => ?_⟩
  show ndT (varT n) ≤ _ ∧ dpT (varT n) ≤ _
  unfold varT
  rw [ndT_mk, dpT_mk, ndF_nil, dpF_nil]
  simp
theorem Run.congr {U : List Lb} {m0 : Int} {C D : Va → Prop} {S : Kn} (h : Run U m0 C S) (e : ∀ τ, C τ ↔ D τ) : Run U m0 D S :=
  ⟨h.kg, h.most.congr e, fun τ τ' hx hd => (e τ').1 (h.low τ τ' hx ((e τ).2 hd)), h.h0, h.fit⟩
/-- A step more. -/
theorem Run.next {U : List Lb} {m0 : Int} {C c : Va → Prop} {S S' : Kn} (h : Run U m0 C S) (hk : KG U S') (s : Step S S' c) (hc : Low m0 c) (hf : fitK m0 S') : Run U m0 (fun τ => C τ ∧ c τ) S' :=
  ⟨hk, h.most.next s h.low hc, h.low.and hc, h.h0, hf⟩
theorem Run.big {U : List Lb} {m0 : Int} {C c : Va → Prop} {S S' : Kn} (h : Run U m0 C S) (s : Step S S' c) (hc : Low m0 c) (hf : ¬ fitK m0 S') : Bad m0 fun τ => C τ ∧ c τ :=
  .inr ⟨S', h.most.next s h.low hc, hf⟩
theorem Run.dis {U : List Lb} {m0 : Int} {C c : Va → Prop} {S : Kn} (h : Run U m0 C S) (d : ∀ τ, S.Sat τ → ¬ c τ) (hc : Low m0 c) : Bad m0 fun τ => C τ ∧ c τ :=
  .inl (h.most.none d hc)
/-- What is bad stays so, whatever more is told. -/
theorem Run.not_bad {U : List Lb} {m0 : Int} {C D : Va → Prop} {S : Kn} (h : Run U m0 D S) (hC : Low m0 C) (hcd : ∀ τ, D τ → C τ) : ¬ Bad m0 C := by
  rintro (hb | ⟨S', h', hf⟩)
  · refine hb (S.σ.only m0) (only_st fun n hn => h.most.st hn) (hC S.σ _ (fun x hx => (only_v _ hx).symm) (hcd _ h.most.self))
  · exact hf (fit_mono h' hC h.most hcd h.fit)
/-- Good types that agree with all let it be. -/
theorem not_bad {m0 : Int} {C : Va → Prop} (hC : Low m0 C) {τ : Va} (hs : ∀ n, n < m0 → stT (τ.v n) ∧ riT (τ.v n)) (hc : C τ) (hf : ∀ n, 0 ≤ n → n < m0 → ndT (τ.v n) ≤ 10000 ∧ dpT (τ.v n) ≤ 100) : ¬ Bad m0 C := by
  rintro (hb | ⟨S', h', hn⟩)
  · exact hb _ (only_st hs) (hC τ _ (fun x hx => (only_v _ hx).symm) hc)
  · exact hn (fit_of h' hC hs hc hf)

/-! ### What is known, laid out -/
/-- The types of the first variables. -/
def knownL (m0 : Nat) (S : Kn) : List (List Nd) := (List.range m0).map fun n : Nat => flT ByteArray.empty (S.σ.v (n : Int))
theorem known_canon {m0 : Nat} {S S' : Kn} {C C' : Va → Prop} (h : Most m0 S C) (h' : Most m0 S' C') (hk : S.Sh) (hC : Low m0 C) (hcc : ∀ τ, C τ ↔ C' τ) : canT [] (knownL m0 S') = canT [] (knownL m0 S) := by
  obtain ⟨ρ, g, hv⟩ := variants h (h'.congr fun τ => (hcc τ).symm) hC
  have e : knownL m0 S' = (knownL m0 S).map (List.map (renNd ρ)) := by
    unfold knownL
    rw [List.map_map]
    refine List.map_congr_left fun n hn => ?_
    have hn := List.mem_range.1 hn
    obtain ⟨e1, _⟩ := hv (n : Int) (by omega)
    show flT _ (S'.σ.v (n : Int)) = List.map (renNd ρ) (flT _ (S.σ.v (n : Int)))
    rw [e1, flT_ren ρ _ S.L (h.inv.wf.v _ (h.sort _ (by omega))) (hk.σ.v _ (h.sort _ (by omega)))]
  rw [e]
  have := canT_ren (ρ := ρ) (g := g) [] (knownL m0 S) (fun m hm => by cases hm) fun xs hxs x hx hxv => ?_
  · simpa using this
  · obtain ⟨n, hn, rfl⟩ := List.mem_map.1 hxs
    have hn := List.mem_range.1 hn
    refine (hv (n : Int) (by omega)).2 x.n ?_
    exact (occ_fl x.n _ (hk.σ.v _ (h.sort _ (by omega))) _).2 ⟨x, hx, hxv, rfl⟩
end Go.Proofs.Ytblfeokjlecgkaa

/- Plain types that agree, told by lists. -/
namespace Go.Proofs.Ytblfeokjlecgkaa

theorem noTl_k8 {t : Ut} (h : noTl 0 t) (hw : wfT t) : t.k ≠ 8 := by
  obtain ⟨k, n, fs, tl⟩ := t
  rw [noTl_mk] at h
  rw [wfT_mk] at hw
  intro e
  have := h.1 e
  have := hw.1.n8 e
  omega

theorem getF_zip {ls : List Lb} {us : List Ut} (hl : ls.length = us.length) (hn : ls.Nodup) {i : Nat} {l : Lb} {u : Ut} (h1 : ls[i]? = some l) (h2 : us[i]? = some u) : getF l (ls.zip us) = some u := by
  refine getF_of_mem (by rw [labsF_zip hl]; exact hn) ?_
  exact List.mem_of_getElem? (i := i) (by rw [List.getElem?_zip_eq_some]; exact ⟨h1, h2⟩)

/-- Rows of children under the same labels agree child by child. -/
theorem co_zip {ls : List Lb} {us vs : List Ut} (hu : ls.length = us.length) (hv : ls.length = vs.length) (hn : ls.Nodup) {k n : Int} (hk : k ≠ 0) (tl : Option Int) :
    Co (.mk k n (ls.zip us) tl) (.mk k n (ls.zip vs) tl) ↔ ∀ p ∈ us.zip vs, Co p.1 p.2 := by
  rw [co_row hk]
  constructor
  · rintro ⟨_, h⟩ p hp
    obtain ⟨i, hi⟩ := List.getElem?_of_mem hp
    rw [List.getElem?_zip_eq_some] at hi
    have hlt : i < ls.length := by
      have := (List.getElem?_eq_some_iff.1 hi.1).1
      omega
    have h1 := List.getElem?_eq_getElem hlt
    have := h ls[i]
    rw [getF_zip hu hn h1 hi.1, getF_zip hv hn h1 hi.2] at this
    exact this
  · intro h
    refine ⟨rfl, fun l => ?_⟩
    by_cases hl : l ∈ ls
    · obtain ⟨i, hi⟩ := List.getElem?_of_mem hl
      have hlt := (List.getElem?_eq_some_iff.1 hi).1
      have h1 := List.getElem?_eq_getElem (l := us) (i := i) (by omega)
      have h2 := List.getElem?_eq_getElem (l := vs) (i := i) (by omega)
      rw [getF_zip hu hn hi h1, getF_zip hv hn hi h2]
      exact h (us[i], vs[i]) (List.mem_of_getElem? (i := i) (by rw [List.getElem?_zip_eq_some]; exact ⟨h1, h2⟩))
    · rw [getF_none.2 (by rw [labsF_zip hu]; exact hl), getF_none.2 (by rw [labsF_zip hv]; exact hl)]
      trivial

end Go.Proofs.Ytblfeokjlecgkaa
