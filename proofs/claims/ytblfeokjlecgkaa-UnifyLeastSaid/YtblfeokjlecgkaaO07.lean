/- Laid together by a tool from the texts of this seat: UniB. Conditions: each theorem's own. -/
import Derived.Test.YtblfeokjlecgkaaO06
/- The plain theory of trees that are made to agree: written in parts, put together by asm_uni.sh. -/
namespace Go.Proofs.Ytblfeokjlecgkaa

/-! ### Rows as they are known -/

/-- A row, as it is known: its fields, its tail. -/
structure RowOf (S : Kn) (a : Ut) (k : Int) (x : Fl) (p : Option Int) : Prop where
  nod : (labsF x).Nodup
  el : ∀ q ∈ x, okT S.L q.2 ∧ bdT S.m q.2
  tl : ∀ q, p = some q → q < S.m ∧ S.κ q = none ∧ ∃ ls, S.L q = some ls ∧ ∀ l, l ∈ ls ↔ l ∈ labsF x
  is : ∀ τ, S.Sat τ → inst τ a = .mk k 0 (srtF (mapF (inst τ) x ++ (τ.tail p).1)) (τ.tail p).2

section
variable {S : Kn} {a b : Ut} {k : Int} {x y : Fl} {p q : Option Int}

theorem RowOf.nodup (r : RowOf S a k x p) {τ : Va} (hτ : S.Sat τ) : (labsF (mapF (inst τ) x ++ (τ.tail p).1)).Nodup := by
  rw [labsF_append, labsF_mapF]
  cases p with
  | none => simpa [Va.tail, labsF] using r.nod
  | some q =>
    obtain ⟨_, _, ls, h1, h2⟩ := r.tl q rfl
    obtain ⟨t1, t2, _⟩ := hτ.1.t q ls h1
    exact List.nodup_append.2 ⟨r.nod, t1.nodup, fun l hl l' hl' e => t2 l' hl' (by rw [← e]; exact (h2 l).2 hl)⟩

theorem RowOf.get (r : RowOf S a k x p) {τ : Va} (hτ : S.Sat τ) (l : Lb) : getF l (srtF (mapF (inst τ) x ++ (τ.tail p).1)) = ((getF l x).map (inst τ)).or (getF l (τ.tail p).1) := by
  rw [getF_srt (r.nodup hτ), getF_append, getF_mapF]

/-- What stands for the tail has none of the row's labels. -/
theorem RowOf.tail_no (r : RowOf S a k x p) {τ : Va} (hτ : S.Sat τ) {l : Lb} {z : Ut} (h : getF l (τ.tail p).1 = some z) : getF l x = none := by
  rw [getF_none]
  intro hl
  cases p with
  | none => simp [Va.tail, getF] at h
  | some q =>
    obtain ⟨_, _, ls, h1, h2⟩ := r.tl q rfl
    obtain ⟨_, t2, _⟩ := hτ.1.t q ls h1
    exact t2 l (getF_lab h) ((h2 l).2 hl)

theorem RowOf.tail_st (r : RowOf S a k x p) {τ : Va} (hτ : S.Sat τ) {l : Lb} {z : Ut} (h : getF l (τ.tail p).1 = some z) : stT z ∧ riT z := by
  cases p with
  | none => simp [Va.tail, getF] at h
  | some q =>
    obtain ⟨_, _, ls, h1, h2⟩ := r.tl q rfl
    exact (hτ.1.t q ls h1).2.2 _ (getF_mem h)

/-- Label for label. -/
def CoL (o o' : Option Ut) : Prop := match o, o' with
  | none, none => True
  | some x, some y => Co x y
  | _, _ => False

theorem coL_some {o o' : Option Ut} (h : CoL o o') : o.isSome = o'.isSome := by
  cases o <;> cases o' <;> simp_all [CoL]

theorem coL_refl (o : Option Ut) : CoL o o := by
  cases o with
  | none => trivial
  | some x => exact Co.refl x

theorem co_row {k n : Int} {fs gs : Fl} {tl tl' : Option Int} (hk : k ≠ 0) : Co (.mk k n fs tl) (.mk k n gs tl') ↔ tl = tl' ∧ ∀ l, CoL (getF l fs) (getF l gs) := by
  constructor
  · intro h
    cases h with
    | dl => exact absurd rfl hk
    | dr => exact absurd rfl hk
    | nd _ _ _ _ _ h hc =>
      refine ⟨rfl, fun l => ?_⟩
      have := h l
      cases h1 : getF l fs <;> cases h2 : getF l gs
      · trivial
      · rw [h1, h2] at this; cases this
      · rw [h1, h2] at this; cases this
      · exact hc l _ _ h1 h2
  · rintro ⟨rfl, h⟩
    refine .nd _ _ _ _ _ (fun l => coL_some (h l)) fun l x y hx hy => ?_
    have := h l
    rw [hx, hy] at this
    exact this

/-- Two rows agree. -/
theorem rows_co (ra : RowOf S a k x p) (rb : RowOf S b k y q) (hk : k ≠ 0) {τ : Va} (hτ : S.Sat τ) :
    Co (inst τ a) (inst τ b) ↔ (τ.tail p).2 = (τ.tail q).2 ∧ ∀ l, CoL (((getF l x).map (inst τ)).or (getF l (τ.tail p).1)) (((getF l y).map (inst τ)).or (getF l (τ.tail q).1)) := by
  rw [ra.is τ hτ, rb.is τ hτ, co_row hk]
  constructor
  · rintro ⟨h1, h2⟩
    exact ⟨h1, fun l => by have := h2 l; rwa [ra.get hτ, rb.get hτ] at this⟩
  · rintro ⟨h1, h2⟩
    exact ⟨h1, fun l => by rw [ra.get hτ, rb.get hτ]; exact h2 l⟩

/-- A row goes on where its tail is known. -/
theorem RowOf.more (h : S.Inv) {q0 : Int} {k' : Int} {gs : Fl} {q' : Option Int} {ls : List Lb} (hk : S.κ q0 = some (.mk k' 0 gs q')) (hl : S.L q0 = some ls) (hx : ∀ l, l ∈ ls ↔ l ∈ labsF x) (nod : (labsF x).Nodup) (el : ∀ q ∈ x, okT S.L q.2 ∧ bdT S.m q.2)
    (is : ∀ τ, S.Sat τ → inst τ a = .mk k 0 (srtF (mapF (inst τ) x ++ (τ.tail (some q0)).1)) (τ.tail (some q0)).2) :
    (labsF (x ++ gs)).Nodup ∧ (∀ q ∈ x ++ gs, okT S.L q.2 ∧ bdT S.m q.2) ∧ ∀ τ, S.Sat τ → inst τ a = .mk k 0 (srtF (mapF (inst τ) (x ++ gs) ++ (τ.tail q').1)) (τ.tail q').2 := by
  obtain ⟨_, o, _, bd⟩ := h.dom q0 _ hk
  obtain ⟨k8, _, hd, _⟩ := h.row q0 _ ls hk hl
  rw [okT_mk] at o
  rw [bdT_mk] at bd
  refine ⟨?_, fun q hq => ?_, fun τ hτ => ?_⟩
  · rw [labsF_append]
    exact List.nodup_append.2 ⟨nod, o.1.1, fun l hl l' hl' e => hd l' hl' (by rw [← e]; exact (hx l).2 hl)⟩
  · rcases List.mem_append.1 hq with hq | hq
    · exact el q hq
    · exact ⟨o.2 q hq, bd.2.2 q hq⟩
  · have h1 := (hτ.2 q0 _ hk).2 ls hl
    have h8 : k' ≠ 8 := k8
    rw [inst_eq, if_neg h8] at h1
    rw [is τ hτ]
    have e : τ.tail (some q0) = (srtF (mapF (inst τ) gs ++ (τ.tail q').1), (τ.tail q').2) := h1
    rw [e]
    simp only
    rw [srtF_right, mapF_append, List.append_assoc]
end

/-! ### What a step does -/

/-- What is known behind a step, just what agrees with a constraint. -/
structure Step (S S' : Kn) (C : Va → Prop) : Prop where
  inv : S'.Inv
  le : S.Le S'
  co : ∀ τ, S'.Sat τ → C τ
  gen : ∀ τ, S.Sat τ → C τ → ∃ τ', S'.Sat τ' ∧ Alike S.m τ τ'

theorem Step.none {S : Kn} {C : Va → Prop} (h : S.Inv) (hc : ∀ τ, S.Sat τ → C τ) : Step S S C := ⟨h, Kn.Le.refl S, hc, fun τ hτ _ => ⟨τ, hτ, Alike.refl _ _⟩⟩

theorem Step.congr {S S' : Kn} {C D : Va → Prop} (h : Step S S' C) (h1 : ∀ τ, S'.Sat τ → C τ → D τ) (h2 : ∀ τ, S.Sat τ → D τ → C τ) : Step S S' D :=
  ⟨h.inv, h.le, fun τ hτ => h1 τ hτ (h.co τ hτ), fun τ hτ hd => h.gen τ hτ (h2 τ hτ hd)⟩

section
variable {S : Kn} {a b : Ut} {k : Int} {x y : Fl} {p q : Option Int}

def hasL (l : Lb) (ls : List Lb) : Bool := ls.any fun x => decide (x = l)

theorem hasL_iff {l : Lb} {ls : List Lb} : hasL l ls = true ↔ l ∈ ls := by
  unfold hasL
  rw [List.any_eq_true]
  constructor
  · rintro ⟨x, hx, h⟩
    rw [← of_decide_eq_true h]
    exact hx
  · exact fun h => ⟨l, h, decide_eq_true rfl⟩

/-- What the first row has and the second one has not. -/
def lackF (x y : Fl) : Fl := x.filter fun c => !hasL c.1 (labsF y)

theorem lackF_get_in {x y : Fl} {l : Lb} (hl : l ∈ labsF y) : getF l (lackF x y) = none := by
  rw [getF_none]
  intro h
  obtain ⟨c, hc, e⟩ := List.mem_map.1 h
  have := (List.mem_filter.1 hc).2
  subst e
  rw [hasL_iff.2 hl] at this
  cases this

theorem lackF_get (x y : Fl) {l : Lb} (hl : l ∉ labsF y) : getF l (lackF x y) = getF l x := by
  unfold lackF
  induction x with
  | nil => rfl
  | cons c x ih =>
    by_cases hc : c.1 ∈ labsF y
    · rw [List.filter_cons_of_neg (by rw [hasL_iff.2 hc]; simp), ih]
      simp only [getF]
      rw [if_neg]
      rintro rfl
      exact hl hc
    · rw [List.filter_cons_of_pos (by
        cases h : hasL c.1 (labsF y)
        · rfl
        · exact absurd (hasL_iff.1 h) hc)]
      simp only [getF]
      by_cases e : c.1 = l
      · rw [if_pos e, if_pos e]
      · rw [if_neg e, if_neg e, ih]

theorem lackF_labs {x y : Fl} {l : Lb} : l ∈ labsF (lackF x y) ↔ l ∈ labsF x ∧ l ∉ labsF y := by
  constructor
  · intro h
    have h1 : getF l (lackF x y) ≠ none := fun e => (getF_none.1 e) h
    by_cases hl : l ∈ labsF y
    · exact absurd (lackF_get_in hl) h1
    · rw [lackF_get x y hl] at h1
      exact ⟨Classical.byContradiction fun hx => h1 (getF_none.2 hx), hl⟩
  · rintro ⟨h1, h2⟩
    apply Classical.byContradiction
    intro h3
    have := getF_none.2 h3
    rw [lackF_get x y h2] at this
    exact (getF_none.1 this) h1

theorem lackF_nodup {x y : Fl} (h : (labsF x).Nodup) : (labsF (lackF x y)).Nodup := by
  unfold lackF labsF
  exact h.sublist ((List.filter_sublist).map _)

theorem lackF_nil {x y : Fl} (h : lackF x y = []) {l : Lb} (hl : l ∈ labsF x) : l ∈ labsF y := by
  apply Classical.byContradiction
  intro hn
  have : l ∈ labsF (lackF x y) := lackF_labs.2 ⟨hl, hn⟩
  rw [h] at this
  simp [labsF] at this

theorem mem_lackF {x y : Fl} {c : Lb × Ut} (h : c ∈ lackF x y) : c ∈ x := (List.mem_filter.1 h).1

/-- What both have agrees. -/
def Shared (S : Kn) (x y : Fl) : Prop := ∀ l c d, getF l x = some c → getF l y = some d → ∀ τ, S.Sat τ → Co (inst τ c) (inst τ d)

/-- Two rows of one tail. -/
theorem ends_same (h : S.Inv) (ra : RowOf S a k x p) (rb : RowOf S b k y p) (hk : k ≠ 0) (hs : Shared S x y) (hu : lackF x y = []) (hv : lackF y x = []) : Step S S fun τ => Co (inst τ a) (inst τ b) :=
  Step.none h fun τ hτ => by
    rw [rows_co ra rb hk hτ]
    refine ⟨rfl, fun l => ?_⟩
    cases hx : getF l x with
    | none =>
      have : getF l y = none := by
        rw [getF_none] at hx ⊢
        exact fun hl => hx (lackF_nil hv hl)
      rw [this]
      exact coL_refl _
    | some c =>
      cases hy : getF l y with
      | none =>
        rw [getF_none] at hy
        exact absurd (lackF_nil hu (getF_lab hx)) hy
      | some d => exact hs l c d hx hy τ hτ

theorem ends_same_no (ra : RowOf S a k x p) (rb : RowOf S b k y p) (hk : k ≠ 0) (hu : lackF x y ≠ []) {τ : Va} (hτ : S.Sat τ) (hpn : p ≠ none) : ¬ Co (inst τ a) (inst τ b) := fun hc => by
  rw [rows_co ra rb hk hτ] at hc
  obtain ⟨q0, rfl⟩ := Option.ne_none_iff_exists'.1 hpn
  obtain ⟨c, hcm⟩ := List.exists_mem_of_ne_nil _ hu
  have hl : c.1 ∈ labsF (lackF x y) := List.mem_map.2 ⟨c, hcm, rfl⟩
  obtain ⟨h1, h2⟩ := lackF_labs.1 hl
  have h3 := hc.2 c.1
  cases hx : getF c.1 x with
  | none => exact (getF_none.1 hx) h1
  | some z =>
    rw [hx, getF_none.2 h2] at h3
    simp only [Option.map_some, Option.some_or, Option.map_none, Option.none_or] at h3
    cases ht : getF c.1 (τ.tail (some q0)).1 with
    | none => rw [ht] at h3; exact h3
    | some w =>
      have := ra.tail_no hτ ht
      rw [hx] at this
      cases this

/-- The other one has no tail, and lacks a label. -/
theorem ends_lack (ra : RowOf S a k x p) (rb : RowOf S b k y none) (hk : k ≠ 0) (hu : lackF x y ≠ []) {τ : Va} (hτ : S.Sat τ) : ¬ Co (inst τ a) (inst τ b) := fun hc => by
  rw [rows_co ra rb hk hτ] at hc
  obtain ⟨c, hcm⟩ := List.exists_mem_of_ne_nil _ hu
  have hl : c.1 ∈ labsF (lackF x y) := List.mem_map.2 ⟨c, hcm, rfl⟩
  obtain ⟨h1, h2⟩ := lackF_labs.1 hl
  have h3 := hc.2 c.1
  cases hx : getF c.1 x with
  | none => exact (getF_none.1 hx) h1
  | some z =>
    rw [hx, getF_none.2 h2] at h3
    simp [Va.tail, getF, CoL] at h3
end

end Go.Proofs.Ytblfeokjlecgkaa
namespace Go.Proofs.Ytblfeokjlecgkaa

section
variable {S : Kn} {a b : Ut} {k : Int} {x y : Fl} {p0 q0 : Int}

theorem coL_symm {o o' : Option Ut} (h : CoL o o') : CoL o' o := by
  cases o <;> cases o' <;> simp_all [CoL]
  exact h.symm

theorem coL_eq {o o' : Option Ut} (h : CoL o o') (h1 : ∀ z, o = some z → stT z ∧ riT z) (h2 : ∀ z, o' = some z → stT z ∧ riT z) : o = o' := by
  cases o <;> cases o' <;> simp_all [CoL]
  exact Co.eq h h1.1 h2.1 h1.2 h2.2

theorem Shared.symm (h : Shared S x y) : Shared S y x := fun l c d hc hd τ hτ => (h l d c hd hc τ hτ).symm

theorem okT_lack {L : Sorts} {m : Int} (hk : k ≠ 0) (h8 : k ≠ 8) (el : ∀ q ∈ y, okT L q.2 ∧ bdT m q.2) (nod : (labsF y).Nodup) {r : Option Int} (hr : ∀ q, r = some q → q < m ∧ ∃ ls, L q = some ls ∧ ∀ l ∈ labsF (lackF y x), l ∈ ls) : okT L (.mk k 0 (lackF y x) r) ∧ bdT m (.mk k 0 (lackF y x) r) := by
  rw [okT_mk, bdT_mk]
  exact ⟨⟨⟨lackF_nodup nod, fun h => by rcases h with h | h; exact absurd h hk; exact absurd h h8, fun h => absurd h h8, fun _ => rfl, fun q hq => (hr q hq).2⟩, fun q hq => (el q (mem_lackF hq)).1⟩, fun h => absurd h h8, fun q hq => (hr q hq).1, fun q hq => (el q (mem_lackF hq)).2⟩

/-- The fields of a row that is laid out of what is lacking. -/
theorem lack_get {L : Sorts} {τ : Va} (hτ : τ.Ok L) {r : Option Int} (ho : okT L (.mk k 0 (lackF y x) r)) (l : Lb) : getF l (srtF (mapF (inst τ) (lackF y x) ++ (τ.tail r).1)) = ((getF l (lackF y x)).map (inst τ)).or (getF l (τ.tail r).1) := by
  rw [okT_mk] at ho
  exact inst_get hτ ho.1 l

theorem one_rowFor (ra : RowOf S a k x (some p0)) (rb : RowOf S b k y none) (hk : k ≠ 0) (h8 : k ≠ 8) : ∃ ls, S.L p0 = some ls ∧ RowFor S p0 ls (.mk k 0 (lackF y x) none) := by
  obtain ⟨_, _, ls, h1, h2⟩ := ra.tl p0 rfl
  obtain ⟨o, bd⟩ := okT_lack (x := x) (r := none) hk h8 rb.el rb.nod fun q hq => by cases hq
  exact ⟨ls, h1, h8, hk, rfl, fun l hl hls => (lackF_labs.1 hl).2 ((h2 l).1 hls), (fun q hq => by cases hq), o, bd⟩

/-- One tail alone: what agrees. -/
theorem one_iff (ra : RowOf S a k x (some p0)) (rb : RowOf S b k y none) (hk : k ≠ 0) (h8 : k ≠ 8) (hs : Shared S x y) (hu : lackF x y = []) {τ : Va} (hτ : S.Sat τ) :
    Co (inst τ a) (inst τ b) ↔ Co (.mk k 0 (τ.t p0).1 (τ.t p0).2) (inst τ (.mk k 0 (lackF y x) none)) := by
  obtain ⟨ls, hls, r⟩ := one_rowFor ra rb hk h8
  rw [rows_co ra rb hk hτ, inst_eq, if_neg h8, co_row hk]
  refine and_congr Iff.rfl (forall_congr' fun l => ?_)
  rw [lack_get hτ.1 r.ok]
  show CoL (((getF l x).map _).or (getF l (τ.t p0).1)) (((getF l y).map _).or none) ↔ CoL (getF l (τ.t p0).1) (((getF l (lackF y x)).map _).or none)
  rw [Option.or_none, Option.or_none]
  cases hx : getF l x with
  | some c =>
    have hP : getF l (τ.t p0).1 = none := by
      cases ht : getF l (τ.t p0).1 with
      | none => rfl
      | some w =>
        have := ra.tail_no hτ ht
        rw [hx] at this
        cases this
    rw [hP, lackF_get_in (getF_lab hx)]
    cases hy : getF l y with
    | none =>
      rw [getF_none] at hy
      exact absurd (lackF_nil hu (getF_lab hx)) hy
    | some d => exact ⟨fun _ => trivial, fun _ => hs l c d hx hy τ hτ⟩
  | none =>
    rw [lackF_get y x (getF_none.1 hx)]
    exact Iff.rfl

theorem ends_one (h : S.Inv) (ra : RowOf S a k x (some p0)) (rb : RowOf S b k y none) (hk : k ≠ 0) (h8 : k ≠ 8) (hs : Shared S x y) (hu : lackF x y = []) (hocc : ¬ occN p0 (inst S.σ (stc S.m (.mk k 0 (lackF y x) none)).1)) :
    Step S (S.bindT p0 (.mk k 0 (lackF y x) none)) fun τ => Co (inst τ a) (inst τ b) := by
  obtain ⟨ls, hls, r⟩ := one_rowFor ra rb hk h8
  obtain ⟨hlt, hκ, _⟩ := ra.tl p0 rfl
  refine ⟨h.bindT hκ hls hlt r hocc, Kn.bindT_le h hκ r, fun τ hτ => ?_, fun τ hτ hc => ?_⟩
  · exact (one_iff ra rb hk h8 hs hu (Kn.bindT_less hκ hτ)).2 (h.bindT_co hls r hτ)
  · exact h.bindT_gen hκ hls hlt r hτ ((one_iff ra rb hk h8 hs hu hτ).1 hc)

theorem ends_one_no (h : S.Inv) (ra : RowOf S a k x (some p0)) (rb : RowOf S b k y none) (hk : k ≠ 0) (h8 : k ≠ 8) (hs : Shared S x y) (hu : lackF x y = []) (hocc : occN p0 (inst S.σ (stc S.m (.mk k 0 (lackF y x) none)).1)) {τ : Va} (hτ : S.Sat τ) : ¬ Co (inst τ a) (inst τ b) := fun hc => by
  obtain ⟨ls, hls, r⟩ := one_rowFor ra rb hk h8
  obtain ⟨hlt, hκ, _⟩ := ra.tl p0 rfl
  exact h.occursT_no hls hlt r hocc hτ ((one_iff ra rb hk h8 hs hu hτ).1 hc)

/-! ### Two tails -/

/-- The labels of the rows of the new tail. -/
def bothL (x y : Fl) : List Lb := labsF x ++ labsF (lackF y x)

theorem bothL_iff {l : Lb} : l ∈ bothL x y ↔ l ∈ labsF x ∨ l ∈ labsF y := by
  unfold bothL
  rw [List.mem_append, lackF_labs]
  constructor
  · rintro (h | h)
    · exact .inl h
    · exact .inr h.1
  · rintro (h | h)
    · exact .inl h
    · by_cases hx : l ∈ labsF x
      · exact .inl hx
      · exact .inr ⟨h, hx⟩

def S1 (S : Kn) (x y : Fl) : Kn := S.freshT (bothL x y)
def t1 (S : Kn) (k : Int) (x y : Fl) : Ut := .mk k 0 (lackF y x) (some S.m)
def S2 (S : Kn) (k : Int) (x y : Fl) (p0 : Int) : Kn := (S1 S x y).bindT p0 (t1 S k x y)
def t2 (S : Kn) (k : Int) (x y : Fl) : Ut := .mk k 0 (lackF x y) (some S.m)

theorem S1_new (S : Kn) (x y : Fl) : (S1 S x y).L S.m = some (bothL x y) := by
  show (if S.m = S.m then _ else _) = _
  rw [if_pos rfl]

theorem S1_old {n : Int} (h : n < S.m) : (S1 S x y).L n = S.L n := by
  show (if n = S.m then _ else _) = _
  rw [if_neg (by omega)]

theorem two_rowFor1 (h : S.Inv) (ra : RowOf S a k x (some p0)) (rb : RowOf S b k y (some q0)) (hk : k ≠ 0) (h8 : k ≠ 8) : ∃ ls, (S1 S x y).L p0 = some ls ∧ RowFor (S1 S x y) p0 ls (t1 S k x y) := by
  obtain ⟨hlt, _, ls, h1, h2⟩ := ra.tl p0 rfl
  obtain ⟨o, bd⟩ := okT_lack (L := (S1 S x y).L) (m := S.m + 1) (x := x) (r := some S.m) hk h8 (fun q hq => ⟨okT_mono (fun n hn => S1_old hn) _ (rb.el q hq).2 (rb.el q hq).1, bdT_mono (by omega) _ (rb.el q hq).2⟩) rb.nod fun q hq => by
    injection hq with hq
    subst hq
    exact ⟨by omega, _, S1_new S x y, fun l hl => bothL_iff.2 (.inr (lackF_labs.1 hl).1)⟩
  refine ⟨ls, by rw [S1_old hlt]; exact h1, h8, hk, rfl, fun l hl hls => (lackF_labs.1 hl).2 ((h2 l).1 hls), fun q hq => ?_, o, bd⟩
  have hq : some S.m = some q := hq
  injection hq with hq
  subst hq
  exact ⟨by omega, h.free (Int.le_refl _), _, S1_new S x y, fun l hl => bothL_iff.2 (.inl ((h2 l).1 hl))⟩

theorem two_rowFor2 (h : S.Inv) (ra : RowOf S a k x (some p0)) (rb : RowOf S b k y (some q0)) (hk : k ≠ 0) (h8 : k ≠ 8) (hpq : p0 ≠ q0) : ∃ ls, (S2 S k x y p0).L q0 = some ls ∧ (S2 S k x y p0).κ q0 = none ∧ q0 < (S2 S k x y p0).m ∧ RowFor (S2 S k x y p0) q0 ls (t2 S k x y) := by
  obtain ⟨hlt, hκ, ls, h1, h2⟩ := rb.tl q0 rfl
  obtain ⟨hltp, _⟩ := ra.tl p0 rfl
  obtain ⟨_, _, r⟩ := two_rowFor1 h ra rb hk h8
  have hm : S.m + 1 ≤ (S2 S k x y p0).m := (stc_ok (t1 S k x y) (S1 S x y).m ⟨r.ok, r.bd, (h.freshT _).new⟩).1
  obtain ⟨o, bd⟩ := okT_lack (L := (S1 S x y).L) (m := (S2 S k x y p0).m) (x := y) (y := x) (r := some S.m) hk h8 (fun q hq => ⟨okT_mono (fun n hn => S1_old hn) _ (ra.el q hq).2 (ra.el q hq).1, bdT_mono (by omega) _ (ra.el q hq).2⟩) ra.nod fun q hq => by
    injection hq with hq
    subst hq
    exact ⟨by omega, _, S1_new S x y, fun l hl => bothL_iff.2 (.inl (lackF_labs.1 hl).1)⟩
  refine ⟨ls, by show (S1 S x y).L q0 = _; rw [S1_old hlt]; exact h1, ?_, by omega, h8, hk, rfl, fun l hl hls => (lackF_labs.1 hl).2 ((h2 l).1 hls), fun q hq => ?_, o, bd⟩
  · show upd S.κ p0 _ q0 = none
    rw [upd_other (fun e => hpq e.symm)]
    exact hκ
  · have hq : some S.m = some q := hq
    injection hq with hq
    subst hq
    refine ⟨by omega, ?_, _, S1_new S x y, fun l hl => bothL_iff.2 (.inr ((h2 l).1 hl))⟩
    show upd S.κ p0 _ S.m = none
    rw [upd_other (by omega)]
    exact h.free (Int.le_refl _)

/-- What the two tails stand for, seen label by label. -/
theorem two_co (h8 : k ≠ 8) (hk : k ≠ 0) {L : Sorts} {τ : Va} (hτ : τ.Ok L) {z w : Fl} {r s : Int} (ho : okT L (.mk k 0 (lackF z w) (some r))) :
    Co (.mk k 0 (τ.t s).1 (τ.t s).2) (inst τ (.mk k 0 (lackF z w) (some r))) ↔ (τ.t s).2 = (τ.t r).2 ∧ ∀ l, CoL (getF l (τ.t s).1) (((getF l (lackF z w)).map (inst τ)).or (getF l (τ.t r).1)) := by
  rw [inst_eq, if_neg h8, co_row hk]
  refine and_congr Iff.rfl (forall_congr' fun l => ?_)
  rw [lack_get hτ ho]
  exact Iff.rfl

end

end Go.Proofs.Ytblfeokjlecgkaa
namespace Go.Proofs.Ytblfeokjlecgkaa

section
variable {S : Kn} {a b : Ut} {k : Int} {x y : Fl} {p0 q0 : Int}


/-- Behind both steps the rows agree. -/
theorem two_sound (h : S.Inv) (ra : RowOf S a k x (some p0)) (rb : RowOf S b k y (some q0)) (hk : k ≠ 0) (h8 : k ≠ 8) (hpq : p0 ≠ q0) (hs : Shared S x y) (bda : bdT S.m a) (bdb : bdT S.m b)
    {τ : Va} (hτ : ((S2 S k x y p0).bindT q0 (t2 S k x y)).Sat τ) (i1 : (S1 S x y).Inv) (i2 : (S2 S k x y p0).Inv) : Co (inst τ a) (inst τ b) := by
  obtain ⟨ls1, hl1, r1⟩ := two_rowFor1 h ra rb hk h8
  obtain ⟨ls2, hl2, hκ2, hm2, r2⟩ := two_rowFor2 h ra rb hk h8 hpq
  have c2 := i2.bindT_co hl2 r2 hτ
  have hτ2 := Kn.bindT_less hκ2 hτ
  obtain ⟨hltp, hκp, _⟩ := ra.tl p0 rfl
  obtain ⟨hltq, hκq, _⟩ := rb.tl q0 rfl
  have c1 := i1.bindT_co hl1 r1 hτ2
  have hτ1 : (S1 S x y).Sat τ := Kn.bindT_less (S := S1 S x y) hκp hτ2
  obtain ⟨hτ0, a0⟩ := Kn.freshT_less h hτ1
  rw [show (t2 S k x y).k = k from rfl, t2, two_co h8 hk hτ2.1 r2.ok] at c2
  rw [show (t1 S k x y).k = k from rfl, t1, two_co h8 hk hτ1.1 r1.ok] at c1
  rw [a0.inst a bda, a0.inst b bdb, rows_co ra rb hk hτ0]
  have ep := (a0 p0 hltp).2
  have eq := (a0 q0 hltq).2
  refine ⟨?_, fun l => ?_⟩
  · show ((τ.updV S.m (varT S.m)).t p0).2 = ((τ.updV S.m (varT S.m)).t q0).2
    rw [← ep, ← eq, c1.1, c2.1]
  · have g1 := c1.2 l
    have g2 := c2.2 l
    show CoL (((getF l x).map _).or (getF l ((τ.updV S.m (varT S.m)).t p0).1)) (((getF l y).map _).or (getF l ((τ.updV S.m (varT S.m)).t q0).1))
    have np : ∀ z, getF l (τ.t p0).1 = some z → getF l x = none ∧ stT z ∧ riT z := fun z hz => by
      have hz2 : getF l ((τ.updV S.m (varT S.m)).tail (some p0)).1 = some z := by
        show getF l ((τ.updV S.m (varT S.m)).t p0).1 = some z
        rw [← ep]; exact hz
      exact ⟨ra.tail_no hτ0 hz2, ra.tail_st hτ0 hz2⟩
    have nq : ∀ z, getF l (τ.t q0).1 = some z → getF l y = none ∧ stT z ∧ riT z := fun z hz => by
      have hz2 : getF l ((τ.updV S.m (varT S.m)).tail (some q0)).1 = some z := by
        show getF l ((τ.updV S.m (varT S.m)).t q0).1 = some z
        rw [← eq]; exact hz
      exact ⟨rb.tail_no hτ0 hz2, rb.tail_st hτ0 hz2⟩
    rw [← ep, ← eq]
    cases hx : getF l x with
    | some c =>
      have hP : getF l (τ.t p0).1 = none := by
        cases ht : getF l (τ.t p0).1 with
        | none => rfl
        | some z => have := (np z ht).1; rw [hx] at this; cases this
      have hcb := (ra.el _ (getF_mem hx)).2
      rw [hP]
      cases hy : getF l y with
      | some d =>
        have := hs l c d hx hy _ hτ0
        exact this
      | none =>
        rw [lackF_get x y (getF_none.1 hy), hx] at g2
        simp only [Option.map_some, Option.some_or, Option.map_none, Option.none_or] at g2 ⊢
        rw [a0.inst c hcb] at g2
        exact coL_symm g2
    | none =>
      cases hy : getF l y with
      | some d =>
        have hQ : getF l (τ.t q0).1 = none := by
          cases ht : getF l (τ.t q0).1 with
          | none => rfl
          | some z => have := (nq z ht).1; rw [hy] at this; cases this
        have hdb := (rb.el _ (getF_mem hy)).2
        rw [hQ]
        rw [lackF_get y x (getF_none.1 hx), hy] at g1
        simp only [Option.map_some, Option.some_or, Option.map_none, Option.none_or] at g1 ⊢
        rw [a0.inst d hdb] at g1
        exact g1
      | none =>
        rw [lackF_get y x (getF_none.1 hx), hy] at g1
        rw [lackF_get x y (getF_none.1 hy), hx] at g2
        simp only [Option.map_none, Option.none_or] at g1 g2 ⊢
        have hR : ∀ z, getF l (τ.t S.m).1 = some z → stT z ∧ riT z := fun z hz => (hτ1.1.t S.m _ (S1_new S x y)).2.2 _ (getF_mem hz)
        rw [coL_eq g1 (fun z hz => (np z hz).2) hR, coL_eq g2 (fun z hz => (nq z hz).2) hR]
        exact coL_refl _

/-- Whatever lets the rows agree can be extended to the new tail. -/
theorem two_gen1 (h : S.Inv) (ra : RowOf S a k x (some p0)) (rb : RowOf S b k y (some q0)) (hk : k ≠ 0) (h8 : k ≠ 8) {τ : Va} (hτ : S.Sat τ) (hc : Co (inst τ a) (inst τ b)) :
    ∃ τ1, (S1 S x y).Sat τ1 ∧ Alike S.m τ τ1 ∧ τ1.t S.m = (lackF (τ.t p0).1 (lackF y x), (τ.t p0).2) ∧ Co (.mk k 0 (τ1.t p0).1 (τ1.t p0).2) (inst τ1 (t1 S k x y)) := by
  obtain ⟨ls1, hl1, r1⟩ := two_rowFor1 h ra rb hk h8
  obtain ⟨hltp, hκp, lsp, hlp, hip⟩ := ra.tl p0 rfl
  obtain ⟨t1', t2', t3'⟩ := hτ.1.t p0 lsp hlp
  rw [rows_co ra rb hk hτ] at hc
  obtain ⟨s1, a1⟩ := h.freshT_gen (ls := bothL x y) hτ (R := lackF (τ.t p0).1 (lackF y x)) (tl := (τ.t p0).2) (List.Pairwise.sublist List.filter_sublist t1') (fun l hl => by
    obtain ⟨g1, g2⟩ := lackF_labs.1 hl
    intro hb
    unfold bothL at hb
    rcases List.mem_append.1 hb with hb | hb
    · exact t2' l g1 ((hip l).2 hb)
    · exact g2 hb) (fun q hq => t3' q (mem_lackF hq))
  have em : (τ.updT S.m (lackF (τ.t p0).1 (lackF y x), (τ.t p0).2)).t S.m = (lackF (τ.t p0).1 (lackF y x), (τ.t p0).2) := by
    show (if S.m = S.m then _ else _) = _
    rw [if_pos rfl]
  refine ⟨_, s1, a1, em, ?_⟩
  rw [t1, two_co h8 hk s1.1 r1.ok, ← (a1 p0 hltp).2, em]
  refine ⟨rfl, fun l => ?_⟩
  by_cases hv : l ∈ labsF (lackF y x)
  · rw [lackF_get_in hv]
    obtain ⟨hy, hx⟩ := lackF_labs.1 hv
    rw [lackF_get y x hx]
    cases hyg : getF l y with
    | none => exact absurd hy (getF_none.1 hyg)
    | some d =>
      have := hc.2 l
      rw [getF_none.2 hx, hyg] at this
      simp only [Option.map_some, Option.some_or, Option.map_none, Option.none_or] at this ⊢
      rw [← a1.inst d (rb.el _ (getF_mem hyg)).2]
      exact this
  · rw [getF_none.2 hv, lackF_get _ _ hv]
    exact coL_refl _

theorem two_gen2 (h : S.Inv) (ra : RowOf S a k x (some p0)) (rb : RowOf S b k y (some q0)) (hk : k ≠ 0) (h8 : k ≠ 8) (hpq : p0 ≠ q0) {τ τ1 τ2 : Va} (hτ : S.Sat τ) (hc : Co (inst τ a) (inst τ b))
    (a1 : Alike S.m τ τ1) (em : τ1.t S.m = (lackF (τ.t p0).1 (lackF y x), (τ.t p0).2)) (hτ2 : (S2 S k x y p0).Sat τ2) (a2 : Alike (S.m + 1) τ1 τ2) : Co (.mk k 0 (τ2.t q0).1 (τ2.t q0).2) (inst τ2 (t2 S k x y)) := by
  obtain ⟨ls2, hl2, hκ2, hm2, r2⟩ := two_rowFor2 h ra rb hk h8 hpq
  obtain ⟨hltp, hκp, lsp, hlp, hip⟩ := ra.tl p0 rfl
  obtain ⟨hltq, hκq, _⟩ := rb.tl q0 rfl
  rw [rows_co ra rb hk hτ] at hc
  rw [t2, two_co h8 hk hτ2.1 r2.ok]
  have eq : τ2.t q0 = τ.t q0 := ((a2 q0 (by omega)).2.symm).trans (a1 q0 hltq).2.symm
  have er : τ2.t S.m = (lackF (τ.t p0).1 (lackF y x), (τ.t p0).2) := ((a2 S.m (by omega)).2.symm).trans em
  have a3 : Alike S.m τ τ2 := a1.trans (a2.mono (by omega))
  rw [eq, er]
  refine ⟨hc.1.symm, fun l => ?_⟩
  have g := hc.2 l
  have g : CoL (((getF l x).map (inst τ)).or (getF l (τ.t p0).1)) (((getF l y).map (inst τ)).or (getF l (τ.t q0).1)) := g
  have np : ∀ z, getF l (τ.t p0).1 = some z → getF l x = none := fun z hz => ra.tail_no hτ (τ := τ) hz
  have nq : ∀ z, getF l (τ.t q0).1 = some z → getF l y = none := fun z hz => rb.tail_no hτ (τ := τ) hz
  simp only
  cases hy : getF l y with
  | some d =>
    have hQ : getF l (τ.t q0).1 = none := by
      cases ht : getF l (τ.t q0).1 with
      | none => rfl
      | some z => have := nq z ht; rw [hy] at this; cases this
    rw [hQ, lackF_get_in (getF_lab hy)]
    have hR : getF l (lackF (τ.t p0).1 (lackF y x)) = none := by
      cases hx : getF l x with
      | none => exact lackF_get_in (lackF_labs.2 ⟨getF_lab hy, getF_none.1 hx⟩)
      | some c =>
        by_cases hv : l ∈ labsF (lackF y x)
        · exact lackF_get_in hv
        · rw [lackF_get _ _ hv]
          cases ht : getF l (τ.t p0).1 with
          | none => rfl
          | some z => have := np z ht; rw [hx] at this; cases this
    rw [hR]
    trivial
  | none =>
    rw [hy] at g
    simp only [Option.map_none, Option.none_or] at g
    rw [lackF_get x y (getF_none.1 hy)]
    have hv : l ∉ labsF (lackF y x) := fun hl => (getF_none.1 hy) (lackF_labs.1 hl).1
    rw [lackF_get _ _ hv]
    cases hx : getF l x with
    | some c =>
      rw [hx] at g
      simp only [Option.map_some, Option.some_or] at g ⊢
      rw [← a3.inst c (ra.el _ (getF_mem hx)).2]
      exact coL_symm g
    | none =>
      rw [hx] at g
      simp only [Option.map_none, Option.none_or] at g ⊢
      exact coL_symm g

theorem ends_two (h : S.Inv) (ra : RowOf S a k x (some p0)) (rb : RowOf S b k y (some q0)) (hk : k ≠ 0) (h8 : k ≠ 8) (hpq : p0 ≠ q0) (hs : Shared S x y) (bda : bdT S.m a) (bdb : bdT S.m b)
    (o1 : ¬ occN p0 (inst (S1 S x y).σ (stc (S1 S x y).m (t1 S k x y)).1)) (o2 : ¬ occN q0 (inst (S2 S k x y p0).σ (stc (S2 S k x y p0).m (t2 S k x y)).1)) :
    Step S ((S2 S k x y p0).bindT q0 (t2 S k x y)) fun τ => Co (inst τ a) (inst τ b) := by
  obtain ⟨ls1, hl1, r1⟩ := two_rowFor1 h ra rb hk h8
  obtain ⟨ls2, hl2, hκ2, hm2, r2⟩ := two_rowFor2 h ra rb hk h8 hpq
  obtain ⟨hltp, hκp, _⟩ := ra.tl p0 rfl
  have i1 : (S1 S x y).Inv := h.freshT _
  have hp1 : p0 < (S1 S x y).m := by show p0 < S.m + 1; omega
  have i2 : (S2 S k x y p0).Inv := i1.bindT hκp hl1 hp1 r1 o1
  refine ⟨i2.bindT hκ2 hl2 hm2 r2 o2, (Kn.freshT_le h _).trans ((Kn.bindT_le i1 hκp r1).trans (Kn.bindT_le i2 hκ2 r2)), fun τ hτ => two_sound h ra rb hk h8 hpq hs bda bdb hτ i1 i2, fun τ hτ hc => ?_⟩
  obtain ⟨τ1, s1, a1, em, c1⟩ := two_gen1 h ra rb hk h8 hτ hc
  obtain ⟨τ2, s2, a2⟩ := i1.bindT_gen hκp hl1 hp1 r1 s1 c1
  obtain ⟨τ3, s3, a3⟩ := i2.bindT_gen hκ2 hl2 hm2 r2 s2 (two_gen2 h ra rb hk h8 hpq hτ hc a1 em s2 a2)
  have hm : S.m + 1 ≤ (S2 S k x y p0).m := (stc_ok (t1 S k x y) (S1 S x y).m ⟨r1.ok, r1.bd, i1.new⟩).1
  exact ⟨τ3, s3, a1.trans ((a2.mono (by show S.m ≤ S.m + 1; omega)).trans (a3.mono (by omega)))⟩

theorem ends_two_no1 (h : S.Inv) (ra : RowOf S a k x (some p0)) (rb : RowOf S b k y (some q0)) (hk : k ≠ 0) (h8 : k ≠ 8)
    (o1 : occN p0 (inst (S1 S x y).σ (stc (S1 S x y).m (t1 S k x y)).1)) {τ : Va} (hτ : S.Sat τ) : ¬ Co (inst τ a) (inst τ b) := fun hc => by
  obtain ⟨ls1, hl1, r1⟩ := two_rowFor1 h ra rb hk h8
  obtain ⟨hltp, _⟩ := ra.tl p0 rfl
  obtain ⟨τ1, s1, a1, em, c1⟩ := two_gen1 h ra rb hk h8 hτ hc
  have i1 : (S1 S x y).Inv := h.freshT _
  have hp1 : p0 < (S1 S x y).m := by show p0 < S.m + 1; omega
  exact i1.occursT_no hl1 hp1 r1 o1 s1 c1

theorem ends_two_no2 (h : S.Inv) (ra : RowOf S a k x (some p0)) (rb : RowOf S b k y (some q0)) (hk : k ≠ 0) (h8 : k ≠ 8) (hpq : p0 ≠ q0)
    (o1 : ¬ occN p0 (inst (S1 S x y).σ (stc (S1 S x y).m (t1 S k x y)).1)) (o2 : occN q0 (inst (S2 S k x y p0).σ (stc (S2 S k x y p0).m (t2 S k x y)).1)) {τ : Va} (hτ : S.Sat τ) : ¬ Co (inst τ a) (inst τ b) := fun hc => by
  obtain ⟨ls1, hl1, r1⟩ := two_rowFor1 h ra rb hk h8
  obtain ⟨ls2, hl2, hκ2, hm2, r2⟩ := two_rowFor2 h ra rb hk h8 hpq
  obtain ⟨hltp, hκp, _⟩ := ra.tl p0 rfl
  obtain ⟨τ1, s1, a1, em, c1⟩ := two_gen1 h ra rb hk h8 hτ hc
  have i1 : (S1 S x y).Inv := h.freshT _
  have hp1 : p0 < (S1 S x y).m := by show p0 < S.m + 1; omega
  have i2 : (S2 S k x y p0).Inv := i1.bindT hκp hl1 hp1 r1 o1
  obtain ⟨τ2, s2, a2⟩ := i1.bindT_gen hκp hl1 hp1 r1 s1 c1
  exact i2.occursT_no hl2 hm2 r2 o2 s2 (two_gen2 h ra rb hk h8 hpq hτ hc a1 em s2 a2)
end

end Go.Proofs.Ytblfeokjlecgkaa
