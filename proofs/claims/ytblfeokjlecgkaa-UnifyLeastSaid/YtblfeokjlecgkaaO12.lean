/- Laid together by a tool from the texts of this seat: UniG UniH. Conditions: each theorem's own. -/
import Derived.Test.YtblfeokjlecgkaaO11
import Derived.Test.YtblfeokjlecgkaaO09
/- What each step of the solver does to a good state: a Var or a Tail becomes a tree, two rows' ends, children one after another, labels one after another. -/
namespace Go.Proofs.Ytblfeokjlecgkaa

/-- A step was done, that needs no more than so many ?s. -/
structure Done (U : List Lb) (S S' : Kn) (C : Va → Prop) (n : Nat) : Prop where
  kg : KG U S'
  st : Step S S' C
  un : S'.un ≤ S.un + n
  ch : S' = S ∨ S'.un < S.un + n
  m : S'.m + (S'.un : Int) ≤ S.m + S.un + 2 * (n : Nat)

section
variable {U : List Lb} {S S' : Kn} {a b : Ut}

theorem Done.none {C : Va → Prop} (h : KG U S) (s : Step S S C) (n : Nat) : Done U S S C n := ⟨h, s, by omega, .inl rfl, by omega⟩
theorem Done.more {C : Va → Prop} {n n' : Nat} (h : Done U S S' C n) (hn : n ≤ n') : Done U S S' C n' :=
  ⟨h.kg, h.st, by have := h.un; omega, h.ch.imp id fun k => by omega, by have := h.m; omega⟩
theorem Done.symm {n : Nat} (h : Done U S S' (CoI a b) n) : Done U S S' (CoI b a) n := ⟨h.kg, h.st.symm, h.un, h.ch, h.m⟩
theorem Done.eqv {n : Nat} {a' b' : Ut} (h : Done U S S' (CoI a b) n) (pa : Pend S a) (pa' : Pend S a') (pb : Pend S b) (pb' : Pend S b') (ea : Eqv S a' a) (eb : Eqv S b' b) : Done U S S' (CoI a' b') n :=
  ⟨h.kg, h.st.eqv pa pa' pb pb' ea eb, h.un, h.ch, h.m⟩

/-! ### A Var becomes a tree -/

theorem stc_var {m : Int} {t : Ut} {L : Sorts} (ho : okT L t) (h8 : t.k = 8) : (stc m t).1 = t := by
  obtain ⟨k, n, fs, tl⟩ := t
  obtain ⟨e, _⟩ := okT_shape ho h8
  rw [e]
  unfold varT
  rw [stc_mk, if_neg (by decide), stcF_nil]

theorem KG.bindV (h : KG U S) {v : Int} {t : Ut} (hv : S.κ v = none) (hl : S.L v = none) (h0 : 0 ≤ v) (hvm : v < S.m) (g : TG U S t) (h8 : t.k = 8 → S.κ t.n = none ∧ t.n ≠ v) (o : ¬ occN v (inst S.σ (stc S.m t).1)) : KG U (S.bindV v t) := by
  refine ⟨h.inv.bindV hv hl hvm g.pend.1 g.pend.2 o, ?_, h.fu.bindV hl g.fu, h.nn.bindV h0 g.pend.1 g.nn, h.sh.bindV h.inv g.pend.1 g.pend.2 g.sh, fun u s hu => ?_, h.ne⟩
  · refine h.rk.put (v := v) (t := (stc S.m t).1) hv rfl (fun _ _ _ => rfl) (fun hk => ?_) (fun ls q hls => ?_)
    · by_cases e : t.k = 8
      · rw [stc_var g.pend.1 e]
        exact h8 e
      · obtain ⟨k, n, fs, tl⟩ := t
        by_cases e0 : k = 0
        · rw [stc_mk, if_pos e0]
          exact ⟨h.inv.free (Int.le_refl _), by show S.m ≠ v; omega⟩
        · rw [(stc_root (t := .mk k n fs tl) e0).1] at hk
          exact absurd hk e
    · have hls : S.L v = some ls := hls
      rw [hl] at hls
      cases hls
  · have hu : upd S.κ v (stc S.m t).1 u = some s := hu
    by_cases e : u = v
    · subst e
      rw [upd_same] at hu
      injection hu with hu
      subst hu
      refine ⟨stc_lab t S.m g.lb, fun ls hls => ?_⟩
      have hls : S.L u = some ls := hls
      rw [hl] at hls
      cases hls
    · rw [upd_other e] at hu
      exact h.lb u s hu

theorem occ_var {v n : Int} : occN v (varT n) ↔ n = v := by
  unfold varT
  rw [occN_mk]
  constructor
  · rintro (⟨_, e⟩ | e | ⟨p, hp, _⟩)
    · exact e
    · cases e
    · simp at hp
  · exact fun e => .inl ⟨rfl, e⟩

theorem done_var (h : KG U S) {v : Int} (hv : S.κ v = none) (hl : S.L v = none) (h0 : 0 ≤ v) (hvm : v < S.m) (g : TG U S b) (h8 : b.k = 8 → S.κ b.n = none ∧ b.n ≠ v) (o : ¬ occN v (inst S.σ (stc S.m b).1)) :
    Done U S (S.bindV v b) (CoI (varT v) b) (dynT b) := by
  have hu := un_bindV h.inv h.nn hv h0 hvm g.pend.1
  have hm : (S.bindV v b).m = S.m + (dynT b : Nat) := stc_next b S.m g.pend.1
  exact ⟨h.bindV hv hl h0 hvm g h8 o, agree_var h.inv hv hl hvm g.pend o, by omega, .inr (by omega), by omega⟩

theorem dis_var (h : KG U S) {v : Int} (hl : S.L v = none) (hvm : v < S.m) (g : TG U S b) (h0 : b.k ≠ 0) (h8 : b.k = 8 → S.κ b.n = none ∧ b.n ≠ v) (o : occN v (inst S.σ (stc S.m b).1)) : Dis S (varT v) b := by
  refine agree_var_no h.inv hl hvm g.pend o fun hk => ?_
  by_cases e : b.k = 8
  · rw [stc_var g.pend.1 e] at o
    obtain ⟨k, n, fs, tl⟩ := b
    obtain ⟨e2, _⟩ := okT_shape g.pend.1 e
    rw [e2] at o
    obtain ⟨h1, h2⟩ := h8 e
    have h1 : S.κ n = none := h1
    rw [inst_var, (h.inv.unk n h1).1, occ_var] at o
    exact h2 o
  · obtain ⟨k, n, fs, tl⟩ := b
    have h0 : k ≠ 0 := h0
    have e : k ≠ 8 := e
    rw [stc_mk, if_neg h0] at hk
    rw [inst_eq, if_neg e] at hk
    exact e hk

/-! ### A Tail becomes a row -/

theorem KG.freshT (h : KG U S) (ls : List Lb) (hne : ls ≠ []) : KG U (S.freshT ls) :=
  have key : ∀ u t, S.κ u = some t → (S.freshT ls).L u = S.L u := fun u t hu => by
    have := (h.inv.dom u t hu).1
    show (if u = S.m then some ls else S.L u) = S.L u
    rw [if_neg (by omega)]
  ⟨h.inv.freshT ls, h.rk.like rfl key, h.fu.freshT h.inv ls, h.nn.freshT ls, h.sh.freshT h.inv ls, fun v t hv => by
    rw [key v t hv]
    exact h.lb v t hv, fun p ls2 hp => by
    have hp : (if p = S.m then some ls else S.L p) = some ls2 := hp
    split at hp
    · injection hp with hp
      rw [← hp]
      exact hne
    · exact h.ne p ls2 hp⟩

theorem KG.bindT (h : KG U S) {p : Int} {ls : List Lb} {t : Ut} (hp : S.κ p = none) (hl : S.L p = some ls) (h0 : 0 ≤ p) (hpm : p < S.m) (r : RowFor S p ls t) (o : ¬ occN p (inst S.σ (stc S.m t).1)) (hn : nnT t) (hs : shT t) (hb : labT U t) (hlr : ∀ l ∈ ls, rowLabelB t.k l = true)
    (hc : ∀ c ∈ t.fs, fuT S.L c.2) (hq : ∀ q ls', t.tl = some q → S.L q = some ls' → ∀ l ∈ ls', l ∈ ls ∨ l ∈ labsF t.fs) : KG U (S.bindT p t) := by
  obtain ⟨e1, e2, e3, e4⟩ := stc_root (m := S.m) r.k0
  refine ⟨h.inv.bindT hp hl hpm r o, ?_, h.fu.bindT hl r.k0 hc hq, h.nn.bindT h0 r.ok hn, h.sh.bindT h.inv r hs, fun u s hu => ?_, h.ne⟩
  · refine h.rk.put (v := p) (t := (stc S.m t).1) hp rfl (fun _ _ _ => rfl) (fun hk => ?_) (fun ls2 q hls hq => ?_)
    · rw [e1] at hk
      exact absurd hk r.k8
    · rw [e4] at hq
      obtain ⟨a, b, _⟩ := r.q q hq
      exact ⟨b, a⟩
  · have hu : upd S.κ p (stc S.m t).1 u = some s := hu
    by_cases e : u = p
    · subst e
      rw [upd_same] at hu
      injection hu with hu
      subst hu
      refine ⟨stc_lab t S.m hb, fun ls2 hls => ?_⟩
      have hls : S.L u = some ls2 := hls
      rw [hl] at hls
      injection hls with hls
      rw [← hls, e1]
      exact hlr
    · rw [upd_other e] at hu
      exact h.lb u s hu

/-! ### Two rows' ends -/

theorem isRow_k {k : Int} (h : isRowB k = true) : k ≠ 8 ∧ k ≠ 0 ∧ k ≠ 5 ∧ 0 ≤ k ∧ k ≤ 8 := by
  simp [isRowB] at h
  omega

/-- A row laid out of fields of another one. -/
theorem row_parts {L : Sorts} {k : Int} {y x : Fl} {r : Option Int} (hk : isRowB k = true) (el : ∀ c ∈ y, TG U S c.2) (lb : ∀ l ∈ labsF y, l ∈ U ∧ (isRowB k = true → rowLabelB k l = true)) (hr : ∀ q, r = some q → 0 ≤ q) (hL : S.L = L) :
    nnT (.mk k 0 (lackF y x) r) ∧ shT (.mk k 0 (lackF y x) r) ∧ labT U (.mk k 0 (lackF y x) r) ∧ (∀ c ∈ (Ut.mk k 0 (lackF y x) r).fs, fuT L c.2) ∧ dynT (.mk k 0 (lackF y x) r) = dynF (lackF y x) := by
  subst hL
  obtain ⟨k8, k0, k5, k1, k2⟩ := isRow_k hk
  refine ⟨?_, ?_, ?_, fun c hc => (el c (mem_lackF hc)).fu, by rw [dynT_mk, if_neg k0]; omega⟩
  · rw [nnT_mk]
    exact ⟨fun e => absurd e k8, hr, fun p hp => (el p (mem_lackF hp)).nn⟩
  · rw [shT_mk]
    exact ⟨⟨k1, k2, (fun e => absurd e k5), fun _ e => (by rw [hk] at e; cases e)⟩, fun p hp => (el p (mem_lackF hp)).sh⟩
  · rw [labT_mk]
    exact ⟨fun l hl => lb l (lackF_labs.1 hl).1, fun p hp => (el p (mem_lackF hp)).lb⟩

section
variable {x y : Fl} {p q : Option Int} {p0 q0 : Int}

/-- The labels of a tail's rows are such as the row may have. -/
theorem tail_lab (ra : RowG U S a x (some p0)) (hk : isRowB a.k = true) {ls : List Lb} (hl : S.L p0 = some ls) : ∀ l ∈ ls, rowLabelB a.k l = true := fun l hm => by
  obtain ⟨_, _, ls2, k1, k2⟩ := ra.of.tl p0 rfl
  rw [hl] at k1
  injection k1 with k1
  subst k1
  exact (ra.lb l ((k2 l).1 hm)).2 hk

theorem both_ne (h : KG U S) (ra : RowG U S a x (some p0)) (y : Fl) : bothL x y ≠ [] := fun e => by
  obtain ⟨_, _, ls2, k1, k2⟩ := ra.of.tl p0 rfl
  obtain ⟨l, hl⟩ := List.exists_mem_of_ne_nil ls2 (h.ne p0 ls2 k1)
  have : l ∈ bothL x y := List.mem_append_left _ ((k2 l).1 hl)
  rw [e] at this
  simp at this

theorem done_one (h : KG U S) (ra : RowG U S a x (some p0)) (rb : RowG U S b y none) (hk : isRowB a.k = true) (hab : b.k = a.k) (hs : Shared S x y) (hu : lackF x y = []) (o : ¬ occN p0 (inst S.σ (stc S.m (.mk a.k 0 (lackF y x) none)).1)) :
    Done U S (S.bindT p0 (.mk a.k 0 (lackF y x) none)) (CoI a b) (dynF (lackF y x)) := by
  obtain ⟨k8, k0, _⟩ := isRow_k hk
  have rb' := rb.of
  rw [hab] at rb'
  obtain ⟨hpm, hpu, _⟩ := ra.of.tl p0 rfl
  obtain ⟨ls, hl, rf⟩ := one_rowFor ra.of rb' k0 k8
  have rlb := rb.lb
  rw [hab] at rlb
  obtain ⟨a1, a2, a3, a4, a5⟩ := row_parts (S := S) (x := x) (r := none) hk rb.el rlb (fun q hq => by cases hq) rfl
  have hun := un_bindT h.inv h.nn hpu (ra.nn p0 rfl) hpm rf.ok
  have hm : (S.bindT p0 (.mk a.k 0 (lackF y x) none)).m = S.m + (dynT (.mk a.k 0 (lackF y x) none) : Nat) := stc_next _ S.m rf.ok
  rw [a5] at hun hm
  exact ⟨h.bindT hpu hl (ra.nn p0 rfl) hpm rf o a1 a2 a3 (tail_lab ra hk hl) a4 (fun q ls' hq => by cases hq), ends_one h.inv ra.of rb' k0 k8 hs hu o, by omega, .inr (by omega), by omega⟩

theorem dis_one (h : KG U S) (ra : RowG U S a x (some p0)) (rb : RowG U S b y none) (hk : isRowB a.k = true) (hab : b.k = a.k) (hs : Shared S x y) (hu : lackF x y = []) (o : occN p0 (inst S.σ (stc S.m (.mk a.k 0 (lackF y x) none)).1)) : Dis S a b := by
  obtain ⟨k8, k0, _⟩ := isRow_k hk
  have rb' := rb.of
  rw [hab] at rb'
  exact fun τ hτ => ends_one_no h.inv ra.of rb' k0 k8 hs hu o hτ

theorem done_ends0 (h : KG U S) (ra : RowG U S a x p) (rb : RowG U S b y p) (hk : isRowB a.k = true) (hab : b.k = a.k) (hs : Shared S x y) (hu : lackF x y = []) (hv : lackF y x = []) (n : Nat) : Done U S S (CoI a b) n := by
  obtain ⟨k8, k0, _⟩ := isRow_k hk
  have rb' := rb.of
  rw [hab] at rb'
  exact .none h (ends_same h.inv ra.of rb' k0 hs hu hv) n

theorem dis_same (ra : RowG U S a x (some p0)) (rb : RowG U S b y (some p0)) (hk : isRowB a.k = true) (hab : b.k = a.k) (hu : ¬ (lackF x y = [] ∧ lackF y x = [])) : Dis S a b := by
  obtain ⟨k8, k0, _⟩ := isRow_k hk
  have rb' := rb.of
  rw [hab] at rb'
  by_cases e : lackF x y = []
  · have e2 : lackF y x ≠ [] := fun e2 => hu ⟨e, e2⟩
    exact fun τ hτ hc => ends_same_no rb' ra.of k0 e2 hτ (by simp) hc.symm
  · exact fun τ hτ => ends_same_no ra.of rb' k0 e hτ (by simp)

theorem dis_lack (ra : RowG U S a x p) (rb : RowG U S b y none) (hk : isRowB a.k = true) (hab : b.k = a.k) (hu : lackF x y ≠ []) : Dis S a b := by
  obtain ⟨k8, k0, _⟩ := isRow_k hk
  have rb' := rb.of
  rw [hab] at rb'
  exact fun τ hτ => ends_lack ra.of rb' k0 hu hτ

/-- The first of two steps. -/
theorem two_first (h : KG U S) (ra : RowG U S a x (some p0)) (rb : RowG U S b y (some q0)) (hk : isRowB a.k = true) (hab : b.k = a.k) (o1 : ¬ occN p0 (inst (S1 S x y).σ (stc (S1 S x y).m (t1 S a.k x y)).1)) :
    KG U (S2 S a.k x y p0) ∧ (S2 S a.k x y p0).un = S.un + dynF (lackF y x) ∧ (S2 S a.k x y p0).m = S.m + 1 + (dynF (lackF y x) : Nat) := by
  obtain ⟨k8, k0, _⟩ := isRow_k hk
  have rb' := rb.of
  rw [hab] at rb'
  obtain ⟨hpm, hpu, hpl⟩ := ra.of.tl p0 rfl
  have h1 : KG U (S1 S x y) := h.freshT _ (both_ne h ra y)
  have rlb := rb.lb
  rw [hab] at rlb
  obtain ⟨ls, hl, rf⟩ := two_rowFor1 h.inv ra.of rb' k0 k8
  have el : ∀ c ∈ y, TG U (S1 S x y) c.2 := fun c hc => (rb.el c hc).later (Kn.freshT_le h.inv _)
  obtain ⟨a1, a2, a3, a4, a5⟩ := row_parts (S := S1 S x y) (x := x) (r := some S.m) hk el rlb (fun q hq => by injection hq with hq; rw [← hq]; exact h.nn.m) rfl
  have hun0 := un_freshT h.inv h.nn (bothL x y)
  have hun := un_bindT h1.inv h1.nn (v := p0) hpu (ra.nn p0 rfl) (by show p0 < S.m + 1; omega) rf.ok
  have hm : (S2 S a.k x y p0).m = (S1 S x y).m + (dynT (t1 S a.k x y) : Nat) := stc_next _ _ rf.ok
  have a5 : dynT (t1 S a.k x y) = dynF (lackF y x) := a5
  rw [a5] at hun hm
  have e1 : (S1 S x y).un = S.un + 1 := hun0
  have e2 : (S1 S x y).m = S.m + 1 := rfl
  refine ⟨?_, by show ((S1 S x y).bindT p0 (t1 S a.k x y)).un = _; omega, by rw [hm, e2]⟩
  refine h1.bindT hpu hl (ra.nn p0 rfl) (by show p0 < S.m + 1; omega) rf o1 a1 a2 a3 (tail_lab ra hk (by rw [← S1_old (x := x) (y := y) hpm]; exact hl)) a4 fun q ls' hq hq2 l hl2 => ?_
  have hq : some S.m = some q := hq
  injection hq with hq
  subst hq
  rw [S1_new] at hq2
  injection hq2 with hq2
  subst hq2
  rw [S1_old hpm] at hl
  obtain ⟨ls2, k1, k2⟩ := hpl
  rw [hl] at k1
  injection k1 with k1
  subst k1
  rcases List.mem_append.1 hl2 with g | g
  · exact .inl ((k2 l).2 g)
  · exact .inr g

theorem done_two (h : KG U S) (ra : RowG U S a x (some p0)) (rb : RowG U S b y (some q0)) (hk : isRowB a.k = true) (hab : b.k = a.k) (hpq : p0 ≠ q0) (hs : Shared S x y) (pa : Pend S a) (pb : Pend S b)
    (o1 : ¬ occN p0 (inst (S1 S x y).σ (stc (S1 S x y).m (t1 S a.k x y)).1)) (o2 : ¬ occN q0 (inst (S2 S a.k x y p0).σ (stc (S2 S a.k x y p0).m (t2 S a.k x y)).1)) :
    Done U S ((S2 S a.k x y p0).bindT q0 (t2 S a.k x y)) (CoI a b) (dynF (lackF x y) + dynF (lackF y x)) := by
  obtain ⟨k8, k0, _⟩ := isRow_k hk
  have rb' := rb.of
  rw [hab] at rb'
  obtain ⟨h2, u2, m2⟩ := two_first h ra rb hk hab o1
  obtain ⟨ls, hl, hqu, hqm, rf⟩ := two_rowFor2 h.inv ra.of rb' k0 k8 hpq
  have i1 : (S1 S x y).Inv := h.inv.freshT _
  have l2 : S.Le (S2 S a.k x y p0) := by
    obtain ⟨ls, hl, rf⟩ := two_rowFor1 h.inv ra.of rb' k0 k8
    exact (Kn.freshT_le h.inv _).trans (Kn.bindT_le i1 (show (S1 S x y).κ p0 = none from (ra.of.tl p0 rfl).2.1) rf)
  have el : ∀ c ∈ x, TG U (S2 S a.k x y p0) c.2 := fun c hc => (ra.el c hc).later l2
  obtain ⟨a1, a2, a3, a4, a5⟩ := row_parts (S := S2 S a.k x y p0) (x := y) (r := some S.m) hk el ra.lb (fun q hq => by injection hq with hq; rw [← hq]; exact h.nn.m) rfl
  have hun := un_bindT h2.inv h2.nn hqu (rb.nn q0 rfl) hqm rf.ok
  have hm : ((S2 S a.k x y p0).bindT q0 (t2 S a.k x y)).m = (S2 S a.k x y p0).m + (dynT (t2 S a.k x y) : Nat) := stc_next _ _ rf.ok
  have a5 : dynT (t2 S a.k x y) = dynF (lackF x y) := a5
  rw [a5] at hun hm
  refine ⟨?_, ends_two h.inv ra.of rb' k0 k8 hpq hs pa.2 pb.2 o1 o2, by omega, .inr (by omega), by omega⟩
  have hlq : S.L q0 = some ls := by
    have hl : (S1 S x y).L q0 = some ls := hl
    rw [S1_old (rb.of.tl q0 rfl).1] at hl
    exact hl
  have htl := tail_lab rb (by rw [hab]; exact hk) hlq
  rw [hab] at htl
  refine h2.bindT hqu hl (rb.nn q0 rfl) hqm rf o2 a1 a2 a3 htl a4 fun q ls' hq hq2 l hl2 => ?_
  have hq : some S.m = some q := hq
  injection hq with hq
  subst hq
  have hq2 : (S1 S x y).L S.m = some ls' := hq2
  rw [S1_new] at hq2
  injection hq2 with hq2
  subst hq2
  obtain ⟨hqm2, _, ls2, k1, k2⟩ := rb.of.tl q0 rfl
  have hl : (S1 S x y).L q0 = some ls := hl
  rw [S1_old hqm2] at hl
  rw [hl] at k1
  injection k1 with k1
  subst k1
  rcases bothL_iff.1 hl2 with g | g
  · by_cases gy : l ∈ labsF y
    · exact .inl ((k2 l).2 gy)
    · exact .inr (lackF_labs.2 ⟨g, gy⟩)
  · exact .inl ((k2 l).2 g)

theorem dis_two1 (h : KG U S) (ra : RowG U S a x (some p0)) (rb : RowG U S b y (some q0)) (hk : isRowB a.k = true) (hab : b.k = a.k) (o1 : occN p0 (inst (S1 S x y).σ (stc (S1 S x y).m (t1 S a.k x y)).1)) : Dis S a b := by
  obtain ⟨k8, k0, _⟩ := isRow_k hk
  have rb' := rb.of
  rw [hab] at rb'
  exact fun τ hτ => ends_two_no1 h.inv ra.of rb' k0 k8 o1 hτ

theorem dis_two2 (h : KG U S) (ra : RowG U S a x (some p0)) (rb : RowG U S b y (some q0)) (hk : isRowB a.k = true) (hab : b.k = a.k) (hpq : p0 ≠ q0) (o1 : ¬ occN p0 (inst (S1 S x y).σ (stc (S1 S x y).m (t1 S a.k x y)).1)) (o2 : occN q0 (inst (S2 S a.k x y p0).σ (stc (S2 S a.k x y p0).m (t2 S a.k x y)).1)) : Dis S a b := by
  obtain ⟨k8, k0, _⟩ := isRow_k hk
  have rb' := rb.of
  rw [hab] at rb'
  exact fun τ hτ => ends_two_no2 h.inv ra.of rb' k0 k8 hpq o1 o2 hτ
end
end

/-! ### A chain goes one way -/

section
variable {S S' : Kn} {k : Int} {fs : Fl} {tl : Option Int} {x y : Fl} {p q : Option Int}

theorem chain_head {r k' : Int} {gs : Fl} {q' : Option Int} (hk : S.κ r = some (.mk k' 0 gs q')) (h : Chain S k fs (some r) x p) : (x = fs ∧ p = some r) ∨ Chain S k (fs ++ gs) q' x p := by
  induction h with
  | here => exact .inl ⟨rfl, rfl⟩
  | @more x1 r1 k1 gs1 q1 c hk1 ih =>
    rcases ih with ⟨e1, e2⟩ | ih
    · subst e1
      injection e2 with e2
      subst e2
      rw [hk] at hk1
      injection hk1 with hk1
      injection hk1 with _ _ e3 e4
      subst e3 e4
      exact .inr .here
    · exact .inr (.more ih hk1)

theorem chain_det (h : Chain S k fs tl x p) (g : Chain S k fs tl y q) : Chain S k x p y q ∨ Chain S k y q x p := by
  induction g with
  | here => exact .inr h
  | @more y r k' gs q' c hk ih =>
    rcases ih with ih | ih
    · exact .inl (.more ih hk)
    · rcases chain_head hk ih with ⟨e1, e2⟩ | ih
      · subst e1 e2
        exact .inl (.more .here hk)
      · exact .inr ih

theorem chain_stop (h : Chain S k fs tl x p) (ht : ∀ q, tl = some q → S.κ q = none) : x = fs ∧ p = tl := by
  induction h with
  | here => exact ⟨rfl, rfl⟩
  | more c hk ih =>
    obtain ⟨_, e⟩ := ih
    rw [ht _ e.symm] at hk
    cases hk

theorem chain_pre (h : Chain S k fs tl x p) : ∃ z, x = fs ++ z := by
  induction h with
  | here => exact ⟨[], (List.append_nil _).symm⟩
  | more _ _ ih =>
    obtain ⟨z, rfl⟩ := ih
    exact ⟨z ++ _, List.append_assoc _ _ _⟩
end

section
variable {U : List Lb} {S S' : Kn} {t : Ut} {x x' : Fl} {p p' : Option Int}

/-- What a row has it goes on having. -/
theorem RowG.later_get (r : RowG U S t x p) (r' : RowG U S' t x' p') (l : S.Le S') {lab : Lb} {c : Ut} (h : getF lab x = some c) : getF lab x' = some c := by
  obtain ⟨x0, c1, rfl⟩ := r.ch
  obtain ⟨x0', c2, rfl⟩ := r'.ch
  have c1 := c1.later l.κ
  have e : ∃ z, x0' = x0 ++ z := by
    rcases chain_det c1 c2 with g | g
    · exact chain_pre g
    · obtain ⟨e, _⟩ := chain_stop g fun q hq => (r'.of.tl q hq).2.1
      exact ⟨[], by rw [e, List.append_nil]⟩
  obtain ⟨z, rfl⟩ := e
  have n1 : (labsF x0).Nodup := ((srtF_perm x0).map (fun p : Lb × Ut => p.1)).nodup_iff.1 r.of.nod
  have n2 : (labsF (x0 ++ z)).Nodup := ((srtF_perm (x0 ++ z)).map (fun p : Lb × Ut => p.1)).nodup_iff.1 r'.of.nod
  rw [getF_srt n1] at h
  rw [getF_srt n2, getF_append, h]
  rfl
end

/-! ### What of a row is still to come -/

def remF (D : List Lb) (fs : Fl) : Nat := dynF (fs.filter fun c => !hasL c.1 D)

theorem remF_nil (fs : Fl) : remF [] fs = dynF fs := by
  unfold remF
  congr 1
  exact List.filter_eq_self.2 fun c _ => rfl

theorem dynF_filter_le {P Q : Lb × Ut → Bool} : ∀ {fs : Fl}, (∀ c ∈ fs, P c = true → Q c = true) → dynF (fs.filter P) ≤ dynF (fs.filter Q)
  | [], _ => Nat.le_refl _
  | c :: fs, h => by
    have ih := dynF_filter_le (fs := fs) fun d hd => h d (by simp [hd])
    rw [List.filter_cons, List.filter_cons]
    cases hp : P c
    · rw [if_neg (by simp)]
      split
      · rw [dynF_cons]; omega
      · exact ih
    · rw [if_pos rfl, if_pos (h c (by simp) hp), dynF_cons, dynF_cons]
      omega

theorem hasL_cons {l a : Lb} {D : List Lb} : hasL l (a :: D) = (decide (a = l) || hasL l D) := rfl

theorem remF_cons {D : List Lb} {l : Lb} {c : Ut} (hD : l ∉ D) : ∀ {fs : Fl}, getF l fs = some c → remF (l :: D) fs + dynT c ≤ remF D fs
  | [], h => by simp [getF] at h
  | q :: fs, h => by
    have hf : hasL l D = false := by
      cases e : hasL l D
      · rfl
      · exact absurd (hasL_iff.1 e) hD
    simp only [getF] at h
    unfold remF
    rw [List.filter_cons, List.filter_cons]
    by_cases e : q.1 = l
    · rw [if_pos e] at h
      injection h with h
      subst h
      rw [e, hasL_cons, hf]
      simp only [decide_true, Bool.true_or, Bool.not_true, Bool.false_eq_true, if_false, Bool.not_false, if_true]
      rw [dynF_cons]
      have : dynF (fs.filter fun c => !hasL c.1 (l :: D)) ≤ dynF (fs.filter fun c => !hasL c.1 D) := dynF_filter_le fun d _ hd => by
        rw [hasL_cons] at hd
        revert hd
        cases hasL d.1 D <;> simp
      omega
    · rw [if_neg e] at h
      have ih := remF_cons hD h
      unfold remF at ih
      rw [hasL_cons, decide_eq_false (fun e2 => e e2.symm), Bool.false_or]
      split
      · rw [dynF_cons, dynF_cons]; omega
      · exact ih

theorem remF_row {U : List Lb} {S : Kn} {t : Ut} {x : Fl} {p : Option Int} (r : RowG U S t x p) (D : List Lb) : remF D x = remF D t.fs := by
  obtain ⟨e, rfl, he⟩ := r.org
  unfold remF
  rw [dynF_perm ((srtF_perm _).filter _), List.filter_append, dynF_append]
  have : ∀ l : Fl, (∀ c ∈ l, stT c.2) → dynF l = 0 := by
    intro l
    induction l with
    | nil => exact fun _ => dynF_nil
    | cons c l ih => exact fun h => by rw [dynF_cons, stT_dyn _ (h c (by simp)), ih fun d hd => h d (by simp [hd])]
  rw [this (e.filter _) fun c hc => he c (List.mem_filter.1 hc).1]
  rfl

theorem lack_rem {x y : Fl} {D : List Lb} (h : ∀ l ∈ D, l ∈ labsF y) : dynF (lackF x y) ≤ remF D x :=
  dynF_filter_le fun c _ hc => by
    cases e : hasL c.1 D
    · rfl
    · rw [hasL_iff.2 (h c.1 (hasL_iff.1 e))] at hc
      cases hc

/-- Where the rows' loop stands: the labels of D were made to agree. -/
structure RowsI (U : List Lb) (S0 S : Kn) (a b : Ut) (D : List Lb) : Prop where
  kg : KG U S
  lp : Loop S0 S a b
  un : S.un + (remF D a.fs + remF D b.fs) ≤ S0.un + (dynT a + dynT b)
  ch : S = S0 ∨ S.un + (remF D a.fs + remF D b.fs) < S0.un + (dynT a + dynT b)
  m : S.m + (S.un : Int) + 2 * (remF D a.fs + remF D b.fs : Nat) ≤ S0.m + S0.un + 2 * (dynT a + dynT b : Nat)
  dn : ∀ l ∈ D, ∀ x p y q, RowG U S a x p → RowG U S b y q → ∃ c d, getF l x = some c ∧ getF l y = some d ∧ ∀ τ, S.Sat τ → CoI c d τ
  nd : D.Nodup
  lb : ∀ l ∈ D, l ∈ U

theorem dynT_fs (t : Ut) : dynF t.fs ≤ dynT t := by
  obtain ⟨k, n, fs, tl⟩ := t
  rw [dynT_mk]
  show dynF fs ≤ _
  omega

section
variable {U : List Lb} {S0 S S' : Kn} {a b : Ut} {D : List Lb} {x y : Fl} {p q : Option Int}

theorem RowsI.start (h : KG U S) (a b : Ut) : RowsI U S S a b [] :=
  ⟨h, Loop.start h.inv a b, by rw [remF_nil, remF_nil]; have := dynT_fs a; have := dynT_fs b; omega, .inl rfl, by rw [remF_nil, remF_nil]; have := dynT_fs a; have := dynT_fs b; omega, fun l hl => by simp at hl, List.nodup_nil, fun l hl => by simp at hl⟩

/-- One label more. -/
theorem RowsI.next (h : RowsI U S0 S a b D) (pa : Pend S0 a) (pb : Pend S0 b) (ra : RowG U S a x p) (rb : RowG U S b y q) (hk : isRowB a.k = true) (hab : b.k = a.k) {l : Lb} {c d : Ut} (hl : l ∉ D) (hc : getF l x = some c) (hd : getF l y = some d) (s : Done U S S' (CoI c d) (dynT c + dynT d)) : RowsI U S0 S' a b (l :: D) := by
  obtain ⟨k8, k0, _⟩ := isRow_k hk
  have rb' := rb.of
  rw [hab] at rb'
  have ec := remF_cons hl hc
  have ed := remF_cons hl hd
  rw [remF_row ra, remF_row ra] at ec
  rw [remF_row rb, remF_row rb] at ed
  have h1 := s.un
  have h2 := h.un
  have h3 := s.m
  have h4 := h.m
  have tc := ra.el (l, c) (getF_mem hc)
  have td := rb.el (l, d) (getF_mem hd)
  refine ⟨s.kg, h.lp.next pa pb (rows_child ra.of rb' k0 hc hd) s.st, by omega, ?_, by omega, ?_, List.nodup_cons.2 ⟨hl, h.nd⟩, ?_⟩
  · rcases s.ch with e | e
    · subst e
      rcases h.ch with e | e
      · exact .inl e
      · exact .inr (by omega)
    · exact .inr (by omega)
  · intro l' hl' x' p' y' q' ra' rb2
    have hm : ∃ c d, getF l' x = some c ∧ getF l' y = some d ∧ ∀ τ, S'.Sat τ → CoI c d τ := by
      rcases List.mem_cons.1 hl' with rfl | hl'
      · exact ⟨c, d, hc, hd, s.st.co⟩
      · obtain ⟨c', d', g1, g2, g3⟩ := h.dn l' hl' x p y q ra rb
        exact ⟨c', d', g1, g2, coI_later s.st.le g3 (ra.el _ (getF_mem g1)).pend.2 (rb.el _ (getF_mem g2)).pend.2⟩
    obtain ⟨c', d', g1, g2, g3⟩ := hm
    exact ⟨c', d', ra.later_get ra' s.st.le g1, rb.later_get rb2 s.st.le g2, g3⟩
  · intro l' hl'
    rcases List.mem_cons.1 hl' with rfl | hl'
    · exact (ra.lb _ (getF_lab hc)).1
    · exact h.lb l' hl'

/-- One label fails. -/
theorem RowsI.fail (h : RowsI U S0 S a b D) (pa : Pend S0 a) (pb : Pend S0 b) (ra : RowG U S a x p) (rb : RowG U S b y q) (hk : isRowB a.k = true) (hab : b.k = a.k) {l : Lb} {c d : Ut} (hc : getF l x = some c) (hd : getF l y = some d) (s : Dis S c d) : Dis S0 a b := by
  obtain ⟨k8, k0, _⟩ := isRow_k hk
  have rb' := rb.of
  rw [hab] at rb'
  exact h.lp.fail pa pb (rows_child ra.of rb' k0 hc hd) s

/-- What is asked of a child is less than what was asked of the rows. -/
theorem RowsI.less (h : RowsI U S0 S a b D) (ra : RowG U S a x p) (rb : RowG U S b y q) {l : Lb} {c d : Ut} (hl : l ∉ D) (hc : getF l x = some c) (hd : getF l y = some d) :
    S.un + (dynT c + dynT d) < S0.un + (dynT a + dynT b) ∨ S.un + (dynT c + dynT d) = S0.un + (dynT a + dynT b) ∧ S = S0 ∧ tsz (inst S.σ c) + tsz (inst S.σ d) < tsz (inst S.σ a) + tsz (inst S.σ b) := by
  have ec := remF_cons hl hc
  have ed := remF_cons hl hd
  rw [remF_row ra, remF_row ra] at ec
  rw [remF_row rb, remF_row rb] at ed
  have h2 := h.un
  have l1 := ra.less (getF_mem hc)
  have l2 := rb.less (getF_mem hd)
  have l1 : tsz (inst S.σ c) < _ := l1
  have l2 : tsz (inst S.σ d) < _ := l2
  rcases h.ch with e | e
  · rcases Nat.lt_or_ge (S.un + (dynT c + dynT d)) (S0.un + (dynT a + dynT b)) with g | g
    · exact .inl g
    · exact .inr ⟨by omega, e, by omega⟩
  · exact .inl (by omega)

/-- All labels that both have agree. -/
theorem RowsI.shared (h : RowsI U S0 S a b D) (ra : RowG U S a x p) (rb : RowG U S b y q) (hD : ∀ l, l ∈ labsF x → l ∈ labsF y → l ∈ D) : Shared S x y := by
  intro l c d hc hd τ hτ
  obtain ⟨c', d', g1, g2, g3⟩ := h.dn l (hD l (getF_lab hc) (getF_lab hd)) x p y q ra rb
  rw [hc] at g1
  rw [hd] at g2
  injection g1 with g1
  injection g2 with g2
  subst g1 g2
  exact g3 τ hτ

theorem RowsI.stop (h : RowsI U S0 S a b D) (pa : Pend S0 a) (pb : Pend S0 b) (ra : RowG U S a x p) (rb : RowG U S b y q) (s : Done U S S' (CoI a b) (dynF (lackF x y) + dynF (lackF y x))) : Done U S0 S' (CoI a b) (dynT a + dynT b) := by
  have e1 : dynF (lackF x y) ≤ remF D a.fs := by
    rw [← remF_row ra]
    exact lack_rem fun l hl => by
      obtain ⟨_, _, _, g2, _⟩ := h.dn l hl x p y q ra rb
      exact getF_lab g2
  have e2 : dynF (lackF y x) ≤ remF D b.fs := by
    rw [← remF_row rb]
    exact lack_rem fun l hl => by
      obtain ⟨_, _, g1, _, _⟩ := h.dn l hl x p y q ra rb
      exact getF_lab g1
  have h1 := s.un
  have h2 := h.un
  have h3 := s.m
  have h4 := h.m
  refine ⟨s.kg, h.lp.stop pa pb s.st, by omega, ?_, by omega⟩
  rcases s.ch with e | e
  · subst e
    rcases h.ch with e | e
    · exact .inl e
    · exact .inr (by omega)
  · exact .inr (by omega)

theorem RowsI.dis (h : RowsI U S0 S a b D) (pa : Pend S0 a) (pb : Pend S0 b) (s : Dis S a b) : Dis S0 a b := h.lp.fail pa pb (fun _ _ hc => hc) s
end

/-! ### Children one after another -/

structure KidsI (U : List Lb) (S0 S : Kn) (a b : Ut) (i : Nat) : Prop where
  kg : KG U S
  lp : Loop S0 S a b
  un : S.un + (dynF (a.fs.drop i) + dynF (b.fs.drop i)) ≤ S0.un + (dynT a + dynT b)
  ch : S = S0 ∨ S.un + (dynF (a.fs.drop i) + dynF (b.fs.drop i)) < S0.un + (dynT a + dynT b)
  m : S.m + (S.un : Int) + 2 * (dynF (a.fs.drop i) + dynF (b.fs.drop i) : Nat) ≤ S0.m + S0.un + 2 * (dynT a + dynT b : Nat)
  dn : ∀ j c d, j < i → a.fs[j]? = some c → b.fs[j]? = some d → ∀ τ, S.Sat τ → CoI c.2 d.2 τ

/-- Two nodes whose children are asked one by one. -/
structure Like (a b : Ut) : Prop where
  k : b.k = a.k
  k0 : a.k ≠ 0
  k8 : a.k ≠ 8
  row : isRowB a.k = false

section
variable {U : List Lb} {S0 S S' : Kn} {a b : Ut} {i : Nat}

theorem Like.labs (h : Like a b) (ga : TG U S0 a) (gb : TG U S0 b) : labsF a.fs = labsF b.fs := by
  obtain ⟨k, n, fs, tl⟩ := a
  obtain ⟨k', n', gs, tl'⟩ := b
  have hk : k' = k := h.k
  subst hk
  have h8 : k' ≠ 8 := h.k8
  have hr : isRowB k' = false := h.row
  have s1 := ga.sh
  have s2 := gb.sh
  rw [shT_mk] at s1 s2
  obtain ⟨⟨_, _, a5, a6⟩, _⟩ := s1
  obtain ⟨⟨_, _, b5, b6⟩, _⟩ := s2
  show labsF fs = labsF gs
  by_cases e : k' = 5
  · obtain ⟨⟨_, _, rfl⟩, _⟩ := a5 e
    obtain ⟨⟨_, _, rfl⟩, _⟩ := b5 e
    rfl
  · rw [(a6 e hr).1, (b6 e hr).1]

theorem Like.len (h : Like a b) (ga : TG U S0 a) (gb : TG U S0 b) : a.fs.length = b.fs.length := by
  have := congrArg List.length (h.labs ga gb)
  simpa [labsF] using this

theorem KidsI.start (h : KG U S) (a b : Ut) : KidsI U S S a b 0 :=
  ⟨h, Loop.start h.inv a b, by have := dynT_fs a; have := dynT_fs b; simp only [List.drop_zero]; omega, .inl rfl, by have := dynT_fs a; have := dynT_fs b; simp only [List.drop_zero]; omega, fun j c d hj => by omega⟩

theorem getF_nth {fs : Fl} (hn : (labsF fs).Nodup) {j : Nat} {c : Lb × Ut} (h : fs[j]? = some c) : getF c.1 fs = some c.2 := getF_of_mem hn (List.mem_of_getElem? h)

theorem Like.child (h : Like a b) (ga : TG U S0 a) (gb : TG U S0 b) {j : Nat} {c d : Lb × Ut} (hc : a.fs[j]? = some c) (hd : b.fs[j]? = some d) : c.1 = d.1 := by
  have e := h.labs ga gb
  have h1 : (labsF a.fs)[j]? = some c.1 := by simp [labsF, hc]
  have h2 : (labsF b.fs)[j]? = some d.1 := by simp [labsF, hd]
  rw [e, h2] at h1
  injection h1 with h1
  exact h1.symm

theorem Like.iff (h : Like a b) (ga : TG U S0 a) (gb : TG U S0 b) (τ : Va) : CoI a b τ ↔ ∀ (j : Nat) (c d : Lb × Ut), a.fs[j]? = some c → b.fs[j]? = some d → CoI c.2 d.2 τ := by
  have hl := h.labs ga gb
  have hln := h.len ga gb
  have hch : ∀ {j : Nat} {c d : Lb × Ut}, a.fs[j]? = some c → b.fs[j]? = some d → c.1 = d.1 := fun hc hd => h.child ga gb hc hd
  obtain ⟨k, n, fs, tl⟩ := a
  obtain ⟨k', n', gs, tl'⟩ := b
  have hk : k' = k := h.k
  subst hk
  have h8 : k' ≠ 8 := h.k8
  have h0 : k' ≠ 0 := h.k0
  have hr : isRowB k' = false := h.row
  obtain ⟨rfl, rfl, _⟩ := inst_plain (S := S0) ga.pend.1 ga.sh h8 hr
  obtain ⟨rfl, rfl, _⟩ := inst_plain (S := S0) gb.pend.1 gb.sh h8 hr
  have n1 := ga.pend.1
  have n2 := gb.pend.1
  rw [okT_mk] at n1 n2
  have n1 := n1.1.1
  have n2 := n2.1.1
  rw [node_co h0 h8 n1 n2]
  have hl : labsF fs = labsF gs := hl
  constructor
  · intro hc j c d h1 h2
    have e := hch h1 h2
    have := hc c.1
    rw [getF_nth n1 h1, e, getF_nth n2 h2] at this
    exact this
  · intro hc l
    cases h1 : getF l fs with
    | none =>
      rw [getF_none, hl, ← getF_none] at h1
      rw [h1]
      trivial
    | some c =>
      obtain ⟨j, hj⟩ := List.getElem?_of_mem (getF_mem h1)
      have hjl : j < fs.length := by
        rcases Nat.lt_or_ge j fs.length with g | g
        · exact g
        · rw [List.getElem?_eq_none g] at hj; cases hj
      have hln : fs.length = gs.length := hln
      have hd : gs[j]? = some (gs[j]'(by omega)) := List.getElem?_eq_getElem (by omega)
      have e := hch hj hd
      have h2 := getF_nth n2 hd
      rw [← e] at h2
      rw [h2]
      exact hc j _ _ hj hd

theorem drop_dyn {fs : Fl} {i : Nat} {c : Lb × Ut} (h : fs[i]? = some c) : dynF (fs.drop i) = dynT c.2 + dynF (fs.drop (i + 1)) := by
  have hl : i < fs.length := by
    rcases Nat.lt_or_ge i fs.length with g | g
    · exact g
    · rw [List.getElem?_eq_none g] at h; cases h
  rw [List.drop_eq_getElem_cons hl, dynF_cons]
  rw [List.getElem?_eq_getElem hl] at h
  injection h with h
  rw [h]

theorem KidsI.next (h : KidsI U S0 S a b i) (l : Like a b) (ga : TG U S0 a) (gb : TG U S0 b) {c d : Lb × Ut} (hc : a.fs[i]? = some c) (hd : b.fs[i]? = some d) (s : Done U S S' (CoI c.2 d.2) (dynT c.2 + dynT d.2)) : KidsI U S0 S' a b (i + 1) := by
  have e1 := drop_dyn hc
  have e2 := drop_dyn hd
  have h1 := s.un
  have h2 := h.un
  have h3 := s.m
  have h4 := h.m
  refine ⟨s.kg, h.lp.next ga.pend gb.pend (fun τ _ hcd => (l.iff ga gb τ).1 hcd i c d hc hd) s.st, by omega, ?_, by omega, ?_⟩
  · rcases s.ch with e | e
    · subst e
      rcases h.ch with e | e
      · exact .inl e
      · exact .inr (by omega)
    · exact .inr (by omega)
  · intro j c' d' hj hc' hd' τ hτ
    by_cases e : j = i
    · subst e
      rw [hc] at hc'
      rw [hd] at hd'
      injection hc' with hc'
      injection hd' with hd'
      subst hc' hd'
      exact s.st.co τ hτ
    · have bc : bdT S.m c'.2 := by
        obtain ⟨k, n, fs, tl⟩ := a
        exact bdT_mono h.lp.le.m _ (ga.child (List.mem_of_getElem? hc')).pend.2
      have bd : bdT S.m d'.2 := by
        obtain ⟨k, n, fs, tl⟩ := b
        exact bdT_mono h.lp.le.m _ (gb.child (List.mem_of_getElem? hd')).pend.2
      exact coI_later s.st.le (h.dn j c' d' (by omega) hc' hd') bc bd τ hτ

theorem KidsI.fail (h : KidsI U S0 S a b i) (l : Like a b) (ga : TG U S0 a) (gb : TG U S0 b) {c d : Lb × Ut} (hc : a.fs[i]? = some c) (hd : b.fs[i]? = some d) (s : Dis S c.2 d.2) : Dis S0 a b :=
  h.lp.fail ga.pend gb.pend (fun τ _ hcd => (l.iff ga gb τ).1 hcd i c d hc hd) s

theorem KidsI.less (h : KidsI U S0 S a b i) (l : Like a b) (ga : TG U S0 a) (gb : TG U S0 b) {c d : Lb × Ut} (hc : a.fs[i]? = some c) (hd : b.fs[i]? = some d) :
    S.un + (dynT c.2 + dynT d.2) < S0.un + (dynT a + dynT b) ∨ S.un + (dynT c.2 + dynT d.2) = S0.un + (dynT a + dynT b) ∧ S = S0 ∧ tsz (inst S.σ c.2) + tsz (inst S.σ d.2) < tsz (inst S.σ a) + tsz (inst S.σ b) := by
  have e1 := drop_dyn hc
  have e2 := drop_dyn hd
  have h2 := h.un
  have l1 : tsz (inst S.σ c.2) < tsz (inst S.σ a) := by
    obtain ⟨k, n, fs, tl⟩ := a
    exact plain_less (ga.later h.lp.le).pend.1 ga.sh l.k8 l.row (List.mem_of_getElem? hc)
  have l2 : tsz (inst S.σ d.2) < tsz (inst S.σ b) := by
    have k8 := l.k8
    have kr := l.row
    rw [← l.k] at k8 kr
    obtain ⟨k, n, fs, tl⟩ := b
    exact plain_less (gb.later h.lp.le).pend.1 gb.sh k8 kr (List.mem_of_getElem? hd)
  rcases h.ch with e | e
  · rcases Nat.lt_or_ge (S.un + (dynT c.2 + dynT d.2)) (S0.un + (dynT a + dynT b)) with g | g
    · exact .inl g
    · exact .inr ⟨by omega, e, by omega⟩
  · exact .inl (by omega)

theorem KidsI.stop (h : KidsI U S0 S a b i) (l : Like a b) (ga : TG U S0 a) (gb : TG U S0 b) (hi : a.fs.length ≤ i) : Done U S0 S (CoI a b) (dynT a + dynT b) := by
  have h2 := h.un
  have h4 := h.m
  refine ⟨h.kg, h.lp.stop ga.pend gb.pend (.none h.kg.inv fun τ hτ => (l.iff ga gb τ).2 fun j c d hc hd => ?_), by omega, ?_, by omega⟩
  · have hj : j < a.fs.length := by
      rcases Nat.lt_or_ge j a.fs.length with g | g
      · exact g
      · rw [List.getElem?_eq_none g] at hc; cases hc
    exact h.dn j c d (by omega) hc hd τ hτ
  · exact h.ch.imp id fun k => by omega

theorem KidsI.tg (h : KidsI U S0 S a b i) {t : Ut} (g : TG U S0 t) : TG U S t := g.later h.lp.le
end
end Go.Proofs.Ytblfeokjlecgkaa

/- Types, as rows of nodes, and their trees. -/
namespace Go.Proofs.Ytblfeokjlecgkaa

/-- A right tree of nodes, whatever its label. -/
inductive GdT : List Nd → Prop
  | mk (x : Nd) (tss : List (List Nd)) (ok : okNode x.k x.n = true) (k9 : x.k ≠ 9) (tr : Trees (manyN x) tss.flatten tss) (ch : ∀ ts ∈ lOf tss, GdT ts)
      (row : isRowB x.k = true → (labsT (lOf tss)).Pairwise (fun a b => ltB a b = true) ∧ ∀ l ∈ labsT (lOf tss), rowLabelB x.k l = true)
      (els : isRowB x.k = false → tOf tss = [] ∧ ∀ l ∈ labsT tss, l = ByteArray.empty)
      (tl : ∀ ts ∈ tOf tss, ∃ n, 0 ≤ n ∧ ts = [⟨9, ByteArray.empty, n⟩]) : GdT (x :: tss.flatten)

theorem empty_of_size {s : ByteArray} (h : s.size = 0) : s = ByteArray.empty := by
  apply ByteArray.ext
  exact Array.eq_empty_of_size_eq_zero h

theorem leS_lt {a b : ByteArray} (h : leS a b = false) : ltB b a = true := by
  unfold leS at h
  rw [Bool.or_eq_false_iff] at h
  cases e : ltB b a with
  | true => rfl
  | false =>
    have := ltB_eq (show ltB a b = false from h.1) e
    subst this
    simp at h

theorem rowMany {y : Nd} (ho : okNode y.k y.n = true) (hr : isRowB y.k = true) : (0 : Int) + (manyN y : Nat) = y.n := by
  have := congrArg Nd.n (row_eta ho hr)
  simpa using this

theorem labsT_cons (t : List Nd) (l : List (List Nd)) : labsT (t :: l) = (headNd t).s :: labsT l := rfl

theorem rt_gd {f : Nat} {x : Nd} {k : Int} {last : ByteArray} {d : Nat} {ks : List Nd} (h : RtF f x k last d ks) : (isRowB x.k = true → k + d = x.n) →
    (∀ ts ∈ lOf (splitF d ks), GdT ts) ∧ (isRowB x.k = true → (labsT (lOf (splitF d ks))).Pairwise (fun a b => ltB a b = true) ∧ ∀ l ∈ labsT (lOf (splitF d ks)), rowLabelB x.k l = true ∧ ltB last l = true) ∧
      (isRowB x.k = false → tOf (splitF d ks) = [] ∧ ∀ l ∈ labsT (splitF d ks), l = ByteArray.empty) ∧ ∀ ts ∈ tOf (splitF d ks), ∃ n, 0 ≤ n ∧ ts = [⟨9, ByteArray.empty, n⟩] := by
  induction h with
  | nil => intro _; exact ⟨by simp [splitF, lOf, tailB], fun _ => by simp [splitF, lOf, tailB, labsT], fun _ => by simp [splitF, tOf, tailB, labsT], by simp [splitF, tOf, tailB]⟩
  | @cons f x k last d y ks rs ho hc h1 h2 i1 i2 =>
    intro hx
    have hf1 := h1.fo
    rw [splitF_cons hf1]
    obtain ⟨a1, a2, a3, a4⟩ := i1 fun hr => rowMany ho hr
    have tr := trees_of hf1
    by_cases h9 : y.k = 9
    · unfold childOk at hc
      rw [if_pos h9] at hc
      simp only [Bool.and_eq_true, Bool.not_eq_true', decide_eq_false_iff_not, decide_eq_true_eq] at hc
      have hd0 : d = 0 := by have := hx hc.1.1; omega
      subst hd0
      have hm : manyN y = 0 := by unfold manyN many; simp [h9, isRowB]
      rw [hm] at hf1
      rw [hf1.of_zero]
      have hy : y = ⟨9, ByteArray.empty, y.n⟩ := by
        obtain ⟨k, s, n⟩ := y
        simp only at h9
        subst h9
        have := empty_of_size hc.2
        simp only at this
        subst this
        rfl
      have hn : 0 ≤ y.n := by
        unfold okNode at ho
        rw [if_pos (by omega)] at ho
        simpa using ho
      have tb : tailB [[y]] = true := by simp [tailB, headNd, h9]
      refine ⟨?_, fun _ => ?_, fun e => ?_, fun ts hts => ?_⟩
      · simp [splitF, lOf, tb]
      · simp [splitF, lOf, tb, labsT]
      · rw [hc.1.1] at e; cases e
      · simp [splitF, tOf, tb] at hts
        exact ⟨y.n, hn, by rw [hts, ← hy]⟩
    · have gy : GdT (y :: ks) := by
        rw [← tr.flat]
        exact .mk y _ ho h9 (by rw [tr.flat]; exact tr) a1 (fun hr => ⟨(a2 hr).1, fun l hl => ((a2 hr).2 l hl).1⟩) a3 a4
      unfold childOk at hc
      rw [if_neg h9] at hc
      simp only [Bool.and_eq_true, Bool.not_eq_true', Bool.and_eq_false_iff] at hc
      obtain ⟨b1, b2, b3, b4⟩ := i2 fun hr => by have := hx hr; omega
      have hL : ∀ R : List (List Nd), R = splitF d rs → lOf ((y :: ks) :: R) = (y :: ks) :: lOf R ∧ tOf ((y :: ks) :: R) = tOf R := by
        intro R _
        cases R with
        | nil => simp [lOf, tOf, tailB, headNd, h9]
        | cons r R => exact ⟨lOf_cons (by simp), tOf_cons (by simp)⟩
      obtain ⟨e1, e2⟩ := hL _ rfl
      rw [e1, e2]
      refine ⟨fun ts hts => ?_, fun hr => ?_, fun hr => ?_, b4⟩
      · rcases List.mem_cons.1 hts with rfl | hts
        · exact gy
        · exact b1 ts hts
      · have hl : ltB last y.s = true := by
          rcases hc.2 with e | e
          · rw [hr] at e; cases e
          · exact leS_lt e
        have hlb : rowLabelB x.k y.s = true := by
          have := hc.1
          unfold labelB at this
          unfold rowLabelB
          unfold isRowB at hr
          split
          · next e => rw [if_pos e] at this; exact this
          · next e => rw [if_neg e] at this; split <;> simp_all
        refine ⟨?_, fun l hl' => ?_⟩
        · rw [labsT_cons, List.pairwise_cons]
          exact ⟨fun l hl' => ((b2 hr).2 l hl').2, (b2 hr).1⟩
        · rw [labsT_cons] at hl'
          rcases List.mem_cons.1 hl' with rfl | hl'
          · exact ⟨hlb, hl⟩
          · exact ⟨((b2 hr).2 l hl').1, ltB_trans hl ((b2 hr).2 l hl').2⟩
      · refine ⟨(b3 hr).1, fun l hl' => ?_⟩
        rw [labsT_cons] at hl'
        rcases List.mem_cons.1 hl' with rfl | hl'
        · have := hc.1
          unfold labelB at this
          simp only [isRowB, Bool.or_eq_false_iff, beq_eq_false_iff_ne, ne_eq] at hr
          rw [if_neg hr.1, if_neg hr.2] at this
          exact empty_of_size (of_decide_eq_true this)
        · exact (b3 hr).2 l hl'

theorem gd_of {T : List Nd} (h : rightB T = true) : GdT T ∧ (headNd T).s = ByteArray.empty ∧ T.length ≤ 10000 := by
  obtain ⟨y, ks, I⟩ := isR_of h
  obtain ⟨a1, a2, a3, a4⟩ := rt_gd I.rt fun hr => rowMany I.ok hr
  have tr := trees_of I.rt.fo
  refine ⟨?_, by rw [I.eq]; exact I.s, I.len⟩
  rw [I.eq, ← tr.flat]
  exact .mk y _ I.ok I.k (by rw [tr.flat]; exact tr) a1 (fun hr => ⟨(a2 hr).1, fun l hl => ((a2 hr).2 l hl).1⟩) a3 a4

/-! ### The tree of a type -/
/-- The labels under which a node's children stand. -/
def labsU (k : Int) (rs : List (List Nd)) : List Lb := if k = 5 then [lA, lB] else labsT rs
def tlU (rs : List (List Nd)) : Option Int := (tOf rs).head?.map fun t => (headNd t).n
def utG : Nat → List Nd → Ut
  | 0, _ => .mk 0 0 [] none
  | _ + 1, [] => .mk 0 0 [] none
  | f + 1, x :: ks => .mk x.k (if x.k = 8 then x.n else 0) ((labsU x.k (lOf (splitF (manyN x) ks))).zip ((lOf (splitF (manyN x) ks)).map (utG f))) (tlU (splitF (manyN x) ks))
def utT (ts : List Nd) : Ut := utG ts.length ts
theorem lOf_mem {l : List (List Nd)} {t : List Nd} (h : t ∈ lOf l) : t ∈ l := by
  rw [← lOf_tOf l]
  exact List.mem_append_left _ h
/-- Fuel is all one, if it is enough. -/
theorem utG_fuel : ∀ (f g : Nat) (ts : List Nd), ts.length ≤ f → ts.length ≤ g → utG f ts = utG g ts := by
  intro f
  induction f with
  | zero =>
    intro g ts h _
    obtain rfl := List.eq_nil_of_length_eq_zero (Nat.le_zero.1 h)
    cases g <;> rfl
  | succ f ih =>
    intro g ts h1 h2
    cases ts with
    | nil => cases g <;> rfl
    | cons x ks =>
      cases g with
      | zero => simp at h2
      | succ g =>
        have : (lOf (splitF (manyN x) ks)).map (utG f) = (lOf (splitF (manyN x) ks)).map (utG g) :=
          List.map_congr_left fun t ht => by
            have := splitF_mem _ _ t (lOf_mem ht)
            simp only [List.length_cons] at h1 h2
            exact ih g t (by omega) (by omega)
        simp only [utG, this]
theorem utT_cons {x : Nd} {tss : List (List Nd)} (tr : Trees (manyN x) tss.flatten tss) :
    utT (x :: tss.flatten) = .mk x.k (if x.k = 8 then x.n else 0) ((labsU x.k (lOf tss)).zip ((lOf tss).map utT)) (tlU tss) := by
  unfold utT
  simp only [List.length_cons, utG]
  rw [← tr.uniq]
  congr 2
  refine List.map_congr_left fun t ht => utG_fuel _ _ t ?_ (Nat.le_refl _)
  have h1 := lOf_mem ht
  have h2 : t ∈ splitF (manyN x) tss.flatten := tr.uniq ▸ h1
  exact splitF_mem _ _ t h2
end Go.Proofs.Ytblfeokjlecgkaa
