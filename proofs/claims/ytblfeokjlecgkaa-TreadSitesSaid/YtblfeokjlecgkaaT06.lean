/- Laid together by a tool from the texts of this seat: UniA. Conditions: each theorem's own. -/
import Derived.Test.YtblfeokjlecgkaaT05
/- The plain theory of trees that are made to agree: written in parts, put together by asm_uni.sh. -/
namespace Go.Proofs.Ytblfeokjlecgkaa

abbrev Lb := ByteArray

/-- A tree of a type: its kind, a variable's number, labelled children, a tail's number. -/
inductive Ut where
  | mk (k n : Int) (fs : List (Lb × Ut)) (tl : Option Int)

def Ut.k : Ut → Int | .mk k _ _ _ => k
def Ut.n : Ut → Int | .mk _ n _ _ => n
def Ut.fs : Ut → List (Lb × Ut) | .mk _ _ fs _ => fs
def Ut.tl : Ut → Option Int | .mk _ _ _ tl => tl

theorem Ut.size_mem {k n : Int} {fs : List (Lb × Ut)} {tl : Option Int} {p : Lb × Ut} (h : p ∈ fs) : SizeOf.sizeOf p.2 < SizeOf.sizeOf (Ut.mk k n fs tl) := by
  have h1 := List.sizeOf_lt_of_mem h
  have h2 : SizeOf.sizeOf p.2 < SizeOf.sizeOf p := by cases p; simp; omega
  simp
  omega

theorem Ut.ind {P : Ut → Prop} (h : ∀ k n fs tl, (∀ p ∈ fs, P p.2) → P (.mk k n fs tl)) : ∀ t, P t
  | .mk k n fs tl => h k n fs tl fun p _hp => Ut.ind h p.2
termination_by t => SizeOf.sizeOf t
decreasing_by exact Ut.size_mem _hp

/-- A field goes where its label belongs, ahead of its like. -/
def insF (p : Lb × Ut) : List (Lb × Ut) → List (Lb × Ut)
  | [] => [p]
  | q :: l => if ltB q.1 p.1 = true then q :: insF p l else p :: q :: l

def srtF : List (Lb × Ut) → List (Lb × Ut)
  | [] => []
  | p :: l => insF p (srtF l)

/-- What stands for variables: for a Var a type, for a Tail fields and a tail. -/
structure Va where
  v : Int → Ut
  t : Int → List (Lb × Ut) × Option Int

def Va.tail (τ : Va) : Option Int → List (Lb × Ut) × Option Int
  | none => ([], none)
  | some p => τ.t p

def inst (τ : Va) : Ut → Ut
  | .mk k n fs tl => if k = 8 then τ.v n else .mk k n (srtF (fs.map (fun p => (p.1, inst τ p.2)) ++ (τ.tail tl).1)) (τ.tail tl).2
termination_by t => SizeOf.sizeOf t
decreasing_by exact Ut.size_mem (by assumption)

theorem inst_mk (τ : Va) (k n : Int) (fs : List (Lb × Ut)) (tl : Option Int) : inst τ (.mk k n fs tl) = if k = 8 then τ.v n else .mk k n (srtF (fs.map (fun p => (p.1, inst τ p.2)) ++ (τ.tail tl).1)) (τ.tail tl).2 := by
  rw [inst]

/-! ### Fields that rise -/

abbrev Fl := List (Lb × Ut)

theorem insF_lt {p q : Lb × Ut} {l : Fl} (h : ltB q.1 p.1 = true) : insF p (q :: l) = q :: insF p l := by simp [insF, h]
theorem insF_ge {p q : Lb × Ut} {l : Fl} (h : ltB q.1 p.1 = false) : insF p (q :: l) = p :: q :: l := by simp [insF, h]

theorem insF_perm (p : Lb × Ut) : ∀ l : Fl, (insF p l).Perm (p :: l)
  | [] => .refl _
  | q :: l => by
    unfold insF
    split
    · exact ((insF_perm p l).cons q).trans (.swap p q l)
    · exact .refl _

theorem srtF_perm : ∀ l : Fl, (srtF l).Perm l
  | [] => .refl _
  | p :: l => (insF_perm p (srtF l)).trans ((srtF_perm l).cons p)

theorem srtF_mem {l : Fl} {p : Lb × Ut} : p ∈ srtF l ↔ p ∈ l := (srtF_perm l).mem_iff

/-- Two of unlike labels go in in any order. -/
theorem insF_comm {a b : Lb × Ut} (h : a.1 ≠ b.1) : ∀ s : Fl, insF a (insF b s) = insF b (insF a s)
  | [] => by
    simp only [insF]
    cases h1 : ltB b.1 a.1 <;> cases h2 : ltB a.1 b.1 <;> simp
    · exact absurd (ltB_eq h2 h1) h
    · have := ltB_trans h1 h2
      rw [ltB_irrefl] at this
      cases this
  | q :: s => by
    cases h1 : ltB q.1 b.1 <;> cases h2 : ltB q.1 a.1
    · rw [insF_ge h1, insF_ge h2]
      cases h3 : ltB b.1 a.1
      · rw [insF_ge h3]
        cases h4 : ltB a.1 b.1
        · exact absurd (ltB_eq h4 h3) h
        · rw [insF_lt h4, insF_ge h1]
      · rw [insF_lt h3, insF_ge h2]
        cases h4 : ltB a.1 b.1
        · rw [insF_ge h4]
        · have := ltB_trans h3 h4
          rw [ltB_irrefl] at this
          cases this
    · rw [insF_ge h1, insF_lt h2]
      have h3 : ltB b.1 a.1 = true := by
        cases h3 : ltB b.1 a.1
        · have := ltB_ntrans h1 h3
          rw [h2] at this
          cases this
        · rfl
      rw [insF_lt h3, insF_lt h2, insF_ge h1]
    · rw [insF_lt h1, insF_ge h2]
      have h3 : ltB a.1 b.1 = true := by
        cases h3 : ltB a.1 b.1
        · have := ltB_ntrans h2 h3
          rw [h1] at this
          cases this
        · rfl
      rw [insF_ge h2, insF_lt h3, insF_lt h1]
    · rw [insF_lt h1, insF_lt h2, insF_lt h2, insF_lt h1, insF_comm h s]

def putF (l s : Fl) : Fl := l.foldr insF s

theorem srtF_put (a b : Fl) : srtF (a ++ b) = putF a (srtF b) := by
  induction a with
  | nil => rfl
  | cons p a ih => simp only [List.cons_append, srtF, ih]; rfl

theorem putF_ins (s : Fl) (a : Lb × Ut) : ∀ l : Fl, putF (insF a l) s = insF a (putF l s)
  | [] => rfl
  | q :: l => by
    cases h : ltB q.1 a.1
    · rw [insF_ge h]; rfl
    · rw [insF_lt h]
      show insF q (putF (insF a l) s) = insF a (insF q (putF l s))
      rw [putF_ins s a l, insF_comm]
      rintro e
      rw [e, ltB_irrefl] at h
      cases h

theorem putF_srt (s : Fl) : ∀ l : Fl, putF (srtF l) s = putF l s
  | [] => rfl
  | p :: l => by
    show putF (insF p (srtF l)) s = insF p (putF l s)
    rw [putF_ins, putF_srt s l]

theorem srtF_srt (l : Fl) : srtF (srtF l) = srtF l := by
  have h := putF_srt [] l
  have e : ∀ l : Fl, putF l [] = srtF l := fun l => by
    have := srtF_put l []
    rw [List.append_nil] at this
    exact this.symm
  rw [e, e] at h
  exact h

theorem srtF_left (a b : Fl) : srtF (srtF a ++ b) = srtF (a ++ b) := by rw [srtF_put, srtF_put, putF_srt]
theorem srtF_right (a b : Fl) : srtF (a ++ srtF b) = srtF (a ++ b) := by rw [srtF_put, srtF_put, srtF_srt]

/-- What keeps the labels. -/
def mapF (f : Ut → Ut) (l : Fl) : Fl := l.map fun p => (p.1, f p.2)

theorem mapF_append (f : Ut → Ut) (a b : Fl) : mapF f (a ++ b) = mapF f a ++ mapF f b := by simp [mapF]
theorem mapF_comp (f g : Ut → Ut) (l : Fl) : mapF f (mapF g l) = mapF (fun t => f (g t)) l := by simp [mapF]
theorem mapF_cons (f : Ut → Ut) (p : Lb × Ut) (l : Fl) : mapF f (p :: l) = (p.1, f p.2) :: mapF f l := rfl
theorem mapF_congr {f g : Ut → Ut} {l : Fl} (h : ∀ p ∈ l, f p.2 = g p.2) : mapF f l = mapF g l := List.map_congr_left fun p hp => by rw [h p hp]
theorem mapF_id {f : Ut → Ut} {l : Fl} (h : ∀ p ∈ l, f p.2 = p.2) : mapF f l = l := by
  induction l with
  | nil => rfl
  | cons p l ih => rw [mapF_cons, h p (by simp), ih fun q hq => h q (by simp [hq])]

theorem mapF_ins (f : Ut → Ut) (p : Lb × Ut) : ∀ l : Fl, mapF f (insF p l) = insF (p.1, f p.2) (mapF f l)
  | [] => rfl
  | q :: l => by
    cases h : ltB q.1 p.1
    · rw [insF_ge h, mapF_cons, mapF_cons, insF_ge (by exact h)]
    · rw [insF_lt h, mapF_cons, mapF_cons, insF_lt (by exact h), mapF_ins f p l]

theorem mapF_srt (f : Ut → Ut) : ∀ l : Fl, mapF f (srtF l) = srtF (mapF f l)
  | [] => rfl
  | p :: l => by
    show mapF f (insF p (srtF l)) = insF _ (srtF (mapF f l))
    rw [mapF_ins, mapF_srt f l]

theorem inst_eq (τ : Va) (k n : Int) (fs : Fl) (tl : Option Int) : inst τ (.mk k n fs tl) = if k = 8 then τ.v n else .mk k n (srtF (mapF (inst τ) fs ++ (τ.tail tl).1)) (τ.tail tl).2 := inst_mk τ k n fs tl

/-! ### One behind the other -/

def Va.comp (τ σ : Va) : Va := ⟨fun v => inst τ (σ.v v), fun p => (srtF (mapF (inst τ) (σ.t p).1 ++ (τ.tail (σ.t p).2).1), (τ.tail (σ.t p).2).2)⟩

theorem comp_tail (τ σ : Va) (tl : Option Int) : (τ.comp σ).tail tl = (srtF (mapF (inst τ) (σ.tail tl).1 ++ (τ.tail (σ.tail tl).2).1), (τ.tail (σ.tail tl).2).2) := by
  cases tl with
  | none => rfl
  | some p => rfl

theorem inst_comp (τ σ : Va) : ∀ t, inst τ (inst σ t) = inst (τ.comp σ) t :=
  Ut.ind fun k n fs tl ih => by
    by_cases h : k = 8
    · rw [inst_eq σ, if_pos h, inst_eq (τ.comp σ), if_pos h]
      rfl
    · rw [inst_eq σ, if_neg h, inst_eq τ, if_neg h, inst_eq (τ.comp σ), if_neg h, comp_tail]
      congr 1
      rw [mapF_srt, srtF_left, srtF_right, mapF_append, mapF_comp, List.append_assoc]
      congr 2
      exact mapF_congr ih

end Go.Proofs.Ytblfeokjlecgkaa
namespace Go.Proofs.Ytblfeokjlecgkaa

/-! ### Looking for a label -/

def getF (l : Lb) : Fl → Option Ut
  | [] => none
  | p :: r => if p.1 = l then some p.2 else getF l r

def labsF (l : Fl) : List Lb := l.map (·.1)

theorem labsF_mapF (f : Ut → Ut) (a : Fl) : labsF (mapF f a) = labsF a := by simp [labsF, mapF]
theorem labsF_append (a b : Fl) : labsF (a ++ b) = labsF a ++ labsF b := by simp [labsF]

theorem getF_mem {l : Lb} : ∀ {a : Fl} {x : Ut}, getF l a = some x → (l, x) ∈ a
  | p :: a, x, h => by
    simp only [getF] at h
    split at h
    · next e =>
      injection h with h
      subst e h
      simp
    · exact List.mem_cons_of_mem _ (getF_mem h)

theorem getF_none {l : Lb} : ∀ {a : Fl}, getF l a = none ↔ l ∉ labsF a
  | [] => by simp [getF, labsF]
  | p :: a => by
    simp only [getF, labsF, List.map_cons, List.mem_cons]
    split
    · next e => simp [e]
    · next hne =>
      have := getF_none (l := l) (a := a)
      unfold labsF at this
      rw [this]
      constructor
      · rintro h (e | h2)
        · exact hne e.symm
        · exact h h2
      · intro h h2
        exact h (.inr h2)

/-- Fields that rise, none twice. -/
def Rise (a : Fl) : Prop := a.Pairwise fun p q => ltB p.1 q.1 = true

theorem Rise.nodup {a : Fl} (h : Rise a) : (labsF a).Nodup := by
  unfold labsF
  refine List.pairwise_map.2 (h.imp fun {p q} h e => ?_)
  rw [e, ltB_irrefl] at h
  cases h

theorem insF_rise {p : Lb × Ut} : ∀ {l : Fl}, Rise l → p.1 ∉ labsF l → Rise (insF p l)
  | [], _, _ => by simp [insF, Rise]
  | q :: l, h, hn => by
    simp only [labsF, List.map_cons, List.mem_cons, not_or] at hn
    obtain ⟨h1, h2⟩ := List.pairwise_cons.1 h
    cases hq : ltB q.1 p.1
    · rw [insF_ge hq]
      have hpq : ltB p.1 q.1 = true := by
        cases hpq : ltB p.1 q.1
        · exact absurd (ltB_eq hpq hq) hn.1
        · rfl
      refine List.pairwise_cons.2 ⟨fun r hr => ?_, h⟩
      rcases List.mem_cons.1 hr with rfl | hr
      · exact hpq
      · exact ltB_trans hpq (h1 r hr)
    · rw [insF_lt hq]
      refine List.pairwise_cons.2 ⟨fun r hr => ?_, insF_rise h2 hn.2⟩
      rcases List.mem_cons.1 ((insF_perm p l).mem_iff.1 hr) with rfl | hr
      · exact hq
      · exact h1 r hr

theorem srtF_rise : ∀ {a : Fl}, (labsF a).Nodup → Rise (srtF a)
  | [], _ => by simp [srtF, Rise]
  | p :: a, h => by
    simp only [labsF, List.map_cons, List.nodup_cons] at h
    refine insF_rise (srtF_rise h.2) ?_
    intro hm
    exact h.1 (((srtF_perm a).map (·.1)).mem_iff.1 hm)

theorem srtF_of_rise : ∀ {a : Fl}, Rise a → srtF a = a
  | [], _ => rfl
  | p :: a, h => by
    obtain ⟨h1, h2⟩ := List.pairwise_cons.1 h
    show insF p (srtF a) = _
    rw [srtF_of_rise h2]
    cases a with
    | nil => rfl
    | cons q a =>
      rw [insF_ge]
      have := h1 q (by simp)
      cases hq : ltB q.1 p.1
      · rfl
      · have := ltB_trans this hq
        rw [ltB_irrefl] at this
        cases this

theorem rise_ext : ∀ {a b : Fl}, Rise a → Rise b → (∀ l, getF l a = getF l b) → a = b
  | [], [], _, _, _ => rfl
  | [], q :: b, _, _, h => by have := h q.1; simp [getF] at this
  | p :: a, [], _, _, h => by have := h p.1; simp [getF] at this
  | p :: a, q :: b, ha, hb, h => by
    obtain ⟨a1, a2⟩ := List.pairwise_cons.1 ha
    obtain ⟨b1, b2⟩ := List.pairwise_cons.1 hb
    have hpq : p.1 = q.1 := by
      apply Classical.byContradiction
      intro hne
      have h1 := h p.1
      simp only [getF, if_pos] at h1
      rw [if_neg (fun e => hne e.symm)] at h1
      have h2 := h q.1
      simp only [getF, if_pos] at h2
      rw [if_neg hne] at h2
      have h3 := b1 _ (getF_mem h1.symm)
      have h4 := a1 _ (getF_mem h2)
      have := ltB_trans h3 h4
      rw [ltB_irrefl] at this
      cases this
    obtain ⟨p1, p2⟩ := p
    obtain ⟨q1, q2⟩ := q
    subst hpq
    have h1 := h p1
    simp only [getF, if_pos] at h1
    injection h1 with h1
    subst h1
    congr 1
    refine rise_ext a2 b2 fun l => ?_
    by_cases e : p1 = l
    · subst e
      have n1 : getF p1 a = none := by
        rw [getF_none]
        intro hm
        obtain ⟨r, hr, e⟩ := List.mem_map.1 hm
        have := a1 r hr
        rw [e, ltB_irrefl] at this
        cases this
      have n2 : getF p1 b = none := by
        rw [getF_none]
        intro hm
        obtain ⟨r, hr, e⟩ := List.mem_map.1 hm
        have := b1 r hr
        rw [e, ltB_irrefl] at this
        cases this
      rw [n1, n2]
    · have h2 := h l
      simp only [getF] at h2
      rw [if_neg e, if_neg e] at h2
      exact h2

end Go.Proofs.Ytblfeokjlecgkaa
namespace Go.Proofs.Ytblfeokjlecgkaa

/-! ### Trees that may be -/

/-- What numbers are: none: a Var's; labels: a Tail's, which the rows have that end so. -/
abbrev Sorts := Int → Option (List Lb)

/-- A node: labels, none twice; leaves without children; a tail's labels are those of its rows. -/
def nodeOk (L : Sorts) (k n : Int) (fs : Fl) (tl : Option Int) : Prop :=
  (labsF fs).Nodup ∧ (k = 0 ∨ k = 8 → fs = [] ∧ tl = none) ∧ (k = 8 → L n = none) ∧ (k ≠ 8 → k ≠ 0 → n = 0) ∧ ∀ p, tl = some p → ∃ ls, L p = some ls ∧ ∀ l ∈ labsF fs, l ∈ ls

def okT (L : Sorts) : Ut → Prop
  | .mk k n fs tl => nodeOk L k n fs tl ∧ ∀ p ∈ fs, okT L p.2
termination_by t => SizeOf.sizeOf t
decreasing_by exact Ut.size_mem (by assumption)

theorem okT_mk {L : Sorts} {k n : Int} {fs : Fl} {tl : Option Int} : okT L (.mk k n fs tl) ↔ nodeOk L k n fs tl ∧ ∀ p ∈ fs, okT L p.2 := by rw [okT]

/-- No node is a ?. -/
def stT : Ut → Prop
  | .mk k _ fs _ => k ≠ 0 ∧ ∀ p ∈ fs, stT p.2
termination_by t => SizeOf.sizeOf t
decreasing_by exact Ut.size_mem (by assumption)

theorem stT_mk {k n : Int} {fs : Fl} {tl : Option Int} : stT (.mk k n fs tl) ↔ k ≠ 0 ∧ ∀ p ∈ fs, stT p.2 := by rw [stT]

/-- Labels rise, in each node. -/
def riT : Ut → Prop
  | .mk _ _ fs _ => Rise fs ∧ ∀ p ∈ fs, riT p.2
termination_by t => SizeOf.sizeOf t
decreasing_by exact Ut.size_mem (by assumption)

theorem riT_mk {k n : Int} {fs : Fl} {tl : Option Int} : riT (.mk k n fs tl) ↔ Rise fs ∧ ∀ p ∈ fs, riT p.2 := by rw [riT]

/-- All numbers are below one. -/
def bdT (m : Int) : Ut → Prop
  | .mk k n fs tl => (k = 8 → n < m) ∧ (∀ p, tl = some p → p < m) ∧ ∀ p ∈ fs, bdT m p.2
termination_by t => SizeOf.sizeOf t
decreasing_by exact Ut.size_mem (by assumption)

theorem bdT_mk {m k n : Int} {fs : Fl} {tl : Option Int} : bdT m (.mk k n fs tl) ↔ (k = 8 → n < m) ∧ (∀ p, tl = some p → p < m) ∧ ∀ p ∈ fs, bdT m p.2 := by rw [bdT]

theorem bdT_mono {m m' : Int} (h : m ≤ m') : ∀ t, bdT m t → bdT m' t :=
  Ut.ind fun k n fs tl ih hb => by
    rw [bdT_mk] at hb ⊢
    exact ⟨fun hk => by have := hb.1 hk; omega, fun p hp => by have := hb.2.1 p hp; omega, fun p hp => ih p hp (hb.2.2 p hp)⟩

/-- What stands for variables is static, rises, and is of their sort. -/
structure Va.Ok (L : Sorts) (τ : Va) : Prop where
  v : ∀ n, L n = none → stT (τ.v n) ∧ riT (τ.v n)
  t : ∀ p ls, L p = some ls → Rise (τ.t p).1 ∧ (∀ l ∈ labsF (τ.t p).1, l ∉ ls) ∧ ∀ q ∈ (τ.t p).1, stT q.2 ∧ riT q.2

section
variable {L : Sorts} {τ τ' : Va}

theorem tail_nodup (h : τ.Ok L) {k n : Int} {fs : Fl} {tl : Option Int} (ho : nodeOk L k n fs tl) : (labsF (mapF (inst τ) fs ++ (τ.tail tl).1)).Nodup := by
  rw [labsF_append, labsF_mapF]
  cases tl with
  | none => simpa [Va.tail, labsF] using ho.1
  | some p =>
    obtain ⟨ls, hls, hsub⟩ := ho.2.2.2.2 p rfl
    obtain ⟨h1, h2, _⟩ := h.t p ls hls
    exact List.nodup_append.2 ⟨ho.1, h1.nodup, fun a ha b hb e => h2 b hb (by rw [← e]; exact hsub a ha)⟩

theorem inst_ri (h : τ.Ok L) : ∀ t, okT L t → riT (inst τ t) :=
  Ut.ind fun k n fs tl ih ho => by
    rw [okT_mk] at ho
    rw [inst_eq]
    split
    · next hk => exact (h.v n (ho.1.2.2.1 hk)).2
    · rw [riT_mk]
      refine ⟨srtF_rise (tail_nodup h ho.1), fun p hp => ?_⟩
      rw [srtF_mem] at hp
      rcases List.mem_append.1 hp with hp | hp
      · obtain ⟨q, hq, rfl⟩ := List.mem_map.1 hp
        exact ih q hq (ho.2 q hq)
      · cases tl with
        | none => simp [Va.tail] at hp
        | some r =>
          obtain ⟨ls, hls, _⟩ := ho.1.2.2.2.2 r rfl
          exact ((h.t r ls hls).2.2 p hp).2

theorem inst_st (h : τ.Ok L) : ∀ t, okT L t → stT t → stT (inst τ t) :=
  Ut.ind fun k n fs tl ih ho hs => by
    rw [okT_mk] at ho
    rw [stT_mk] at hs
    rw [inst_eq]
    split
    · next hk => exact (h.v n (ho.1.2.2.1 hk)).1
    · rw [stT_mk]
      refine ⟨hs.1, fun p hp => ?_⟩
      rw [srtF_mem] at hp
      rcases List.mem_append.1 hp with hp | hp
      · obtain ⟨q, hq, rfl⟩ := List.mem_map.1 hp
        exact ih q hq (ho.2 q hq) (hs.2 q hq)
      · cases tl with
        | none => simp [Va.tail] at hp
        | some r =>
          obtain ⟨ls, hls, _⟩ := ho.1.2.2.2.2 r rfl
          exact ((h.t r ls hls).2.2 p hp).1

/-- Alike below a number. -/
def Alike (m : Int) (τ τ' : Va) : Prop := ∀ n, n < m → τ.v n = τ'.v n ∧ τ.t n = τ'.t n

theorem Alike.refl (m : Int) (τ : Va) : Alike m τ τ := fun _ _ => ⟨rfl, rfl⟩
theorem Alike.trans {m : Int} {τ τ' τ'' : Va} (h : Alike m τ τ') (k : Alike m τ' τ'') : Alike m τ τ'' := fun n hn => ⟨(h n hn).1.trans (k n hn).1, (h n hn).2.trans (k n hn).2⟩
theorem Alike.mono {m m' : Int} (h : Alike m τ τ') (hm : m' ≤ m) : Alike m' τ τ' := fun n hn => h n (by omega)
theorem Alike.symm {m : Int} (h : Alike m τ τ') : Alike m τ' τ := fun n hn => ⟨(h n hn).1.symm, (h n hn).2.symm⟩

theorem Alike.tail {m : Int} (h : Alike m τ τ') {tl : Option Int} (hb : ∀ p, tl = some p → p < m) : τ.tail tl = τ'.tail tl := by
  cases tl with
  | none => rfl
  | some p => exact (h p (hb p rfl)).2

theorem Alike.inst {m : Int} (h : Alike m τ τ') : ∀ t, bdT m t → Proofs.Ytblfeokjlecgkaa.inst τ t = Proofs.Ytblfeokjlecgkaa.inst τ' t :=
  Ut.ind fun k n fs tl ih hb => by
    rw [bdT_mk] at hb
    rw [inst_eq, inst_eq, h.tail hb.2.1, mapF_congr fun p hp => ih p hp (hb.2.2 p hp)]
    split
    · next hk => exact (h n (hb.1 hk)).1
    · rfl
end

/-! ### Trees that agree -/

/-- What agrees, but that a ? stands for whatever there is. -/
inductive Co : Ut → Ut → Prop
  | dl (n : Int) (fs : Fl) (tl : Option Int) (b : Ut) : Co (.mk 0 n fs tl) b
  | dr (n : Int) (fs : Fl) (tl : Option Int) (a : Ut) : Co a (.mk 0 n fs tl)
  | nd (k n : Int) (fs gs : Fl) (tl : Option Int) (h : ∀ l, (getF l fs).isSome = (getF l gs).isSome) (hc : ∀ l x y, getF l fs = some x → getF l gs = some y → Co x y) : Co (.mk k n fs tl) (.mk k n gs tl)

theorem Co.symm {a b : Ut} (h : Co a b) : Co b a := by
  induction h with
  | dl n fs tl b => exact .dr _ _ _ _
  | dr n fs tl a => exact .dl _ _ _ _
  | nd k n fs gs tl h hc ih => exact .nd k n gs fs tl (fun l => (h l).symm) fun l x y hx hy => ih l y x hy hx

theorem Co.refl : ∀ t, Co t t :=
  Ut.ind fun k n fs tl ih => .nd k n fs fs tl (fun _ => rfl) fun l x y hx hy => by
    rw [hx] at hy
    injection hy with hy
    subst hy
    exact ih (l, x) (getF_mem hx)

/-- Static trees that agree are the same. -/
theorem Co.eq {a b : Ut} (h : Co a b) : stT a → stT b → riT a → riT b → a = b := by
  induction h with
  | dl n fs tl b => intro h; rw [stT_mk] at h; exact absurd rfl h.1
  | dr n fs tl a => intro _ h; rw [stT_mk] at h; exact absurd rfl h.1
  | nd k n fs gs tl h hc ih =>
    intro s1 s2 r1 r2
    rw [stT_mk] at s1 s2
    rw [riT_mk] at r1 r2
    congr 1
    refine rise_ext r1.1 r2.1 fun l => ?_
    have hl := h l
    cases h1 : getF l fs with
    | none =>
      rw [h1] at hl
      cases h2 : getF l gs with
      | none => rfl
      | some y => rw [h2] at hl; cases hl
    | some x =>
      rw [h1] at hl
      cases h2 : getF l gs with
      | none => rw [h2] at hl; cases hl
      | some y => rw [ih l x y h1 h2 (s1.2 _ (getF_mem h1)) (s2.2 _ (getF_mem h2)) (r1.2 _ (getF_mem h1)) (r2.2 _ (getF_mem h2))]

end Go.Proofs.Ytblfeokjlecgkaa
namespace Go.Proofs.Ytblfeokjlecgkaa

/-! ### Fresh variables for what is not known -/

mutual
def stc (m : Int) : Ut → Ut × Int
  | .mk k n fs tl => if k = 0 then (.mk 8 m [] none, m + 1) else (.mk k n (stcF m fs).1 tl, (stcF m fs).2)
termination_by t => SizeOf.sizeOf t
def stcF (m : Int) : Fl → Fl × Int
  | [] => ([], m)
  | p :: fs => ((p.1, (stc m p.2).1) :: (stcF (stc m p.2).2 fs).1, (stcF (stc m p.2).2 fs).2)
termination_by fs => SizeOf.sizeOf fs
decreasing_by all_goals first | (simp; omega) | (obtain ⟨a, b⟩ := p; simp; omega)
end

theorem stc_mk (m k n : Int) (fs : Fl) (tl : Option Int) : stc m (.mk k n fs tl) = if k = 0 then (.mk 8 m [] none, m + 1) else (.mk k n (stcF m fs).1 tl, (stcF m fs).2) := by rw [stc]
theorem stcF_nil (m : Int) : stcF m [] = ([], m) := by rw [stcF]
theorem stcF_cons (m : Int) (p : Lb × Ut) (fs : Fl) : stcF m (p :: fs) = ((p.1, (stc m p.2).1) :: (stcF (stc m p.2).2 fs).1, (stcF (stc m p.2).2 fs).2) := by rw [stcF]

theorem stcF_labs : ∀ (fs : Fl) (m : Int), labsF (stcF m fs).1 = labsF fs
  | [], m => by rw [stcF_nil]
  | p :: fs, m => by
    rw [stcF_cons]
    have := stcF_labs fs (stc m p.2).2
    unfold labsF at this ⊢
    simp only [List.map_cons, this]

/-- Tree by tree. -/
theorem stcF_all {P : Int → Ut → Prop} {Q : Int → Ut → Ut → Int → Prop} {fs : Fl} (hs : ∀ p ∈ fs, ∀ m, P m p.2 → m ≤ (stc m p.2).2 ∧ Q m p.2 (stc m p.2).1 (stc m p.2).2) (hP : ∀ m m' t, m ≤ m' → P m t → P m' t) :
    ∀ m, (∀ p ∈ fs, P m p.2) → m ≤ (stcF m fs).2 ∧ ∀ q ∈ (stcF m fs).1, ∃ p ∈ fs, ∃ a b, m ≤ a ∧ b ≤ (stcF m fs).2 ∧ Q a p.2 q.2 b := by
  induction fs with
  | nil => intro m _; rw [stcF_nil]; exact ⟨Int.le_refl _, fun q hq => by simp at hq⟩
  | cons p fs ih =>
    intro m h
    obtain ⟨h1, h2⟩ := hs p (by simp) m (h p (by simp))
    obtain ⟨h3, h4⟩ := ih (fun p hp => hs p (by simp [hp])) (stc m p.2).2 (fun q hq => hP _ _ _ h1 (h q (by simp [hq])))
    rw [stcF_cons]
    refine ⟨by simp only; omega, fun q hq => ?_⟩
    rcases List.mem_cons.1 hq with rfl | hq
    · exact ⟨p, by simp, m, (stc m p.2).2, Int.le_refl _, h3, h2⟩
    · obtain ⟨r, hr, a, b, ha, hb, hQ⟩ := h4 q hq
      exact ⟨r, by simp [hr], a, b, by omega, hb, hQ⟩

theorem stc_ok {L : Sorts} : ∀ (t : Ut) (m : Int), (okT L t ∧ bdT m t ∧ ∀ x, m ≤ x → L x = none) → m ≤ (stc m t).2 ∧ (okT L (stc m t).1 ∧ stT (stc m t).1 ∧ bdT (stc m t).2 (stc m t).1) :=
  Ut.ind fun k n fs tl ih m ⟨ho, hb, hL⟩ => by
    rw [stc_mk]
    by_cases hk : k = 0
    · rw [if_pos hk]
      simp only
      refine ⟨by omega, ?_, ?_, ?_⟩
      · rw [okT_mk]
        exact ⟨⟨by simp [labsF], fun _ => ⟨rfl, rfl⟩, fun _ => hL m (Int.le_refl _), fun h => absurd rfl h, fun p hp => by cases hp⟩, fun p hp => by simp at hp⟩
      · rw [stT_mk]
        exact ⟨by decide, fun p hp => by simp at hp⟩
      · rw [bdT_mk]
        exact ⟨fun _ => by omega, fun p hp => by simp at hp, fun p hp => by simp at hp⟩
    · rw [if_neg hk]
      rw [okT_mk] at ho
      rw [bdT_mk] at hb
      obtain ⟨h1, h2⟩ := stcF_all (P := fun m t => okT L t ∧ bdT m t ∧ ∀ x, m ≤ x → L x = none) (Q := fun a t t' b => okT L t' ∧ stT t' ∧ bdT b t') (fs := fs) ih (fun m m' t hm ⟨a, b, c⟩ => ⟨a, bdT_mono hm t b, fun x hx => c x (by omega)⟩) m (fun p hp => ⟨ho.2 p hp, hb.2.2 p hp, hL⟩)
      simp only
      refine ⟨h1, ?_, ?_, ?_⟩
      · rw [okT_mk]
        refine ⟨⟨?_, ?_, ho.1.2.2.1, ho.1.2.2.2.1, ?_⟩, fun q hq => ?_⟩
        · rw [stcF_labs]; exact ho.1.1
        · intro h
          obtain ⟨e1, e2⟩ := ho.1.2.1 h
          subst e1
          exact ⟨by rw [stcF_nil], e2⟩
        · rw [stcF_labs]; exact ho.1.2.2.2.2
        · obtain ⟨p, hp, a, b, _, _, hQ⟩ := h2 q hq
          exact hQ.1
      · rw [stT_mk]
        refine ⟨hk, fun q hq => ?_⟩
        obtain ⟨p, hp, a, b, _, _, hQ⟩ := h2 q hq
        exact hQ.2.1
      · rw [bdT_mk]
        refine ⟨fun h => by have := hb.1 h; omega, fun p hp => by have := hb.2.1 p hp; omega, fun q hq => ?_⟩
        obtain ⟨p, hp, a, b, _, hbb, hQ⟩ := h2 q hq
        exact bdT_mono hbb _ hQ.2.2

def Va.updV (τ : Va) (m : Int) (T : Ut) : Va := ⟨fun n => if n = m then T else τ.v n, τ.t⟩

theorem Va.Ok.updV {L : Sorts} {τ : Va} (h : τ.Ok L) {m : Int} {T : Ut} (hs : stT T) (hr : riT T) : (τ.updV m T).Ok L :=
  ⟨fun n hn => by
    show stT (if n = m then T else τ.v n) ∧ riT (if n = m then T else τ.v n)
    split
    · exact ⟨hs, hr⟩
    · exact h.v n hn, h.t⟩

/-- What was extended: below m as it was, from m' on as it was. -/
structure Ext (L : Sorts) (m m' : Int) (τ τ' : Va) : Prop where
  ok : τ'.Ok L
  lo : Alike m τ τ'
  hi : ∀ x, m' ≤ x → τ'.v x = τ.v x
  t : τ'.t = τ.t

theorem Ext.refl {L : Sorts} {m m' : Int} {τ : Va} (h : τ.Ok L) : Ext L m m' τ τ := ⟨h, Alike.refl _ _, fun _ _ => rfl, rfl⟩

theorem Ext.trans {L : Sorts} {m m1 m2 : Int} {τ τ1 τ2 : Va} (h1 : Ext L m m1 τ τ1) (h2 : Ext L m1 m2 τ1 τ2) (hm : m ≤ m1) (hm2 : m1 ≤ m2) : Ext L m m2 τ τ2 :=
  ⟨h2.ok, h1.lo.trans (h2.lo.mono hm), fun x hx => (h2.hi x hx).trans (h1.hi x (by omega)), h2.t.trans h1.t⟩

theorem Ext.tail {L : Sorts} {m m' : Int} {τ τ' : Va} (h : Ext L m m' τ τ') (tl : Option Int) : τ'.tail tl = τ.tail tl := by
  cases tl with
  | none => rfl
  | some p => show τ'.t p = τ.t p; rw [h.t]

end Go.Proofs.Ytblfeokjlecgkaa
namespace Go.Proofs.Ytblfeokjlecgkaa

/-! ### What is known -/

/-- Alike where trees look. -/
theorem inst_sorts {L : Sorts} {τ τ' : Va} (hv : ∀ n, L n = none → τ.v n = τ'.v n) (ht : ∀ p ls, L p = some ls → τ.t p = τ'.t p) : ∀ t, okT L t → inst τ t = inst τ' t :=
  Ut.ind fun k n fs tl ih ho => by
    rw [okT_mk] at ho
    have e : τ.tail tl = τ'.tail tl := by
      cases tl with
      | none => rfl
      | some p => obtain ⟨ls, hls, _⟩ := ho.1.2.2.2.2 p rfl; exact ht p ls hls
    rw [inst_eq, inst_eq, e, mapF_congr fun p hp => ih p hp (ho.2 p hp)]
    split
    · next hk => exact hv n (ho.1.2.2.1 hk)
    · rfl

/-- Trees stand for variables that are such themselves. -/
structure Va.Wf (L : Sorts) (σ : Va) : Prop where
  ok : σ.Ok L
  v : ∀ n, L n = none → okT L (σ.v n)
  t : ∀ p ls, L p = some ls → (∀ q ∈ (σ.t p).1, okT L q.2) ∧ ∀ q, (σ.t p).2 = some q → ∃ ls', L q = some ls' ∧ (∀ l ∈ ls, l ∈ ls') ∧ ∀ l ∈ labsF (σ.t p).1, l ∈ ls'

theorem mem_srt_labs {l : Lb} {a : Fl} : l ∈ labsF (srtF a) ↔ l ∈ labsF a := ((srtF_perm a).map (fun p : Lb × Ut => p.1)).mem_iff

theorem inst_ok {L : Sorts} {σ : Va} (h : σ.Wf L) : ∀ t, okT L t → okT L (inst σ t) :=
  Ut.ind fun k n fs tl ih ho => by
    rw [okT_mk] at ho
    rw [inst_eq]
    split
    · next hk => exact h.v n (ho.1.2.2.1 hk)
    · next hk =>
      rw [okT_mk]
      refine ⟨⟨(srtF_rise (tail_nodup h.ok ho.1)).nodup, fun h2 => ?_, fun e => absurd e hk, ho.1.2.2.2.1, fun q hq => ?_⟩, fun p hp => ?_⟩
      · rcases h2 with h2 | h2
        · obtain ⟨e1, e2⟩ := ho.1.2.1 (.inl h2)
          subst e1 e2
          exact ⟨rfl, rfl⟩
        · exact absurd h2 hk
      · cases tl with
        | none => simp [Va.tail] at hq
        | some p =>
          obtain ⟨ls, hls, hsub⟩ := ho.1.2.2.2.2 p rfl
          obtain ⟨ls', h1, h2, h3⟩ := (h.t p ls hls).2 q hq
          refine ⟨ls', h1, fun l hl => ?_⟩
          rw [mem_srt_labs, labsF_append, labsF_mapF] at hl
          rcases List.mem_append.1 hl with hl | hl
          · exact h2 l (hsub l hl)
          · exact h3 l hl
      · rw [srtF_mem] at hp
        rcases List.mem_append.1 hp with hp | hp
        · obtain ⟨q, hq, rfl⟩ := List.mem_map.1 hp
          exact ih q hq (ho.2 q hq)
        · cases tl with
          | none => simp [Va.tail] at hp
          | some r =>
            obtain ⟨ls, hls, _⟩ := ho.1.2.2.2.2 r rfl
            exact (h.t r ls hls).1 p hp

/-- A row that is but a tail. -/
def uRow (p : Int) : Ut := .mk 6 0 [] (some p)
def varT (v : Int) : Ut := .mk 8 v [] none

theorem okT_var {L : Sorts} {v : Int} (h : L v = none) : okT L (varT v) := by
  unfold varT
  rw [okT_mk]
  exact ⟨⟨by simp [labsF], fun _ => ⟨rfl, rfl⟩, fun _ => h, fun h => absurd rfl h, fun p hp => by cases hp⟩, fun p hp => by simp at hp⟩

theorem okT_row {L : Sorts} {p : Int} {ls : List Lb} (h : L p = some ls) : okT L (uRow p) := by
  unfold uRow
  rw [okT_mk]
  refine ⟨⟨by simp [labsF], (fun h => ?_), (fun h => ?_), (fun _ _ => rfl), (fun q hq => ?_)⟩, fun p hp => by simp at hp⟩
  · rcases h with h | h <;> exact absurd h (by decide)
  · exact absurd h (by decide)
  · cases hq
    exact ⟨ls, h, fun l hl => by simp [labsF] at hl⟩

theorem inst_var (τ : Va) (v : Int) : inst τ (varT v) = τ.v v := by
  unfold varT
  rw [inst_eq, if_pos rfl]

theorem inst_row {L : Sorts} {τ : Va} (h : τ.Ok L) {p : Int} {ls : List Lb} (hp : L p = some ls) : inst τ (uRow p) = .mk 6 0 (τ.t p).1 (τ.t p).2 := by
  unfold uRow
  rw [inst_eq, if_neg (by decide)]
  show Ut.mk 6 0 (srtF ([] ++ (τ.t p).1)) (τ.t p).2 = _
  rw [List.nil_append, srtF_of_rise (h.t p ls hp).1]

theorem stT_var (v : Int) : stT (varT v) := by unfold varT; rw [stT_mk]; exact ⟨by decide, fun p hp => by simp at hp⟩
theorem riT_var (v : Int) : riT (varT v) := by unfold varT; rw [riT_mk]; exact ⟨by simp [Rise], fun p hp => by simp at hp⟩
def Va.id : Va := ⟨varT, fun p => ([], some p)⟩

theorem id_wf (L : Sorts) : Va.id.Wf L :=
  ⟨⟨fun n _ => ⟨stT_var n, riT_var n⟩, fun p ls _ => ⟨by simp [Va.id, Rise], fun l hl => by simp [Va.id, labsF] at hl, fun q hq => by simp [Va.id] at hq⟩⟩,
    fun n hn => okT_var hn, fun p ls hp => ⟨fun q hq => by simp [Va.id] at hq, fun q hq => by
      simp only [Va.id, Option.some.injEq] at hq
      subst hq
      exact ⟨ls, hp, fun l hl => hl, fun l hl => by simp [Va.id, labsF] at hl⟩⟩⟩

theorem comp_ok {L : Sorts} {τ σ : Va} (hτ : τ.Ok L) (hσ : σ.Wf L) : (τ.comp σ).Ok L := by
  refine ⟨fun n hn => ⟨inst_st hτ _ (hσ.v n hn) (hσ.ok.v n hn).1, inst_ri hτ _ (hσ.v n hn)⟩, fun p ls hp => ?_⟩
  obtain ⟨h1, h2⟩ := hσ.t p ls hp
  obtain ⟨g1, g2, g3⟩ := hσ.ok.t p ls hp
  have hnod : (labsF (mapF (inst τ) (σ.t p).1 ++ (τ.tail (σ.t p).2).1)).Nodup ∧ ∀ l ∈ labsF (mapF (inst τ) (σ.t p).1 ++ (τ.tail (σ.t p).2).1), l ∉ ls := by
    rw [labsF_append, labsF_mapF]
    cases hq : (σ.t p).2 with
    | none => exact ⟨by simpa [Va.tail, labsF] using g1.nodup, fun l hl => g2 l (by simpa [Va.tail, labsF] using hl)⟩
    | some q =>
      obtain ⟨ls', k1, k2, k3⟩ := h2 q hq
      obtain ⟨t1, t2, _⟩ := hτ.t q ls' k1
      refine ⟨List.nodup_append.2 ⟨g1.nodup, t1.nodup, fun a ha b hb e => t2 b hb (by rw [← e]; exact k3 a ha)⟩, fun l hl hls => ?_⟩
      rcases List.mem_append.1 hl with hl | hl
      · exact g2 l hl hls
      · exact t2 l hl (k2 l hls)
  refine ⟨srtF_rise hnod.1, fun l hl => ?_, fun q hq => ?_⟩
  · exact hnod.2 l (mem_srt_labs.1 hl)
  · have hq : q ∈ srtF (mapF (inst τ) (σ.t p).1 ++ (τ.tail (σ.t p).2).1) := hq
    rw [srtF_mem] at hq
    rcases List.mem_append.1 hq with hq | hq
    · obtain ⟨r, hr, rfl⟩ := List.mem_map.1 hq
      exact ⟨inst_st hτ _ (h1 r hr) (g3 r hr).1, inst_ri hτ _ (h1 r hr)⟩
    · cases hq2 : (σ.t p).2 with
      | none => rw [hq2] at hq; simp [Va.tail] at hq
      | some s =>
        rw [hq2] at hq
        obtain ⟨ls', k1, _⟩ := h2 s hq2
        exact (hτ.t s ls' k1).2.2 q hq

theorem comp_wf {L : Sorts} {τ σ : Va} (hτ : τ.Wf L) (hσ : σ.Wf L) : (τ.comp σ).Wf L := by
  refine ⟨comp_ok hτ.ok hσ, fun n hn => inst_ok hτ _ (hσ.v n hn), fun p ls hp => ?_⟩
  obtain ⟨h1, h2⟩ := hσ.t p ls hp
  refine ⟨fun q hq => ?_, fun q hq => ?_⟩
  · have hq : q ∈ srtF (mapF (inst τ) (σ.t p).1 ++ (τ.tail (σ.t p).2).1) := hq
    rw [srtF_mem] at hq
    rcases List.mem_append.1 hq with hq | hq
    · obtain ⟨r, hr, rfl⟩ := List.mem_map.1 hq
      exact inst_ok hτ _ (h1 r hr)
    · cases hq2 : (σ.t p).2 with
      | none => rw [hq2] at hq; simp [Va.tail] at hq
      | some s =>
        rw [hq2] at hq
        obtain ⟨ls', k1, _⟩ := h2 s hq2
        exact (hτ.t s ls' k1).1 q hq
  · have hq : (τ.tail (σ.t p).2).2 = some q := hq
    cases hq2 : (σ.t p).2 with
    | none => rw [hq2] at hq; simp [Va.tail] at hq
    | some s =>
      rw [hq2] at hq
      obtain ⟨ls', k1, k2, k3⟩ := h2 s hq2
      obtain ⟨ls2, j1, j2, j3⟩ := (hτ.t s ls' k1).2 q hq
      refine ⟨ls2, j1, fun l hl => j2 l (k2 l hl), fun l hl => ?_⟩
      have hl : l ∈ labsF (srtF (mapF (inst τ) (σ.t p).1 ++ (τ.tail (σ.t p).2).1)) := hl
      rw [mem_srt_labs, labsF_append, labsF_mapF, hq2] at hl
      rcases List.mem_append.1 hl with hl | hl
      · exact j2 l (k3 l hl)
      · exact j3 l hl

/-- What is known of variables holds. -/
def Model (L : Sorts) (κ : Int → Option Ut) (τ : Va) : Prop :=
  ∀ v t, κ v = some t → (L v = none → τ.v v = inst τ t) ∧ ∀ ls, L v = some ls → τ.t v = ((inst τ t).fs, (inst τ t).tl)

/-- What stands for variables has numbers below one. -/
structure Va.Bd (L : Sorts) (m : Int) (σ : Va) : Prop where
  v : ∀ n, n < m → L n = none → bdT m (σ.v n)
  t : ∀ p ls, p < m → L p = some ls → (∀ q ∈ (σ.t p).1, bdT m q.2) ∧ ∀ q, (σ.t p).2 = some q → q < m

theorem inst_bd {L : Sorts} {m : Int} {σ : Va} (h : σ.Bd L m) : ∀ t, okT L t → bdT m t → bdT m (inst σ t) :=
  Ut.ind fun k n fs tl ih ho hb => by
    rw [okT_mk] at ho
    rw [bdT_mk] at hb
    rw [inst_eq]
    split
    · next hk => exact h.v n (hb.1 hk) (ho.1.2.2.1 hk)
    · next hk =>
      rw [bdT_mk]
      have ht : (∀ q ∈ (σ.tail tl).1, bdT m q.2) ∧ ∀ q, (σ.tail tl).2 = some q → q < m := by
        cases tl with
        | none => exact ⟨fun q hq => by simp [Va.tail] at hq, fun q hq => by simp [Va.tail] at hq⟩
        | some p =>
          obtain ⟨ls, hls, _⟩ := ho.1.2.2.2.2 p rfl
          exact h.t p ls (hb.2.1 p rfl) hls
      refine ⟨fun e => absurd e hk, ht.2, fun q hq => ?_⟩
      rw [srtF_mem] at hq
      rcases List.mem_append.1 hq with hq | hq
      · obtain ⟨r, hr, rfl⟩ := List.mem_map.1 hq
        exact ih r hr (ho.2 r hr) (hb.2.2 r hr)
      · exact ht.1 q hq

theorem comp_bd {L : Sorts} {m : Int} {τ σ : Va} (hτ : τ.Bd L m) (hσ : σ.Bd L m) (hw : σ.Wf L) : (τ.comp σ).Bd L m := by
  refine ⟨fun n hn hl => inst_bd hτ _ (hw.v n hl) (hσ.v n hn hl), fun p ls hp hls => ?_⟩
  obtain ⟨h1, h2⟩ := hσ.t p ls hp hls
  obtain ⟨w1, w2⟩ := hw.t p ls hls
  have ht : (∀ q ∈ (τ.tail (σ.t p).2).1, bdT m q.2) ∧ ∀ q, (τ.tail (σ.t p).2).2 = some q → q < m := by
    cases hq2 : (σ.t p).2 with
    | none => exact ⟨fun q hq => by simp [Va.tail] at hq, fun q hq => by simp [Va.tail] at hq⟩
    | some s =>
      obtain ⟨ls', k1, _⟩ := w2 s hq2
      exact hτ.t s ls' (h2 s hq2) k1
  refine ⟨fun q hq => ?_, ht.2⟩
  have hq : q ∈ srtF (mapF (inst τ) (σ.t p).1 ++ (τ.tail (σ.t p).2).1) := hq
  rw [srtF_mem] at hq
  rcases List.mem_append.1 hq with hq | hq
  · obtain ⟨r, hr, rfl⟩ := List.mem_map.1 hq
    exact inst_bd hτ _ (w1 r hr) (h1 r hr)
  · exact ht.1 q hq

/-- What is known, and what each variable is by it. -/
structure Kn where
  κ : Int → Option Ut
  L : Sorts
  σ : Va
  m : Int

structure Kn.Inv (S : Kn) : Prop where
  dom : ∀ v t, S.κ v = some t → v < S.m ∧ okT S.L t ∧ stT t ∧ bdT S.m t
  row : ∀ v t ls, S.κ v = some t → S.L v = some ls → t.k ≠ 8 ∧ t.k ≠ 0 ∧ (∀ l ∈ labsF t.fs, l ∉ ls) ∧ ∀ q, t.tl = some q → ∃ ls', S.L q = some ls' ∧ ∀ l ∈ ls, l ∈ ls'
  new : ∀ x, S.m ≤ x → S.L x = none
  wf : S.σ.Wf S.L
  model : Model S.L S.κ S.σ
  unk : ∀ v, S.κ v = none → S.σ.v v = varT v ∧ S.σ.t v = ([], some v)
  bd : S.σ.Bd S.L S.m
  gen : ∀ τ, τ.Ok S.L → Model S.L S.κ τ → ∀ t, okT S.L t → inst τ (inst S.σ t) = inst τ t

def Kn.Sat (S : Kn) (τ : Va) : Prop := τ.Ok S.L ∧ Model S.L S.κ τ

theorem Kn.Inv.free {S : Kn} (h : S.Inv) {x : Int} (hx : S.m ≤ x) : S.κ x = none := by
  cases hk : S.κ x with
  | none => rfl
  | some t => have := (h.dom x t hk).1; omega

theorem bdT_var {m v : Int} (h : v < m) : bdT m (varT v) := by
  unfold varT
  rw [bdT_mk]
  exact ⟨fun _ => h, (fun p hp => by cases hp), (fun p hp => by simp at hp)⟩

theorem Kn.Inv.bd_more {S : Kn} (h : S.Inv) {m' : Int} (hm : S.m ≤ m') : S.σ.Bd S.L m' := by
  refine ⟨fun n hn hl => ?_, fun p ls hp hls => ?_⟩
  · by_cases hx : n < S.m
    · exact bdT_mono hm _ (h.bd.v n hx hl)
    · rw [(h.unk n (h.free (by omega))).1]
      exact bdT_var hn
  · by_cases hx : p < S.m
    · obtain ⟨a, b⟩ := h.bd.t p ls hx hls
      exact ⟨fun q hq => bdT_mono hm _ (a q hq), fun q hq => Int.lt_of_lt_of_le (b q hq) hm⟩
    · rw [h.new p (by omega)] at hls
      cases hls

theorem Kn.Inv.sat {S : Kn} (h : S.Inv) : S.Sat S.σ := ⟨h.wf.ok, h.model⟩

theorem model_less {L : Sorts} {κ κ' : Int → Option Ut} {τ : Va} (h : Model L κ' τ) (hk : ∀ v t, κ v = some t → κ' v = some t) : Model L κ τ := fun v t hv => h v t (hk v t hv)

theorem model_alike {L : Sorts} {κ : Int → Option Ut} {τ τ' : Va} {m : Int} (h : Model L κ τ) (ha : Alike m τ τ') (hd : ∀ v t, κ v = some t → v < m ∧ bdT m t) : Model L κ τ' := fun v t hv => by
  obtain ⟨h1, h2⟩ := hd v t hv
  obtain ⟨a1, a2⟩ := ha v h1
  obtain ⟨g1, g2⟩ := h v t hv
  exact ⟨fun hl => by rw [← a1, g1 hl, ha.inst t h2], fun ls hls => by rw [← a2, g2 ls hls, ha.inst t h2]⟩

end Go.Proofs.Ytblfeokjlecgkaa
namespace Go.Proofs.Ytblfeokjlecgkaa

/-! ### A variable becomes a tree -/

/-- A number stands in a tree. -/
def occN (v : Int) : Ut → Prop
  | .mk k n fs tl => (k = 8 ∧ n = v) ∨ tl = some v ∨ ∃ p, ∃ (_ : p ∈ fs), occN v p.2
termination_by t => SizeOf.sizeOf t
decreasing_by exact Ut.size_mem (by assumption)

theorem occN_mk {v k n : Int} {fs : Fl} {tl : Option Int} : occN v (.mk k n fs tl) ↔ (k = 8 ∧ n = v) ∨ tl = some v ∨ ∃ p ∈ fs, occN v p.2 := by
  rw [occN]
  simp only [exists_prop]

def upd (κ : Int → Option Ut) (v : Int) (t : Ut) : Int → Option Ut := fun u => if u = v then some t else κ u

theorem upd_same (κ : Int → Option Ut) (v : Int) (t : Ut) : upd κ v t v = some t := by simp [upd]
theorem upd_other {κ : Int → Option Ut} {v u : Int} {t : Ut} (h : u ≠ v) : upd κ v t u = κ u := by simp [upd, h]

section
variable {S : Kn} {v : Int} {t : Ut}

end

end Go.Proofs.Ytblfeokjlecgkaa
namespace Go.Proofs.Ytblfeokjlecgkaa

/-! ### A fresh Tail; a Tail becomes a row -/

theorem okT_mono {L L' : Sorts} {m : Int} (hL : ∀ x, x < m → L' x = L x) : ∀ t, bdT m t → okT L t → okT L' t :=
  Ut.ind fun k n fs tl ih hb ho => by
    rw [bdT_mk] at hb
    rw [okT_mk] at ho ⊢
    refine ⟨⟨ho.1.1, ho.1.2.1, fun hk => ?_, ho.1.2.2.2.1, fun p hp => ?_⟩, fun p hp => ih p hp (hb.2.2 p hp) (ho.2 p hp)⟩
    · rw [hL n (hb.1 hk)]; exact ho.1.2.2.1 hk
    · rw [hL p (hb.2.1 p hp)]; exact ho.1.2.2.2.2 p hp

def Va.updT (τ : Va) (m : Int) (T : Fl × Option Int) : Va := ⟨τ.v, fun n => if n = m then T else τ.t n⟩

def Kn.freshT (S : Kn) (ls : List Lb) : Kn := ⟨S.κ, fun x => if x = S.m then some ls else S.L x, S.σ, S.m + 1⟩

/-- What is known grows. -/
structure Kn.Le (S S' : Kn) : Prop where
  m : S.m ≤ S'.m
  κ : ∀ v t, S.κ v = some t → S'.κ v = some t
  L : ∀ x, x < S.m → S'.L x = S.L x
  sat : ∀ τ, S'.Sat τ → ∃ τ0, S.Sat τ0 ∧ Alike S.m τ τ0

theorem Kn.Le.refl (S : Kn) : S.Le S := ⟨Int.le_refl _, fun _ _ h => h, fun _ _ => rfl, fun τ h => ⟨τ, h, Alike.refl _ _⟩⟩
theorem Kn.Le.trans {S S1 S2 : Kn} (h : S.Le S1) (k : S1.Le S2) : S.Le S2 :=
  ⟨Int.le_trans h.m k.m, fun v t hv => k.κ v t (h.κ v t hv), fun x hx => (k.L x (Int.lt_of_lt_of_le hx h.m)).trans (h.L x hx), fun τ hτ => by
    obtain ⟨τ1, h1, a1⟩ := k.sat τ hτ
    obtain ⟨τ0, h0, a0⟩ := h.sat τ1 h1
    exact ⟨τ0, h0, (a1.mono h.m).trans a0⟩⟩

section
variable {S : Kn} {v : Int} {t : Ut}

theorem Kn.freshT_less {ls : List Lb} (h : S.Inv) {τ : Va} (hτ : (S.freshT ls).Sat τ) : S.Sat (τ.updV S.m (varT S.m)) ∧ Alike S.m τ (τ.updV S.m (varT S.m)) := by
  have ha : Alike S.m τ (τ.updV S.m (varT S.m)) := fun x hx => ⟨by
    show τ.v x = if x = S.m then _ else τ.v x
    rw [if_neg (by omega)], rfl⟩
  refine ⟨⟨⟨fun n hn => ?_, fun p ls' hp => ?_⟩, ?_⟩, ha⟩
  · show stT (if n = S.m then _ else τ.v n) ∧ riT (if n = S.m then _ else τ.v n)
    split
    · exact ⟨stT_var _, riT_var _⟩
    · next hne =>
      refine hτ.1.v n ?_
      show (if n = S.m then some ls else S.L n) = none
      rw [if_neg hne]
      exact hn
  · refine hτ.1.t p ls' ?_
    show (if p = S.m then some ls else S.L p) = some ls'
    rw [if_neg]
    · exact hp
    · rintro rfl
      rw [h.new S.m (Int.le_refl _)] at hp
      cases hp
  · have hm : Model S.L S.κ τ := fun u s hu => by
      have hum := (h.dom u s hu).1
      have g : (if u = S.m then some ls else S.L u) = S.L u := if_neg (by omega)
      obtain ⟨g1, g2⟩ := hτ.2 u s hu
      exact ⟨fun hl => g1 (by show (if u = S.m then some ls else S.L u) = none; rw [g]; exact hl), fun ls' hls => g2 ls' (by show (if u = S.m then some ls else S.L u) = some ls'; rw [g]; exact hls)⟩
    exact model_alike hm ha fun u s hu => ⟨(h.dom u s hu).1, (h.dom u s hu).2.2.2⟩

theorem Kn.Inv.freshT (h : S.Inv) (ls : List Lb) : (S.freshT ls).Inv := by
  have hLlt : ∀ x, x < S.m → (S.freshT ls).L x = S.L x := fun x hx => by
    show (if x = S.m then some ls else S.L x) = S.L x
    rw [if_neg (by omega)]
  have hLm : (S.freshT ls).L S.m = some ls := by
    show (if S.m = S.m then some ls else S.L S.m) = some ls
    rw [if_pos rfl]
  have hLn : ∀ n, (S.freshT ls).L n = none → S.L n = none ∧ n ≠ S.m := fun n hn => by
    have hne : n ≠ S.m := by
      rintro rfl
      rw [hLm] at hn
      cases hn
    have hn : (if n = S.m then some ls else S.L n) = none := hn
    rw [if_neg hne] at hn
    exact ⟨hn, hne⟩
  have hLs : ∀ p ls', (S.freshT ls).L p = some ls' → p ≠ S.m → S.L p = some ls' ∧ p < S.m := fun p ls' hp hne => by
    have hp : (if p = S.m then some ls else S.L p) = some ls' := hp
    rw [if_neg hne] at hp
    refine ⟨hp, ?_⟩
    apply Classical.byContradiction
    intro hge
    rw [h.new p (by omega)] at hp
    cases hp
  have hum := h.unk S.m (h.free (Int.le_refl _))
  refine ⟨fun u s hu => ?_, fun u s ls' hu hls => ?_, fun x hx => ?_, ⟨⟨fun n hn => h.wf.ok.v n (hLn n hn).1, fun p ls' hp => ?_⟩, fun n hn => ?_, fun p ls' hp => ?_⟩, fun u s hu => ?_, h.unk, ⟨fun n hn hl => ?_, fun p ls' hp hls => ?_⟩, fun τ hτ hmod s hs => ?_⟩
  · obtain ⟨a, b, c, d⟩ := h.dom u s hu
    exact ⟨by show u < S.m + 1; omega, okT_mono hLlt _ d b, c, bdT_mono (by show S.m ≤ S.m + 1; omega) _ d⟩
  · obtain ⟨a, b, c, d⟩ := h.dom u s hu
    rw [hLlt u a] at hls
    obtain ⟨r1, r2, r3, r4⟩ := h.row u s ls' hu hls
    refine ⟨r1, r2, r3, fun q hq => ?_⟩
    obtain ⟨ls2, k1, k2⟩ := r4 q hq
    refine ⟨ls2, ?_, k2⟩
    obtain ⟨k, n, fs, tl⟩ := s
    rw [bdT_mk] at d
    rw [hLlt q (d.2.1 q hq)]
    exact k1
  · have hx : S.m + 1 ≤ x := hx
    show (if x = S.m then some ls else S.L x) = none
    rw [if_neg (by omega)]
    exact h.new x (by omega)
  · by_cases e : p = S.m
    · subst e
      show Rise (S.σ.t S.m).1 ∧ (∀ l ∈ labsF (S.σ.t S.m).1, l ∉ ls') ∧ ∀ q ∈ (S.σ.t S.m).1, stT q.2 ∧ riT q.2
      rw [hum.2]
      exact ⟨by simp [Rise], fun l hl => by simp [labsF] at hl, fun q hq => by simp at hq⟩
    · exact h.wf.ok.t p ls' (hLs p ls' hp e).1
  · by_cases hx : n < S.m
    · exact okT_mono hLlt _ (h.bd.v n hx (hLn n hn).1) (h.wf.v n (hLn n hn).1)
    · show okT _ (S.σ.v n)
      rw [(h.unk n (h.free (by omega))).1]
      exact okT_var hn
  · by_cases e : p = S.m
    · subst e
      show (∀ q ∈ (S.σ.t S.m).1, _) ∧ ∀ q, (S.σ.t S.m).2 = some q → _
      rw [hum.2]
      refine ⟨fun q hq => by simp at hq, fun q hq => ?_⟩
      simp only [Option.some.injEq] at hq
      subst hq
      refine ⟨ls', hp, fun l hl => hl, fun l hl => ?_⟩
      have hl : l ∈ labsF (S.σ.t S.m).1 := hl
      rw [hum.2] at hl
      simp [labsF] at hl
    · obtain ⟨hls, hlt⟩ := hLs p ls' hp e
      obtain ⟨w1, w2⟩ := h.wf.t p ls' hls
      obtain ⟨b1, b2⟩ := h.bd.t p ls' hlt hls
      refine ⟨fun q hq => okT_mono hLlt _ (b1 q hq) (w1 q hq), fun q hq => ?_⟩
      obtain ⟨ls2, k1, k2⟩ := w2 q hq
      exact ⟨ls2, by rw [hLlt q (b2 q hq)]; exact k1, k2⟩
  · obtain ⟨a, b, c, d⟩ := h.dom u s hu
    rw [hLlt u a]
    exact h.model u s hu
  · by_cases hx : n < S.m
    · exact bdT_mono (by show S.m ≤ S.m + 1; omega) _ (h.bd.v n hx (hLn n hl).1)
    · have hn : n < S.m + 1 := hn
      exact absurd (show n = S.m by omega) (hLn n hl).2
  · by_cases e : p = S.m
    · subst e
      show (∀ q ∈ (S.σ.t S.m).1, _) ∧ ∀ q, (S.σ.t S.m).2 = some q → _
      rw [hum.2]
      refine ⟨fun q hq => by simp at hq, fun q hq => ?_⟩
      simp only [Option.some.injEq] at hq
      subst hq
      exact hp
    · obtain ⟨hls, hlt⟩ := hLs p ls' hls e
      obtain ⟨b1, b2⟩ := h.bd.t p ls' hlt hls
      exact ⟨fun q hq => bdT_mono (by show S.m ≤ S.m + 1; omega) _ (b1 q hq), fun q hq => by have := b2 q hq; show q < S.m + 1; omega⟩
  · obtain ⟨⟨o0, m0⟩, a0⟩ := Kn.freshT_less (ls := ls) h ⟨hτ, hmod⟩
    show inst τ (inst S.σ s) = inst τ s
    rw [inst_comp]
    refine inst_sorts (L := (S.freshT ls).L) (fun n hn => ?_) (fun p ls' hp => ?_) s hs
    · show inst τ (S.σ.v n) = τ.v n
      obtain ⟨hl, hne⟩ := hLn n hn
      by_cases hx : n < S.m
      · have := h.gen _ o0 m0 (varT n) (okT_var hl)
        rw [inst_var, inst_var] at this
        rw [a0.inst _ (h.bd.v n hx hl), this]
        exact (a0 n hx).1.symm
      · rw [(h.unk n (h.free (by omega))).1, inst_var]
    · by_cases e : p = S.m
      · subst e
        show (srtF (mapF _ (S.σ.t S.m).1 ++ (τ.tail (S.σ.t S.m).2).1), (τ.tail (S.σ.t S.m).2).2) = τ.t S.m
        rw [hum.2]
        show (srtF ([] ++ (τ.t S.m).1), (τ.t S.m).2) = τ.t S.m
        rw [List.nil_append, srtF_of_rise (hτ.t S.m ls' hp).1]
      · obtain ⟨hls, hlt⟩ := hLs p ls' hp e
        have h1 := h.gen _ o0 m0 (uRow p) (okT_row hls)
        rw [inst_row h.wf.ok hls, inst_row o0 hls, inst_eq, if_neg (by decide)] at h1
        obtain ⟨b1, b2⟩ := h.bd.t p ls' hlt hls
        rw [← a0.tail b2, ← mapF_congr fun q hq => a0.inst _ (b1 q hq)] at h1
        injection h1 with _ _ h1 h2
        show (srtF (mapF _ (S.σ.t p).1 ++ (τ.tail (S.σ.t p).2).1), (τ.tail (S.σ.t p).2).2) = τ.t p
        rw [h1, h2]
        rfl

end

end Go.Proofs.Ytblfeokjlecgkaa
namespace Go.Proofs.Ytblfeokjlecgkaa

/-- A tree in which a Tail does not stand. -/
theorem inst_noT {L : Sorts} {p : Int} {X : Fl × Option Int} : ∀ t, okT L t → riT t → ¬ occN p t → inst (Va.id.updT p X) t = t :=
  Ut.ind fun k n fs tl ih ho hr h => by
    rw [okT_mk] at ho
    rw [riT_mk] at hr
    rw [occN_mk] at h
    rw [inst_eq]
    split
    · next hk =>
      obtain ⟨e1, e2⟩ := ho.1.2.1 (.inr hk)
      subst e1 e2 hk
      rfl
    · have e : (Va.id.updT p X).tail tl = ([], tl) := by
        cases tl with
        | none => rfl
        | some q =>
          show (if q = p then X else ([], some q)) = _
          rw [if_neg]
          rintro rfl
          exact h (.inr (.inl rfl))
      rw [e, mapF_id fun q hq => ih q hq (ho.2 q hq) (hr.2 q hq) fun hc => h (.inr (.inr ⟨q, hq, hc⟩)), List.append_nil, srtF_of_rise hr.1]

def Kn.bindT (S : Kn) (p : Int) (t : Ut) : Kn :=
  ⟨upd S.κ p (stc S.m t).1, S.L, (Va.id.updT p ((inst S.σ (stc S.m t).1).fs, (inst S.σ (stc S.m t).1).tl)).comp S.σ, (stc S.m t).2⟩

theorem stc_root {m : Int} {t : Ut} (hk : t.k ≠ 0) : (stc m t).1.k = t.k ∧ (stc m t).1.n = t.n ∧ labsF (stc m t).1.fs = labsF t.fs ∧ (stc m t).1.tl = t.tl := by
  obtain ⟨k, n, fs, tl⟩ := t
  have hk : k ≠ 0 := hk
  rw [stc_mk, if_neg hk]
  exact ⟨rfl, rfl, stcF_labs fs m, rfl⟩

/-- What a row that may stand for a Tail has to be. -/
structure RowFor (S : Kn) (p : Int) (ls : List Lb) (t : Ut) : Prop where
  k8 : t.k ≠ 8
  k0 : t.k ≠ 0
  n : t.n = 0
  d : ∀ l ∈ labsF t.fs, l ∉ ls
  q : ∀ q, t.tl = some q → q ≠ p ∧ S.κ q = none ∧ ∃ ls', S.L q = some ls' ∧ ∀ l ∈ ls, l ∈ ls'
  ok : okT S.L t
  bd : bdT S.m t

section
variable {S : Kn} {p : Int} {ls : List Lb} {t : Ut}

theorem RowFor.inst (h : S.Inv) (r : RowFor S p ls t) : ∃ F, Proofs.Ytblfeokjlecgkaa.inst S.σ (stc S.m t).1 = .mk t.k 0 F t.tl ∧ ∀ l, l ∈ labsF F → l ∉ ls := by
  obtain ⟨e1, e2, e3, e4⟩ := stc_root (m := S.m) r.k0
  generalize (stc S.m t).1 = t' at *
  obtain ⟨k, n, fs, tl⟩ := t'
  have e1 : k = t.k := e1
  have e2 : n = t.n := e2
  have e3 : labsF fs = labsF t.fs := e3
  have e4 : tl = t.tl := e4
  have ht : S.σ.tail tl = ([], tl) := by
    cases tl with
    | none => rfl
    | some q =>
      obtain ⟨_, h2, _⟩ := r.q q e4.symm
      exact (h.unk q h2).2
  refine ⟨srtF (mapF (Proofs.Ytblfeokjlecgkaa.inst S.σ) fs ++ []), by rw [inst_eq, if_neg (by rw [e1]; exact r.k8), ht, ← e4, e1, e2, r.n], fun l hl => ?_⟩
  rw [mem_srt_labs, labsF_append, labsF_mapF] at hl
  rcases List.mem_append.1 hl with hl | hl
  · exact r.d l (by show l ∈ labsF t.fs; rw [← e3]; exact hl)
  · simp [labsF] at hl

theorem Kn.Inv.bindT (h : S.Inv) (hp : S.κ p = none) (hl : S.L p = some ls) (hpm : p < S.m) (r : RowFor S p ls t) (hocc : ¬ occN p (inst S.σ (stc S.m t).1)) : (S.bindT p t).Inv := by
  obtain ⟨hm, ho', hs', hb'⟩ := stc_ok t S.m ⟨r.ok, r.bd, h.new⟩
  obtain ⟨F, hF, hFd⟩ := r.inst h
  obtain ⟨e1, e2, e3, e4⟩ := stc_root (m := S.m) r.k0
  have hR := inst_ok h.wf _ ho'
  have hRs := inst_st h.wf.ok _ ho' hs'
  have hRr := inst_ri h.wf.ok _ ho'
  have hRb := inst_bd (h.bd_more hm) _ ho' hb'
  have hS : S.bindT p t = ⟨upd S.κ p (stc S.m t).1, S.L, (Va.id.updT p (F, t.tl)).comp S.σ, (stc S.m t).2⟩ := by
    unfold Kn.bindT
    rw [hF]
    rfl
  have hno := inst_noT (X := (F, t.tl)) _ hR hRr hocc
  rw [hF] at hR hRs hRr hRb hocc hno
  rw [okT_mk] at hR
  rw [stT_mk] at hRs
  rw [riT_mk] at hRr
  rw [bdT_mk] at hRb
  have hβ : (Va.id.updT p (F, t.tl)).Wf S.L := by
    refine ⟨⟨(id_wf S.L).ok.v, fun q ls' hq => ?_⟩, (id_wf S.L).v, fun q ls' hq => ?_⟩
    · show Rise (if q = p then (F, t.tl) else _).1 ∧ (∀ l ∈ labsF (if q = p then (F, t.tl) else _).1, l ∉ ls') ∧ ∀ x ∈ (if q = p then (F, t.tl) else _).1, _
      by_cases e : q = p
      · rw [if_pos e]
        subst e
        rw [hl] at hq
        injection hq with hq
        subst hq
        exact ⟨hRr.1, hFd, fun x hx => ⟨hRs.2 x hx, hRr.2 x hx⟩⟩
      · rw [if_neg e]
        exact (id_wf S.L).ok.t q ls' hq
    · show (∀ x ∈ (if q = p then (F, t.tl) else _).1, _) ∧ ∀ s, (if q = p then (F, t.tl) else _).2 = some s → ∃ ls2, S.L s = some ls2 ∧ (∀ l ∈ ls', l ∈ ls2) ∧ ∀ l ∈ labsF (if q = p then (F, t.tl) else _).1, l ∈ ls2
      by_cases e : q = p
      · rw [if_pos e]
        subst e
        rw [hl] at hq
        injection hq with hq
        subst hq
        refine ⟨hR.2, fun s hs => ?_⟩
        obtain ⟨_, _, ls2, k1, k2⟩ := r.q s hs
        obtain ⟨ls3, k3, k4⟩ := hR.1.2.2.2.2 s hs
        rw [k1] at k3
        injection k3 with k3
        subst k3
        exact ⟨ls2, k1, k2, k4⟩
      · rw [if_neg e]
        exact (id_wf S.L).t q ls' hq
  rw [hS]
  have hne : ∀ u s, S.κ u = some s → u ≠ p := fun u s hu e => by rw [e, hp] at hu; cases hu
  refine ⟨fun u s hu => ?_, fun u s ls' hu hls => ?_, fun x hx => h.new x (Int.le_trans hm hx), comp_wf hβ h.wf, fun u s hu => ?_, fun u hu => ?_, comp_bd ?_ (h.bd_more hm) h.wf, fun τ hτ hmod s hs => ?_⟩
  · have hu : upd S.κ p (stc S.m t).1 u = some s := hu
    by_cases e : u = p
    · subst e
      rw [upd_same] at hu
      injection hu with hu
      subst hu
      exact ⟨Int.lt_of_lt_of_le hpm hm, ho', hs', hb'⟩
    · rw [upd_other e] at hu
      obtain ⟨a, b, c, d⟩ := h.dom u s hu
      exact ⟨Int.lt_of_lt_of_le a hm, b, c, bdT_mono hm _ d⟩
  · have hls : S.L u = some ls' := hls
    have hu : upd S.κ p (stc S.m t).1 u = some s := hu
    by_cases e : u = p
    · subst e
      rw [upd_same] at hu
      injection hu with hu
      subst hu
      rw [hl] at hls
      injection hls with hls
      subst hls
      refine ⟨by rw [e1]; exact r.k8, by rw [e1]; exact r.k0, fun l hl2 => r.d l (by rw [← e3]; exact hl2), fun q hq => ?_⟩
      obtain ⟨_, _, ls2, k1, k2⟩ := r.q q (by rw [← e4]; exact hq)
      exact ⟨ls2, k1, k2⟩
    · rw [upd_other e] at hu
      exact h.row u s ls' hu hls
  · have hu : upd S.κ p (stc S.m t).1 u = some s := hu
    show (S.L u = none → inst _ (S.σ.v u) = inst (Va.comp _ S.σ) s) ∧ ∀ ls', S.L u = some ls' → (Va.comp (Va.id.updT p (F, t.tl)) S.σ).t u = ((inst (Va.comp (Va.id.updT p (F, t.tl)) S.σ) s).fs, (inst (Va.comp (Va.id.updT p (F, t.tl)) S.σ) s).tl)
    by_cases e : u = p
    · subst e
      rw [upd_same] at hu
      injection hu with hu
      subst hu
      refine ⟨(fun hlu => by rw [hl] at hlu; cases hlu), (fun ls' hls => ?_)⟩
      rw [← inst_comp, hF, hno]
      show (srtF (mapF _ (S.σ.t u).1 ++ (Va.tail _ (S.σ.t u).2).1), (Va.tail _ (S.σ.t u).2).2) = (F, t.tl)
      rw [(h.unk u hp).2]
      show (srtF ([] ++ (if u = u then (F, t.tl) else _).1), (if u = u then (F, t.tl) else _).2) = (F, t.tl)
      rw [if_pos rfl, List.nil_append, srtF_of_rise hRr.1]
    · rw [upd_other e] at hu
      obtain ⟨g1, g2⟩ := h.model u s hu
      refine ⟨fun hlu => by rw [g1 hlu, inst_comp], fun ls' hls => ?_⟩
      have h8 := (h.row u s ls' hu hls).1
      rw [← inst_comp]
      show (srtF (mapF _ (S.σ.t u).1 ++ _), _) = _
      rw [g2 ls' hls]
      obtain ⟨k, n, fs, tl⟩ := s
      have h8 : k ≠ 8 := h8
      rw [inst_eq S.σ, if_neg h8]
      rw [inst_eq _ k, if_neg h8]
      rfl
  · have hu : upd S.κ p (stc S.m t).1 u = none := hu
    have e : u ≠ p := fun e => by rw [e, upd_same] at hu; cases hu
    rw [upd_other e] at hu
    obtain ⟨g1, g2⟩ := h.unk u hu
    refine ⟨?_, ?_⟩
    · show inst _ (S.σ.v u) = _
      rw [g1, inst_var]
      rfl
    · show (srtF (mapF _ (S.σ.t u).1 ++ (Va.tail _ (S.σ.t u).2).1), (Va.tail _ (S.σ.t u).2).2) = _
      rw [g2]
      show (srtF ([] ++ (if u = p then _ else ([], some u)).1), (if u = p then _ else ([], some u)).2) = _
      rw [if_neg e]
      rfl
  · refine ⟨fun n hn hln => bdT_var hn, fun q ls' hq hls => ?_⟩
    show (∀ x ∈ (if q = p then (F, t.tl) else ([], some q)).1, _) ∧ ∀ s, (if q = p then (F, t.tl) else ([], some q)).2 = some s → _
    by_cases e : q = p
    · rw [if_pos e]
      exact ⟨hRb.2.2, hRb.2.1⟩
    · rw [if_neg e]
      refine ⟨fun x hx => by simp at hx, fun s hs => ?_⟩
      simp only [Option.some.injEq] at hs
      subst hs
      exact hq
  · have hmod0 : Model S.L S.κ τ := model_less hmod fun u s hu => by
      show upd S.κ p (stc S.m t).1 u = some s
      rw [upd_other (hne u s hu)]
      exact hu
    show inst τ (inst (Va.comp _ S.σ) s) = inst τ s
    rw [← inst_comp, inst_comp τ]
    rw [inst_sorts (L := S.L) (τ' := τ) (fun n hn => ?_) (fun q ls' hq => ?_) _ (inst_ok h.wf s hs)]
    · exact h.gen τ hτ hmod0 s hs
    · exact inst_var τ n
    · show (srtF (mapF (inst τ) (if q = p then (F, t.tl) else ([], some q)).1 ++ (τ.tail (if q = p then (F, t.tl) else ([], some q)).2).1), (τ.tail (if q = p then (F, t.tl) else ([], some q)).2).2) = τ.t q
      by_cases e : q = p
      · rw [if_pos e]
        subst e
        have h1 := (hmod q (stc S.m t).1 (upd_same _ _ _)).2 ls' hq
        have h2 := h.gen τ hτ hmod0 _ ho'
        rw [hF, inst_eq, if_neg r.k8] at h2
        rw [h1, ← h2]
        rfl
      · rw [if_neg e]
        show (srtF ([] ++ (τ.t q).1), (τ.t q).2) = τ.t q
        rw [List.nil_append, srtF_of_rise (hτ.t q ls' hq).1]

end

end Go.Proofs.Ytblfeokjlecgkaa
