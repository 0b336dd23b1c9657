/- Laid together by a tool from the texts of this seat: UniB UniC Pure PureA PureP Trees Mem Off Figures PrintR Ask TKids CompactT. Conditions: each theorem's own. -/
import Derived.Test.YtblfeokjlecgkaaT06
import Derived.Test.YtblfeokjlecgkaaT05
import Derived.Test.YtblfeokjlecgkaaT01
import Derived.Test.YtblfeokjlecgkaaT03
import Derived.Lib.ItoaLen
import Derived.Laws.IdiomStrings
import Derived.Lib.SliceRun
import Derived.IntWalk
/- The plain theory of trees that are made to agree: written in parts, put together by asm_uni.sh. -/
namespace Go.Proofs.Ytblfeokjlecgkaa

/-! ### Rows as they are known -/

/-- A row, as it is known: its fields, its tail. -/
structure RowOf (S : Kn) (a : Ut) (k : Int) (x : Fl) (p : Option Int) : Prop where
  nod : (labsF x).Nodup
  el : ∀ q ∈ x, okT S.L q.2 ∧ bdT S.m q.2
  tl : ∀ q, p = some q → q < S.m ∧ S.κ q = none ∧ ∃ ls, S.L q = some ls ∧ ∀ l, l ∈ ls ↔ l ∈ labsF x
  is : ∀ τ, S.Sat τ → inst τ a = .mk k 0 (srtF (mapF (inst τ) x ++ (τ.tail p).1)) (τ.tail p).2

section
variable {S : Kn} {a b : Ut} {k : Int} {x y : Fl} {p q : Option Int}

theorem RowOf.nodup (r : RowOf S a k x p) {τ : Va} (hτ : S.Sat τ) : (labsF (mapF (inst τ) x ++ (τ.tail p).1)).Nodup := by
  rw [labsF_append, labsF_mapF]
  cases p with
  | none => simpa [Va.tail, labsF] using r.nod
  | some q =>
    obtain ⟨_, _, ls, h1, h2⟩ := r.tl q rfl
    obtain ⟨t1, t2, _⟩ := hτ.1.t q ls h1
    exact List.nodup_append.2 ⟨r.nod, t1.nodup, fun l hl l' hl' e => t2 l' hl' (by rw [← e]; exact (h2 l).2 hl)⟩

/-- A row goes on where its tail is known. -/
theorem RowOf.more (h : S.Inv) {q0 : Int} {k' : Int} {gs : Fl} {q' : Option Int} {ls : List Lb} (hk : S.κ q0 = some (.mk k' 0 gs q')) (hl : S.L q0 = some ls) (hx : ∀ l, l ∈ ls ↔ l ∈ labsF x) (nod : (labsF x).Nodup) (el : ∀ q ∈ x, okT S.L q.2 ∧ bdT S.m q.2)
    (is : ∀ τ, S.Sat τ → inst τ a = .mk k 0 (srtF (mapF (inst τ) x ++ (τ.tail (some q0)).1)) (τ.tail (some q0)).2) :
    (labsF (x ++ gs)).Nodup ∧ (∀ q ∈ x ++ gs, okT S.L q.2 ∧ bdT S.m q.2) ∧ ∀ τ, S.Sat τ → inst τ a = .mk k 0 (srtF (mapF (inst τ) (x ++ gs) ++ (τ.tail q').1)) (τ.tail q').2 := by
  obtain ⟨_, o, _, bd⟩ := h.dom q0 _ hk
  obtain ⟨k8, _, hd, _⟩ := h.row q0 _ ls hk hl
  rw [okT_mk] at o
  rw [bdT_mk] at bd
  refine ⟨?_, fun q hq => ?_, fun τ hτ => ?_⟩
  · rw [labsF_append]
    exact List.nodup_append.2 ⟨nod, o.1.1, fun l hl l' hl' e => hd l' hl' (by rw [← e]; exact (hx l).2 hl)⟩
  · rcases List.mem_append.1 hq with hq | hq
    · exact el q hq
    · exact ⟨o.2 q hq, bd.2.2 q hq⟩
  · have h1 := (hτ.2 q0 _ hk).2 ls hl
    have h8 : k' ≠ 8 := k8
    rw [inst_eq, if_neg h8] at h1
    rw [is τ hτ]
    have e : τ.tail (some q0) = (srtF (mapF (inst τ) gs ++ (τ.tail q').1), (τ.tail q').2) := h1
    rw [e]
    simp only
    rw [srtF_right, mapF_append, List.append_assoc]
end

/-! ### What a step does -/

/-- What is known behind a step, just what agrees with a constraint. -/
structure Step (S S' : Kn) (C : Va → Prop) : Prop where
  inv : S'.Inv
  le : S.Le S'
  co : ∀ τ, S'.Sat τ → C τ
  gen : ∀ τ, S.Sat τ → C τ → ∃ τ', S'.Sat τ' ∧ Alike S.m τ τ'

theorem Step.none {S : Kn} {C : Va → Prop} (h : S.Inv) (hc : ∀ τ, S.Sat τ → C τ) : Step S S C := ⟨h, Kn.Le.refl S, hc, fun τ hτ _ => ⟨τ, hτ, Alike.refl _ _⟩⟩

theorem Step.congr {S S' : Kn} {C D : Va → Prop} (h : Step S S' C) (h1 : ∀ τ, S'.Sat τ → C τ → D τ) (h2 : ∀ τ, S.Sat τ → D τ → C τ) : Step S S' D :=
  ⟨h.inv, h.le, fun τ hτ => h1 τ hτ (h.co τ hτ), fun τ hτ hd => h.gen τ hτ (h2 τ hτ hd)⟩

section
variable {S : Kn} {a b : Ut} {k : Int} {x y : Fl} {p q : Option Int}

def hasL (l : Lb) (ls : List Lb) : Bool := ls.any fun x => decide (x = l)

/-- What the first row has and the second one has not. -/
def lackF (x y : Fl) : Fl := x.filter fun c => !hasL c.1 (labsF y)

/-- What both have agrees. -/
def Shared (S : Kn) (x y : Fl) : Prop := ∀ l c d, getF l x = some c → getF l y = some d → ∀ τ, S.Sat τ → Co (inst τ c) (inst τ d)

end

end Go.Proofs.Ytblfeokjlecgkaa
namespace Go.Proofs.Ytblfeokjlecgkaa

section
variable {S : Kn} {a b : Ut} {k : Int} {x y : Fl} {p0 q0 : Int}

theorem Shared.symm (h : Shared S x y) : Shared S y x := fun l c d hc hd τ hτ => (h l d c hd hc τ hτ).symm

/-! ### Two tails -/

/-- The labels of the rows of the new tail. -/
def bothL (x y : Fl) : List Lb := labsF x ++ labsF (lackF y x)

def S1 (S : Kn) (x y : Fl) : Kn := S.freshT (bothL x y)
def t1 (S : Kn) (k : Int) (x y : Fl) : Ut := .mk k 0 (lackF y x) (some S.m)
def S2 (S : Kn) (k : Int) (x y : Fl) (p0 : Int) : Kn := (S1 S x y).bindT p0 (t1 S k x y)
def t2 (S : Kn) (k : Int) (x y : Fl) : Ut := .mk k 0 (lackF x y) (some S.m)

end

end Go.Proofs.Ytblfeokjlecgkaa
namespace Go.Proofs.Ytblfeokjlecgkaa

section
variable {S : Kn} {a b : Ut} {k : Int} {x y : Fl} {p0 q0 : Int}


end

end Go.Proofs.Ytblfeokjlecgkaa

/- The plain theory of trees that are made to agree: written in parts, put together by asm_uni.sh. -/
namespace Go.Proofs.Ytblfeokjlecgkaa

/-! ### Steps, one after another -/

/-- A tree that may be asked about. -/
def Pend (S : Kn) (t : Ut) : Prop := okT S.L t ∧ bdT S.m t

theorem Pend.mono {S S' : Kn} {t : Ut} (h : Pend S t) (l : S.Le S') : Pend S' t := ⟨okT_mono l.L t h.2 h.1, bdT_mono l.m t h.2⟩

/-- Alike, whatever is known. -/
def Eqv (S : Kn) (a b : Ut) : Prop := ∀ τ, S.Sat τ → inst τ a = inst τ b

theorem Eqv.refl (S : Kn) (a : Ut) : Eqv S a a := fun _ _ => rfl
theorem Eqv.symm {S : Kn} {a b : Ut} (h : Eqv S a b) : Eqv S b a := fun τ hτ => (h τ hτ).symm
theorem Eqv.trans {S : Kn} {a b c : Ut} (h : Eqv S a b) (k : Eqv S b c) : Eqv S a c := fun τ hτ => (h τ hτ).trans (k τ hτ)

/-- What agrees, of two trees. -/
def CoI (a b : Ut) (τ : Va) : Prop := Co (inst τ a) (inst τ b)

theorem coI_alike {a b : Ut} {m : Int} {τ τ' : Va} (h : Alike m τ τ') (ha : bdT m a) (hb : bdT m b) : CoI a b τ ↔ CoI a b τ' := by
  unfold CoI
  rw [h.inst a ha, h.inst b hb]

/-- They can't agree. -/
def Dis (S : Kn) (a b : Ut) : Prop := ∀ τ, S.Sat τ → ¬ CoI a b τ

theorem Step.symm {S S' : Kn} {a b : Ut} (h : Step S S' (CoI a b)) : Step S S' (CoI b a) := h.congr (fun _ _ hc => Co.symm hc) fun _ _ hc => Co.symm hc
theorem Dis.symm {S : Kn} {a b : Ut} (h : Dis S a b) : Dis S b a := fun τ hτ hc => h τ hτ (Co.symm hc)

/-- What was done so far loses nothing. -/
structure Loop (S0 S : Kn) (a b : Ut) : Prop where
  inv : S.Inv
  le : S0.Le S
  gen : ∀ τ, S0.Sat τ → CoI a b τ → ∃ τ', S.Sat τ' ∧ Alike S0.m τ τ'

section
variable {S0 S S' : Kn} {a b c d : Ut}

theorem Loop.next (l : Loop S0 S a b) (pa : Pend S0 a) (pb : Pend S0 b) (hcd : ∀ τ, S.Sat τ → CoI a b τ → CoI c d τ) (s : Step S S' (CoI c d)) : Loop S0 S' a b :=
  ⟨s.inv, l.le.trans s.le, fun τ hτ hc => by
    obtain ⟨τ1, h1, a1⟩ := l.gen τ hτ hc
    rw [coI_alike a1 pa.2 pb.2] at hc
    obtain ⟨τ2, h2, a2⟩ := s.gen τ1 h1 (hcd τ1 h1 hc)
    exact ⟨τ2, h2, a1.trans (a2.mono l.le.m)⟩⟩

theorem Loop.fail (l : Loop S0 S a b) (pa : Pend S0 a) (pb : Pend S0 b) (hcd : ∀ τ, S.Sat τ → CoI a b τ → CoI c d τ) (h : Dis S c d) : Dis S0 a b := fun τ hτ hc => by
  obtain ⟨τ1, h1, a1⟩ := l.gen τ hτ hc
  rw [coI_alike a1 pa.2 pb.2] at hc
  exact h τ1 h1 (hcd τ1 h1 hc)

theorem Loop.stop (l : Loop S0 S a b) (pa : Pend S0 a) (pb : Pend S0 b) (s : Step S S' (CoI a b)) : Step S0 S' (CoI a b) :=
  ⟨s.inv, l.le.trans s.le, s.co, fun τ hτ hc => by
    obtain ⟨τ1, h1, a1⟩ := l.gen τ hτ hc
    rw [coI_alike a1 pa.2 pb.2] at hc
    obtain ⟨τ2, h2, a2⟩ := s.gen τ1 h1 hc
    exact ⟨τ2, h2, a1.trans (a2.mono l.le.m)⟩⟩

end

end Go.Proofs.Ytblfeokjlecgkaa
namespace Go.Proofs.Ytblfeokjlecgkaa

/-! ### Full rows; a row's chain -/

/-- Each row has all labels of its tail. -/
def fuT (L : Sorts) : Ut → Prop
  | .mk _ _ fs tl => (∀ q ls, tl = some q → L q = some ls → ∀ l ∈ ls, l ∈ labsF fs) ∧ ∀ p ∈ fs, fuT L p.2
termination_by t => SizeOf.sizeOf t
decreasing_by exact Ut.size_mem (by assumption)

theorem fuT_mk {L : Sorts} {k n : Int} {fs : Fl} {tl : Option Int} : fuT L (.mk k n fs tl) ↔ (∀ q ls, tl = some q → L q = some ls → ∀ l ∈ ls, l ∈ labsF fs) ∧ ∀ p ∈ fs, fuT L p.2 := by rw [fuT]

theorem fuT_mono {L L' : Sorts} {m : Int} (hL : ∀ x, x < m → L' x = L x) : ∀ t, bdT m t → fuT L t → fuT L' t :=
  Ut.ind fun k n fs tl ih hb hf => by
    rw [bdT_mk] at hb
    rw [fuT_mk] at hf ⊢
    exact ⟨fun q ls hq hls => hf.1 q ls hq (by rw [← hL q (hb.2.1 q hq)]; exact hls), fun p hp => ih p hp (hb.2.2 p hp) (hf.2 p hp)⟩

theorem stc_fu {L : Sorts} : ∀ (t : Ut) (m : Int), fuT L t → fuT L (stc m t).1 :=
  Ut.ind fun k n fs tl ih m hf => by
    rw [fuT_mk] at hf
    rw [stc_mk]
    by_cases hk : k = 0
    · rw [if_pos hk, fuT_mk]
      exact ⟨fun q ls hq => (by cases hq), fun p hp => by simp at hp⟩
    · rw [if_neg hk, fuT_mk]
      refine ⟨fun q ls hq hls l hl => by rw [stcF_labs]; exact hf.1 q ls hq hls l hl, ?_⟩
      have key : ∀ (gs : Fl) (m : Int), (∀ p ∈ gs, ∀ m, fuT L (stc m p.2).1) → ∀ p ∈ (stcF m gs).1, fuT L p.2 := by
        intro gs
        induction gs with
        | nil => intro m _ p hp; rw [stcF_nil] at hp; simp at hp
        | cons g gs ih2 =>
          intro m h p hp
          rw [stcF_cons] at hp
          rcases List.mem_cons.1 hp with rfl | hp
          · exact h g (by simp) m
          · exact ih2 _ (fun p hp => h p (by simp [hp])) p hp
      exact key fs m fun p hp m => ih p hp m (hf.2 p hp)

structure Kn.Fu (S : Kn) : Prop where
  v : ∀ v t, S.κ v = some t → S.L v = none → fuT S.L t
  t : ∀ v t ls, S.κ v = some t → S.L v = some ls → (∀ c ∈ t.fs, fuT S.L c.2) ∧ ∀ q ls', t.tl = some q → S.L q = some ls' → ∀ l ∈ ls', l ∈ ls ∨ l ∈ labsF t.fs

theorem stc_fs_fu {L : Sorts} {t : Ut} {m : Int} (hk : t.k ≠ 0) (h : ∀ c ∈ t.fs, fuT L c.2) : ∀ c ∈ (stc m t).1.fs, fuT L c.2 := by
  obtain ⟨k, n, fs, tl⟩ := t
  have hk : k ≠ 0 := hk
  have h1 : fuT L (.mk k n fs none) := by
    rw [fuT_mk]
    exact ⟨fun q ls hq => (by cases hq), h⟩
  have h2 := stc_fu _ m h1
  rw [stc_mk, if_neg hk] at h2
  rw [fuT_mk] at h2
  intro c hc
  rw [stc_mk, if_neg hk] at hc
  exact h2.2 c hc

section
variable {S : Kn}

theorem Kn.Fu.freshT (h : S.Fu) (i : S.Inv) (ls : List Lb) : (S.freshT ls).Fu := by
  have hLlt : ∀ x, x < S.m → (S.freshT ls).L x = S.L x := fun x hx => by
    show (if x = S.m then some ls else S.L x) = S.L x
    rw [if_neg (by omega)]
  refine ⟨fun u s hu hls => ?_, fun u s ls' hu hls => ?_⟩
  · obtain ⟨a, b, c, d⟩ := i.dom u s hu
    rw [hLlt u a] at hls
    exact fuT_mono hLlt s d (h.v u s hu hls)
  · obtain ⟨a, b, c, d⟩ := i.dom u s hu
    rw [hLlt u a] at hls
    obtain ⟨g1, g2⟩ := h.t u s ls' hu hls
    obtain ⟨k, n, fs, tl⟩ := s
    rw [bdT_mk] at d
    refine ⟨fun c hc => fuT_mono hLlt _ (d.2.2 c hc) (g1 c hc), fun q ls2 hq hls2 => ?_⟩
    rw [hLlt q (d.2.1 q hq)] at hls2
    exact g2 q ls2 hq hls2

theorem Kn.Fu.bindT (h : S.Fu) {p : Int} {ls : List Lb} {t : Ut} (hl : S.L p = some ls) (hk : t.k ≠ 0) (hc : ∀ c ∈ t.fs, fuT S.L c.2) (hq : ∀ q ls', t.tl = some q → S.L q = some ls' → ∀ l ∈ ls', l ∈ ls ∨ l ∈ labsF t.fs) : (S.bindT p t).Fu := by
  obtain ⟨e1, e2, e3, e4⟩ := stc_root (m := S.m) hk
  refine ⟨fun u s hu hls => ?_, fun u s ls2 hu hls => ?_⟩
  · have hu : upd S.κ p (stc S.m t).1 u = some s := hu
    have hls : S.L u = none := hls
    have e : u ≠ p := fun e => by rw [e, hl] at hls; cases hls
    rw [upd_other e] at hu
    exact h.v u s hu hls
  · have hu : upd S.κ p (stc S.m t).1 u = some s := hu
    by_cases e : u = p
    · subst e
      rw [upd_same] at hu
      injection hu with hu
      subst hu
      have hls : S.L u = some ls2 := hls
      rw [hl] at hls
      injection hls with hls
      subst hls
      refine ⟨stc_fs_fu hk hc, fun q ls' hq' hls' l hl' => ?_⟩
      rw [e4] at hq'
      rw [e3]
      exact hq q ls' hq' hls' l hl'
    · rw [upd_other e] at hu
      exact h.t u s ls2 hu hls

/-- A row's fields, along its known tails. -/
inductive Chain (S : Kn) (k : Int) (fs : Fl) (tl : Option Int) : Fl → Option Int → Prop
  | here : Chain S k fs tl fs tl
  | more {x : Fl} {q : Int} {k' : Int} {gs : Fl} {q' : Option Int} (h : Chain S k fs tl x (some q)) (hk : S.κ q = some (.mk k' 0 gs q')) : Chain S k fs tl (x ++ gs) q'

theorem Chain.later {S S' : Kn} (hκ : ∀ v t, S.κ v = some t → S'.κ v = some t) {k : Int} {fs : Fl} {tl : Option Int} {x : Fl} {p : Option Int} (h : Chain S k fs tl x p) : Chain S' k fs tl x p := by
  induction h with
  | here => exact .here
  | more _ hk ih => exact .more ih (hκ _ _ hk)

/-- What a chain comes to. -/
theorem Chain.row (h : S.Inv) (f : S.Fu) {k : Int} {fs : Fl} {tl : Option Int} (h8 : k ≠ 8) (pa : Pend S (.mk k 0 fs tl)) (fa : fuT S.L (.mk k 0 fs tl)) {x : Fl} {p : Option Int} (c : Chain S k fs tl x p) :
    (labsF x).Nodup ∧ (∀ q ∈ x, okT S.L q.2 ∧ bdT S.m q.2 ∧ fuT S.L q.2) ∧ (∀ q, p = some q → q < S.m ∧ ∃ ls, S.L q = some ls ∧ ∀ l, l ∈ ls ↔ l ∈ labsF x) ∧
      ∀ τ, S.Sat τ → inst τ (.mk k 0 fs tl) = .mk k 0 (srtF (mapF (inst τ) x ++ (τ.tail p).1)) (τ.tail p).2 := by
  obtain ⟨o, bd⟩ := pa
  rw [okT_mk] at o
  rw [bdT_mk] at bd
  rw [fuT_mk] at fa
  induction c with
  | here =>
    refine ⟨o.1.1, fun q hq => ⟨o.2 q hq, bd.2.2 q hq, fa.2 q hq⟩, fun q hq => ?_, fun τ _ => by rw [inst_eq, if_neg h8]⟩
    obtain ⟨ls, h1, h2⟩ := o.1.2.2.2.2 q hq
    exact ⟨bd.2.1 q hq, ls, h1, fun l => ⟨fa.1 q ls hq h1 l, h2 l⟩⟩
  | @more x r k' gs q' c hk ih =>
    obtain ⟨i1, i2, i3, i4⟩ := ih
    obtain ⟨_, ls, h1, h2⟩ := i3 r rfl
    obtain ⟨m1, m2, m3⟩ := RowOf.more h hk h1 h2 i1 (fun q hq => ⟨(i2 q hq).1, (i2 q hq).2.1⟩) i4
    obtain ⟨f1, f2⟩ := f.t r _ ls hk h1
    obtain ⟨_, o2, _, b2⟩ := h.dom r _ hk
    obtain ⟨_, _, _, r4⟩ := h.row r _ ls hk h1
    rw [okT_mk] at o2
    rw [bdT_mk] at b2
    refine ⟨m1, fun q hq => ⟨(m2 q hq).1, (m2 q hq).2, ?_⟩, fun q hq => ?_, m3⟩
    · rcases List.mem_append.1 hq with hq | hq
      · exact (i2 q hq).2.2
      · exact f1 q hq
    · obtain ⟨ls', k1, k2⟩ := r4 q hq
      obtain ⟨ls2, k3, k4⟩ := o2.1.2.2.2.2 q hq
      rw [k1] at k3
      injection k3 with k3
      subst k3
      refine ⟨b2.2.1 q hq, ls', k1, fun l => ?_⟩
      rw [labsF_append, List.mem_append]
      constructor
      · intro hl
        rcases f2 q ls' hq k1 l hl with g | g
        · exact .inl ((h2 l).1 g)
        · exact .inr g
      · rintro (g | g)
        · exact k2 l ((h2 l).2 g)
        · exact k4 l g

end

end Go.Proofs.Ytblfeokjlecgkaa
namespace Go.Proofs.Ytblfeokjlecgkaa

/-! ### How much is left -/

mutual
def dynT : Ut → Nat
  | .mk k _ fs _ => (if k = 0 then 1 else 0) + dynF fs
termination_by t => SizeOf.sizeOf t
def dynF : Fl → Nat
  | [] => 0
  | p :: fs => dynT p.2 + dynF fs
termination_by fs => SizeOf.sizeOf fs
decreasing_by all_goals first | (simp; omega) | (obtain ⟨a, b⟩ := p; simp; omega)
end

theorem dynT_mk (k n : Int) (fs : Fl) (tl : Option Int) : dynT (.mk k n fs tl) = (if k = 0 then 1 else 0) + dynF fs := by rw [dynT.eq_def]
theorem dynF_nil : dynF [] = 0 := by rw [dynF.eq_def]
theorem dynF_cons (p : Lb × Ut) (fs : Fl) : dynF (p :: fs) = dynT p.2 + dynF fs := by rw [dynF.eq_def]
theorem stcF_next {L : Sorts} : ∀ {fs : Fl} (_ : ∀ p ∈ fs, ∀ m, (okT L p.2) → (stc m p.2).2 = m + (dynT p.2 : Nat)) (m : Int), (∀ p ∈ fs, okT L p.2) → (stcF m fs).2 = m + (dynF fs : Nat)
  | [], _, m, _ => by rw [stcF_nil, dynF_nil]; simp
  | p :: fs, h, m, ho => by
    rw [stcF_cons, dynF_cons]
    simp only
    rw [stcF_next (fs := fs) (fun q hq => h q (by simp [hq])) _ fun q hq => ho q (by simp [hq]), h p (by simp) m (ho p (by simp))]
    omega

/-- So many fresh numbers as there are ?s. -/
theorem stc_next {L : Sorts} : ∀ (t : Ut) (m : Int), okT L t → (stc m t).2 = m + (dynT t : Nat) :=
  Ut.ind fun k n fs tl ih m ho => by
    rw [okT_mk] at ho
    rw [stc_mk, dynT_mk]
    by_cases hk : k = 0
    · rw [if_pos hk, if_pos hk, (ho.1.2.1 (.inl hk)).1, dynF_nil]
      rfl
    · rw [if_neg hk, if_neg hk]
      simp only [Nat.zero_add]
      exact stcF_next (L := L) (fun p hp m ho => ih p hp m ho) m ho.2

/-- No number is below zero. -/
def nnT : Ut → Prop
  | .mk k n fs tl => (k = 8 ∨ k = 0 → 0 ≤ n) ∧ (∀ p, tl = some p → 0 ≤ p) ∧ ∀ p ∈ fs, nnT p.2
termination_by t => SizeOf.sizeOf t
decreasing_by exact Ut.size_mem (by assumption)

theorem nnT_mk {k n : Int} {fs : Fl} {tl : Option Int} : nnT (.mk k n fs tl) ↔ (k = 8 ∨ k = 0 → 0 ≤ n) ∧ (∀ p, tl = some p → 0 ≤ p) ∧ ∀ p ∈ fs, nnT p.2 := by rw [nnT]

theorem stc_nn {L : Sorts} : ∀ (t : Ut) (m : Int), 0 ≤ m → okT L t → nnT t → nnT (stc m t).1 :=
  Ut.ind fun k n fs tl ih m hm ho h => by
    rw [okT_mk] at ho
    rw [nnT_mk] at h
    rw [stc_mk]
    by_cases hk : k = 0
    · rw [if_pos hk, nnT_mk]
      exact ⟨fun _ => hm, (fun p hp => by cases hp), (fun p hp => by simp at hp)⟩
    · rw [if_neg hk, nnT_mk]
      refine ⟨h.1, h.2.1, ?_⟩
      have key : ∀ (gs : Fl) (m : Int), 0 ≤ m → (∀ p ∈ gs, okT L p.2 ∧ ∀ m, 0 ≤ m → nnT (stc m p.2).1) → ∀ p ∈ (stcF m gs).1, nnT p.2 := by
        intro gs
        induction gs with
        | nil => intro m _ _ p hp; rw [stcF_nil] at hp; simp at hp
        | cons g gs ih2 =>
          intro m hm h p hp
          rw [stcF_cons] at hp
          rcases List.mem_cons.1 hp with rfl | hp
          · exact (h g (by simp)).2 m hm
          · refine ih2 _ ?_ (fun p hp => h p (by simp [hp])) p hp
            rw [stc_next g.2 m (h g (by simp)).1]
            omega
      exact key fs m hm fun p hp => ⟨ho.2 p hp, fun m hm => ih p hp m hm (ho.2 p hp) (h.2.2 p hp)⟩

structure Kn.Nn (S : Kn) : Prop where
  m : 0 ≤ S.m
  d : ∀ v t, S.κ v = some t → 0 ≤ v ∧ nnT t

section
variable {S : Kn}

theorem Kn.Nn.upd (hn : S.Nn) {v : Int} {t : Ut} (h0 : 0 ≤ v) (ho : okT S.L t) (ht : nnT t) {S' : Kn} (hκ : S'.κ = Proofs.Ytblfeokjlecgkaa.upd S.κ v (stc S.m t).1) (hm : S'.m = (stc S.m t).2) : S'.Nn := by
  have := hn.m
  refine ⟨by rw [hm, stc_next t S.m ho]; omega, fun u s hu => ?_⟩
  rw [hκ] at hu
  by_cases e : u = v
  · subst e
    rw [upd_same] at hu
    injection hu with hu
    subst hu
    exact ⟨h0, stc_nn t S.m hn.m ho ht⟩
  · rw [upd_other e] at hu
    exact hn.d u s hu

theorem Kn.Nn.bindT (hn : S.Nn) {v : Int} {t : Ut} (h0 : 0 ≤ v) (ho : okT S.L t) (ht : nnT t) : (S.bindT v t).Nn := hn.upd h0 ho ht rfl rfl
theorem Kn.Nn.freshT (hn : S.Nn) (ls : List Lb) : (S.freshT ls).Nn := ⟨by show 0 ≤ S.m + 1; have := hn.m; omega, hn.d⟩
end

end Go.Proofs.Ytblfeokjlecgkaa

/- Types and functions' types (no program in sight). -/
namespace Go.Proofs.Ytblfeokjlecgkaa

/-- What is known of a type's nodes. -/
structure IsT (T : List Nd) : Prop where
  tree : treeP T 100 0 = some T.length
  len : T.length ≤ 10000
  root : ∃ x ys, T = x :: ys ∧ x.s = ByteArray.empty ∧ x.k ≠ 9
  fo : Fo 1 T
  ok : okAll T
  right : rightB T = true

theorem IsT.ne {T : List Nd} (h : IsT T) : T ≠ [] := by
  obtain ⟨x, ys, rfl, _⟩ := h.root
  simp

section
variable {a b : List Nd}

end

end Go.Proofs.Ytblfeokjlecgkaa

/- What is printed tells the type: the plain law of TyPrints. -/
namespace Go.Proofs.Ytblfeokjlecgkaa

/-- Plain trees, so many, that stand in a node of kind p; at most so deep. -/
inductive PF : Nat → Int → Nat → List Nd → Prop
  | nil (f : Nat) (p : Int) : PF f p 0 []
  | cons {f : Nat} {p : Int} {n : Nat} {x : Nd} {ks rs : List Nd} (h1 : PF f x.k (manyN x) ks) (h2 : PF (f + 1) p n rs) (h3 : okNode x.k x.n = true) (h4 : x.k ≤ 7) (h5 : labelB p x.s = true) : PF (f + 1) p (n + 1) (x :: (ks ++ rs))

theorem PF.fo {f : Nat} {p : Int} {n : Nat} {ks : List Nd} (h : PF f p n ks) : Fo n ks := by
  induction h with
  | nil => exact Fo.zero
  | cons _ _ _ _ _ ih1 ih2 => exact ih1.cons ih2

theorem PF.none {f : Nat} {p : Int} {n : Nat} {ks : List Nd} (h : PF f p n ks) (hn : n = 0) : ks = [] := by
  cases h with
  | nil => rfl
  | cons => cases hn

end Go.Proofs.Ytblfeokjlecgkaa

/- So many trees, each by itself. -/
namespace Go.Proofs.Ytblfeokjlecgkaa

/-- A row of nodes is so many trees. -/
structure Trees (n : Nat) (ks : List Nd) (tss : List (List Nd)) : Prop where
  len : tss.length = n
  flat : tss.flatten = ks
  one : ∀ ts ∈ tss, Fo 1 ts

/-- The first so many trees. -/
def splitF : Nat → List Nd → List (List Nd)
  | 0, _ => []
  | n + 1, xs => xs.take (xs.length - (rest1 xs).length) :: splitF n (rest1 xs)

theorem Trees.fo {n : Nat} {ks : List Nd} {tss : List (List Nd)} (h : Trees n ks tss) : Fo n ks := by
  obtain ⟨h1, h2, h3⟩ := h
  subst h1 h2
  induction tss with
  | nil => exact Fo.zero
  | cons t tss ih =>
    rw [List.flatten_cons, List.length_cons, Nat.add_comm]
    exact (h3 t (by simp)).append (ih fun ts hts => h3 ts (by simp [hts]))

theorem Trees.ne {n : Nat} {ks : List Nd} {tss : List (List Nd)} (h : Trees n ks tss) {ts : List Nd} (ht : ts ∈ tss) : ts ≠ [] := by
  intro e
  have := (h.one ts ht).pos
  rw [e] at this
  simp at this

/-- The trees of a row of nodes are told by it. -/
theorem Trees.uniq {n : Nat} {ks : List Nd} {tss : List (List Nd)} (h : Trees n ks tss) : tss = splitF n ks := by
  obtain ⟨h1, h2, h3⟩ := h
  subst h1 h2
  induction tss with
  | nil => rfl
  | cons t tss ih =>
    rw [List.flatten_cons, List.length_cons]
    simp only [splitF]
    rw [rest1_fo (h3 t (by simp)), List.length_append, Nat.add_sub_cancel, List.take_left, ← ih fun ts hts => h3 ts (by simp [hts])]

end Go.Proofs.Ytblfeokjlecgkaa

/- What stands while a law is walked: one fact, carried over each call. -/
namespace Go.Proofs.Ytblfeokjlecgkaa
open Go.RowKit

/-- What stands wherever all that was there stands. -/
def Keep (P : World → Prop) : Prop := ∀ w w' : World, P w → Below w.heap.size w w' → P w'

theorem Keep.and {P Q : World → Prop} (h : Keep P) (k : Keep Q) : Keep fun w => P w ∧ Q w := fun w w' hp hb => ⟨h w w' hp.1 hb, k w w' hp.2 hb⟩
/-- The call began in w0; what stands now. -/
structure Mem (w0 : World) (P : World → Prop) (w : World) : Prop where
  ext : Below w0.heap.size w0 w
  p : P w
  keep : Keep P

theorem Mem.step {w0 w w' : World} {P : World → Prop} (h : Mem w0 P w) (hb : Below w.heap.size w w') : Mem w0 P w' := ⟨ext_trans h.ext hb, h.keep _ _ h.p hb, h.keep⟩
theorem Mem.drewN {w0 w : World} {P : World → Prop} (h : Mem w0 P w) (n : Nat) : Mem w0 P (w.drewN n) := h.step (ext_drewN (Below.refl _ _) n)
theorem Mem.add {w0 w : World} {P Q : World → Prop} (h : Mem w0 P w) (q : Q w) (k : Keep Q) : Mem w0 (fun v => P v ∧ Q v) w := ⟨h.ext, ⟨h.p, q⟩, h.keep.and k⟩
theorem Mem.drop {w0 w : World} {P Q : World → Prop} (h : Mem w0 P w) (f : ∀ v, P v → Q v) (k : Keep Q) : Mem w0 Q w := ⟨h.ext, f _ h.p, k⟩

end Go.Proofs.Ytblfeokjlecgkaa

/- Rows in blocks of their own: what a write into one leaves of another. -/
namespace Go.Proofs.Ytblfeokjlecgkaa
open Go.RowKit

/-- Two addresses lie in two blocks. -/
def Off (A B : Option Addr) : Prop := ∀ a b, A = some a → B = some b → a.block ≠ b.block

theorem Off.symm {A B : Option Addr} (h : Off A B) : Off B A := fun a b ha hb e => h b a hb ha e.symm

theorem ReadL.grown {α : Type} {size : Nat} {enc : α → List Value} {w w' : World} {B : Nat} {A X : Option Addr} {l : List α} {n c : Nat} (h : ReadL size enc w B X l) (hB : B ≤ w.heap.size) (hg : w.grownBy w' ((Value.slice A n c).ownBlock)) (ho : Off A X) : ReadL size enc w' B X l := fun hne => by
  obtain ⟨b, o, rfl, hb, hc⟩ := h hne
  refine ⟨b, o, rfl, hb, fun i x hx j u hu => ?_⟩
  have hblk := hg.block b (by omega) (fun e => by
    obtain ⟨a, ha, hab⟩ := ownBlock_of e.symm
    exact ho a _ ha rfl (by rw [hab]))
  rw [World.cell?_of_block (a := ⟨b, o + i * size + j, none⟩) hblk]
  exact hc i x hx j u hu

theorem TyA.grown {w w' : World} {B : Nat} {A X : Option Addr} {xs : List Nd} {n c : Nat} (h : TyA w B X xs) (hB : B ≤ w.heap.size) (hg : w.grownBy w' ((Value.slice A n c).ownBlock)) (ho : Off A X) : TyA w' B X xs :=
  ReadL.tyA (ReadL.grown h.readL hB hg ho)

theorem Off.app {A A' X : Option Addr} {n c n' c' N : Nat} (h : Off A X) (hA : (Value.slice A' n' c').ownBlock = (Value.slice A n c).ownBlock ∨ (Value.slice A' n' c').ownBlock = some N) (hX : ∀ x, X = some x → x.block < N) : Off A' X := fun a x ha hx e => by
  subst ha hx
  rcases hA with hA | hA
  · obtain ⟨b, hb, hbe⟩ := ownBlock_of (hA.symm.trans (show (Value.slice (some a) n' c').ownBlock = some a.block from rfl))
    exact h b x hb rfl (by rw [hbe, e])
  · have : a.block = N := by simpa [Value.ownBlock] using hA
    have := hX x rfl
    omega

theorem OwnL.lt {α : Type} {e size base : Nat} {enc : α → List Value} {w : World} {A : Option Addr} {cap : Nat} {l : List α} (h : OwnL e size enc w base A cap l) : ∀ a, A = some a → base ≤ a.block ∧ a.block < w.heap.size := fun a ha => by
  subst ha
  exact OwnL.block h a.block rfl

end Go.Proofs.Ytblfeokjlecgkaa

/- The document's numerals. -/
namespace Go.Proofs.Ytblfeokjlecgkaa
open Go.RowKit

/-- A text of one byte, made of a new row. -/
theorem run_one (w : World) (z : Int) (c : UInt8) (hz : z = c.toNat) :
    (convert 217 9 (.slice (some ⟨w.heap.size, 0, none⟩) 1 1)).run Try.prog (w.alloc (.cells #[.int .u8 z] 5)) = .ok (.string ⟨#[c]⟩) (w.alloc (.cells #[.int .u8 z] 5)) := by
  have h := run_convert_bytes_back (P := Try.prog) (w.alloc (.cells #[.int .u8 z] 5)) 217 9 5 ⟨w.heap.size, 0, none⟩ 1 [c] Try.underlying217 Try.underlying5 Try.underlying9 (by
    intro j hj
    have hj0 : j = 0 := by simpa using hj
    subst hj0
    rw [hz]
    exact World.cell?_alloc_new _ _ _ _)
  exact h

theorem dec_small {m : Nat} (h : ¬ 9 < m) : Lib.decDigits m = [UInt8.ofNat (48 + m)] := by
  rw [Lib.decDigits, dif_pos (by omega)]
theorem dec_big {m : Nat} (h : 9 < m) : Lib.decDigits m = Lib.decDigits (m / 10) ++ [UInt8.ofNat (48 + m % 10)] := by
  rw [Lib.decDigits, dif_neg (by omega)]

theorem byte_num {d : Nat} (h : d ≤ 9) : ((UInt8.ofNat (48 + d)).toNat : Int) = 48 + (d : Int) := by
  rw [UInt8.toNat_ofNat_of_lt' (by show 48 + d < 256; omega)]
  omega

theorem dec_len {n m : Nat} {t : ByteArray} (hn : n ≤ 9223372036854775807) (h : Lib.decDigits m ++ t.data.toList = Lib.decDigits n) : t.size ≤ 20 := by
  have h1 := congrArg List.length h
  rw [List.length_append, Lib.decDigits_length, Lib.decDigits_length] at h1
  have h2 := Lib.nDigits_le20 n (by omega)
  have h3 : t.data.toList.length = t.size := rfl
  omega

set_option maxRecDepth 100000 in
set_option maxHeartbeats 1000000 in
theorem figures_any (n : Nat) (hn : n ≤ 9223372036854775807) (w : World) :
    Calls Try.prog 185 #[.int .i64 (n : Int)] w fun e w' => e = .returned (.string ⟨(Lib.decDigits n).toArray⟩) ∧ Below w.heap.size w w' := by
  go_enter Try.func185, Try.ntmps185
  go_wp2_with fail
  go_loopw [0, 3] (fun a0 s3 wr => ∃ (m : Nat) (t : ByteArray), a0 = .int .i64 m ∧ s3 = .string t ∧ m ≤ n ∧ Below w.heap.size w wr ∧ Hid (Lib.decDigits m ++ t.data.toList = Lib.decDigits n))
    (fun a0 _ _ => (intOf a0).toNat)
  case atStart => exact ⟨n, _, rfl, rfl, Nat.le_refl _, Below.refl _ _, Lib.hid (by simp)⟩
  case round =>
    obtain ⟨m, t, rfl, rfl, hm, hbel, hgood⟩ := hrel
    have hmod0 : (0 : Int) ≤ (m : Int) % 10 := by omega
    have hmod1 : (m : Int) % 10 ≤ 9 := by omega
    have hts := dec_len hn hgood.out
    by_cases h9 : 9 < m
    · have h9i : (9 : Int) < (m : Int) := by omega
      have hgood2 := dec_big h9
      have hz := byte_num (show m % 10 ≤ 9 by omega)
      generalize UInt8.ofNat (48 + m % 10) = c at *
      have Hgood2 := Lib.hid hgood2
      have hconv := run_one wr (48 + (m : Int) % 10) c (by rw [hz]; simp)
      clear hgood2 hz
      go_wp2_with fail
      go_roundw
      case rel => exact ⟨m / 10, ⟨#[c]⟩ ++ t, by go_num, rfl, by omega, ext_alloc hbel _, Lib.hid (by rw [← hgood.out, Hgood2.out, ByteArray.data_append]; simp)⟩
      case measure => simp [intOf]; omega
    · have h9i : ¬ (9 : Int) < (m : Int) := by omega
      have hgood2 := dec_small h9
      have hz := byte_num (show m ≤ 9 by omega)
      generalize UInt8.ofNat (48 + m) = c at *
      have Hgood2 := Lib.hid hgood2
      have hconv := run_one wr (48 + (m : Int)) c (by rw [hz])
      clear hgood2 hz
      go_wp2_with fail
      go_ret
      exact ⟨ret_str (by rw [← hgood.out, Hgood2.out]; apply ByteArray.ext; simp [ByteArray.data_append]), ext_alloc hbel _⟩
end Go.Proofs.Ytblfeokjlecgkaa

/- The document's printed: words, arrows, rows, any node. -/
namespace Go.Proofs.Ytblfeokjlecgkaa
open Go.RowKit

theorem txt_eq {s : ByteArray} {l : List UInt8} (h : s.data.toList = l) : s = ⟨l.toArray⟩ := by
  obtain ⟨⟨x⟩⟩ := s
  simp only at h
  rw [h]

theorem itoa_nat (n : Nat) : Lib.itoa (n : Int) = Lib.decDigits n := by
  unfold Lib.itoa
  rw [if_neg (by omega)]
  rfl

/-- A node without children, as a text. -/
theorem rWord_any (x : Nd) (hok : okNode x.k x.n = true) (hn : x.n ≤ 9223372036854775807) (h5 : x.k ≠ 5) (hr : isRowB x.k = false) (w : World) :
    Calls Try.prog 148 #[.agg #[.int .i64 x.k, .string x.s, .int .i64 x.n]] w fun e w' => e = .returned (.string ⟨(wordT x).toArray⟩) ∧ Below w.heap.size w w' := by
  obtain ⟨k, s, n⟩ := x
  simp only at hok hn h5 hr ⊢
  have hk9 : 0 ≤ k ∧ k ≤ 9 := by
    unfold okNode at hok
    split at hok
    · omega
    split at hok
    · omega
    split at hok
    · omega
    · simp at hok; omega
  have h6 : k ≠ 6 := by rintro rfl; cases hr
  have h7 : k ≠ 7 := by rintro rfl; cases hr
  clear hr
  have hk : (k = 8 ∨ k = 9) ∨ k = 0 ∨ k = 1 ∨ k = 2 ∨ k = 3 ∨ k = 4 := by omega
  clear h5 h6 h7 hk9
  rcases hk with hk | hk
  · have hn0 : 0 ≤ n := by
      rcases hk with rfl | rfl <;> simpa [okNode] using hok
    obtain ⟨m, rfl⟩ := Int.eq_ofNat_of_zero_le hn0
    clear hok hn0
    have hlen := Lib.nDigits_le20 m (by omega)
    rw [← Lib.decDigits_length] at hlen
    obtain ⟨t, ht⟩ : ∃ t : ByteArray, t = ⟨(Lib.decDigits m).toArray⟩ := ⟨_, rfl⟩
    have hts : t.size ≤ 20 := by rw [ht]; simpa [ByteArray.size] using hlen
    have Ht := Lib.hid ht
    clear ht hlen
    rcases hk with rfl | rfl
    · go_enter Try.func148, Try.ntmps148
      go_wp2_with fail
      refine (figures_any m (by omega) _).mono ?_
      rintro e w1 ⟨rfl, hb⟩
      rw [← Ht.out]
      have hbel := (ext_alloc (Below.refl w.heap.size w) (.cells #[.int .i64 8, .string s, .int .i64 m] 48)).trans (hb.mono (by simp))
      clear hb
      go_wp2_with fail
      go_ret
      exact ⟨ret_str (by rw [Ht.out]; simp only [wordT]; rw [itoa_nat]; apply ByteArray.ext; simp [ByteArray.data_append]), hbel⟩
    · go_enter Try.func148, Try.ntmps148
      go_wp2_with fail
      refine (figures_any m (by omega) _).mono ?_
      rintro e w1 ⟨rfl, hb⟩
      rw [← Ht.out]
      have hbel := (ext_alloc (Below.refl w.heap.size w) (.cells #[.int .i64 9, .string s, .int .i64 m] 48)).trans (hb.mono (by simp))
      clear hb
      go_wp2_with fail
      go_ret
      exact ⟨ret_str (by rw [Ht.out]; simp only [wordT]; rw [itoa_nat]; apply ByteArray.ext; simp [ByteArray.data_append]), hbel⟩
  · clear hok hn
    rcases hk with rfl | rfl | rfl | rfl | rfl
    all_goals
      go_enter Try.func148, Try.ntmps148
      go_wp2_with fail
      go_ret
      exact ⟨rfl, ext_alloc (Below.refl _ _) _⟩

def RNode (f : Nat) : Prop := ∀ (i j c : Nat) (A : Option Addr) (T : List Nd) (w : World), treeP T f i = some j → TyA w w.heap.size A T → T.length ≤ 1000000 → okAll T →
  (∀ x ∈ T, x.Ok) → (prS f (T.drop i)).length ≤ 1000000000 →
  Calls Try.prog 115 #[.slice A T.length c, .int .i64 (i : Int)] w fun e w' => e = .returned (.string ⟨(prS f (T.drop i)).toArray⟩) ∧ Below w.heap.size w w'

/-- A tree's end, as the document's End tells it. -/
theorem tree_end {T : List Nd} {f i j : Nat} (h : treeP T f i = some j) : i < T.length ∧ endGo (T.drop i) 1 i = j := by
  obtain ⟨ts, rest, ht⟩ := treeP_sound _ _ _ h
  exact ⟨drop_lt ht.at_ ht.fo.pos, by rw [endGo_one ht.at_ ht.ok ht.fo, ht.ej]⟩

theorem kidsR_node {T : List Nd} {i : Nat} {x : Nd} (hx : T[i]? = some x) : kidsR T (i : Int) = kidsGo T (manyN x) (i + 1) := by
  unfold kidsR manyN
  rw [if_neg (by omega)]
  simp [hx]

set_option maxRecDepth 100000 in
set_option maxHeartbeats 1000000 in
theorem printed_word (i c : Nat) (A : Option Addr) (T : List Nd) (w : World) (x : Nd) (hx : T[i]? = some x) (h5 : x.k ≠ 5) (hr : isRowB x.k = false) (ha : TyA w w.heap.size A T) (hl : T.length ≤ 1000000) (hok : okAll T) (hOk : ∀ x ∈ T, x.Ok) :
    Calls Try.prog 115 #[.slice A T.length c, .int .i64 (i : Int)] w fun e w' => e = .returned (.string ⟨(wordT x).toArray⟩) ∧ Below w.heap.size w w' := by
  have hi := getq_lt hx
  have Hx := Lib.hid hx
  have Hok := Lib.hid hok
  have Hxo := Lib.hid (hok x (mem_of_getq hx))
  have hxn := (hOk x (mem_of_getq hx)).n1
  have h5b : (x.k == 5) = false := by simpa using h5
  have h6b : (x.k != 6) = true := by
    simp only [isRowB, Bool.or_eq_false_iff] at hr
    simpa using hr.1
  have h7b : (x.k != 7) = true := by
    simp only [isRowB, Bool.or_eq_false_iff] at hr
    simpa using hr.2
  have H5 := Lib.hid h5
  have Hr := Lib.hid hr
  have hi0 : ¬ (i : Int) < 0 := by omega
  have hi1 : ¬ (T.length : Int) ≤ (i : Int) := by omega
  clear hx hok hOk h5 hr
  go_enter Try.func115, Try.ntmps115
  go_wp2_with fail
  refine (rKids_any A c T i w ha hl Hok.out).mono ?_
  rintro e w1 ⟨A', cap', rfl, _, hb1⟩
  obtain ⟨b1, o1, rfl, hlt, c10, c11, c12⟩ := ((ha.below hb1).more hb1.size).at_ Hx.out
  generalize (asI (kidsR T i)).length = L
  go_wp2_with fail
  refine (rWord_any x Hxo.out hxn H5.out Hr.out _).mono ?_
  rintro e w2 ⟨rfl, hb2⟩
  go_wp2_with fail
  go_ret
  exact ⟨rfl, ext_trans hb1 hb2⟩

set_option maxRecDepth 100000 in
set_option maxHeartbeats 4000000 in
theorem printed_arrow (f : Nat) (hN : RNode f) (i j1 j c : Nat) (A : Option Addr) (T : List Nd) (w : World) (x : Nd) (hx : T[i]? = some x) (h5 : x.k = 5) (h1 : treeP T f (i + 1) = some j1) (h2 : treeP T f j1 = some j) (ha : TyA w w.heap.size A T) (hl : T.length ≤ 1000000) (hok : okAll T) (hOk : ∀ x ∈ T, x.Ok)
    (hlen : ((if (headNd (T.drop (i + 1))).k = 5 then 40 :: (prS f (T.drop (i + 1)) ++ [41]) else prS f (T.drop (i + 1))) ++ ([32, 45, 62, 32] ++ prS f (T.drop j1))).length ≤ 1000000000) :
    Calls Try.prog 115 #[.slice A T.length c, .int .i64 (i : Int)] w fun e w' => e = .returned (.string ⟨((if (headNd (T.drop (i + 1))).k = 5 then 40 :: (prS f (T.drop (i + 1)) ++ [41]) else prS f (T.drop (i + 1))) ++ ([32, 45, 62, 32] ++ prS f (T.drop j1))).toArray⟩) ∧ Below w.heap.size w w' := by
  generalize htxt : ((if (headNd (T.drop (i + 1))).k = 5 then 40 :: (prS f (T.drop (i + 1)) ++ [41]) else prS f (T.drop (i + 1))) ++ ([32, 45, 62, 32] ++ prS f (T.drop j1))) = txt at *
  have HN := Lib.hid hN
  have hi := getq_lt hx
  have Hx := Lib.hid hx
  have Hok := Lib.hid hok
  have HOk := Lib.hid hOk
  have H1 := Lib.hid h1
  have H2 := Lib.hid h2
  obtain ⟨k, s, n⟩ := x
  simp only at h5
  subst h5
  obtain ⟨y, hy⟩ := treeP_get h1
  rw [headNd_drop hy] at htxt
  have Htxt := Lib.hid htxt
  have Hy := Lib.hid hy
  obtain ⟨hi1, he1⟩ := tree_end h1
  obtain ⟨hj1, _⟩ := tree_end h2
  have hkk : asI (kidsR T (i : Int)) = [((i + 1 : Nat) : Int), ((j1 : Nat) : Int)] := by
    rw [kidsR_node hx, show manyN (⟨5, s, n⟩ : Nd) = 2 from rfl, kidsGo_step hi1, he1, kidsGo_step hj1]
    rfl
  have Hkk := Lib.hid hkk
  have hi0 : ¬ (i : Int) < 0 := by omega
  have hi1' : ¬ (T.length : Int) ≤ (i : Int) := by omega
  obtain ⟨sa, hsa⟩ : ∃ s : ByteArray, s = ⟨(prS f (T.drop (i + 1))).toArray⟩ := ⟨_, rfl⟩
  obtain ⟨sb, hsb⟩ : ∃ s : ByteArray, s = ⟨(prS f (T.drop j1)).toArray⟩ := ⟨_, rfl⟩
  have hla : sa.size = (prS f (T.drop (i + 1))).length := by rw [hsa]; simp [ByteArray.size]
  have hlb : sb.size = (prS f (T.drop j1)).length := by rw [hsb]; simp [ByteArray.size]
  have hbnd : sa.size ≤ 1000000000 ∧ sb.size ≤ 1000000000 := by
    rw [hla, hlb]
    rw [← htxt] at hlen
    split at hlen <;> simp at hlen <;> omega
  obtain ⟨hba, hbb⟩ := hbnd
  have hpa : (prS f (T.drop (i + 1))).length ≤ 1000000000 := by omega
  have hpb : (prS f (T.drop j1)).length ≤ 1000000000 := by omega
  have Hsa := Lib.hid hsa
  have Hsb := Lib.hid hsb
  clear hx hok hOk h1 h2 hy he1 hkk hsa hsb hla hlb hN hlen htxt
  cases h5 : (y.k == 5)
  all_goals
    have H5 := Lib.hid h5
    go_enter Try.func115, Try.ntmps115
    go_wp2_with fail
    refine (rKids_any A c T i w ha hl Hok.out).mono ?_
    rintro e w1 ⟨A', cap', rfl, hown, hb1⟩
    rw [Hkk.out] at hown ⊢
    have ha1 := (ha.below hb1).more hb1.size
    have hown1 := OwnL.read encI_len hown
    obtain ⟨b1, o1, rfl, hlt, c10, c11, c12⟩ := ha1.at_ Hx.out
    obtain ⟨_, _, hee, _, d10, d11, d12⟩ := ha1.at_ Hy.out
    simp only [Option.some.injEq, Addr.mk.injEq, and_true] at hee
    obtain ⟨rfl, rfl⟩ := hee
    obtain ⟨b2, o2, rfl, hlt2, k0⟩ := ReadL.int hown1 (i := 0) rfl
    obtain ⟨_, _, hee, _, k1⟩ := ReadL.int hown1 (i := 1) rfl
    simp only [Option.some.injEq, Addr.mk.injEq, and_true] at hee
    obtain ⟨rfl, rfl⟩ := hee
    rw [Nat.add_zero] at k0
    have hl2 : ([((i + 1 : Nat) : Int), ((j1 : Nat) : Int)] : List Int).length = 2 := rfl
    rw [hl2]
    clear hl2 hown
    go_wp2_with fail
    have hcall := HN.out (i + 1) j1 c (some ⟨b1, o1, none⟩) T w1 H1.out ha1 hl Hok.out HOk.out hpa
    rw [← Hsa.out, Int.natCast_add, Int.natCast_one] at hcall
    refine hcall.mono ?_
    rintro e w2 ⟨rfl, hb2⟩
    clear hcall
    obtain ⟨hc2, hf2⟩ := bcell hb2
    have hb12 := ext_trans hb1 hb2
    have ha2 := (ha1.below hb2).more hb2.size
    have z2 := hb2.size
    go_wp2_with fail
    have hcall := HN.out j1 j c (some ⟨b1, o1, none⟩) T w2 H2.out ha2 hl Hok.out HOk.out hpb
    rw [← Hsb.out] at hcall
    refine hcall.mono ?_
    rintro e w3 ⟨rfl, hb3⟩
    clear hcall
    go_wp2_with fail
    go_ret
    refine ⟨ret_str ?_, ext_trans hb12 hb3⟩
    have h5' := H5.out
    simp only [beq_iff_eq, beq_eq_false_iff_ne] at h5'
    rw [← Htxt.out, Hsa.out, Hsb.out]
    first | rw [if_neg h5'] | rw [if_pos h5']
    apply ByteArray.ext
    simp [ByteArray.data_append]

theorem kidsGo_full {T : List Nd} {f : Nat} {x : Nd} : ∀ (d : Nat) (k : Int) (last : ByteArray) (i j : Nat), kidsP (treeP T f) T x d k last i = some j → (kidsGo T d i).length = d
  | 0, _, _, _, _, _ => rfl
  | d + 1, k, last, i, j, h => by
    obtain ⟨y, at', _, hat, hk⟩ := kidsP_step h
    obtain ⟨hal, hae⟩ := tree_end hat
    rw [kidsGo_step hal, hae, List.length_cons, kidsGo_full d _ _ _ _ hk]

set_option maxRecDepth 100000 in
set_option maxHeartbeats 4000000 in
theorem printed_row6 (f : Nat) (hN : RNode f) (i j c m : Nat) (A : Option Addr) (T : List Nd) (w : World) (x : Nd) (hx : T[i]? = some x) (h5 : x.k = 6) (hm : manyN x = m) (hm50 : m ≤ 50) (h1 : kidsP (treeP T f) T x m 0 ByteArray.empty (i + 1) = some j) (ha : TyA w w.heap.size A T) (hl : T.length ≤ 1000000) (hok : okAll T) (hOk : ∀ x ∈ T, x.Ok)
    (hlen : (123 :: (prKids (prS f) [44, 32] m [] (T.drop (i + 1)) ++ [125])).length ≤ 1000000000) :
    Calls Try.prog 115 #[.slice A T.length c, .int .i64 (i : Int)] w fun e w' => e = .returned (.string ⟨(123 :: (prKids (prS f) [44, 32] m [] (T.drop (i + 1)) ++ [125])).toArray⟩) ∧ Below w.heap.size w w' := by
  generalize hfull : (123 :: (prKids (prS f) [44, 32] m [] (T.drop (i + 1)) ++ [125])) = full at *
  have Hfull := Lib.hid hfull
  rw [← hfull] at hlen
  have HN := Lib.hid hN
  have hi := getq_lt hx
  have Hx := Lib.hid hx
  have Hok := Lib.hid hok
  have HOk := Lib.hid hOk
  have H1 := Lib.hid h1
  have hkR : Hid (kidsR T (i : Int) = kidsGo T m (i + 1)) := Lib.hid (by rw [kidsR_node hx, hm])
  have hX := Lib.hid h5
  have hi0 : ¬ (i : Int) < 0 := by omega
  have hi1' : ¬ (T.length : Int) ≤ (i : Int) := by omega
  simp only [List.length_cons, List.length_append, List.length_nil] at hlen
  clear hx hok hOk h1 hN hm h5 hfull
  go_enter Try.func115, Try.ntmps115
  go_wp2_with fail
  refine (rKids_any A c T i w ha hl Hok.out).mono ?_
  rintro e w1 ⟨A', cap', rfl, hown, hb1⟩
  have ha1 := (ha.below hb1).more hb1.size
  have hown1 := OwnL.read encI_len hown
  obtain ⟨b1, o1, rfl, hlt, c10, c11, c12⟩ := ha1.at_ Hx.out
  rw [hX.out] at c10
  have hK := Lib.hid (kidsGo_full (T := T) (f := f) (x := x) m 0 ByteArray.empty (i + 1) j H1.out)
  rw [hkR.out] at hown1 ⊢
  have hKl : (asI (kidsGo T m (i + 1))).length = m := by rw [asI_len]; exact hK.out
  rw [hKl]
  have HKl := Lib.hid hKl
  clear hown hKl
  generalize hG : kidsGo T m (i + 1) = G at *
  have HG := Lib.hid hG
  clear hG hkR hK
  go_wp2_with fail
  go_loopw [10, 11] (fun s10 k11 wr => ∃ (k at_ : Nat) (s : ByteArray) (last : ByteArray) (pre : List Nat), s10 = .string s ∧ k11 = .int .i64 k ∧ k ≤ m ∧ Hid (kidsP (treeP T f) T x (m - k) k last at_ = some j) ∧ Below w1.heap.size w1 wr ∧
      Hid (G = pre ++ kidsGo T (m - k) at_ ∧ pre.length = k) ∧ s.size + (prKids (prS f) [44, 32] (m - k) (if k = 0 then [] else [44, 32]) (T.drop at_)).length ≤ 999999999 ∧
      Hid (s.data.toList ++ prKids (prS f) [44, 32] (m - k) (if k = 0 then [] else [44, 32]) (T.drop at_) = 123 :: prKids (prS f) [44, 32] m [] (T.drop (i + 1))))
    (fun _ k11 _ => m - (intOf k11).toNat)
  case atStart => exact ⟨0, i + 1, _, ByteArray.empty, [], rfl, rfl, Nat.zero_le _, Lib.hid H1.out, Below.refl _ _, Lib.hid ⟨by rw [← HG.out]; rfl, rfl⟩, by simp [ByteArray.size_mk']; omega, Lib.hid rfl⟩
  case round =>
    obtain ⟨k, at_, s, last, pre, rfl, rfl, hkm, hkids, hbel, hpre, hsz, htxt⟩ := hrel
    have har := (ha1.below hbel).more hbel.size
    have hor := (ReadL.below hown1 hbel).more hbel.size
    by_cases hlt' : k < m
    · obtain ⟨d, hd⟩ : ∃ d, m - k = d + 1 := ⟨m - k - 1, by omega⟩
      rw [hd] at hkids hpre htxt hsz
      obtain ⟨y, at', hy, hat, hkids'⟩ := kidsP_step hkids.out
      have Hk' := Lib.hid hkids'
      obtain ⟨hal, hae⟩ := tree_end hat
      have hGk : G[k]? = some at_ := by
        rw [hpre.out.1, kidsGo_step hal, List.getElem?_append_right (by rw [hpre.out.2]; exact Nat.le_refl _), hpre.out.2]
        simp
      have hpre' : Hid (G = (pre ++ [at_]) ++ kidsGo T d at' ∧ (pre ++ [at_]).length = k + 1) := Lib.hid ⟨by rw [hpre.out.1, kidsGo_step hal, hae]; simp, by simp [hpre.out.2]⟩
      have hrest := tree_rest1 hat
      have htx : prKids (prS f) [44, 32] (d + 1) (if k = 0 then [] else [44, 32]) (T.drop at_) = (if k = 0 then [] else [44, 32]) ++ ((if y.k = 9 then [] else y.s.data.toList ++ [58, 32]) ++ (prS f (T.drop at_) ++ prKids (prS f) [44, 32] d [44, 32] (T.drop at'))) := by
        simp only [prKids]
        rw [headNd_drop hy, hrest]
      rw [htx] at hsz
      have Htx := Lib.hid htx
      obtain ⟨bk, ok, hke, _, kc⟩ := ReadL.int hor (asI_get hGk)
      obtain ⟨b3, o3, hee, _, d10, d11, d12⟩ := har.at_ hy
      simp only [Option.some.injEq, Addr.mk.injEq, and_true] at hee
      obtain ⟨rfl, rfl⟩ := hee
      subst hke
      have Hat := Lib.hid hat
      have Hd := Lib.hid hd
      obtain ⟨st, hst⟩ : ∃ s : ByteArray, s = ⟨(prS f (T.drop at_)).toArray⟩ := ⟨_, rfl⟩
      have hsl : st.size = (prS f (T.drop at_)).length := by rw [hst]; simp [ByteArray.size]
      simp only [List.length_append] at hsz
      rw [← hsl] at hsz
      have hpl : (prS f (T.drop at_)).length ≤ 1000000000 := by omega
      have Hst := Lib.hid hst
      have Hsl := Lib.hid hsl
      have hy0 := head_bytes y.s
      rw [hy0] at *
      obtain ⟨r, hr⟩ : ∃ r, r = (prKids (prS f) [44, 32] d [44, 32] (T.drop at')).length := ⟨_, rfl⟩
      rw [← hr] at hsz
      have Hr := Lib.hid hr
      clear hat hd hst hsl hy hae hGk hrest htx hkids hkids' hpre hr
      by_cases hk0 : k = 0
      all_goals
        have Hk0 := Lib.hid hk0
        by_cases h9 : y.k = 9
      all_goals
        have H9 := Lib.hid h9
        first | (have hk0i : ¬ (0 : Int) < (k : Int) := by omega) | (have hk0i : (0 : Int) < (k : Int) := by omega)
        first | (have h9b : (y.k != 9) = true := by simpa using h9) | (have h9b : (y.k != 9) = false := by simpa using h9)
        first | rw [if_pos hk0] at hsz | rw [if_neg hk0] at hsz
        first | rw [if_pos h9] at hsz | rw [if_neg h9] at hsz
        simp only [List.length_append, List.length_cons, List.length_nil, head_bytes] at hsz
        clear hk0 h9
        go_wp2_with fail
        have hcall := HN.out at_ at' c (some ⟨b1, o1, none⟩) T wr Hat.out har hl Hok.out HOk.out hpl
        rw [← Hst.out] at hcall
        refine hcall.mono ?_
        rintro e w2 ⟨rfl, hb2⟩
        clear hcall
        go_wp2_with fail
        go_roundw
        case rel =>
          refine ⟨k + 1, at', _, y.s, pre ++ [at_], rfl, by go_num, by omega, Lib.hid (by rw [show m - (k + 1) = d by have := Hd.out; omega]; exact Hk'.out), ext_trans hbel hb2, Lib.hid (by rw [show m - (k + 1) = d by have := Hd.out; omega]; exact hpre'.out), ?_, Lib.hid ?_⟩
          · rw [if_neg (by omega), show m - (k + 1) = d by have := Hd.out; omega, ← Hr.out]
            simp [ByteArray.size_mk']
            omega
          · rw [if_neg (by omega), show m - (k + 1) = d by have := Hd.out; omega, ← htxt.out, Htx.out]
            first | rw [if_pos Hk0.out] | rw [if_neg Hk0.out]
            first | rw [if_pos H9.out] | rw [if_neg H9.out]
            rw [Hst.out]
            simp [ByteArray.data_append]
        case measure => simp [intOf]; omega
    · have hkm' : m - k = 0 := by omega
      rw [hkm'] at htxt hsz
      have Hkm := Lib.hid hkm'
      simp only [prKids, List.length_nil] at hsz
      clear hkm'
      go_wp2_with fail
      go_ret
      refine ⟨ret_str ?_, ext_trans hb1 hbel⟩
      have ht2 := htxt.out
      simp only [prKids, List.append_nil] at ht2
      rw [← Hfull.out]
      refine txt_eq ?_
      rw [ByteArray.data_append, Array.toList_append, ht2]
      simp

set_option maxRecDepth 100000 in
set_option maxHeartbeats 4000000 in
theorem printed_row7 (f : Nat) (hN : RNode f) (i j c m : Nat) (A : Option Addr) (T : List Nd) (w : World) (x : Nd) (hx : T[i]? = some x) (h5 : x.k = 7) (hm : manyN x = m) (hm50 : m ≤ 50) (h1 : kidsP (treeP T f) T x m 0 ByteArray.empty (i + 1) = some j) (ha : TyA w w.heap.size A T) (hl : T.length ≤ 1000000) (hok : okAll T) (hOk : ∀ x ∈ T, x.Ok)
    (hlen : (91 :: (prKids (prS f) [32, 124, 32] m [] (T.drop (i + 1)) ++ [93])).length ≤ 1000000000) :
    Calls Try.prog 115 #[.slice A T.length c, .int .i64 (i : Int)] w fun e w' => e = .returned (.string ⟨(91 :: (prKids (prS f) [32, 124, 32] m [] (T.drop (i + 1)) ++ [93])).toArray⟩) ∧ Below w.heap.size w w' := by
  generalize hfull : (91 :: (prKids (prS f) [32, 124, 32] m [] (T.drop (i + 1)) ++ [93])) = full at *
  have Hfull := Lib.hid hfull
  rw [← hfull] at hlen
  have HN := Lib.hid hN
  have hi := getq_lt hx
  have Hx := Lib.hid hx
  have Hok := Lib.hid hok
  have HOk := Lib.hid hOk
  have H1 := Lib.hid h1
  have hkR : Hid (kidsR T (i : Int) = kidsGo T m (i + 1)) := Lib.hid (by rw [kidsR_node hx, hm])
  have hX := Lib.hid h5
  have hi0 : ¬ (i : Int) < 0 := by omega
  have hi1' : ¬ (T.length : Int) ≤ (i : Int) := by omega
  simp only [List.length_cons, List.length_append, List.length_nil] at hlen
  clear hx hok hOk h1 hN hm h5 hfull
  go_enter Try.func115, Try.ntmps115
  go_wp2_with fail
  refine (rKids_any A c T i w ha hl Hok.out).mono ?_
  rintro e w1 ⟨A', cap', rfl, hown, hb1⟩
  have ha1 := (ha.below hb1).more hb1.size
  have hown1 := OwnL.read encI_len hown
  obtain ⟨b1, o1, rfl, hlt, c10, c11, c12⟩ := ha1.at_ Hx.out
  rw [hX.out] at c10
  have hK := Lib.hid (kidsGo_full (T := T) (f := f) (x := x) m 0 ByteArray.empty (i + 1) j H1.out)
  rw [hkR.out] at hown1 ⊢
  have hKl : (asI (kidsGo T m (i + 1))).length = m := by rw [asI_len]; exact hK.out
  rw [hKl]
  have HKl := Lib.hid hKl
  clear hown hKl
  generalize hG : kidsGo T m (i + 1) = G at *
  have HG := Lib.hid hG
  clear hG hkR hK
  go_wp2_with fail
  go_loopw [10, 11] (fun s10 k11 wr => ∃ (k at_ : Nat) (s : ByteArray) (last : ByteArray) (pre : List Nat), s10 = .string s ∧ k11 = .int .i64 k ∧ k ≤ m ∧ Hid (kidsP (treeP T f) T x (m - k) k last at_ = some j) ∧ Below w1.heap.size w1 wr ∧
      Hid (G = pre ++ kidsGo T (m - k) at_ ∧ pre.length = k) ∧ s.size + (prKids (prS f) [32, 124, 32] (m - k) (if k = 0 then [] else [32, 124, 32]) (T.drop at_)).length ≤ 999999999 ∧
      Hid (s.data.toList ++ prKids (prS f) [32, 124, 32] (m - k) (if k = 0 then [] else [32, 124, 32]) (T.drop at_) = 91 :: prKids (prS f) [32, 124, 32] m [] (T.drop (i + 1))))
    (fun _ k11 _ => m - (intOf k11).toNat)
  case atStart => exact ⟨0, i + 1, _, ByteArray.empty, [], rfl, rfl, Nat.zero_le _, Lib.hid H1.out, Below.refl _ _, Lib.hid ⟨by rw [← HG.out]; rfl, rfl⟩, by simp [ByteArray.size_mk']; omega, Lib.hid rfl⟩
  case round =>
    obtain ⟨k, at_, s, last, pre, rfl, rfl, hkm, hkids, hbel, hpre, hsz, htxt⟩ := hrel
    have har := (ha1.below hbel).more hbel.size
    have hor := (ReadL.below hown1 hbel).more hbel.size
    by_cases hlt' : k < m
    · obtain ⟨d, hd⟩ : ∃ d, m - k = d + 1 := ⟨m - k - 1, by omega⟩
      rw [hd] at hkids hpre htxt hsz
      obtain ⟨y, at', hy, hat, hkids'⟩ := kidsP_step hkids.out
      have Hk' := Lib.hid hkids'
      obtain ⟨hal, hae⟩ := tree_end hat
      have hGk : G[k]? = some at_ := by
        rw [hpre.out.1, kidsGo_step hal, List.getElem?_append_right (by rw [hpre.out.2]; exact Nat.le_refl _), hpre.out.2]
        simp
      have hpre' : Hid (G = (pre ++ [at_]) ++ kidsGo T d at' ∧ (pre ++ [at_]).length = k + 1) := Lib.hid ⟨by rw [hpre.out.1, kidsGo_step hal, hae]; simp, by simp [hpre.out.2]⟩
      have hrest := tree_rest1 hat
      have htx : prKids (prS f) [32, 124, 32] (d + 1) (if k = 0 then [] else [32, 124, 32]) (T.drop at_) = (if k = 0 then [] else [32, 124, 32]) ++ ((if y.k = 9 then [] else y.s.data.toList ++ [58, 32]) ++ (prS f (T.drop at_) ++ prKids (prS f) [32, 124, 32] d [32, 124, 32] (T.drop at'))) := by
        simp only [prKids]
        rw [headNd_drop hy, hrest]
      rw [htx] at hsz
      have Htx := Lib.hid htx
      obtain ⟨bk, ok, hke, _, kc⟩ := ReadL.int hor (asI_get hGk)
      obtain ⟨b3, o3, hee, _, d10, d11, d12⟩ := har.at_ hy
      simp only [Option.some.injEq, Addr.mk.injEq, and_true] at hee
      obtain ⟨rfl, rfl⟩ := hee
      subst hke
      have Hat := Lib.hid hat
      have Hd := Lib.hid hd
      obtain ⟨st, hst⟩ : ∃ s : ByteArray, s = ⟨(prS f (T.drop at_)).toArray⟩ := ⟨_, rfl⟩
      have hsl : st.size = (prS f (T.drop at_)).length := by rw [hst]; simp [ByteArray.size]
      simp only [List.length_append] at hsz
      rw [← hsl] at hsz
      have hpl : (prS f (T.drop at_)).length ≤ 1000000000 := by omega
      have Hst := Lib.hid hst
      have Hsl := Lib.hid hsl
      have hy0 := head_bytes y.s
      rw [hy0] at *
      obtain ⟨r, hr⟩ : ∃ r, r = (prKids (prS f) [32, 124, 32] d [32, 124, 32] (T.drop at')).length := ⟨_, rfl⟩
      rw [← hr] at hsz
      have Hr := Lib.hid hr
      clear hat hd hst hsl hy hae hGk hrest htx hkids hkids' hpre hr
      by_cases hk0 : k = 0
      all_goals
        have Hk0 := Lib.hid hk0
        by_cases h9 : y.k = 9
      all_goals
        have H9 := Lib.hid h9
        first | (have hk0i : ¬ (0 : Int) < (k : Int) := by omega) | (have hk0i : (0 : Int) < (k : Int) := by omega)
        first | (have h9b : (y.k != 9) = true := by simpa using h9) | (have h9b : (y.k != 9) = false := by simpa using h9)
        first | rw [if_pos hk0] at hsz | rw [if_neg hk0] at hsz
        first | rw [if_pos h9] at hsz | rw [if_neg h9] at hsz
        simp only [List.length_append, List.length_cons, List.length_nil, head_bytes] at hsz
        clear hk0 h9
        go_wp2_with fail
        have hcall := HN.out at_ at' c (some ⟨b1, o1, none⟩) T wr Hat.out har hl Hok.out HOk.out hpl
        rw [← Hst.out] at hcall
        refine hcall.mono ?_
        rintro e w2 ⟨rfl, hb2⟩
        clear hcall
        go_wp2_with fail
        go_roundw
        case rel =>
          refine ⟨k + 1, at', _, y.s, pre ++ [at_], rfl, by go_num, by omega, Lib.hid (by rw [show m - (k + 1) = d by have := Hd.out; omega]; exact Hk'.out), ext_trans hbel hb2, Lib.hid (by rw [show m - (k + 1) = d by have := Hd.out; omega]; exact hpre'.out), ?_, Lib.hid ?_⟩
          · rw [if_neg (by omega), show m - (k + 1) = d by have := Hd.out; omega, ← Hr.out]
            simp [ByteArray.size_mk']
            omega
          · rw [if_neg (by omega), show m - (k + 1) = d by have := Hd.out; omega, ← htxt.out, Htx.out]
            first | rw [if_pos Hk0.out] | rw [if_neg Hk0.out]
            first | rw [if_pos H9.out] | rw [if_neg H9.out]
            rw [Hst.out]
            simp [ByteArray.data_append]
        case measure => simp [intOf]; omega
    · have hkm' : m - k = 0 := by omega
      rw [hkm'] at htxt hsz
      have Hkm := Lib.hid hkm'
      simp only [prKids, List.length_nil] at hsz
      clear hkm'
      go_wp2_with fail
      go_ret
      refine ⟨ret_str ?_, ext_trans hb1 hbel⟩
      have ht2 := htxt.out
      simp only [prKids, List.append_nil] at ht2
      rw [← Hfull.out]
      refine txt_eq ?_
      rw [ByteArray.data_append, Array.toList_append, ht2]
      simp

theorem rNode_of : ∀ f, RNode f
  | 0 => by intro i j c A T w h; cases h
  | f + 1 => by
    have HN := rNode_of f
    intro i j c A T w htree ha hl hok hOk hlen
    obtain ⟨x, hx⟩ := treeP_get htree
    simp only [treeP, hx] at htree
    split at htree
    · rename_i hnode
      rw [drop_cons hx] at hlen ⊢
      by_cases h5 : x.k = 5
      · have hm : (many x.k x.n).toNat = 2 := by unfold many; simp [h5]
        rw [hm] at htree
        obtain ⟨y, j1, hy, h1, htr2⟩ := kidsP_step htree
        obtain ⟨y2, j2, hy2, h2, htr3⟩ := kidsP_step htr2
        simp only [kidsP, Option.some.injEq] at htr3
        subst htr3
        simp only [prS, if_pos h5, tree_rest1 h1] at hlen ⊢
        exact printed_arrow f HN i j1 j2 c A T w x hx h5 h1 h2 ha hl hok hOk hlen
      · by_cases h6 : x.k = 6
        · have h50 : manyN x ≤ 50 := by
            have hmm := manyN_ok hnode
            have := many_bound hnode
            omega
          simp only [prS, if_neg h5, if_pos h6] at hlen ⊢
          exact printed_row6 f HN i j c (manyN x) A T w x hx h6 rfl h50 htree ha hl hok hOk hlen
        · by_cases h7 : x.k = 7
          · have h50 : manyN x ≤ 50 := by
              have hmm := manyN_ok hnode
              have := many_bound hnode
              omega
            simp only [prS, if_neg h5, if_neg h6, if_pos h7] at hlen ⊢
            exact printed_row7 f HN i j c (manyN x) A T w x hx h7 rfl h50 htree ha hl hok hOk hlen
          · simp only [prS, if_neg h5, if_neg h6, if_neg h7] at hlen ⊢
            exact printed_word i c A T w x hx h5 (by simp [isRowB, h6, h7]) ha hl hok hOk
    · cases htree

theorem rPrint_any (j c : Nat) (A : Option Addr) (T : List Nd) (w : World) (htree : treeP T 100 0 = some j) (ha : TyA w w.heap.size A T) (hl : T.length ≤ 1000000) (hok : okAll T) (hOk : ∀ x ∈ T, x.Ok) (hlen : (prS 100 T).length ≤ 1000000000) :
    Calls Try.prog 75 #[.slice A T.length c] w fun e w' => e = .returned (.string ⟨(prS 100 T).toArray⟩) ∧ Below w.heap.size w w' := by
  have h := rNode_of 100 0 j c A T w htree ha hl hok hOk (by rw [List.drop_zero]; exact hlen)
  rw [List.drop_zero, Int.natCast_zero] at h
  have H := Lib.hid h
  clear h hok hOk htree
  go_enter Try.func75, Try.ntmps75
  go_wp2_with fail
  refine H.out.mono ?_
  rintro e w1 ⟨rfl, hb⟩
  go_wp2_with fail
  go_ret
  exact ⟨rfl, hb⟩
end Go.Proofs.Ytblfeokjlecgkaa

/- byLabel, and the function value that asks whether two labels are one. -/
namespace Go.Proofs.Ytblfeokjlecgkaa
open Go.RowKit

end Go.Proofs.Ytblfeokjlecgkaa

/- Types sorted by their labels. -/
namespace Go.Proofs.Ytblfeokjlecgkaa
open Go.RowKit

theorem flatMap_encS (l : List (Option Addr × Nat × Nat)) : l.flatMap encS = l.map fun v => Value.slice v.1 v.2.1 v.2.2 := by
  induction l with
  | nil => rfl
  | cons a l ih => rw [List.flatMap_cons, ih]; rfl

/-- The labels of types. -/
def labsT (tss : List (List Nd)) : List ByteArray := tss.map fun t => (headNd t).s

end Go.Proofs.Ytblfeokjlecgkaa

/- slices.Clone and slices.CompactFunc at rows of types. -/
namespace Go.Proofs.Ytblfeokjlecgkaa
open Go.RowKit

/-- A store of a slice into a row of slices. -/
theorem OwnL.setS {w : World} {base : Nat} {A : Option Addr} {cap : Nat} {l : List (Option Addr × Nat × Nat)} (h : OwnS w base A cap l) {j : Nat} (hj : j < l.length) (v : Option Addr × Nat × Nat) :
    ∃ g, A = some ⟨g, 0, none⟩ ∧ base ≤ g ∧ g < w.heap.size ∧ (∃ m, l[j]? = some m ∧ w.cell? ⟨g, j, none⟩ = some (.slice m.1 m.2.1 m.2.2)) ∧ w.frozen? ⟨g, j, none⟩ = false ∧
      OwnS (w.setCell ⟨g, j, none⟩ (.slice v.1 v.2.1 v.2.2)) base A cap (l.set j v) ∧ w.grownBy (w.setCell ⟨g, j, none⟩ (.slice v.1 v.2.1 v.2.2)) (some g) := by
  obtain ⟨m, hm⟩ := getq_ex hj
  obtain ⟨b, o, hA, hb, hc⟩ := ReadL.slice (OwnL.read encS_len h) hm
  have h' : w.ownsRow base 34 1 (.slice A l.length cap) l.length (l.flatMap encS) := h
  rcases h'.2 with ⟨hv, hn⟩ | ⟨g, cap', cur, hv, hbg, hg, hnc, hcm, hcs, htake⟩
  · injection hv with hA' hl hc'
    rw [hA'] at hA
    cases hA
  · injection hv with hA' hl hc'
    subst hA'
    injection hA with hA
    injection hA with hA1 hA2 hA3
    subst hA1
    rw [← hA2, Nat.zero_add] at hc
    obtain ⟨h2, h3⟩ := World.ownsRow.stored h' j (.slice v.1 v.2.1 v.2.2)
    refine ⟨g, rfl, hbg, hb, ⟨m, hm, hc⟩, World.ownsRow.frozenAt h' j, ?_, h3⟩
    show (w.setCell ⟨g, j, none⟩ (.slice v.1 v.2.1 v.2.2)).ownsRow base 34 1 (.slice (some ⟨g, 0, none⟩) (l.set j v).length cap) (l.set j v).length ((l.set j v).flatMap encS)
    rw [List.length_set, flatMap_encS, List.map_set, ← flatMap_encS]
    exact h2

/-- No two neighbours below a place are one. -/
def AdjOk (ls : List ByteArray) (n : Nat) : Prop := ∀ j, 1 ≤ j → j < n → lab ls j ≠ lab ls (j - 1)

theorem AdjOk.one {ls : List ByteArray} {n : Nat} (h : n < 2) : AdjOk ls n := fun j h1 h2 => by omega
theorem AdjOk.step {ls : List ByteArray} {k : Nat} (h : AdjOk ls k) (hne : lab ls k ≠ lab ls (k - 1)) : AdjOk ls (k + 1) := fun j h1 h2 => by
  by_cases hj : j = k
  · subst hj; exact hne
  · exact h j h1 (by omega)

end Go.Proofs.Ytblfeokjlecgkaa
