/- Laid together by a tool from the texts of this seat: UniC Pure PureA PureP Trees Mem Off Figures PrintR Ask TKids CompactT Joined. Conditions: each theorem's own. -/
import Derived.Test.YtblfeokjlecgkaaO07
import Derived.Test.YtblfeokjlecgkaaO04
import Derived.Test.YtblfeokjlecgkaaO01
import Derived.Test.YtblfeokjlecgkaaO02
import Derived.Lib.ItoaLen
import Derived.Laws.IdiomStrings
import Derived.Test.YtblfeokjlecgkaaO05
import Derived.Lib.SliceRun
import Derived.IntWalk
import Derived.ArgAppend
import Derived.Deep.RegionHeld
import Derived.Lib.BufferWrite
/- The plain theory of trees that are made to agree: written in parts, put together by asm_uni.sh. -/
namespace Go.Proofs.Ytblfeokjlecgkaa

/-! ### Steps, one after another -/

/-- A tree that may be asked about. -/
def Pend (S : Kn) (t : Ut) : Prop := okT S.L t ∧ bdT S.m t

theorem Pend.mono {S S' : Kn} {t : Ut} (h : Pend S t) (l : S.Le S') : Pend S' t := ⟨okT_mono l.L t h.2 h.1, bdT_mono l.m t h.2⟩

/-- Alike, whatever is known. -/
def Eqv (S : Kn) (a b : Ut) : Prop := ∀ τ, S.Sat τ → inst τ a = inst τ b

theorem Eqv.refl (S : Kn) (a : Ut) : Eqv S a a := fun _ _ => rfl
theorem Eqv.symm {S : Kn} {a b : Ut} (h : Eqv S a b) : Eqv S b a := fun τ hτ => (h τ hτ).symm
theorem Eqv.trans {S : Kn} {a b c : Ut} (h : Eqv S a b) (k : Eqv S b c) : Eqv S a c := fun τ hτ => (h τ hτ).trans (k τ hτ)

/-- A Var that is known. -/
theorem eqv_known {S : Kn} {v : Int} {t : Ut} (hl : S.L v = none) (hk : S.κ v = some t) : Eqv S (varT v) t := fun τ hτ => by
  rw [inst_var]
  exact (hτ.2 v t hk).1 hl

/-- What agrees, of two trees. -/
def CoI (a b : Ut) (τ : Va) : Prop := Co (inst τ a) (inst τ b)

theorem coI_alike {a b : Ut} {m : Int} {τ τ' : Va} (h : Alike m τ τ') (ha : bdT m a) (hb : bdT m b) : CoI a b τ ↔ CoI a b τ' := by
  unfold CoI
  rw [h.inst a ha, h.inst b hb]

/-- They can't agree. -/
def Dis (S : Kn) (a b : Ut) : Prop := ∀ τ, S.Sat τ → ¬ CoI a b τ

theorem Step.eqv {S S' : Kn} {a a' b b' : Ut} (h : Step S S' (CoI a b)) (pa : Pend S a) (pa' : Pend S a') (pb : Pend S b) (pb' : Pend S b') (ea : Eqv S a' a) (eb : Eqv S b' b) : Step S S' (CoI a' b') := by
  refine h.congr (fun τ hτ hc => ?_) fun τ hτ hc => ?_
  · obtain ⟨τ0, h0, a0⟩ := h.le.sat τ hτ
    rw [coI_alike a0 pa.2 pb.2] at hc
    rw [coI_alike a0 pa'.2 pb'.2]
    unfold CoI
    rw [ea τ0 h0, eb τ0 h0]
    exact hc
  · unfold CoI at hc ⊢
    rw [← ea τ hτ, ← eb τ hτ]
    exact hc

theorem Dis.eqv {S : Kn} {a a' b b' : Ut} (h : Dis S a b) (ea : Eqv S a' a) (eb : Eqv S b' b) : Dis S a' b' := fun τ hτ hc => h τ hτ (by
  unfold CoI at hc ⊢
  rw [← ea τ hτ, ← eb τ hτ]
  exact hc)

theorem Step.symm {S S' : Kn} {a b : Ut} (h : Step S S' (CoI a b)) : Step S S' (CoI b a) := h.congr (fun _ _ hc => Co.symm hc) fun _ _ hc => Co.symm hc
theorem Dis.symm {S : Kn} {a b : Ut} (h : Dis S a b) : Dis S b a := fun τ hτ hc => h τ hτ (Co.symm hc)

/-- A ? agrees with all. -/
theorem agree_dyn {S : Kn} (h : S.Inv) {a b : Ut} (hk : a.k = 0) : Step S S (CoI a b) :=
  Step.none h fun τ _ => by
    obtain ⟨k, n, fs, tl⟩ := a
    have hk : k = 0 := hk
    subst hk
    unfold CoI
    rw [inst_eq, if_neg (by decide)]
    exact .dl _ _ _ _

theorem agree_self {S : Kn} (h : S.Inv) (a : Ut) : Step S S (CoI a a) := Step.none h fun _ _ => Co.refl _

/-- A Var becomes a tree. -/
theorem agree_var {S : Kn} (h : S.Inv) {v : Int} {b : Ut} (hv : S.κ v = none) (hl : S.L v = none) (hvm : v < S.m) (pb : Pend S b) (o : ¬ occN v (inst S.σ (stc S.m b).1)) : Step S (S.bindV v b) (CoI (varT v) b) :=
  ⟨h.bindV hv hl hvm pb.1 pb.2 o, Kn.bindV_le h hv pb.1 pb.2, fun τ hτ => by
    unfold CoI
    rw [inst_var]
    exact h.bindV_co hl pb.1 pb.2 hτ, fun τ hτ hc => by
    unfold CoI at hc
    rw [inst_var] at hc
    exact h.bindV_gen hv hl hvm pb.1 pb.2 hτ hc⟩

theorem agree_var_no {S : Kn} (h : S.Inv) {v : Int} {b : Ut} (hl : S.L v = none) (hvm : v < S.m) (pb : Pend S b) (o : occN v (inst S.σ (stc S.m b).1)) (h8 : (inst S.σ (stc S.m b).1).k ≠ 8) : Dis S (varT v) b := fun τ hτ hc => by
  unfold CoI at hc
  rw [inst_var] at hc
  exact h.occurs_no hl hvm pb.1 pb.2 o h8 hτ hc

theorem co_kinds {a b : Ut} (h : Co a b) : a.k = 0 ∨ b.k = 0 ∨ a.k = b.k := by
  cases h with
  | dl => exact .inl rfl
  | dr => exact .inr (.inl rfl)
  | nd => exact .inr (.inr rfl)

/-- Kinds that are unlike. -/
theorem agree_kinds {S : Kn} {a b : Ut} (h : a.k ≠ b.k) (a0 : a.k ≠ 0) (a8 : a.k ≠ 8) (b0 : b.k ≠ 0) (b8 : b.k ≠ 8) : Dis S a b := fun τ _ hc => by
  obtain ⟨k, n, fs, tl⟩ := a
  obtain ⟨k', n', gs, tl'⟩ := b
  have h : k ≠ k' := h
  have a0 : k ≠ 0 := a0
  have a8 : k ≠ 8 := a8
  have b0 : k' ≠ 0 := b0
  have b8 : k' ≠ 8 := b8
  unfold CoI at hc
  rw [inst_eq, if_neg a8, inst_eq, if_neg b8] at hc
  rcases co_kinds hc with e | e | e
  · exact a0 e
  · exact b0 e
  · exact h e

/-- What was done so far loses nothing. -/
structure Loop (S0 S : Kn) (a b : Ut) : Prop where
  inv : S.Inv
  le : S0.Le S
  gen : ∀ τ, S0.Sat τ → CoI a b τ → ∃ τ', S.Sat τ' ∧ Alike S0.m τ τ'

theorem Loop.start {S : Kn} (h : S.Inv) (a b : Ut) : Loop S S a b := ⟨h, Kn.Le.refl S, fun τ hτ _ => ⟨τ, hτ, Alike.refl _ _⟩⟩

section
variable {S0 S S' : Kn} {a b c d : Ut}

theorem Loop.next (l : Loop S0 S a b) (pa : Pend S0 a) (pb : Pend S0 b) (hcd : ∀ τ, S.Sat τ → CoI a b τ → CoI c d τ) (s : Step S S' (CoI c d)) : Loop S0 S' a b :=
  ⟨s.inv, l.le.trans s.le, fun τ hτ hc => by
    obtain ⟨τ1, h1, a1⟩ := l.gen τ hτ hc
    rw [coI_alike a1 pa.2 pb.2] at hc
    obtain ⟨τ2, h2, a2⟩ := s.gen τ1 h1 (hcd τ1 h1 hc)
    exact ⟨τ2, h2, a1.trans (a2.mono l.le.m)⟩⟩

theorem Loop.fail (l : Loop S0 S a b) (pa : Pend S0 a) (pb : Pend S0 b) (hcd : ∀ τ, S.Sat τ → CoI a b τ → CoI c d τ) (h : Dis S c d) : Dis S0 a b := fun τ hτ hc => by
  obtain ⟨τ1, h1, a1⟩ := l.gen τ hτ hc
  rw [coI_alike a1 pa.2 pb.2] at hc
  exact h τ1 h1 (hcd τ1 h1 hc)

theorem Loop.stop (l : Loop S0 S a b) (pa : Pend S0 a) (pb : Pend S0 b) (s : Step S S' (CoI a b)) : Step S0 S' (CoI a b) :=
  ⟨s.inv, l.le.trans s.le, s.co, fun τ hτ hc => by
    obtain ⟨τ1, h1, a1⟩ := l.gen τ hτ hc
    rw [coI_alike a1 pa.2 pb.2] at hc
    obtain ⟨τ2, h2, a2⟩ := s.gen τ1 h1 hc
    exact ⟨τ2, h2, a1.trans (a2.mono l.le.m)⟩⟩

/-- What held goes on holding. -/
theorem coI_later (l : S.Le S') (hc : ∀ τ, S.Sat τ → CoI c d τ) (bc : bdT S.m c) (bd : bdT S.m d) : ∀ τ, S'.Sat τ → CoI c d τ := fun τ hτ => by
  obtain ⟨τ0, h0, a0⟩ := l.sat τ hτ
  rw [coI_alike a0 bc bd]
  exact hc τ0 h0

/-- Children of two rows. -/
theorem rows_child {k : Int} {x y : Fl} {p q : Option Int} (ra : RowOf S a k x p) (rb : RowOf S b k y q) (hk : k ≠ 0) {l : Lb} (hc : getF l x = some c) (hd : getF l y = some d) : ∀ τ, S.Sat τ → CoI a b τ → CoI c d τ := fun τ hτ h => by
  unfold CoI at h
  rw [rows_co ra rb hk hτ] at h
  have := h.2 l
  rw [hc, hd] at this
  exact this

/-- Nodes without a tail agree just if their children do, label for label. -/
theorem node_co {k : Int} {fs gs : Fl} {τ : Va} (hk : k ≠ 0) (h8 : k ≠ 8) (nf : (labsF fs).Nodup) (ng : (labsF gs).Nodup) : CoI (.mk k 0 fs none) (.mk k 0 gs none) τ ↔ ∀ l, CoL ((getF l fs).map (inst τ)) ((getF l gs).map (inst τ)) := by
  unfold CoI
  rw [inst_eq, if_neg h8, inst_eq, if_neg h8, co_row hk]
  have n1 : (labsF (mapF (inst τ) fs ++ (τ.tail none).1)).Nodup := by
    rw [labsF_append, labsF_mapF]
    simpa [Va.tail, labsF] using nf
  have n2 : (labsF (mapF (inst τ) gs ++ (τ.tail none).1)).Nodup := by
    rw [labsF_append, labsF_mapF]
    simpa [Va.tail, labsF] using ng
  constructor
  · rintro ⟨_, h⟩ l
    have := h l
    rw [getF_srt n1, getF_srt n2, getF_append, getF_append, getF_mapF, getF_mapF] at this
    simpa [Va.tail, getF] using this
  · intro h
    refine ⟨rfl, fun l => ?_⟩
    rw [getF_srt n1, getF_srt n2, getF_append, getF_append, getF_mapF, getF_mapF]
    simpa [Va.tail, getF] using h l
end

end Go.Proofs.Ytblfeokjlecgkaa
namespace Go.Proofs.Ytblfeokjlecgkaa

/-! ### Full rows; a row's chain -/

/-- Each row has all labels of its tail. -/
def fuT (L : Sorts) : Ut → Prop
  | .mk _ _ fs tl => (∀ q ls, tl = some q → L q = some ls → ∀ l ∈ ls, l ∈ labsF fs) ∧ ∀ p ∈ fs, fuT L p.2
termination_by t => SizeOf.sizeOf t
decreasing_by exact Ut.size_mem (by assumption)

theorem fuT_mk {L : Sorts} {k n : Int} {fs : Fl} {tl : Option Int} : fuT L (.mk k n fs tl) ↔ (∀ q ls, tl = some q → L q = some ls → ∀ l ∈ ls, l ∈ labsF fs) ∧ ∀ p ∈ fs, fuT L p.2 := by rw [fuT]

theorem fuT_mono {L L' : Sorts} {m : Int} (hL : ∀ x, x < m → L' x = L x) : ∀ t, bdT m t → fuT L t → fuT L' t :=
  Ut.ind fun k n fs tl ih hb hf => by
    rw [bdT_mk] at hb
    rw [fuT_mk] at hf ⊢
    exact ⟨fun q ls hq hls => hf.1 q ls hq (by rw [← hL q (hb.2.1 q hq)]; exact hls), fun p hp => ih p hp (hb.2.2 p hp) (hf.2 p hp)⟩

theorem stc_fu {L : Sorts} : ∀ (t : Ut) (m : Int), fuT L t → fuT L (stc m t).1 :=
  Ut.ind fun k n fs tl ih m hf => by
    rw [fuT_mk] at hf
    rw [stc_mk]
    by_cases hk : k = 0
    · rw [if_pos hk, fuT_mk]
      exact ⟨fun q ls hq => (by cases hq), fun p hp => by simp at hp⟩
    · rw [if_neg hk, fuT_mk]
      refine ⟨fun q ls hq hls l hl => by rw [stcF_labs]; exact hf.1 q ls hq hls l hl, ?_⟩
      have key : ∀ (gs : Fl) (m : Int), (∀ p ∈ gs, ∀ m, fuT L (stc m p.2).1) → ∀ p ∈ (stcF m gs).1, fuT L p.2 := by
        intro gs
        induction gs with
        | nil => intro m _ p hp; rw [stcF_nil] at hp; simp at hp
        | cons g gs ih2 =>
          intro m h p hp
          rw [stcF_cons] at hp
          rcases List.mem_cons.1 hp with rfl | hp
          · exact h g (by simp) m
          · exact ih2 _ (fun p hp => h p (by simp [hp])) p hp
      exact key fs m fun p hp m => ih p hp m (hf.2 p hp)

structure Kn.Fu (S : Kn) : Prop where
  v : ∀ v t, S.κ v = some t → S.L v = none → fuT S.L t
  t : ∀ v t ls, S.κ v = some t → S.L v = some ls → (∀ c ∈ t.fs, fuT S.L c.2) ∧ ∀ q ls', t.tl = some q → S.L q = some ls' → ∀ l ∈ ls', l ∈ ls ∨ l ∈ labsF t.fs

theorem stc_fs_fu {L : Sorts} {t : Ut} {m : Int} (hk : t.k ≠ 0) (h : ∀ c ∈ t.fs, fuT L c.2) : ∀ c ∈ (stc m t).1.fs, fuT L c.2 := by
  obtain ⟨k, n, fs, tl⟩ := t
  have hk : k ≠ 0 := hk
  have h1 : fuT L (.mk k n fs none) := by
    rw [fuT_mk]
    exact ⟨fun q ls hq => (by cases hq), h⟩
  have h2 := stc_fu _ m h1
  rw [stc_mk, if_neg hk] at h2
  rw [fuT_mk] at h2
  intro c hc
  rw [stc_mk, if_neg hk] at hc
  exact h2.2 c hc

section
variable {S : Kn}

theorem Kn.Fu.bindV (h : S.Fu) {v : Int} {t : Ut} (hl : S.L v = none) (hf : fuT S.L t) : (S.bindV v t).Fu := by
  refine ⟨fun u s hu hls => ?_, fun u s ls hu hls => ?_⟩
  · have hu : upd S.κ v (stc S.m t).1 u = some s := hu
    by_cases e : u = v
    · subst e
      rw [upd_same] at hu
      injection hu with hu
      subst hu
      exact stc_fu t S.m hf
    · rw [upd_other e] at hu
      exact h.v u s hu hls
  · have hu : upd S.κ v (stc S.m t).1 u = some s := hu
    have hls : S.L u = some ls := hls
    have e : u ≠ v := fun e => by rw [e, hl] at hls; cases hls
    rw [upd_other e] at hu
    exact h.t u s ls hu hls

theorem Kn.Fu.freshT (h : S.Fu) (i : S.Inv) (ls : List Lb) : (S.freshT ls).Fu := by
  have hLlt : ∀ x, x < S.m → (S.freshT ls).L x = S.L x := fun x hx => by
    show (if x = S.m then some ls else S.L x) = S.L x
    rw [if_neg (by omega)]
  refine ⟨fun u s hu hls => ?_, fun u s ls' hu hls => ?_⟩
  · obtain ⟨a, b, c, d⟩ := i.dom u s hu
    rw [hLlt u a] at hls
    exact fuT_mono hLlt s d (h.v u s hu hls)
  · obtain ⟨a, b, c, d⟩ := i.dom u s hu
    rw [hLlt u a] at hls
    obtain ⟨g1, g2⟩ := h.t u s ls' hu hls
    obtain ⟨k, n, fs, tl⟩ := s
    rw [bdT_mk] at d
    refine ⟨fun c hc => fuT_mono hLlt _ (d.2.2 c hc) (g1 c hc), fun q ls2 hq hls2 => ?_⟩
    rw [hLlt q (d.2.1 q hq)] at hls2
    exact g2 q ls2 hq hls2

theorem Kn.Fu.bindT (h : S.Fu) {p : Int} {ls : List Lb} {t : Ut} (hl : S.L p = some ls) (hk : t.k ≠ 0) (hc : ∀ c ∈ t.fs, fuT S.L c.2) (hq : ∀ q ls', t.tl = some q → S.L q = some ls' → ∀ l ∈ ls', l ∈ ls ∨ l ∈ labsF t.fs) : (S.bindT p t).Fu := by
  obtain ⟨e1, e2, e3, e4⟩ := stc_root (m := S.m) hk
  refine ⟨fun u s hu hls => ?_, fun u s ls2 hu hls => ?_⟩
  · have hu : upd S.κ p (stc S.m t).1 u = some s := hu
    have hls : S.L u = none := hls
    have e : u ≠ p := fun e => by rw [e, hl] at hls; cases hls
    rw [upd_other e] at hu
    exact h.v u s hu hls
  · have hu : upd S.κ p (stc S.m t).1 u = some s := hu
    by_cases e : u = p
    · subst e
      rw [upd_same] at hu
      injection hu with hu
      subst hu
      have hls : S.L u = some ls2 := hls
      rw [hl] at hls
      injection hls with hls
      subst hls
      refine ⟨stc_fs_fu hk hc, fun q ls' hq' hls' l hl' => ?_⟩
      rw [e4] at hq'
      rw [e3]
      exact hq q ls' hq' hls' l hl'
    · rw [upd_other e] at hu
      exact h.t u s ls2 hu hls

/-- A row's fields, along its known tails. -/
inductive Chain (S : Kn) (k : Int) (fs : Fl) (tl : Option Int) : Fl → Option Int → Prop
  | here : Chain S k fs tl fs tl
  | more {x : Fl} {q : Int} {k' : Int} {gs : Fl} {q' : Option Int} (h : Chain S k fs tl x (some q)) (hk : S.κ q = some (.mk k' 0 gs q')) : Chain S k fs tl (x ++ gs) q'

theorem Chain.later {S S' : Kn} (hκ : ∀ v t, S.κ v = some t → S'.κ v = some t) {k : Int} {fs : Fl} {tl : Option Int} {x : Fl} {p : Option Int} (h : Chain S k fs tl x p) : Chain S' k fs tl x p := by
  induction h with
  | here => exact .here
  | more _ hk ih => exact .more ih (hκ _ _ hk)

/-- What a chain comes to. -/
theorem Chain.row (h : S.Inv) (f : S.Fu) {k : Int} {fs : Fl} {tl : Option Int} (h8 : k ≠ 8) (pa : Pend S (.mk k 0 fs tl)) (fa : fuT S.L (.mk k 0 fs tl)) {x : Fl} {p : Option Int} (c : Chain S k fs tl x p) :
    (labsF x).Nodup ∧ (∀ q ∈ x, okT S.L q.2 ∧ bdT S.m q.2 ∧ fuT S.L q.2) ∧ (∀ q, p = some q → q < S.m ∧ ∃ ls, S.L q = some ls ∧ ∀ l, l ∈ ls ↔ l ∈ labsF x) ∧
      ∀ τ, S.Sat τ → inst τ (.mk k 0 fs tl) = .mk k 0 (srtF (mapF (inst τ) x ++ (τ.tail p).1)) (τ.tail p).2 := by
  obtain ⟨o, bd⟩ := pa
  rw [okT_mk] at o
  rw [bdT_mk] at bd
  rw [fuT_mk] at fa
  induction c with
  | here =>
    refine ⟨o.1.1, fun q hq => ⟨o.2 q hq, bd.2.2 q hq, fa.2 q hq⟩, fun q hq => ?_, fun τ _ => by rw [inst_eq, if_neg h8]⟩
    obtain ⟨ls, h1, h2⟩ := o.1.2.2.2.2 q hq
    exact ⟨bd.2.1 q hq, ls, h1, fun l => ⟨fa.1 q ls hq h1 l, h2 l⟩⟩
  | @more x r k' gs q' c hk ih =>
    obtain ⟨i1, i2, i3, i4⟩ := ih
    obtain ⟨_, ls, h1, h2⟩ := i3 r rfl
    obtain ⟨m1, m2, m3⟩ := RowOf.more h hk h1 h2 i1 (fun q hq => ⟨(i2 q hq).1, (i2 q hq).2.1⟩) i4
    obtain ⟨f1, f2⟩ := f.t r _ ls hk h1
    obtain ⟨_, o2, _, b2⟩ := h.dom r _ hk
    obtain ⟨_, _, _, r4⟩ := h.row r _ ls hk h1
    rw [okT_mk] at o2
    rw [bdT_mk] at b2
    refine ⟨m1, fun q hq => ⟨(m2 q hq).1, (m2 q hq).2, ?_⟩, fun q hq => ?_, m3⟩
    · rcases List.mem_append.1 hq with hq | hq
      · exact (i2 q hq).2.2
      · exact f1 q hq
    · obtain ⟨ls', k1, k2⟩ := r4 q hq
      obtain ⟨ls2, k3, k4⟩ := o2.1.2.2.2.2 q hq
      rw [k1] at k3
      injection k3 with k3
      subst k3
      refine ⟨b2.2.1 q hq, ls', k1, fun l => ?_⟩
      rw [labsF_append, List.mem_append]
      constructor
      · intro hl
        rcases f2 q ls' hq k1 l hl with g | g
        · exact .inl ((h2 l).1 g)
        · exact .inr g
      · rintro (g | g)
        · exact k2 l ((h2 l).2 g)
        · exact k4 l g

theorem Chain.rowOf (h : S.Inv) (f : S.Fu) {k : Int} {fs : Fl} {tl : Option Int} (h8 : k ≠ 8) (pa : Pend S (.mk k 0 fs tl)) (fa : fuT S.L (.mk k 0 fs tl)) {x : Fl} {p : Option Int} (c : Chain S k fs tl x p) (hp : ∀ q, p = some q → S.κ q = none) :
    RowOf S (.mk k 0 fs tl) k x p ∧ ∀ q ∈ x, fuT S.L q.2 := by
  obtain ⟨a, b, d, e⟩ := c.row h f h8 pa fa
  exact ⟨⟨a, fun q hq => ⟨(b q hq).1, (b q hq).2.1⟩, fun q hq => ⟨(d q hq).1, hp q hq, (d q hq).2⟩, e⟩, fun q hq => (b q hq).2.2⟩
end

end Go.Proofs.Ytblfeokjlecgkaa
namespace Go.Proofs.Ytblfeokjlecgkaa

/-! ### How much is left -/

/-- How many of the first n have something. -/
def cnt (p : Nat → Bool) : Nat → Nat
  | 0 => 0
  | n + 1 => cnt p n + if p n = true then 1 else 0

theorem cnt_congr {p q : Nat → Bool} : ∀ {n : Nat}, (∀ i, i < n → p i = q i) → cnt p n = cnt q n
  | 0, _ => rfl
  | n + 1, h => by simp only [cnt, cnt_congr fun i hi => h i (Nat.lt_succ_of_lt hi), h n (Nat.lt_succ_self n)]

theorem cnt_upd {p q : Nat → Bool} {v : Nat} (hv : p v = true) (hq : q v = false) (h : ∀ i, i ≠ v → q i = p i) : ∀ {n : Nat}, v < n → cnt q n + 1 = cnt p n
  | n + 1, hn => by
    simp only [cnt]
    by_cases e : n = v
    · subst e
      rw [cnt_congr (p := q) (q := p) fun i hi => h i (by omega), hv, hq]
      simp
    · have := cnt_upd hv hq h (n := n) (by omega)
      rw [h n e]
      omega

theorem cnt_more {p : Nat → Bool} {n : Nat} : ∀ {d : Nat}, (∀ i, n ≤ i → i < n + d → p i = true) → cnt p (n + d) = cnt p n + d
  | 0, _ => rfl
  | d + 1, h => by
    have := cnt_more (p := p) (n := n) (d := d) fun i h1 h2 => h i h1 (by omega)
    rw [show n + (d + 1) = (n + d) + 1 by omega]
    simp only [cnt]
    rw [this, h (n + d) (by omega) (by omega)]
    simp
    omega

/-- How many numbers are not known. -/
def Kn.un (S : Kn) : Nat := cnt (fun i => (S.κ (i : Int)).isNone) S.m.toNat

mutual
def dynT : Ut → Nat
  | .mk k _ fs _ => (if k = 0 then 1 else 0) + dynF fs
termination_by t => SizeOf.sizeOf t
def dynF : Fl → Nat
  | [] => 0
  | p :: fs => dynT p.2 + dynF fs
termination_by fs => SizeOf.sizeOf fs
decreasing_by all_goals first | (simp; omega) | (obtain ⟨a, b⟩ := p; simp; omega)
end

theorem dynT_mk (k n : Int) (fs : Fl) (tl : Option Int) : dynT (.mk k n fs tl) = (if k = 0 then 1 else 0) + dynF fs := by rw [dynT.eq_def]
theorem dynF_nil : dynF [] = 0 := by rw [dynF.eq_def]
theorem dynF_cons (p : Lb × Ut) (fs : Fl) : dynF (p :: fs) = dynT p.2 + dynF fs := by rw [dynF.eq_def]
theorem dynF_append : ∀ a b : Fl, dynF (a ++ b) = dynF a + dynF b
  | [], b => by rw [dynF_nil]; simp
  | p :: a, b => by rw [List.cons_append, dynF_cons, dynF_cons, dynF_append a b]; omega

theorem dynF_sub {a b : Fl} (h : a.Sublist b) : dynF a ≤ dynF b := by
  induction h with
  | slnil => exact Nat.le_refl _
  | cons p _ ih => rw [dynF_cons]; omega
  | cons_cons p _ ih => rw [dynF_cons, dynF_cons]; omega

theorem dynF_perm {a b : Fl} (h : a.Perm b) : dynF a = dynF b := by
  induction h with
  | nil => rfl
  | cons x _ ih => rw [dynF_cons, dynF_cons, ih]
  | swap x y l => rw [dynF_cons, dynF_cons, dynF_cons, dynF_cons]; omega
  | trans _ _ h1 h2 => exact h1.trans h2

theorem stT_dyn : ∀ t, stT t → dynT t = 0 :=
  Ut.ind fun k n fs tl ih h => by
    rw [stT_mk] at h
    rw [dynT_mk, if_neg h.1]
    have : ∀ gs : Fl, (∀ p ∈ gs, dynT p.2 = 0) → dynF gs = 0 := by
      intro gs
      induction gs with
      | nil => intro _; exact dynF_nil
      | cons g gs ih2 =>
        intro h
        rw [dynF_cons, h g (by simp), ih2 fun p hp => h p (by simp [hp])]
    rw [this fs fun p hp => ih p hp (h.2 p hp)]

theorem stcF_next {L : Sorts} : ∀ {fs : Fl} (_ : ∀ p ∈ fs, ∀ m, (okT L p.2) → (stc m p.2).2 = m + (dynT p.2 : Nat)) (m : Int), (∀ p ∈ fs, okT L p.2) → (stcF m fs).2 = m + (dynF fs : Nat)
  | [], _, m, _ => by rw [stcF_nil, dynF_nil]; simp
  | p :: fs, h, m, ho => by
    rw [stcF_cons, dynF_cons]
    simp only
    rw [stcF_next (fs := fs) (fun q hq => h q (by simp [hq])) _ fun q hq => ho q (by simp [hq]), h p (by simp) m (ho p (by simp))]
    omega

/-- So many fresh numbers as there are ?s. -/
theorem stc_next {L : Sorts} : ∀ (t : Ut) (m : Int), okT L t → (stc m t).2 = m + (dynT t : Nat) :=
  Ut.ind fun k n fs tl ih m ho => by
    rw [okT_mk] at ho
    rw [stc_mk, dynT_mk]
    by_cases hk : k = 0
    · rw [if_pos hk, if_pos hk, (ho.1.2.1 (.inl hk)).1, dynF_nil]
      rfl
    · rw [if_neg hk, if_neg hk]
      simp only [Nat.zero_add]
      exact stcF_next (L := L) (fun p hp m ho => ih p hp m ho) m ho.2

/-- No number is below zero. -/
def nnT : Ut → Prop
  | .mk k n fs tl => (k = 8 → 0 ≤ n) ∧ (∀ p, tl = some p → 0 ≤ p) ∧ ∀ p ∈ fs, nnT p.2
termination_by t => SizeOf.sizeOf t
decreasing_by exact Ut.size_mem (by assumption)

theorem nnT_mk {k n : Int} {fs : Fl} {tl : Option Int} : nnT (.mk k n fs tl) ↔ (k = 8 → 0 ≤ n) ∧ (∀ p, tl = some p → 0 ≤ p) ∧ ∀ p ∈ fs, nnT p.2 := by rw [nnT]

theorem stc_nn {L : Sorts} : ∀ (t : Ut) (m : Int), 0 ≤ m → okT L t → nnT t → nnT (stc m t).1 :=
  Ut.ind fun k n fs tl ih m hm ho h => by
    rw [okT_mk] at ho
    rw [nnT_mk] at h
    rw [stc_mk]
    by_cases hk : k = 0
    · rw [if_pos hk, nnT_mk]
      exact ⟨fun _ => hm, (fun p hp => by cases hp), (fun p hp => by simp at hp)⟩
    · rw [if_neg hk, nnT_mk]
      refine ⟨h.1, h.2.1, ?_⟩
      have key : ∀ (gs : Fl) (m : Int), 0 ≤ m → (∀ p ∈ gs, okT L p.2 ∧ ∀ m, 0 ≤ m → nnT (stc m p.2).1) → ∀ p ∈ (stcF m gs).1, nnT p.2 := by
        intro gs
        induction gs with
        | nil => intro m _ _ p hp; rw [stcF_nil] at hp; simp at hp
        | cons g gs ih2 =>
          intro m hm h p hp
          rw [stcF_cons] at hp
          rcases List.mem_cons.1 hp with rfl | hp
          · exact (h g (by simp)).2 m hm
          · refine ih2 _ ?_ (fun p hp => h p (by simp [hp])) p hp
            rw [stc_next g.2 m (h g (by simp)).1]
            omega
      exact key fs m hm fun p hp => ⟨ho.2 p hp, fun m hm => ih p hp m hm (ho.2 p hp) (h.2.2 p hp)⟩

structure Kn.Nn (S : Kn) : Prop where
  m : 0 ≤ S.m
  d : ∀ v t, S.κ v = some t → 0 ≤ v ∧ nnT t

section
variable {S : Kn}

theorem un_upd (h : S.Inv) (hn : S.Nn) {v : Int} {t : Ut} (hv : S.κ v = none) (h0 : 0 ≤ v) (hvm : v < S.m) (ho : okT S.L t) {S' : Kn} (hκ : S'.κ = upd S.κ v (stc S.m t).1) (hm : S'.m = (stc S.m t).2) : S'.un + 1 = S.un + dynT t := by
  unfold Kn.un
  rw [hκ, hm, stc_next t S.m ho]
  have hm0 := hn.m
  rw [show (S.m + (dynT t : Nat)).toNat = S.m.toNat + dynT t by omega]
  have h1 : cnt (fun i => (S.κ (i : Int)).isNone) (S.m.toNat + dynT t) = cnt (fun i => (S.κ (i : Int)).isNone) S.m.toNat + dynT t :=
    cnt_more fun i h1 h2 => by rw [h.free (by omega)]; rfl
  have h2 := cnt_upd (p := fun i => (S.κ (i : Int)).isNone) (q := fun i => (upd S.κ v (stc S.m t).1 (i : Int)).isNone) (v := v.toNat) (by
      show (S.κ ((v.toNat : Nat) : Int)).isNone = true
      rw [Int.toNat_of_nonneg h0, hv]
      rfl) (by
      show (upd S.κ v (stc S.m t).1 ((v.toNat : Nat) : Int)).isNone = false
      rw [Int.toNat_of_nonneg h0, upd_same]
      rfl) (fun i hi => by
      show (upd S.κ v (stc S.m t).1 (i : Int)).isNone = (S.κ (i : Int)).isNone
      rw [upd_other (by omega)]) (n := S.m.toNat + dynT t) (by omega)
  omega

theorem un_bindV (h : S.Inv) (hn : S.Nn) {v : Int} {t : Ut} (hv : S.κ v = none) (h0 : 0 ≤ v) (hvm : v < S.m) (ho : okT S.L t) : (S.bindV v t).un + 1 = S.un + dynT t := un_upd h hn hv h0 hvm ho rfl rfl
theorem un_bindT (h : S.Inv) (hn : S.Nn) {v : Int} {t : Ut} (hv : S.κ v = none) (h0 : 0 ≤ v) (hvm : v < S.m) (ho : okT S.L t) : (S.bindT v t).un + 1 = S.un + dynT t := un_upd h hn hv h0 hvm ho rfl rfl

theorem un_freshT (h : S.Inv) (hn : S.Nn) (ls : List Lb) : (S.freshT ls).un = S.un + 1 := by
  unfold Kn.un
  have hm0 := hn.m
  rw [show (S.freshT ls).m.toNat = S.m.toNat + 1 by show (S.m + 1).toNat = _; omega]
  exact cnt_more fun i h1 h2 => by
    show (S.κ (i : Int)).isNone = true
    rw [h.free (by omega)]
    rfl

theorem Kn.Nn.upd (hn : S.Nn) {v : Int} {t : Ut} (h0 : 0 ≤ v) (ho : okT S.L t) (ht : nnT t) {S' : Kn} (hκ : S'.κ = Proofs.Ytblfeokjlecgkaa.upd S.κ v (stc S.m t).1) (hm : S'.m = (stc S.m t).2) : S'.Nn := by
  have := hn.m
  refine ⟨by rw [hm, stc_next t S.m ho]; omega, fun u s hu => ?_⟩
  rw [hκ] at hu
  by_cases e : u = v
  · subst e
    rw [upd_same] at hu
    injection hu with hu
    subst hu
    exact ⟨h0, stc_nn t S.m hn.m ho ht⟩
  · rw [upd_other e] at hu
    exact hn.d u s hu

theorem Kn.Nn.bindV (hn : S.Nn) {v : Int} {t : Ut} (h0 : 0 ≤ v) (ho : okT S.L t) (ht : nnT t) : (S.bindV v t).Nn := hn.upd h0 ho ht rfl rfl
theorem Kn.Nn.bindT (hn : S.Nn) {v : Int} {t : Ut} (h0 : 0 ≤ v) (ho : okT S.L t) (ht : nnT t) : (S.bindT v t).Nn := hn.upd h0 ho ht rfl rfl
theorem Kn.Nn.freshT (hn : S.Nn) (ls : List Lb) : (S.freshT ls).Nn := ⟨by show 0 ≤ S.m + 1; have := hn.m; omega, hn.d⟩
end

end Go.Proofs.Ytblfeokjlecgkaa

/- Trees of nodes: depth, place, printed text (no program in sight). -/
namespace Go.Proofs.Ytblfeokjlecgkaa

/-- A type: its root, its tree. -/
theorem right_parts {T : List Nd} (h : rightB T = true) : treeP T 100 0 = some T.length ∧ T.length ≤ 10000 ∧ ∃ x ys, T = x :: ys ∧ x.s = ByteArray.empty ∧ x.k ≠ 9 := by
  unfold rightB at h
  simp only [Bool.and_eq_true, decide_eq_true_eq] at h
  obtain ⟨⟨h1, h2⟩, h3⟩ := h
  refine ⟨h3, h1, ?_⟩
  match T, h2 with
  | x :: ys, h2 =>
    unfold rootOk at h2
    simp at h2
    exact ⟨x, ys, rfl, h2.1, h2.2⟩
end Go.Proofs.Ytblfeokjlecgkaa

/- Types and functions' types (no program in sight). -/
namespace Go.Proofs.Ytblfeokjlecgkaa

/-- What is known of a type's nodes. -/
structure IsT (T : List Nd) : Prop where
  tree : treeP T 100 0 = some T.length
  len : T.length ≤ 10000
  root : ∃ x ys, T = x :: ys ∧ x.s = ByteArray.empty ∧ x.k ≠ 9
  fo : Fo 1 T
  ok : okAll T
  right : rightB T = true

theorem IsT.ne {T : List Nd} (h : IsT T) : T ≠ [] := by
  obtain ⟨x, ys, rfl, _⟩ := h.root
  simp

section
variable {a b : List Nd}

end

theorem OwnL.le_cap {α : Type} {e size : Nat} {enc : α → List Value} {w : World} {base : Nat} {A : Option Addr} {cap : Nat} {l : List α} (h : OwnL e size enc w base A cap l) : l.length ≤ cap := by
  rcases h.2 with ⟨hv, hn⟩ | ⟨g, cap', cur, hv, _, _, hnc, _⟩
  · rw [hn]; exact Nat.zero_le _
  · injection hv with _ _ hc
    rw [hc]
    exact hnc
end Go.Proofs.Ytblfeokjlecgkaa

/- What is printed tells the type: the plain law of TyPrints. -/
namespace Go.Proofs.Ytblfeokjlecgkaa

/-- Plain trees, so many, that stand in a node of kind p; at most so deep. -/
inductive PF : Nat → Int → Nat → List Nd → Prop
  | nil (f : Nat) (p : Int) : PF f p 0 []
  | cons {f : Nat} {p : Int} {n : Nat} {x : Nd} {ks rs : List Nd} (h1 : PF f x.k (manyN x) ks) (h2 : PF (f + 1) p n rs) (h3 : okNode x.k x.n = true) (h4 : x.k ≤ 7) (h5 : labelB p x.s = true) : PF (f + 1) p (n + 1) (x :: (ks ++ rs))

theorem PF.fo {f : Nat} {p : Int} {n : Nat} {ks : List Nd} (h : PF f p n ks) : Fo n ks := by
  induction h with
  | nil => exact Fo.zero
  | cons _ _ _ _ _ ih1 ih2 => exact ih1.cons ih2

theorem PF.none {f : Nat} {p : Int} {n : Nat} {ks : List Nd} (h : PF f p n ks) (hn : n = 0) : ks = [] := by
  cases h with
  | nil => rfl
  | cons => cases hn

end Go.Proofs.Ytblfeokjlecgkaa

/- So many trees, each by itself. -/
namespace Go.Proofs.Ytblfeokjlecgkaa

/-- A row of nodes is so many trees. -/
structure Trees (n : Nat) (ks : List Nd) (tss : List (List Nd)) : Prop where
  len : tss.length = n
  flat : tss.flatten = ks
  one : ∀ ts ∈ tss, Fo 1 ts

/-- The first so many trees. -/
def splitF : Nat → List Nd → List (List Nd)
  | 0, _ => []
  | n + 1, xs => xs.take (xs.length - (rest1 xs).length) :: splitF n (rest1 xs)

theorem splitF_app : ∀ (n : Nat) (ks r : List Nd), Fo n ks → splitF n (ks ++ r) = splitF n ks ∧ Trees n ks (splitF n ks)
  | 0, ks, r, h => by
    have := h.of_zero
    subst this
    exact ⟨rfl, rfl, rfl, fun ts hts => by simp [splitF] at hts⟩
  | n + 1, ks, r, h => by
    obtain ⟨ts, rs, rfl, h1, h2⟩ := h.first
    obtain ⟨e1, e2⟩ := splitF_app n rs r h2
    have hr1 : rest1 (ts ++ (rs ++ r)) = rs ++ r := rest1_fo h1
    have hr2 : rest1 (ts ++ rs) = rs := rest1_fo h1
    have s1 : splitF (n + 1) (ts ++ rs ++ r) = ts :: splitF n rs := by
      simp only [splitF]
      rw [List.append_assoc, hr1, e1]
      congr 1
      rw [List.length_append, Nat.add_sub_cancel]
      exact List.take_left
    have s2 : splitF (n + 1) (ts ++ rs) = ts :: splitF n rs := by
      simp only [splitF]
      rw [hr2, List.length_append, Nat.add_sub_cancel]
      congr 1
      exact List.take_left
    refine ⟨by rw [s1, s2], ?_⟩
    rw [s2]
    refine ⟨by simp [e2.len], by simp [e2.flat], fun t ht => ?_⟩
    rcases List.mem_cons.1 ht with rfl | ht
    · exact h1
    · exact e2.one t ht

theorem trees_of {n : Nat} {ks : List Nd} (h : Fo n ks) : Trees n ks (splitF n ks) := (splitF_app n ks [] h).2

theorem Trees.fo {n : Nat} {ks : List Nd} {tss : List (List Nd)} (h : Trees n ks tss) : Fo n ks := by
  obtain ⟨h1, h2, h3⟩ := h
  subst h1 h2
  induction tss with
  | nil => exact Fo.zero
  | cons t tss ih =>
    rw [List.flatten_cons, List.length_cons, Nat.add_comm]
    exact (h3 t (by simp)).append (ih fun ts hts => h3 ts (by simp [hts]))

theorem Trees.ne {n : Nat} {ks : List Nd} {tss : List (List Nd)} (h : Trees n ks tss) {ts : List Nd} (ht : ts ∈ tss) : ts ≠ [] := by
  intro e
  have := (h.one ts ht).pos
  rw [e] at this
  simp at this

/-- The trees of a row of nodes are told by it. -/
theorem Trees.uniq {n : Nat} {ks : List Nd} {tss : List (List Nd)} (h : Trees n ks tss) : tss = splitF n ks := by
  obtain ⟨h1, h2, h3⟩ := h
  subst h1 h2
  induction tss with
  | nil => rfl
  | cons t tss ih =>
    rw [List.flatten_cons, List.length_cons]
    simp only [splitF]
    rw [rest1_fo (h3 t (by simp)), List.length_append, Nat.add_sub_cancel, List.take_left, ← ih fun ts hts => h3 ts (by simp [hts])]

end Go.Proofs.Ytblfeokjlecgkaa

/- What stands while a law is walked: one fact, carried over each call. -/
namespace Go.Proofs.Ytblfeokjlecgkaa
open Go.RowKit

/-- What stands wherever all that was there stands. -/
def Keep (P : World → Prop) : Prop := ∀ w w' : World, P w → Below w.heap.size w w' → P w'

theorem Keep.and {P Q : World → Prop} (h : Keep P) (k : Keep Q) : Keep fun w => P w ∧ Q w := fun w w' hp hb => ⟨h w w' hp.1 hb, k w w' hp.2 hb⟩
theorem keep_read {α : Type} (size : Nat) (enc : α → List Value) (A : Option Addr) (l : List α) : Keep fun w => ReadL size enc w w.heap.size A l := fun _ _ h hb => (h.below hb).more hb.size
/-- The call began in w0; what stands now. -/
structure Mem (w0 : World) (P : World → Prop) (w : World) : Prop where
  ext : Below w0.heap.size w0 w
  p : P w
  keep : Keep P

theorem Mem.start {P : World → Prop} {w : World} (h : P w) (k : Keep P) : Mem w P w := ⟨Below.refl _ _, h, k⟩
theorem Mem.step {w0 w w' : World} {P : World → Prop} (h : Mem w0 P w) (hb : Below w.heap.size w w') : Mem w0 P w' := ⟨ext_trans h.ext hb, h.keep _ _ h.p hb, h.keep⟩
theorem Mem.drewN {w0 w : World} {P : World → Prop} (h : Mem w0 P w) (n : Nat) : Mem w0 P (w.drewN n) := h.step (ext_drewN (Below.refl _ _) n)
theorem Mem.add {w0 w : World} {P Q : World → Prop} (h : Mem w0 P w) (q : Q w) (k : Keep Q) : Mem w0 (fun v => P v ∧ Q v) w := ⟨h.ext, ⟨h.p, q⟩, h.keep.and k⟩
theorem Mem.drop {w0 w : World} {P Q : World → Prop} (h : Mem w0 P w) (f : ∀ v, P v → Q v) (k : Keep Q) : Mem w0 Q w := ⟨h.ext, f _ h.p, k⟩

end Go.Proofs.Ytblfeokjlecgkaa

/- Rows in blocks of their own: what a write into one leaves of another. -/
namespace Go.Proofs.Ytblfeokjlecgkaa
open Go.RowKit

/-- Two addresses lie in two blocks. -/
def Off (A B : Option Addr) : Prop := ∀ a b, A = some a → B = some b → a.block ≠ b.block

theorem Off.symm {A B : Option Addr} (h : Off A B) : Off B A := fun a b ha hb e => h b a hb ha e.symm

theorem ReadL.grown {α : Type} {size : Nat} {enc : α → List Value} {w w' : World} {B : Nat} {A X : Option Addr} {l : List α} {n c : Nat} (h : ReadL size enc w B X l) (hB : B ≤ w.heap.size) (hg : w.grownBy w' ((Value.slice A n c).ownBlock)) (ho : Off A X) : ReadL size enc w' B X l := fun hne => by
  obtain ⟨b, o, rfl, hb, hc⟩ := h hne
  refine ⟨b, o, rfl, hb, fun i x hx j u hu => ?_⟩
  have hblk := hg.block b (by omega) (fun e => by
    obtain ⟨a, ha, hab⟩ := ownBlock_of e.symm
    exact ho a _ ha rfl (by rw [hab]))
  rw [World.cell?_of_block (a := ⟨b, o + i * size + j, none⟩) hblk]
  exact hc i x hx j u hu

theorem TyA.grown {w w' : World} {B : Nat} {A X : Option Addr} {xs : List Nd} {n c : Nat} (h : TyA w B X xs) (hB : B ≤ w.heap.size) (hg : w.grownBy w' ((Value.slice A n c).ownBlock)) (ho : Off A X) : TyA w' B X xs :=
  ReadL.tyA (ReadL.grown h.readL hB hg ho)

theorem Off.app {A A' X : Option Addr} {n c n' c' N : Nat} (h : Off A X) (hA : (Value.slice A' n' c').ownBlock = (Value.slice A n c).ownBlock ∨ (Value.slice A' n' c').ownBlock = some N) (hX : ∀ x, X = some x → x.block < N) : Off A' X := fun a x ha hx e => by
  subst ha hx
  rcases hA with hA | hA
  · obtain ⟨b, hb, hbe⟩ := ownBlock_of (hA.symm.trans (show (Value.slice (some a) n' c').ownBlock = some a.block from rfl))
    exact h b x hb rfl (by rw [hbe, e])
  · have : a.block = N := by simpa [Value.ownBlock] using hA
    have := hX x rfl
    omega

theorem OwnL.lt {α : Type} {e size base : Nat} {enc : α → List Value} {w : World} {A : Option Addr} {cap : Nat} {l : List α} (h : OwnL e size enc w base A cap l) : ∀ a, A = some a → base ≤ a.block ∧ a.block < w.heap.size := fun a ha => by
  subst ha
  exact OwnL.block h a.block rfl

theorem kept_off {α : Type} {e size base n c : Nat} {enc : α → List Value} {A X : Option Addr} {cap : Nat} {l : List α} {w w' : World} (h : OwnL e size enc w base X cap l) (hg : w.grownBy w' ((Value.slice A n c).ownBlock)) (ho : Off A X) : OwnL e size enc w' base X cap l :=
  OwnL.kept h hg fun k hk a ha e2 => by
    obtain ⟨b, hb, hbe⟩ := ownBlock_of hk
    exact ho b a hb ha (by rw [hbe, e2])

end Go.Proofs.Ytblfeokjlecgkaa

/- End, Kids and Part of a type, at whatever place: the program's and the document's answers, by the same words. -/
namespace Go.Proofs.Ytblfeokjlecgkaa
open Go.RowKit

/-- The tree at a place. -/
def sub (T : List Nd) (i : Nat) : List Nd := (T.drop i).take (endGo (T.drop i) 1 i - i)

variable (A : Option Addr) (c : Nat) (T : List Nd) (i : Int) (w : World)

end Go.Proofs.Ytblfeokjlecgkaa

/- byLabel, and the function value that asks whether two labels are one. -/
namespace Go.Proofs.Ytblfeokjlecgkaa
open Go.RowKit

end Go.Proofs.Ytblfeokjlecgkaa

/- Types sorted by their labels. -/
namespace Go.Proofs.Ytblfeokjlecgkaa
open Go.RowKit

/-- The labels of types. -/
def labsT (tss : List (List Nd)) : List ByteArray := tss.map fun t => (headNd t).s

end Go.Proofs.Ytblfeokjlecgkaa

/- slices.Clone and slices.CompactFunc at rows of types. -/
namespace Go.Proofs.Ytblfeokjlecgkaa
open Go.RowKit

/-- No two neighbours below a place are one. -/
def AdjOk (ls : List ByteArray) (n : Nat) : Prop := ∀ j, 1 ≤ j → j < n → lab ls j ≠ lab ls (j - 1)

theorem AdjOk.one {ls : List ByteArray} {n : Nat} (h : n < 2) : AdjOk ls n := fun j h1 h2 => by omega
theorem AdjOk.step {ls : List ByteArray} {k : Nat} (h : AdjOk ls k) (hne : lab ls k ≠ lab ls (k - 1)) : AdjOk ls (k + 1) := fun j h1 h2 => by
  by_cases hj : j = k
  · subst hj; exact hne
  · exact h j h1 (by omega)

end Go.Proofs.Ytblfeokjlecgkaa

/- term.cut, term.joined, wrong.error. -/
namespace Go.Proofs.Ytblfeokjlecgkaa
open Go.RowKit

/-- Whether the last child is a tail. -/
def tailB (tss : List (List Nd)) : Bool := match tss.getLast? with
  | none => false
  | some t => (headNd t).k == 9

def tq (tss : List (List Nd)) (i : Nat) : List Nd := (tss[i]?).getD []

end Go.Proofs.Ytblfeokjlecgkaa

/- term.joined of no children at all. -/
namespace Go.Proofs.Ytblfeokjlecgkaa
open Go.RowKit

end Go.Proofs.Ytblfeokjlecgkaa

/- An append onto a slice of types that is full: all is copied. -/
namespace Go.Proofs.Ytblfeokjlecgkaa
open Go.RowKit

end Go.Proofs.Ytblfeokjlecgkaa

/- What Put's closures see of their boxes; the rows of a put, as data. -/
namespace Go.Proofs.Ytblfeokjlecgkaa
open Go.RowKit

/-- The boxes of Put: the number, what is put, the three flags. -/
structure PEnv (w : World) (n : Int) (U : Option Addr) (uc : Nat) (u : List Nd) (gn gb gu : Nat) (k t m : Bool) : Prop where
  cn : w.cell? ⟨gn, 0, none⟩ = some (.int .i64 n)
  cu : w.cell? ⟨gu, 0, none⟩ = some (.slice U u.length uc)
  b0 : w.cell? ⟨gb, 0, none⟩ = some (.bool k)
  b1 : w.cell? ⟨gb, 1, none⟩ = some (.bool t)
  b2 : w.cell? ⟨gb, 2, none⟩ = some (.bool m)
  f0 : w.frozen? ⟨gb, 0, none⟩ = false
  f1 : w.frozen? ⟨gb, 1, none⟩ = false
  f2 : w.frozen? ⟨gb, 2, none⟩ = false
  ln : gn < w.heap.size
  lb : gb < w.heap.size
  lu : gu < w.heap.size
  nb : gn ≠ gb
  ub : gu ≠ gb

theorem PEnv.below {w w' : World} {n : Int} {U : Option Addr} {uc : Nat} {u : List Nd} {gn gb gu : Nat} {k t m : Bool} (h : PEnv w n U uc u gn gb gu k t m) {B : Nat} (hb : Below B w w') (h1 : gn < B) (h2 : gb < B) (h3 : gu < B) : PEnv w' n U uc u gn gb gu k t m :=
  ⟨(hb.cell (p := ⟨gn, 0, none⟩) h1).trans h.cn, (hb.cell (p := ⟨gu, 0, none⟩) h3).trans h.cu, (hb.cell (p := ⟨gb, 0, none⟩) h2).trans h.b0, (hb.cell (p := ⟨gb, 1, none⟩) h2).trans h.b1, (hb.cell (p := ⟨gb, 2, none⟩) h2).trans h.b2,
    (hb.frozen (p := ⟨gb, 0, none⟩) h2).trans h.f0, (hb.frozen (p := ⟨gb, 1, none⟩) h2).trans h.f1, (hb.frozen (p := ⟨gb, 2, none⟩) h2).trans h.f2,
    Nat.lt_of_lt_of_le h.ln hb.size, Nat.lt_of_lt_of_le h.lb hb.size, Nat.lt_of_lt_of_le h.lu hb.size, h.nb, h.ub⟩

theorem PEnv.set {w : World} {n : Int} {U : Option Addr} {uc : Nat} {u : List Nd} {gn gb gu : Nat} {k t m : Bool} (h : PEnv w n U uc u gn gb gu k t m) (j : Nat) (v : Bool) (_hj : j < 3) :
    PEnv (w.setCell ⟨gb, j, none⟩ (.bool v)) n U uc u gn gb gu (if j = 0 then v else k) (if j = 1 then v else t) (if j = 2 then v else m) := by
  have key : ∀ (i : Nat) (a : Bool), i < 3 → w.cell? ⟨gb, i, none⟩ = some (.bool a) → (w.setCell ⟨gb, j, none⟩ (.bool v)).cell? ⟨gb, i, none⟩ = some (.bool (if j = i then v else a)) := by
    intro i a _ ha
    by_cases e : j = i
    · subst e
      rw [if_pos rfl]
      exact World.cell?_setCell_same' _ _ _ (by rw [ha]; rfl)
    · rw [if_neg e]
      have hne : (⟨gb, j, none⟩ : Addr) ≠ ⟨gb, i, none⟩ := fun e2 => by injection e2 with _ e3; exact e e3
      exact Eq.trans (by apply World.cell?_setCell_other; exact hne) ha
  refine ⟨?_, ?_, key 0 k (by omega) h.b0, key 1 t (by omega) h.b1, key 2 m (by omega) h.b2, ?_, ?_, ?_, ?_, ?_, ?_, h.nb, h.ub⟩
  · rw [World.cell?_setCell_far _ _ _ _ (fun e => h.nb (by simpa using e.symm))]; exact h.cn
  · rw [World.cell?_setCell_far _ _ _ _ (fun e => h.ub (by simpa using e.symm))]; exact h.cu
  · rw [World.frozen?_setCell]; exact h.f0
  · rw [World.frozen?_setCell]; exact h.f1
  · rw [World.frozen?_setCell]; exact h.f2
  · have := h.ln; simpa [World.setCell] using this
  · have := h.lb; simpa [World.setCell] using this
  · have := h.lu; simpa [World.setCell] using this

/-- Slices that lie outside of one block. -/
def AllOff (gb : Nat) (vs : List (Option Addr × Nat × Nat)) : Prop := ∀ q ∈ vs, Off (some ⟨gb, 0, none⟩) q.1

/-- The children of a row but for its tail; its tail. -/
def lOf (tss : List (List Nd)) : List (List Nd) := if tailB tss then tss.take (tss.length - 1) else tss
def tOf (tss : List (List Nd)) : List (List Nd) := if tailB tss then tss.drop (tss.length - 1) else []

theorem lOf_tOf (tss : List (List Nd)) : lOf tss ++ tOf tss = tss := by
  unfold lOf tOf
  split
  · exact List.take_append_drop _ _
  · simp

/-- Whether the tail bears the number. -/
def hitB (n : Int) (tss : List (List Nd)) : Bool := match tOf tss with
  | [] => false
  | t :: _ => (headNd t).n == n

/-- A row's children and tail behind what is put for its tail. -/
def RowMid (n : Int) (utss outs l tl : List (List Nd)) : Prop :=
  if hitB n outs then tl = tOf utss ∧ ∃ os : List Nat, os.Perm (List.range (lOf outs ++ lOf utss).length) ∧ os.Pairwise (fun i j => ltB (lab (labsT (lOf outs ++ lOf utss)) j) (lab (labsT (lOf outs ++ lOf utss)) i) = false) ∧ l = os.map (tq (lOf outs ++ lOf utss))
  else l = lOf outs ∧ tl = tOf outs

def rowK (n : Int) (uk xk : Int) (outs : List (List Nd)) : Bool := hitB n outs && uk != xk
def rowT (n : Int) (uk xk : Int) (utss outs : List (List Nd)) : Bool := hitB n outs && (!decide (labsT (lOf outs ++ lOf utss)).Nodup && uk == xk)
def rowN (n : Int) (utss outs : List (List Nd)) : Nat := if hitB n outs then (lOf outs ++ lOf utss).length + (tOf utss).length else outs.length
def rowM (n : Int) (utss outs : List (List Nd)) : Bool := decide (50 < rowN n utss outs)

/-- What a row becomes. -/
def RowTo (n : Int) (x : Nd) (utss outs : List (List Nd)) (out : List Nd) : Prop :=
  ∃ l tl, RowMid n utss outs l tl ∧ out = ⟨x.k, x.s, (l.length + tl.length : Nat)⟩ :: (l ++ tl).flatten

theorem RowMid.len {n : Int} {utss outs l tl : List (List Nd)} (h : RowMid n utss outs l tl) : l.length + tl.length = rowN n utss outs := by
  unfold RowMid at h
  unfold rowN
  split at h
  · next hh =>
    obtain ⟨rfl, os, hp, _, rfl⟩ := h
    rw [if_pos hh, List.length_map, hp.length_eq, List.length_range]
  · next hh =>
    obtain ⟨rfl, rfl⟩ := h
    rw [if_neg hh, ← List.length_append, lOf_tOf]

theorem AllOff.take {gb : Nat} {vs : List (Option Addr × Nat × Nat)} (h : AllOff gb vs) (j : Nat) : AllOff gb (vs.take j) := fun q hq => h q (List.mem_of_mem_take hq)
theorem AllOff.drop {gb : Nat} {vs : List (Option Addr × Nat × Nat)} (h : AllOff gb vs) (j : Nat) : AllOff gb (vs.drop j) := fun q hq => h q (List.mem_of_mem_drop hq)
theorem Off.at_ {X : Option Addr} {b o o' : Nat} (h : Off X (some ⟨b, o, none⟩)) : Off X (some ⟨b, o', none⟩) := fun p q hp hq => by
  injection hq with hq
  subst hq
  exact h p ⟨b, o, none⟩ hp rfl

theorem below_grown {w w' : World} (h : Below w.heap.size w w') (row : Option Nat) : w.grownBy w' row := ⟨h.os, h.tape, h.output, h.size, fun k hk _ => h.block k hk⟩
end Go.Proofs.Ytblfeokjlecgkaa

/- slices.Concat of two. -/
namespace Go.Proofs.Ytblfeokjlecgkaa
open Go.RowKit

end Go.Proofs.Ytblfeokjlecgkaa
