/- Laid together by a tool from the texts of this seat: UniD UniE UniF. Conditions: each theorem's own. -/
import Derived.Test.YtblfeokjlecgkaaO08
import Derived.Test.YtblfeokjlecgkaaO10
/- The plain theory of trees that are made to agree: written in parts, put together by asm_uni.sh. -/
namespace Go.Proofs.Ytblfeokjlecgkaa

/-! ### Variants -/

/-- Numbers turned. -/
def renT (ρ : Int → Int) : Ut → Ut
  | .mk k n fs tl => .mk k (if k = 8 then ρ n else n) (fs.map fun p => (p.1, renT ρ p.2)) (tl.map ρ)
termination_by t => SizeOf.sizeOf t
decreasing_by exact Ut.size_mem (by assumption)

theorem renT_mk (ρ : Int → Int) (k n : Int) (fs : Fl) (tl : Option Int) : renT ρ (.mk k n fs tl) = .mk k (if k = 8 then ρ n else n) (mapF (renT ρ) fs) (tl.map ρ) := by
  rw [renT]
  rfl

/-- The number of what stands for a number. -/
def renOf (L : Sorts) (τ : Va) (n : Int) : Int := match L n with
  | none => (τ.v n).n
  | some _ => (τ.t n).2.getD 0

theorem mapF_len (f : Ut → Ut) (l : Fl) : (mapF f l).length = l.length := by simp [mapF]

theorem rise_mapF {f : Ut → Ut} {l : Fl} (h : Rise l) : Rise (mapF f l) := by
  unfold Rise mapF
  exact List.pairwise_map.2 h

/-- What is turned back to itself was but renamed. -/
theorem inst_ren {L L1 : Sorts} {τ τ' : Va} : ∀ t, okT L t → riT t → okT L1 (inst τ t) → inst τ' (inst τ t) = t →
    inst τ t = renT (renOf L τ) t ∧ ∀ n, occN n t → renOf L1 τ' (renOf L τ n) = n :=
  Ut.ind fun k n fs tl ih ho hr ho1 h => by
    rw [okT_mk] at ho
    rw [riT_mk] at hr
    by_cases h8 : k = 8
    · obtain ⟨e1, e2⟩ := ho.1.2.1 (.inr h8)
      have hl := ho.1.2.2.1 h8
      subst e1 e2 h8
      rw [inst_eq, if_pos rfl] at ho1 h ⊢
      have hv : renOf L τ n = (τ.v n).n := by unfold renOf; rw [hl]
      rw [renT_mk, if_pos rfl, hv]
      cases hV : τ.v n with
      | mk k' n' fs' tl' =>
        rw [hV] at ho1 h
        rw [okT_mk] at ho1
        by_cases h8 : k' = 8
        · obtain ⟨e1, e2⟩ := ho1.1.2.1 (.inr h8)
          have hl1 := ho1.1.2.2.1 h8
          subst e1 e2 h8
          refine ⟨rfl, fun m hm => ?_⟩
          rw [occN_mk] at hm
          rcases hm with ⟨_, e⟩ | e | ⟨p, hp, _⟩
          · subst e
            rw [hv, hV]
            show renOf L1 τ' n' = n
            unfold renOf
            rw [hl1]
            rw [inst_eq, if_pos rfl] at h
            simp only
            rw [h]
            rfl
          · cases e
          · simp at hp
        · rw [inst_eq, if_neg h8] at h
          injection h with h
          exact absurd h h8
    · rw [inst_eq, if_neg h8] at ho1 h ⊢
      rw [inst_eq, if_neg h8] at h
      injection h with _ _ hfs htl
      have hlen := congrArg List.length hfs
      rw [srtF_len, List.length_append, mapF_len, srtF_len, List.length_append, mapF_len] at hlen
      have e1 : (τ.tail tl).1 = [] := List.eq_nil_of_length_eq_zero (by omega)
      have e2 : (τ'.tail (τ.tail tl).2).1 = [] := List.eq_nil_of_length_eq_zero (by omega)
      rw [e1, List.append_nil, srtF_of_rise (rise_mapF hr.1)] at hfs ho1 ⊢
      rw [e2, List.append_nil, srtF_of_rise (rise_mapF (rise_mapF hr.1)), mapF_comp] at hfs
      rw [okT_mk] at ho1
      have hch : ∀ p ∈ fs, inst τ' (inst τ p.2) = p.2 := by
        have : ∀ gs : Fl, mapF (fun t => inst τ' (inst τ t)) gs = gs → ∀ p ∈ gs, inst τ' (inst τ p.2) = p.2 := by
          intro gs
          induction gs with
          | nil => intro _ p hp; simp at hp
          | cons g gs ih2 =>
            intro h p hp
            rw [mapF_cons] at h
            injection h with h1 h2
            rcases List.mem_cons.1 hp with rfl | hp
            · exact congrArg Prod.snd h1
            · exact ih2 h2 p hp
        exact this fs hfs
      have hih := fun p hp => ih p hp (ho.2 p hp) (hr.2 p hp) (ho1.2 (p.1, inst τ p.2) (List.mem_map.2 ⟨p, hp, rfl⟩)) (hch p hp)
      have etl : (τ.tail tl).2 = tl.map (renOf L τ) ∧ ∀ p, tl = some p → renOf L1 τ' (renOf L τ p) = p := by
        cases tl with
        | none => exact ⟨rfl, fun p hp => by cases hp⟩
        | some p =>
          obtain ⟨ls, hls, _⟩ := ho.1.2.2.2.2 p rfl
          have hp : renOf L τ p = (τ.t p).2.getD 0 := by unfold renOf; rw [hls]
          cases hq : (τ.t p).2 with
          | none =>
            have : (τ'.tail (τ.t p).2).2 = some p := htl
            rw [hq] at this
            simp [Va.tail] at this
          | some q =>
            rw [hq] at hp
            have hq1 : (τ.tail (some p)).2 = some q := hq
            obtain ⟨ls1, hls1, _⟩ := ho1.1.2.2.2.2 q hq1
            refine ⟨by rw [hq1]; simp [hp], fun p' hp' => ?_⟩
            injection hp' with hp'
            subst hp'
            rw [hp]
            show renOf L1 τ' q = p
            unfold renOf
            rw [hls1]
            have : (τ'.tail (τ.t p).2).2 = some p := htl
            rw [hq] at this
            have : (τ'.t q).2 = some p := this
            simp only
            rw [this]
            rfl
      refine ⟨?_, fun m hm => ?_⟩
      · rw [renT_mk, if_neg h8, etl.1]
        congr 1
        exact mapF_congr fun p hp => (hih p hp).1
      · rw [occN_mk] at hm
        rcases hm with ⟨e, _⟩ | e | ⟨p, hp, ho⟩
        · exact absurd e h8
        · exact etl.2 m e
        · exact (hih p hp).2 m ho

/-- What holds of the first so many variables: of whatever stands for them. -/
structure Most (m0 : Int) (S : Kn) (C : Va → Prop) : Prop where
  inv : S.Inv
  m : m0 ≤ S.m
  sort : ∀ x, x < m0 → S.L x = none
  co : ∀ τ, S.Sat τ → C τ
  gen : ∀ τ : Va, (∀ n, stT (τ.v n) ∧ riT (τ.v n)) → C τ → ∃ τ', S.Sat τ' ∧ ∀ x, x < m0 → τ.v x = τ'.v x

/-- The first so many variables alone. -/
def Va.only (m0 : Int) (τ : Va) : Va := ⟨fun n => if n < m0 then τ.v n else varT n, Va.id.t⟩

/-- Two most general states of one constraint: what the variables are are variants. -/
theorem variants {m0 : Int} {S S' : Kn} {C : Va → Prop} (h : Most m0 S C) (h' : Most m0 S' C) (hC : ∀ τ τ', (∀ x, x < m0 → τ.v x = τ'.v x) → C τ → C τ') :
    ∃ ρ g : Int → Int, ∀ x, x < m0 → S'.σ.v x = renT ρ (S.σ.v x) ∧ ∀ n, occN n (S.σ.v x) → g (ρ n) = n := by
  have one : ∀ {S S' : Kn}, Most m0 S C → Most m0 S' C → ∃ τ, S.Sat τ ∧ ∀ x, x < m0 → S'.σ.v x = inst τ (S.σ.v x) := by
    intro S S' h h'
    have hc : C S'.σ := h'.co _ h'.inv.sat
    obtain ⟨τ, hτ, e⟩ := h.gen (S'.σ.only m0) (fun n => by
      show stT (if n < m0 then _ else _) ∧ riT (if n < m0 then _ else _)
      by_cases hx : n < m0
      · rw [if_pos hx]
        exact h'.inv.wf.ok.v n (h'.sort n hx)
      · rw [if_neg hx]
        exact ⟨stT_var n, riT_var n⟩) (hC S'.σ _ (fun x hx => by
      show _ = if x < m0 then _ else _
      rw [if_pos hx]) hc)
    refine ⟨τ, hτ, fun x hx => ?_⟩
    have h1 := h.inv.gen τ hτ.1 hτ.2 (varT x) (okT_var (h.sort x hx))
    rw [inst_var, inst_var] at h1
    rw [h1, ← e x hx]
    show _ = if x < m0 then _ else _
    rw [if_pos hx]
  obtain ⟨τ, hτ, e⟩ := one h h'
  obtain ⟨τ', hτ', e'⟩ := one h' h
  refine ⟨renOf S.L τ, renOf S'.L τ', fun x hx => ?_⟩
  have ho := h.inv.wf.v x (h.sort x hx)
  have hr := (h.inv.wf.ok.v x (h.sort x hx)).2
  have ho' := h'.inv.wf.v x (h'.sort x hx)
  rw [e x hx] at ho'
  obtain ⟨r1, r2⟩ := inst_ren (L := S.L) (L1 := S'.L) (τ := τ) (τ' := τ') _ ho hr ho' (by rw [← e x hx, ← e' x hx])
  exact ⟨by rw [e x hx, r1], r2⟩

end Go.Proofs.Ytblfeokjlecgkaa
namespace Go.Proofs.Ytblfeokjlecgkaa

/-! ### Variants have one canon -/

def renNd (ρ : Int → Int) (x : Nd) : Nd := if isVarB x.k = true then ⟨x.k, x.s, ρ x.n⟩ else x

section
variable {ρ g : Int → Int}

theorem posI_ren {n : Int} (hn : g (ρ n) = n) : ∀ {l : List Int}, (∀ m ∈ l, g (ρ m) = m) → posI (ρ n) (l.map ρ) = posI n l
  | [], _ => rfl
  | m :: l, h => by
    rw [List.map_cons]
    unfold posI
    rw [posI_ren hn fun m hm => h m (by simp [hm])]
    by_cases e : m = n
    · rw [if_pos e, if_pos (by rw [e])]
    · rw [if_neg e, if_neg]
      intro e2
      apply e
      rw [← h m (by simp), e2, hn]

theorem mem_ren {n : Int} (hn : g (ρ n) = n) {l : List Int} (h : ∀ m ∈ l, g (ρ m) = m) : ρ n ∈ l.map ρ ↔ n ∈ l := by
  rw [List.mem_map]
  constructor
  · rintro ⟨m, hm, e⟩
    have : m = n := by rw [← h m hm, e, hn]
    rwa [← this]
  · exact fun hm => ⟨n, hm, rfl⟩

theorem can_ren (had : List Int) (x : Nd) (h : ∀ m ∈ had, g (ρ m) = m) (hx : isVarB x.k = true → g (ρ x.n) = x.n) :
    canNd (had.map ρ) (renNd ρ x) = canNd had x ∧ seen (had.map ρ) (renNd ρ x) = (seen had x).map ρ ∧ ∀ m ∈ seen had x, g (ρ m) = m := by
  cases hv : isVarB x.k
  · have e : renNd ρ x = x := by unfold renNd; rw [if_neg (by simp [hv])]
    rw [e]
    unfold canNd seen
    simp only [hv]
    exact ⟨rfl, rfl, h⟩
  · have hx := hx hv
    have e : renNd ρ x = ⟨x.k, x.s, ρ x.n⟩ := by unfold renNd; rw [if_pos hv]
    have hs : seen (had.map ρ) (renNd ρ x) = (seen had x).map ρ := by
      rw [e]
      unfold seen
      simp only [hv, mem_ren hx h, true_and]
      split <;> simp
    have hin : ∀ m ∈ seen had x, g (ρ m) = m := by
      intro m hm
      unfold seen at hm
      split at hm
      · rcases List.mem_append.1 hm with hm | hm
        · exact h m hm
        · simp at hm; subst hm; exact hx
      · exact h m hm
    refine ⟨?_, hs, hin⟩
    unfold canNd
    rw [hs]
    rw [e]
    simp only [hv, if_true, posI_ren hx hin]

theorem canL_ren : ∀ (had : List Int) (xs : List Nd), (∀ m ∈ had, g (ρ m) = m) → (∀ x ∈ xs, isVarB x.k = true → g (ρ x.n) = x.n) →
    canL (had.map ρ) (xs.map (renNd ρ)) = canL had xs ∧ seenL (had.map ρ) (xs.map (renNd ρ)) = (seenL had xs).map ρ ∧ ∀ m ∈ seenL had xs, g (ρ m) = m
  | had, [], h, _ => ⟨rfl, rfl, h⟩
  | had, x :: xs, h, hx => by
    obtain ⟨h1, h2, h3⟩ := can_ren had x h (hx x (by simp))
    obtain ⟨k1, k2, k3⟩ := canL_ren (seen had x) xs h3 fun y hy => hx y (by simp [hy])
    refine ⟨by simp only [List.map_cons, canL, h1, h2, k1], by simp only [List.map_cons, seenL, h2, k2], k3⟩

theorem canT_ren : ∀ (had : List Int) (l : List (List Nd)), (∀ m ∈ had, g (ρ m) = m) → (∀ xs ∈ l, ∀ x ∈ xs, isVarB x.k = true → g (ρ x.n) = x.n) → canT (had.map ρ) (l.map (List.map (renNd ρ))) = canT had l
  | had, [], _, _ => rfl
  | had, t :: l, h, hx => by
    obtain ⟨h1, h2, h3⟩ := canL_ren had t h (hx t (by simp))
    simp only [List.map_cons, canT, h1, h2, canT_ren (seenL had t) l h3 fun xs hxs => hx xs (by simp [hxs])]
end

/-! ### Shapes -/

def lA : Lb := ⟨#[48]⟩
def lB : Lb := ⟨#[49]⟩

def nodeSh (k : Int) (fs : Fl) (tl : Option Int) : Prop :=
  0 ≤ k ∧ k ≤ 8 ∧ (k = 5 → (∃ a b, fs = [(lA, a), (lB, b)]) ∧ tl = none) ∧ (k ≠ 5 → isRowB k = false → fs = [] ∧ tl = none)

def shT : Ut → Prop
  | .mk k _ fs tl => nodeSh k fs tl ∧ ∀ p ∈ fs, shT p.2
termination_by t => SizeOf.sizeOf t
decreasing_by exact Ut.size_mem (by assumption)

theorem shT_mk {k n : Int} {fs : Fl} {tl : Option Int} : shT (.mk k n fs tl) ↔ nodeSh k fs tl ∧ ∀ p ∈ fs, shT p.2 := by rw [shT]

structure Va.Sh (L : Sorts) (σ : Va) : Prop where
  v : ∀ n, L n = none → shT (σ.v n)
  t : ∀ p ls, L p = some ls → ∀ q ∈ (σ.t p).1, shT q.2

theorem lA_lB : ltB lB lA = false := by decide +kernel

theorem inst_sh {L : Sorts} {σ : Va} (h : σ.Sh L) : ∀ t, okT L t → shT t → shT (inst σ t) :=
  Ut.ind fun k n fs tl ih ho hs => by
    rw [okT_mk] at ho
    rw [shT_mk] at hs
    rw [inst_eq]
    split
    · next hk => exact h.v n (ho.1.2.2.1 hk)
    · rw [shT_mk]
      refine ⟨⟨hs.1.1, hs.1.2.1, fun h5 => ?_, fun h5 hr => ?_⟩, fun p hp => ?_⟩
      · obtain ⟨⟨a, b, e⟩, e2⟩ := hs.1.2.2.1 h5
        subst e e2
        refine ⟨⟨inst σ a, inst σ b, ?_⟩, rfl⟩
        show srtF [(lA, inst σ a), (lB, inst σ b)] = _
        show insF _ (insF _ []) = _
        show insF (lA, inst σ a) [(lB, inst σ b)] = _
        rw [insF_ge lA_lB]
      · obtain ⟨e, e2⟩ := hs.1.2.2.2 h5 hr
        subst e e2
        exact ⟨rfl, rfl⟩
      · rw [srtF_mem] at hp
        rcases List.mem_append.1 hp with hp | hp
        · obtain ⟨q, hq, rfl⟩ := List.mem_map.1 hp
          exact ih q hq (ho.2 q hq) (hs.2 q hq)
        · cases tl with
          | none => simp [Va.tail] at hp
          | some r =>
            obtain ⟨ls, hls, _⟩ := ho.1.2.2.2.2 r rfl
            exact h.t r ls hls p hp

theorem shT_var (v : Int) : shT (varT v) := by
  unfold varT
  rw [shT_mk]
  exact ⟨⟨by decide, by decide, (fun h => absurd h (by decide)), fun _ _ => ⟨rfl, rfl⟩⟩, (fun p hp => by simp at hp)⟩

theorem comp_sh {L : Sorts} {τ σ : Va} (hτ : τ.Sh L) (hσ : σ.Sh L) (hw : σ.Wf L) : (τ.comp σ).Sh L := by
  refine ⟨fun n hn => inst_sh hτ _ (hw.v n hn) (hσ.v n hn), fun p ls hp q hq => ?_⟩
  obtain ⟨w1, w2⟩ := hw.t p ls hp
  have hq : q ∈ srtF (mapF (inst τ) (σ.t p).1 ++ (τ.tail (σ.t p).2).1) := hq
  rw [srtF_mem] at hq
  rcases List.mem_append.1 hq with hq | hq
  · obtain ⟨r, hr, rfl⟩ := List.mem_map.1 hq
    exact inst_sh hτ _ (w1 r hr) (hσ.t p ls hp r hr)
  · cases hq2 : (σ.t p).2 with
    | none => rw [hq2] at hq; simp [Va.tail] at hq
    | some s =>
      rw [hq2] at hq
      obtain ⟨ls', k1, _⟩ := w2 s hq2
      exact hτ.t s ls' k1 q hq

theorem stc_sh : ∀ (t : Ut) (m : Int), shT t → shT (stc m t).1 :=
  Ut.ind fun k n fs tl ih m hs => by
    rw [shT_mk] at hs
    rw [stc_mk]
    by_cases hk : k = 0
    · rw [if_pos hk]
      exact shT_var m
    · rw [if_neg hk, shT_mk]
      refine ⟨⟨hs.1.1, hs.1.2.1, fun h5 => ?_, fun h5 hr => ?_⟩, ?_⟩
      · obtain ⟨⟨a, b, e⟩, e2⟩ := hs.1.2.2.1 h5
        subst e e2
        refine ⟨?_, rfl⟩
        rw [stcF_cons, stcF_cons, stcF_nil]
        exact ⟨_, _, rfl⟩
      · obtain ⟨e, e2⟩ := hs.1.2.2.2 h5 hr
        subst e e2
        rw [stcF_nil]
        exact ⟨rfl, rfl⟩
      · have key : ∀ (gs : Fl) (m : Int), (∀ p ∈ gs, ∀ m, shT (stc m p.2).1) → ∀ p ∈ (stcF m gs).1, shT p.2 := by
          intro gs
          induction gs with
          | nil => intro m _ p hp; rw [stcF_nil] at hp; simp at hp
          | cons g gs ih2 =>
            intro m h p hp
            rw [stcF_cons] at hp
            rcases List.mem_cons.1 hp with rfl | hp
            · exact h g (by simp) m
            · exact ih2 _ (fun p hp => h p (by simp [hp])) p hp
        exact key fs m fun p hp m => ih p hp m (hs.2 p hp)

structure Kn.Sh (S : Kn) : Prop where
  d : ∀ v t, S.κ v = some t → shT t
  σ : S.σ.Sh S.L

theorem id_sh (L : Sorts) : Va.id.Sh L := ⟨fun n _ => shT_var n, fun p ls _ q hq => by simp [Va.id] at hq⟩

section
variable {S : Kn}

theorem Kn.Sh.bindV (h : S.Sh) (i : S.Inv) {v : Int} {t : Ut} (ho : okT S.L t) (hb : bdT S.m t) (ht : shT t) : (S.bindV v t).Sh := by
  obtain ⟨_, ho', _, _⟩ := stc_ok t S.m ⟨ho, hb, i.new⟩
  refine ⟨fun u s hu => ?_, comp_sh ⟨fun n hn => ?_, fun p ls _ q hq => by simp [Va.updV, Va.id] at hq⟩ h.σ i.wf⟩
  · have hu : upd S.κ v (stc S.m t).1 u = some s := hu
    by_cases e : u = v
    · subst e
      rw [upd_same] at hu
      injection hu with hu
      subst hu
      exact stc_sh t S.m ht
    · rw [upd_other e] at hu
      exact h.d u s hu
  · show shT (if n = v then _ else varT n)
    split
    · exact inst_sh h.σ _ ho' (stc_sh t S.m ht)
    · exact shT_var n

theorem Kn.Sh.freshT (h : S.Sh) (i : S.Inv) (ls : List Lb) : (S.freshT ls).Sh := by
  refine ⟨h.d, fun n hn => h.σ.v n ?_, fun p ls' hp q hq => ?_⟩
  · have hn : (if n = S.m then some ls else S.L n) = none := hn
    split at hn
    · cases hn
    · exact hn
  · by_cases e : p = S.m
    · have hq : q ∈ (S.σ.t p).1 := hq
      rw [e, (i.unk S.m (i.free (Int.le_refl _))).2] at hq
      simp at hq
    · have hp : (if p = S.m then some ls else S.L p) = some ls' := hp
      rw [if_neg e] at hp
      exact h.σ.t p ls' hp q hq

theorem Kn.Sh.bindT (h : S.Sh) (i : S.Inv) {p : Int} {ls : List Lb} {t : Ut} (r : RowFor S p ls t) (ht : shT t) : (S.bindT p t).Sh := by
  obtain ⟨_, ho', _, _⟩ := stc_ok t S.m ⟨r.ok, r.bd, i.new⟩
  have hs := inst_sh h.σ _ ho' (stc_sh t S.m ht)
  refine ⟨fun u s hu => ?_, comp_sh ⟨fun n _ => shT_var n, fun q ls' _ x hx => ?_⟩ h.σ i.wf⟩
  · have hu : upd S.κ p (stc S.m t).1 u = some s := hu
    by_cases e : u = p
    · subst e
      rw [upd_same] at hu
      injection hu with hu
      subst hu
      exact stc_sh t S.m ht
    · rw [upd_other e] at hu
      exact h.d u s hu
  · have hx : x ∈ (if q = p then ((inst S.σ (stc S.m t).1).fs, (inst S.σ (stc S.m t).1).tl) else ([], some q)).1 := hx
    split at hx
    · have key : ∀ X, shT X → ∀ x ∈ X.fs, shT x.2 := fun X h x hx => by
        obtain ⟨k, n, fs, tl⟩ := X
        rw [shT_mk] at h
        exact h.2 x hx
      exact key _ hs x hx
    · simp at hx
end

/-! ### A tree laid out -/

def tailN : Option Int → List Nd
  | none => []
  | some p => [⟨9, ByteArray.empty, p⟩]

mutual
def flT (s : Lb) : Ut → List Nd
  | .mk k n fs tl => if isRowB k = true then ⟨k, s, (fs.length + (tailN tl).length : Nat)⟩ :: (flF fs ++ tailN tl) else ⟨k, s, n⟩ :: flE fs
termination_by t => SizeOf.sizeOf t
def flF : Fl → List Nd
  | [] => []
  | p :: fs => flT p.1 p.2 ++ flF fs
termination_by fs => SizeOf.sizeOf fs
decreasing_by all_goals first | (simp; omega) | (obtain ⟨a, b⟩ := p; simp; omega)
def flE : Fl → List Nd
  | [] => []
  | p :: fs => flT ByteArray.empty p.2 ++ flE fs
termination_by fs => SizeOf.sizeOf fs
decreasing_by all_goals first | (simp; omega) | (obtain ⟨a, b⟩ := p; simp; omega)
end

theorem flT_mk (s : Lb) (k n : Int) (fs : Fl) (tl : Option Int) : flT s (.mk k n fs tl) = if isRowB k = true then ⟨k, s, (fs.length + (tailN tl).length : Nat)⟩ :: (flF fs ++ tailN tl) else ⟨k, s, n⟩ :: flE fs := by rw [flT.eq_def]
theorem flF_nil : flF [] = [] := by rw [flF.eq_def]
theorem flF_cons (p : Lb × Ut) (fs : Fl) : flF (p :: fs) = flT p.1 p.2 ++ flF fs := by rw [flF.eq_def]
theorem flE_nil : flE [] = [] := by rw [flE.eq_def]
theorem flE_cons (p : Lb × Ut) (fs : Fl) : flE (p :: fs) = flT ByteArray.empty p.2 ++ flE fs := by rw [flE.eq_def]

/-- Renamed, laid out: its nodes, renamed. (But for rows there is no number to rename; a tree without tails in non-rows.) -/
theorem flT_ren (ρ : Int → Int) : ∀ (t : Ut), (∀ L, okT L t → shT t → ∀ s, flT s (renT ρ t) = (flT s t).map (renNd ρ)) :=
  Ut.ind fun k n fs tl ih L ho hs s => by
    rw [okT_mk] at ho
    rw [shT_mk] at hs
    have hF : flF (mapF (renT ρ) fs) = (flF fs).map (renNd ρ) := by
      have : ∀ gs : Fl, (∀ p ∈ gs, ∀ s, flT s (renT ρ p.2) = (flT s p.2).map (renNd ρ)) → flF (mapF (renT ρ) gs) = (flF gs).map (renNd ρ) := by
        intro gs
        induction gs with
        | nil => intro _; show flF [] = _; rw [flF_nil]; rfl
        | cons p gs ih2 =>
          intro h
          rw [mapF_cons, flF_cons, flF_cons, List.map_append, ih2 fun q hq => h q (by simp [hq]), h p (by simp)]
      exact this fs fun p hp => ih p hp L (ho.2 p hp) (hs.2 p hp)
    have hE : flE (mapF (renT ρ) fs) = (flE fs).map (renNd ρ) := by
      have : ∀ gs : Fl, (∀ p ∈ gs, ∀ s, flT s (renT ρ p.2) = (flT s p.2).map (renNd ρ)) → flE (mapF (renT ρ) gs) = (flE gs).map (renNd ρ) := by
        intro gs
        induction gs with
        | nil => intro _; show flE [] = _; rw [flE_nil]; rfl
        | cons p gs ih2 =>
          intro h
          rw [mapF_cons, flE_cons, flE_cons, List.map_append, ih2 fun q hq => h q (by simp [hq]), h p (by simp)]
      exact this fs fun p hp => ih p hp L (ho.2 p hp) (hs.2 p hp)
    rw [renT_mk, flT_mk, flT_mk]
    by_cases hr : isRowB k = true
    · rw [if_pos hr, if_pos hr, List.map_cons, List.map_append, hF, mapF_len]
      have hv : isVarB k = false := by
        unfold isRowB at hr
        unfold isVarB
        simp only [Bool.or_eq_true, beq_iff_eq] at hr
        rcases hr with rfl | rfl <;> decide
      have e1 : ∀ m : Int, renNd ρ ⟨k, s, m⟩ = ⟨k, s, m⟩ := fun m => by unfold renNd; rw [if_neg (by simp [hv])]
      rw [e1]
      have e2 : tailN (tl.map ρ) = (tailN tl).map (renNd ρ) := by
        cases tl with
        | none => rfl
        | some p => rfl
      rw [e2, List.length_map]
    · rw [if_neg hr, if_neg hr, List.map_cons, hE]
      congr 1
      unfold renNd isVarB
      by_cases h8 : k = 8
      · subst h8
        rfl
      · have h0 := ho.1.2.2.2.1 h8
        rw [if_neg h8]
        have h9 : k ≠ 9 := by have := hs.1.2.1; omega
        rw [if_neg (by simp [h8, h9])]

end Go.Proofs.Ytblfeokjlecgkaa

/- What is known goes in no circle: a rank. -/
namespace Go.Proofs.Ytblfeokjlecgkaa

/-- A number for each variable: what a known one leads to has a smaller one. -/
def Kn.Rk (S : Kn) : Prop :=
  ∃ r : Int → Nat, (∀ v, S.κ v = none → r v = 0) ∧ ∀ v t, S.κ v = some t → 0 < r v ∧ (t.k = 8 → r t.n < r v) ∧ ∀ ls q, S.L v = some ls → t.tl = some q → r q < r v

theorem Kn.Rk.start {S : Kn} (h : ∀ v, S.κ v = none) : S.Rk := ⟨fun _ => 0, fun _ _ => rfl, fun v t e => by rw [h v] at e; cases e⟩

theorem Kn.Rk.like {S S' : Kn} (h : S.Rk) (hκ : S'.κ = S.κ) (hL : ∀ u t, S.κ u = some t → S'.L u = S.L u) : S'.Rk := by
  obtain ⟨r, h1, h2⟩ := h
  refine ⟨r, fun v hv => h1 v (by rw [← hκ]; exact hv), fun v t hv => ?_⟩
  rw [hκ] at hv
  rw [hL v t hv]
  exact h2 v t hv

theorem Kn.Rk.put {S S' : Kn} (h : S.Rk) {v : Int} {t : Ut} (hv : S.κ v = none) (hκ : S'.κ = upd S.κ v t) (hL : ∀ u s, S.κ u = some s → S'.L u = S.L u)
    (h8 : t.k = 8 → S.κ t.n = none ∧ t.n ≠ v) (ht : ∀ ls q, S'.L v = some ls → t.tl = some q → S.κ q = none ∧ q ≠ v) : S'.Rk := by
  obtain ⟨r, h1, h2⟩ := h
  have hz : ∀ u, S.κ u = none → u ≠ v → (if S'.κ u = none then 0 else if u = v then 1 else r u + 1) = 0 := fun u hu hne => by
    rw [hκ, upd_other hne, if_pos hu]
  have hle : ∀ u, (if S'.κ u = none then 0 else if u = v then 1 else r u + 1) ≤ r u + 1 := fun u => by
    split
    · omega
    · split <;> omega
  refine ⟨fun u => if S'.κ u = none then 0 else if u = v then 1 else r u + 1, fun u hu => if_pos hu, fun u s hu => ?_⟩
  have hne : ¬ S'.κ u = none := by rw [hu]; simp
  simp only
  rw [if_neg hne]
  by_cases e : u = v
  · subst e
    rw [hκ, upd_same] at hu
    injection hu with hu
    subst hu
    rw [if_pos rfl]
    refine ⟨by omega, fun h => ?_, fun ls q hls hq => ?_⟩
    · obtain ⟨a, b⟩ := h8 h
      rw [hz _ a b]
      omega
    · obtain ⟨a, b⟩ := ht ls q hls hq
      rw [hz _ a b]
      omega
  · rw [hκ, upd_other e] at hu
    rw [if_neg e]
    obtain ⟨a, b, c⟩ := h2 u s hu
    refine ⟨by omega, fun h => ?_, fun ls q hls hq => ?_⟩
    · have := hle s.n
      have := b h
      omega
    · rw [hL u s hu] at hls
      have := hle q
      have := c ls q hls hq
      omega

/-- What a Var is known as, at last. -/
inductive Looks (S : Kn) : Ut → Ut → Prop
  | here (t : Ut) (h : t.k = 8 → S.κ t.n = none) : Looks S t t
  | more (t s u : Ut) (h8 : t.k = 8) (hk : S.κ t.n = some s) (h : Looks S s u) : Looks S t u

theorem Looks.end_ {S : Kn} {t u : Ut} (h : Looks S t u) : u.k = 8 → S.κ u.n = none := by
  induction h with
  | here t h => exact h
  | more _ _ _ _ _ _ ih => exact ih

theorem looks_ex {S : Kn} (h : S.Rk) : ∀ t, ∃ u, Looks S t u := by
  obtain ⟨r, h1, h2⟩ := h
  have key : ∀ (n : Nat) (t : Ut), r t.n ≤ n → ∃ u, Looks S t u := by
    intro n
    induction n with
    | zero =>
      intro t ht
      cases hk : S.κ t.n with
      | none => exact ⟨t, .here t fun _ => hk⟩
      | some s => have := (h2 _ _ hk).1; omega
    | succ n ih =>
      intro t ht
      by_cases h8 : t.k = 8
      · cases hk : S.κ t.n with
        | none => exact ⟨t, .here t fun _ => hk⟩
        | some s =>
          by_cases hs : s.k = 8
          · obtain ⟨u, hu⟩ := ih s (by have := (h2 _ _ hk).2.1 hs; omega)
            exact ⟨u, .more t s u h8 hk hu⟩
          · exact ⟨s, .more t s s h8 hk (.here s fun e => absurd e hs)⟩
      · exact ⟨t, .here t fun e => absurd e h8⟩
  exact fun t => key _ t (Nat.le_refl _)
end Go.Proofs.Ytblfeokjlecgkaa

/- What the solver's state and trees are, all told: good states, good trees, rows to their end, sizes. -/
namespace Go.Proofs.Ytblfeokjlecgkaa

/-- More numbers are used. -/
def Kn.up (S : Kn) (m : Int) : Kn := ⟨S.κ, S.L, S.σ, m⟩

theorem Kn.Inv.up {S : Kn} (h : S.Inv) {m : Int} (hm : S.m ≤ m) : (S.up m).Inv :=
  ⟨fun v t hv => ⟨Int.lt_of_lt_of_le (h.dom v t hv).1 hm, (h.dom v t hv).2.1, (h.dom v t hv).2.2.1, bdT_mono hm _ (h.dom v t hv).2.2.2⟩, h.row, fun x hx => h.new x (Int.le_trans hm hx), h.wf, h.model, h.unk, h.bd_more hm, h.gen⟩

/-- All labels are of U, and such as their rows may have. -/
def labT (U : List Lb) : Ut → Prop
  | .mk k _ fs _ => (∀ l ∈ labsF fs, l ∈ U ∧ (isRowB k = true → rowLabelB k l = true)) ∧ ∀ p ∈ fs, labT U p.2
termination_by t => SizeOf.sizeOf t
decreasing_by exact Ut.size_mem (by assumption)

theorem labT_mk {U : List Lb} {k n : Int} {fs : Fl} {tl : Option Int} : labT U (.mk k n fs tl) ↔ (∀ l ∈ labsF fs, l ∈ U ∧ (isRowB k = true → rowLabelB k l = true)) ∧ ∀ p ∈ fs, labT U p.2 := by
  rw [labT]

/-- A label is one of records or one of unions. -/
theorem rowLabel_kind {k k' : Int} {l : Lb} (h : rowLabelB k l = true) (h' : rowLabelB k' l = true) : k = k' := by
  have key : ¬ (wordB l = true ∧ tagB l = true) := by
    unfold wordB tagB
    rintro ⟨h1, h2⟩
    cases e : l.data.toList with
    | nil => rw [e] at h1; cases h1
    | cons c cs =>
      rw [e] at h1 h2
      simp only [fitsL, Bool.and_eq_true, smallC, greatC, decide_eq_true_eq] at h1 h2
      omega
  unfold rowLabelB at h h'
  (repeat' split at h) <;> (repeat' split at h') <;> first | omega | (exfalso; first | exact absurd h (by decide) | exact absurd h' (by decide) | exact key ⟨h, h'⟩ | exact key ⟨h', h⟩)

theorem stcF_mem {fs : Fl} {q : Lb × Ut} : ∀ {m : Int}, q ∈ (stcF m fs).1 → ∃ p ∈ fs, ∃ m', q = (p.1, (stc m' p.2).1) := by
  induction fs with
  | nil => intro m h; rw [stcF_nil] at h; simp at h
  | cons p fs ih =>
    intro m h
    rw [stcF_cons] at h
    rcases List.mem_cons.1 h with e | h
    · exact ⟨p, by simp, m, e⟩
    · obtain ⟨p', h1, m', h2⟩ := ih h
      exact ⟨p', by simp [h1], m', h2⟩

theorem stc_lab {U : List Lb} : ∀ (t : Ut) (m : Int), labT U t → labT U (stc m t).1 :=
  Ut.ind fun k n fs tl ih m h => by
    rw [labT_mk] at h
    rw [stc_mk]
    split
    · rw [labT_mk]
      exact ⟨fun l hl => by simp [labsF] at hl, fun p hp => by simp at hp⟩
    · show labT U (.mk k n (stcF m fs).1 tl)
      rw [labT_mk, stcF_labs]
      refine ⟨h.1, fun q hq => ?_⟩
      obtain ⟨p, hp, m', rfl⟩ := stcF_mem hq
      exact ih p hp m' (h.2 p hp)

theorem labT_var (U : List Lb) (v : Int) : labT U (varT v) := by
  unfold varT
  rw [labT_mk]
  exact ⟨fun l hl => by simp [labsF] at hl, fun p hp => by simp at hp⟩

/-- A good tree. -/
structure TG (U : List Lb) (S : Kn) (t : Ut) : Prop where
  pend : Pend S t
  fu : fuT S.L t
  sh : shT t
  nn : nnT t
  lb : labT U t

/-- A good state. -/
structure KG (U : List Lb) (S : Kn) : Prop where
  inv : S.Inv
  rk : S.Rk
  fu : S.Fu
  nn : S.Nn
  sh : S.Sh
  lb : ∀ v t, S.κ v = some t → labT U t ∧ ∀ ls, S.L v = some ls → ∀ l ∈ ls, rowLabelB t.k l = true
  ne : ∀ p ls, S.L p = some ls → ls ≠ []

section
variable {U : List Lb} {S S' : Kn} {t : Ut}

theorem TG.later (h : TG U S t) (l : S.Le S') : TG U S' t := ⟨h.pend.mono l, fuT_mono l.L t h.pend.2 h.fu, h.sh, h.nn, h.lb⟩
theorem TG.up (h : TG U S t) {m : Int} (hm : S.m ≤ m) : TG U (S.up m) t := ⟨⟨h.pend.1, bdT_mono hm _ h.pend.2⟩, h.fu, h.sh, h.nn, h.lb⟩

theorem KG.up (h : KG U S) {m : Int} (hm : S.m ≤ m) : KG U (S.up m) :=
  ⟨h.inv.up hm, h.rk.like rfl fun _ _ _ => rfl, ⟨h.fu.v, h.fu.t⟩, ⟨Int.le_trans h.nn.m hm, h.nn.d⟩, ⟨h.sh.d, h.sh.σ⟩, h.lb, h.ne⟩

theorem TG.child {k n : Int} {fs : Fl} {tl : Option Int} (h : TG U S (.mk k n fs tl)) {p : Lb × Ut} (hp : p ∈ fs) : TG U S p.2 := by
  obtain ⟨⟨h1, h2⟩, h3, h4, h5, h6⟩ := h
  rw [okT_mk] at h1
  rw [bdT_mk] at h2
  rw [fuT_mk] at h3
  rw [shT_mk] at h4
  rw [nnT_mk] at h5
  rw [labT_mk] at h6
  exact ⟨⟨h1.2 p hp, h2.2.2 p hp⟩, h3.2 p hp, h4.2 p hp, h5.2.2 p hp, h6.2 p hp⟩

/-- What is known of a Var is good. -/
theorem KG.known (h : KG U S) {v : Int} (hl : S.L v = none) (hk : S.κ v = some t) : TG U S t := by
  obtain ⟨_, h1, _, h2⟩ := h.inv.dom v t hk
  exact ⟨⟨h1, h2⟩, h.fu.v v t hk hl, h.sh.d v t hk, (h.nn.d v t hk).2, (h.lb v t hk).1⟩

theorem KG.var (_h : KG U S) {v : Int} (hl : S.L v = none) (h0 : 0 ≤ v) (hm : v < S.m) : TG U S (varT v) := by
  refine ⟨⟨okT_var hl, bdT_var hm⟩, ?_, shT_var v, ?_, labT_var U v⟩
  · unfold varT
    rw [fuT_mk]
    exact ⟨(fun q ls hq => by cases hq), (fun p hp => by simp at hp)⟩
  · unfold varT
    rw [nnT_mk]
    exact ⟨fun _ => h0, (fun p hp => by cases hp), (fun p hp => by simp at hp)⟩

theorem okT_shape {L : Sorts} {k n : Int} {fs : Fl} {tl : Option Int} (h : okT L (.mk k n fs tl)) (hk : k = 8) : Ut.mk k n fs tl = varT n ∧ L n = none := by
  rw [okT_mk] at h
  obtain ⟨e1, e2⟩ := h.1.2.1 (.inr hk)
  subst e1 e2 hk
  exact ⟨rfl, h.1.2.2.1 rfl⟩

theorem okT_num {L : Sorts} {k n : Int} {fs : Fl} {tl : Option Int} (h : okT L (.mk k n fs tl)) (hk : k ≠ 8) : n = 0 := by
  rw [okT_mk] at h
  exact h.1.2.2.2.1 hk

/-- What is looked at is good, and the same. -/
theorem Looks.good {u : Ut} (hl : Looks S t u) (h : KG U S) (g : TG U S t) : TG U S u ∧ Eqv S t u ∧ inst S.σ t = inst S.σ u := by
  induction hl with
  | here t _ => exact ⟨g, Eqv.refl S t, rfl⟩
  | more t s u h8 hk _ ih =>
    obtain ⟨k, n, fs, tl⟩ := t
    obtain ⟨e, hln⟩ := okT_shape g.pend.1 h8
    rw [e] at g ⊢
    have hk : S.κ n = some s := hk
    obtain ⟨i1, i2, i3⟩ := ih (h.known hln hk)
    refine ⟨i1, (eqv_known hln hk).trans i2, ?_⟩
    rw [inst_var, (h.inv.model n s hk).1 hln, i3]

theorem Looks.dyn {u : Ut} (hl : Looks S t u) (h : KG U S) (g : TG U S t) : dynT u ≤ dynT t := by
  cases hl with
  | here => exact Nat.le_refl _
  | more _ s _ h8 hk hl =>
    obtain ⟨k, n, fs, tl⟩ := t
    obtain ⟨e, hln⟩ := okT_shape g.pend.1 h8
    have : ∀ x y, Looks S x y → stT x → TG U S x → stT y := by
      intro x y hxy
      induction hxy with
      | here => exact fun a _ => a
      | more t s u h8 hk _ ih =>
        intro _ gt
        obtain ⟨k, n, fs, tl⟩ := t
        obtain ⟨e, hln⟩ := okT_shape gt.pend.1 h8
        have hk : S.κ n = some s := hk
        exact ih (h.inv.dom n s hk).2.2.1 (h.known hln hk)
    have hk : S.κ n = some s := hk
    rw [stT_dyn u (this s u hl (h.inv.dom n s hk).2.2.1 (h.known hln hk))]
    exact Nat.zero_le _
end

/-! ### Rows to their end -/

/-- A row, as it is known, its fields rising; what its fields are. -/
structure RowG (U : List Lb) (S : Kn) (t : Ut) (x : Fl) (p : Option Int) : Prop where
  of : RowOf S t t.k x p
  ri : Rise x
  el : ∀ c ∈ x, TG U S c.2
  lb : ∀ l ∈ labsF x, l ∈ U ∧ (isRowB t.k = true → rowLabelB t.k l = true)
  nn : ∀ q, p = some q → 0 ≤ q
  is : inst S.σ t = .mk t.k 0 (mapF (inst S.σ) x) p
  dyn : dynF x ≤ dynT t
  ch : ∃ x0, Chain S t.k t.fs t.tl x0 p ∧ x = srtF x0
  org : ∃ e, x = srtF (t.fs ++ e) ∧ ∀ c ∈ e, stT c.2

theorem nodup_len : ∀ {l U : List Lb}, l.Nodup → (∀ x ∈ l, x ∈ U) → l.length ≤ U.length
  | [], _, _, _ => Nat.zero_le _
  | a :: l, U, hn, h => by
    obtain ⟨h1, h2⟩ := List.nodup_cons.1 hn
    obtain ⟨u, v, rfl⟩ := List.append_of_mem (h a (by simp))
    have := nodup_len (l := l) (U := u ++ v) h2 fun x hx => by
      have h3 := h x (by simp [hx])
      rw [List.mem_append, List.mem_cons] at h3
      rcases h3 with h3 | rfl | h3
      · exact List.mem_append_left _ h3
      · exact absurd hx h1
      · exact List.mem_append_right _ h3
    simp only [List.length_append, List.length_cons] at *
    omega

section
variable {U : List Lb} {S : Kn}

theorem Chain.parts (h : KG U S) {k : Int} {fs : Fl} {tl : Option Int} (h8 : k ≠ 8) (g : TG U S (.mk k 0 fs tl)) {x : Fl} {p : Option Int} (c : Chain S k fs tl x p) :
    (∀ q ∈ x, TG U S q.2) ∧ (∀ l ∈ labsF x, l ∈ U ∧ (isRowB k = true → rowLabelB k l = true)) ∧ (∀ q, p = some q → 0 ≤ q) ∧ dynF x = dynF fs ∧ ∃ e, x = fs ++ e ∧ ∀ c ∈ e, stT c.2 := by
  induction c with
  | here =>
    have h5 := g.nn
    have h6 := g.lb
    rw [nnT_mk] at h5
    rw [labT_mk] at h6
    exact ⟨fun q hq => g.child hq, h6.1, h5.2.1, rfl, [], (List.append_nil fs).symm, fun c hc => by simp at hc⟩
  | @more x r k' gs q' c hk ih =>
    obtain ⟨i1, i2, i3, i4, e, rfl, i5⟩ := ih
    have d2' := (h.inv.dom r _ hk).2.2.1
    rw [stT_mk] at d2'
    obtain ⟨j1, j2, j3, j4⟩ := Chain.row h.inv h.fu h8 g.pend g.fu (.more c hk)
    obtain ⟨_, d1, d2, d3⟩ := h.inv.dom r _ hk
    have d4 := h.sh.d r _ hk
    have d5 := (h.nn.d r _ hk).2
    obtain ⟨d6, d8⟩ := h.lb r _ hk
    have hkk : isRowB k = true → k' = k := fun hr => by
      obtain ⟨_, _, m3, _⟩ := Chain.row h.inv h.fu h8 g.pend g.fu c
      obtain ⟨_, ls, m5, m6⟩ := m3 r rfl
      obtain ⟨l0, hl0⟩ := List.exists_mem_of_ne_nil ls (h.ne r ls m5)
      exact rowLabel_kind (d8 ls m5 l0 hl0) ((i2 l0 ((m6 l0).1 hl0)).2 hr)
    have d7 := stT_dyn _ d2
    rw [shT_mk] at d4
    rw [nnT_mk] at d5
    rw [labT_mk] at d6
    rw [dynT_mk] at d7
    refine ⟨fun q hq => ?_, fun l hl => ?_, d5.2.1, by rw [dynF_append]; omega, e ++ gs, by rw [List.append_assoc], fun c hc => (List.mem_append.1 hc).elim (i5 c) (d2'.2 c)⟩
    · rcases List.mem_append.1 hq with hq2 | hq2
      · exact i1 q hq2
      · obtain ⟨a1, a2, a3⟩ := j2 q hq
        exact ⟨⟨a1, a2⟩, a3, d4.2 q hq2, d5.2.2 q hq2, d6.2 q hq2⟩
    · rw [labsF_append] at hl
      rcases List.mem_append.1 hl with hl | hl
      · exact i2 l hl
      · obtain ⟨a1, a2⟩ := d6.1 l hl
        exact ⟨a1, fun hr => by rw [hkk hr] at a2; exact a2 hr⟩

/-- A chain's length. -/
theorem Chain.len (h : KG U S) {k : Int} {fs : Fl} {tl : Option Int} (h8 : k ≠ 8) (g : TG U S (.mk k 0 fs tl)) {x : Fl} {p : Option Int} (c : Chain S k fs tl x p) : x.length ≤ U.length := by
  have h1 := (Chain.row h.inv h.fu h8 g.pend g.fu c).1
  have h2 := (c.parts h h8 g).2.1
  have := nodup_len h1 fun l hl => (h2 l hl).1
  simpa [labsF] using this

theorem tail_unk (h : S.Inv) {p : Option Int} (hp : ∀ q, p = some q → S.κ q = none) : S.σ.tail p = ([], p) := by
  cases p with
  | none => rfl
  | some q => exact (h.unk q (hp q rfl)).2

theorem RowOf.srt {t : Ut} {k : Int} {x : Fl} {p : Option Int} (r : RowOf S t k x p) : RowOf S t k (srtF x) p :=
  ⟨(srtF_rise r.nod).nodup, fun q hq => r.el q (srtF_mem.1 hq), fun q hq => by
    obtain ⟨a, b, ls, c, d⟩ := r.tl q hq
    exact ⟨a, b, ls, c, fun l => (d l).trans mem_srt_labs.symm⟩, fun τ hτ => by
    rw [r.is τ hτ, mapF_srt, srtF_left]⟩

theorem RowG.of_chain (h : KG U S) {k n : Int} {fs : Fl} {tl : Option Int} (h8 : k ≠ 8) (g : TG U S (.mk k n fs tl)) {x : Fl} {p : Option Int} (c : Chain S k fs tl x p) (hp : ∀ q, p = some q → S.κ q = none) : RowG U S (.mk k n fs tl) (srtF x) p := by
  obtain rfl := okT_num g.pend.1 h8
  obtain ⟨r, f⟩ := c.rowOf h.inv h.fu h8 g.pend g.fu hp
  obtain ⟨c1, c2, c3, c4, e, he, c5⟩ := c.parts h h8 g
  have hr := srtF_rise r.nod
  refine ⟨r.srt, hr, fun q hq => c1 q (srtF_mem.1 hq), fun l hl => c2 l (mem_srt_labs.1 hl), c3, ?_, ?_, ⟨x, c, rfl⟩, ⟨e, by rw [he]; rfl, c5⟩⟩
  · rw [r.is _ h.inv.sat, tail_unk h.inv hp, List.append_nil, mapF_srt]
    rfl
  · rw [dynF_perm (srtF_perm x), c4, dynT_mk]
    omega

theorem RowG.len {t : Ut} {x : Fl} {p : Option Int} (r : RowG U S t x p) : x.length ≤ U.length := by
  have := nodup_len r.of.nod fun l hl => (r.lb l hl).1
  simpa [labsF] using this

/-- A field of a row is less than it. -/
theorem RowG.less {t : Ut} {x : Fl} {p : Option Int} (r : RowG U S t x p) {c : Lb × Ut} (hc : c ∈ x) : tsz (inst S.σ c.2) < tsz (inst S.σ t) := by
  rw [r.is, tsz_mk]
  have := tszF_mem (p := (c.1, inst S.σ c.2)) (a := mapF (inst S.σ) x) (List.mem_map.2 ⟨c, hc, rfl⟩)
  have h2 : tsz (inst S.σ c.2) ≤ tszF (mapF (inst S.σ) x) := this
  omega

theorem RowG.occ {t : Ut} {x : Fl} {p : Option Int} (r : RowG U S t x p) (h8 : t.k ≠ 8) (v : Int) : occN v (inst S.σ t) ↔ p = some v ∨ ∃ c ∈ x, occN v (inst S.σ c.2) := by
  rw [r.is, occN_mk]
  constructor
  · rintro (⟨e, _⟩ | e | ⟨c, hc, ho⟩)
    · exact absurd e h8
    · exact .inl e
    · obtain ⟨c', h1, rfl⟩ := List.mem_map.1 hc
      exact .inr ⟨c', h1, ho⟩
  · rintro (e | ⟨c, hc, ho⟩)
    · exact .inr (.inl e)
    · exact .inr (.inr ⟨(c.1, inst S.σ c.2), List.mem_map.2 ⟨c, hc, rfl⟩, ho⟩)

/-- Nodes that are no rows and no Vars. -/
theorem inst_plain {k n : Int} {fs : Fl} {tl : Option Int} (h : okT S.L (.mk k n fs tl)) (s : shT (.mk k n fs tl)) (h8 : k ≠ 8) (hr : isRowB k = false) : tl = none ∧ n = 0 ∧ inst S.σ (.mk k n fs tl) = .mk k 0 (mapF (inst S.σ) fs) none := by
  obtain rfl := okT_num h h8
  rw [shT_mk] at s
  obtain ⟨⟨_, _, h5, h6⟩, _⟩ := s
  by_cases e : k = 5
  · obtain ⟨⟨a, b, rfl⟩, rfl⟩ := h5 e
    refine ⟨rfl, rfl, ?_⟩
    rw [inst_eq, if_neg h8]
    show Ut.mk k 0 (srtF (mapF (inst S.σ) [(lA, a), (lB, b)] ++ [])) none = _
    rw [List.append_nil, srtF_of_rise]
    refine rise_mapF ?_
    refine List.pairwise_cons.2 ⟨fun q hq => ?_, List.pairwise_cons.2 ⟨fun q hq => by simp at hq, List.Pairwise.nil⟩⟩
    rw [List.mem_singleton] at hq
    subst hq
    show ltB lA lB = true
    cases hh : ltB lA lB
    · have := ltB_eq hh lA_lB
      exact absurd this (by decide)
    · rfl
  · obtain ⟨rfl, rfl⟩ := h6 e hr
    exact ⟨rfl, rfl, by rw [inst_eq, if_neg h8]; rfl⟩

theorem plain_less {k n : Int} {fs : Fl} {tl : Option Int} (h : okT S.L (.mk k n fs tl)) (s : shT (.mk k n fs tl)) (h8 : k ≠ 8) (hr : isRowB k = false) {c : Lb × Ut} (hc : c ∈ fs) : tsz (inst S.σ c.2) < tsz (inst S.σ (.mk k n fs tl)) := by
  obtain ⟨_, _, e⟩ := inst_plain h s h8 hr
  rw [e, tsz_mk]
  have := tszF_mem (p := (c.1, inst S.σ c.2)) (a := mapF (inst S.σ) fs) (List.mem_map.2 ⟨c, hc, rfl⟩)
  have h2 : tsz (inst S.σ c.2) ≤ tszF (mapF (inst S.σ) fs) := this
  omega

theorem plain_occ {k n : Int} {fs : Fl} {tl : Option Int} (h : okT S.L (.mk k n fs tl)) (s : shT (.mk k n fs tl)) (h8 : k ≠ 8) (hr : isRowB k = false) (v : Int) : occN v (inst S.σ (.mk k n fs tl)) ↔ ∃ c ∈ fs, occN v (inst S.σ c.2) := by
  obtain ⟨_, _, e⟩ := inst_plain h s h8 hr
  rw [e, occN_mk]
  constructor
  · rintro (⟨e, _⟩ | e | ⟨c, hc, ho⟩)
    · exact absurd e h8
    · cases e
    · obtain ⟨c', h1, rfl⟩ := List.mem_map.1 hc
      exact ⟨c', h1, ho⟩
  · rintro ⟨c, hc, ho⟩
    exact .inr (.inr ⟨(c.1, inst S.σ c.2), List.mem_map.2 ⟨c, hc, rfl⟩, ho⟩)

/-- How few fields a node has. -/
theorem TG.fs_len {t : Ut} (g : TG U S t) : t.fs.length ≤ U.length + 2 := by
  obtain ⟨k, n, fs, tl⟩ := t
  have h1 := g.pend.1
  have h6 := g.lb
  rw [okT_mk] at h1
  rw [labT_mk] at h6
  have := nodup_len h1.1.1 fun l hl => (h6.1 l hl).1
  have h2 : fs.length ≤ U.length := by simpa [labsF] using this
  show fs.length ≤ _
  omega
end

/-! ### Sizes -/

mutual
/-- How many nodes, at most one too many; a row of more than fifty has too many. -/
def ndT : Ut → Nat
  | .mk _ _ fs _ => if 50 < fs.length then 10001 else min (1 + ndF fs) 10001
termination_by t => SizeOf.sizeOf t
def ndF : Fl → Nat
  | [] => 0
  | p :: fs => ndT p.2 + ndF fs
termination_by fs => SizeOf.sizeOf fs
decreasing_by all_goals first | (simp; omega) | (obtain ⟨a, b⟩ := p; simp; omega)
end
mutual
def dpT : Ut → Nat
  | .mk _ _ fs _ => dpF fs + 1
termination_by t => SizeOf.sizeOf t
def dpF : Fl → Nat
  | [] => 0
  | p :: fs => max (dpT p.2) (dpF fs)
termination_by fs => SizeOf.sizeOf fs
decreasing_by all_goals first | (simp; omega) | (obtain ⟨a, b⟩ := p; simp; omega)
end
theorem ndT_mk (k n : Int) (fs : Fl) (tl : Option Int) : ndT (.mk k n fs tl) = if 50 < fs.length then 10001 else min (1 + ndF fs) 10001 := by rw [ndT]
theorem ndF_nil : ndF [] = 0 := by rw [ndF]
theorem ndF_cons (p : Lb × Ut) (fs : Fl) : ndF (p :: fs) = ndT p.2 + ndF fs := by rw [ndF]
theorem dpT_mk (k n : Int) (fs : Fl) (tl : Option Int) : dpT (.mk k n fs tl) = dpF fs + 1 := by rw [dpT]
theorem dpF_nil : dpF [] = 0 := by rw [dpF]
theorem dpF_cons (p : Lb × Ut) (fs : Fl) : dpF (p :: fs) = max (dpT p.2) (dpF fs) := by rw [dpF]
theorem ndF_append : ∀ a b : Fl, ndF (a ++ b) = ndF a + ndF b
  | [], b => by rw [ndF_nil, List.nil_append, Nat.zero_add]
  | p :: a, b => by rw [List.cons_append, ndF_cons, ndF_cons, ndF_append a b]; omega
theorem dpF_append : ∀ a b : Fl, dpF (a ++ b) = max (dpF a) (dpF b)
  | [], b => by rw [dpF_nil, List.nil_append, Nat.zero_max]
  | p :: a, b => by rw [List.cons_append, dpF_cons, dpF_cons, dpF_append a b, Nat.max_assoc]
theorem ndF_perm {a b : Fl} (h : a.Perm b) : ndF a = ndF b := by
  induction h with
  | nil => rfl
  | cons x _ ih => rw [ndF_cons, ndF_cons, ih]
  | swap x y l => simp only [ndF_cons]; omega
  | trans _ _ h1 h2 => rw [h1, h2]
theorem dpF_perm {a b : Fl} (h : a.Perm b) : dpF a = dpF b := by
  induction h with
  | nil => rfl
  | cons x _ ih => rw [dpF_cons, dpF_cons, ih]
  | swap x y l => simp only [dpF_cons]; omega
  | trans _ _ h1 h2 => rw [h1, h2]

theorem ndT_le (t : Ut) : 1 ≤ ndT t ∧ ndT t ≤ 10001 := by
  obtain ⟨k, n, fs, tl⟩ := t
  rw [ndT_mk]
  split <;> omega
theorem dpT_pos (t : Ut) : 1 ≤ dpT t := by
  obtain ⟨k, n, fs, tl⟩ := t
  rw [dpT_mk]
  omega

/-- What stands for variables makes a tree no less. -/
theorem inst_nd (τ : Va) : ∀ t, (∀ L, okT L t → ndT t ≤ ndT (inst τ t) ∧ dpT t ≤ dpT (inst τ t)) :=
  Ut.ind fun k n fs tl ih L ho => by
    rw [inst_eq]
    split
    · next h8 =>
      rw [okT_mk] at ho
      obtain ⟨e1, e2⟩ := ho.1.2.1 (.inr h8)
      subst e1 e2
      rw [ndT_mk, dpT_mk, ndF_nil, dpF_nil]
      exact ⟨by simpa using (ndT_le _).1, dpT_pos _⟩
    · rw [okT_mk] at ho
      rw [ndT_mk, dpT_mk, ndT_mk, dpT_mk, srtF_len, ndF_perm (srtF_perm _), dpF_perm (srtF_perm _), ndF_append, dpF_append, List.length_append, mapF_len]
      have key : ∀ gs : Fl, (∀ p ∈ gs, ndT p.2 ≤ ndT (inst τ p.2) ∧ dpT p.2 ≤ dpT (inst τ p.2)) → ndF gs ≤ ndF (mapF (inst τ) gs) ∧ dpF gs ≤ dpF (mapF (inst τ) gs) := by
        intro gs
        induction gs with
        | nil => exact fun _ => ⟨Nat.le_refl _, Nat.le_refl _⟩
        | cons p gs ih2 =>
          intro h
          obtain ⟨a1, a2⟩ := ih2 fun q hq => h q (by simp [hq])
          obtain ⟨b1, b2⟩ := h p (by simp)
          rw [mapF_cons, ndF_cons, ndF_cons, dpF_cons, dpF_cons]
          exact ⟨by show _ ≤ ndT (inst τ p.2) + _; omega, by show _ ≤ max (dpT (inst τ p.2)) _; omega⟩
      obtain ⟨k1, k2⟩ := key fs fun p hp => ih p hp L (ho.2 p hp)
      refine ⟨?_, by omega⟩
      split <;> split <;> omega

theorem nd_take {fs : Fl} {i : Nat} {p : Lb × Ut} (h : fs[i]? = some p) : ndF (fs.take (i + 1)) = ndF (fs.take i) + ndT p.2 ∧ dpF (fs.take (i + 1)) = max (dpF (fs.take i)) (dpT p.2) := by
  rw [List.take_add_one, h]
  show ndF (_ ++ [p]) = _ ∧ dpF (_ ++ [p]) = _
  rw [ndF_append, dpF_append, ndF_cons, dpF_cons, ndF_nil, dpF_nil]
  exact ⟨rfl, by rw [Nat.max_zero]⟩
end Go.Proofs.Ytblfeokjlecgkaa
