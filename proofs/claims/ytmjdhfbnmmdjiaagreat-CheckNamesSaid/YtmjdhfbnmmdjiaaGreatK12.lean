/- Laid together by a tool from the texts of this seat: Rt GtA GtB GtC RdA. Conditions: each theorem's own. -/
import Derived.Test.YtmjdhfbnmmdjiaaGreatK05
import Derived.Test.YtmjdhfbnmmdjiaaGreatK04
import Derived.Test.YtmjdhfbnmmdjiaaGreatK10
import Derived.Test.YtmjdhfbnmmdjiaaGreatK11
/- Right trees by their structure: no places, no program. -/
namespace Go.Proofs.YtmjdhfbnmmdjiaaGreat

/-- So many right children of a node, from the k-th one on, at most so deep. -/
inductive RtF : Nat → Nd → Int → ByteArray → Nat → List Nd → Prop
  | nil (f : Nat) (x : Nd) (k : Int) (last : ByteArray) : RtF f x k last 0 []
  | cons {f : Nat} {x : Nd} {k : Int} {last : ByteArray} {d : Nat} {y : Nd} {ks rs : List Nd} (ho : okNode y.k y.n = true) (hc : childOk x k last y = true)
      (h1 : RtF f y 0 ByteArray.empty (manyN y) ks) (h2 : RtF (f + 1) x (k + 1) y.s d rs) : RtF (f + 1) x k last (d + 1) (y :: (ks ++ rs))

theorem RtF.fo {f : Nat} {x : Nd} {k : Int} {last : ByteArray} {d : Nat} {ks : List Nd} (h : RtF f x k last d ks) : Fo d ks := by
  induction h with
  | nil => exact Fo.zero
  | cons ho hc h1 h2 i1 i2 => exact Fo.cons i1 i2

theorem RtF.ok {f : Nat} {x : Nd} {k : Int} {last : ByteArray} {d : Nat} {ks : List Nd} (h : RtF f x k last d ks) : okAll ks := by
  induction h with
  | nil => intro y hy; simp at hy
  | cons ho hc h1 h2 i1 i2 =>
    intro z hz
    simp only [List.mem_cons, List.mem_append] at hz
    rcases hz with rfl | hz | hz
    · exact ho
    · exact i1 z hz
    · exact i2 z hz

theorem kidsP_rt {T : List Nd} {f : Nat} (x : Nd)
    (ih : ∀ i j, treeP T f i = some j → ∃ (g : Nat) (y : Nd) (ks rest : List Nd), f = g + 1 ∧ T.drop i = y :: (ks ++ rest) ∧ j = i + 1 + ks.length ∧ RtF g y 0 ByteArray.empty (manyN y) ks ∧ okNode y.k y.n = true) :
    ∀ (d : Nat) (k : Int) (last : ByteArray) (i j : Nat), kidsP (treeP T f) T x d k last i = some j → ∃ ks rest, T.drop i = ks ++ rest ∧ j = i + ks.length ∧ RtF f x k last d ks := by
  intro d
  induction d with
  | zero =>
    intro k last i j h
    simp only [kidsP, Option.some.injEq] at h
    exact ⟨[], T.drop i, rfl, by simp [h], .nil _ _ _ _⟩
  | succ d ihd =>
    intro k last i j h
    simp only [kidsP] at h
    split at h
    · cases h
    · rename_i y hy
      split at h
      · rename_i hc
        split at h
        · cases h
        · rename_i at' hat
          obtain ⟨g, y', ks, rest, rfl, hd, rfl, hr, ho⟩ := ih i at' hat
          rw [drop_cons hy] at hd
          injection hd with e1 e2
          subst e1
          obtain ⟨rs, rest', hd2, rfl, hr2⟩ := ihd (k + 1) y.s _ j h
          have e3 : T.drop (i + 1 + ks.length) = rest := by rw [← List.drop_drop, e2, List.drop_left]
          rw [e3] at hd2
          refine ⟨y :: (ks ++ rs), rest', ?_, by simp; omega, .cons ho hc hr hr2⟩
          rw [drop_cons hy, e2, hd2]
          simp
      · cases h

theorem treeP_rt {T : List Nd} : ∀ (f i j : Nat), treeP T f i = some j → ∃ (g : Nat) (y : Nd) (ks rest : List Nd), f = g + 1 ∧ T.drop i = y :: (ks ++ rest) ∧ j = i + 1 + ks.length ∧ RtF g y 0 ByteArray.empty (manyN y) ks ∧ okNode y.k y.n = true := by
  intro f
  induction f with
  | zero => intro i j h; cases h
  | succ f ih =>
    intro i j h
    simp only [treeP] at h
    split at h
    · cases h
    · rename_i y hy
      split at h
      · rename_i ho
        obtain ⟨ks, rest, hd, rfl, hr⟩ := kidsP_rt y ih _ _ _ _ _ h
        exact ⟨f, y, ks, rest, rfl, by rw [drop_cons hy, hd], by omega, hr, ho⟩
      · cases h

theorem RtF.kidsP {f : Nat} {x : Nd} {k : Int} {last : ByteArray} {d : Nat} {ks : List Nd} (h : RtF f x k last d ks) :
    ∀ (T rest : List Nd) (i : Nat), T.drop i = ks ++ rest → kidsP (treeP T f) T x d k last i = some (i + ks.length) := by
  induction h with
  | nil => intro T rest i hd; simp [Go.Proofs.YtmjdhfbnmmdjiaaGreat.kidsP]
  | @cons f x k last d y ks rs ho hc h1 h2 i1 i2 =>
    intro T rest i hd
    have hd0 : T.drop i = y :: (ks ++ (rs ++ rest)) := by rw [hd]; simp
    have hy : T[i]? = some y := by
      have := congrArg (fun l => l[0]?) hd0
      simpa using this
    have hd1 : T.drop (i + 1) = ks ++ (rs ++ rest) := by
      rw [drop_cons hy] at hd0
      injection hd0
    have hd2 : T.drop (i + 1 + ks.length) = rs ++ rest := by rw [← List.drop_drop, hd1, List.drop_left]
    have ht : treeP T (f + 1) i = some (i + 1 + ks.length) := by
      simp only [treeP, hy]
      rw [if_pos ho]
      exact i1 T _ _ hd1
    simp only [Go.Proofs.YtmjdhfbnmmdjiaaGreat.kidsP, hy, ht]
    rw [if_pos hc, i2 T rest _ hd2]
    simp
    omega

theorem RtF.mono {f : Nat} {x : Nd} {k : Int} {last : ByteArray} {d : Nat} {ks : List Nd} (h : RtF f x k last d ks) : ∀ g, f ≤ g → RtF g x k last d ks := by
  induction h with
  | nil => intro g _; exact .nil _ _ _ _
  | cons ho hc h1 h2 i1 i2 =>
    intro g hg
    obtain ⟨g', rfl⟩ : ∃ g', g = g' + 1 := ⟨g - 1, by omega⟩
    exact .cons ho hc (i1 g' (by omega)) (i2 _ hg)

/-- A type by its structure. -/
structure IsR (T : List Nd) (y : Nd) (ks : List Nd) : Prop where
  eq : T = y :: ks
  len : T.length ≤ 10000
  s : y.s = ByteArray.empty
  k : y.k ≠ 9
  ok : okNode y.k y.n = true
  rt : RtF 99 y 0 ByteArray.empty (manyN y) ks

theorem IsR.right {T : List Nd} {y : Nd} {ks : List Nd} (h : IsR T y ks) : rightB T = true := by
  have key : ∀ f, RtF f y 0 ByteArray.empty (manyN y) ks → treeP T (f + 1) 0 = some T.length := by
    intro f hf
    have hd : T.drop 1 = ks ++ [] := by rw [h.eq]; simp
    have := hf.kidsP T [] 1 hd
    have hy : T[0]? = some y := by rw [h.eq]; rfl
    have hlen : T.length = 1 + ks.length := by rw [h.eq]; simp; omega
    simp only [treeP, hy]
    rw [if_pos h.ok, hlen]
    exact this
  have ht : treeP T 100 0 = some T.length := key 99 h.rt
  unfold rightB
  simp only [Bool.and_eq_true, decide_eq_true_eq]
  refine ⟨⟨h.len, ?_⟩, ht⟩
  rw [h.eq]
  unfold rootOk
  simp [h.s, h.k]

end Go.Proofs.YtmjdhfbnmmdjiaaGreat

/- Plain types by their structure: closed under all that check does with them. No program in sight. -/
namespace Go.Proofs.YtmjdhfbnmmdjiaaGreat

/-- What is asked of a plain type's node; st: it is no ?. -/
def Qn (st : Bool) (y : Nd) : Prop := y.k ≠ 8 ∧ y.k ≠ 9 ∧ y.s.size ≤ 100 ∧ (st = true → y.k ≠ 0)
/-- So many plain trees below a node of a kind, behind a label, at most so deep. -/
inductive GF (st : Bool) : Nat → Int → ByteArray → Nat → List Nd → Prop
  | nil (f : Nat) (pk : Int) (last : ByteArray) : GF st f pk last 0 []
  | cons {f : Nat} {pk : Int} {last : ByteArray} {d : Nat} {y : Nd} {ks rs : List Nd} (ho : okNode y.k y.n = true) (hq : Qn st y) (hl : labelB pk y.s = true) (hr : isRowB pk = true → ltB last y.s = true)
      (h1 : GF st f y.k ByteArray.empty (manyN y) ks) (h2 : GF st (f + 1) pk y.s d rs) : GF st (f + 1) pk last (d + 1) (y :: (ks ++ rs))
/-- A plain type, at most so deep. -/
def GT (st : Bool) (d : Nat) (t : List Nd) : Prop := GF st d 5 ByteArray.empty 1 t

section
variable {st : Bool}
theorem GF.fo {f : Nat} {pk : Int} {last : ByteArray} {d : Nat} {ks : List Nd} (h : GF st f pk last d ks) : Fo d ks := by
  induction h with
  | nil => exact Fo.zero
  | cons ho hq hl hr h1 h2 i1 i2 => exact Fo.cons i1 i2
theorem GF.all {f : Nat} {pk : Int} {last : ByteArray} {d : Nat} {ks : List Nd} (h : GF st f pk last d ks) : ∀ y ∈ ks, okNode y.k y.n = true ∧ Qn st y := by
  induction h with
  | nil => intro y hy; simp at hy
  | cons ho hq hl hr h1 h2 i1 i2 =>
    intro z hz
    simp only [List.mem_cons, List.mem_append] at hz
    rcases hz with rfl | hz | hz
    · exact ⟨ho, hq⟩
    · exact i1 z hz
    · exact i2 z hz
theorem GF.mono {f : Nat} {pk : Int} {last : ByteArray} {d : Nat} {ks : List Nd} (h : GF st f pk last d ks) : ∀ g, f ≤ g → GF st g pk last d ks := by
  induction h with
  | nil => intro g _; exact .nil _ _ _
  | cons ho hq hl hr h1 h2 i1 i2 =>
    intro g hg
    obtain ⟨g', rfl⟩ : ∃ g', g = g' + 1 := ⟨g - 1, by omega⟩
    exact .cons ho hq hl hr (i1 g' (by omega)) (i2 _ hg)
theorem GF.ofRt {f : Nat} {x : Nd} {k : Int} {last : ByteArray} {d : Nat} {ks : List Nd} (h : RtF f x k last d ks) : (∀ y ∈ ks, Qn st y) → GF st f x.k last d ks := by
  induction h with
  | nil => intro _; exact .nil _ _ _
  | @cons f x k last d y ks rs ho hc h1 h2 i1 i2 =>
    intro hq
    have hy := hq y (by simp)
    unfold childOk at hc
    rw [if_neg hy.2.1, Bool.and_eq_true] at hc
    refine .cons ho hy hc.1 (fun hx => ?_) (i1 fun z hz => hq z (by simp [hz])) (i2 fun z hz => hq z (by simp [hz]))
    have h3 := hc.2
    rw [hx, leS_not] at h3
    simpa [ltB] using h3
theorem GF.toRt {f : Nat} {pk : Int} {last : ByteArray} {d : Nat} {ks : List Nd} (h : GF st f pk last d ks) : ∀ (x : Nd) (k : Int), x.k = pk → RtF f x k last d ks := by
  induction h with
  | nil => intro x k _; exact .nil _ _ _ _
  | @cons f pk last d y ks rs ho hq hl hr h1 h2 i1 i2 =>
    intro x k hx
    refine .cons ho ?_ (i1 y 0 rfl) (i2 x (k + 1) hx)
    unfold childOk
    rw [if_neg hq.2.1, hx, hl, leS_not]
    by_cases hp : isRowB pk = true
    · have := hr hp
      unfold ltB at this
      rw [hp, this]
      rfl
    · simp [hp]
theorem GF.append {f : Nat} {pk : Int} {d e : Nat} {xs ys : List Nd} {l1 l2 : ByteArray} (hp : isRowB pk = false) (h : GF st f pk l1 d xs) (k : GF st f pk l2 e ys) : GF st f pk l1 (d + e) (xs ++ ys) := by
  induction h with
  | nil f pk last =>
    simp only [List.nil_append, Nat.zero_add]
    cases k with
    | nil => exact .nil _ _ _
    | cons ho hq hl hr h1 h2 => exact .cons ho hq hl (fun h => by rw [hp] at h; cases h) h1 h2
  | @cons f pk last d y ks rs ho hq hl hr h1 h2 i1 i2 =>
    have e1 : d + 1 + e = (d + e) + 1 := by omega
    rw [e1, List.cons_append, List.append_assoc]
    exact .cons ho hq hl hr h1 (i2 hp k)

/-- What two rows of trees say together. -/
theorem GF.met : ∀ (N f : Nat) (pk : Int) (last : ByteArray) (n : Nat) (xs ys m : List Nd), xs.length ≤ N → GF st f pk last n xs → GF st f pk last n ys → met n xs ys = some m → GF st f pk last n m ∧ m.length ≤ xs.length + ys.length := by
  intro N
  induction N with
  | zero =>
    intro f pk last n xs ys m hN hx hy hm
    cases hx with
    | nil =>
      rw [met_zero] at hm
      injection hm with hm
      subst hm
      exact ⟨.nil _ _ _, by simp⟩
    | cons => simp at hN
  | succ N ih =>
    intro f pk last n xs ys m hN hx hy hm
    cases hx with
    | nil =>
      rw [met_zero] at hm
      injection hm with hm
      subst hm
      exact ⟨.nil _ _ _, by simp⟩
    | @cons f _ _ n x ks rs ho hq hl hr h1 h2 =>
      cases hy with
      | @cons _ _ _ _ y ks2 rs2 ho2 hq2 hl2 hr2 k1 k2 =>
        rw [met_cons] at hm
        have hle : ks.length + rs.length ≤ N := by simp at hN; omega
        by_cases hs : x.s ≠ y.s
        · rw [if_pos hs] at hm
          cases hm
        rw [if_neg hs] at hm
        have hs2 : x.s = y.s := Classical.byContradiction hs
        by_cases h0 : x.k = 0 ∨ y.k = 0
        · rw [if_pos h0, rest1_kids h1.fo, rest1_kids k1.fo] at hm
          cases hr3 : Go.Proofs.YtmjdhfbnmmdjiaaGreat.met n rs rs2 with
          | none => rw [hr3] at hm; cases hm
          | some r =>
            rw [hr3] at hm
            rw [← hs2] at k2
            obtain ⟨i1, i2⟩ := ih (f + 1) pk x.s n rs rs2 r (by omega) h2 k2 hr3
            have t1 : tree1 (x :: (ks ++ rs)) = x :: ks := tree1_fo (ts := x :: ks) (by have := h1.fo.cons Fo.zero; rwa [List.append_nil] at this) rs
            have t2 : tree1 (y :: (ks2 ++ rs2)) = y :: ks2 := tree1_fo (ts := y :: ks2) (by have := k1.fo.cons Fo.zero; rwa [List.append_nil] at this) rs2
            rw [t1, t2] at hm
            simp only [Option.map_some, Option.some.injEq] at hm
            by_cases hy0 : y.k = 0
            · rw [if_pos hy0] at hm
              subst hm
              refine ⟨.cons ho hq hl hr h1 i1, ?_⟩
              simp
              omega
            · rw [if_neg hy0] at hm
              subst hm
              refine ⟨.cons ho2 hq2 hl2 hr2 k1 (by rw [← hs2]; exact i1), ?_⟩
              simp
              omega
        · rw [if_neg h0] at hm
          by_cases hk : x.k ≠ y.k ∨ x.n ≠ y.n
          · rw [if_pos hk] at hm
            cases hm
          rw [if_neg hk] at hm
          have hk2 : x.k = y.k := Classical.byContradiction fun h => hk (.inl h)
          have hn2 : x.n = y.n := Classical.byContradiction fun h => hk (.inr h)
          have hmn : manyN y = manyN x := by unfold manyN; rw [hk2, hn2]
          rw [hmn, ← hk2] at k1
          rw [met_app ks.length (manyN x) n ks ks2 rs rs2 (Nat.le_refl _) h1.fo k1.fo] at hm
          cases hr4 : Go.Proofs.YtmjdhfbnmmdjiaaGreat.met (manyN x) ks ks2 with
          | none => rw [hr4] at hm; cases hm
          | some a =>
            cases hr5 : Go.Proofs.YtmjdhfbnmmdjiaaGreat.met n rs rs2 with
            | none => rw [hr4, hr5] at hm; cases hm
            | some b =>
              rw [hr4, hr5] at hm
              simp only [Option.bind_some, Option.map_some, Option.some.injEq] at hm
              subst hm
              rw [← hs2] at k2
              obtain ⟨i1, i2⟩ := ih f x.k ByteArray.empty (manyN x) ks ks2 a (by omega) h1 k1 hr4
              obtain ⟨j1, j2⟩ := ih (f + 1) pk x.s n rs rs2 b (by omega) h2 k2 hr5
              refine ⟨.cons ho hq hl hr i1 j1, ?_⟩
              simp
              omega

/-- A child by itself. -/
theorem GF.kid {f : Nat} {pk : Int} {last : ByteArray} {n : Nat} {xs : List Nd} (h : GF st f pk last n xs) : ∀ ts ∈ splitF n xs, GT st f (bareN ts) ∧ ts.length ≤ xs.length ∧ labelB pk (headNd ts).s = true := by
  induction h with
  | nil => intro ts hts; simp [splitF] at hts
  | @cons f pk last d y ks rs ho hq hl hr h1 h2 i1 i2 =>
    intro ts hts
    have t1 : (y :: (ks ++ rs)).take ((y :: (ks ++ rs)).length - (rest1 (y :: (ks ++ rs))).length) = y :: ks := tree1_fo (ts := y :: ks) (by have := h1.fo.cons Fo.zero; rwa [List.append_nil] at this) rs
    simp only [splitF, List.mem_cons] at hts
    rw [t1, rest1_kids h1.fo] at hts
    rcases hts with rfl | hts
    · refine ⟨?_, by simp, hl⟩
      have := GF.cons (st := st) (f := f) (pk := 5) (last := ByteArray.empty) (d := 0) (y := y.name ByteArray.empty) (ks := ks) (rs := []) ho ⟨hq.1, hq.2.1, by simp [Nd.name], hq.2.2.2⟩ (by simp [labelB, Nd.name]) (by intro h; simp [isRowB] at h) h1 (.nil _ _ _)
      rw [List.append_nil] at this
      exact this
    · obtain ⟨h1, h2, h3⟩ := i2 ts hts
      exact ⟨h1, by simp; omega, h3⟩
end
end Go.Proofs.YtmjdhfbnmmdjiaaGreat

/- What check makes of plain types is plain. No program in sight. -/
namespace Go.Proofs.YtmjdhfbnmmdjiaaGreat

section
variable {st : Bool}
theorem GT.open {d : Nat} {t : List Nd} (h : GT st d t) : ∃ f x ks, d = f + 1 ∧ t = x :: ks ∧ okNode x.k x.n = true ∧ Qn st x ∧ x.s = ByteArray.empty ∧ GF st f x.k ByteArray.empty (manyN x) ks := by
  unfold GT at h
  generalize hn : (1 : Nat) = n at h
  generalize h5 : (5 : Int) = pk at h
  cases h with
  | nil => cases hn
  | @cons f _ _ d y ks rs ho hq hl hr h1 h2 =>
    have hd : d = 0 := by omega
    subst hd h5
    cases h2
    refine ⟨f, y, ks, rfl, by rw [List.append_nil], ho, hq, ?_, h1⟩
    simp only [labelB] at hl
    rw [if_neg (by decide), if_neg (by decide), decide_eq_true_eq] at hl
    exact ByteArray.size_eq_zero_iff.1 hl
theorem GT.mk {f : Nat} {x : Nd} {ks : List Nd} (ho : okNode x.k x.n = true) (hq : Qn st x) (hs : x.s = ByteArray.empty) (h : GF st f x.k ByteArray.empty (manyN x) ks) : GT st (f + 1) (x :: ks) := by
  have := GF.cons (st := st) (f := f) (pk := 5) (last := ByteArray.empty) (d := 0) (y := x) (ks := ks) (rs := []) ho hq (by simp [labelB, hs]) (by intro h; simp [isRowB] at h) h (.nil _ _ _)
  rw [List.append_nil] at this
  exact this
theorem GT.mono {d e : Nat} {t : List Nd} (h : GT st d t) (hd : d ≤ e) : GT st e t := GF.mono h e hd
theorem GT.fo {d : Nat} {t : List Nd} (h : GT st d t) : Fo 1 t := GF.fo h
theorem GT.gd {d : Nat} {t : List Nd} (h : GT st d t) (hl : t.length ≤ 1000000000) : Gd t := by
  obtain ⟨f, x, ks, _, rfl, _, _, hs, _⟩ := h.open
  exact ⟨fun y hy => (GF.all h y hy).1, h.fo, hs, hl⟩
theorem GT.pos {d : Nat} {t : List Nd} (h : GT st d t) : 1 ≤ t.length := by
  obtain ⟨f, x, ks, _, rfl, _⟩ := h.open
  simp
theorem GT.right {d : Nat} {t : List Nd} (h : GT st d t) (hd : d ≤ 100) (hl : t.length ≤ 10000) : rightB t = true := by
  obtain ⟨f, x, ks, hf, rfl, ho, hq, hs, h1⟩ := (h.mono hd).open
  exact IsR.right ⟨rfl, hl, hs, hq.2.1, ho, (h1.mono 99 (by omega)).toRt x 0 rfl⟩
theorem GT.plain {d : Nat} {t : List Nd} (h : GT st d t) : plainB t = true := by
  unfold plainB
  rw [List.all_eq_true]
  intro y hy
  obtain ⟨h1, h2, h3⟩ := (GF.all h y hy).2
  simp [isVarB, h1, h2]
theorem GT.static {d : Nat} {t : List Nd} (h : GT true d t) : staticB t = true := by
  unfold staticB
  rw [List.all_eq_true]
  intro y hy
  simpa using (GF.all h y hy).2.2.2.2 rfl
theorem GT.names {d : Nat} {t : List Nd} (h : GT st d t) : ∀ y ∈ t, y.s.size ≤ 100 := fun y hy => (GF.all h y hy).2.2.2.1
theorem GT.of {d : Nat} {t : List Nd} (h : rightB t = true) (hp : plainB t = true) (hs : ∀ y ∈ t, y.s.size ≤ 100) (hst : st = true → staticB t = true) (hd : t.length ≤ d) : GT st d t := by
  obtain ⟨ht, hl, x, ys, rfl, hx, hk⟩ := right_parts h
  have h2 := (treeP_fuel 100 d 0 _ ht).2 (by omega)
  obtain ⟨g, y, ks, rest, hg, hd2, hj, hr, ho⟩ := treeP_rt _ _ _ h2
  rw [List.drop_zero] at hd2
  have hrest : rest = [] := by
    rw [hd2] at hj
    simp at hj
    exact List.eq_nil_of_length_eq_zero (by omega)
  subst hrest
  rw [List.append_nil] at hd2
  injection hd2 with e1 e2
  subst e1 e2 hg
  have hq : ∀ z ∈ x :: ys, Qn st z := fun z hz => by
    unfold plainB at hp
    rw [List.all_eq_true] at hp
    have h3 := hp z hz
    simp [isVarB] at h3
    refine ⟨h3.1, h3.2, hs z hz, fun e => ?_⟩
    have h4 := hst e
    unfold staticB at h4
    rw [List.all_eq_true] at h4
    simpa using h4 z hz
  exact GT.mk ho (hq x (by simp)) hx (GF.ofRt hr fun z hz => hq z (by simp [hz]))
theorem GT.arrow {d : Nat} {a b : List Nd} (ha : GT st d a) (hb : GT st d b) : GT st (d + 1) (arrowN a b) := by
  have h := GF.append (by decide) ha hb
  exact GT.mk (x := ⟨5, ByteArray.empty, 0⟩) (by decide) ⟨by simp, by simp, by simp, by simp⟩ rfl h
theorem GT.leaf {k : Int} (h : 1 ≤ k ∧ k ≤ 4) {d : Nat} (hd : 1 ≤ d) : GT st d [⟨k, ByteArray.empty, 0⟩] := by
  refine GT.mono (d := 1) (GT.mk (x := ⟨k, ByteArray.empty, 0⟩) ?_ ⟨by simp; omega, by simp; omega, by simp, fun _ => by simp; omega⟩ rfl ?_) hd
  · have : k = 1 ∨ k = 2 ∨ k = 3 ∨ k = 4 := by omega
    rcases this with rfl | rfl | rfl | rfl <;> decide
  · have : manyN ⟨k, ByteArray.empty, 0⟩ = 0 := by
      have : k = 1 ∨ k = 2 ∨ k = 3 ∨ k = 4 := by omega
      rcases this with rfl | rfl | rfl | rfl <;> rfl
    rw [this]
    exact .nil _ _ _
theorem GT.dyn {d : Nat} (hs : st = false) (hd : 1 ≤ d) : GT st d dynN := by
  subst hs
  exact GT.mono (d := 1) (GT.mk (x := ⟨0, ByteArray.empty, 0⟩) (by decide) ⟨by simp, by simp, by simp, by simp⟩ rfl (.nil _ _ _)) hd
theorem GT.dynOf {d : Nat} {t : List Nd} (h : GT st d t) (h0 : (headNd t).k = 0) : GT st d dynN := by
  obtain ⟨f, x, ks, rfl, rfl, _, hq, _⟩ := h.open
  cases st with
  | false => exact GT.dyn rfl (by omega)
  | true => exact absurd h0 (hq.2.2.2 rfl)
theorem GT.call {d : Nat} {t a b : List Nd} (h : GT st d t) (hc : callM t = some (a, b)) : GT st d a ∧ GT st d b ∧ a.length ≤ t.length ∧ b.length ≤ t.length := by
  have hp := h.pos
  unfold callM at hc
  by_cases h0 : (headNd t).k = 0
  · rw [if_pos h0] at hc
    injection hc with hc
    injection hc with e1 e2
    subst e1 e2
    exact ⟨h.dynOf h0, h.dynOf h0, hp, hp⟩
  rw [if_neg h0] at hc
  by_cases h5 : (headNd t).k = 5
  · rw [if_pos h5] at hc
    obtain ⟨f, x, ks, rfl, rfl, ho, hq, hs, hk⟩ := h.open
    have h5 : x.k = 5 := h5
    have hm : manyN x = 2 := by unfold manyN many; rw [if_pos h5]; rfl
    have hsp := hk.kid
    rw [hm] at hsp
    have e : kidsL (x :: ks) = [ks.take (ks.length - (rest1 ks).length), (rest1 ks).take ((rest1 ks).length - (rest1 (rest1 ks)).length)] := by
      simp only [kidsL, hm, splitF]
    rw [e] at hc
    simp only [List.headD_cons, List.tail_cons, Option.some.injEq, Prod.mk.injEq] at hc
    obtain ⟨e1, e2⟩ := hc
    subst e1 e2
    obtain ⟨a1, a2, _⟩ := hsp _ (by simp only [splitF]; exact List.mem_cons_self ..)
    obtain ⟨b1, b2, _⟩ := hsp ((rest1 ks).take ((rest1 ks).length - (rest1 (rest1 ks)).length)) (by simp only [splitF]; exact List.mem_cons_of_mem _ (List.mem_cons_self ..))
    refine ⟨a1.mono (by omega), b1.mono (by omega), ?_, ?_⟩ <;> rw [bareN_length] <;> simp only [List.length_cons] <;> omega
  · rw [if_neg h5] at hc
    cases hc
theorem GT.field {d : Nat} {t u : List Nd} {s : ByteArray} (h : GT st d t) (hc : fieldM t s = some u) : GT st d u ∧ u.length ≤ t.length := by
  have hp := h.pos
  unfold fieldM at hc
  by_cases h0 : (headNd t).k = 0
  · rw [if_pos h0] at hc
    injection hc with e1
    subst e1
    exact ⟨h.dynOf h0, hp⟩
  rw [if_neg h0] at hc
  split at hc
  · obtain ⟨f, x, ks, rfl, rfl, ho, hq, hs, hk⟩ := h.open
    rw [Option.map_eq_some_iff] at hc
    obtain ⟨ts, h1, rfl⟩ := hc
    obtain ⟨a1, a2, _⟩ := hk.kid ts (List.mem_of_find?_eq_some h1)
    refine ⟨a1.mono (by omega), ?_⟩
    rw [bareN_length]
    simp only [List.length_cons]
    omega
  · cases hc
/-- What is among a union's tags has a type. -/
theorem field_tag {t : List Nd} {l : List ByteArray} {s : ByteArray} (ht : tagsM t = some l) (h : (headNd t).k = 0 ∨ s ∈ l) : ∃ u, fieldM t s = some u := by
  unfold tagsM at ht
  unfold fieldM
  by_cases h0 : (headNd t).k = 0
  · rw [if_pos h0]
    exact ⟨_, rfl⟩
  rw [if_neg h0] at ht ⊢
  split at ht
  · rename_i h7
    have hr : isRowB (headNd t).k = true := by rw [h7]; rfl
    rw [if_pos hr]
    injection ht with ht
    subst ht
    rcases h with h | h
    · exact absurd h h0
    obtain ⟨ts, h1, h2⟩ := List.mem_map.1 h
    cases hf : (kidsL t).find? fun ts => (headNd ts).s.toList == s.toList with
    | some u => exact ⟨_, rfl⟩
    | none =>
      have := List.find?_eq_none.1 hf ts h1
      rw [h2] at this
      simp at this
  · cases ht

/-- A record's children, in order. -/
theorem GF.row {d : Nat} : ∀ (fs : List FsL) (last : ByteArray), (∀ p ∈ fs, GT st d p.2 ∧ labelB 6 p.1 = true ∧ p.1.size ≤ 100) → (∀ p ∈ fs, ltB last p.1 = true) → fs.Pairwise (fun a b => ltB a.1 b.1 = true) →
    GF st d 6 last fs.length (fs.flatMap fun p => nameR p.1 p.2) := by
  intro fs
  induction fs with
  | nil => intro last _ _ _; exact .nil _ _ _
  | cons p fs ih =>
    intro last h1 h2 h3
    obtain ⟨hg, hl, hsz⟩ := h1 p (by simp)
    rw [List.pairwise_cons] at h3
    have := ih p.1 (fun q hq => h1 q (by simp [hq])) (fun q hq => h3.1 q hq) h3.2
    obtain ⟨f, x, ks, rfl, hp2, ho, hq, hs, hk⟩ := hg.open
    have e : (p :: fs).flatMap (fun p => nameR p.1 p.2) = x.name p.1 :: (ks ++ fs.flatMap fun p => nameR p.1 p.2) := by
      rw [List.flatMap_cons, hp2]
      rfl
    rw [e]
    exact .cons ho ⟨hq.1, hq.2.1, hsz, hq.2.2.2⟩ hl (fun _ => h2 p (by simp)) hk this
theorem flat_len : ∀ (fs : List FsL), (fs.flatMap fun p => nameR p.1 p.2).length = (fs.map fun p => p.2.length).sum := by
  intro fs
  induction fs with
  | nil => rfl
  | cons p fs ih =>
    rw [List.flatMap_cons, List.length_append, ih, List.map_cons, List.sum_cons]
    cases p.2 <;> rfl
theorem GT.row {d : Nat} (_hd : 1 ≤ d) (fs : List FsL) (h1 : ∀ p ∈ fs, GT st d p.2 ∧ labelB 6 p.1 = true ∧ p.1.size ≤ 100) (hn : (fs.map (·.1)).Nodup) (hl : fs.length ≤ 50) :
    GT st (d + 1) (rowL 6 fs) ∧ (rowL 6 fs).length = 1 + (fs.map fun p => p.2.length).sum := by
  have hd2 : fs.Pairwise fun a b => a.1 ≠ b.1 := by
    unfold List.Nodup at hn
    rw [List.pairwise_map] at hn
    exact hn
  obtain ⟨hp, hs⟩ := srtP_go fs [] (by simpa using hd2) List.Pairwise.nil
  rw [List.nil_append] at hp
  change (srtP fs).Perm fs at hp
  change (srtP fs).Pairwise _ at hs
  have hlen := hp.length_eq
  have hg := GF.row (st := st) (d := d) (srtP fs) ByteArray.empty (fun p hpp => h1 p (hp.subset hpp)) (fun p hpp => by
    have := label_pos (k := 6) (by decide) (h1 p (hp.subset hpp)).2.1
    unfold ltB
    rw [bless_eq, decide_eq_true_eq]
    cases hx : p.1.toList with
    | nil => exact absurd hx this
    | cons a l => rw [show ByteArray.empty.toList = ([] : List UInt8) from by simp]; exact List.nil_lt_cons a l) hs
  rw [hlen] at hg
  refine ⟨?_, ?_⟩
  · refine GT.mk (x := ⟨6, ByteArray.empty, (fs.length : Int)⟩) ?_ ⟨by simp, by simp, by simp, by simp⟩ rfl ?_
    · simp [okNode]
      omega
    · have : manyN ⟨6, ByteArray.empty, (fs.length : Int)⟩ = fs.length := by
        unfold manyN many
        rw [if_neg (by simp), if_pos (by rfl)]
        simp
      rw [this]
      exact hg
  · unfold rowL
    rw [List.length_cons, flat_len, List.Perm.sum_nat (hp.map fun p => p.2.length), Nat.add_comm]
end
end Go.Proofs.YtmjdhfbnmmdjiaaGreat

/- Expressions as trees: where each part ends, its children, by the document's own look. No program in sight. -/
namespace Go.Proofs.YtmjdhfbnmmdjiaaGreat

/-- Where a part ends; the row's end, if it runs out. -/
def rEnd : List Pt → Nat → Nat → Nat
  | _, 0, p => p
  | [], _ + 1, p => p
  | x :: xs, n + 1, p => rEnd xs (n + manyE x) (p + 1)
/-- So many children, from a place on, as the document has them. -/
def rKids (es : List Pt) : Nat → Nat → List Nat
  | 0, _ => []
  | n + 1, a => if a < es.length then a :: rKids es n (rEnd (es.drop a) 1 a) else []
/-- So many parts from one place to another. -/
def EA (es : List Pt) (n a b : Nat) : Prop := endO (es.drop a) n a = some b

theorem endO_lt : ∀ (xs : List Pt) (n p b : Nat), endO xs n p = some b → p + n ≤ b + 0 ∧ b ≤ p + xs.length
  | [], 0, p, b, h => by simp [endO] at h; subst h; simp
  | _ :: _, 0, p, b, h => by simp [endO] at h; subst h; simp
  | [], n + 1, p, b, h => by simp [endO] at h
  | x :: xs, n + 1, p, b, h => by
    simp only [endO] at h
    have := endO_lt xs _ _ _ h
    simp only [List.length_cons]
    omega
theorem endO_split : ∀ (xs : List Pt) (m n p b : Nat), endO xs (m + n) p = some b → ∃ c, endO xs m p = some c ∧ endO (xs.drop (c - p)) n c = some b
  | [], 0, n, p, b, h => ⟨p, rfl, by rw [Nat.zero_add] at h; simpa using h⟩
  | x :: xs, 0, n, p, b, h => ⟨p, by simp [endO], by rw [Nat.zero_add] at h; simpa using h⟩
  | [], m + 1, n, p, b, h => by rw [show m + 1 + n = (m + n) + 1 from by omega] at h; simp [endO] at h
  | x :: xs, m + 1, n, p, b, h => by
    rw [show m + 1 + n = (m + n) + 1 from by omega] at h
    simp only [endO] at h
    rw [show m + n + manyE x = (m + manyE x) + n from by omega] at h
    obtain ⟨c, h1, h2⟩ := endO_split xs (m + manyE x) n (p + 1) b h
    have h3 := endO_lt _ _ _ _ h1
    refine ⟨c, by simpa [endO] using h1, ?_⟩
    obtain ⟨d, hd⟩ : ∃ d, c - p = d + 1 := ⟨c - p - 1, by omega⟩
    rw [hd, List.drop_succ_cons, show d = c - (p + 1) from by omega]
    exact h2
theorem endO_join : ∀ (xs : List Pt) (m n p b c : Nat), endO xs m p = some c → endO (xs.drop (c - p)) n c = some b → endO xs (m + n) p = some b
  | xs, 0, n, p, b, c, h, h2 => by
    have : c = p := by cases xs <;> simp [endO] at h <;> exact h.symm
    subst this
    simpa using h2
  | [], m + 1, n, p, b, c, h, _ => by simp [endO] at h
  | x :: xs, m + 1, n, p, b, c, h, h2 => by
    simp only [endO] at h
    have h3 := endO_lt _ _ _ _ h
    rw [show m + 1 + n = (m + n) + 1 from by omega]
    simp only [endO]
    rw [show m + n + manyE x = (m + manyE x) + n from by omega]
    refine endO_join xs _ n (p + 1) b c h ?_
    obtain ⟨d, hd⟩ : ∃ d, c - p = d + 1 := ⟨c - p - 1, by omega⟩
    rw [hd, List.drop_succ_cons, show d = c - (p + 1) from by omega] at h2
    exact h2
theorem endO_rEnd : ∀ (xs : List Pt) (n p b : Nat), endO xs n p = some b → rEnd xs n p = b
  | [], 0, p, b, h => by simpa [endO, rEnd] using h
  | _ :: _, 0, p, b, h => by simpa [endO, rEnd] using h
  | [], n + 1, p, b, h => by simp [endO] at h
  | x :: xs, n + 1, p, b, h => by
    simp only [endO] at h
    simp only [rEnd]
    exact endO_rEnd xs _ _ _ h
theorem EA.lt {es : List Pt} {n a b : Nat} (h : EA es n a b) : a + n ≤ b ∧ b ≤ a + (es.length - a) := by
  have := endO_lt _ _ _ _ h
  rw [List.length_drop] at this
  omega
theorem EA.zero {es : List Pt} {a b : Nat} (h : EA es 0 a b) : b = a := by
  unfold EA at h
  cases hx : es.drop a <;> rw [hx] at h <;> simp [endO] at h <;> exact h.symm
theorem EA.split {es : List Pt} {n a b : Nat} (h : EA es (n + 1) a b) : ∃ c, EA es 1 a c ∧ EA es n c b := by
  unfold EA at h
  rw [Nat.add_comm] at h
  obtain ⟨c, h1, h2⟩ := endO_split _ _ _ _ _ h
  have h3 := endO_lt _ _ _ _ h1
  refine ⟨c, h1, ?_⟩
  rw [List.drop_drop, show a + (c - a) = c from by omega] at h2
  exact h2
theorem EA.join {es : List Pt} {n a b c : Nat} (h : EA es 1 a c) (k : EA es n c b) : EA es (n + 1) a b := by
  have h3 := endO_lt _ _ _ _ h
  unfold EA
  rw [Nat.add_comm]
  refine endO_join _ _ _ _ _ c h ?_
  rw [List.drop_drop, show a + (c - a) = c from by omega]
  exact k
theorem dropC {es : List Pt} {a : Nat} {p : Pt} (hp : es[a]? = some p) : es.drop a = p :: es.drop (a + 1) := by
  rw [List.drop_eq_getElem_cons (getq_lt hp), (List.getElem?_eq_some_iff.1 hp).2]
theorem EA.open {es : List Pt} {a b : Nat} (h : EA es 1 a b) : ∃ p, es[a]? = some p ∧ EA es (manyE p) (a + 1) b := by
  have h2 := h.lt
  have ha : a < es.length := by omega
  refine ⟨es[a], List.getElem?_eq_getElem ha, ?_⟩
  unfold EA at h
  rw [List.drop_eq_getElem_cons ha] at h
  simp only [endO, Nat.zero_add] at h
  exact h
theorem EA.close {es : List Pt} {a b : Nat} {p : Pt} (hp : es[a]? = some p) (h : EA es (manyE p) (a + 1) b) : EA es 1 a b := by
  unfold EA
  rw [dropC hp]
  simp only [endO, Nat.zero_add]
  exact h

/-- Children that are all there. -/
theorem kids_there {es : List Pt} {a0 : Nat} (ih : ∀ i, a0 ≤ i → i < es.length → ∃ b, EA es 1 i b) : ∀ (n a : Nat), a0 ≤ a → (rKids es n a).length = n → kidsO es n a = some (rKids es n a) ∧ ∃ b, EA es n a b
  | 0, a, _, _ => ⟨rfl, a, by unfold EA; cases es.drop a <;> rfl⟩
  | n + 1, a, ha, h => by
    unfold rKids at h ⊢
    by_cases hl : a < es.length
    · rw [if_pos hl] at h ⊢
      obtain ⟨c, hc⟩ := ih a ha hl
      have h2 := hc.lt
      have hr : rEnd (es.drop a) 1 a = c := endO_rEnd _ _ _ _ hc
      rw [hr] at h ⊢
      simp only [List.length_cons] at h
      obtain ⟨k1, b, k2⟩ := kids_there ih n c (by omega) (by omega)
      refine ⟨?_, b, hc.join k2⟩
      unfold kidsO
      unfold EA at hc
      rw [hc]
      simp only
      rw [k1]
      rfl
    · rw [if_neg hl] at h
      simp at h
/-- Where each part has so many children as it should, each one is a tree. -/
theorem all_there {es : List Pt} (h : ∀ i p, es[i]? = some p → (rKids es (manyE p) (i + 1)).length = manyE p) : ∀ (n i : Nat), es.length - i ≤ n → i < es.length → ∃ b, EA es 1 i b
  | 0, i, h1, h2 => by omega
  | n + 1, i, h1, h2 => by
    have hp : es[i]? = some es[i] := List.getElem?_eq_getElem h2
    obtain ⟨_, b, hb⟩ := kids_there (a0 := i + 1) (fun j hj hl => all_there h n j (by omega) hl) (manyE es[i]) (i + 1) (Nat.le_refl _) (h i _ hp)
    exact ⟨b, EA.close hp hb⟩

/-- A part's children's labels and kinds, as they should be. -/
structure LabF (es : List Pt) (p : Pt) (l : List Nat) : Prop where
  len : l.length = manyE p
  kind : ∀ (k a : Nat) (x : Pt), l[k]? = some a → es[a]? = some x → ((x.k = 8) ↔ (p.k = 7 ∧ 0 < k))
  word : ∀ (k a : Nat) (x : Pt), l[k]? = some a → es[a]? = some x → p.k = 10 → wordB x.lb = true
  tag : ∀ (k a : Nat) (x : Pt), l[k]? = some a → es[a]? = some x → p.k = 7 → 0 < k → tagB x.lb = true
  none : ∀ (k a : Nat) (x : Pt), l[k]? = some a → es[a]? = some x → p.k ≠ 10 → ¬ (p.k = 7 ∧ 0 < k) → x.lb = ByteArray.empty
  diff : ∀ (j k a b : Nat) (x y : Pt), j < k → l[j]? = some a → l[k]? = some b → es[a]? = some x → es[b]? = some y → y.lb ≠ ByteArray.empty → x.lb ≠ y.lb
end Go.Proofs.YtmjdhfbnmmdjiaaGreat

/- The document's Many, End and Kids of parts. -/
namespace Go.Proofs.YtmjdhfbnmmdjiaaGreat
open Go.RowKit

set_option maxRecDepth 100000 in
set_option maxHeartbeats 4000000 in
theorem rmanyE_any (p : Pt) (TA : Option Addr) (tn tc : Nat) (UA : Option Addr) (un uc : Nat) (w : World) (hk : 0 ≤ p.k ∧ p.k ≤ 14) (hm : 0 ≤ p.mn ∧ p.mn ≤ 50) :
    Calls Tryz.prog 38 #[pvE p TA tn tc UA un uc] w fun e w' => e = .returned (.int .i64 (manyE p : Int)) ∧ Below w.heap.size w w' := by
  have hcs : p.k = 0 ∨ p.k = 1 ∨ p.k = 2 ∨ p.k = 3 ∨ p.k = 4 ∨ p.k = 5 ∨ p.k = 6 ∨ p.k = 7 ∨ p.k = 8 ∨ p.k = 9 ∨ p.k = 10 ∨ p.k = 11 ∨ p.k = 12 ∨ p.k = 13 ∨ p.k = 14 := by omega
  obtain ⟨k, lb, nm, bd, mn, num, T, U⟩ := p
  dsimp only at hk hm hcs
  obtain ⟨mx, hmx⟩ : ∃ mx : Int, mx = max mn 0 := ⟨_, rfl⟩
  have hmm : mx = mn := by omega
  unfold pvE
  rcases hcs with rfl | rfl | rfl | rfl | rfl | rfl | rfl | rfl | rfl | rfl | rfl | rfl | rfl | rfl | rfl
  all_goals
    go_enter Tryz.func38, Tryz.ntmps38
    go_wp2_with fail
    go_ret
    refine ⟨ret_int ?_, ext_alloc (Below.refl _ _) _⟩
    simp [manyE]
    try omega

theorem rEnd_step {es : List Pt} {k n : Nat} {x : Pt} (hx : es[k]? = some x) : rEnd (es.drop k) (n + 1) k = rEnd (es.drop (k + 1)) (n + manyE x) (k + 1) := by
  rw [dropC hx]
  rfl
theorem rEnd_le : ∀ (xs : List Pt) (n p : Nat), rEnd xs n p ≤ p + xs.length
  | [], 0, p => by simp [rEnd]
  | [], n + 1, p => by simp [rEnd]
  | _ :: _, 0, p => by simp [rEnd]
  | x :: xs, n + 1, p => by
    simp only [rEnd, List.length_cons]
    have := rEnd_le xs (n + manyE x) (p + 1)
    omega
theorem rEnd_out {es : List Pt} {k n : Nat} (h : es.length ≤ k) (hk : k ≤ es.length) : rEnd (es.drop k) n k = es.length := by
  rw [List.drop_of_length_le h]
  cases n <;> simp [rEnd] <;> omega

set_option maxRecDepth 100000 in
set_option maxHeartbeats 2000000 in
theorem rEndE_any (Y : Nat → Prop) (A : Option Addr) (c : Nat) (es : List Pt) (i : Nat) (w : World) (hx : ExX w Y A es) (hl : es.length ≤ 1000000) (hok : PsOk es) (hi : i < es.length) :
    Calls Tryz.prog 23 #[.slice A es.length c, .int .i64 (i : Int)] w fun e w' => e = .returned (.int .i64 (rEnd (es.drop i) 1 i : Nat)) ∧ Below w.heap.size w w' := by
  have H := Lib.hid (And.intro hx hok)
  have h0' : (0 : Int) ≤ (i : Int) := by omega
  have h1' : (i : Int) < (es.length : Int) := by omega
  have hd0 : decide ((i : Int) < 0) = false := by simp
  have hd1 : decide (es.length ≤ i) = false := by simp; omega
  clear hx hok
  go_enter Tryz.func23, Tryz.ntmps23
  go_wp2_with fail
  go_loopw [5, 6] (fun o5 i6 wr => ∃ (q n : Nat), o5 = .int .i64 ((n + 1 : Nat) : Int) ∧ i6 = .int .i64 q ∧ i ≤ q ∧ q ≤ es.length ∧ n ≤ 51 * q ∧ Hid (rEnd (es.drop q) (n + 1) q = rEnd (es.drop i) 1 i ∧ Below w.heap.size w wr))
    (fun _ i6 _ => es.length - (Lib.intOf i6).toNat)
  case atStart => exact ⟨i, 0, rfl, rfl, by omega, by omega, by omega, Lib.hid ⟨rfl, Below.refl _ _⟩⟩
  case round =>
    obtain ⟨q, n, rfl, rfl, hiq, hq, hn, HI⟩ := hrel
    by_cases hlt : q < es.length
    · obtain ⟨x, hx⟩ := getq_ex hlt
      have hst := rEnd_step (n := n) hx
      have hxo := H.out.2 x (List.mem_of_getElem? hx)
      have hm51 := manyE_le hxo.2
      obtain ⟨eb, eo, rfl, hb, hy, ⟨TA, tc, UA, uc, _, _, c0, c1, c2, c3, c4, c5, c6, c7⟩, _⟩ := (H.out.1.fr (Fr.below HI.out.2 : Fr Y w wr) fun q hq => .inl hq) q x hx
      have HM := Lib.hid (fun v (hv : Below w.heap.size w v) => rmanyE_any x TA x.T.length tc UA x.U.length uc v hxo.1 hxo.2)
      have HS := Lib.hid hst
      unfold pvE at HM
      clear hx hst hxo
      obtain ⟨M, hM⟩ : ∃ M, M = manyE x := ⟨_, rfl⟩
      rw [← hM] at HM HS hm51
      clear hM
      by_cases hz : n + M = 0
      · have hn0 : n = 0 := by omega
        have hM0 : M = 0 := by omega
        subst hn0 hM0
        have HS2 : Hid (rEnd (es.drop i) 1 i = q + 1) := Lib.hid (by
          rw [← HI.out.1, HS.out]
          cases es.drop (q + 1) <;> rfl)
        go_wp2_with fail
        refine (HM.out _ HI.out.2).mono ?_
        rintro e w1 ⟨rfl, hb1⟩
        have HB1 := Lib.hid (ext_trans HI.out.2 hb1)
        clear hb1 c0 c1 c2 c3 c4 c5 c6 c7
        go_wp2_with fail
        go_ret
        exact ⟨ret_int (by rw [HS2.out]; rfl), HB1.out⟩
      · obtain ⟨m, hm⟩ : ∃ m, n + M = m + 1 := ⟨n + M - 1, by omega⟩
        have hzb : ((n : Int) + 1 - 1 + (M : Int) == 0) = false := by simp; omega
        have hzc : (((n + 1 : Nat) : Int) - 1 + (M : Int) == 0) = false := by simp; omega
        have HZ := Lib.hid hz
        clear hz
        go_wp2_with fail
        refine (HM.out _ HI.out.2).mono ?_
        rintro e w1 ⟨rfl, hb1⟩
        have HB1 := Lib.hid (ext_trans HI.out.2 hb1)
        clear hb1 c0 c1 c2 c3 c4 c5 c6 c7
        go_wp2_with fail
        go_roundw
        case rel => exact ⟨q + 1, m, by go_num, by go_num, by omega, by omega, by omega, Lib.hid ⟨by rw [← hm, ← HS.out, HI.out.1], HB1.out⟩⟩
        case measure => simp [Lib.intOf]; omega
    · have HS2 : Hid (rEnd (es.drop i) 1 i = es.length) := Lib.hid (by rw [← HI.out.1, rEnd_out (by omega) hq])
      go_wp2_with fail
      go_ret
      exact ⟨ret_int (by rw [HS2.out]), HI.out.2⟩

set_option maxRecDepth 100000 in
set_option maxHeartbeats 2000000 in
theorem rKidsE_any (Y : Nat → Prop) (A : Option Addr) (c : Nat) (es : List Pt) (i : Nat) (p : Pt) (w : World) (hx : ExX w Y A es) (hl : es.length ≤ 1000000) (hok : PsOk es) (hp : es[i]? = some p) :
    Calls Tryz.prog 27 #[.slice A es.length c, .int .i64 (i : Int)] w fun e w' => ∃ A' cap', e = .returned (.slice A' (asI (rKids es (manyE p) (i + 1))).length cap') ∧ OwnI w' w.heap.size A' cap' (asI (rKids es (manyE p) (i + 1))) ∧ Below w.heap.size w w' := by
  have hi := getq_lt hp
  have H := Lib.hid (And.intro hx hok)
  have hxo := hok p (List.mem_of_getElem? hp)
  have hm51 := manyE_le hxo.2
  have hown0 := own_empty 3 1 encI w
  have hb0 := ext_alloc (Below.refl w.heap.size w) (.cells #[] 3)
  obtain ⟨eb, eo, rfl, hb, hy, ⟨TA, tc, UA, uc, _, _, c0, c1, c2, c3, c4, c5, c6, c7⟩, _⟩ := hx i p hp
  have HM := Lib.hid (fun v => rmanyE_any p TA p.T.length tc UA p.U.length uc v hxo.1 hxo.2)
  have HC := Lib.hid (fun v (hv : Below w.heap.size w v) => And.intro ((hv.cell (p := ⟨eb, eo + i * 8, none⟩) hb).trans c0) (And.intro ((hv.cell (p := ⟨eb, eo + i * 8 + 1, none⟩) hb).trans c1) (And.intro ((hv.cell (p := ⟨eb, eo + i * 8 + 2, none⟩) hb).trans c2) (And.intro ((hv.cell (p := ⟨eb, eo + i * 8 + 3, none⟩) hb).trans c3) (And.intro ((hv.cell (p := ⟨eb, eo + i * 8 + 4, none⟩) hb).trans c4) (And.intro ((hv.cell (p := ⟨eb, eo + i * 8 + 5, none⟩) hb).trans c5) (And.intro ((hv.cell (p := ⟨eb, eo + i * 8 + 6, none⟩) hb).trans c6) ((hv.cell (p := ⟨eb, eo + i * 8 + 7, none⟩) hb).trans c7))))))))
  unfold pvE at HM
  have h0' : (0 : Int) ≤ (i : Int) := by omega
  have h1' : (i : Int) < (es.length : Int) := by omega
  have hd0 : decide ((i : Int) < 0) = false := by simp
  have hd1 : decide (es.length ≤ i) = false := by simp; omega
  obtain ⟨M, hM⟩ : ∃ M, M = manyE p := ⟨_, rfl⟩
  rw [← hM] at HM hm51 ⊢
  clear hx hok hxo hp hM c0 c1 c2 c3 c4 c5 c6 c7 hy
  go_enter Tryz.func27, Tryz.ntmps27
  go_wp2_with fail
  go_loopw [5, 6, 7] (fun o5 i6 k7 wr => ∃ (k at_ : Nat) (A' : Option Addr) (cap' : Nat) (l : List Int), o5 = .slice A' l.length cap' ∧ i6 = .int .i64 at_ ∧ k7 = .int .i64 k ∧ k ≤ M ∧ at_ ≤ es.length ∧ l.length ≤ k ∧
      Hid (OwnI wr w.heap.size A' cap' l ∧ Below w.heap.size w wr ∧ l ++ asI (rKids es (M - k) at_) = asI (rKids es M (i + 1))))
    (fun _ _ k7 _ => M - (Lib.intOf k7).toNat)
  case atStart => exact ⟨0, i + 1, _, _, [], rfl, rfl, rfl, Nat.zero_le _, hi, Nat.le_refl _, Lib.hid ⟨hown0, hb0, rfl⟩⟩
  case round =>
    obtain ⟨k, at_, A', cap', l, rfl, rfl, rfl, hkM, hatl, hlk, HI⟩ := hrel
    obtain ⟨c0, c1, c2, c3, c4, c5, c6, c7⟩ := HC.out wr HI.out.2.1
    by_cases hlt : k < M
    · by_cases hp : at_ < es.length
      · obtain ⟨d, hd'⟩ : ∃ d, M - k = d + 1 := ⟨M - k - 1, by omega⟩
        have hgood2 : Hid ((l ++ [(at_ : Int)]) ++ asI (rKids es d (rEnd (es.drop at_) 1 at_)) = asI (rKids es M (i + 1))) := Lib.hid (by
          rw [← HI.out.2.2, hd']
          simp only [rKids, if_pos hp]
          simp [asI])
        have Hd' := Lib.hid hd'
        have hle := rEnd_le (es.drop at_) 1 at_
        rw [List.length_drop] at hle
        clear hd'
        go_wp2_with fail
        refine (HM.out _).mono ?_
        rintro e w1 ⟨rfl, hbx⟩
        have hown1 := OwnL.below HI.out.1 hbx (Nat.le_refl _)
        have hbel1 := ext_trans HI.out.2.1 hbx
        have z1 := hbel1.size
        clear c0 c1 c2 c3 c4 c5 c6 c7
        go_wp2_with (at_builtin; refine wpList_appI rfl (.tmp 35) (.tmp 37) rfl w.heap.size (l := l) rfl (OwnL.alloc hown1 _) (l2 := [(at_ : Int)]) rfl (readI_new _ _) (by simp; omega) (by simp; omega) ?_; intro A2 cap2 w3 hown3 hg3 _)
        have hbel3 := ext_app (ext_alloc hbel1 _) hg3 (fun k hk => (OwnL.block hown1 k hk).1)
        refine (rEndE_any Y _ c es at_ _ (H.out.1.fr (Fr.below hbel3 : Fr Y w _) fun q hq => .inl hq) hl H.out.2 hp).mono ?_
        rintro e w4 ⟨rfl, hb4⟩
        have hown4 := OwnL.below hown3 hb4 (Nat.le_refl _)
        go_wp2_with fail
        go_roundw
        case rel => exact ⟨k + 1, _, _, _, l ++ [(at_ : Int)], by simp, rfl, by go_num, by omega, by omega, by simp; omega, Lib.hid ⟨hown4, ext_trans hbel3 hb4, by rw [← hgood2.out, show M - (k + 1) = d by have := Hd'.out; omega]⟩⟩
        case measure => simp [Lib.intOf]; omega
      · have HO : Hid (l = asI (rKids es M (i + 1)) ∧ OwnI wr w.heap.size A' cap' l ∧ Below w.heap.size w wr) := Lib.hid (by
          obtain ⟨d, hd'⟩ : ∃ d, M - k = d + 1 := ⟨M - k - 1, by omega⟩
          have := HI.out.2.2
          rw [hd'] at this
          simp only [rKids, if_neg hp] at this
          exact ⟨by simpa [asI] using this, HI.out.1, HI.out.2.1⟩)
        go_wp2_with fail
        refine (HM.out _).mono ?_
        rintro e w1 ⟨rfl, hbx⟩
        clear c0 c1 c2 c3 c4 c5 c6 c7
        go_wp2_with fail
        go_ret
        rw [← HO.out.1]
        exact ⟨_, _, rfl, OwnL.below HO.out.2.1 hbx (Nat.le_refl _), ext_trans HO.out.2.2 hbx⟩
    · have HO : Hid (l = asI (rKids es M (i + 1)) ∧ OwnI wr w.heap.size A' cap' l ∧ Below w.heap.size w wr) := Lib.hid (by
        have := HI.out.2.2
        rw [show M - k = 0 by omega] at this
        exact ⟨by simpa [asI, rKids] using this, HI.out.1, HI.out.2.1⟩)
      go_wp2_with fail
      refine (HM.out _).mono ?_
      rintro e w1 ⟨rfl, hbx⟩
      clear c0 c1 c2 c3 c4 c5 c6 c7
      go_wp2_with fail
      go_ret
      rw [← HO.out.1]
      exact ⟨_, _, rfl, OwnL.below HO.out.2.1 hbx (Nat.le_refl _), ext_trans HO.out.2.2 hbx⟩
end Go.Proofs.YtmjdhfbnmmdjiaaGreat
