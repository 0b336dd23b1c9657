/- Trees of nodes: depth, place, printed text (no program in sight). -/
import Derived.Test.YtblfeokjlecgkaaGreatPrint
namespace Go.Proofs.YtblfeokjlecgkaaGreat

/-- How deep a search may go hangs on nothing but the tree: as many levels as nodes are enough. -/
theorem kidsP_fuel {T : List Nd} {f g : Nat} (x : Nd) (ih : ∀ i j, treeP T f i = some j → i < j ∧ (j - i ≤ g → treeP T g i = some j)) :
    ∀ (d : Nat) (k : Int) (last : ByteArray) (i j : Nat), kidsP (treeP T f) T x d k last i = some j → i ≤ j ∧ (j - i ≤ g → kidsP (treeP T g) T x d k last i = some j) := by
  intro d
  induction d with
  | zero =>
    intro k last i j h
    simp only [kidsP, Option.some.injEq] at h
    subst h
    exact ⟨Nat.le_refl _, fun _ => rfl⟩
  | succ d ihd =>
    intro k last i j h
    simp only [kidsP] at h ⊢
    split at h
    · cases h
    · rename_i y hy
      split at h
      · rename_i hc
        split at h
        · cases h
        · rename_i at' hat
          obtain ⟨h1, h2⟩ := ih i at' hat
          obtain ⟨h3, h4⟩ := ihd (k + 1) y.s at' j h
          refine ⟨by omega, fun hg => ?_⟩
          simp only [hc, if_true, h2 (by omega)]
          exact h4 (by omega)
      · cases h

theorem treeP_fuel {T : List Nd} : ∀ (f g i j : Nat), treeP T f i = some j → i < j ∧ (j - i ≤ g → treeP T g i = some j) := by
  intro f
  induction f with
  | zero => intro g i j h; cases h
  | succ f ih =>
    intro g i j h
    simp only [treeP] at h
    split at h
    · cases h
    · rename_i x hx
      split at h
      · rename_i hok
        have hle : i + 1 ≤ j := by
          have := (kidsP_fuel (f := f) (g := 0) x (fun i' j' h' => ih 0 i' j' h') _ _ _ _ _ h).1
          exact this
        refine ⟨hle, fun hg => ?_⟩
        match g, hg with
        | 0, hg => omega
        | g + 1, hg =>
          have := (kidsP_fuel (f := f) (g := g) x (fun i' j' h' => ih g i' j' h') _ _ _ _ _ h).2 (by omega)
          simp only [treeP, hx]
          rw [if_pos hok]
          exact this
      · cases h

theorem getq_mid {T : List Nd} {i : Nat} {x : Nd} (p r : List Nd) (h : T[i]? = some x) : (p ++ (T ++ r))[p.length + i]? = some x := by
  rw [List.getElem?_append_right (by omega), Nat.add_sub_cancel_left, List.getElem?_append_left (getq_lt h)]
  exact h

theorem kidsP_shift {T : List Nd} (p r : List Nd) {f : Nat} (x : Nd) (ih : ∀ i j, treeP T f i = some j → treeP (p ++ (T ++ r)) f (p.length + i) = some (p.length + j)) :
    ∀ (d : Nat) (k : Int) (last : ByteArray) (i j : Nat), kidsP (treeP T f) T x d k last i = some j → kidsP (treeP (p ++ (T ++ r)) f) (p ++ (T ++ r)) x d k last (p.length + i) = some (p.length + j) := by
  intro d
  induction d with
  | zero =>
    intro k last i j h
    simp only [kidsP, Option.some.injEq] at h ⊢
    rw [h]
  | succ d ihd =>
    intro k last i j h
    simp only [kidsP] at h ⊢
    split at h
    · cases h
    · rename_i y hy
      split at h
      · rename_i hc
        split at h
        · cases h
        · rename_i at' hat
          rw [getq_mid p r hy]
          simp only [hc, if_true, ih i at' hat]
          exact ihd (k + 1) y.s at' j h
      · cases h

/-- A tree inside another row of nodes. -/
theorem treeP_shift {T : List Nd} (p r : List Nd) : ∀ (f i j : Nat), treeP T f i = some j → treeP (p ++ (T ++ r)) f (p.length + i) = some (p.length + j) := by
  intro f
  induction f with
  | zero => intro i j h; cases h
  | succ f ih =>
    intro i j h
    simp only [treeP] at h ⊢
    split at h
    · cases h
    · rename_i x hx
      split at h
      · rename_i hok
        rw [getq_mid p r hx]
        simp only [hok, if_true]
        exact kidsP_shift p r x ih _ _ _ _ _ h
      · cases h

/-- What is printed hangs on nothing behind the tree. -/
theorem prKids_rest {pr : List Nd → List UInt8} (sep : List UInt8) (hpr : ∀ ts r, Fo 1 ts → pr (ts ++ r) = pr ts) :
    ∀ (d : Nat) (sep0 : List UInt8) (ks r : List Nd), Fo d ks → prKids pr sep d sep0 (ks ++ r) = prKids pr sep d sep0 ks := by
  intro d
  induction d with
  | zero => intro sep0 ks r _; rfl
  | succ d ih =>
    intro sep0 ks r hf
    obtain ⟨ts, ks', rfl, hts, hks⟩ := hf.first
    have hh : ∀ r', headNd (ts ++ r') = headNd ts := fun r' => by
      cases ts with
      | nil => cases hts
      | cons x ts => rfl
    rw [List.append_assoc]
    simp only [prKids, hh, rest1_fo hts]
    rw [hpr ts _ hts, hpr ts _ hts, ih sep ks' r hks]

theorem prS_rest : ∀ (f : Nat) (ts r : List Nd), Fo 1 ts → prS f (ts ++ r) = prS f ts := by
  intro f
  induction f with
  | zero => intro ts r _; rfl
  | succ f ih =>
    intro ts r h
    match ts, h with
    | [], h => cases h
    | x :: ys, h =>
      obtain ⟨ks, rs, rfl, hks, hrs⟩ := h.uncons
      have := hrs.of_zero
      subst this
      simp only [List.append_nil, List.cons_append]
      simp only [prS]
      by_cases h5 : x.k = 5
      · have hm : manyN x = 2 := by unfold manyN many; simp [h5]
        rw [hm] at hks
        obtain ⟨t1, ks', rfl, ht1, hks'⟩ := hks.first
        have hh : ∀ r', headNd (t1 ++ r') = headNd t1 := fun r' => by
          cases t1 with
          | nil => cases ht1
          | cons x ts => rfl
        simp only [if_pos h5, List.append_assoc, hh, rest1_fo ht1]
        rw [ih t1 (ks' ++ r) ht1, ih t1 ks' ht1, ih ks' r hks']
      · simp only [if_neg h5]
        rw [prKids_rest [44, 32] ih (manyN x) [] ks r hks, prKids_rest [32, 124, 32] ih (manyN x) [] ks r hks]

/-- Deep enough is deep enough. -/
theorem prKids_fuel {T : List Nd} {f g : Nat} (sep : List UInt8) (x : Nd) (ih : ∀ i j, treeP T f i = some j → prS g (T.drop i) = prS f (T.drop i)) :
    ∀ (d : Nat) (k : Int) (last : ByteArray) (sep0 : List UInt8) (i j : Nat), kidsP (treeP T f) T x d k last i = some j → prKids (prS g) sep d sep0 (T.drop i) = prKids (prS f) sep d sep0 (T.drop i) := by
  intro d
  induction d with
  | zero => intro k last sep0 i j _; rfl
  | succ d ihd =>
    intro k last sep0 i j h
    obtain ⟨y, at', hy, htr, h2⟩ := kidsP_step h
    simp only [prKids, tree_rest1 htr]
    rw [ih i at' htr, ihd (k + 1) y.s sep at' j h2]

theorem prS_fuel {T : List Nd} : ∀ (f g i j : Nat), f ≤ g → treeP T f i = some j → prS g (T.drop i) = prS f (T.drop i) := by
  intro f
  induction f with
  | zero => intro g i j _ h; cases h
  | succ f ih =>
    intro g i j hg h
    match g, hg with
    | g + 1, hg =>
      simp only [treeP] at h
      split at h
      · cases h
      · rename_i x hx
        split at h
        · rename_i hok
          rw [drop_cons hx]
          simp only [prS]
          by_cases h5 : x.k = 5
          · have hm : (many x.k x.n).toNat = 2 := by unfold many; simp [h5]
            rw [hm] at h
            obtain ⟨y, j1, hy, h1, htr2⟩ := kidsP_step h
            obtain ⟨y2, j2, hy2, h2, htr3⟩ := kidsP_step htr2
            simp only [if_pos h5, tree_rest1 h1]
            rw [ih g (i + 1) j1 (by omega) h1, ih g j1 j2 (by omega) h2]
          · simp only [if_neg h5]
            have hk : ∀ sep, prKids (prS g) sep (manyN x) [] (T.drop (i + 1)) = prKids (prS f) sep (manyN x) [] (T.drop (i + 1)) := fun sep => prKids_fuel sep x (fun i' j' h' => ih g i' j' (by omega) h') _ _ _ _ _ _ h
            rw [hk, hk]
        · cases h

/-- A type: its root, its tree. -/
theorem right_parts {T : List Nd} (h : rightB T = true) : treeP T 100 0 = some T.length ∧ T.length ≤ 10000 ∧ ∃ x ys, T = x :: ys ∧ x.s = ByteArray.empty ∧ x.k ≠ 9 := by
  unfold rightB at h
  simp only [Bool.and_eq_true, decide_eq_true_eq] at h
  obtain ⟨⟨h1, h2⟩, h3⟩ := h
  refine ⟨h3, h1, ?_⟩
  match T, h2 with
  | x :: ys, h2 =>
    unfold rootOk at h2
    simp at h2
    exact ⟨x, ys, rfl, h2.1, h2.2⟩
end Go.Proofs.YtblfeokjlecgkaaGreat
