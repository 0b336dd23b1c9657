/- Rows of nodes as forests: so many trees, one behind the other. Plain lists. -/
import Derived.Test.YtblfeokjlecgkaaRRight
namespace Go.Proofs.Ytblfeokjlecgkaa

def manyN (x : Nd) : Nat := (many x.k x.n).toNat

/-- So many trees are passed: what is behind them. -/
def skip : List Nd → Nat → Option (List Nd)
  | xs, 0 => some xs
  | [], _ + 1 => none
  | x :: xs, n + 1 => skip xs (n + manyN x)

theorem skip_zero (xs : List Nd) : skip xs 0 = some xs := by cases xs <;> rfl
theorem skip_nil (n : Nat) : skip [] (n + 1) = none := rfl
theorem skip_cons (x : Nd) (xs : List Nd) (n : Nat) : skip (x :: xs) (n + 1) = skip xs (n + manyN x) := rfl

theorem skip_add : ∀ (xs : List Nd) (a b : Nat), skip xs (a + b) = (skip xs a).bind fun ys => skip ys b := by
  intro xs
  induction xs with
  | nil =>
    intro a b
    cases a with
    | zero => rw [skip_zero, Nat.zero_add]; rfl
    | succ a => rw [skip_nil, show a + 1 + b = (a + b) + 1 by omega, skip_nil]; rfl
  | cons x xs ih =>
    intro a b
    cases a with
    | zero => rw [skip_zero, Nat.zero_add]; rfl
    | succ a =>
      rw [skip_cons, show a + 1 + b = (a + b) + 1 by omega, skip_cons, ← ih]
      congr 1
      omega

/-- So many trees, and nothing else. -/
def Fo (n : Nat) (xs : List Nd) : Prop := skip xs n = some []

theorem skip_append : ∀ (ps ys : List Nd) (n : Nat) (r : List Nd), skip ps n = some r → skip (ps ++ ys) n = some (r ++ ys) := by
  intro ps
  induction ps with
  | nil =>
    intro ys n r h
    cases n with
    | zero => rw [skip_zero] at h ⊢; injection h with h; subst h; rfl
    | succ n => cases h
  | cons x ps ih =>
    intro ys n r h
    cases n with
    | zero => rw [skip_zero] at h ⊢; injection h with h; subst h; rfl
    | succ n => rw [skip_cons] at h; rw [List.cons_append, skip_cons]; exact ih ys _ r h

theorem Fo.pass {n : Nat} {ps : List Nd} (h : Fo n ps) (ys : List Nd) : skip (ps ++ ys) n = some ys := skip_append ps ys n [] h

theorem skip_split : ∀ (xs : List Nd) (n : Nat) (ys : List Nd), skip xs n = some ys → ∃ ps, xs = ps ++ ys ∧ Fo n ps := by
  intro xs
  induction xs with
  | nil =>
    intro n ys h
    cases n with
    | zero => rw [skip_zero] at h; injection h with h; subst h; exact ⟨[], rfl, rfl⟩
    | succ n => cases h
  | cons x xs ih =>
    intro n ys h
    cases n with
    | zero => rw [skip_zero] at h; injection h with h; subst h; exact ⟨[], rfl, rfl⟩
    | succ n =>
      rw [skip_cons] at h
      obtain ⟨ps, rfl, hf⟩ := ih _ _ h
      exact ⟨x :: ps, rfl, hf⟩

theorem Fo.zero : Fo 0 [] := rfl
theorem Fo.nil_of {n : Nat} (h : Fo n []) : n = 0 := by cases n with | zero => rfl | succ n => cases h
theorem Fo.of_zero {xs : List Nd} (h : Fo 0 xs) : xs = [] := by unfold Fo at h; rw [skip_zero] at h; injection h

theorem Fo.append {a b : Nat} {ps qs : List Nd} (h : Fo a ps) (k : Fo b qs) : Fo (a + b) (ps ++ qs) := by
  show skip (ps ++ qs) (a + b) = some []
  rw [skip_add, h.pass]
  exact k

theorem Fo.cons {n : Nat} {x : Nd} {ks rs : List Nd} (h : Fo (manyN x) ks) (k : Fo n rs) : Fo (n + 1) (x :: (ks ++ rs)) := by
  show skip (ks ++ rs) (n + manyN x) = some []
  rw [Nat.add_comm, skip_add, h.pass]
  exact k

/-- A tree's parts, and the other trees. -/
theorem Fo.uncons {n : Nat} {x : Nd} {ys : List Nd} (h : Fo (n + 1) (x :: ys)) : ∃ ks rs, ys = ks ++ rs ∧ Fo (manyN x) ks ∧ Fo n rs := by
  have h' : skip ys (n + manyN x) = some [] := h
  rw [Nat.add_comm, skip_add] at h'
  cases hs : skip ys (manyN x) with
  | none => rw [hs] at h'; cases h'
  | some rs =>
    rw [hs] at h'
    obtain ⟨ks, rfl, hk⟩ := skip_split _ _ _ hs
    exact ⟨ks, rs, rfl, hk, h'⟩

/-- What holds of all forests. -/
theorem Fo.ind {P : Nat → List Nd → Prop} (h0 : P 0 []) (h1 : ∀ (x : Nd) (ks rs : List Nd) (n : Nat), Fo (manyN x) ks → Fo n rs → P (manyN x) ks → P n rs → P (n + 1) (x :: (ks ++ rs))) :
    ∀ (n : Nat) (xs : List Nd), Fo n xs → P n xs := by
  have key : ∀ (len : Nat) (n : Nat) (xs : List Nd), xs.length ≤ len → Fo n xs → P n xs := by
    intro len
    induction len with
    | zero =>
      intro n xs hl h
      have := List.eq_nil_of_length_eq_zero (Nat.le_zero.1 hl)
      subst this
      rw [h.nil_of]
      exact h0
    | succ len ih =>
      intro n xs hl h
      match xs, hl, h with
      | [], hl, h => rw [h.nil_of]; exact h0
      | x :: ys, hl, h =>
        match n, h with
        | 0, h => have := h.of_zero; cases this
        | n + 1, h =>
          obtain ⟨ks, rs, rfl, hk, hr⟩ := h.uncons
          simp only [List.length_cons, List.length_append] at hl
          exact h1 x ks rs n hk hr (ih _ _ (by omega) hk) (ih _ _ (by omega) hr)
  exact fun n xs h => key xs.length n xs (Nat.le_refl _) h

/-- The first of so many trees. -/
theorem Fo.first {n : Nat} {xs : List Nd} (h : Fo (n + 1) xs) : ∃ ts rs, xs = ts ++ rs ∧ Fo 1 ts ∧ Fo n rs := by
  have h' : skip xs (n + 1) = some [] := h
  rw [Nat.add_comm, skip_add] at h'
  cases hs : skip xs 1 with
  | none => rw [hs] at h'; cases h'
  | some rs =>
    rw [hs] at h'
    obtain ⟨ts, rfl, ht⟩ := skip_split _ _ _ hs
    exact ⟨ts, rs, rfl, ht, h'⟩

theorem Fo.pos {n : Nat} {xs : List Nd} (h : Fo (n + 1) xs) : 0 < xs.length := by
  cases xs with
  | nil => cases h
  | cons x xs => simp

theorem manyN_ok {x : Nd} (h : okNode x.k x.n = true) : many x.k x.n = (manyN x : Int) := by
  have := many_bound h
  unfold manyN
  omega

/-- Where so many trees end, for the document's End. -/
theorem endGo_skip : ∀ (zs : List Nd) (n p : Nat) (ys : List Nd), (∀ x ∈ zs, okNode x.k x.n = true) → skip zs (n + 1) = some ys → endGo zs ((n + 1 : Nat) : Int) p + ys.length = p + zs.length := by
  intro zs
  induction zs with
  | nil => intro n p ys _ h; cases h
  | cons x zs ih =>
    intro n p ys hok h
    rw [skip_cons] at h
    have hm := manyN_ok (hok x (by simp))
    simp only [endGo]
    rw [hm]
    by_cases hz : n + manyN x = 0
    · rw [if_pos (by omega)]
      rw [hz, skip_zero] at h
      injection h with h
      subst h
      simp only [List.length_cons]
      omega
    · rw [if_neg (by omega)]
      obtain ⟨m, hm'⟩ : ∃ m, n + manyN x = m + 1 := ⟨n + manyN x - 1, by omega⟩
      rw [hm'] at h
      have := ih m (p + 1) ys (fun y hy => hok y (by simp [hy])) h
      rw [show (((n + 1 : Nat) : Int) - 1 + (manyN x : Int)) = ((m + 1 : Nat) : Int) by omega]
      simp only [List.length_cons]
      omega
end Go.Proofs.Ytblfeokjlecgkaa
