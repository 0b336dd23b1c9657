/- Laid together by a tool from the texts of this seat: SymP SymC SymA. Conditions: each theorem's own. -/
import Derived.Test.YtblfeokjlecgkaaO16
import Derived.BigRegion
import Derived.IntWalk
/- A stable sort of a list by swaps, plain: what is moved within a range, runs, turning a range, merging two runs. -/
namespace Go.Proofs.Ytblfeokjlecgkaa
section
variable {α : Type}

/-- Two places exchanged. -/
def swL (l : List α) (i j : Nat) : List α := match l[i]?, l[j]? with
  | some x, some y => (l.set i y).set j x
  | _, _ => l

theorem swL_len (l : List α) (i j : Nat) : (swL l i j).length = l.length := by
  unfold swL
  split <;> simp

theorem swL_eq {l : List α} {i j : Nat} {x y : α} (hx : l[i]? = some x) (hy : l[j]? = some y) : swL l i j = (l.set i y).set j x := by
  simp [swL, hx, hy]

theorem swL_get {l : List α} {i j : Nat} (hi : i < l.length) (hj : j < l.length) (k : Nat) : (swL l i j)[k]? = if k = j then l[i]? else if k = i then l[j]? else l[k]? := by
  have hx : l[i]? = some l[i] := List.getElem?_eq_getElem hi
  have hy : l[j]? = some l[j] := List.getElem?_eq_getElem hj
  rw [swL_eq hx hy, List.getElem?_set]
  by_cases h1 : k = j
  · subst h1
    simp [hj]
  · rw [if_neg (fun e => h1 e.symm), if_neg h1, List.getElem?_set]
    by_cases h2 : k = i
    · subst h2
      simp [hi]
    · rw [if_neg (fun e => h2 e.symm), if_neg h2]

theorem swL_perm {l : List α} {i j : Nat} (hi : i < l.length) (hj : j < l.length) : (swL l i j).Perm l := by
  have hx : l[i]? = some l[i] := List.getElem?_eq_getElem hi
  have hy : l[j]? = some l[j] := List.getElem?_eq_getElem hj
  rw [swL_eq hx hy]
  exact List.set_set_perm hi hj

/-- Moved within a range. -/
structure Mv (a b : Nat) (l l' : List α) : Prop where
  len : l'.length = l.length
  perm : l'.Perm l
  out : ∀ k, (k < a ∨ b ≤ k) → l'[k]? = l[k]?
  inn : ∀ k, a ≤ k → k < b → ∃ k', a ≤ k' ∧ k' < b ∧ l'[k]? = l[k']?

theorem Mv.refl (a b : Nat) (l : List α) : Mv a b l l := ⟨rfl, .refl _, fun _ _ => rfl, fun k h1 h2 => ⟨k, h1, h2, rfl⟩⟩
theorem Mv.trans {a b : Nat} {l l1 l2 : List α} (h : Mv a b l l1) (k : Mv a b l1 l2) : Mv a b l l2 :=
  ⟨k.len.trans h.len, k.perm.trans h.perm, fun i hi => (k.out i hi).trans (h.out i hi), fun i h1 h2 => by
    obtain ⟨j, a1, a2, e⟩ := k.inn i h1 h2
    obtain ⟨j2, b1, b2, e2⟩ := h.inn j a1 a2
    exact ⟨j2, b1, b2, e.trans e2⟩⟩
theorem Mv.wide {a b a' b' : Nat} {l l' : List α} (h : Mv a b l l') (ha : a' ≤ a) (hb : b ≤ b') : Mv a' b' l l' :=
  ⟨h.len, h.perm, fun i hi => h.out i (by omega), fun i h1 h2 => by
    by_cases e : a ≤ i ∧ i < b
    · obtain ⟨j, c1, c2, e⟩ := h.inn i e.1 e.2
      exact ⟨j, by omega, by omega, e⟩
    · exact ⟨i, h1, h2, h.out i (by omega)⟩⟩
theorem Mv.swap {a b i j : Nat} {l : List α} (hi : i < l.length) (hj : j < l.length) (ai : a ≤ i) (ib : i < b) (aj : a ≤ j) (jb : j < b) : Mv a b l (swL l i j) := by
  refine ⟨swL_len _ _ _, swL_perm hi hj, fun k hk => ?_, fun k h1 h2 => ?_⟩
  · rw [swL_get hi hj, if_neg (by omega), if_neg (by omega)]
  · rw [swL_get hi hj]
    split
    · exact ⟨i, ai, ib, rfl⟩
    · split
      · exact ⟨j, aj, jb, rfl⟩
      · exact ⟨k, h1, h2, rfl⟩

variable (le : α → α → Prop)

/-- A range that rises. -/
def Srt (l : List α) (a b : Nat) : Prop := ∀ i j x y, a ≤ i → i < j → j < b → l[i]? = some x → l[j]? = some y → le x y
/-- All of one range below all of another one. -/
def Und (l : List α) (a b c d : Nat) : Prop := ∀ i j x y, a ≤ i → i < b → c ≤ j → j < d → l[i]? = some x → l[j]? = some y → le x y

variable {le}
theorem Srt.one (l : List α) (a b : Nat) (h : b ≤ a + 1) : Srt le l a b := fun i j x y h1 h2 h3 => by omega
theorem Srt.sub {l : List α} {a b a' b' : Nat} (h : Srt le l a b) (ha : a ≤ a') (hb : b' ≤ b) : Srt le l a' b' := fun i j x y h1 h2 h3 => h i j x y (by omega) h2 (by omega)
theorem Und.sub {l : List α} {a b c d a' b' c' d' : Nat} (h : Und le l a b c d) (ha : a ≤ a') (hb : b' ≤ b) (hc : c ≤ c') (hd : d' ≤ d) : Und le l a' b' c' d' := fun i j x y h1 h2 h3 h4 => h i j x y (by omega) (by omega) (by omega) (by omega)
theorem Srt.join {l : List α} {a m b : Nat} (h1 : Srt le l a m) (h2 : Srt le l m b) (u : Und le l a m m b) : Srt le l a b := fun i j x y k1 k2 k3 hx hy => by
  by_cases e : j < m
  · exact h1 i j x y k1 k2 e hx hy
  · by_cases e2 : i < m
    · exact u i j x y k1 e2 (by omega) k3 hx hy
    · exact h2 i j x y (by omega) k2 k3 hx hy
theorem Srt.same {l l' : List α} {a b : Nat} (h : Srt le l a b) (e : ∀ k, a ≤ k → k < b → l'[k]? = l[k]?) : Srt le l' a b := fun i j x y h1 h2 h3 hx hy =>
  h i j x y h1 h2 h3 (by rw [← e i h1 (by omega)]; exact hx) (by rw [← e j (by omega) h3]; exact hy)
/-- What was moved within each of two ranges. -/
theorem Und.moved {l l' : List α} {a m b : Nat} (u : Und le l a m m b) (h1 : ∀ k, a ≤ k → k < m → ∃ k', a ≤ k' ∧ k' < m ∧ l'[k]? = l[k']?) (h2 : ∀ k, m ≤ k → k < b → ∃ k', m ≤ k' ∧ k' < b ∧ l'[k]? = l[k']?) : Und le l' a m m b := fun i j x y k1 k2 k3 k4 hx hy => by
  obtain ⟨i', a1, a2, e1⟩ := h1 i k1 k2
  obtain ⟨j', b1, b2, e2⟩ := h2 j k3 k4
  exact u i' j' x y a1 a2 b1 b2 (by rw [← e1]; exact hx) (by rw [← e2]; exact hy)

/-! ### Ranges exchanged, a range turned -/

/-- So many places from a exchanged with those from b. -/
def Exch (a b n : Nat) (l l' : List α) : Prop := ∀ k, l'[k]? = if a ≤ k ∧ k < a + n then l[k + b - a]? else if b ≤ k ∧ k < b + n then l[k + a - b]? else l[k]?

theorem Exch.zero (a b : Nat) (l : List α) : Exch a b 0 l l := fun k => by
  rw [if_neg (by omega), if_neg (by omega)]

theorem at_eq (l : List α) {i j : Nat} (h : i = j) : l[i]? = l[j]? := by rw [h]

theorem Exch.next {a b n : Nat} {l l' : List α} (h : Exch a b n l l') (hab : a + n < b) (ha : a + n < l'.length) (hb : b + n < l'.length) : Exch a b (n + 1) l (swL l' (a + n) (b + n)) := fun k => by
  rw [swL_get ha hb, h, h, h]
  (repeat' split) <;> first | omega | rfl | exact at_eq l (by omega)

/-- A range turned about m. -/
def Turn (a m b : Nat) (l l' : List α) : Prop := ∀ k, l'[k]? = if a ≤ k ∧ k < a + (b - m) then l[k + (m - a)]? else if a + (b - m) ≤ k ∧ k < b then l[k - (b - m)]? else l[k]?

theorem Turn.last {m i : Nat} {l l' : List α} (hi : i ≤ m) (h : Exch (m - i) m i l l') : Turn (m - i) m (m + i) l l' := fun k => by
  rw [h]
  (repeat' split) <;> first | omega | rfl | exact at_eq l (by omega)

theorem Turn.more1 {m i j : Nat} {l l1 l' : List α} (hi : i ≤ m) (hij : j < i) (h : Exch (m - i) m j l l1) (t : Turn (m - (i - j)) m (m + j) l1 l') : Turn (m - i) m (m + j) l l' := fun k => by
  rw [t k, h, h, h]
  (repeat' split) <;> first | omega | rfl | exact at_eq l (by omega)

theorem Turn.more2 {m i j : Nat} {l l1 l' : List α} (hi : i ≤ m) (hij : i < j) (h : Exch (m - i) (m + j - i) i l l1) (t : Turn (m - i) m (m + (j - i)) l1 l') : Turn (m - i) m (m + j) l l' := fun k => by
  rw [t k, h, h, h]
  (repeat' split) <;> first | omega | rfl | exact at_eq l (by omega)

/-- What a turn puts where: the second part is first, then the first part. -/
theorem Turn.none {a m b : Nat} {l : List α} (h : a = m ∨ m = b) : Turn a m b l l := fun k => by
  rcases h with rfl | rfl
  · by_cases c : a ≤ k ∧ k < a + (b - a)
    · rw [if_pos c]; congr 1; omega
    · rw [if_neg c, if_neg (by omega)]
  · rw [if_neg (by omega)]
    by_cases c : a + (m - m) ≤ k ∧ k < m
    · rw [if_pos c]; congr 1; omega
    · rw [if_neg c]

/-! ### Merging -/

/-- The place where two runs are parted, and what is known of it. -/
structure Part (le : α → α → Prop) (l : List α) (a m b mid start : Nat) : Prop where
  lo : a ≤ start
  hi : start ≤ m
  lo2 : m ≤ mid + m - start
  hi2 : mid + m - start ≤ b
  up : ∀ x y, a < start → mid + m - start < b → l[start - 1]? = some x → l[mid + m - start]? = some y → le x y
  dn : ∀ x y, start < m → m < mid + m - start → l[mid + m - start - 1]? = some x → l[start]? = some y → le x y

/-- Behind the turn all of the first half is below all of the second one, and each half is two runs. -/
theorem Part.turned (tr : ∀ x y z, le x y → le y z → le x z) {l l' : List α} {a m b mid start : Nat} (hb : b ≤ l.length) (p : Part le l a m b mid start) (h1 : Srt le l a m) (h2 : Srt le l m b) (t : Turn start m (mid + m - start) l l') (hmid : a ≤ mid) (hmb : mid ≤ b) :
    Srt le l' a start ∧ Srt le l' start mid ∧ Srt le l' mid (mid + m - start) ∧ Srt le l' (mid + m - start) b ∧ Und le l' a mid mid b := by
  obtain ⟨q1, q2, q3, q4, up, dn⟩ := p
  have e1 : ∀ k, k < start → l'[k]? = l[k]? := fun k hk => by rw [t, if_neg (by omega), if_neg (by omega)]
  have e2 : ∀ k, start ≤ k → k < mid → l'[k]? = l[k + (m - start)]? := fun k hk hk2 => by rw [t, if_pos (by omega)]
  have e3 : ∀ k, mid ≤ k → k < mid + m - start → l'[k]? = l[k - (mid - start)]? := fun k hk hk2 => by
    rw [t, if_neg (by omega), if_pos (by omega)]
    congr 1
    omega
  have e4 : ∀ k, mid + m - start ≤ k → l'[k]? = l[k]? := fun k hk => by rw [t, if_neg (by omega), if_neg (by omega)]
  have ge : ∀ k, k < b → ∃ x, l[k]? = some x := fun k hk => ⟨l[k]'(by omega), List.getElem?_eq_getElem (by omega)⟩
  -- all of the first run ahead of the part, below what stands behind the part in the second run
  have U1 : Und le l a start (mid + m - start) b := fun i j x y k1 k2 k3 k4 hx hy => by
    obtain ⟨x', hx'⟩ := ge (start - 1) (by omega)
    obtain ⟨y', hy'⟩ := ge (mid + m - start) (by omega)
    have c := up x' y' (by omega) (by omega) hx' hy'
    have c1 : i = start - 1 ∨ le x x' := by
      by_cases e : i = start - 1
      · exact .inl e
      · exact .inr (h1 i (start - 1) x x' k1 (by omega) (by omega) hx hx')
    have c2 : j = mid + m - start ∨ le y' y := by
      by_cases e : j = mid + m - start
      · exact .inl e
      · exact .inr (h2 (mid + m - start) j y' y (by omega) (by omega) k4 hy' hy)
    rcases c1 with e | c1
    · subst e
      rw [hx] at hx'
      injection hx' with hx'
      subst hx'
      rcases c2 with e | c2
      · subst e
        rw [hy] at hy'
        injection hy' with hy'
        subst hy'
        exact c
      · exact tr _ _ _ c c2
    · rcases c2 with e | c2
      · subst e
        rw [hy] at hy'
        injection hy' with hy'
        subst hy'
        exact tr _ _ _ c1 c
      · exact tr _ _ _ c1 (tr _ _ _ c c2)
  have U2 : Und le l m (mid + m - start) start m := fun i j x y k1 k2 k3 k4 hx hy => by
    obtain ⟨x', hx'⟩ := ge (mid + m - start - 1) (by omega)
    obtain ⟨y', hy'⟩ := ge start (by omega)
    have c := dn x' y' (by omega) (by omega) hx' hy'
    have c1 : i = mid + m - start - 1 ∨ le x x' := by
      by_cases e : i = mid + m - start - 1
      · exact .inl e
      · exact .inr (h2 i (mid + m - start - 1) x x' k1 (by omega) (by omega) hx hx')
    have c2 : j = start ∨ le y' y := by
      by_cases e : j = start
      · exact .inl e
      · exact .inr (h1 start j y' y (by omega) (by omega) k4 hy' hy)
    rcases c1 with e | c1
    · subst e
      rw [hx] at hx'
      injection hx' with hx'
      subst hx'
      rcases c2 with e | c2
      · subst e
        rw [hy] at hy'
        injection hy' with hy'
        subst hy'
        exact c
      · exact tr _ _ _ c c2
    · rcases c2 with e | c2
      · subst e
        rw [hy] at hy'
        injection hy' with hy'
        subst hy'
        exact tr _ _ _ c1 c
      · exact tr _ _ _ c1 (tr _ _ _ c c2)
  refine ⟨(h1.sub (Nat.le_refl _) q2).same fun k _ hk => e1 k hk, ?_, ?_, (h2.sub q3 (Nat.le_refl _)).same fun k hk _ => e4 k hk, ?_⟩
  · intro i j x y k1 k2 k3 hx hy
    rw [e2 i k1 (by omega)] at hx
    rw [e2 j (by omega) k3] at hy
    exact h2 _ _ x y (by omega) (by omega) (by omega) hx hy
  · intro i j x y k1 k2 k3 hx hy
    rw [e3 i k1 (by omega)] at hx
    rw [e3 j (by omega) k3] at hy
    exact h1 _ _ x y (by omega) (by omega) (by omega) hx hy
  · intro i j x y k1 k2 k3 k4 hx hy
    by_cases ci : i < start
    · rw [e1 i ci] at hx
      by_cases cj : j < mid + m - start
      · rw [e3 j k3 cj] at hy
        exact h1 _ _ x y k1 (by omega) (by omega) hx hy
      · rw [e4 j (by omega)] at hy
        exact U1 i j x y k1 ci (by omega) k4 hx hy
    · rw [e2 i (by omega) k2] at hx
      by_cases cj : j < mid + m - start
      · rw [e3 j k3 cj] at hy
        exact U2 _ _ x y (by omega) (by omega) (by omega) (by omega) hx hy
      · rw [e4 j (by omega)] at hy
        exact h2 _ _ x y (by omega) (by omega) k4 hx hy

/-- One step of a run that is put in: the element at k goes on. -/
theorem Srt.put {l' : List α} {a i b : Nat} (h1 : Srt le l' a i) (h2 : Srt le l' i b) (x : α) (hx : l'[i]? = some x) (lo : ∀ j y, a ≤ j → j < i → l'[j]? = some y → le y x) (hi : ∀ j y, i < j → j < b → l'[j]? = some y → le x y) (tr : ∀ x y z, le x y → le y z → le x z) : Srt le l' a b := by
  refine Srt.join h1 h2 fun p q u v k1 k2 k3 k4 hu hv => ?_
  by_cases e : q = i
  · subst e
    rw [hx] at hv
    injection hv with hv
    subst hv
    exact lo p u k1 k2 hu
  · exact tr _ _ _ (lo p u k1 k2 hu) (hi q v (by omega) k4 hv)

/-! ### One element among a run -/

/-- The element that was at a is at c, those behind it moved one back. -/
def Fwd (a c : Nat) (l l' : List α) : Prop := ∀ k, l'[k]? = if a ≤ k ∧ k < c then l[k + 1]? else if k = c then l[a]? else l[k]?

theorem Fwd.zero (a : Nat) (l : List α) : Fwd a a l l := fun k => by
  rw [if_neg (by omega)]
  split
  · next e => rw [e]
  · rfl

theorem Fwd.next {a c : Nat} {l l' : List α} (h : Fwd a c l l') (hac : a ≤ c) (hc : c + 1 < l'.length) : Fwd a (c + 1) l (swL l' c (c + 1)) := fun k => by
  rw [swL_get (by omega) hc]
  by_cases h1 : k = c + 1
  · subst h1
    rw [if_pos rfl, h, if_neg (by omega), if_pos rfl, if_neg (by omega), if_pos rfl]
  · rw [if_neg h1]
    by_cases h2 : k = c
    · subst h2
      rw [if_pos rfl, h, if_neg (by omega), if_neg (by omega), if_pos (by omega)]
    · rw [if_neg h2, h]
      by_cases h3 : a ≤ k ∧ k < c
      · rw [if_pos h3, if_pos (by omega)]
      · rw [if_neg h3, if_neg h2, if_neg (by omega), if_neg h1]

/-- The element that was at m is at c, those ahead of it moved one on. -/
def Bwd (c m : Nat) (l l' : List α) : Prop := ∀ k, l'[k]? = if k = c then l[m]? else if c < k ∧ k ≤ m then l[k - 1]? else l[k]?

theorem Bwd.zero (m : Nat) (l : List α) : Bwd m m l l := fun k => by
  by_cases e : k = m
  · subst e; simp
  · rw [if_neg e, if_neg (by omega)]

theorem Bwd.next {c m : Nat} {l l' : List α} (h : Bwd (c + 1) m l l') (hac : c + 1 ≤ m) (hc : c + 1 < l'.length) : Bwd c m l (swL l' (c + 1) c) := fun k => by
  rw [swL_get hc (by omega)]
  by_cases h1 : k = c
  · subst h1
    rw [if_pos rfl, if_pos rfl, h, if_pos rfl]
  · rw [if_neg h1, if_neg h1]
    by_cases h2 : k = c + 1
    · subst h2
      rw [if_pos rfl, h, if_neg (by omega), if_neg (by omega), if_pos (by omega)]
      simp
    · rw [if_neg h2, h, if_neg h2]
      by_cases h3 : c + 1 < k ∧ k ≤ m
      · rw [if_pos h3, if_pos (by omega)]
      · rw [if_neg h3, if_neg (by omega)]

/-- Merging a first run of one element: it goes behind all that are less. -/
theorem fwd_srt {l l' : List α} {a c b : Nat} {x : α} (tr : ∀ x y z, le x y → le y z → le x z) (h : Fwd a c l l') (hac : a ≤ c) (hcb : c < b) (hx : l[a]? = some x) (hs : Srt le l (a + 1) b) (lo : ∀ j y, a < j → j ≤ c → l[j]? = some y → le y x) (hi : ∀ j y, c < j → j < b → l[j]? = some y → le x y) : Srt le l' a b := by
  have e1 : ∀ k, a ≤ k → k < c → l'[k]? = l[k + 1]? := fun k h1 h2 => by rw [h, if_pos ⟨h1, h2⟩]
  have e2 : l'[c]? = some x := by rw [h, if_neg (by omega), if_pos rfl, hx]
  have e3 : ∀ k, c < k → l'[k]? = l[k]? := fun k h1 => by rw [h, if_neg (by omega), if_neg (by omega)]
  refine Srt.put (i := c) ?_ ?_ x e2 ?_ ?_ tr
  · intro i j u v k1 k2 k3 hu hv
    rw [e1 i k1 (by omega)] at hu
    rw [e1 j (by omega) k3] at hv
    exact hs _ _ u v (by omega) (by omega) (by omega) hu hv
  · intro i j u v k1 k2 k3 hu hv
    by_cases ei : i = c
    · subst ei
      rw [e2] at hu
      injection hu with hu
      subst hu
      rw [e3 j k2] at hv
      exact hi j v k2 k3 hv
    · rw [e3 i (by omega)] at hu
      rw [e3 j (by omega)] at hv
      exact hs _ _ u v (by omega) (by omega) (by omega) hu hv
  · intro j y k1 k2 hy
    rw [e1 j k1 k2] at hy
    exact lo _ y (by omega) (by omega) hy
  · intro j y k1 k2 hy
    rw [e3 j k1] at hy
    exact hi j y k1 k2 hy

/-- Merging a second run of one element: it goes ahead of all that are greater. -/
theorem bwd_srt {l l' : List α} {a c m : Nat} {x : α} (tr : ∀ x y z, le x y → le y z → le x z) (h : Bwd c m l l') (hac : a ≤ c) (hcm : c ≤ m) (hx : l[m]? = some x) (hs : Srt le l a m) (lo : ∀ j y, a ≤ j → j < c → l[j]? = some y → le y x) (hi : ∀ j y, c ≤ j → j < m → l[j]? = some y → le x y) : Srt le l' a (m + 1) := by
  have e1 : ∀ k, k < c → l'[k]? = l[k]? := fun k h1 => by rw [h, if_neg (by omega), if_neg (by omega)]
  have e2 : l'[c]? = some x := by rw [h, if_pos rfl, hx]
  have e3 : ∀ k, c < k → k ≤ m → l'[k]? = l[k - 1]? := fun k h1 h2 => by rw [h, if_neg (by omega), if_pos (by omega)]
  refine Srt.put (i := c) ?_ ?_ x e2 ?_ ?_ tr
  · intro i j u v k1 k2 k3 hu hv
    rw [e1 i (by omega)] at hu
    rw [e1 j k3] at hv
    exact hs _ _ u v k1 k2 (by omega) hu hv
  · intro i j u v k1 k2 k3 hu hv
    by_cases ei : i = c
    · subst ei
      rw [e2] at hu
      injection hu with hu
      subst hu
      rw [e3 j k2 (by omega)] at hv
      exact hi _ v (by omega) (by omega) hv
    · rw [e3 i (by omega) (by omega)] at hu
      rw [e3 j (by omega) (by omega)] at hv
      exact hs _ _ u v (by omega) (by omega) (by omega) hu hv
  · intro j y k1 k2 hy
    rw [e1 j k2] at hy
    exact lo _ y k1 k2 hy
  · intro j y k1 k2 hy
    rw [e3 j k1 (by omega)] at hy
    exact hi _ y (by omega) (by omega) hy

/-! ### Inserting -/

/-- An element on its way down: it is at j; what is ahead of it rises, what is behind it up to i rises, is above all ahead, and above it. -/
structure InsI (le : α → α → Prop) (l : List α) (a j i : Nat) (x : α) : Prop where
  at_ : l[j]? = some x
  s1 : Srt le l a j
  s2 : Srt le l (j + 1) (i + 1)
  u : Und le l a j (j + 1) (i + 1)
  hi : ∀ k y, j < k → k ≤ i → l[k]? = some y → le x y

theorem InsI.start {l : List α} {a i : Nat} {x : α} (h : Srt le l a i) (hx : l[i]? = some x) : InsI le l a i i x :=
  ⟨hx, h, Srt.one _ _ _ (by omega), fun p q u v k1 k2 k3 k4 => by omega, fun k y h1 h2 => by omega⟩

theorem InsI.next {l : List α} {a j i : Nat} {x z : α} (h : InsI le l a (j + 1) i x) (hz : l[j]? = some z) (hxz : le x z) (haj : a ≤ j) (hl : j + 1 < l.length) : InsI le (swL l (j + 1) j) a j i x := by
  have e0 : (swL l (j + 1) j)[j]? = some x := by rw [swL_get hl (by omega), if_pos rfl, h.at_]
  have e1 : (swL l (j + 1) j)[j + 1]? = some z := by rw [swL_get hl (by omega), if_neg (by omega), if_pos rfl, hz]
  have e2 : ∀ k, k ≠ j → k ≠ j + 1 → (swL l (j + 1) j)[k]? = l[k]? := fun k h1 h2 => by rw [swL_get hl (by omega), if_neg h1, if_neg h2]
  refine ⟨e0, ?_, ?_, ?_, ?_⟩
  · exact (h.s1.sub (Nat.le_refl _) (by omega)).same fun k _ h2 => e2 k (by omega) (by omega)
  · intro p q u v k1 k2 k3 hu hv
    rw [e2 q (by omega) (by omega)] at hv
    by_cases e : p = j + 1
    · subst e
      rw [e1] at hu
      injection hu with hu
      subst hu
      exact h.u j q z v (by omega) (by omega) (by omega) k3 hz hv
    · rw [e2 p (by omega) e] at hu
      exact h.s2 p q u v (by omega) k2 k3 hu hv
  · intro p q u v k1 k2 k3 k4 hu hv
    rw [e2 p (by omega) (by omega)] at hu
    by_cases e : q = j + 1
    · subst e
      rw [e1] at hv
      injection hv with hv
      subst hv
      exact h.s1 p j u z k1 k2 (by omega) hu hz
    · rw [e2 q (by omega) e] at hv
      exact h.u p q u v k1 (by omega) (by omega) k4 hu hv
  · intro k y h1 h2 hy
    by_cases e : k = j + 1
    · subst e
      rw [e1] at hy
      injection hy with hy
      subst hy
      exact hxz
    · rw [e2 k (by omega) e] at hy
      exact h.hi k y (by omega) h2 hy

theorem InsI.stop {l : List α} {a j i : Nat} {x : α} (tr : ∀ x y z, le x y → le y z → le x z) (h : InsI le l a j i x) (he : j = a ∨ ∃ z, l[j - 1]? = some z ∧ le z x) : Srt le l a (i + 1) := by
  intro p q u v k1 k2 k3 hu hv
  by_cases e : q < j
  · exact h.s1 p q u v k1 k2 e hu hv
  · by_cases e2 : q = j
    · subst e2
      rw [h.at_] at hv
      injection hv with hv
      subst hv
      rcases he with he | ⟨z, hz, hzx⟩
      · omega
      · by_cases e3 : p = q - 1
        · rw [← e3] at hz
          rw [hz] at hu
          injection hu with hu
          subst hu
          exact hzx
        · exact tr _ _ _ (h.s1 p (q - 1) u z k1 (by omega) (by omega) hu hz) hzx
    · by_cases e3 : p < j
      · exact h.u p q u v k1 e3 (by omega) k3 hu hv
      · by_cases e4 : p = j
        · subst e4
          rw [h.at_] at hu
          injection hu with hu
          subst hu
          exact h.hi q v k2 (by omega) hv
        · exact h.s2 p q u v (by omega) k2 k3 hu hv
end
end Go.Proofs.Ytblfeokjlecgkaa

/- Rows of children (a label, a node): one stored, two exchanged; slices.swapRange, walked. -/
namespace Go.Proofs.Ytblfeokjlecgkaa
open Go.RowKit

abbrev OwnC (w : World) (base : Nat) (A : Option Addr) (cap : Nat) (l : List (ByteArray × Nat)) : Prop := OwnL 150 2 encC w base A cap l

theorem flatMap_setC0 (v : ByteArray) (x : ByteArray × Nat) : ∀ (l : List (ByteArray × Nat)) (j : Nat), l[j]? = some x → (l.set j (v, x.2)).flatMap encC = (l.flatMap encC).set (j * 2) (.string v)
  | y :: l, 0, h => by
    simp only [List.getElem?_cons_zero, Option.some.injEq] at h
    subst h
    rfl
  | y :: l, j + 1, h => by
    rw [List.getElem?_cons_succ] at h
    rw [List.set_cons_succ, List.flatMap_cons, List.flatMap_cons, flatMap_setC0 v x l j h, List.set_append_right _ _ (by rw [encC_len]; omega), encC_len, show (j + 1) * 2 - 2 = j * 2 by omega]

theorem flatMap_setC1 (b : Nat) (x : ByteArray × Nat) : ∀ (l : List (ByteArray × Nat)) (j : Nat), l[j]? = some x → (l.set j (x.1, b)).flatMap encC = (l.flatMap encC).set (j * 2 + 1) (pk b)
  | y :: l, 0, h => by
    simp only [List.getElem?_cons_zero, Option.some.injEq] at h
    subst h
    rfl
  | y :: l, j + 1, h => by
    rw [List.getElem?_cons_succ] at h
    rw [List.set_cons_succ, List.flatMap_cons, List.flatMap_cons, flatMap_setC1 b x l j h, List.set_append_right _ _ (by rw [encC_len]; omega), encC_len, show (j + 1) * 2 + 1 - 2 = j * 2 + 1 by omega]

theorem OwnC.at_ {w : World} {base g : Nat} {cap : Nat} {l : List (ByteArray × Nat)} (h : OwnC w base (some ⟨g, 0, none⟩) cap l) {j : Nat} {x : ByteArray × Nat} (hx : l[j]? = some x) :
    base ≤ g ∧ g < w.heap.size ∧ w.cell? ⟨g, j * 2, none⟩ = some (.string x.1) ∧ w.cell? ⟨g, j * 2 + 1, none⟩ = some (.pointer (some ⟨x.2, 0, none⟩)) ∧ w.frozen? ⟨g, j * 2, none⟩ = false ∧ w.frozen? ⟨g, j * 2 + 1, none⟩ = false := by
  obtain ⟨b, o, hA, hb, c0, c1⟩ := (OwnL.read encC_len h).child hx
  injection hA with hA
  injection hA with hA1 hA2 _
  subst hA1
  rw [← hA2, Nat.zero_add] at c0 c1
  have h' : w.ownsRow base 150 2 (.slice (some ⟨g, 0, none⟩) l.length cap) l.length (l.flatMap encC) := h
  exact ⟨(h.block g rfl).1, hb, c0, c1, World.ownsRow.frozenAt h' _, World.ownsRow.frozenAt h' _⟩

/-- A child is stored. -/
theorem OwnC.set {w : World} {base g : Nat} {cap : Nat} {l : List (ByteArray × Nat)} (h : OwnC w base (some ⟨g, 0, none⟩) cap l) {j : Nat} {x : ByteArray × Nat} (hx : l[j]? = some x) (y : ByteArray × Nat) :
    OwnC ((w.setCell ⟨g, j * 2, none⟩ (.string y.1)).setCell ⟨g, j * 2 + 1, none⟩ (.pointer (some ⟨y.2, 0, none⟩))) base (some ⟨g, 0, none⟩) cap (l.set j y) ∧
      w.grownBy ((w.setCell ⟨g, j * 2, none⟩ (.string y.1)).setCell ⟨g, j * 2 + 1, none⟩ (.pointer (some ⟨y.2, 0, none⟩))) (some g) := by
  have h' : w.ownsRow base 150 2 (.slice (some ⟨g, 0, none⟩) l.length cap) l.length (l.flatMap encC) := h
  obtain ⟨h2, h3⟩ := World.ownsRow.stored h' (j * 2) (.string y.1)
  rw [← flatMap_setC0 y.1 x l j hx] at h2
  have hx2 : (l.set j (y.1, x.2))[j]? = some (y.1, x.2) := by rw [List.getElem?_set_self (getq_lt hx)]
  obtain ⟨h4, h5⟩ := World.ownsRow.stored h2 (j * 2 + 1) (pk y.2)
  rw [← flatMap_setC1 y.2 (y.1, x.2) _ j hx2, List.set_set] at h4
  refine ⟨?_, only_trans h3 h5⟩
  show World.ownsRow _ base 150 2 (.slice (some ⟨g, 0, none⟩) (l.set j y).length cap) (l.set j y).length ((l.set j y).flatMap encC)
  rw [List.length_set]
  exact h4

/-- A child stored at i, another one at j. -/
theorem OwnC.two {w : World} {base g : Nat} {cap : Nat} {l : List (ByteArray × Nat)} (h : OwnC w base (some ⟨g, 0, none⟩) cap l) {i j : Nat} {x y : ByteArray × Nat} (hij : i ≠ j) (hx : l[i]? = some x) (hy : l[j]? = some y) :
    OwnC ((((w.setCell ⟨g, i * 2, none⟩ (.string y.1)).setCell ⟨g, i * 2 + 1, none⟩ (.pointer (some ⟨y.2, 0, none⟩))).setCell ⟨g, j * 2, none⟩ (.string x.1)).setCell ⟨g, j * 2 + 1, none⟩ (.pointer (some ⟨x.2, 0, none⟩))) base (some ⟨g, 0, none⟩) cap (swL l i j) ∧
      w.grownBy ((((w.setCell ⟨g, i * 2, none⟩ (.string y.1)).setCell ⟨g, i * 2 + 1, none⟩ (.pointer (some ⟨y.2, 0, none⟩))).setCell ⟨g, j * 2, none⟩ (.string x.1)).setCell ⟨g, j * 2 + 1, none⟩ (.pointer (some ⟨x.2, 0, none⟩))) (some g) := by
  obtain ⟨h1, g1⟩ := OwnC.set h hx y
  have hy2 : (l.set i y)[j]? = some y := by rw [List.getElem?_set_ne hij, hy]
  obtain ⟨h2, g2⟩ := OwnC.set h1 hy2 x
  rw [swL_eq hx hy]
  exact ⟨h2, only_trans g1 g2⟩

theorem swL_comm {α : Type} (l : List α) {i j : Nat} (hij : i ≠ j) : swL l i j = swL l j i := by
  unfold swL
  cases hx : l[i]? with
  | none => cases hy : l[j]? <;> rfl
  | some x =>
    cases hy : l[j]? with
    | none => rfl
    | some y => exact List.set_comm _ _ hij

/-- What an exchange leaves, in either order. -/
def Swd (w _wr : World) (base g cap : Nat) (l : List (ByteArray × Nat)) (v : World) : Prop := OwnC v base (some ⟨g, 0, none⟩) cap l ∧ w.grownBy v (some g)

theorem swd_one {w wr : World} {base g : Nat} {cap : Nat} {l : List (ByteArray × Nat)} (h : OwnC wr base (some ⟨g, 0, none⟩) cap l) (hg : w.grownBy wr (some g)) {i j : Nat} {x y : ByteArray × Nat} (hij : i ≠ j) (hx : l[i]? = some x) (hy : l[j]? = some y) (n : Nat) :
    Swd w wr base g cap (swL l i j) (((((wr.setCell ⟨g, i * 2, none⟩ (.string y.1)).setCell ⟨g, i * 2 + 1, none⟩ (.pointer (some ⟨y.2, 0, none⟩))).setCell ⟨g, j * 2, none⟩ (.string x.1)).setCell ⟨g, j * 2 + 1, none⟩ (.pointer (some ⟨x.2, 0, none⟩))).drewN n) := by
  obtain ⟨h1, h2⟩ := OwnC.two h hij hx hy
  exact ⟨h1.drewN n, only_drewN (only_trans hg h2) n⟩

theorem swd_two {w wr : World} {base g : Nat} {cap : Nat} {l : List (ByteArray × Nat)} (h : OwnC wr base (some ⟨g, 0, none⟩) cap l) (hg : w.grownBy wr (some g)) {i j : Nat} {x y : ByteArray × Nat} (hij : i ≠ j) (hx : l[i]? = some x) (hy : l[j]? = some y) (n : Nat) :
    Swd w wr base g cap (swL l i j) (((((wr.setCell ⟨g, j * 2, none⟩ (.string x.1)).setCell ⟨g, j * 2 + 1, none⟩ (.pointer (some ⟨x.2, 0, none⟩))).setCell ⟨g, i * 2, none⟩ (.string y.1)).setCell ⟨g, i * 2 + 1, none⟩ (.pointer (some ⟨y.2, 0, none⟩))).drewN n) := by
  rw [swL_comm l hij]
  exact swd_one h hg (fun e => hij e.symm) hy hx n
end Go.Proofs.Ytblfeokjlecgkaa

/- slices.swapRange at children, walked. -/
namespace Go.Proofs.Ytblfeokjlecgkaa
open Go.RowKit

set_option maxRecDepth 100000 in
set_option maxHeartbeats 4000000 in
theorem swapRange_any (base g cap : Nat) (l0 : List (ByteArray × Nat)) (a b n : Nat) (F : Value) (w : World) (h : OwnC w base (some ⟨g, 0, none⟩) cap l0) (hab : a + n ≤ b) (hbl : b + n ≤ l0.length) (hl : l0.length ≤ 1000000) :
    Calls Try.prog 231 #[.slice (some ⟨g, 0, none⟩) l0.length cap, .int .i64 (a : Int), .int .i64 (b : Int), .int .i64 (n : Int), F] w fun e w' => e = .returned (.tuple #[]) ∧ ∃ l', Exch a b n l0 l' ∧ Mv a (b + n) l0 l' ∧ OwnC w' base (some ⟨g, 0, none⟩) cap l' ∧ w.grownBy w' (some g) := by
  have HM := Lib.hid h
  clear h
  go_enter Try.func231, Try.ntmps231
  go_wp2_with fail
  go_loopw [10] (fun s10 wr => ∃ (i : Nat) (l : List (ByteArray × Nat)), s10 = .int .i64 i ∧ i ≤ n ∧ Hid (Exch a b i l0 l ∧ Mv a (b + n) l0 l ∧ OwnC wr base (some ⟨g, 0, none⟩) cap l ∧ w.grownBy wr (some g))) (fun s10 _ => n - (intOf s10).toNat)
  case atStart => exact ⟨0, l0, rfl, Nat.zero_le _, Lib.hid ⟨Exch.zero a b l0, Mv.refl _ _ _, HM.out, World.grownBy.refl _ _⟩⟩
  case round =>
    obtain ⟨i, l, rfl, hi, M⟩ := hrel
    by_cases hp : i < n
    · have hl1 : Hid (l.length = l0.length) := Lib.hid M.out.2.1.len
      obtain ⟨x, hx⟩ := getq_ex (l := l) (i := a + i) (by have := hl1.out; omega)
      obtain ⟨y, hy⟩ := getq_ex (l := l) (i := b + i) (by have := hl1.out; omega)
      have Hx := Lib.hid (And.intro hx hy)
      clear hx hy
      obtain ⟨_, hgl, x0, x1, fx0, fx1⟩ := M.out.2.2.1.at_ Hx.out.1
      obtain ⟨_, _, y0, y1, fy0, fy1⟩ := M.out.2.2.1.at_ Hx.out.2
      go_wp2_with fail
      have sa : IntKind.i64.wrap ((a : Int) + (i : Int)) = (a : Int) + (i : Int) := IntWalk.i64_in _ (by omega)
      have sb : IntKind.i64.wrap ((b : Int) + (i : Int)) = (b : Int) + (i : Int) := IntWalk.i64_in _ (by omega)
      have ia0 : (0 : Int) ≤ (a : Int) + (i : Int) := by omega
      have ib0 : (0 : Int) ≤ (b : Int) + (i : Int) := by omega
      have ia1 : (a : Int) + (i : Int) < (l0.length : Int) := by omega
      have ib1 : (b : Int) + (i : Int) < (l0.length : Int) := by omega
      have ia2 : ((a : Int) + (i : Int)).toNat = a + i := by omega
      have ib2 : ((b : Int) + (i : Int)).toNat = b + i := by omega
      have hab2 : a + i ≠ b + i := by omega
      have Z1 := Lib.hid (fun k => swd_one M.out.2.2.1 M.out.2.2.2 hab2 Hx.out.1 Hx.out.2 k)
      have Z2 := Lib.hid (fun k => swd_two M.out.2.2.1 M.out.2.2.2 hab2 Hx.out.1 Hx.out.2 k)
      go_region_law (fail)
      all_goals
        clear x0 x1 y0 y1 fx0 fx1 fy0 fy1 sa sb ia0 ib0 ia1 ib1 ia2 ib2
        go_wp2_with fail
        go_roundw
        case rel =>
          have hE : Exch a b (i + 1) l0 (swL l (a + i) (b + i)) := M.out.1.next (by omega) (by have := hl1.out; omega) (by have := hl1.out; omega)
          have hM : Mv a (b + n) l0 (swL l (a + i) (b + i)) := M.out.2.1.trans (Mv.swap (by have := hl1.out; omega) (by have := hl1.out; omega) (by omega) (by omega) (by omega) (by omega))
          exact ⟨i + 1, swL l (a + i) (b + i), by go_num, hp, Lib.hid ⟨hE, hM, by first | exact Z1.out 1 | exact Z2.out 1⟩⟩
        case measure => simp [intOf]; omega
    · go_wp2_with fail
      have e : i = n := by omega
      subst e
      go_end0
      exact ⟨rfl, l, M.out.1, M.out.2.1, M.out.2.2.1, M.out.2.2.2⟩

/-- What a function of a sort leaves: the row, moved; with what else is told of it. -/
def SymPost (base g cap : Nat) (a b : Nat) (l0 : List (ByteArray × Nat)) (R : List (ByteArray × Nat) → Prop) (w : World) (e : Ending) (w' : World) : Prop :=
  e = .returned (.tuple #[]) ∧ ∃ l', R l' ∧ Mv a b l0 l' ∧ OwnC w' base (some ⟨g, 0, none⟩) cap l' ∧ w.grownBy w' (some g)

theorem swapRange_at (base g cap : Nat) (l0 : List (ByteArray × Nat)) (a b n L : Nat) (ai bi ni : Int) (F : Value) (w : World) (h : OwnC w base (some ⟨g, 0, none⟩) cap l0) (hL : l0.length = L) (ha : ai = a) (hb : bi = b) (hn : ni = n) (hab : a + n ≤ b) (hbl : b + n ≤ L) (hl : L ≤ 1000000) :
    Calls Try.prog 231 #[.slice (some ⟨g, 0, none⟩) L cap, .int .i64 ai, .int .i64 bi, .int .i64 ni, F] w (SymPost base g cap a (b + n) l0 (Exch a b n l0) w) := by
  subst ha hb hn hL
  exact (swapRange_any base g cap l0 a b n F w h hab hbl hl).mono fun _ _ h => h

set_option maxRecDepth 100000 in
set_option maxHeartbeats 4000000 in
theorem rotate_at (base g cap : Nat) (l0 : List (ByteArray × Nat)) (a m b L : Nat) (ai mi bi : Int) (F : Value) (w : World) (h : OwnC w base (some ⟨g, 0, none⟩) cap l0) (hL : l0.length = L) (ha : ai = a) (hm : mi = m) (hb : bi = b) (ham : a < m) (hmb : m < b) (hbl : b ≤ L) (hl : L ≤ 1000000) :
    Calls Try.prog 223 #[.slice (some ⟨g, 0, none⟩) L cap, .int .i64 ai, .int .i64 mi, .int .i64 bi, F] w (SymPost base g cap a b l0 (Turn a m b l0) w) := by
  subst ha hm hb
  have HM := Lib.hid h
  have HL := Lib.hid hL
  clear h hL
  go_enter Try.func223, Try.ntmps223
  go_wp2_with fail
  go_loopw [10, 11] (fun s10 s11 wr => ∃ (i j : Nat) (l : List (ByteArray × Nat)), s10 = .int .i64 i ∧ s11 = .int .i64 j ∧ 0 < i ∧ 0 < j ∧ a + i ≤ m ∧ m + j ≤ b ∧ Hid ((∀ l', Turn (m - i) m (m + j) l l' → Turn a m b l0 l') ∧ Mv a b l0 l ∧ OwnC wr base (some ⟨g, 0, none⟩) cap l ∧ w.grownBy wr (some g))) (fun s10 s11 _ => (intOf s10).toNat + (intOf s11).toNat)
  case atStart =>
    refine ⟨m - a, b - m, l0, congrArg (Value.int .i64) (by omega), congrArg (Value.int .i64) (by omega), by omega, by omega, by omega, by omega, Lib.hid ⟨fun l' h => ?_, Mv.refl _ _ _, HM.out, World.grownBy.refl _ _⟩⟩
    rw [show m - (m - a) = a by omega, show m + (b - m) = b by omega] at h
    exact h
  case round =>
    obtain ⟨i, j, l, rfl, rfl, hi0, hj0, hi, hj, M⟩ := hrel
    clear HM
    have hl1 : Hid (l.length = L) := Lib.hid (M.out.2.1.len.trans HL.out)
    by_cases hij : i = j
    · subst hij
      have hq : ((i : Int) != (i : Int)) = false := by simp
      go_wp2_with fail
      refine (swapRange_at base g cap l (m - i) m i L _ _ _ F _ M.out.2.2.1 hl1.out (by omega) rfl rfl (by omega) (by omega) hl).mono ?_
      rintro e w1 ⟨rfl, l1, h1, h2, h3, h4⟩
      have Z := Lib.hid (And.intro h1 (And.intro h2 (And.intro h3 h4)))
      clear h1 h2 h3 h4
      go_wp2_with fail
      go_end0
      exact ⟨rfl, l1, M.out.1 l1 (Turn.last (by omega) Z.out.1), M.out.2.1.trans (Z.out.2.1.wide (by omega) (by omega)), Z.out.2.2.1, only_trans M.out.2.2.2 Z.out.2.2.2⟩
    · have hq : ((i : Int) != (j : Int)) = true := by simp; omega
      by_cases hlt : j < i
      · go_wp2_with fail
        refine (swapRange_at base g cap l (m - i) m j L _ _ _ F _ M.out.2.2.1 hl1.out (by omega) rfl rfl (by omega) (by omega) hl).mono ?_
        rintro e w1 ⟨rfl, l1, h1, h2, h3, h4⟩
        have Z := Lib.hid (And.intro h1 (And.intro h2 (And.intro h3 h4)))
        clear h1 h2 h3 h4 hq
        go_wp2_with fail
        go_roundw
        case rel =>
          refine ⟨i - j, j, l1, congrArg (Value.int .i64) (by omega), rfl, by omega, by omega, by omega, by omega, Lib.hid ⟨fun l' h => M.out.1 l' (Turn.more1 (by omega) hlt Z.out.1 h), M.out.2.1.trans (Z.out.2.1.wide (by omega) (by omega)), Z.out.2.2.1, only_trans M.out.2.2.2 Z.out.2.2.2⟩⟩
        case measure => simp [intOf]; omega
      · go_wp2_with fail
        refine (swapRange_at base g cap l (m - i) (m + j - i) i L _ _ _ F _ M.out.2.2.1 hl1.out (by omega) (by omega) rfl (by omega) (by omega) hl).mono ?_
        rintro e w1 ⟨rfl, l1, h1, h2, h3, h4⟩
        have Z := Lib.hid (And.intro h1 (And.intro h2 (And.intro h3 h4)))
        clear h1 h2 h3 h4 hq
        go_wp2_with fail
        go_roundw
        case rel =>
          refine ⟨i, j - i, l1, rfl, congrArg (Value.int .i64) (by omega), by omega, by omega, by omega, by omega, Lib.hid ⟨fun l' h => M.out.1 l' (Turn.more2 (by omega) (by omega) Z.out.1 h), M.out.2.1.trans (Z.out.2.1.wide (by omega) (by omega)), Z.out.2.2.1, only_trans M.out.2.2.2 Z.out.2.2.2⟩⟩
        case measure => simp [intOf]; omega
end Go.Proofs.Ytblfeokjlecgkaa
