/- The document's row of variables: the least number above the last one, round for round. -/
import Derived.Test.YtblfeokjlecgkaaGreatVars
namespace Go.Proofs.YtblfeokjlecgkaaGreat

theorem cUp_sorted {zs : List Int} (hs : zs.Pairwise (· ≤ ·)) : ∀ m, m ≤ zs.length → (Lib.compactUpTo zs.toArray m).Pairwise (· < ·) ∧ ∀ x ∈ Lib.compactUpTo zs.toArray m, ∃ j, j < m ∧ zs.toArray[j]! = x
  | 0, _ => by simp [Lib.compactUpTo]
  | m + 1, hm => by
    obtain ⟨h1, h2⟩ := cUp_sorted hs m (by omega)
    rw [Lib.compactUpTo_succ]
    have hget : ∀ j (hj : j < zs.length), zs.toArray[j]! = zs[j] := fun j hj => by rw [getElem!_pos zs.toArray j (by simpa using hj)]; simp
    have hle : ∀ i j, i ≤ j → j < zs.length → zs.toArray[i]! ≤ zs.toArray[j]! := fun i j hij hj => by
      rw [hget i (by omega), hget j hj]
      rcases Nat.lt_or_eq_of_le hij with h | rfl
      · exact List.pairwise_iff_getElem.1 hs i j (by omega) hj h
      · exact Int.le_refl _
    by_cases hk : Lib.keeps zs.toArray m = true
    · rw [if_pos hk]
      have hk' : m = 0 ∨ zs.toArray[m]! ≠ zs.toArray[m - 1]! := by simpa [Lib.keeps] using hk
      refine ⟨List.pairwise_append.2 ⟨h1, by simp, fun x hx y hy => ?_⟩, fun x hx => ?_⟩
      · simp only [List.mem_singleton] at hy
        subst hy
        obtain ⟨j, hj, rfl⟩ := h2 x hx
        rcases hk' with rfl | hk'
        · omega
        · have a1 := hle j (m - 1) (by omega) (by omega)
          have a2 := hle (m - 1) m (by omega) (by omega)
          omega
      · rcases List.mem_append.1 hx with hx | hx
        · obtain ⟨j, hj, e⟩ := h2 x hx
          exact ⟨j, by omega, e⟩
        · simp only [List.mem_singleton] at hx
          exact ⟨m, by omega, hx.symm⟩
    · rw [if_neg hk, List.append_nil]
      exact ⟨h1, fun x hx => by obtain ⟨j, hj, e⟩ := h2 x hx; exact ⟨j, by omega, e⟩⟩

theorem varsL_sorted (xs : List Nd) : (varsL xs).Pairwise (· < ·) := by
  unfold varsL Lib.compact
  refine (cUp_sorted ?_ _ (Nat.le_refl _)).1
  have h := List.pairwise_mergeSort (le := fun (x y : Int) => decide (x ≤ y)) (fun a b c h1 h2 => by simp only [decide_eq_true_eq] at *; omega) (fun a b => by simp only [Bool.or_eq_true, decide_eq_true_eq]; omega) (numsV xs)
  exact h.imp fun h => of_decide_eq_true h

/-- The least number above one, of the first so many nodes; -1: none. -/
def bestV (last : Int) : List Nd → Int → Int
  | [], b => b
  | x :: xs, b => bestV last xs (if isVarB x.k = true ∧ last < x.n ∧ (b < 0 ∨ x.n < b) then x.n else b)

theorem bestV_append (last : Int) : ∀ (a r : List Nd) (b : Int), bestV last (a ++ r) b = bestV last r (bestV last a b)
  | [], _, _ => rfl
  | x :: a, r, b => by simp only [List.cons_append, bestV, bestV_append last a r]

theorem bestV_step {last : Int} {xs : List Nd} {k : Nat} {x : Nd} {b : Int} (h : xs[k]? = some x) : bestV last (xs.take (k + 1)) b = if isVarB x.k = true ∧ last < x.n ∧ (bestV last (xs.take k) b < 0 ∨ x.n < bestV last (xs.take k) b) then x.n else bestV last (xs.take k) b := by
  rw [List.take_add_one, h, bestV_append]
  rfl

theorem bestV_spec {last : Int} (hl : -1 ≤ last) : ∀ (xs : List Nd) (b : Int), (b = -1 ∨ last < b) →
    (bestV last xs b = -1 ∧ b = -1 ∧ ∀ x ∈ xs, isVarB x.k = true → x.n ≤ last) ∨
    (last < bestV last xs b ∧ (bestV last xs b = b ∨ ∃ x ∈ xs, isVarB x.k = true ∧ x.n = bestV last xs b) ∧ (b ≠ -1 → bestV last xs b ≤ b) ∧ ∀ x ∈ xs, isVarB x.k = true → last < x.n → bestV last xs b ≤ x.n)
  | [], b, h => by
    rcases h with rfl | h
    · exact .inl ⟨rfl, rfl, fun x hx => by simp at hx⟩
    · exact .inr ⟨h, .inl rfl, fun _ => Int.le_refl _, fun x hx => by simp at hx⟩
  | x :: xs, b, h => by
    by_cases hc : isVarB x.k = true ∧ last < x.n ∧ (b < 0 ∨ x.n < b)
    · have ih := bestV_spec hl xs x.n (.inr hc.2.1)
      simp only [bestV]
      rw [if_pos hc]
      rcases ih with ⟨_, h2, _⟩ | ⟨h1, h2, h3, h4⟩
      · omega
      · have h5 := h3 (by omega)
        refine .inr ⟨h1, ?_, fun hb => ?_, fun y hy hv hn => ?_⟩
        · rcases h2 with h2 | ⟨y, hy, hv, hn⟩
          · exact .inr ⟨x, by simp, hc.1, h2.symm⟩
          · exact .inr ⟨y, by simp [hy], hv, hn⟩
        · rcases hc.2.2 with h6 | h6 <;> omega
        · rcases List.mem_cons.1 hy with rfl | hy
          · exact h5
          · exact h4 y hy hv hn
    · have ih := bestV_spec hl xs b h
      simp only [bestV]
      rw [if_neg hc]
      rcases ih with ⟨h1, h2, h3⟩ | ⟨h1, h2, h3, h4⟩
      · refine .inl ⟨h1, h2, fun y hy hv => ?_⟩
        rcases List.mem_cons.1 hy with rfl | hy
        · by_cases hn : last < y.n
          · exact absurd ⟨hv, hn, .inl (by omega)⟩ hc
          · omega
        · exact h3 y hy hv
      · refine .inr ⟨h1, ?_, h3, fun y hy hv hn => ?_⟩
        · rcases h2 with h2 | ⟨y, hy, hv, hn⟩
          · exact .inl h2
          · exact .inr ⟨y, by simp [hy], hv, hn⟩
        · rcases List.mem_cons.1 hy with rfl | hy
          · by_cases hb : b < 0
            · exact absurd ⟨hv, hn, .inl hb⟩ hc
            · have h6 : ¬ y.n < b := fun h => hc ⟨hv, hn, .inr h⟩
              have := h3 (by omega)
              omega
          · exact h4 y hy hv hn

/-- The last number that was found. -/
def lastV (L : List Int) (k : Nat) : Int := if k = 0 then -1 else L.getD (k - 1) 0

theorem lastV_succ (L : List Int) (k : Nat) : lastV L (k + 1) = L.getD k 0 := by
  unfold lastV
  rw [if_neg (by omega)]
  rfl

/-- Round for round the numbers are found. -/
theorem bestV_next {xs : List Nd} (h0 : ∀ x ∈ xs, isVarB x.k = true → 0 ≤ x.n) {k : Nat} (hk : k ≤ (varsL xs).length) :
    bestV (lastV (varsL xs) k) xs (-1) = if k < (varsL xs).length then (varsL xs).getD k 0 else -1 := by
  have hs := varsL_sorted xs
  have hnn : ∀ i, i < (varsL xs).length → 0 ≤ (varsL xs).getD i 0 := fun i hi => by
    have : (varsL xs).getD i 0 ∈ varsL xs := by simp only [List.getD, List.getElem?_eq_getElem hi, Option.getD_some]; exact List.getElem_mem hi
    obtain ⟨y, hy, hv, e⟩ := varsL_mem.1 this
    rw [← e]; exact h0 y hy hv
  have hlt : ∀ i j, i < j → j < (varsL xs).length → (varsL xs).getD i 0 < (varsL xs).getD j 0 := fun i j hij hj => by
    simp only [List.getD, List.getElem?_eq_getElem hj, List.getElem?_eq_getElem (Nat.lt_trans hij hj), Option.getD_some]
    exact List.pairwise_iff_getElem.1 hs i j _ hj hij
  have hl : -1 ≤ lastV (varsL xs) k := by
    unfold lastV
    split
    · omega
    · have := hnn (k - 1) (by omega); omega
  have hall : ∀ x ∈ xs, isVarB x.k = true → ∃ i, i < (varsL xs).length ∧ (varsL xs).getD i 0 = x.n := fun x hx hv => by
    have : x.n ∈ varsL xs := varsL_mem.2 ⟨x, hx, hv, rfl⟩
    obtain ⟨i, hi, e⟩ := List.getElem_of_mem this
    exact ⟨i, hi, by simp only [List.getD, List.getElem?_eq_getElem hi, Option.getD_some]; exact e⟩
  have hlast : ∀ i, i < (varsL xs).length → (lastV (varsL xs) k < (varsL xs).getD i 0 ↔ k ≤ i) := fun i hi => by
    unfold lastV
    split
    · have := hnn i hi; omega
    · constructor
      · intro h
        apply Classical.byContradiction
        intro hki
        rcases Nat.lt_or_eq_of_le (show i ≤ k - 1 by omega) with h2 | h2
        · have := hlt i (k - 1) h2 (by omega); omega
        · subst h2; omega
      · intro h
        exact hlt (k - 1) i (by omega) hi
  rcases bestV_spec hl xs (-1) (.inl rfl) with ⟨h1, _, h3⟩ | ⟨h1, h2, _, h4⟩
  · rw [h1, if_neg]
    intro hlk
    have hm : (varsL xs).getD k 0 ∈ varsL xs := by simp only [List.getD, List.getElem?_eq_getElem hlk, Option.getD_some]; exact List.getElem_mem hlk
    obtain ⟨y, hy, hv, e⟩ := varsL_mem.1 hm
    have := h3 y hy hv
    have h5 := (hlast k hlk).2 (Nat.le_refl _)
    omega
  · rcases h2 with h2 | ⟨x, hx, hv, hn⟩
    · rw [h2] at h1; omega
    · obtain ⟨i, hi, e⟩ := hall x hx hv
      have hki : k ≤ i := (hlast i hi).1 (by rw [e, hn]; exact h1)
      have hlk : k < (varsL xs).length := by omega
      rw [if_pos hlk]
      have hm : (varsL xs).getD k 0 ∈ varsL xs := by simp only [List.getD, List.getElem?_eq_getElem hlk, Option.getD_some]; exact List.getElem_mem hlk
      obtain ⟨y, hy, hvy, ey⟩ := varsL_mem.1 hm
      have h5 := (hlast k hlk).2 (Nat.le_refl _)
      have h6 := h4 y hy hvy (by omega)
      rcases Nat.lt_or_eq_of_le hki with h7 | rfl
      · have := hlt k i h7 hi; omega
      · omega
end Go.Proofs.YtblfeokjlecgkaaGreat
