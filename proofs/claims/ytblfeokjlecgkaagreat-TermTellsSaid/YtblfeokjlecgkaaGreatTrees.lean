/- So many trees, each by itself. -/
import Derived.Test.YtblfeokjlecgkaaGreatPureP
namespace Go.Proofs.YtblfeokjlecgkaaGreat

/-- A row of nodes is so many trees. -/
structure Trees (n : Nat) (ks : List Nd) (tss : List (List Nd)) : Prop where
  len : tss.length = n
  flat : tss.flatten = ks
  one : ∀ ts ∈ tss, Fo 1 ts

/-- The first so many trees. -/
def splitF : Nat → List Nd → List (List Nd)
  | 0, _ => []
  | n + 1, xs => xs.take (xs.length - (rest1 xs).length) :: splitF n (rest1 xs)

theorem splitF_app : ∀ (n : Nat) (ks r : List Nd), Fo n ks → splitF n (ks ++ r) = splitF n ks ∧ Trees n ks (splitF n ks)
  | 0, ks, r, h => by
    have := h.of_zero
    subst this
    exact ⟨rfl, rfl, rfl, fun ts hts => by simp [splitF] at hts⟩
  | n + 1, ks, r, h => by
    obtain ⟨ts, rs, rfl, h1, h2⟩ := h.first
    obtain ⟨e1, e2⟩ := splitF_app n rs r h2
    have hr1 : rest1 (ts ++ (rs ++ r)) = rs ++ r := rest1_fo h1
    have hr2 : rest1 (ts ++ rs) = rs := rest1_fo h1
    have s1 : splitF (n + 1) (ts ++ rs ++ r) = ts :: splitF n rs := by
      simp only [splitF]
      rw [List.append_assoc, hr1, e1]
      congr 1
      rw [List.length_append, Nat.add_sub_cancel]
      exact List.take_left
    have s2 : splitF (n + 1) (ts ++ rs) = ts :: splitF n rs := by
      simp only [splitF]
      rw [hr2, List.length_append, Nat.add_sub_cancel]
      congr 1
      exact List.take_left
    refine ⟨by rw [s1, s2], ?_⟩
    rw [s2]
    refine ⟨by simp [e2.len], by simp [e2.flat], fun t ht => ?_⟩
    rcases List.mem_cons.1 ht with rfl | ht
    · exact h1
    · exact e2.one t ht

theorem trees_of {n : Nat} {ks : List Nd} (h : Fo n ks) : Trees n ks (splitF n ks) := (splitF_app n ks [] h).2

theorem Trees.fo {n : Nat} {ks : List Nd} {tss : List (List Nd)} (h : Trees n ks tss) : Fo n ks := by
  obtain ⟨h1, h2, h3⟩ := h
  subst h1 h2
  induction tss with
  | nil => exact Fo.zero
  | cons t tss ih =>
    rw [List.flatten_cons, List.length_cons, Nat.add_comm]
    exact (h3 t (by simp)).append (ih fun ts hts => h3 ts (by simp [hts]))

theorem Trees.ne {n : Nat} {ks : List Nd} {tss : List (List Nd)} (h : Trees n ks tss) {ts : List Nd} (ht : ts ∈ tss) : ts ≠ [] := by
  intro e
  have := (h.one ts ht).pos
  rw [e] at this
  simp at this

/-- The trees of a row of nodes are told by it. -/
theorem Trees.uniq {n : Nat} {ks : List Nd} {tss : List (List Nd)} (h : Trees n ks tss) : tss = splitF n ks := by
  obtain ⟨h1, h2, h3⟩ := h
  subst h1 h2
  induction tss with
  | nil => rfl
  | cons t tss ih =>
    rw [List.flatten_cons, List.length_cons]
    simp only [splitF]
    rw [rest1_fo (h3 t (by simp)), List.length_append, Nat.add_sub_cancel, List.take_left, ← ih fun ts hts => h3 ts (by simp [hts])]

theorem flatten_drop_step {tss : List (List Nd)} {k : Nat} {ts : List Nd} (h : tss[k]? = some ts) : (tss.drop k).flatten = ts ++ (tss.drop (k + 1)).flatten := by
  rw [drop_cons h, List.flatten_cons]
end Go.Proofs.YtblfeokjlecgkaaGreat
