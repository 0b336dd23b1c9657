/- The document's Row picks the least label behind the last one: what that comes to. -/
import Derived.Test.YtblfeokjlecgkaaDoorRowP
namespace Go.Proofs.YtblfeokjlecgkaaDoor

/-- The least label behind done, among the first so many: where it stands first. -/
def bst (ls : List ByteArray) (done : ByteArray) : Nat → Option Nat
  | 0 => none
  | i + 1 => if ltB done (lab ls i) = true then (match bst ls done i with
      | none => some i
      | some b => if ltB (lab ls i) (lab ls b) = true then some i else some b) else bst ls done i

def bestI : Option Nat → Int
  | none => -1
  | some b => (b : Int)

theorem bst_no {ls : List ByteArray} {done : ByteArray} {i : Nat} (h : ltB done (lab ls i) = false) : bst ls done (i + 1) = bst ls done i := by
  simp [bst, h]
theorem bst_first {ls : List ByteArray} {done : ByteArray} {i : Nat} (h : ltB done (lab ls i) = true) (hb : bst ls done i = none) : bst ls done (i + 1) = some i := by
  simp [bst, h, hb]
theorem bst_less {ls : List ByteArray} {done : ByteArray} {i b : Nat} (h : ltB done (lab ls i) = true) (hb : bst ls done i = some b) (hl : ltB (lab ls i) (lab ls b) = true) : bst ls done (i + 1) = some i := by
  simp [bst, h, hb, hl]
theorem bst_more {ls : List ByteArray} {done : ByteArray} {i b : Nat} (h : ltB done (lab ls i) = true) (hb : bst ls done i = some b) (hl : ltB (lab ls i) (lab ls b) = false) : bst ls done (i + 1) = some b := by
  simp [bst, h, hb, hl]

theorem ltB_asymm {a b : ByteArray} (h : ltB a b = true) : ltB b a = false := by
  cases hb : ltB b a
  · rfl
  · have := ltB_trans h hb
    rw [ltB_irrefl] at this
    cases this

theorem bst_spec (ls : List ByteArray) (done : ByteArray) : ∀ n, match bst ls done n with
    | none => ∀ i, i < n → ltB done (lab ls i) = false
    | some b => b < n ∧ ltB done (lab ls b) = true ∧ ∀ i, i < n → ltB done (lab ls i) = true → ltB (lab ls i) (lab ls b) = false
  | 0 => fun i h => by omega
  | n + 1 => by
    have ih := bst_spec ls done n
    cases h : ltB done (lab ls n)
    · rw [bst_no h]
      cases hb : bst ls done n with
      | none =>
        rw [hb] at ih
        intro i hi
        by_cases hin : i = n
        · rw [hin]; exact h
        · exact ih i (by omega)
      | some b =>
        rw [hb] at ih
        refine ⟨by omega, ih.2.1, fun i hi hd => ?_⟩
        by_cases hin : i = n
        · rw [hin, h] at hd; cases hd
        · exact ih.2.2 i (by omega) hd
    · cases hb : bst ls done n with
      | none =>
        rw [bst_first h hb]
        rw [hb] at ih
        refine ⟨by omega, h, fun i hi hd => ?_⟩
        by_cases hin : i = n
        · rw [hin]; exact ltB_irrefl _
        · rw [ih i (by omega)] at hd; cases hd
      | some b =>
        rw [hb] at ih
        cases hl : ltB (lab ls n) (lab ls b)
        · rw [bst_more h hb hl]
          refine ⟨by omega, ih.2.1, fun i hi hd => ?_⟩
          by_cases hin : i = n
          · rw [hin]; exact hl
          · exact ih.2.2 i (by omega) hd
        · rw [bst_less h hb hl]
          refine ⟨by omega, h, fun i hi hd => ?_⟩
          by_cases hin : i = n
          · rw [hin]; exact ltB_irrefl _
          · exact ltB_ntrans (ih.2.2 i (by omega) hd) (ltB_asymm hl)

/-- So many were picked, the last one with label done. -/
structure Sel (ls : List ByteArray) (k : Nat) (os : List Nat) (done : ByteArray) : Prop where
  len : os.length = k
  rng : ∀ i ∈ os, i < ls.length
  asc : os.Pairwise fun i j => ltB (lab ls i) (lab ls j) = true
  le : ∀ i ∈ os, ltB done (lab ls i) = false
  cov : ∀ i, i < ls.length → ltB done (lab ls i) = true ∨ ∃ j ∈ os, lab ls j = lab ls i

theorem ltB_empty {s : ByteArray} (h : s.toList ≠ []) : ltB ByteArray.empty s = true := by
  unfold ltB
  rw [bless_eq]
  cases hs : s.toList with
  | nil => exact absurd hs h
  | cons x xs =>
    rw [show ByteArray.empty.toList = [] from by rw [ByteArray.toList_eq]; rfl]
    exact decide_eq_true (List.nil_lt_cons x xs)

theorem Sel.start {ls : List ByteArray} (h : ∀ i, i < ls.length → (lab ls i).toList ≠ []) : Sel ls 0 [] ByteArray.empty :=
  ⟨rfl, fun i hi => by simp at hi, List.Pairwise.nil, fun i hi => by simp at hi, fun i hi => Or.inl (ltB_empty (h i hi))⟩

theorem Sel.step {ls : List ByteArray} {k b : Nat} {os : List Nat} {done : ByteArray} (h : Sel ls k os done) (hb : bst ls done ls.length = some b) : Sel ls (k + 1) (os ++ [b]) (lab ls b) := by
  have hs := bst_spec ls done ls.length
  rw [hb] at hs
  obtain ⟨hbl, hdb, hmin⟩ := hs
  have hlt : ∀ i ∈ os, ltB (lab ls i) (lab ls b) = true := fun i hi => by
    cases hc : ltB (lab ls i) (lab ls b)
    · have := ltB_ntrans (h.le i hi) hc
      rw [hdb] at this
      cases this
    · rfl
  refine ⟨by simp [h.len], fun i hi => ?_, ?_, fun i hi => ?_, fun i hi => ?_⟩
  · rcases List.mem_append.1 hi with hi | hi
    · exact h.rng i hi
    · rw [List.mem_singleton.1 hi]; exact hbl
  · rw [List.pairwise_append]
    exact ⟨h.asc, List.pairwise_singleton _ _, fun i hi j hj => by rw [List.mem_singleton.1 hj]; exact hlt i hi⟩
  · rcases List.mem_append.1 hi with hi | hi
    · exact ltB_asymm (hlt i hi)
    · rw [List.mem_singleton.1 hi]; exact ltB_irrefl _
  · cases hd : ltB done (lab ls i)
    · rcases h.cov i hi with hc | ⟨j, hj, he⟩
      · rw [hd] at hc; cases hc
      · exact Or.inr ⟨j, by simp [hj], he⟩
    · have h1 := hmin i hi hd
      cases h2 : ltB (lab ls b) (lab ls i)
      · exact Or.inr ⟨b, by simp, (ltB_eq h1 h2).symm⟩
      · exact Or.inl rfl

theorem Sel.nodup {ls : List ByteArray} {k : Nat} {os : List Nat} {done : ByteArray} (h : Sel ls k os done) : os.Nodup :=
  h.asc.imp fun {i j} hij e => by rw [e, ltB_irrefl] at hij; cases hij

/-- All were picked. -/
theorem Sel.perm {ls : List ByteArray} {os : List Nat} {done : ByteArray} (h : Sel ls ls.length os done) : os.Perm (List.range ls.length) := by
  refine (List.perm_ext_iff_of_nodup h.nodup List.nodup_range).2 fun i => ⟨fun hi => List.mem_range.2 (h.rng i hi), fun hi => ?_⟩
  by_cases hm : i ∈ os
  · exact hm
  · exfalso
    have hi' := List.mem_range.1 hi
    have h1 : (i :: os).Nodup := List.nodup_cons.2 ⟨hm, h.nodup⟩
    have h2 := h1.length_le_of_subset (l₂ := List.range ls.length) (fun j hj => by
      rcases List.mem_cons.1 hj with rfl | hj
      · exact hi
      · exact List.mem_range.2 (h.rng j hj))
    simp [h.len] at h2
    omega

theorem lab_get {ls : List ByteArray} {i : Nat} (h : i < ls.length) : lab ls i = ls[i] := by
  unfold lab
  rw [List.getElem?_eq_getElem h]
  rfl

/-- None is left to pick, but not all were picked: a label is there twice. -/
theorem Sel.twice {ls : List ByteArray} {k : Nat} {os : List Nat} {done : ByteArray} (h : Sel ls k os done) (hk : k < ls.length) (hb : bst ls done ls.length = none) : ¬ ls.Nodup := by
  intro hn
  have hs := bst_spec ls done ls.length
  rw [hb] at hs
  have hsub : ∀ i, i < ls.length → i ∈ os := fun i hi => by
    rcases h.cov i hi with hc | ⟨j, hj, he⟩
    · rw [hs i hi] at hc; cases hc
    · have hjl := h.rng j hj
      rw [lab_get hjl, lab_get hi] at he
      have : j = i := by
        rcases Nat.lt_trichotomy j i with hlt | he' | hlt
        · exact absurd he ((List.pairwise_iff_getElem.1 hn) j i hjl hi hlt)
        · exact he'
        · exact absurd he.symm ((List.pairwise_iff_getElem.1 hn) i j hi hjl hlt)
      rw [← this]; exact hj
  have h2 := (List.nodup_range (n := ls.length)).length_le_of_subset (l₂ := os) (fun i hi => hsub i (List.mem_range.1 hi))
  simp [h.len] at h2
  omega
end Go.Proofs.YtblfeokjlecgkaaDoor
