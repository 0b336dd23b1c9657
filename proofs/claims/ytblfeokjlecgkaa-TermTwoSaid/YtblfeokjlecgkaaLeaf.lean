/- The small functions on one node, each by its contract. -/
import Derived.Test.YtblfeokjlecgkaaBase
namespace Go.Proofs.Ytblfeokjlecgkaa
open Go.RowKit

def isRowB (k : Int) : Bool := k == 6 || k == 7
def isVarB (k : Int) : Bool := k == 8 || k == 9

/-- Whether a node's kind and number may be. -/
def okNode (k n : Int) : Bool :=
  if k = 0 ∨ k = 8 ∨ k = 9 then decide (0 ≤ n) else
  if k = 6 then decide (0 ≤ n ∧ n ≤ 50) else
  if k = 7 then decide (0 < n ∧ n ≤ 50) else decide (0 < k ∧ k ≤ 5 ∧ n = 0)

/-- How many children a node has. -/
def many (k n : Int) : Int := if k = 5 then 2 else if isRowB k = true then n else 0
def manyP (k n : Int) : Int := if k = 5 then 2 else if isRowB k = true then max n 0 else 0

theorem okNode_row {k n : Int} (h : isRowB k = true) : okNode k n = decide ((if k = 7 then 0 < n else 0 ≤ n) ∧ n ≤ 50) := by
  simp [isRowB] at h
  rcases h with rfl | rfl <;> simp [okNode]

theorem manyP_ok {k n : Int} (h : okNode k n = true) : manyP k n = many k n := by
  unfold manyP many
  split
  · rfl
  · split
    · rename_i h6
      rw [okNode_row h6] at h
      simp at h
      obtain ⟨h1, _⟩ := h
      split at h1 <;> omega
    · rfl

set_option maxHeartbeats 400000 in
theorem isRow_any (k n : Int) (s : ByteArray) (w : World) :
    Calls Try.prog 126 #[.agg #[.int .i64 k, .string s, .int .i64 n]] w fun e w' => e = .returned (.bool (isRowB k)) ∧ Below w.heap.size w w' := by
  go_enter Try.func126, Try.ntmps126
  go_wp2
  all_goals go_ret
  all_goals exact ⟨ret_bool (by simp_all [isRowB]), (Below.refl _ _).alloc (Nat.le_refl _) _⟩

set_option maxHeartbeats 400000 in
theorem many_any (k n : Int) (s : ByteArray) (w : World) :
    Calls Try.prog 125 #[.agg #[.int .i64 k, .string s, .int .i64 n]] w fun e w' => e = .returned (.int .i64 (manyP k n)) ∧ Below w.heap.size w w' := by
  by_cases h5 : k = 5
  · subst h5
    go_enter Try.func125, Try.ntmps125
    go_wp2_with fail
    go_ret
    exact ⟨ret_int rfl, (Below.refl _ _).alloc (Nat.le_refl _) _⟩
  · have h5b : (k == 5) = false := by simpa using h5
    go_enter Try.func125, Try.ntmps125
    go_wp2_with fail
    refine (isRow_any _ _ _ _).mono ?_
    rintro e w1 ⟨rfl, hb⟩
    obtain ⟨hc, hf⟩ := bcell hb
    go_wp2_with fail
    all_goals go_ret
    all_goals refine ⟨ret_int ?_, ext_trans ((Below.refl _ _).alloc (Nat.le_refl _) _) hb⟩
    all_goals (simp_all [manyP]; try omega)

set_option maxHeartbeats 400000 in
theorem rmany_any (k n : Int) (s : ByteArray) (w : World) :
    Calls Try.prog 107 #[.agg #[.int .i64 k, .string s, .int .i64 n]] w fun e w' => e = .returned (.int .i64 (many k n)) ∧ Below w.heap.size w w' := by
  go_enter Try.func107, Try.ntmps107
  go_wp2
  all_goals go_ret
  all_goals exact ⟨ret_int (by simp_all [many, isRowB]), (Below.refl _ _).alloc (Nat.le_refl _) _⟩

theorem int_cases9 {k : Int} (h0 : 0 ≤ k) (h9 : k ≤ 9) : k = 0 ∨ k = 1 ∨ k = 2 ∨ k = 3 ∨ k = 4 ∨ k = 5 ∨ k = 6 ∨ k = 7 ∨ k = 8 ∨ k = 9 := by omega

set_option maxHeartbeats 1000000 in
theorem isNode_any (k n : Int) (s : ByteArray) (w : World) :
    Calls Try.prog 124 #[.agg #[.int .i64 k, .string s, .int .i64 n]] w fun e w' => e = .returned (.bool (okNode k n)) ∧ Below w.heap.size w w' := by
  go_enter Try.func124, Try.ntmps124
  go_wp2
  all_goals go_ret
  all_goals refine ⟨ret_bool ?_, (Below.refl _ _).alloc (Nat.le_refl _) _⟩
  all_goals go_tidy
  all_goals (unfold okNode; simp_all)
  all_goals first | done | rfl | omega | (split <;> simp <;> omega)

set_option maxHeartbeats 1000000 in
theorem numbered_any (k n : Int) (s : ByteArray) (w : World) :
    Calls Try.prog 61 #[.agg #[.int .i64 k, .string s, .int .i64 n]] w fun e w' => e = .returned (.bool (okNode k n)) ∧ Below w.heap.size w w' := by
  go_enter Try.func61, Try.ntmps61
  go_wp2
  all_goals go_ret
  all_goals refine ⟨ret_bool ?_, (Below.refl _ _).alloc (Nat.le_refl _) _⟩
  all_goals go_tidy
  all_goals (unfold okNode; simp_all)
  all_goals first | done | rfl | omega | (split <;> simp <;> omega)

end Go.Proofs.Ytblfeokjlecgkaa
