/- Words and tags as the document has them; labels. -/
import Derived.Test.YtblfeokjlecgkaaWords
namespace Go.Proofs.Ytblfeokjlecgkaa
open Go.RowKit

def restB (s : ByteArray) (k : Nat) : Bool := (s.data.toList.drop k).all fun d => behindC d.toNat

theorem restB_succ (s : ByteArray) {k : Nat} (hk : k < s.size) : restB s k = (behindC (s[k]'hk).toNat && restB s (k + 1)) := by
  have hl : k < s.data.toList.length := hk
  unfold restB
  rw [List.drop_eq_getElem_cons hl, List.all_cons]
  rfl

theorem restB_end (s : ByteArray) {k : Nat} (hk : ¬ k < s.size) : restB s k = true := by
  have hl : s.data.toList.length = s.size := rfl
  unfold restB
  rw [List.drop_of_length_le (by omega)]
  rfl

theorem fitsL_pos (f : Int → Bool) (s : ByteArray) (hk : 0 < s.size) : fitsL f s.data.toList = (f (s[0]'hk).toNat && restB s 1) := by
  have hl : 0 < s.data.toList.length := hk
  have e : s.data.toList = (s[0]'hk) :: s.data.toList.drop 1 := by
    have := List.drop_eq_getElem_cons hl
    rw [List.drop_zero] at this
    exact this
  unfold restB
  rw [e]
  rfl

set_option maxRecDepth 100000 in
set_option maxHeartbeats 1000000 in
theorem all_any (s : ByteArray) (w : World) (hs : s.size ≤ 9223372036854775807) :
    Calls Try.prog 142 #[.string s] w fun e w' => e = .returned (.bool (restB s 1)) ∧ w = w' := by
  go_enter Try.func142, Try.ntmps142
  go_wp2_with fail
  go_loop [3] (fun i => ∃ k : Nat, 1 ≤ k ∧ i = .int .i64 k ∧ Hid (restB s k = restB s 1)) (fun i => s.size - (intOf i).toNat)
  case atStart => exact ⟨1, Nat.le_refl _, rfl, Lib.hid rfl⟩
  case round =>
    obtain ⟨k, hk, rfl, hgood⟩ := hrel
    by_cases hp : k < s.size
    · have hstep := Lib.hid (restB_succ s hp)
      cases hb : behindC (s[k]'hp).toNat
      all_goals
        have Hb := Lib.hid hb
        go_wp2_with (go_at_call 174; refine (behind_any _ _).mono ?_; rintro e w' ⟨rfl, rfl⟩)
      · go_ret
        exact ⟨ret_bool (by rw [← hgood.out, hstep.out, Hb.out]; rfl), rfl⟩
      · go_round
        case rel => exact ⟨k + 1, by omega, by go_num, Lib.hid (by rw [← hgood.out, hstep.out, Hb.out]; rfl)⟩
        case measure => simp [intOf]; omega
    · have hend := Lib.hid (restB_end s hp)
      go_wp2_with fail
      go_ret
      exact ⟨ret_bool (by rw [← hgood.out, hend.out]), rfl⟩

theorem fitsL_none (f : Int → Bool) (s : ByteArray) (hk : ¬ 0 < s.size) : fitsL f s.data.toList = false := by
  have hl : s.data.toList.length = s.size := rfl
  rw [List.eq_nil_of_length_eq_zero (l := s.data.toList) (by omega)]
  rfl

set_option maxRecDepth 100000 in
set_option maxHeartbeats 1000000 in
theorem rIsWord_any (s : ByteArray) (w : World) (hs : s.size ≤ 9223372036854775807) :
    Calls Try.prog 108 #[.string s] w fun e w' => e = .returned (.bool (wordB s)) ∧ w = w' := by
  by_cases h0 : 0 < s.size
  · have hfin := Lib.hid (fitsL_pos smallC s h0)
    go_enter Try.func108, Try.ntmps108
    go_wp2_with (first
      | (go_at_call 141; refine (within_any _ _ _ _).mono ?_; rintro e w' ⟨rfl, rfl⟩)
      | (go_at_call 142; refine (all_any _ _ hs).mono ?_; rintro e w' ⟨rfl, rfl⟩))
    all_goals go_ret
    all_goals go_tidy
    all_goals exact ⟨ret_bool (by unfold wordB; rw [hfin.out]; simp_all [smallC] <;> (intros; omega)), rfl⟩
  · have hfin := Lib.hid (fitsL_none smallC s h0)
    have hz : ¬ (0 : Int) < (s.size : Int) := by omega
    go_enter Try.func108, Try.ntmps108
    go_wp2_with fail
    go_ret
    exact ⟨ret_bool (by unfold wordB; rw [hfin.out]), rfl⟩

set_option maxRecDepth 100000 in
set_option maxHeartbeats 1000000 in
theorem rIsTag_any (s : ByteArray) (w : World) (hs : s.size ≤ 9223372036854775807) :
    Calls Try.prog 109 #[.string s] w fun e w' => e = .returned (.bool (tagB s)) ∧ w = w' := by
  by_cases h0 : 0 < s.size
  · have hfin := Lib.hid (fitsL_pos greatC s h0)
    go_enter Try.func109, Try.ntmps109
    go_wp2_with (first
      | (go_at_call 141; refine (within_any _ _ _ _).mono ?_; rintro e w' ⟨rfl, rfl⟩)
      | (go_at_call 142; refine (all_any _ _ hs).mono ?_; rintro e w' ⟨rfl, rfl⟩))
    all_goals go_ret
    all_goals go_tidy
    all_goals exact ⟨ret_bool (by unfold tagB; rw [hfin.out]; simp_all [greatC] <;> (intros; omega)), rfl⟩
  · have hfin := Lib.hid (fitsL_none greatC s h0)
    have hz : ¬ (0 : Int) < (s.size : Int) := by omega
    go_enter Try.func109, Try.ntmps109
    go_wp2_with fail
    go_ret
    exact ⟨ret_bool (by unfold tagB; rw [hfin.out]), rfl⟩

/-- Whether a label may stand in a kind of node. -/
def labelB (k : Int) (s : ByteArray) : Bool := if k = 6 then wordB s else if k = 7 then tagB s else decide (s.size = 0)

/-- Whether a label is one of a record's or union's. -/
def rowLabelB (k : Int) (s : ByteArray) : Bool := if k = 6 then wordB s else if k = 7 then tagB s else false

theorem isEmpty_size (s : ByteArray) : s.toList.isEmpty = decide (s.size = 0) := by
  have hl : s.data.toList.length = s.size := rfl
  rw [ByteArray.toList_eq, List.isEmpty_iff_length_eq_zero |> fun h => (Bool.eq_iff_iff.2 (by rw [h, hl, decide_eq_true_iff]) : s.data.toList.isEmpty = decide (s.size = 0))]

set_option maxHeartbeats 1000000 in
theorem isLabel_any (k : Int) (s : ByteArray) (w : World) :
    Calls Try.prog 127 #[.int .i64 k, .string s] w fun e w' => e = .returned (.bool (labelB k s)) ∧ Below w.heap.size w w' := by
  go_enter Try.func127, Try.ntmps127
  go_wp2_with (first
    | (go_at_call 157; refine (isWord_any _ _).mono ?_; rintro e w' ⟨rfl, hb⟩)
    | (go_at_call 158; refine (isTag_any _ _).mono ?_; rintro e w' ⟨rfl, hb⟩))
  all_goals go_ret
  all_goals go_tidy
  all_goals first
    | exact ⟨ret_bool (by simp_all [labelB]), hb⟩
    | exact ⟨ret_bool (by have := isEmpty_size s; simp_all [labelB]), Below.refl _ _⟩

end Go.Proofs.Ytblfeokjlecgkaa
