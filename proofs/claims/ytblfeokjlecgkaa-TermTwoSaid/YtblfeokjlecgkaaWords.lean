/- Words and tags: what the program asks of a text's runes, and the document of its bytes. -/
import Derived.Test.YtblfeokjlecgkaaLeaf
namespace Go.Proofs.Ytblfeokjlecgkaa
open Go.RowKit

def smallC (c : Int) : Bool := decide (97 ≤ c ∧ c ≤ 122)
def greatC (c : Int) : Bool := decide (65 ≤ c ∧ c ≤ 90)
def behindC (c : Int) : Bool := smallC c || greatC c || decide (48 ≤ c ∧ c ≤ 57) || c == 95

/-- Of a text the first byte fits, and all others may stand behind. -/
def fitsL (f : Int → Bool) : List UInt8 → Bool
  | [] => false
  | c :: cs => f c.toNat && cs.all fun d => behindC d.toNat

def wordB (s : ByteArray) : Bool := fitsL smallC s.data.toList
def tagB (s : ByteArray) : Bool := fitsL greatC s.data.toList

theorem isSmall_any (r : Int) (w : World) : Calls Try.prog 196 #[.int .i32 r] w fun e w' => e = .returned (.bool (smallC r)) ∧ w = w' := by
  go_enter Try.func196, Try.ntmps196
  go_wp2
  all_goals go_ret
  all_goals go_tidy
  all_goals exact ⟨ret_bool (by simp_all [smallC] <;> (intros; omega)), rfl⟩

theorem isGreat_any (r : Int) (w : World) : Calls Try.prog 197 #[.int .i32 r] w fun e w' => e = .returned (.bool (greatC r)) ∧ w = w' := by
  go_enter Try.func197, Try.ntmps197
  go_wp2
  all_goals go_ret
  all_goals go_tidy
  all_goals exact ⟨ret_bool (by simp_all [greatC] <;> (intros; omega)), rfl⟩

set_option maxHeartbeats 400000 in
theorem isBehind_any (r : Int) (w : World) : Calls Try.prog 218 #[.int .i32 r] w fun e w' => e = .returned (.bool (behindC r)) ∧ w = w' := by
  go_enter Try.func218, Try.ntmps218
  go_wp2_with (first
    | (go_at_call 196; refine (isSmall_any _ _).mono ?_; rintro e w' ⟨rfl, rfl⟩)
    | (go_at_call 197; refine (isGreat_any _ _).mono ?_; rintro e w' ⟨rfl, rfl⟩))
  all_goals go_ret
  all_goals go_tidy
  all_goals exact ⟨ret_bool (by simp_all [behindC] <;> (intros; omega)), rfl⟩

theorem within_any (c a b : Int) (w : World) : Calls Try.prog 141 #[.int .u8 c, .int .u8 a, .int .u8 b] w fun e w' => e = .returned (.bool (decide (a ≤ c ∧ c ≤ b))) ∧ w = w' := by
  go_enter Try.func141, Try.ntmps141
  go_wp2
  all_goals go_ret
  all_goals go_tidy
  all_goals exact ⟨ret_bool (by simp_all <;> (intros; omega)), rfl⟩

set_option maxHeartbeats 400000 in
theorem behind_any (r : Int) (w : World) : Calls Try.prog 174 #[.int .u8 r] w fun e w' => e = .returned (.bool (behindC r)) ∧ w = w' := by
  go_enter Try.func174, Try.ntmps174
  go_wp2_with (go_at_call 141; refine (within_any _ _ _ _).mono ?_; rintro e w' ⟨rfl, rfl⟩)
  all_goals go_ret
  all_goals go_tidy
  all_goals exact ⟨ret_bool (by simp_all [behindC, smallC, greatC] <;> (intros; omega)), rfl⟩

theorem fitsL_take_succ {f : Int → Bool} (s : ByteArray) {k : Nat} (hk : k < s.size) (h : k = 0 ∨ fitsL f (s.data.toList.take k) = true) :
    fitsL f (s.data.toList.take (k + 1)) = (if k = 0 then f (s[k]'hk).toNat else behindC (s[k]'hk).toNat) := by
  have hl : k < s.data.toList.length := hk
  have e : s.data.toList.take (k + 1) = s.data.toList.take k ++ [s[k]'hk] := by
    rw [List.take_succ_eq_append_getElem hl]; rfl
  rw [e]
  rcases h with rfl | h
  · simp [fitsL]
  · by_cases h0 : k = 0
    · subst h0; simp [fitsL]
    · rw [if_neg h0]
      match hm : s.data.toList.take k, h with
      | c :: cs, h =>
        simp only [fitsL, Bool.and_eq_true] at h
        simp [fitsL, h.1, h.2]

/-- A byte that does not fit, at its place, spoils the text. -/
theorem fitsL_bad {f : Int → Bool} (s : ByteArray) {k : Nat} (hk : k < s.size) (h : (if k = 0 then f (s[k]'hk).toNat else behindC (s[k]'hk).toNat) = false) :
    fitsL f s.data.toList = false := by
  have hl : k < s.data.toList.length := hk
  have e : s.data.toList = s.data.toList.take k ++ (s[k]'hk) :: s.data.toList.drop (k + 1) := by
    have h1 := List.take_append_drop k s.data.toList
    rw [List.drop_eq_getElem_cons hl] at h1
    exact h1.symm
  rw [e]
  by_cases h0 : k = 0
  · subst h0
    simp only [if_true] at h
    simp [fitsL, h]
  · rw [if_neg h0] at h
    match hm : s.data.toList.take k with
    | [] =>
      have := congrArg List.length hm
      rw [List.length_take, List.length_nil] at this
      omega
    | c :: cs => simp [fitsL, h]

theorem behindC_high {r : Int} (h : 128 ≤ r) : behindC r = false := by
  simp [behindC, smallC, greatC]
  omega

theorem iter_ext (w : World) (s : ByteArray) (k : Nat) : Below w.heap.size w (w.iter s k) := (Below.refl _ _).alloc (Nat.le_refl _) (.stringIter s k)

theorem fits_end {f : Int → Bool} (s : ByteArray) {k : Nat} (hk : k ≤ s.size) (hp : ¬ k < s.size) (h : k = 0 ∨ fitsL f (s.data.toList.take k) = true) :
    (!s.toList.isEmpty) = fitsL f s.data.toList := by
  have hl : s.data.toList.length = s.size := rfl
  have hk' : k = s.data.toList.length := by omega
  rw [ByteArray.toList_eq]
  rcases h with rfl | h
  · have : s.data.toList = [] := List.eq_nil_of_length_eq_zero hk'.symm
    rw [this]; rfl
  · rw [List.take_of_length_le (by omega)] at h
    rw [h]
    match s.data.toList, h with
    | c :: cs, _ => rfl

def Fits (f : Int → Bool) (K : Nat) : Prop := ∀ (r : Int) (w : World), Calls Try.prog K #[.int .i32 r] w fun e w' => e = .returned (.bool (f r)) ∧ w = w'

set_option maxRecDepth 100000 in
set_option maxHeartbeats 2000000 in
theorem fits_any (f : Int → Bool) (K : Nat) (hK : K = 196 ∨ K = 197) (hf : Hid (Fits f K)) (hhi : ∀ r, 128 ≤ r → f r = false) (s : ByteArray) (w : World) :
    Calls Try.prog 195 #[.string s, .func (.func K) #[] #[]] w fun e w' => e = .returned (.bool (fitsL f s.data.toList)) ∧ Below w.heap.size w w' := by
  have Hhi := Lib.hid hhi
  clear hhi
  rcases hK with rfl | rfl
  all_goals
    go_enter Try.func195, Try.ntmps195
    go_wp2_with fail
    go_loopw [5] (fun _ w' => ∃ k : Nat, k ≤ s.size ∧ w' = w.iter s k ∧ Hid (k = 0 ∨ fitsL f (s.data.toList.take k) = true)) (fun _ w' => s.size - w'.iterPos w.heap.size)
    case atStart => exact ⟨0, Nat.zero_le _, rfl, Lib.hid (.inl rfl)⟩
    case round =>
      obtain ⟨k, hk, rfl, hgood⟩ := hrel
      by_cases hp : k < s.size
      · by_cases ha : (s[k]'hp).toNat < 128
        · have hnx : ∀ ty, (Instr.next (.pointer (some ⟨w.heap.size, 0, none⟩)) true ty).run Try.prog (w.iter s k) = _ := fun ty => run_next_ascii w s k ty hp ha
          have hstep := Lib.hid (fitsL_take_succ (f := f) s hp hgood.out)
          have hbad := Lib.hid (fitsL_bad (f := f) s hp)
          generalize hcv : (s[k]'hp).toNat = c at *
          clear hcv
          by_cases h0 : k = 0
          · subst h0
            cases hfr : f c
            all_goals go_wp2_with (first
              | (go_at_call 196; refine (hf.out _ _).mono ?_; rintro e w' ⟨rfl, rfl⟩)
              | (go_at_call 197; refine (hf.out _ _).mono ?_; rintro e w' ⟨rfl, rfl⟩))
            · go_ret
              exact ⟨ret_bool (hbad.out (by simpa using hfr)).symm, iter_ext _ _ _⟩
            · go_roundw
              case rel => exact ⟨1, hp, rfl, Lib.hid (.inr (by rw [hstep.out]; simpa using hfr))⟩
              case measure => simp; omega
          · have h0b : ((k : Int) == 0) = false := by rw [beq_eq_false_iff_ne]; omega
            have h0p : (0 : Int) < k := by omega
            cases hfr : behindC c
            all_goals go_wp2_with (go_at_call 218; refine (isBehind_any _ _).mono ?_; rintro e w' ⟨rfl, rfl⟩)
            · go_ret
              exact ⟨ret_bool (hbad.out (by rw [if_neg h0]; exact hfr)).symm, iter_ext _ _ _⟩
            · go_roundw
              case rel => exact ⟨k + 1, hp, rfl, Lib.hid (.inr (by rw [hstep.out, if_neg h0]; exact hfr))⟩
              case measure => simp; omega
        · have hnx : ∀ ty, (Instr.next (.pointer (some ⟨w.heap.size, 0, none⟩)) true ty).run Try.prog (w.iter s k) = _ := fun ty => run_next_any w s k ty hp
          have hhigh := decode_high s k hp (by omega)
          have h128 := hhigh.1
          have hbad := Lib.hid (fitsL_bad (f := f) s hp)
          have hbyte := Lib.hid (show 128 ≤ ((s[k]'hp).toNat : Int) by omega)
          clear hhigh
          generalize hcv : (Utf8.decode s k).1 = c at *
          generalize hdv : (Utf8.decode s k).2 = d at *
          clear hcv hdv
          have hc128 : (128 : Int) ≤ (c : Int) := by omega
          by_cases h0 : k = 0
          · subst h0
            have hfr : f c = false := Hhi.out _ hc128
            go_wp2_with (first
              | (go_at_call 196; refine (hf.out _ _).mono ?_; rintro e w' ⟨rfl, rfl⟩)
              | (go_at_call 197; refine (hf.out _ _).mono ?_; rintro e w' ⟨rfl, rfl⟩))
            go_ret
            exact ⟨ret_bool (hbad.out (by simpa using Hhi.out _ hbyte.out)).symm, iter_ext _ _ _⟩
          · have h0b : ((k : Int) == 0) = false := by rw [beq_eq_false_iff_ne]; omega
            have h0p : (0 : Int) < k := by omega
            have hfr : behindC c = false := behindC_high hc128
            go_wp2_with (go_at_call 218; refine (isBehind_any _ _).mono ?_; rintro e w' ⟨rfl, rfl⟩)
            go_ret
            exact ⟨ret_bool (hbad.out (by rw [if_neg h0]; exact behindC_high hbyte.out)).symm, iter_ext _ _ _⟩
      · have hnx : ∀ ty, (Instr.next (.pointer (some ⟨w.heap.size, 0, none⟩)) true ty).run Try.prog (w.iter s k) = _ := fun ty => run_next_end w s k ty hp
        have hend := Lib.hid (fits_end (f := f) s hk hp hgood.out)
        go_wp2_with fail
        go_ret
        exact ⟨ret_bool (by rw [hend.out]), iter_ext _ _ _⟩

theorem isWord_any (s : ByteArray) (w : World) : Calls Try.prog 157 #[.string s] w fun e w' => e = .returned (.bool (wordB s)) ∧ Below w.heap.size w w' := by
  have hf := Lib.hid (show Fits smallC 196 from isSmall_any)
  go_enter Try.func157, Try.ntmps157
  go_wp2_with (go_at_call 195; refine (fits_any smallC _ (.inl rfl) hf (fun r h => by simp [smallC]; omega) s _).mono ?_; rintro e w' ⟨rfl, hb⟩)
  go_ret
  exact ⟨rfl, hb⟩

theorem isTag_any (s : ByteArray) (w : World) : Calls Try.prog 158 #[.string s] w fun e w' => e = .returned (.bool (tagB s)) ∧ Below w.heap.size w w' := by
  have hf := Lib.hid (show Fits greatC 197 from isGreat_any)
  go_enter Try.func158, Try.ntmps158
  go_wp2_with (go_at_call 195; refine (fits_any greatC _ (.inr rfl) hf (fun r h => by simp [greatC]; omega) s _).mono ?_; rintro e w' ⟨rfl, hb⟩)
  go_ret
  exact ⟨rfl, hb⟩
end Go.Proofs.Ytblfeokjlecgkaa
