/- ty.Row's parts: odd labels, the order of labels. -/
import Derived.Test.YtblfeokjlecgkaaGreatPKids
import Derived.BigQuiet
import Derived.Laws.EntriesVeiled
namespace Go.Proofs.YtblfeokjlecgkaaGreat
open Go.RowKit

def encT (s : ByteArray) : List Value := [.string s]
theorem encT_len (s : ByteArray) : (encT s).length = 1 := rfl
/-- A slice of strings. -/
abbrev ReadT (w : World) (B : Nat) (A : Option Addr) (l : List ByteArray) : Prop := ReadL 1 encT w B A l

theorem ReadL.str {w : World} {B : Nat} {A : Option Addr} {l : List ByteArray} (h : ReadT w B A l) {i : Nat} {s : ByteArray} (hn : l[i]? = some s) :
    ∃ b o, A = some ⟨b, o, none⟩ ∧ b < B ∧ w.cell? ⟨b, o + i, none⟩ = some (.string s) := by
  obtain ⟨b, o, rfl, hb, hc⟩ := h (by rintro rfl; simp at hn)
  have := hc i s hn 0 _ rfl
  rw [Nat.mul_one, Nat.add_zero] at this
  exact ⟨b, o, rfl, hb, this⟩

def oddFrom (kind : Int) (ls : List ByteArray) (k : Nat) : Bool := (ls.drop k).any fun s => !labelB kind s

theorem oddFrom_step {kind : Int} {ls : List ByteArray} {k : Nat} {s : ByteArray} (hx : ls[k]? = some s) : oddFrom kind ls k = (!labelB kind s || oddFrom kind ls (k + 1)) := by
  unfold oddFrom
  have e : ls.drop k = s :: ls.drop (k + 1) := by rw [List.drop_eq_getElem_cons (getq_lt hx), (List.getElem?_eq_some_iff.1 hx).2]
  rw [e, List.any_cons]

theorem oddFrom_end {kind : Int} {ls : List ByteArray} {k : Nat} (h : ¬ k < ls.length) : oddFrom kind ls k = false := by
  unfold oddFrom
  rw [List.drop_of_length_le (by omega)]
  rfl

theorem isNaN_any (s : ByteArray) (w : World) : Calls Tryz.prog 76 #[.string s] w fun e w' => e = .returned (.bool false) ∧ w = w' := by
  go_enter Tryz.func76, Tryz.ntmps76
  go_wp2_with fail
  go_ret
  exact ⟨ret_bool (by simp), rfl⟩

def cmpS (a b : ByteArray) : Int := if Op.bytesLess a.toList b.toList = true then -1 else if (a.toList == b.toList) = true then 0 else 1

set_option maxHeartbeats 1000000 in
theorem compare_any (a b : ByteArray) (w : World) : Calls Tryz.prog 52 #[.string a, .string b] w fun e w' => e = .returned (.int .i64 (cmpS a b)) ∧ w = w' := by
  cases h1 : Op.bytesLess a.toList b.toList
  · cases h2 : a.toList == b.toList
    · have hc := Lib.hid (show cmpS a b = 1 by unfold cmpS; rw [h1, h2]; rfl)
      go_enter Tryz.func52, Tryz.ntmps52
      go_wp2_with (go_at_call 76; refine (isNaN_any _ _).mono ?_; rintro e w1 ⟨rfl, rfl⟩)
      go_ret
      exact ⟨ret_int (by rw [hc.out]), rfl⟩
    · have hc := Lib.hid (show cmpS a b = 0 by unfold cmpS; rw [h1, h2]; rfl)
      go_enter Tryz.func52, Tryz.ntmps52
      go_wp2_with (go_at_call 76; refine (isNaN_any _ _).mono ?_; rintro e w1 ⟨rfl, rfl⟩)
      go_ret
      exact ⟨ret_int (by rw [hc.out]), rfl⟩
  · have hc := Lib.hid (show cmpS a b = -1 by unfold cmpS; rw [h1]; rfl)
    go_enter Tryz.func52, Tryz.ntmps52
    go_wp2_with (go_at_call 76; refine (isNaN_any _ _).mono ?_; rintro e w1 ⟨rfl, rfl⟩)
    go_ret
    exact ⟨ret_int (by rw [hc.out]), rfl⟩

end Go.Proofs.YtblfeokjlecgkaaGreat
