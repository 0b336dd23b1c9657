/- Laid together by a tool from the texts of this seat: Sort. Conditions: each theorem's own. -/
import Derived.Test.YtblfeokjlecgkaaO04
/- ty.Row's order: slices.SortFunc over places, by their labels. -/
namespace Go.Proofs.Ytblfeokjlecgkaa
open Go.RowKit

def lab (ls : List ByteArray) (i : Nat) : ByteArray := (ls[i]?).getD ByteArray.empty

def ltB (a b : ByteArray) : Bool := Op.bytesLess a.toList b.toList

theorem ltB_irrefl (a : ByteArray) : ltB a a = false := by
  unfold ltB
  rw [bless_eq]
  simp [List.lt_irrefl]

theorem ltB_trans {a b c : ByteArray} (h : ltB a b = true) (k : ltB b c = true) : ltB a c = true := by
  unfold ltB at *
  rw [bless_eq, decide_eq_true_eq] at *
  exact List.lt_trans h k

theorem ltB_ntrans {a b c : ByteArray} (h : ltB a b = false) (k : ltB b c = false) : ltB a c = false := by
  unfold ltB at *
  rw [bless_eq, decide_eq_false_iff_not, List.not_lt] at *
  exact List.le_trans k h

/-- Of two labels neither of which is less they are one. -/
theorem ltB_eq {a b : ByteArray} (h : ltB a b = false) (k : ltB b a = false) : a = b := by
  unfold ltB at *
  rw [bless_eq, decide_eq_false_iff_not, List.not_lt] at *
  have e : a.toList = b.toList := List.le_antisymm k h
  rw [ByteArray.toList_eq, ByteArray.toList_eq] at e
  cases a; cases b
  simpa using Array.toList_inj.1 e

section
variable {α : Type} [Inhabited α] (enc : α → Value) (w : World) (g m : Nat) (d : Array α) (os : Array Obj)

end

end Go.Proofs.Ytblfeokjlecgkaa
