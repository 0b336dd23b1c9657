/- ty.Row's order: slices.SortFunc over places, by their labels. -/
import Derived.Test.YtblfeokjlecgkaaGreatRowA
namespace Go.Proofs.YtblfeokjlecgkaaGreat
open Go.RowKit

def lab (ls : List ByteArray) (i : Nat) : ByteArray := (ls[i]?).getD ByteArray.empty

theorem lab_at {ls : List ByteArray} {i : Nat} (h : i < ls.length) : ls[i]? = some (lab ls i) := by
  unfold lab
  rw [List.getElem?_eq_getElem h]
  rfl

def encF {n : Nat} (i : Fin n) : Value := .int .i64 ((i.val : Nat) : Int)

def cfF (ls : List ByteArray) (n : Nat) (i j : Fin n) : Int := cmpS (lab ls i.val) (lab ls j.val)

def ltB (a b : ByteArray) : Bool := Op.bytesLess a.toList b.toList

theorem ltOf_cf (ls : List ByteArray) (n : Nat) (i j : Fin n) : ltOf (cfF ls n) i j = ltB (lab ls i.val) (lab ls j.val) := by
  unfold ltOf cfF cmpS ltB
  cases h : Op.bytesLess (lab ls i.val).toList (lab ls j.val).toList
  · simp
    split <;> omega
  · simp

theorem ltB_irrefl (a : ByteArray) : ltB a a = false := by
  unfold ltB
  rw [bless_eq]
  simp [List.lt_irrefl]

theorem ltB_trans {a b c : ByteArray} (h : ltB a b = true) (k : ltB b c = true) : ltB a c = true := by
  unfold ltB at *
  rw [bless_eq, decide_eq_true_eq] at *
  exact List.lt_trans h k

theorem ltB_ntrans {a b c : ByteArray} (h : ltB a b = false) (k : ltB b c = false) : ltB a c = false := by
  unfold ltB at *
  rw [bless_eq, decide_eq_false_iff_not, List.not_lt] at *
  exact List.le_trans k h

/-- Of two labels neither of which is less they are one. -/
theorem ltB_eq {a b : ByteArray} (h : ltB a b = false) (k : ltB b a = false) : a = b := by
  unfold ltB at *
  rw [bless_eq, decide_eq_false_iff_not, List.not_lt] at *
  have e : a.toList = b.toList := List.le_antisymm k h
  rw [ByteArray.toList_eq, ByteArray.toList_eq] at e
  cases a; cases b
  simpa using Array.toList_inj.1 e

theorem swo (ls : List ByteArray) (n : Nat) : Go.Sort.SWO (ltOf (cfF ls n)) where
  irrefl x := by rw [ltOf_cf]; exact ltB_irrefl _
  trans x y z h k := by rw [ltOf_cf] at *; exact ltB_trans h k
  ntrans x y z h k := by rw [ltOf_cf] at *; exact ltB_ntrans h k

section
variable {α : Type} [Inhabited α] (enc : α → Value) (w : World) (g m : Nat) (d : Array α) (os : Array Obj)

theorem sortWorld_grown : w.grownBy (sortWorld enc w g 0 m d os) (some g) where
  os := rfl
  tape := rfl
  output := rfl
  size := by
    show w.heap.size ≤ ((Go.Sort.putRow enc (Go.Sort.ahead w m) g 0 d).heap ++ os).size
    rw [Array.size_append]
    show w.heap.size ≤ (w.heap.modify g _).size + _
    rw [Array.size_modify]
    omega
  block k hk hne := by
    show ((w.heap.modify g _) ++ os)[k]? = w.heap[k]?
    rw [Array.getElem?_append_left (by rw [Array.size_modify]; exact hk), Array.getElem?_modify, if_neg (fun e => hne (by rw [e]))]

theorem sortWorld_block {c : Array Value} {e : TypeId} {fr : Nat × Nat} (h : w.heap[g]? = some (.cells c e fr)) : (sortWorld enc w g 0 m d os).heap[g]? = some (.cells (Go.Sort.putCells enc 0 d c) e fr) := by
  have hk := lt_of_block h
  show ((w.heap.modify g _) ++ os)[g]? = _
  rw [Array.getElem?_append_left (by rw [Array.size_modify]; exact hk), Array.getElem?_modify, if_pos rfl, h]
  rfl
end

/-- What a row of places is, once sorted. -/
theorem OwnL.sorted {n : Nat} {w : World} {base g cap : Nat} {L : List Int} (h : OwnI w base (some ⟨g, 0, none⟩) cap L) (hL : L.length = n) [Inhabited (Fin n)] (d : Array (Fin n)) (hd : d.size = n) (m : Nat) (os : Array Obj) :
    OwnI (sortWorld encF w g 0 m d os) base (some ⟨g, 0, none⟩) cap (asI (d.toList.map Fin.val)) := by
  have hl2 : (asI (d.toList.map Fin.val)).length = L.length := by simp [asI, hd, hL]
  have h' : w.ownsRow base 3 1 (.slice (some ⟨g, 0, none⟩) L.length cap) L.length (L.flatMap encI) := h
  show (sortWorld encF w g 0 m d os).ownsRow base 3 1 (.slice (some ⟨g, 0, none⟩) (asI (d.toList.map Fin.val)).length cap) (asI (d.toList.map Fin.val)).length ((asI (d.toList.map Fin.val)).flatMap encI)
  rw [hl2]
  rcases h'.2 with ⟨hv, hn⟩ | ⟨g', cap', cur, hv, hbg, hg, hnc, hcm, hcs, htake⟩
  · cases hv
  · injection hv with hA' hl hc'
    injection hA' with hA'
    injection hA' with hA1
    subst hA1 hc'
    refine ⟨by rw [flatMap_len encI_len, hl2], .inr ⟨g, cap, _, rfl, hbg, sortWorld_block encF w g m d os hg, hnc, hcm, by simp [Go.Sort.putCells]; omega, ?_⟩⟩
    apply List.ext_getElem?
    intro k
    by_cases hk : k < n
    · rw [List.getElem?_take_of_lt (by omega)]
      have hkc : k < cur.size := by omega
      have hkd : k < d.size := by omega
      rw [flatMap_encI]
      simp only [Go.Sort.putCells, Array.getElem?_toList, Array.getElem?_mapIdx, Array.getElem?_eq_getElem hkc, Option.map_some, List.getElem?_map, asI, Array.getElem?_eq_getElem hkd]
      rw [if_pos ⟨Nat.zero_le _, by omega⟩, Nat.sub_zero, getElem!_pos d k hkd]
      rfl
    · rw [List.getElem?_eq_none (by rw [List.length_take]; omega), List.getElem?_eq_none (by rw [flatMap_len encI_len, hl2]; omega)]

end Go.Proofs.YtblfeokjlecgkaaGreat
