/- ty.Row's order: slices.SortFunc over places, by their labels. -/
import Derived.Test.YtblfeokjlecgkaaDoorRowA
namespace Go.Proofs.YtblfeokjlecgkaaDoor
open Go.RowKit

def lab (ls : List ByteArray) (i : Nat) : ByteArray := (ls[i]?).getD ByteArray.empty

theorem lab_at {ls : List ByteArray} {i : Nat} (h : i < ls.length) : ls[i]? = some (lab ls i) := by
  unfold lab
  rw [List.getElem?_eq_getElem h]
  rfl

def encF {n : Nat} (i : Fin n) : Value := .int .i64 ((i.val : Nat) : Int)

def cfF (ls : List ByteArray) (n : Nat) (i j : Fin n) : Int := cmpS (lab ls i.val) (lab ls j.val)

def ltB (a b : ByteArray) : Bool := Op.bytesLess a.toList b.toList

theorem ltOf_cf (ls : List ByteArray) (n : Nat) (i j : Fin n) : ltOf (cfF ls n) i j = ltB (lab ls i.val) (lab ls j.val) := by
  unfold ltOf cfF cmpS ltB
  cases h : Op.bytesLess (lab ls i.val).toList (lab ls j.val).toList
  · simp
    split <;> omega
  · simp

theorem ltB_irrefl (a : ByteArray) : ltB a a = false := by
  unfold ltB
  rw [bless_eq]
  simp [List.lt_irrefl]

theorem ltB_trans {a b c : ByteArray} (h : ltB a b = true) (k : ltB b c = true) : ltB a c = true := by
  unfold ltB at *
  rw [bless_eq, decide_eq_true_eq] at *
  exact List.lt_trans h k

theorem ltB_ntrans {a b c : ByteArray} (h : ltB a b = false) (k : ltB b c = false) : ltB a c = false := by
  unfold ltB at *
  rw [bless_eq, decide_eq_false_iff_not, List.not_lt] at *
  exact List.le_trans k h

/-- Of two labels neither of which is less they are one. -/
theorem ltB_eq {a b : ByteArray} (h : ltB a b = false) (k : ltB b a = false) : a = b := by
  unfold ltB at *
  rw [bless_eq, decide_eq_false_iff_not, List.not_lt] at *
  have e : a.toList = b.toList := List.le_antisymm k h
  rw [ByteArray.toList_eq, ByteArray.toList_eq] at e
  cases a; cases b
  simpa using Array.toList_inj.1 e

theorem swo (ls : List ByteArray) (n : Nat) : Go.Sort.SWO (ltOf (cfF ls n)) where
  irrefl x := by rw [ltOf_cf]; exact ltB_irrefl _
  trans x y z h k := by rw [ltOf_cf] at *; exact ltB_trans h k
  ntrans x y z h k := by rw [ltOf_cf] at *; exact ltB_ntrans h k

section
variable {α : Type} [Inhabited α] (enc : α → Value) (w : World) (g m : Nat) (d : Array α) (os : Array Obj)

theorem sortWorld_grown : w.grownBy (sortWorld enc w g 0 m d os) (some g) where
  os := rfl
  tape := rfl
  output := rfl
  size := by
    show w.heap.size ≤ ((Go.Sort.putRow enc (Go.Sort.ahead w m) g 0 d).heap ++ os).size
    rw [Array.size_append]
    show w.heap.size ≤ (w.heap.modify g _).size + _
    rw [Array.size_modify]
    omega
  block k hk hne := by
    show ((w.heap.modify g _) ++ os)[k]? = w.heap[k]?
    rw [Array.getElem?_append_left (by rw [Array.size_modify]; exact hk), Array.getElem?_modify, if_neg (fun e => hne (by rw [e]))]

theorem sortWorld_block {c : Array Value} {e : TypeId} {fr : Nat × Nat} (h : w.heap[g]? = some (.cells c e fr)) : (sortWorld enc w g 0 m d os).heap[g]? = some (.cells (Go.Sort.putCells enc 0 d c) e fr) := by
  have hk := lt_of_block h
  show ((w.heap.modify g _) ++ os)[g]? = _
  rw [Array.getElem?_append_left (by rw [Array.size_modify]; exact hk), Array.getElem?_modify, if_pos rfl, h]
  rfl
end

/-- What a row of places is, once sorted. -/
theorem OwnL.sorted {n : Nat} {w : World} {base g cap : Nat} {L : List Int} (h : OwnI w base (some ⟨g, 0, none⟩) cap L) (hL : L.length = n) [Inhabited (Fin n)] (d : Array (Fin n)) (hd : d.size = n) (m : Nat) (os : Array Obj) :
    OwnI (sortWorld encF w g 0 m d os) base (some ⟨g, 0, none⟩) cap (asI (d.toList.map Fin.val)) := by
  have hl2 : (asI (d.toList.map Fin.val)).length = L.length := by simp [asI, hd, hL]
  have h' : w.ownsRow base 3 1 (.slice (some ⟨g, 0, none⟩) L.length cap) L.length (L.flatMap encI) := h
  show (sortWorld encF w g 0 m d os).ownsRow base 3 1 (.slice (some ⟨g, 0, none⟩) (asI (d.toList.map Fin.val)).length cap) (asI (d.toList.map Fin.val)).length ((asI (d.toList.map Fin.val)).flatMap encI)
  rw [hl2]
  rcases h'.2 with ⟨hv, hn⟩ | ⟨g', cap', cur, hv, hbg, hg, hnc, hcm, hcs, htake⟩
  · cases hv
  · injection hv with hA' hl hc'
    injection hA' with hA'
    injection hA' with hA1
    subst hA1 hc'
    refine ⟨by rw [flatMap_len encI_len, hl2], .inr ⟨g, cap, _, rfl, hbg, sortWorld_block encF w g m d os hg, hnc, hcm, by simp [Go.Sort.putCells]; omega, ?_⟩⟩
    apply List.ext_getElem?
    intro k
    by_cases hk : k < n
    · rw [List.getElem?_take_of_lt (by omega)]
      have hkc : k < cur.size := by omega
      have hkd : k < d.size := by omega
      rw [flatMap_encI]
      simp only [Go.Sort.putCells, Array.getElem?_toList, Array.getElem?_mapIdx, Array.getElem?_eq_getElem hkc, Option.map_some, List.getElem?_map, asI, Array.getElem?_eq_getElem hkd]
      rw [if_pos ⟨Nat.zero_le _, by omega⟩, Nat.sub_zero, getElem!_pos d k hkd]
      rfl
    · rw [List.getElem?_eq_none (by rw [List.length_take]; omega), List.getElem?_eq_none (by rw [flatMap_len encI_len, hl2]; omega)]

set_option maxHeartbeats 1000000 in
theorem sort_any (A : Option Addr) (c : Nat) (ls : List ByteArray) (n gl g cap base B : Nat) (w : World) (hn : ls.length = n) (hn6 : n ≤ 1000000)
    (hgl : w.cell? ⟨gl, 0, none⟩ = some (.slice A n c)) (hne : gl ≠ g) (ha : ReadT w B A ls) (hB : B ≤ g) (hown : OwnI w base (some ⟨g, 0, none⟩) cap (asI (List.range n))) :
    Calls Tryd.prog 41 #[.slice (some ⟨g, 0, none⟩) n cap, .func (.func 42) #[] #[.pointer (some ⟨gl, 0, none⟩)]] w fun e w' => e = .returned (.tuple #[]) ∧
      ∃ os : List Nat, os.Perm (List.range n) ∧ os.Pairwise (fun i j => ltB (lab ls j) (lab ls i) = false) ∧ OwnI w' base (some ⟨g, 0, none⟩) cap (asI os) ∧ w.grownBy w' (some g) := by
  match n, hn, hgl, hown with
  | 0, hn, hgl, hown =>
    refine (Tryd.slices_SortFunc_none (α := Nat) (some ⟨g, 0, none⟩) cap _ w).mono ?_
    rintro e w' ⟨rfl, rfl⟩
    exact ⟨rfl, [], by simp, .nil, hown, ⟨rfl, rfl, rfl, Nat.le_refl _, fun _ _ _ => rfl⟩⟩
  | n + 1, hn, hgl, hown =>
    have hglt := (OwnL.block hown g rfl).2
    have hgll := World.block_lt_of_cell? w _ hgl
    have hrange : (asI (List.range (n + 1))).length = n + 1 := by simp [asI]
    have hd : (List.finRange (n + 1)).toArray.size = n + 1 := by simp
    have hdl : ∀ j (hj : j < n + 1), (List.finRange (n + 1)).toArray[j]! = ⟨j, hj⟩ := fun j hj => by
      rw [getElem!_pos _ j (by simpa using hj)]
      simp
    have H := Tryd.slices_SortFunc (α := Fin (n + 1)) encF (fun _ => rfl) (cfF ls (n + 1)) (swo ls _) 42 #[.pointer (some ⟨gl, 0, none⟩)] g 0 cap (List.finRange (n + 1)).toArray w
      (enters_of Tryd.func42 (by kernel_rfl) rfl)
      (CmpReads.lays fun m os dk hdk x y => by
        rw [hd] at hdk
        have hgr := sortWorld_grown encF w g m dk os
        have hxl : x.val < ls.length := by rw [hn]; exact x.isLt
        have hyl : y.val < ls.length := by rw [hn]; exact y.isLt
        have ha2 : ReadT (sortWorld encF w g 0 m dk os) (sortWorld encF w g 0 m dk os).heap.size A ls := fun hne2 => by
          obtain ⟨b, o, rfl, hb, hc⟩ := ha hne2
          exact ⟨b, o, rfl, Nat.lt_of_lt_of_le (by omega) hgr.size, fun i s hs j u hu => hgr.cell (hc i s hs j u hu) (by simp; omega)⟩
        exact row2_any A c ls gl x.val y.val (lab ls x.val) (lab ls y.val) _ (by rw [hn]; exact hgr.cell hgl (by simp; omega)) ha2 (lab_at hxl) (lab_at hyl) (by omega))
      (fun j hj => by
        rw [hd] at hj
        rw [hdl j hj]
        have hj2 : (asI (List.range (n + 1)))[j]? = some (j : Int) := by simp [asI, hj]
        obtain ⟨b, o, hA, _, hc⟩ := ReadL.int (OwnL.read encI_len hown) hj2
        injection hA with hA
        injection hA with h1 h2 _
        subst h1 h2
        exact ⟨hc, by rw [Nat.zero_add]; exact World.ownsRow.frozenAt hown j⟩)
      hglt (by rw [hd]; omega)
    rw [hd] at H
    refine H.mono ?_
    rintro e w' ⟨rfl, d', k, os, ⟨hs, _, hperm⟩, hsorted, rfl⟩
    rw [hd] at hs
    refine ⟨rfl, d'.toList.map Fin.val, ?_, ?_, OwnL.sorted hown hrange d' hs k os, sortWorld_grown _ _ _ _ _ _⟩
    · have e1 : (d'.extract 0 (n + 1)).toList = d'.toList := by
        rw [Array.toList_extract, List.extract_eq_take_drop, Nat.sub_zero, List.drop_zero]
        exact List.take_of_length_le (by simp; omega)
      have e2 : ((List.finRange (n + 1)).toArray.extract 0 (n + 1)).toList = List.finRange (n + 1) := by
        rw [Array.toList_extract, List.extract_eq_take_drop, Nat.sub_zero, List.drop_zero]
        exact List.take_of_length_le (by simp)
      rw [e1, e2] at hperm
      refine (hperm.map Fin.val).trans (List.Perm.of_eq ?_)
      apply List.ext_getElem
      · simp
      · intro i h1 h2; simp
    · rw [List.pairwise_map, List.pairwise_iff_getElem]
      intro i j hi hj hij
      have hi' : i < d'.size := by simpa using hi
      have hj' : j < d'.size := by simpa using hj
      have := hsorted i j (Nat.zero_le _) hij (by omega)
      rw [ltOf_cf, getElem!_pos d' i hi', getElem!_pos d' j hj'] at this
      simpa using this
end Go.Proofs.YtblfeokjlecgkaaDoor
