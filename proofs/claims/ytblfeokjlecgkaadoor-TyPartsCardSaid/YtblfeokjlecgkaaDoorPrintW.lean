/- The program's printer, walked. -/
import Derived.Test.YtblfeokjlecgkaaDoorPrint
import Derived.Test.YtblfeokjlecgkaaDoorShelf
import Derived.Deep.RegionWith
namespace Go.Proofs.YtblfeokjlecgkaaDoor
open Go.RowKit

/-- The table that Itoa reads is there. -/
def Tab (w : World) (B : Nat) : Prop := 0 < B ∧ Lib.TabIs Tryd.prog w "internal/strconv.uint64pow10" .u64 Lib.pow10Tab

theorem gTab : Tryd.prog.globalNamed "internal/strconv.uint64pow10" = some 0 := by kernel_rfl

theorem Tab.below {w w' : World} {B : Nat} (h : Tab w B) (hb : Below B w w') : Tab w' B := by
  refine ⟨h.1, ?_⟩
  have h2 := h.2
  unfold Lib.TabIs at h2 ⊢
  rw [← h2]
  unfold World.var?
  rw [gTab]
  simp only [Option.bind_some]
  have := hb.block _ h.1
  simp only [this]

theorem Tab.more {w : World} {B B' : Nat} (h : Tab w B) (hB : B ≤ B') : Tab w B' := ⟨Nat.lt_of_lt_of_le h.1 hB, h.2⟩

theorem IsB.below {B b : Nat} {l : List UInt8} {w w' : World} (h : IsB B b l w) (hb : Below w.heap.size w w') : IsB B b l w' := by
  have key : ∀ p, Lib.BuilderAt 60 5 B b p (Lib.byteCells l) w → Lib.BuilderAt 60 5 B b p (Lib.byteCells l) w' := by
    rintro p ⟨hB, v, hbk, hown, hne⟩
    exact ⟨hB, v, (hb.block b (lt_of_block hbk)).trans hbk, World.ownsRow.kept (row := none) hown ⟨hb.os, hb.tape, hb.output, hb.size, fun k hk _ => hb.block k hk⟩ (by cases v.ownBlock <;> simp), hne⟩
  rcases h with h | h
  · exact .inl (key _ h)
  · exact .inr (key _ h)

theorem IsB.lt {B b : Nat} {l : List UInt8} {w : World} (h : IsB B b l w) : B ≤ b ∧ b < w.heap.size := by
  rcases h with h | h
  · exact ⟨h.1, h.lt⟩
  · exact ⟨h.1, h.lt⟩

theorem below_grow (w : World) (k : Nat) (os : Array Obj) : Below w.heap.size w (Go.Sort.grow (w.drewN k) os) :=
  ⟨rfl, rfl, rfl, by show w.heap.size ≤ (w.heap ++ os).size; simp, fun i hi => by show (w.heap ++ os)[i]? = w.heap[i]?; rw [Array.getElem?_append_left hi]⟩

theorem itoa_any (n : Int) (h0 : -9223372036854775808 ≤ n) (h1 : n ≤ 9223372036854775807) (w : World) (B : Nat) (ht : Tab w B) :
    Calls Tryd.prog 69 #[.int .i64 n] w fun e w' => e = .returned (.string ⟨(Lib.itoa n).toArray⟩) ∧ Below w.heap.size w w' :=
  (Tryd.strconv_Itoa n h0 h1 w ht.2).mono fun e w' ⟨he, k, os, hw⟩ => ⟨he, by rw [hw]; exact below_grow w k os⟩

def PrPost (B b : Nat) (l : List UInt8) (j : Nat) (txt : List UInt8) (w : World) (e : Ending) (w' : World) : Prop :=
  e = .returned (.int .i64 (j : Int)) ∧ IsB B b (l ++ txt) w' ∧ Below B w w'

def PNode (f : Nat) : Prop := ∀ (i j B b c : Nat) (A : Option Addr) (T : List Nd) (l : List UInt8) (w : World), treeP T f i = some j → TyA w B A T → IsB B b l w → B ≤ w.heap.size → T.length ≤ 1000000 →
  (∀ x ∈ T, x.Ok) → l.length + (prS f (T.drop i)).length ≤ 140737488355328 → Tab w B →
  Calls Tryd.prog 46 #[.pointer (some ⟨b, 0, none⟩), .slice A T.length c, .int .i64 (i : Int)] w (PrPost B b l j (prS f (T.drop i)) w)

set_option maxRecDepth 100000 in
set_option maxHeartbeats 4000000 in
theorem node_var (i B b c : Nat) (A : Option Addr) (T : List Nd) (l : List UInt8) (w : World) (x : Nd) (hx : T[i]? = some x) (h8 : x.k = 8) (hn0 : -9223372036854775808 ≤ x.n) (hn1 : x.n ≤ 9223372036854775807) (ha : TyA w B A T) (hb : IsB B b l w) (hBw : B ≤ w.heap.size) (hl : T.length ≤ 1000000)
    (hlen : l.length + (wordT x).length ≤ 140737488355328) (ht : Tab w B) :
    Calls Tryd.prog 46 #[.pointer (some ⟨b, 0, none⟩), .slice A T.length c, .int .i64 (i : Int)] w (PrPost B b l (i + 1) (wordT x) w) := by
  obtain ⟨b1, o1, rfl, hb1, c10, c11, c12⟩ := (ha.more hBw).at_ hx
  have hi := getq_lt hx
  have h5b : (x.k == 5) = false := by simp [h8]
  have h6b : (x.k == 6) = false := by simp [h8]
  have h7b : (x.k == 7) = false := by simp [h8]
  have h8b : (x.k == 8) = true := by simp [h8]
  have hword := Lib.hid (show wordT x = 39 :: Lib.itoa x.n by unfold wordT; simp [h8])
  have hil := Lib.itoa_length_le x.n hn0 hn1
  rw [hword.out] at hlen
  simp only [List.length_cons] at hlen
  have Hx := Lib.hid hx
  clear hx h8
  have hbl := hb.lt
  have hW := Lib.hid (show IsB B b l (w.alloc (.cells #[.int .i64 x.k, .string x.s, .int .i64 x.n] 38)) from hb.below (ext_alloc (Below.refl _ _) _))
  go_enter Tryd.func46, Tryd.ntmps46
  go_wp2_with fail
  go_region_with (first
    | (go_at_call 69; refine (itoa_any _ hn0 hn1 _ B (ht.below (by repeat (first | exact Below.refl _ _ | refine Below.alloc ?_ hBw _ | refine Below.drew ?_)))).mono ?_; rintro e w1 ⟨rfl, hbx⟩)
    | (go_at_call 68; refine (writeString_any B b l _ _ (hb.below (ext_trans (by repeat (first | exact Below.refl _ _ | refine ext_alloc ?_ _ | refine Below.drew ?_)) hbx)) (by simp [ByteArray.size_mk']; omega) (by have := hbx.size; simp at this; omega)).mono ?_; rintro e w2 ⟨rfl, hisb, hbx2⟩))
  all_goals
    go_wp2_with fail
    go_ret
    refine ⟨by go_num, ?_, (ext_trans (by repeat (first | exact Below.refl _ _ | refine ext_alloc ?_ _ | refine Below.drew ?_)) hbx).mono hBw |>.trans hbx2⟩
    rw [hword.out]
    have e : (({ data := #[39] } : ByteArray) ++ { data := (Lib.itoa x.n).toArray }).data.toList = 39 :: Lib.itoa x.n := by simp [ByteArray.data_append]
    rw [← e]
    exact hisb
set_option maxRecDepth 100000 in
set_option maxHeartbeats 4000000 in
theorem node_tail (i B b c : Nat) (A : Option Addr) (T : List Nd) (l : List UInt8) (w : World) (x : Nd) (hx : T[i]? = some x) (h8 : x.k = 9) (hn0 : -9223372036854775808 ≤ x.n) (hn1 : x.n ≤ 9223372036854775807) (ha : TyA w B A T) (hb : IsB B b l w) (hBw : B ≤ w.heap.size) (hl : T.length ≤ 1000000)
    (hlen : l.length + (wordT x).length ≤ 140737488355328) (ht : Tab w B) :
    Calls Tryd.prog 46 #[.pointer (some ⟨b, 0, none⟩), .slice A T.length c, .int .i64 (i : Int)] w (PrPost B b l (i + 1) (wordT x) w) := by
  obtain ⟨b1, o1, rfl, hb1, c10, c11, c12⟩ := (ha.more hBw).at_ hx
  have hi := getq_lt hx
  have h5b : (x.k == 5) = false := by simp [h8]
  have h6b : (x.k == 6) = false := by simp [h8]
  have h7b : (x.k == 7) = false := by simp [h8]
  have h8b : (x.k == 8) = false := by simp [h8]
  have h9b : (x.k == 9) = true := by simp [h8]
  have hword := Lib.hid (show wordT x = 46 :: 46 :: Lib.itoa x.n by unfold wordT; simp [h8])
  have hil := Lib.itoa_length_le x.n hn0 hn1
  rw [hword.out] at hlen
  simp only [List.length_cons] at hlen
  have Hx := Lib.hid hx
  clear hx h8
  have hbl := hb.lt
  have hW := Lib.hid (show IsB B b l (w.alloc (.cells #[.int .i64 x.k, .string x.s, .int .i64 x.n] 38)) from hb.below (ext_alloc (Below.refl _ _) _))
  go_enter Tryd.func46, Tryd.ntmps46
  go_wp2_with fail
  go_region_with (first
    | (go_at_call 69; refine (itoa_any _ hn0 hn1 _ B (ht.below (by repeat (first | exact Below.refl _ _ | refine Below.alloc ?_ hBw _ | refine Below.drew ?_)))).mono ?_; rintro e w1 ⟨rfl, hbx⟩)
    | (go_at_call 68; refine (writeString_any B b l _ _ (hb.below (ext_trans (by repeat (first | exact Below.refl _ _ | refine ext_alloc ?_ _ | refine Below.drew ?_)) hbx)) (by simp [ByteArray.size_mk']; omega) (by have := hbx.size; simp at this; omega)).mono ?_; rintro e w2 ⟨rfl, hisb, hbx2⟩))
  all_goals
    go_wp2_with fail
    go_ret
    refine ⟨by go_num, ?_, (ext_trans (by repeat (first | exact Below.refl _ _ | refine ext_alloc ?_ _ | refine Below.drew ?_)) hbx).mono hBw |>.trans hbx2⟩
    rw [hword.out]
    have e : (({ data := #[46, 46] } : ByteArray) ++ { data := (Lib.itoa x.n).toArray }).data.toList = 46 :: 46 :: Lib.itoa x.n := by simp [ByteArray.data_append]
    rw [← e]
    exact hisb

def wordsV : Value := .agg #[.string { data := #[63] }, .string { data := #[105, 110, 116] }, .string { data := #[98, 111, 111, 108] }, .string { data := #[115, 116, 114, 105, 110, 103] }, .string { data := #[117, 110, 105, 116] }]

set_option maxHeartbeats 1000000 in
theorem words_any (w : World) : Calls Tryd.prog 70 #[] w fun e w' => e = .returned wordsV ∧ Below w.heap.size w w' := by
  go_enter Tryd.func70, Tryd.ntmps70
  go_wp2
  exact bodyPost_ret (v := wordsV) (by simp [results, Tryd.results70, go_sem, wordsV]) rfl ⟨rfl, ext_alloc (Below.refl _ _) _⟩

theorem word_at0 (w : World) : (Instr.index 79 wordsV (.int .i64 0)).run Tryd.prog w = .ok (.string { data := #[63] }) w := by kernel_rfl
theorem word_at1 (w : World) : (Instr.index 79 wordsV (.int .i64 1)).run Tryd.prog w = .ok (.string { data := #[105, 110, 116] }) w := by kernel_rfl
theorem word_at2 (w : World) : (Instr.index 79 wordsV (.int .i64 2)).run Tryd.prog w = .ok (.string { data := #[98, 111, 111, 108] }) w := by kernel_rfl
theorem word_at3 (w : World) : (Instr.index 79 wordsV (.int .i64 3)).run Tryd.prog w = .ok (.string { data := #[115, 116, 114, 105, 110, 103] }) w := by kernel_rfl
theorem word_at4 (w : World) : (Instr.index 79 wordsV (.int .i64 4)).run Tryd.prog w = .ok (.string { data := #[117, 110, 105, 116] }) w := by kernel_rfl

/-- A word's bytes. -/
def wordS (k : Int) : ByteArray := if k = 0 then ⟨#[63]⟩ else if k = 1 then ⟨#[105, 110, 116]⟩ else if k = 2 then ⟨#[98, 111, 111, 108]⟩ else if k = 3 then ⟨#[115, 116, 114, 105, 110, 103]⟩ else ⟨#[117, 110, 105, 116]⟩

theorem word_at (k : Int) (h0 : 0 ≤ k) (h4 : k ≤ 4) (w : World) : (Instr.index 79 wordsV (.int .i64 k)).run Tryd.prog w = .ok (.string (wordS k)) w := by
  have : k = 0 ∨ k = 1 ∨ k = 2 ∨ k = 3 ∨ k = 4 := by omega
  rcases this with rfl | rfl | rfl | rfl | rfl
  · exact word_at0 w
  · exact word_at1 w
  · exact word_at2 w
  · exact word_at3 w
  · exact word_at4 w

theorem wordS_eq {x : Nd} (h0 : 0 ≤ x.k) (h4 : x.k ≤ 4) : (wordS x.k).data.toList = wordT x := by
  have : x.k = 0 ∨ x.k = 1 ∨ x.k = 2 ∨ x.k = 3 ∨ x.k = 4 := by omega
  rcases this with h | h | h | h | h <;> simp [wordS, wordT, h]

theorem wordS_size (k : Int) : (wordS k).size ≤ 6 := by
  unfold wordS
  repeat' split
  all_goals decide

set_option maxRecDepth 100000 in
set_option maxHeartbeats 4000000 in
theorem node_word (i B b c : Nat) (A : Option Addr) (T : List Nd) (l : List UInt8) (w : World) (x : Nd) (hx : T[i]? = some x) (hk0 : 0 ≤ x.k) (hk4 : x.k ≤ 4) (ha : TyA w B A T) (hb : IsB B b l w) (hBw : B ≤ w.heap.size) (hl : T.length ≤ 1000000)
    (hlen : l.length + (wordT x).length ≤ 140737488355328) :
    Calls Tryd.prog 46 #[.pointer (some ⟨b, 0, none⟩), .slice A T.length c, .int .i64 (i : Int)] w (PrPost B b l (i + 1) (wordT x) w) := by
  obtain ⟨b1, o1, rfl, hb1, c10, c11, c12⟩ := (ha.more hBw).at_ hx
  have hi := getq_lt hx
  have h5b : (x.k == 5) = false := by rw [beq_eq_false_iff_ne]; omega
  have h6b : (x.k == 6) = false := by rw [beq_eq_false_iff_ne]; omega
  have h7b : (x.k == 7) = false := by rw [beq_eq_false_iff_ne]; omega
  have h8b : (x.k == 8) = false := by rw [beq_eq_false_iff_ne]; omega
  have h9b : (x.k == 9) = false := by rw [beq_eq_false_iff_ne]; omega
  have hword := Lib.hid (wordS_eq hk0 hk4)
  rw [← hword.out] at hlen
  have hat := fun w => word_at x.k hk0 hk4 w
  unfold wordsV at hat
  have Hx := Lib.hid hx
  clear hx
  generalize hsv : wordS x.k = sv at *
  have hsl : sv.data.toList.length = sv.size := rfl
  rw [hsl] at hlen
  clear hsv hsl
  have hbl := hb.lt
  go_enter Tryd.func46, Tryd.ntmps46
  go_wp2_with fail
  go_region_with (first
    | (go_at_call 70; refine (words_any _).mono ?_; unfold wordsV; rintro e w1 ⟨rfl, hbx⟩; obtain ⟨hcx, hfx⟩ := bcell hbx)
    | (go_at_call 68; refine (writeString_any B b l _ _ (hb.below (ext_trans (by repeat (first | exact Below.refl _ _ | refine ext_alloc ?_ _ | refine Below.drew ?_)) hbx)) hlen (by have := hbx.size; simp at this; omega)).mono ?_; rintro e w2 ⟨rfl, hisb, hbx2⟩))
  all_goals
    go_wp2_with fail
    go_ret
    refine ⟨by go_num, ?_, (ext_trans (by repeat (first | exact Below.refl _ _ | refine ext_alloc ?_ _ | refine Below.drew ?_)) hbx).mono hBw |>.trans hbx2⟩
    rw [← hword.out]
    exact hisb

end Go.Proofs.YtblfeokjlecgkaaDoor
