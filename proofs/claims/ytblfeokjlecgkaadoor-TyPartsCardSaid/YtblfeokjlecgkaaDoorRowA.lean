/- ty.Row's parts: odd labels, the order of labels. -/
import Derived.Test.YtblfeokjlecgkaaDoorPKids
import Derived.BigQuiet
import Derived.Laws.EntriesVeiled
namespace Go.Proofs.YtblfeokjlecgkaaDoor
open Go.RowKit

def encT (s : ByteArray) : List Value := [.string s]
theorem encT_len (s : ByteArray) : (encT s).length = 1 := rfl
/-- A slice of strings. -/
abbrev ReadT (w : World) (B : Nat) (A : Option Addr) (l : List ByteArray) : Prop := ReadL 1 encT w B A l

theorem ReadL.str {w : World} {B : Nat} {A : Option Addr} {l : List ByteArray} (h : ReadT w B A l) {i : Nat} {s : ByteArray} (hn : l[i]? = some s) :
    ∃ b o, A = some ⟨b, o, none⟩ ∧ b < B ∧ w.cell? ⟨b, o + i, none⟩ = some (.string s) := by
  obtain ⟨b, o, rfl, hb, hc⟩ := h (by rintro rfl; simp at hn)
  have := hc i s hn 0 _ rfl
  rw [Nat.mul_one, Nat.add_zero] at this
  exact ⟨b, o, rfl, hb, this⟩

def oddFrom (kind : Int) (ls : List ByteArray) (k : Nat) : Bool := (ls.drop k).any fun s => !labelB kind s

theorem oddFrom_step {kind : Int} {ls : List ByteArray} {k : Nat} {s : ByteArray} (hx : ls[k]? = some s) : oddFrom kind ls k = (!labelB kind s || oddFrom kind ls (k + 1)) := by
  unfold oddFrom
  have e : ls.drop k = s :: ls.drop (k + 1) := by rw [List.drop_eq_getElem_cons (getq_lt hx), (List.getElem?_eq_some_iff.1 hx).2]
  rw [e, List.any_cons]

theorem oddFrom_end {kind : Int} {ls : List ByteArray} {k : Nat} (h : ¬ k < ls.length) : oddFrom kind ls k = false := by
  unfold oddFrom
  rw [List.drop_of_length_le (by omega)]
  rfl

set_option maxRecDepth 100000 in
set_option maxHeartbeats 1000000 in
theorem row1_any (kind : Int) (s : ByteArray) (g : Nat) (w : World) (hg : w.cell? ⟨g, 0, none⟩ = some (.int .i64 kind)) :
    Calls Tryd.prog 37 #[.string s, .pointer (some ⟨g, 0, none⟩)] w fun e w' => e = .returned (.bool (!labelB kind s)) ∧ Below w.heap.size w w' := by
  go_enter Tryd.func37, Tryd.ntmps37
  go_wp2_with (go_at_call 38; refine (isLabel_any _ _ _).mono ?_; rintro e w1 ⟨rfl, hbx⟩)
  go_ret
  exact ⟨rfl, hbx⟩

set_option maxRecDepth 100000 in
set_option maxHeartbeats 1000000 in
theorem indexStr_any (A : Option Addr) (c : Nat) (ls : List ByteArray) (kind : Int) (g : Nat) (w : World) (ha : ReadT w w.heap.size A ls) (hg : w.cell? ⟨g, 0, none⟩ = some (.int .i64 kind)) (hgl : g < w.heap.size) (hl : ls.length ≤ 9223372036854775807) :
    Calls Tryd.prog 61 #[.slice A ls.length c, .func (.func 37) #[] #[.pointer (some ⟨g, 0, none⟩)]] w fun e w' => Found (oddFrom kind ls 0) e ∧ Below w.heap.size w w' := by
  have Hg := Lib.hid hg
  clear hg
  go_enter Tryd.func61, Tryd.ntmps61
  go_wp2_with fail
  go_loopw [8] (fun i w' => ∃ k : Nat, k ≤ ls.length ∧ i = .int .i64 k ∧ Below w.heap.size w w' ∧ Hid (oddFrom kind ls k = oddFrom kind ls 0)) (fun i _ => ls.length - (intOf i).toNat)
  case atStart => exact ⟨0, Nat.zero_le _, rfl, Below.refl _ _, Lib.hid rfl⟩
  case round =>
    obtain ⟨k, hk, rfl, hbel, hgood⟩ := hrel
    by_cases hp : k < ls.length
    · obtain ⟨x, hx⟩ := getq_ex hp
      have hstep := Lib.hid (oddFrom_step (kind := kind) hx)
      obtain ⟨b1, o1, rfl, hb1, c10⟩ := ReadL.str (ReadL.more (ReadL.below ha hbel) hbel.size) hx
      have hg' := Lib.hid ((hbel.cell (p := ⟨g, 0, none⟩) hgl).trans Hg.out)
      clear hx
      cases he : labelB kind x
      all_goals
        have He := Lib.hid he
        clear he
        go_wp2_with (go_at_call 37; refine (row1_any kind x g _ hg'.out).mono ?_; rintro e w1 ⟨rfl, hbx⟩; rw [He.out])
      · go_ret
        refine ⟨⟨_, rfl, fun _ => by omega, fun h => ?_⟩, ext_trans hbel hbx⟩
        rw [← hgood.out, hstep.out, He.out] at h
        cases h
      · go_roundw
        case rel => exact ⟨k + 1, hp, by go_num, ext_trans hbel hbx, Lib.hid (by rw [← hgood.out, hstep.out, He.out, Bool.not_true, Bool.false_or])⟩
        case measure => simp [intOf]; omega
    · have hend := Lib.hid (oddFrom_end (kind := kind) hp)
      go_wp2_with fail
      go_ret
      refine ⟨⟨_, rfl, fun h => ?_, fun _ => rfl⟩, hbel⟩
      rw [← hgood.out, hend.out] at h
      cases h

set_option maxHeartbeats 1000000 in
theorem containsStr_any (A : Option Addr) (c : Nat) (ls : List ByteArray) (kind : Int) (g : Nat) (w : World) (ha : ReadT w w.heap.size A ls) (hg : w.cell? ⟨g, 0, none⟩ = some (.int .i64 kind)) (hgl : g < w.heap.size) (hl : ls.length ≤ 9223372036854775807) :
    Calls Tryd.prog 40 #[.slice A ls.length c, .func (.func 37) #[] #[.pointer (some ⟨g, 0, none⟩)]] w fun e w' => e = .returned (.bool (oddFrom kind ls 0)) ∧ Below w.heap.size w w' := by
  have Hg := Lib.hid hg
  clear hg
  cases hp : oddFrom kind ls 0
  all_goals
    have Hp := Lib.hid hp
    go_enter Tryd.func40, Tryd.ntmps40
    go_wp2_with (go_at_call 61; refine (indexStr_any A c ls kind g _ ha Hg.out hgl hl).mono ?_; rintro e w1 ⟨⟨i, rfl, h1, h2⟩, hbx⟩; have H1 := Lib.hid h1; have H2 := Lib.hid h2; clear h1 h2)
    go_ret
  · exact ⟨ret_bool (by rw [H2.out Hp.out]; rfl), hbx⟩
  · exact ⟨ret_bool (by have := H1.out Hp.out; simpa using this), hbx⟩

theorem isNaN_any (s : ByteArray) (w : World) : Calls Tryd.prog 64 #[.string s] w fun e w' => e = .returned (.bool false) ∧ w = w' := by
  go_enter Tryd.func64, Tryd.ntmps64
  go_wp2_with fail
  go_ret
  exact ⟨ret_bool (by simp), rfl⟩

def cmpS (a b : ByteArray) : Int := if Op.bytesLess a.toList b.toList = true then -1 else if (a.toList == b.toList) = true then 0 else 1

set_option maxHeartbeats 1000000 in
theorem compare_any (a b : ByteArray) (w : World) : Calls Tryd.prog 43 #[.string a, .string b] w fun e w' => e = .returned (.int .i64 (cmpS a b)) ∧ w = w' := by
  cases h1 : Op.bytesLess a.toList b.toList
  · cases h2 : a.toList == b.toList
    · have hc := Lib.hid (show cmpS a b = 1 by unfold cmpS; rw [h1, h2]; rfl)
      go_enter Tryd.func43, Tryd.ntmps43
      go_wp2_with (go_at_call 64; refine (isNaN_any _ _).mono ?_; rintro e w1 ⟨rfl, rfl⟩)
      go_ret
      exact ⟨ret_int (by rw [hc.out]), rfl⟩
    · have hc := Lib.hid (show cmpS a b = 0 by unfold cmpS; rw [h1, h2]; rfl)
      go_enter Tryd.func43, Tryd.ntmps43
      go_wp2_with (go_at_call 64; refine (isNaN_any _ _).mono ?_; rintro e w1 ⟨rfl, rfl⟩)
      go_ret
      exact ⟨ret_int (by rw [hc.out]), rfl⟩
  · have hc := Lib.hid (show cmpS a b = -1 by unfold cmpS; rw [h1]; rfl)
    go_enter Tryd.func43, Tryd.ntmps43
    go_wp2_with (go_at_call 64; refine (isNaN_any _ _).mono ?_; rintro e w1 ⟨rfl, rfl⟩)
    go_ret
    exact ⟨ret_int (by rw [hc.out]), rfl⟩

set_option maxRecDepth 100000 in
set_option maxHeartbeats 1000000 in
theorem row2_any (A : Option Addr) (c : Nat) (ls : List ByteArray) (g i j : Nat) (a b : ByteArray) (w : World) (hg : w.cell? ⟨g, 0, none⟩ = some (.slice A ls.length c)) (ha : ReadT w w.heap.size A ls) (hi : ls[i]? = some a) (hj : ls[j]? = some b) (_hl : ls.length ≤ 1000000) :
    Calls Tryd.prog 42 #[.int .i64 (i : Int), .int .i64 (j : Int), .pointer (some ⟨g, 0, none⟩)] w fun e w' => e = .returned (.int .i64 (cmpS a b)) ∧ ∃ q, w' = w.drewN q := by
  obtain ⟨b1, o1, rfl, hb1, c10⟩ := ReadL.str ha hi
  obtain ⟨_, _, he, _, c11⟩ := ReadL.str ha hj
  simp only [Option.some.injEq, Addr.mk.injEq, and_true] at he
  obtain ⟨rfl, rfl⟩ := he
  have hil := getq_lt hi
  have hjl := getq_lt hj
  clear hi hj
  go_enter Tryd.func42, Tryd.ntmps42
  go_wp2_with fail
  go_quiet (first
    | (go_at_call 43; go_loud (refine Calls.quiet_of_same ((compare_any _ _ _).mono fun e w1 h => ⟨h.1, h.2.symm⟩))))
  go_wp2_with fail
  go_ret
  exact ⟨rfl, _, rfl⟩
end Go.Proofs.YtblfeokjlecgkaaDoor
