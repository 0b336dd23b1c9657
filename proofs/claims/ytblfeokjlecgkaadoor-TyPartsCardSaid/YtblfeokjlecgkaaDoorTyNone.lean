/- The program's Plain and Static. -/
import Derived.Test.YtblfeokjlecgkaaDoorTyRead
namespace Go.Proofs.YtblfeokjlecgkaaDoor
open Go.RowKit

def hasFrom (l : List Int) (xs : List Nd) (k : Nat) : Bool := (xs.drop k).any fun x => anyFrom l x.k 0

theorem hasFrom_step {l : List Int} {xs : List Nd} {k : Nat} {x : Nd} (hx : xs[k]? = some x) : hasFrom l xs k = (anyFrom l x.k 0 || hasFrom l xs (k + 1)) := by
  unfold hasFrom
  rw [drop_cons hx, List.any_cons]

theorem hasFrom_end {l : List Int} {xs : List Nd} {k : Nat} (h : ¬ k < xs.length) : hasFrom l xs k = false := by
  unfold hasFrom
  rw [List.drop_of_length_le (by omega)]
  rfl

set_option maxRecDepth 100000 in
set_option maxHeartbeats 1000000 in
theorem indexFuncTy_any (A : Option Addr) (c : Nat) (xs : List Nd) (g b n cc : Nat) (l : List Int) (w : World) (ha : TyA w w.heap.size A xs)
    (hg : w.cell? ⟨g, 0, none⟩ = some (.slice (some ⟨b, 0, none⟩) n cc)) (hi : Ints w b l) (hgl : g < w.heap.size) (hn : l.length = n) (hl : xs.length ≤ 9223372036854775807) (hl2 : n ≤ 9223372036854775807) :
    Calls Tryd.prog 92 #[.slice A xs.length c, .func (.func 72) #[] #[.pointer (some ⟨g, 0, none⟩)]] w fun e w' => Found (hasFrom l xs 0) e ∧ Below w.heap.size w w' := by
  have Hn := Lib.hid hn
  clear hn
  have Hg := Lib.hid hg
  clear hg
  go_enter Tryd.func92, Tryd.ntmps92
  go_wp2_with fail
  go_loopw [8] (fun i w' => ∃ k : Nat, k ≤ xs.length ∧ i = .int .i64 k ∧ Below w.heap.size w w' ∧ Hid (hasFrom l xs k = hasFrom l xs 0)) (fun i _ => xs.length - (intOf i).toNat)
  case atStart => exact ⟨0, Nat.zero_le _, rfl, Below.refl _ _, Lib.hid rfl⟩
  case round =>
    obtain ⟨k, hk, rfl, hbel, hgood⟩ := hrel
    by_cases hp : k < xs.length
    · obtain ⟨x, hx⟩ := getq_ex hp
      have hstep := Lib.hid (hasFrom_step (l := l) hx)
      obtain ⟨b1, o1, rfl, hb1, c10, c11, c12⟩ := ((ha.below hbel).more hbel.size).at_ hx
      have hg' := Lib.hid ((hbel.cell (p := ⟨g, 0, none⟩) hgl).trans Hg.out)
      have hi' := hi.below hbel hi.1
      have hgl' : g < wr.heap.size := Nat.lt_of_lt_of_le hgl hbel.size
      clear hx
      cases he : anyFrom l x.k 0
      all_goals
        have He := Lib.hid he
        clear he
        go_wp2_with (go_at_call 72; refine (noneC_any x g b n cc l _ hg'.out hi' hgl' Hn.out hl2).mono ?_; rintro e w1 ⟨rfl, hbx⟩; rw [He.out])
      · go_roundw
        case rel => exact ⟨k + 1, hp, by go_num, ext_trans hbel hbx, Lib.hid (by rw [← hgood.out, hstep.out, He.out, Bool.false_or])⟩
        case measure => simp [intOf]; omega
      · go_ret
        refine ⟨⟨_, rfl, fun _ => by omega, fun h => ?_⟩, ext_trans hbel hbx⟩
        rw [← hgood.out, hstep.out, He.out] at h
        cases h
    · have hend := Lib.hid (hasFrom_end (l := l) hp)
      go_wp2_with fail
      go_ret
      refine ⟨⟨_, rfl, fun h => ?_, fun _ => rfl⟩, hbel⟩
      rw [← hgood.out, hend.out] at h
      cases h

set_option maxHeartbeats 1000000 in
theorem containsFuncTy_any (A : Option Addr) (c : Nat) (xs : List Nd) (g b n cc : Nat) (l : List Int) (w : World) (ha : TyA w w.heap.size A xs)
    (hg : w.cell? ⟨g, 0, none⟩ = some (.slice (some ⟨b, 0, none⟩) n cc)) (hi : Ints w b l) (hgl : g < w.heap.size) (hn : l.length = n) (hl : xs.length ≤ 9223372036854775807) (hl2 : n ≤ 9223372036854775807) :
    Calls Tryd.prog 71 #[.slice A xs.length c, .func (.func 72) #[] #[.pointer (some ⟨g, 0, none⟩)]] w fun e w' => e = .returned (.bool (hasFrom l xs 0)) ∧ Below w.heap.size w w' := by
  have Hg := Lib.hid hg
  clear hg
  have Hn := Lib.hid hn
  clear hn
  cases hp : hasFrom l xs 0
  all_goals
    have Hp := Lib.hid hp
    go_enter Tryd.func71, Tryd.ntmps71
    go_wp2_with (go_at_call 92; refine (indexFuncTy_any A c xs g b n cc l _ ha Hg.out hi hgl Hn.out hl hl2).mono ?_; rintro e w1 ⟨⟨i, rfl, h1, h2⟩, hbx⟩; have H1 := Lib.hid h1; have H2 := Lib.hid h2; clear h1 h2)
    go_ret
  · exact ⟨ret_bool (by rw [H2.out Hp.out]; rfl), hbx⟩
  · exact ⟨ret_bool (by have := H1.out Hp.out; simpa using this), hbx⟩

set_option maxHeartbeats 1000000 in
theorem none_any (A : Option Addr) (c : Nat) (xs : List Nd) (b n cc : Nat) (l : List Int) (w : World) (ha : TyA w w.heap.size A xs)
    (hi : Ints w b l) (hn : l.length = n) (hl : xs.length ≤ 9223372036854775807) (hl2 : n ≤ 9223372036854775807) :
    Calls Tryd.prog 53 #[.slice A xs.length c, .slice (some ⟨b, 0, none⟩) n cc] w fun e w' => e = .returned (.bool (!hasFrom l xs 0)) ∧ Below w.heap.size w w' := by
  have Hn := Lib.hid hn
  clear hn
  have H1 := ext_alloc (Below.refl w.heap.size w) (.cells #[.slice (some ⟨b, 0, none⟩) n cc] 42)
  have ha' := ((ha.below H1).more H1.size)
  have hi' := hi.below H1 hi.1
  go_enter Tryd.func53, Tryd.ntmps53
  go_wp2_with (go_at_call 71; refine (containsFuncTy_any A c xs w.heap.size b n cc l _ ha' (by simp) hi' (by simp) Hn.out hl hl2).mono ?_; rintro e w1 ⟨rfl, hbx⟩)
  go_ret
  exact ⟨rfl, ext_trans H1 hbx⟩

theorem hasFrom_plain (xs : List Nd) : (!hasFrom [8, 9] xs 0) = plainB xs := by
  unfold hasFrom plainB anyFrom isVarB
  rw [List.drop_zero]
  induction xs with
  | nil => rfl
  | cons x xs ih => rw [List.any_cons, List.all_cons, Bool.not_or, ih]; simp

theorem hasFrom_static (xs : List Nd) : (!hasFrom [0] xs 0) = staticB xs := by
  unfold hasFrom staticB anyFrom
  rw [List.drop_zero]
  induction xs with
  | nil => rfl
  | cons x xs ih => rw [List.any_cons, List.all_cons, Bool.not_or, ih]; simp

set_option maxHeartbeats 1000000 in
theorem plain_any (A : Option Addr) (c : Nat) (xs : List Nd) (w : World) (ha : TyA w w.heap.size A xs) (hl : xs.length ≤ 9223372036854775807) :
    Calls Tryd.prog 22 #[.slice A xs.length c] w fun e w' => e = .returned (.bool (plainB xs)) ∧ Below w.heap.size w w' := by
  have H1 := ext_alloc (Below.refl w.heap.size w) (.cells #[.int .i64 8, .int .i64 9] 3)
  have ha' := ((ha.below H1).more H1.size)
  have hi' : Ints (w.alloc (.cells #[.int .i64 8, .int .i64 9] 3)) w.heap.size [8, 9] := ⟨by simp, fun i n hn => by
    match i, hn with
    | 0, hn => simp at hn; subst hn; simp
    | 1, hn => simp at hn; subst hn; simp
    | i + 2, hn => simp at hn⟩
  have Hh := Lib.hid (hasFrom_plain xs)
  go_enter Tryd.func22, Tryd.ntmps22
  go_wp2_with (go_at_call 53; refine (none_any A c xs w.heap.size 2 _ [8, 9] _ ha' hi' rfl hl (by omega)).mono ?_; rintro e w1 ⟨rfl, hbx⟩; rw [Hh.out])
  go_ret
  exact ⟨rfl, ext_trans H1 hbx⟩

set_option maxHeartbeats 1000000 in
theorem static_any (A : Option Addr) (c : Nat) (xs : List Nd) (w : World) (ha : TyA w w.heap.size A xs) (hl : xs.length ≤ 9223372036854775807) :
    Calls Tryd.prog 23 #[.slice A xs.length c] w fun e w' => e = .returned (.bool (staticB xs)) ∧ Below w.heap.size w w' := by
  have H1 := ext_alloc (Below.refl w.heap.size w) (.cells #[.int .i64 0] 3)
  have ha' := ((ha.below H1).more H1.size)
  have hi' : Ints (w.alloc (.cells #[.int .i64 0] 3)) w.heap.size [0] := ⟨by simp, fun i n hn => by
    match i, hn with
    | 0, hn => simp at hn; subst hn; simp
    | i + 1, hn => simp at hn⟩
  have Hh := Lib.hid (hasFrom_static xs)
  go_enter Tryd.func23, Tryd.ntmps23
  go_wp2_with (go_at_call 53; refine (none_any A c xs w.heap.size 1 _ [0] _ ha' hi' rfl hl (by omega)).mono ?_; rintro e w1 ⟨rfl, hbx⟩; rw [Hh.out])
  go_ret
  exact ⟨rfl, ext_trans H1 hbx⟩

end Go.Proofs.YtblfeokjlecgkaaDoor
