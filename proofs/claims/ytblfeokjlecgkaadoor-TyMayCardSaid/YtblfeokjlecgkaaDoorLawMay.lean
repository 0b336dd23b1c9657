/- TyMay's law, walked. -/
import Derived.Test.YtblfeokjlecgkaaDoorAlive
import Derived.Test.YtblfeokjlecgkaaDoorTyNone
import Derived.Test.YtblfeokjlecgkaaDoorRRight
namespace Go.Proofs.YtblfeokjlecgkaaDoor
open Go.RowKit

set_option maxRecDepth 100000 in
set_option maxHeartbeats 4000000 in
theorem tyMay_any (A B : Option Addr) (ca cb : Nat) (a b : List Nd) (w : World) (ta : TyA w w.heap.size A a) (tb : TyA w w.heap.size B b) (la : a.length ≤ 9223372036854775807) (lb : b.length ≤ 9223372036854775807) (oa : ∀ x ∈ a, x.Ok) (ht : Tab w w.heap.size) :
    Calls Tryd.prog 6 #[.slice A a.length ca, .slice B b.length cb] w fun e w' => e = .returned (.bool true) ∧ Below w.heap.size w w' := by
  have Hoa := Lib.hid fun x hx => (oa x hx).s1
  clear oa
  cases hna : namedB a
  · have Hna := Lib.hid hna
    clear hna
    go_enter Tryd.func6, Tryd.ntmps6
    go_wp2_with (first
      | (go_at_call 11; refine (named_any A ca _ a _ ta la).mono ?_; rintro e w1 ⟨rfl, rfl⟩; rw [Hna.out])
      | (go_at_call 10; refine (alive_any _ ht).mono ?_; rintro e w2 ⟨rfl, hb⟩))
    go_ret
    exact ⟨rfl, hb⟩
  · have Hna := Lib.hid hna
    clear hna
    cases hnb : namedB b
    · have Hnb := Lib.hid hnb
      clear hnb
      go_enter Tryd.func6, Tryd.ntmps6
      go_wp2_with fail
      refine (named_any A ca _ a _ ta la).mono ?_
      rintro e w1 ⟨rfl, rfl⟩
      rw [Hna.out]
      go_wp2_with fail
      refine (named_any B cb _ b _ tb lb).mono ?_
      rintro e w1 ⟨rfl, rfl⟩
      rw [Hnb.out]
      go_wp2_with fail
      refine (alive_any _ ht).mono ?_
      rintro e w2 ⟨rfl, hb⟩
      go_wp2_with fail
      go_ret
      exact ⟨rfl, hb⟩
    · have Hnb := Lib.hid hnb
      clear hnb
      have Heq := Lib.hid (right_eq a)
      go_enter Tryd.func6, Tryd.ntmps6
      go_wp2_with fail
      refine (named_any A ca _ a _ ta la).mono ?_
      rintro e w1 ⟨rfl, rfl⟩
      rw [Hna.out]
      go_wp2_with fail
      refine (named_any B cb _ b _ tb lb).mono ?_
      rintro e w1 ⟨rfl, rfl⟩
      rw [Hnb.out]
      go_wp2_with fail
      refine (alive_any _ ht).mono ?_
      rintro e w2 ⟨rfl, hb⟩
      have ta2 := (ta.below hb).more hb.size
      have tb2 := (tb.below hb).more hb.size
      go_wp2_with fail
      refine (right_any A ca a w2 ta2 la Hoa.out).mono ?_
      rintro e w3 ⟨rfl, hb3⟩
      have ta3 := (ta2.below hb3).more hb3.size
      go_wp2_with fail
      refine (rRight_any A ca a w3 ta3 la Hoa.out).mono ?_
      rintro e w4 ⟨rfl, hb4⟩
      rw [Heq.out]
      have hb24 := ext_trans hb3 hb4
      have ta4 := (ta2.below hb24).more hb24.size
      go_wp2_with fail
      refine (plain_any A ca a w4 ta4 la).mono ?_
      rintro e w5 ⟨rfl, hb5⟩
      have ta5 := (ta4.below hb5).more hb5.size
      go_wp2_with fail
      refine (rPlain_any A ca _ a w5 ta5 la).mono ?_
      rintro e w6 ⟨rfl, rfl⟩
      go_wp2_with fail
      refine (static_any A ca a w5 ta5 la).mono ?_
      rintro e w7 ⟨rfl, hb7⟩
      have ta7 := (ta5.below hb7).more hb7.size
      go_wp2_with fail
      refine (rStatic_any A ca _ a w7 ta7 la).mono ?_
      rintro e w8 ⟨rfl, rfl⟩
      have hb27 := ext_trans (ext_trans hb24 hb5) hb7
      have tb7 := (tb2.below hb27).more hb27.size
      go_wp2_with fail
      refine (same_any A B ca cb a b w7 ta7 tb7 la).mono ?_
      rintro e w9 ⟨rfl, hb9⟩
      go_wp2_with fail
      refine (rSame_any A B ca cb a b w9 ((ta7.below hb9).more hb9.size) ((tb7.below hb9).more hb9.size) la).mono ?_
      rintro e w10 ⟨rfl, hb10⟩
      go_wp2_with fail
      go_ret
      exact ⟨ret_bool (by simp), ext_trans (ext_trans (ext_trans hb hb27) hb9) hb10⟩

theorem tyMay_law (A B : Option Addr) (ca cb : Nat) (a b : List Nd) (w : World) (ta : TyA w w.heap.size A a) (tb : TyA w w.heap.size B b) (_ : a.length ≤ ca) (_ : b.length ≤ cb) (la : a.length ≤ 9223372036854775807) (lb : b.length ≤ 9223372036854775807) (oa : ∀ x ∈ a, x.Ok) (_ : ∀ x ∈ b, x.Ok) (ht : Tab w w.heap.size) :
    Calls Tryd.prog 6 #[.slice A a.length ca, .slice B b.length cb] w fun e w' => e = .returned (.bool true) ∧ Below w.heap.size w w' := tyMay_any A B ca cb a b w ta tb la lb oa ht
end Go.Proofs.YtblfeokjlecgkaaDoor
