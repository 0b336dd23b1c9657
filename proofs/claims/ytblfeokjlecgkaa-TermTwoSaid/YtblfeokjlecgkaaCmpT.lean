/- byLabel, and the function value that asks whether two labels are one. -/
import Derived.Test.YtblfeokjlecgkaaSort
import Derived.Test.YtblfeokjlecgkaaTKids
namespace Go.Proofs.Ytblfeokjlecgkaa
open Go.RowKit

set_option maxRecDepth 100000 in
set_option maxHeartbeats 1000000 in
theorem byLabel_any (A1 A2 : Option Addr) (n1 n2 c1 c2 B : Nat) (t1 t2 : List Nd) (x y : Nd) (w : World) (h1 : TyA w B A1 t1) (h2 : TyA w B A2 t2) (hx : t1[0]? = some x) (hy : t2[0]? = some y) (l1 : t1.length = n1) (l2 : t2.length = n2) :
    Calls Try.prog 87 #[.slice A1 n1 c1, .slice A2 n2 c2] w fun e w' => e = .returned (.int .i64 (cmpS x.s y.s)) ∧ ∃ q, w' = w.drewN q := by
  obtain ⟨b1, o1, rfl, hb1, c10, c11, c12⟩ := h1.at_ hx
  obtain ⟨b2, o2, rfl, hb2, d10, d11, d12⟩ := h2.at_ hy
  have hx0 : 0 < n1 := by have := getq_lt hx; omega
  have hy0 : 0 < n2 := by have := getq_lt hy; omega
  simp only [Nat.zero_mul, Nat.add_zero] at c10 c11 c12 d10 d11 d12
  clear hx hy l1 l2
  go_enter Try.func87, Try.ntmps87
  go_wp2_with fail
  go_quiet (first
    | (go_at_call 135; refine Calls.quiet_of_same ((compare_any _ _ _).mono fun e w1 h => ⟨h.1, h.2.symm⟩)))
  go_wp2_with fail
  go_ret
  exact ⟨rfl, _, rfl⟩

theorem cmpS_zero (a b : ByteArray) : (cmpS a b == 0) = decide (a = b) := by
  unfold cmpS
  by_cases h : a = b
  · subst h
    have := ltB_irrefl a
    unfold ltB at this
    simp [this]
  · have hne : (a.toList == b.toList) = false := by
      rw [beq_eq_false_iff_ne, ByteArray.toList_eq, ByteArray.toList_eq]
      intro e
      exact h (by obtain ⟨⟨l⟩⟩ := a; obtain ⟨⟨l'⟩⟩ := b; simp only at e; rw [e])
    rw [hne]
    split <;> simp [h]

set_option maxRecDepth 100000 in
set_option maxHeartbeats 1000000 in
theorem same_label_any (A1 A2 : Option Addr) (n1 n2 c1 c2 B g : Nat) (t1 t2 : List Nd) (x y : Nd) (w : World) (h1 : TyA w B A1 t1) (h2 : TyA w B A2 t2) (hx : t1[0]? = some x) (hy : t2[0]? = some y) (l1 : t1.length = n1) (l2 : t2.length = n2)
    (hg : w.cell? ⟨g, 0, none⟩ = some (.func (.func 87) #[] #[])) :
    Calls Try.prog 134 #[.slice A1 n1 c1, .slice A2 n2 c2, .pointer (some ⟨g, 0, none⟩)] w fun e w' => e = .returned (.bool (decide (x.s = y.s))) ∧ ∃ q, w' = w.drewN q := by
  have Hc := Lib.hid (byLabel_any A1 A2 n1 n2 c1 c2 B t1 t2 x y w h1 h2 hx hy l1 l2)
  have hz := cmpS_zero x.s y.s
  clear h1 h2 hx hy l1 l2
  cases hd : decide (x.s = y.s)
  all_goals
    rw [hd] at hz
    clear hd
    go_enter Try.func134, Try.ntmps134
    go_wp2_with fail
    refine Hc.out.mono ?_
    rintro e w1 ⟨rfl, q, rfl⟩
    go_wp2_with fail
    go_ret
    exact ⟨rfl, q, rfl⟩
end Go.Proofs.Ytblfeokjlecgkaa
