/- The program's Same, Plain, Static, and the library's loops beneath. -/
import Derived.Test.YtblfeokjlecgkaaDoorSame
namespace Go.Proofs.YtblfeokjlecgkaaDoor
open Go.RowKit

theorem sameNd_dyn {x y : Nd} (hx : x.k = 0) (hy : y.k = 0) : sameNd x y = (x.s.toList == y.s.toList) := by
  unfold sameNd ndEq Nd.bare
  simp [hx, hy]

theorem sameNd_not {x y : Nd} (h : ¬ (x.k = 0 ∧ y.k = 0)) : sameNd x y = ndEq x y := by
  unfold sameNd ndEq Nd.bare
  by_cases hx : x.k = 0
  · have hy : ¬ y.k = 0 := fun hy => h ⟨hx, hy⟩
    have hy0 : ((0 : Int) == y.k) = false := by rw [beq_eq_false_iff_ne]; exact fun e => hy e.symm
    simp [hx, hy, hy0]
  · by_cases hy : y.k = 0
    · have hx0 : (x.k == (0 : Int)) = false := by rw [beq_eq_false_iff_ne]; exact hx
      simp [hx, hy, hx0]
    · simp [hx, hy]

set_option maxHeartbeats 1000000 in
theorem sameC_any (x y : Nd) (w : World) :
    Calls Tryd.prog 49 #[.agg #[.int .i64 x.k, .string x.s, .int .i64 x.n], .agg #[.int .i64 y.k, .string y.s, .int .i64 y.n]] w fun e w' => e = .returned (.bool (sameNd x y)) ∧ Below w.heap.size w w' := by
  by_cases h : x.k = 0 ∧ y.k = 0
  · have hx : (x.k == 0) = true := by simpa using h.1
    have hy : (y.k == 0) = true := by simpa using h.2
    have hfin := Lib.hid (sameNd_dyn h.1 h.2)
    clear h
    go_enter Tryd.func49, Tryd.ntmps49
    go_wp2_with fail
    go_ret
    exact ⟨ret_bool (by rw [hfin.out]), by repeat (first | exact Below.refl _ _ | refine ext_alloc ?_ _)⟩
  · have hfin := Lib.hid (sameNd_not h)
    have heq := run_eqNode x y
    simp only [Nd.val] at heq
    by_cases hx : (x.k == 0) = true
    · have hy : (y.k == 0) = false := by
        rw [beq_eq_false_iff_ne]; intro e; exact h ⟨by simpa using hx, e⟩
      clear h
      go_enter Tryd.func49, Tryd.ntmps49
      go_wp2_with fail
      go_ret
      exact ⟨ret_bool (by rw [hfin.out]), by repeat (first | exact Below.refl _ _ | refine ext_alloc ?_ _)⟩
    · have hx' : (x.k == 0) = false := by simpa using hx
      clear h hx
      go_enter Tryd.func49, Tryd.ntmps49
      go_wp2_with fail
      go_ret
      exact ⟨ret_bool (by rw [hfin.out]), by repeat (first | exact Below.refl _ _ | refine ext_alloc ?_ _)⟩

set_option maxRecDepth 100000 in
set_option maxHeartbeats 1000000 in
theorem equalFunc_any (A B : Option Addr) (c d : Nat) (xs ys : List Nd) (w : World) (ha : TyA w w.heap.size A xs) (hb : TyA w w.heap.size B ys)
    (hl : xs.length ≤ 9223372036854775807) :
    Calls Tryd.prog 48 #[.slice A xs.length c, .slice B ys.length d, .func (.func 49) #[] #[]] w fun e w' => e = .returned (.bool (sameB xs ys)) ∧ Below w.heap.size w w' := by
  by_cases hlen : xs.length = ys.length
  · rw [← hlen]
    have Hlen := Lib.hid hlen
    clear hlen
    go_enter Tryd.func48, Tryd.ntmps48
    go_wp2_with fail
    go_loopw [17] (fun i w' => ∃ k : Nat, k ≤ xs.length ∧ i = .int .i64 k ∧ Below w.heap.size w w' ∧ Hid (sameFrom xs ys k = sameB xs ys)) (fun i _ => xs.length - (intOf i).toNat)
    case atStart => exact ⟨0, Nat.zero_le _, rfl, Below.refl _ _, Lib.hid rfl⟩
    case round =>
      obtain ⟨k, hk, rfl, hbel, hgood⟩ := hrel
      by_cases hp : k < xs.length
      · obtain ⟨x, hx⟩ := getq_ex hp
        obtain ⟨y, hy⟩ := getq_ex (show k < ys.length by rw [← Hlen.out]; exact hp)
        have hp2 : k < ys.length := by rw [← Hlen.out]; exact hp
        have hstep := Lib.hid (sameFrom_step hx hy)
        obtain ⟨b1, o1, rfl, hb1, c10, c11, c12⟩ := ((ha.below hbel).more hbel.size).at_ hx
        obtain ⟨b2, o2, rfl, hb2, c20, c21, c22⟩ := ((hb.below hbel).more hbel.size).at_ hy
        have q1 : b1 < wr.heap.size + 1 := by omega
        have q2 : b2 < wr.heap.size + 1 := by omega
        clear hx hy
        cases he : sameNd x y
        all_goals
          have He := Lib.hid he
          clear he
          go_wp2_with (go_at_call 49; refine (sameC_any x y _).mono ?_; rintro e w1 ⟨rfl, hbx⟩; rw [He.out])
        · go_ret
          exact ⟨ret_bool (by rw [← hgood.out, hstep.out, He.out]; rfl), by repeat (first | exact hbel | refine ext_trans ?_ hbx | refine ext_alloc ?_ _ | refine ext_set ?_ (by simp; omega) _)⟩
        · go_roundw
          case rel => exact ⟨k + 1, hp, by go_num, (by repeat (first | exact hbel | refine ext_trans ?_ hbx | refine ext_alloc ?_ _ | refine ext_set ?_ (by simp; omega) _)), Lib.hid (by rw [← hgood.out, hstep.out, He.out, Bool.true_and])⟩
          case measure => simp [intOf]; omega
      · have hfin := Lib.hid (sameFrom_end Hlen.out hp)
        go_wp2_with fail
        go_ret
        exact ⟨ret_bool (by rw [← hgood.out, hfin.out]), hbel⟩
  · have hle : ((xs.length : Int) != (ys.length : Int)) = true := by simp; omega
    have hfin := Lib.hid (sameB_len hlen)
    clear hlen
    go_enter Tryd.func48, Tryd.ntmps48
    go_wp2_with fail
    go_ret
    exact ⟨ret_bool (by rw [hfin.out]), Below.refl _ _⟩

set_option maxHeartbeats 1000000 in
theorem same_any (A B : Option Addr) (c d : Nat) (xs ys : List Nd) (w : World) (ha : TyA w w.heap.size A xs) (hb : TyA w w.heap.size B ys)
    (hl : xs.length ≤ 9223372036854775807) :
    Calls Tryd.prog 20 #[.slice A xs.length c, .slice B ys.length d] w fun e w' => e = .returned (.bool (sameB xs ys)) ∧ Below w.heap.size w w' := by
  go_enter Tryd.func20, Tryd.ntmps20
  go_wp2_with (go_at_call 48; refine (equalFunc_any A B c d xs ys _ ha hb hl).mono ?_; rintro e w1 ⟨rfl, hbx⟩)
  go_ret
  exact ⟨rfl, hbx⟩

/-- A row of ints that does not change: block b holds them from place 0 on. -/
def Ints (w : World) (b : Nat) (l : List Int) : Prop := b < w.heap.size ∧ ∀ i n, l[i]? = some n → w.cell? ⟨b, i, none⟩ = some (.int .i64 n)

theorem Ints.below {w w' : World} {b : Nat} {l : List Int} (h : Ints w b l) {B : Nat} (hb : Below B w w') (hB : b < B) : Ints w' b l :=
  ⟨Nat.lt_of_lt_of_le h.1 hb.size, fun i n hn => (hb.cell (p := ⟨b, i, none⟩) hB).trans (h.2 i n hn)⟩

def anyFrom (l : List Int) (x : Int) (k : Nat) : Bool := (l.drop k).any fun y => x == y

theorem anyFrom_step {l : List Int} {x : Int} {k : Nat} {y : Int} (hy : l[k]? = some y) : anyFrom l x k = (x == y || anyFrom l x (k + 1)) := by
  unfold anyFrom
  rw [drop_cons hy, List.any_cons]

theorem anyFrom_end {l : List Int} {x : Int} {k : Nat} (h : ¬ k < l.length) : anyFrom l x k = false := by
  unfold anyFrom
  rw [List.drop_of_length_le (by omega)]
  rfl

/-- What an index that is found or not says. -/
def Found (p : Bool) (e : Ending) : Prop := ∃ i : Int, e = .returned (.int .i64 i) ∧ (p = true → 0 ≤ i) ∧ (p = false → i = -1)

set_option maxRecDepth 100000 in
set_option maxHeartbeats 1000000 in
theorem indexInts_any (b n c : Nat) (l : List Int) (x : Int) (w : World) (hi : Ints w b l) (hn : l.length = n) (hl : n ≤ 9223372036854775807) :
    Calls Tryd.prog 93 #[.slice (some ⟨b, 0, none⟩) n c, .int .i64 x] w fun e w' => Found (anyFrom l x 0) e ∧ w = w' := by
  have Hn := Lib.hid hn
  clear hn
  go_enter Tryd.func93, Tryd.ntmps93
  go_wp2_with fail
  go_loop [8] (fun i => ∃ k : Nat, k ≤ n ∧ i = .int .i64 k ∧ Hid (anyFrom l x k = anyFrom l x 0)) (fun i => n - (intOf i).toNat)
  case atStart => exact ⟨0, Nat.zero_le _, rfl, Lib.hid rfl⟩
  case round =>
    obtain ⟨k, hk, rfl, hgood⟩ := hrel
    by_cases hp : k < n
    · obtain ⟨y, hy⟩ := getq_ex (show k < l.length by rw [Hn.out]; exact hp)
      have hstep := Lib.hid (anyFrom_step (x := x) hy)
      have c1 := hi.2 k y hy
      clear hy
      cases he : (x == y)
      all_goals
        have He := Lib.hid he
        go_wp2_with fail
      · go_round
        case rel => exact ⟨k + 1, hp, by go_num, Lib.hid (by rw [← hgood.out, hstep.out, He.out, Bool.false_or])⟩
        case measure => simp [intOf]; omega
      · go_ret
        refine ⟨⟨_, rfl, fun _ => by omega, fun h => ?_⟩, rfl⟩
        rw [← hgood.out, hstep.out, He.out] at h
        cases h
    · have hend := Lib.hid (anyFrom_end (x := x) (show ¬ k < l.length by rw [Hn.out]; exact hp))
      go_wp2_with fail
      go_ret
      refine ⟨⟨_, rfl, fun h => ?_, fun _ => rfl⟩, rfl⟩
      rw [← hgood.out, hend.out] at h
      cases h

set_option maxHeartbeats 1000000 in
theorem containsInts_any (b n c : Nat) (l : List Int) (x : Int) (w : World) (hi : Ints w b l) (hn : l.length = n) (hl : n ≤ 9223372036854775807) :
    Calls Tryd.prog 73 #[.slice (some ⟨b, 0, none⟩) n c, .int .i64 x] w fun e w' => e = .returned (.bool (anyFrom l x 0)) ∧ w = w' := by
  have Hn := Lib.hid hn
  clear hn
  cases hp : anyFrom l x 0
  all_goals
    have Hp := Lib.hid hp
    go_enter Tryd.func73, Tryd.ntmps73
    go_wp2_with (go_at_call 93; refine (indexInts_any b n c l x _ hi Hn.out hl).mono ?_; rintro e w' ⟨⟨i, rfl, h1, h2⟩, rfl⟩; have H1 := Lib.hid h1; have H2 := Lib.hid h2; clear h1 h2)
    go_ret
  · exact ⟨ret_bool (by rw [H2.out Hp.out]; rfl), rfl⟩
  · exact ⟨ret_bool (by have := H1.out Hp.out; simpa using this), rfl⟩

set_option maxHeartbeats 1000000 in
theorem noneC_any (x : Nd) (g b n c : Nat) (l : List Int) (w : World) (hg : w.cell? ⟨g, 0, none⟩ = some (.slice (some ⟨b, 0, none⟩) n c)) (hi : Ints w b l) (hgl : g < w.heap.size) (hn : l.length = n) (hl : n ≤ 9223372036854775807) :
    Calls Tryd.prog 72 #[.agg #[.int .i64 x.k, .string x.s, .int .i64 x.n], .pointer (some ⟨g, 0, none⟩)] w fun e w' => e = .returned (.bool (anyFrom l x.k 0)) ∧ Below w.heap.size w w' := by
  have Hn := Lib.hid hn
  clear hn
  go_enter Tryd.func72, Tryd.ntmps72
  go_wp2_with (go_at_call 73; refine (containsInts_any b n c l x.k _ (hi.below (ext_alloc (Below.refl _ _) _) hi.1) Hn.out hl).mono ?_; rintro e w' ⟨rfl, rfl⟩)
  go_ret
  exact ⟨rfl, ext_alloc (Below.refl _ _) _⟩
end Go.Proofs.YtblfeokjlecgkaaDoor
