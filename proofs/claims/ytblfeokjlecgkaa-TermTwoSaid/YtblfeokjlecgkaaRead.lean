/- Functions that read slices of nodes, each by its contract. -/
import Derived.Test.YtblfeokjlecgkaaWordsR
namespace Go.Proofs.Ytblfeokjlecgkaa
open Go.RowKit

/-- Go's == on two nodes. -/
def ndEq (x y : Nd) : Bool := x.k == y.k && x.s.toList == y.s.toList && x.n == y.n

theorem ndEq_iff (x y : Nd) : ndEq x y = true ↔ x = y := by
  obtain ⟨k, s, n⟩ := x
  obtain ⟨k', s', n'⟩ := y
  simp only [ndEq, Bool.and_eq_true, beq_iff_eq, Nd.mk.injEq]
  rw [ByteArray.toList_eq, ByteArray.toList_eq]
  obtain ⟨⟨l⟩⟩ := s
  obtain ⟨⟨l'⟩⟩ := s'
  simp [and_assoc]

theorem eqNode (d : Nat) (x y : Nd) (w : World) :
    (Op.equalIn (d + 2) 48 x.val y.val).run Try.prog w = .ok (ndEq x y) w := by
  have u3 := Try.underlying3
  have u9 := Try.underlying9
  have a3 := Try.isAgg3
  have z3 := Try.sizeOf3
  have a9 := Try.isAgg9
  have z9 := Try.sizeOf9
  have hS : Try.prog.underlying 48 = some (.struct (Try.prog.fieldsOf 48)) := by kernel_rfl
  have hp : Try.prog.stoodInHeld 48 = false := by kernel_rfl
  unfold Nd.val
  rw [run_equalIn_agg w (d + 1) 48 _ _ hS hp]
  simp only [Program.fieldsOf, Try.underlying48]
  go_simp
  by_cases h1 : x.k = y.k <;> by_cases h2 : x.s.toList = y.s.toList <;> by_cases h3 : x.n = y.n <;> simp [ndEq, h1, h2, h3]

theorem run_neNode (x y : Nd) (w : World) : (binOp .neq 48 x.val y.val).run Try.prog w = .ok (.bool (!ndEq x y)) w := by
  unfold Nd.val
  rw [run_neq_struct, show (10000 : Nat) = 9998 + 2 from rfl]
  have := eqNode 9998 x y w
  unfold Nd.val at this
  rw [this]
  rfl

theorem run_eqNode (x y : Nd) (w : World) : (binOp .eql 48 x.val y.val).run Try.prog w = .ok (.bool (ndEq x y)) w := by
  unfold Nd.val
  rw [run_eql_struct, show (10000 : Nat) = 9998 + 2 from rfl]
  have := eqNode 9998 x y w
  unfold Nd.val at this
  rw [this]
  rfl

theorem drop_eq_succ {xs ys : List Nd} {k : Nat} {x y : Nd} (hx : xs[k]? = some x) (hy : ys[k]? = some y) :
    decide (xs.drop k = ys.drop k) = (ndEq x y && decide (xs.drop (k + 1) = ys.drop (k + 1))) := by
  have h1 : xs.drop k = x :: xs.drop (k + 1) := by
    have hl := getq_lt hx
    rw [List.drop_eq_getElem_cons hl]
    rw [List.getElem?_eq_getElem hl] at hx
    injection hx with hx
    rw [hx]
  have h2 : ys.drop k = y :: ys.drop (k + 1) := by
    have hl := getq_lt hy
    rw [List.drop_eq_getElem_cons hl]
    rw [List.getElem?_eq_getElem hl] at hy
    injection hy with hy
    rw [hy]
  rw [h1, h2, Bool.eq_iff_iff]
  simp [ndEq_iff]

set_option maxHeartbeats 1000000 in
theorem one_any (A B : Option Addr) (c d Ba Bb : Nat) (xs ys : List Nd) (w : World) (ha : TyA w Ba A xs) (hb : TyA w Bb B ys)
    (hl : xs.length ≤ 9223372036854775807) :
    Calls Try.prog 30 #[.slice A xs.length c, .slice B ys.length d] w fun e w' => e = .returned (.bool (decide (xs = ys))) ∧ ∃ n, w' = w.drewN n := by
  by_cases hlen : xs.length = ys.length
  · rw [← hlen]
    have Hlen := Lib.hid hlen
    clear hlen
    go_enter Try.func30, Try.ntmps30
    go_wp2_with fail
    go_loopw [5] (fun i w' => ∃ k n : Nat, k ≤ xs.length ∧ i = .int .i64 k ∧ w' = w.drewN n ∧ Hid (decide (xs.drop k = ys.drop k) = decide (xs = ys))) (fun i _ => xs.length - (intOf i).toNat)
    case atStart => exact ⟨0, 0, Nat.zero_le _, rfl, rfl, Lib.hid rfl⟩
    case round =>
      obtain ⟨k, n, hk, rfl, rfl, hgood⟩ := hrel
      by_cases hp : k < xs.length
      · obtain ⟨x, hx⟩ := getq_ex hp
        obtain ⟨y, hy⟩ := getq_ex (show k < ys.length by rw [← Hlen.out]; exact hp)
        have hstep := Lib.hid (drop_eq_succ hx hy)
        obtain ⟨b1, o1, rfl, hb1, c10, c11, c12⟩ := ha.at_ hx
        obtain ⟨b2, o2, rfl, hb2, c20, c21, c22⟩ := hb.at_ hy
        have hne := run_neNode x y
        unfold Nd.val at hne
        have Hx := Lib.hid hx
        have Hy := Lib.hid hy
        clear hx hy
        cases he : ndEq x y
        all_goals
          have He := Lib.hid he
          rw [he] at hne
          clear he
          go_wp2_with fail
          go_quiet (fail)
          go_wp2_with fail
        · go_ret
          exact ⟨ret_bool (by rw [← hgood.out, hstep.out, He.out]; rfl), _, World.drewN_drewN ..⟩
        · go_roundw
          case rel => exact ⟨k + 1, _, hp, by go_num, rfl, Lib.hid (by rw [← hgood.out, hstep.out, He.out, Bool.true_and])⟩
          case measure => simp [intOf]; omega
      · have hfin := Lib.hid (show decide (xs.drop k = ys.drop k) = true by
          have := Hlen.out
          rw [List.drop_of_length_le (by omega), List.drop_of_length_le (by omega)]
          simp)
        go_wp2_with fail
        go_ret
        exact ⟨ret_bool (by rw [← hgood.out, hfin.out]), _, rfl⟩
  · have hle : ((xs.length : Int) != (ys.length : Int)) = true := by simp; omega
    have hfin := Lib.hid (show decide (xs = ys) = false by simp; rintro rfl; exact hlen rfl)
    clear hlen
    go_enter Try.func30, Try.ntmps30
    go_wp2_with fail
    go_ret
    exact ⟨ret_bool (by rw [hfin.out]), 0, rfl⟩

def allFrom (p : Nd → Bool) (xs : List Nd) (k : Nat) : Bool := (xs.drop k).all p

theorem allFrom_step {p : Nd → Bool} {xs : List Nd} {k : Nat} {x : Nd} (hx : xs[k]? = some x) : allFrom p xs k = (p x && allFrom p xs (k + 1)) := by
  have hl := getq_lt hx
  unfold allFrom
  rw [List.drop_eq_getElem_cons hl, List.all_cons]
  rw [List.getElem?_eq_getElem hl] at hx
  injection hx with hx
  rw [hx]

theorem allFrom_end {p : Nd → Bool} {xs : List Nd} {k : Nat} (h : ¬ k < xs.length) : allFrom p xs k = true := by
  unfold allFrom
  rw [List.drop_of_length_le (by omega)]
  rfl

/-- At most 200 nodes, with labels of at most 200 bytes. -/
def namedB (xs : List Nd) : Bool := decide (xs.length ≤ 200) && xs.all fun x => decide (x.s.size ≤ 200)
def plainB (xs : List Nd) : Bool := xs.all fun x => !isVarB x.k
def staticB (xs : List Nd) : Bool := xs.all fun x => !(x.k == 0)

set_option maxRecDepth 100000 in
set_option maxHeartbeats 1000000 in
theorem rPlain_any (A : Option Addr) (c Ba : Nat) (xs : List Nd) (w : World) (ha : TyA w Ba A xs) (hl : xs.length ≤ 9223372036854775807) :
    Calls Try.prog 49 #[.slice A xs.length c] w fun e w' => e = .returned (.bool (plainB xs)) ∧ w = w' := by
  go_enter Try.func49, Try.ntmps49
  go_wp2_with fail
  go_loop [3] (fun i => ∃ k : Nat, k ≤ xs.length ∧ i = .int .i64 k ∧ Hid (allFrom (fun x => !isVarB x.k) xs k = plainB xs)) (fun i => xs.length - (intOf i).toNat)
  case atStart => exact ⟨0, Nat.zero_le _, rfl, Lib.hid rfl⟩
  case round =>
    obtain ⟨k, hk, rfl, hgood⟩ := hrel
    by_cases hp : k < xs.length
    · obtain ⟨x, hx⟩ := getq_ex hp
      have hstep := Lib.hid (allFrom_step (p := fun x => !isVarB x.k) hx)
      obtain ⟨b1, o1, rfl, hb1, c10, c11, c12⟩ := ha.at_ hx
      clear hx
      by_cases h8 : x.k = 8
      · have h8b : (x.k == 8) = true := by simpa using h8
        have H8 := Lib.hid h8
        clear h8
        go_wp2_with fail
        go_ret
        exact ⟨ret_bool (by rw [← hgood.out, hstep.out]; simp [isVarB, H8.out]), rfl⟩
      · have h8b : (x.k == 8) = false := by simpa using h8
        by_cases h9 : x.k = 9
        · have h9b : (x.k == 9) = true := by simpa using h9
          have H9 := Lib.hid h9
          clear h9 h8
          go_wp2_with fail
          go_ret
          exact ⟨ret_bool (by rw [← hgood.out, hstep.out]; simp [isVarB, H9.out]), rfl⟩
        · have h9b : (x.k == 9) = false := by simpa using h9
          go_wp2_with fail
          go_round
          case rel => exact ⟨k + 1, hp, by go_num, Lib.hid (by rw [← hgood.out, hstep.out]; simp [isVarB, h8b, h9b])⟩
          case measure => simp [intOf]; omega
    · have hend := Lib.hid (allFrom_end (p := fun x => !isVarB x.k) hp)
      go_wp2_with fail
      go_ret
      exact ⟨ret_bool (by rw [← hgood.out, hend.out]), rfl⟩

set_option maxRecDepth 100000 in
set_option maxHeartbeats 1000000 in
theorem rStatic_any (A : Option Addr) (c Ba : Nat) (xs : List Nd) (w : World) (ha : TyA w Ba A xs) (hl : xs.length ≤ 9223372036854775807) :
    Calls Try.prog 27 #[.slice A xs.length c] w fun e w' => e = .returned (.bool (staticB xs)) ∧ w = w' := by
  go_enter Try.func27, Try.ntmps27
  go_wp2_with fail
  go_loop [3] (fun i => ∃ k : Nat, k ≤ xs.length ∧ i = .int .i64 k ∧ Hid (allFrom (fun x => !(x.k == 0)) xs k = staticB xs)) (fun i => xs.length - (intOf i).toNat)
  case atStart => exact ⟨0, Nat.zero_le _, rfl, Lib.hid rfl⟩
  case round =>
    obtain ⟨k, hk, rfl, hgood⟩ := hrel
    by_cases hp : k < xs.length
    · obtain ⟨x, hx⟩ := getq_ex hp
      have hstep := Lib.hid (allFrom_step (p := fun x => !(x.k == 0)) hx)
      obtain ⟨b1, o1, rfl, hb1, c10, c11, c12⟩ := ha.at_ hx
      clear hx
      cases h8 : (x.k == 0)
      all_goals
        have H8 := Lib.hid h8
        go_wp2_with fail
      · go_round
        case rel => exact ⟨k + 1, hp, by go_num, Lib.hid (by rw [← hgood.out, hstep.out, H8.out]; rfl)⟩
        case measure => simp [intOf]; omega
      · go_ret
        exact ⟨ret_bool (by rw [← hgood.out, hstep.out, H8.out]; rfl), rfl⟩
    · have hend := Lib.hid (allFrom_end (p := fun x => !(x.k == 0)) hp)
      go_wp2_with fail
      go_ret
      exact ⟨ret_bool (by rw [← hgood.out, hend.out]), rfl⟩
end Go.Proofs.Ytblfeokjlecgkaa
