/- The program's Right. -/
import Derived.Test.YtblfeokjlecgkaaRightP
import Derived.Laws.EntriesVeiled
namespace Go.Proofs.Ytblfeokjlecgkaa
open Go.RowKit

def rootOk : List Nd → Bool
  | [] => false
  | x :: _ => decide (x.s.size = 0) && !(x.k == 9)

/-- Whether nodes are a type. -/
def rightB (xs : List Nd) : Bool := decide (xs.length ≤ 10000) && rootOk xs && decide (treeP xs 100 0 = some xs.length)

theorem renv_made (w : World) (A : Option Addr) (xs : List Nd) (c : Nat) (ha : TyA w w.heap.size A xs) :
    REnv (((w.alloc (.cells #[.slice A xs.length c] 34)).alloc (.cells #[.int .i64 0] 3)).alloc (.cells #[.func (.func 123) #[] #[.pointer (some ⟨w.heap.size + 1, 0, none⟩), .pointer (some ⟨w.heap.size, 0, none⟩), .pointer (some ⟨w.heap.size + 1 + 1, 0, none⟩)]] 145)) (w.heap.size + 1) w.heap.size (w.heap.size + 1 + 1) A xs.length c ∧
    (((w.alloc (.cells #[.slice A xs.length c] 34)).alloc (.cells #[.int .i64 0] 3)).alloc (.cells #[.func (.func 123) #[] #[.pointer (some ⟨w.heap.size + 1, 0, none⟩), .pointer (some ⟨w.heap.size, 0, none⟩), .pointer (some ⟨w.heap.size + 1 + 1, 0, none⟩)]] 145)).heap[w.heap.size + 1]? = some (.cells #[.int .i64 ((0 : Nat) : Int)] 3 (0, 0)) ∧
    Below w.heap.size w (((w.alloc (.cells #[.slice A xs.length c] 34)).alloc (.cells #[.int .i64 0] 3)).alloc (.cells #[.func (.func 123) #[] #[.pointer (some ⟨w.heap.size + 1, 0, none⟩), .pointer (some ⟨w.heap.size, 0, none⟩), .pointer (some ⟨w.heap.size + 1 + 1, 0, none⟩)]] 145)) ∧
    TyA (((w.alloc (.cells #[.slice A xs.length c] 34)).alloc (.cells #[.int .i64 0] 3)).alloc (.cells #[.func (.func 123) #[] #[.pointer (some ⟨w.heap.size + 1, 0, none⟩), .pointer (some ⟨w.heap.size, 0, none⟩), .pointer (some ⟨w.heap.size + 1 + 1, 0, none⟩)]] 145)) w.heap.size A xs := by
  have hbel := ext_alloc (ext_alloc (ext_alloc (Below.refl w.heap.size w) (.cells #[.slice A xs.length c] 34)) (.cells #[.int .i64 0] 3)) (.cells #[.func (.func 123) #[] #[.pointer (some ⟨w.heap.size + 1, 0, none⟩), .pointer (some ⟨w.heap.size, 0, none⟩), .pointer (some ⟨w.heap.size + 1 + 1, 0, none⟩)]] 145)
  refine ⟨⟨?_, ?_⟩, ?_, hbel, ha.below hbel⟩
  · rw [Below.heap_alloc _ _ _ (by simp; omega), Below.heap_alloc _ _ _ (by simp)]
    exact heap_alloc_new _ _
  · have := heap_alloc_new ((w.alloc (.cells #[.slice A xs.length c] 34)).alloc (.cells #[.int .i64 0] 3)) (.cells #[.func (.func 123) #[] #[.pointer (some ⟨w.heap.size + 1, 0, none⟩), .pointer (some ⟨w.heap.size, 0, none⟩), .pointer (some ⟨w.heap.size + 1 + 1, 0, none⟩)]] 145)
    simpa using this
  · rw [Below.heap_alloc _ _ _ (by simp)]
    have := heap_alloc_new (w.alloc (.cells #[.slice A xs.length c] 34)) (.cells #[.int .i64 0] 3)
    simpa using this

set_option maxRecDepth 100000 in
set_option maxHeartbeats 2000000 in
theorem right_any (A : Option Addr) (c : Nat) (xs : List Nd) (w : World) (ha : TyA w w.heap.size A xs) (hl : xs.length ≤ 9223372036854775807) (hs : ∀ x ∈ xs, x.s.size ≤ 9223372036854775807) :
    Calls Try.prog 79 #[.slice A xs.length c] w fun e w' => e = .returned (.bool (rightB xs)) ∧ Below w.heap.size w w' := by
  match xs, ha, hl, hs with
  | [], ha, hl, hs =>
    go_enter Try.func79, Try.ntmps79
    go_wp2_with fail
    go_ret
    exact ⟨rfl, by repeat (first | exact Below.refl _ _ | refine ext_alloc ?_ _ | refine ext_set ?_ (by simp) _)⟩
  | x :: xs', ha, hl, hs =>
    obtain ⟨b1, o1, rfl, hb1, c10, c11, c12⟩ := ha.at_ (i := 0) (x := x) rfl
    have hlen : (x :: xs').length = xs'.length + 1 := rfl
    simp only [Nat.zero_mul, Nat.add_zero] at c10 c11 c12
    have hn0 : (((x :: xs').length : Int) == 0) = false := by rw [beq_eq_false_iff_ne]; rw [hlen]; omega
    generalize hxs : x :: xs' = xs at *
    have Hxs := Lib.hid hxs
    have Hlen := Lib.hid hlen
    have hpos : 0 < xs.length := by omega
    clear hxs hlen
    have r1 : b1 < w.heap.size + 1 := by omega
    have r2 : b1 < w.heap.size + 1 + 1 := by omega
    by_cases h10 : xs.length ≤ 10000
    · have h10' : ¬ (10000 : Int) < (xs.length : Int) := by omega
      cases he : x.s.toList.isEmpty
      · have He := Lib.hid he
        go_enter Try.func79, Try.ntmps79
        go_wp2_with fail
        go_ret
        refine ⟨ret_bool ?_, by repeat (first | exact Below.refl _ _ | refine ext_alloc ?_ _ | refine ext_set ?_ (by simp) _)⟩
        have : rootOk xs = false := by rw [← Hxs.out]; simp only [rootOk]; rw [← isEmpty_size, He.out]; rfl
        simp [rightB, this]
      · have He := Lib.hid he
        cases h9 : (x.k == 9)
        · have H9 := Lib.hid h9
          have henv := renv_made w (some ⟨b1, o1, none⟩) xs c ha
          have hroot : Hid (rootOk xs = true) := Lib.hid (by rw [← Hxs.out]; simp only [rootOk]; rw [← isEmpty_size, He.out, H9.out]; rfl)
          go_enter Try.func79, Try.ntmps79
          go_wp2_with fail
          refine (rightC_any 100 1 0 _ _ _ w.heap.size c _ xs _ (by omega) (by omega) (Nat.zero_le _) (by omega) (Lib.hid hs) (henv.2.2.2) (by omega) henv.1 (by omega) (by omega) henv.2.1).mono ?_
          rintro e w1 ⟨rfl, g1, h1⟩
          have hb := below_of_only g1 (B := w.heap.size) (by omega) (by simp; omega)
          have hfr : Below w.heap.size w w1 := henv.2.2.1.trans hb
          cases htr : treeP xs 100 0
          · have Htr := Lib.hid htr
            go_wp2_with fail
            go_ret
            exact ⟨ret_bool (by simp [rightB, Htr.out]), hfr⟩
          · rename_i j
            have hat1 := cell_of_one (h1 j htr)
            have ht1 := cell_of_one (henv.1.only g1 (by omega) (by omega)).t
            have Htr := Lib.hid htr
            clear h1 htr
            go_wp2_with fail
            go_ret
            refine ⟨ret_bool ?_, hfr⟩
            unfold rightB
            rw [Htr.out, hroot.out, decide_eq_true h10]
            rw [Bool.eq_iff_iff]
            simp
            omega
        · have H9 := Lib.hid h9
          go_enter Try.func79, Try.ntmps79
          go_wp2_with fail
          go_ret
          refine ⟨ret_bool ?_, by repeat (first | exact Below.refl _ _ | refine ext_alloc ?_ _ | refine ext_set ?_ (by simp) _)⟩
          have : rootOk xs = false := by rw [← Hxs.out]; simp only [rootOk]; rw [H9.out]; simp
          simp [rightB, this]
    · have h10' : (10000 : Int) < (xs.length : Int) := by omega
      go_enter Try.func79, Try.ntmps79
      go_wp2_with fail
      go_ret
      exact ⟨ret_bool (by simp [rightB, h10]), by repeat (first | exact Below.refl _ _ | refine ext_alloc ?_ _ | refine ext_set ?_ (by simp) _)⟩
end Go.Proofs.Ytblfeokjlecgkaa
