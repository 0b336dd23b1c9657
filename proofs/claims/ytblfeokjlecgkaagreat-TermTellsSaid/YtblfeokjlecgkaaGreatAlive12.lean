/- The live question of layer 12. -/
import Derived.Test.YtblfeokjlecgkaaGreatPut
import Derived.Test.YtblfeokjlecgkaaGreatGrd
import Derived.Test.YtblfeokjlecgkaaGreatVars
import Derived.Test.YtblfeokjlecgkaaGreatPrintR
namespace Go.Proofs.YtblfeokjlecgkaaGreat
open Go.RowKit

def nd (k n : Int) : Nd := ⟨k, ByteArray.empty, n⟩
def liveT : List Nd := [nd 6 2, ⟨1, ⟨#[97]⟩, 0⟩, nd 9 5]
def liveU : List Nd := [nd 6 1, ⟨8, ⟨#[98]⟩, 1⟩]
def liveUs : List (List Nd) := [[⟨8, ⟨#[98]⟩, 1⟩]]
def liveR : List Nd := [nd 6 2, ⟨1, ⟨#[97]⟩, 0⟩, ⟨8, ⟨#[98]⟩, 1⟩]
def liveG : List Nd := [nd 6 2, ⟨1, ⟨#[97]⟩, 0⟩, ⟨4, ⟨#[98]⟩, 0⟩]

theorem live_put : putT 5 liveU liveUs liveT = (liveR, false, false, false) := by decide +kernel
theorem live_err : putErr (liveR, false, false, false) = 0 := by decide +kernel
theorem live_grd : grdT liveR = liveG := by decide +kernel
theorem live_tree : treeP liveR 100 0 = some 3 := by decide +kernel
theorem live_treeG : treeP liveG 100 0 = some 3 := by decide +kernel
theorem live_pr : (⟨(prS 100 liveR).toArray⟩ : ByteArray) = ⟨#[123, 97, 58, 32, 105, 110, 116, 44, 32, 98, 58, 32, 39, 49, 125]⟩ := by kernel_rfl
theorem live_prG : (⟨(prS 100 liveG).toArray⟩ : ByteArray) = ⟨#[123, 97, 58, 32, 105, 110, 116, 44, 32, 98, 58, 32, 117, 110, 105, 116, 125]⟩ := by kernel_rfl
theorem live_vars : varsL liveT = [5] := by
  have h : numsV liveT = [5] := by decide +kernel
  unfold varsL
  rw [h, List.mergeSort_singleton]
  decide +kernel

def okLit (x : Nd) : Bool := decide (-100 ≤ x.k) && decide (x.k ≤ 100) && decide (-100 ≤ x.n) && decide (x.n ≤ 100) && decide (x.s.size ≤ 100)
theorem ok_lits {xs : List Nd} (h : xs.all okLit = true) : ∀ x ∈ xs, x.Ok := fun x hx => by
  have := List.all_eq_true.1 h x hx
  unfold okLit at this
  simp only [Bool.and_eq_true, decide_eq_true_eq] at this
  obtain ⟨⟨⟨⟨a, b⟩, c⟩, d⟩, e⟩ := this
  exact ⟨by omega, by omega, by omega, by omega, by omega⟩

def okNs (xs : List Nd) : Bool := xs.all fun x => okNode x.k x.n
theorem ok_ns {xs : List Nd} (h : okNs xs = true) : okAll xs := fun x hx => List.all_eq_true.1 h x hx

/-- Nodes of a literal. -/
theorem tyA_lit (w : World) (xs : List Nd) (c : Array Value) (hc : c.toList = xs.flatMap encN) : TyA (w.alloc (.cells c 39)) (w.heap.size + 1) (some ⟨w.heap.size, 0, none⟩) xs := by
  refine ReadL.tyA fun _ => ⟨w.heap.size, 0, rfl, by omega, fun i x hx j u hu => ?_⟩
  rw [World.cell?_alloc_new]
  have := flatMap_at encN_len hx hu
  rw [← hc] at this
  rw [← this]
  simp

theorem live_uok : UOk 2 liveU liveUs := ⟨by decide, by decide, nd 6 1, [⟨8, ⟨#[98]⟩, 1⟩], rfl, by decide, ok_ns (by decide +kernel), ⟨rfl, rfl, fun ts hts => by simp [liveUs] at hts; subst hts; rfl⟩⟩

set_option maxRecDepth 100000 in
set_option maxHeartbeats 4000000 in
theorem alive_any (w : World) :
    Calls Tryz.prog 5 #[] w fun e w' => e = .returned (.bool true) ∧ Below w.heap.size w w' := by
  obtain ⟨W, hW⟩ : ∃ W, W = (w.alloc (.cells #[.int .i64 6, .string ⟨#[]⟩, .int .i64 2, .int .i64 1, .string ⟨#[97]⟩, .int .i64 0, .int .i64 9, .string ⟨#[]⟩, .int .i64 5] 39)).alloc (.cells #[.int .i64 6, .string ⟨#[]⟩, .int .i64 1, .int .i64 8, .string ⟨#[98]⟩, .int .i64 1] 39) := ⟨_, rfl⟩
  have hWs : W.heap.size = w.heap.size + 2 := by rw [hW]; simp
  have hbW : Below w.heap.size w W := by rw [hW]; exact ext_alloc (ext_alloc (Below.refl _ _) _) _
  have t1 : TyA W W.heap.size (some ⟨w.heap.size, 0, none⟩) liveT := by
    have h := tyA_lit w liveT #[.int .i64 6, .string ⟨#[]⟩, .int .i64 2, .int .i64 1, .string ⟨#[97]⟩, .int .i64 0, .int .i64 9, .string ⟨#[]⟩, .int .i64 5] rfl
    rw [hWs, hW]
    exact (h.alloc (by simp) _).more (by omega)
  have t2 : TyA W W.heap.size (some ⟨w.heap.size + 1, 0, none⟩) liveU := by
    have h := tyA_lit (w.alloc (.cells #[.int .i64 6, .string ⟨#[]⟩, .int .i64 2, .int .i64 1, .string ⟨#[97]⟩, .int .i64 0, .int .i64 9, .string ⟨#[]⟩, .int .i64 5] 39)) liveU #[.int .i64 6, .string ⟨#[]⟩, .int .i64 1, .int .i64 8, .string ⟨#[98]⟩, .int .i64 1] rfl
    rw [World.size_alloc] at h
    rw [hWs, hW]
    exact h
  have hp := put_any (some ⟨w.heap.size, 0, none⟩) (some ⟨w.heap.size + 1, 0, none⟩) 3 2 liveT liveU liveUs 5 W t1 t2 rfl (ok_ns (by decide +kernel)) (by decide) live_uok (by decide) (fun x hx => (ok_lits (xs := liveT ++ liveU) (by decide +kernel) x hx).s1)
  rw [live_put] at hp
  have Hp := Lib.hid hp
  have HW := Lib.hid (And.intro hbW (And.intro t1 hWs))
  clear hp t1 t2 hbW hWs
  go_enter Tryz.func5, Tryz.ntmps5
  go_wp2_with fail
  rw [← hW]
  refine Hp.out.mono ?_
  rintro e w1 ⟨hb1, ⟨_, A1, c1, rfl, hown⟩ | ⟨hne, _⟩⟩
  · have K := Lib.hid (And.intro ((OwnL.tyA hown)) (And.intro ((HW.out.2.1.below hb1).more hb1.size) (ext_trans HW.out.1 hb1)))
    have h1 := Lib.hid (rPrint_any 3 c1 A1 liveR w1 live_tree K.out.1 (by decide) (ok_ns (by decide +kernel)) (ok_lits (by decide +kernel)) (by decide +kernel))
    have hcap := OwnL.le_cap hown
    clear hW Hp hown hb1
    have hl3 : liveR.length = 3 := rfl
    rw [hl3] at hcap
    simp only [hl3] at h1 ⊢
    clear hl3
    go_wp2_with fail
    refine h1.out.mono ?_
    rintro e w2 ⟨rfl, hb2⟩
    rw [live_pr]
    replace K := Lib.hid (And.intro ((K.out.1.below hb2).more hb2.size) (And.intro ((K.out.2.1.below hb2).more hb2.size) (ext_trans K.out.2.2 hb2)))
    clear hb2 h1
    have h2 := Lib.hid (ground_any 3 A1 c1 w2.heap.size liveR w2 (by decide) (by decide) rfl (ok_ns (by decide +kernel)) K.out.1 (Nat.le_refl _) hcap)
    go_wp2_with fail
    refine h2.out.mono ?_
    rw [live_grd]
    rintro e w3 ⟨A3, c3, rfl, hown3, hb3⟩
    replace K := Lib.hid (And.intro (OwnL.tyA hown3) (And.intro ((K.out.2.1.below hb3).more hb3.size) (ext_trans K.out.2.2 hb3)))
    clear hown3 hb3 h2
    have h3 := Lib.hid (rPrint_any 3 c3 A3 liveG w3 live_treeG K.out.1 (by decide) (ok_ns (by decide +kernel)) (ok_lits (by decide +kernel)) (by decide +kernel))
    go_wp2_with fail
    refine h3.out.mono ?_
    rintro e w4 ⟨rfl, hb4⟩
    rw [live_prG]
    replace K := Lib.hid (And.intro ((K.out.2.1.below hb4).more hb4.size) (ext_trans K.out.2.2 hb4))
    clear hb4 h3
    have h4 := Lib.hid (vars_any (some ⟨w.heap.size, 0, none⟩) 3 liveT w4 K.out.1 (by decide))
    go_wp2_with fail
    refine h4.out.mono ?_
    rintro e w5 ⟨A5, c5, rfl, hr5, hb5⟩
    rw [live_vars]
    replace K := Lib.hid (ext_trans K.out.2 hb5)
    clear hb5 hr5 h4
    go_wp2_with fail
    go_ret
    exact ⟨rfl, K.out⟩
  · exact absurd live_err hne
end Go.Proofs.YtblfeokjlecgkaaGreat
