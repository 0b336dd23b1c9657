/- ty.Row. -/
import Derived.Test.YtblfeokjlecgkaaDoorSort
namespace Go.Proofs.YtblfeokjlecgkaaDoor
open Go.RowKit

/-- A type as a part of a row: under a label. -/
def nameN (s : ByteArray) : List Nd → List Nd
  | [] => []
  | x :: ys => x.name s :: ys

def rowPart (ls : List ByteArray) (xss : List (List Nd)) (i : Nat) : List Nd := nameN (lab ls i) ((xss[i]?).getD [])

/-- A row's type: its parts in this order. -/
def rowN (kind : Int) (ls : List ByteArray) (xss : List (List Nd)) (os : List Nat) : List Nd := ⟨kind, ByteArray.empty, (xss.length : Int)⟩ :: os.flatMap (rowPart ls xss)

def badRow (kind : Int) (ls : List ByteArray) (n : Nat) : Bool := !isRowB kind || !decide (ls.length = n) || decide (50 < n) || (decide (kind = 7) && decide (n = 0)) || oddFrom kind ls 0

def RowPost (kind : Int) (ls : List ByteArray) (xss : List (List Nd)) (w : World) (e : Ending) (w' : World) : Prop :=
  Below w.heap.size w w' ∧
  ((badRow kind ls xss.length = true ∧ e = .returned (.tuple #[.slice none 0 0, .int .i64 1])) ∨
   (badRow kind ls xss.length = false ∧ ¬ ls.Nodup ∧ e = .returned (.tuple #[.slice none 0 0, .int .i64 7])) ∨
   (badRow kind ls xss.length = false ∧ ∃ (os : List Nat) (A' : Option Addr) (cap' : Nat), os.Perm (List.range xss.length) ∧ os.Pairwise (fun i j => ltB (lab ls i) (lab ls j) = true) ∧
      e = .returned (.tuple #[.slice A' (rowN kind ls xss os).length cap', .int .i64 0]) ∧ OwnN w' w.heap.size A' cap' (rowN kind ls xss os)))

theorem strict_of {ls : List ByteArray} {os : List Nat} (h : os.Pairwise (fun i j => ltB (lab ls j) (lab ls i) = false))
    (hd : ∀ (j a b : Nat), os[j]? = some a → os[j + 1]? = some b → lab ls a ≠ lab ls b) : os.Pairwise (fun i j => ltB (lab ls i) (lab ls j) = true) := by
  rw [List.pairwise_iff_getElem] at h ⊢
  intro i j hi hj hij
  cases hlt : ltB (lab ls os[i]) (lab ls os[j])
  · exfalso
    have h1 : i + 1 < os.length := by omega
    have hle1 := h i (i + 1) hi h1 (by omega)
    have hge : ltB (lab ls os[i]) (lab ls os[i + 1]) = false := by
      by_cases hj1 : j = i + 1
      · subst hj1; exact hlt
      · exact ltB_ntrans hlt (h (i + 1) j h1 hj (by omega))
    exact hd i _ _ (List.getElem?_eq_getElem hi) (List.getElem?_eq_getElem h1) (ltB_eq hge hle1)
  · rfl

set_option maxRecDepth 100000 in
set_option maxHeartbeats 4000000 in
theorem rowBad_any (L V : Option Addr) (cl cv : Nat) (kind : Int) (ls : List ByteArray) (n : Nat) (w : World) (hL : ReadT w w.heap.size L ls) (hll : ls.length ≤ 1000000) (hbad : badRow kind ls n = true) :
    Calls Tryd.prog 13 #[.int .i64 kind, .slice L ls.length cl, .slice V n cv] w fun e w' => e = .returned (.tuple #[.slice none 0 0, .int .i64 1]) ∧ Below w.heap.size w w' := by
  obtain ⟨W, hW⟩ : ∃ W, W = (w.alloc (.cells #[.int .i64 kind] 3)).alloc (.cells #[.slice L ls.length cl] 22) := ⟨_, rfl⟩
  have hWs : W.heap.size = w.heap.size + 2 := by rw [hW]; simp
  have hbW : Below w.heap.size w W := by rw [hW]; exact ext_alloc (ext_alloc (Below.refl _ _) _) _
  have c1 : W.cell? ⟨w.heap.size, 0, none⟩ = some (.int .i64 kind) := by rw [hW]; simp
  have c2 : W.cell? ⟨w.heap.size + 1, 0, none⟩ = some (.slice L ls.length cl) := by rw [hW]; simp
  by_cases h1 : isRowB kind = true
  · have H1 := Lib.hid h1
    by_cases h2 : ls.length = n
    · subst h2
      by_cases h3 : 50 < ls.length
      · clear hbad h1
        go_enter Tryd.func13, Tryd.ntmps13
        go_wp2_with fail
        rw [← hW]
        refine (isRow_any _ _ _ _).mono ?_
        rintro e w1 ⟨rfl, hbx⟩
        rw [H1.out]
        have c1' := (hbx.cell (p := ⟨w.heap.size, 0, none⟩) (by simp; omega)).trans c1
        have c2' := (hbx.cell (p := ⟨w.heap.size + 1, 0, none⟩) (by simp; omega)).trans c2
        go_wp2_with fail
        go_ret2
        exact ⟨rfl, ext_trans hbW hbx⟩
      · by_cases h4 : kind = 7 ∧ ls.length = 0
        · obtain ⟨h7, h0⟩ := h4
          have h7b : (kind == 7) = true := by simp [h7]
          have h0b : (ls.length == 0) = true := by simp [h0]
          have h0c : ((ls.length : Int) == 0) = true := by simp [h0]
          clear hbad h1 h7 h0
          go_enter Tryd.func13, Tryd.ntmps13
          go_wp2_with fail
          rw [← hW]
          refine (isRow_any _ _ _ _).mono ?_
          rintro e w1 ⟨rfl, hbx⟩
          rw [H1.out]
          have c1' := (hbx.cell (p := ⟨w.heap.size, 0, none⟩) (by simp; omega)).trans c1
          have c2' := (hbx.cell (p := ⟨w.heap.size + 1, 0, none⟩) (by simp; omega)).trans c2
          go_wp2_with fail
          go_ret2
          exact ⟨rfl, ext_trans hbW hbx⟩
        · have h5 : oddFrom kind ls 0 = true := by
            unfold badRow at hbad
            simp only [h1, Bool.not_true, decide_true, Bool.false_or, decide_eq_false h3, Bool.or_eq_true, Bool.and_eq_true, decide_eq_true_eq] at hbad
            rcases hbad with hbad | hbad
            · exact absurd hbad h4
            · exact hbad
          have H5 := Lib.hid h5
          clear hbad h5
          cases h7 : (kind == 7)
          · clear h4 h1
            go_enter Tryd.func13, Tryd.ntmps13
            go_wp2_with fail
            rw [← hW]
            refine (isRow_any _ _ _ _).mono ?_
            rintro e w1 ⟨rfl, hbx⟩
            rw [H1.out]
            have c1' := (hbx.cell (p := ⟨w.heap.size, 0, none⟩) (by simp; omega)).trans c1
            have c2' := (hbx.cell (p := ⟨w.heap.size + 1, 0, none⟩) (by simp; omega)).trans c2
            go_wp2_with fail
            refine (containsStr_any _ _ _ kind w.heap.size _ ((ReadL.below hL (hbW.trans (hbx.mono (by omega)))).more (by have := hbx.size; omega)) c1' (by have := hbx.size; omega) (by omega)).mono ?_
            rintro e w2 ⟨rfl, hby⟩
            rw [H5.out]
            go_wp2_with fail
            go_ret2
            exact ⟨rfl, ext_trans (ext_trans hbW hbx) hby⟩
          · have h0 : ¬ ls.length = 0 := fun h => h4 ⟨by simpa using h7, h⟩
            have h0b : (ls.length == 0) = false := by simpa using h0
            have h0c : ((ls.length : Int) == 0) = false := by rw [beq_eq_false_iff_ne]; omega
            clear h4 h1
            go_enter Tryd.func13, Tryd.ntmps13
            go_wp2_with fail
            rw [← hW]
            refine (isRow_any _ _ _ _).mono ?_
            rintro e w1 ⟨rfl, hbx⟩
            rw [H1.out]
            have c1' := (hbx.cell (p := ⟨w.heap.size, 0, none⟩) (by simp; omega)).trans c1
            have c2' := (hbx.cell (p := ⟨w.heap.size + 1, 0, none⟩) (by simp; omega)).trans c2
            go_wp2_with fail
            refine (containsStr_any _ _ _ kind w.heap.size _ ((ReadL.below hL (hbW.trans (hbx.mono (by omega)))).more (by have := hbx.size; omega)) c1' (by have := hbx.size; omega) (by omega)).mono ?_
            rintro e w2 ⟨rfl, hby⟩
            rw [H5.out]
            go_wp2_with fail
            go_ret2
            exact ⟨rfl, ext_trans (ext_trans hbW hbx) hby⟩
    · have hne : ((ls.length : Int) == (n : Int)) = false := by rw [beq_eq_false_iff_ne]; omega
      have hne2 : (ls.length == n) = false := by rw [beq_eq_false_iff_ne]; omega
      clear hbad h1
      go_enter Tryd.func13, Tryd.ntmps13
      go_wp2_with fail
      rw [← hW]
      refine (isRow_any _ _ _ _).mono ?_
      rintro e w1 ⟨rfl, hbx⟩
      rw [H1.out]
      have c1' := (hbx.cell (p := ⟨w.heap.size, 0, none⟩) (by simp; omega)).trans c1
      have c2' := (hbx.cell (p := ⟨w.heap.size + 1, 0, none⟩) (by simp; omega)).trans c2
      go_wp2_with fail
      go_ret2
      exact ⟨rfl, ext_trans hbW hbx⟩
  · have h1' : isRowB kind = false := by simpa using h1
    have H1 := Lib.hid h1'
    clear h1 h1' hbad
    go_enter Tryd.func13, Tryd.ntmps13
    go_wp2_with fail
    rw [← hW]
    refine (isRow_any _ _ _ _).mono ?_
    rintro e w1 ⟨rfl, hbx⟩
    rw [H1.out]
    go_wp2_with fail
    go_ret2
    exact ⟨rfl, ext_trans hbW hbx⟩
end Go.Proofs.YtblfeokjlecgkaaDoor
