/- The laws' live question. -/
import Derived.Test.YtblfeokjlecgkaaDoorRowG
namespace Go.Proofs.YtblfeokjlecgkaaDoor
open Go.RowKit

theorem row_any (L V : Option Addr) (cl cv : Nat) (kind : Int) (ls : List ByteArray) (vs : List (Option Addr × Nat × Nat)) (xss : List (List Nd)) (w : World) (hL : ReadT w w.heap.size L ls) (hV : ReadS w w.heap.size V vs) (hS : Sls w w.heap.size vs xss)
    (hne : ∀ xs ∈ xss, xs ≠ [] ∧ xs.length ≤ 100000) (hll : ls.length ≤ 1000000) :
    Calls Tryd.prog 13 #[.int .i64 kind, .slice L ls.length cl, .slice V vs.length cv] w (RowPost kind ls xss w) := by
  cases hb : badRow kind ls xss.length
  · exact rowGood_any L V cl cv kind ls vs xss w hL hV hS hne hb
  · rw [hS.1]
    refine (rowBad_any L V cl cv kind ls xss.length w hL hll hb).mono ?_
    rintro e w' ⟨rfl, hbel⟩
    exact ⟨hbel, .inl ⟨hb, rfl⟩⟩

def nd (k n : Int) : Nd := ⟨k, ByteArray.empty, n⟩
def liveT : List Nd := [nd 5 0, nd 1 0, nd 5 0, nd 2 0, nd 0 0]
def liveL : List ByteArray := [⟨#[98]⟩, ⟨#[97]⟩]
def liveR : List Nd := [nd 6 2, ⟨4, ⟨#[97]⟩, 0⟩, ⟨5, ⟨#[98]⟩, 0⟩, nd 1 0, nd 5 0, nd 2 0, nd 0 0]

theorem live_bad : badRow 6 liveL 2 = false := by decide +kernel
theorem live_lt : ltB (lab liveL 0) (lab liveL 1) = false := by decide +kernel
theorem live_tree : treeP liveT 100 0 = some 5 := by decide +kernel
theorem live_treeR : treeP liveR 100 0 = some 7 := by decide +kernel
theorem live_right : rightB liveR = true := by decide +kernel
theorem live_static : staticB liveR = false := by decide +kernel
theorem live_pr : (⟨(prS 100 liveT).toArray⟩ : ByteArray) = ⟨#[105, 110, 116, 32, 45, 62, 32, 98, 111, 111, 108, 32, 45, 62, 32, 63]⟩ := by kernel_rfl
theorem live_prR : (⟨(prS 100 liveR).toArray⟩ : ByteArray) = ⟨#[123, 97, 58, 32, 117, 110, 105, 116, 44, 32, 98, 58, 32, 105, 110, 116, 32, 45, 62, 32, 98, 111, 111, 108, 32, 45, 62, 32, 63, 125]⟩ := by kernel_rfl
theorem live_row : rowN 6 liveL [liveT, [nd 4 0]] [1, 0] = liveR := by kernel_rfl

theorem live_order {os : List Nat} (h : os.Perm (List.range 2)) (hp : os.Pairwise (fun i j => ltB (lab liveL i) (lab liveL j) = true)) : os = [1, 0] := by
  have hl : os.length = 2 := by rw [h.length_eq]; rfl
  match os, hl with
  | [p, q], _ =>
    have hn : [p, q].Nodup := (h.nodup_iff).2 List.nodup_range
    have hp2 : p < 2 := List.mem_range.1 ((h.mem_iff).1 (by simp))
    have hq2 : q < 2 := List.mem_range.1 ((h.mem_iff).1 (by simp))
    simp at hn hp
    by_cases h1 : p = 1
    · have : q = 0 := by omega
      rw [h1, this]
    · have hp0 : p = 0 := by omega
      have hq1 : q = 1 := by omega
      rw [hp0, hq1, live_lt] at hp
      cases hp

theorem readT_new2 (w : World) (s1 s2 : ByteArray) : ReadT (w.alloc (.cells #[.string s1, .string s2] 9)) (w.heap.size + 1) (some ⟨w.heap.size, 0, none⟩) [s1, s2] := fun _ => by
  refine ⟨w.heap.size, 0, rfl, by omega, fun i x hx j u hu => ?_⟩
  have hj : j = 0 := by
    have := getq_lt hu
    rw [encT_len] at this
    omega
  subst hj
  simp [encT] at hu
  subst hu
  match i, hx with
  | 0, hx => simp at hx; subst hx; simp
  | 1, hx => simp at hx; subst hx; simp
  | i + 2, hx => simp at hx

theorem readS_new2 (w : World) (v1 v2 : Option Addr × Nat × Nat) : ReadS (w.alloc (.cells #[.slice v1.1 v1.2.1 v1.2.2, .slice v2.1 v2.2.1 v2.2.2] 29)) (w.heap.size + 1) (some ⟨w.heap.size, 0, none⟩) [v1, v2] := fun _ => by
  refine ⟨w.heap.size, 0, rfl, by omega, fun i x hx j u hu => ?_⟩
  have hj : j = 0 := by
    have := getq_lt hu
    rw [encS_len] at this
    omega
  subst hj
  simp [encS] at hu
  subst hu
  match i, hx with
  | 0, hx => simp at hx; subst hx; simp
  | 1, hx => simp at hx; subst hx; simp
  | i + 2, hx => simp at hx

def okLit (x : Nd) : Bool := decide (-100 ≤ x.k) && decide (x.k ≤ 100) && decide (-100 ≤ x.n) && decide (x.n ≤ 100) && decide (x.s.size ≤ 100)
theorem ok_lits {xs : List Nd} (h : xs.all okLit = true) : ∀ x ∈ xs, x.Ok := fun x hx => by
  have := List.all_eq_true.1 h x hx
  unfold okLit at this
  simp only [Bool.and_eq_true, decide_eq_true_eq] at this
  obtain ⟨⟨⟨⟨a, b⟩, c⟩, d⟩, e⟩ := this
  exact ⟨by omega, by omega, by omega, by omega, by omega⟩
theorem live_ok : ∀ x ∈ liveT, x.Ok := ok_lits (by decide +kernel)
theorem live_okR : ∀ x ∈ liveR, x.Ok := ok_lits (by decide +kernel)

set_option maxRecDepth 100000 in
set_option maxHeartbeats 4000000 in
theorem alive_any (w : World) (ht : Tab w w.heap.size) :
    Calls Tryd.prog 10 #[] w fun e w' => e = .returned (.bool true) ∧ Below w.heap.size w w' := by
  obtain ⟨W, hW⟩ : ∃ W, W = ((w.alloc (.cells #[.int .i64 1, .string ⟨#[]⟩, .int .i64 0] 38)).alloc (.cells #[.int .i64 2, .string ⟨#[]⟩, .int .i64 0] 38)).alloc (.cells #[.int .i64 0, .string ⟨#[]⟩, .int .i64 0] 38) := ⟨_, rfl⟩
  have hWs : W.heap.size = w.heap.size + 3 := by rw [hW]; simp
  have hbW : Below w.heap.size w W := by rw [hW]; exact ext_alloc (ext_alloc (ext_alloc (Below.refl _ _) _) _) _
  have t1 : TyA W W.heap.size (some ⟨w.heap.size, 0, none⟩) [nd 1 0] := by
    rw [hW]
    exact (((tyA_new w (nd 1 0)).alloc (by simp) _).alloc (by simp) _).more (by simp)
  have t2 : TyA W W.heap.size (some ⟨w.heap.size + 1, 0, none⟩) [nd 2 0] := by
    have := tyA_new (w.alloc (.cells #[.int .i64 1, .string ⟨#[]⟩, .int .i64 0] 38)) (nd 2 0)
    rw [World.size_alloc] at this
    rw [hW]
    exact (this.alloc (by simp) _).more (by simp)
  have t3 : TyA W W.heap.size (some ⟨w.heap.size + 1 + 1, 0, none⟩) [nd 0 0] := by
    have := tyA_new ((w.alloc (.cells #[.int .i64 1, .string ⟨#[]⟩, .int .i64 0] 38)).alloc (.cells #[.int .i64 2, .string ⟨#[]⟩, .int .i64 0] 38)) (nd 0 0)
    rw [World.size_alloc, World.size_alloc] at this
    rw [hW]
    exact this.more (by simp)
  go_enter Tryd.func10, Tryd.ntmps10
  go_wp2_with fail
  rw [← hW]
  refine (pArrow_any (some ⟨w.heap.size + 1, 0, none⟩) (some ⟨w.heap.size + 1 + 1, 0, none⟩) 1 1 [nd 2 0] [nd 0 0] W t2 t3 (by decide)).mono ?_
  rintro e w1 ⟨A1, cap1, rfl, hown1, hb1⟩
  go_wp2_with fail
  refine (pArrow_any (some ⟨w.heap.size, 0, none⟩) A1 1 cap1 [nd 1 0] (arrowN [nd 2 0] [nd 0 0]) w1 ((t1.below hb1).more hb1.size) (OwnL.tyA hown1) (by decide)).mono ?_
  rintro e w2 ⟨A2, cap2, rfl, hown2, hb2⟩
  have hT : arrowN [nd 1 0] (arrowN [nd 2 0] [nd 0 0]) = liveT := rfl
  rw [hT] at hown2 ⊢
  have hbel2 := ext_trans (ext_trans hbW hb1) hb2
  have hl5 : liveT.length = 5 := rfl
  rw [hl5]
  have hown2' : TyA w2 w2.heap.size A2 liveT := OwnL.tyA hown2
  clear hb1 hb2 hown1 t1 t2 t3
  go_wp2_with fail
  obtain ⟨W2, hW2⟩ : ∃ W, W = ((w2.alloc (.cells #[.string ⟨#[98]⟩, .string ⟨#[97]⟩] 9)).alloc (.cells #[.int .i64 4, .string ⟨#[]⟩, .int .i64 0] 38)).alloc (.cells #[.slice A2 5 cap2, .slice (some ⟨w2.heap.size + 1, 0, none⟩) 1 1] 29) := ⟨_, rfl⟩
  have hW2s : W2.heap.size = w2.heap.size + 3 := by rw [hW2]; simp
  have hbW2 : Below w2.heap.size w2 W2 := by rw [hW2]; exact ext_alloc (ext_alloc (ext_alloc (Below.refl _ _) _) _) _
  have hLl : ReadT W2 W2.heap.size (some ⟨w2.heap.size, 0, none⟩) liveL := by
    have h1 := readT_new2 w2 ⟨#[98]⟩ ⟨#[97]⟩
    rw [hW2s, hW2]
    exact ((h1.below (Below.alloc (Below.refl _ _) (by simp) _)).below (Below.alloc (Below.refl _ _) (by simp) _)).more (by omega)
  have hVl : ReadS W2 W2.heap.size (some ⟨w2.heap.size + 1 + 1, 0, none⟩) [(A2, 5, cap2), (some ⟨w2.heap.size + 1, 0, none⟩, 1, 1)] := by
    have h1 := readS_new2 ((w2.alloc (.cells #[.string ⟨#[98]⟩, .string ⟨#[97]⟩] 9)).alloc (.cells #[.int .i64 4, .string ⟨#[]⟩, .int .i64 0] 38)) (A2, 5, cap2) (some ⟨w2.heap.size + 1, 0, none⟩, 1, 1)
    rw [World.size_alloc, World.size_alloc] at h1
    rw [hW2s, hW2]
    exact h1
  have hSl : Sls W2 W2.heap.size [(A2, 5, cap2), (some ⟨w2.heap.size + 1, 0, none⟩, 1, 1)] [liveT, [nd 4 0]] := ⟨rfl, fun i v xs hv hx => by
    match i, hv, hx with
    | 0, hv, hx => simp at hv hx; subst hv hx; exact ⟨rfl, (hown2'.below hbW2).more (by omega)⟩
    | 1, hv, hx =>
      simp at hv hx
      subst hv hx
      have h1 := tyA_new (w2.alloc (.cells #[.string ⟨#[98]⟩, .string ⟨#[97]⟩] 9)) (nd 4 0)
      rw [World.size_alloc] at h1
      refine ⟨rfl, ?_⟩
      rw [hW2s, hW2]
      exact (h1.alloc (by simp) _).more (by omega)
    | i + 2, hv, hx => simp at hv⟩
  rw [← hW2]
  refine (row_any (some ⟨w2.heap.size, 0, none⟩) (some ⟨w2.heap.size + 1 + 1, 0, none⟩) 2 2 6 liveL [(A2, 5, cap2), (some ⟨w2.heap.size + 1, 0, none⟩, 1, 1)] [liveT, [nd 4 0]] W2 hLl hVl hSl (by decide) (by decide)).mono ?_
  rintro e w3 ⟨hb3, ⟨hbad, _⟩ | ⟨_, hnd, _⟩ | ⟨_, os, A3, cap3, hperm, hpw, rfl, hown3⟩⟩
  · exact absurd (live_bad.symm.trans hbad) (by decide)
  · exact absurd (show liveL.Nodup by decide) hnd
  have hos := live_order hperm hpw
  subst hos
  rw [live_row] at hown3 ⊢
  have hl7 : liveR.length = 7 := rfl
  rw [hl7]
  have hbel3 := ext_trans (ext_trans hbel2 hbW2) hb3
  have hown2w : TyA w3 w3.heap.size A2 liveT := ((hown2'.below hbW2).below (hb3.mono (by omega))).more (by have := hb3.size; omega)
  have hown3' : TyA w3 w3.heap.size A3 liveR := OwnL.tyA hown3
  clear hb3 hSl hVl hLl hpw hperm hbW2 hW2 hW hown2 hown3 hown2' hbel2
  have htw := ht.below hbel3
  go_wp2_with fail
  refine (print_any 5 w3.heap.size cap2 A2 liveT w3 live_tree hown2w (Nat.le_refl _) (by decide) live_ok (by decide +kernel) (htw.more hbel3.size)).mono ?_
  rintro e w4 ⟨rfl, hb4⟩
  rw [live_pr]
  have hbel4 := ext_trans hbel3 hb4
  go_wp2_with fail
  refine (print_any 7 w4.heap.size cap3 A3 liveR w4 live_treeR ((hown3'.below hb4).more hb4.size) (Nat.le_refl _) (by decide) live_okR (by decide +kernel) ((ht.below hbel4).more hbel4.size)).mono ?_
  rintro e w5 ⟨rfl, hb5⟩
  rw [live_prR]
  have hb45 := ext_trans hb4 hb5
  go_wp2_with fail
  refine (right_any A3 cap3 liveR w5 ((hown3'.below hb45).more hb45.size) (by decide) (fun x hx => (live_okR x hx).s1)).mono ?_
  rintro e w6 ⟨rfl, hb6⟩
  rw [live_right]
  have hb46 := ext_trans hb45 hb6
  go_wp2_with fail
  refine (static_any A3 cap3 liveR w6 ((hown3'.below hb46).more hb46.size) (by decide)).mono ?_
  rintro e w7 ⟨rfl, hb7⟩
  rw [live_static]
  have hb47 := ext_trans hb46 hb7
  go_wp2_with fail
  refine (pEnd_any A3 cap3 liveR [⟨4, ⟨#[97]⟩, 0⟩] [⟨5, ⟨#[98]⟩, 0⟩, nd 1 0, nd 5 0, nd 2 0, nd 0 0] 1 w7 ((hown3'.below hb47).more hb47.size) (by decide) rfl (by intro x hx; simp at hx; subst hx; rfl) rfl).mono ?_
  rintro e w8 ⟨rfl, hb8⟩
  go_wp2_with fail
  go_ret
  exact ⟨rfl, ext_trans hbel3 (ext_trans hb47 hb8)⟩
end Go.Proofs.YtblfeokjlecgkaaDoor
