/- Laid together by a tool from the texts of this seat: UEndsB. Conditions: each theorem's own. -/
import Derived.Test.YtblfeokjlecgkaaO27
/- unify.ends with a tail, walked. Written by gen_ends.py. -/
namespace Go.Proofs.Ytblfeokjlecgkaa
open Go.RowKit

attribute [local go_sem ↓] Go.wp_at_zero Go.wp_at_succ

section
variable {U : List Lb} {s m : Nat} {first : Int} {S : Kn} {a b : Ut} {x y : Fl} {p q : Option Int} {w : World} {UA VA : Option Addr} {ul vl : List (ByteArray × Nat)} {tp tq : Option Addr}

set_option maxRecDepth 100000 in
set_option maxHeartbeats 4000000 in
/-- The first one alone has a tail. -/
theorem ends_10 (cu cv : Nat) {p0 : Int} (h : EndsH U s m first S a b x y (some p0) none w UA VA ul vl tp tq) : EndsAt U s m first S a b x y w UA VA cu cv ul vl tp tq := by
  obtain ⟨bt, hbt, hbx, hbq⟩ := h.tp
  obtain rfl : tp = some ⟨bt, 0, none⟩ := by simpa [pk] using hbt
  obtain rfl : tq = none := by have : Value.pointer tq = .pointer none := h.tq; simpa using this
  have t1 : w.cell? ⟨bt, 1, none⟩ = some (.int .i64 p0) := by simp [World.cell?, hbq]
  have hbtz : bt < w.heap.size := (Array.getElem?_eq_some_iff.1 hbq).1
  have TC : Hid (∀ W, Fr (SX s m) w W → W.cell? ⟨bt, 1, none⟩ = some (.int .i64 p0)) := Lib.hid fun W hW => (World.cell?_of_block (w := w) (hW.block bt hbtz hbx)).trans t1
  obtain ⟨l1, l2⟩ := h.lu
  obtain ⟨u1, u2⟩ := h.un
  have HH := Lib.hid h
  have HU := Lib.hid (And.intro u1 u2)
  clear h u1 u2 hbt hbq hbx
  unfold EndsAt pk
  by_cases c1 : 0 < ul.length
  · have c1' : decide (0 < ul.length) = true := decide_eq_true c1
    go_enter Try.func146, Try.ntmps146
    go_wp2_with fail
    go_quiet (fail)
    go_wp2_with fail
    go_ret
    exact AgPost.no (below_drewN (Below.refl _ _) _) (HH.out.disU fun e => by have := HU.out.1.2 e; rw [this] at c1; simp at c1)
  · have c1' : decide (0 < ul.length) = false := decide_eq_false c1
    have e1 : Hid (lackF x y = []) := Lib.hid (HU.out.1.1 (List.eq_nil_of_length_eq_zero (by omega)))
    have hrb := HH.out.rb.of
    rw [HH.out.hab] at hrb
    obtain ⟨k8, k0, _⟩ := isRow_k HH.out.hk
    obtain ⟨lsp, hlp, rf⟩ := one_rowFor HH.out.ra.of hrb k0 k8
    have rlb := HH.out.rb.lb
    rw [HH.out.hab] at rlb
    obtain ⟨a1, a2, a3, a4, a5⟩ := row_parts (S := S) (x := x) (r := none) HH.out.hk HH.out.rb.el rlb (fun q hq => by cases hq) rfl
    have hfu : fuT S.L (.mk a.k 0 (lackF y x) none) := by
      rw [fuT_mk]
      exact ⟨(fun q ls hq => by cases hq), a4⟩
    have hT : TG U S (.mk a.k 0 (lackF y x) none) := ⟨⟨rf.ok, rf.bd⟩, hfu, a2, a1, a3⟩
    obtain ⟨hmm, gs⟩ := hT.stc HH.out.kg
    have HT := Lib.hid (And.intro (hT.small HH.out.hU) (And.intro hmm (And.intro gs a5)))
    have hpu : Hid (S.κ p0 = none) := Lib.hid (HH.out.ra.of.tl p0 rfl).2.1
    have HOf : Hid (∀ W, Below w.heap.size w W → Calls Try.prog 179 #[.int .i64 a.k, .slice VA vl.length cv, .pointer none] W fun e w' => ∃ g, e = .returned (.pointer (some ⟨g, 0, none⟩)) ∧ NodeAt (SX s m) w' g (.mk a.k 0 (lackF y x) none) ∧ Below w.heap.size w w') := Lib.hid fun W hW => by
      refine (of_node (SX s m) a.k VA cv vl (lackF y x) (.pointer none) none W (fun k hk => Nat.lt_of_lt_of_le (SX_lt HH.out.sol k hk) hW.size) ((HH.out.rv.read.below hW).more hW.size) (by omega) (HH.out.cv.bel hW) rfl).mono ?_
      rintro e w' ⟨g, he, h1, h2⟩
      exact ⟨g, he, h1, ext_trans hW h2⟩
    clear hrb rlb rf a1 a2 a3 a4 a5 hfu hT hmm gs k8 k0 hlp
    by_cases o : occN p0 (inst S.σ (stc S.m (.mk a.k 0 (lackF y x) none)).1)
    · have HOc := Lib.hid o
      clear o
      have HB : Hid (∀ (g : Nat) (W : World), NodeAt (SX s m) W g (.mk a.k 0 (lackF y x) none) → Below w.heap.size w W → Calls Try.prog 111 #[.pointer (some ⟨s, 0, none⟩), .int .i64 p0, .pointer (some ⟨g, 0, none⟩)] W fun e w' => e = .returned (.bool false) ∧ Fr (SX s m) w w') := Lib.hid fun g W hg hW => by
        refine (become_no U s m first S p0 _ g W (HH.out.sol.bel hW) HH.out.kg HH.out.hU hg HT.out.1 HT.out.2.1 (.inl HT.out.2.2.1) hpu.out (by rw [HT.out.2.2.2]; have := HH.out.mb; omega) HOc.out).mono ?_
        rintro e w' ⟨he, hf⟩
        exact ⟨he, (Fr.below hW).trans hf⟩
      have c2 : decide (0 < vl.length) = true ∨ decide (0 < vl.length) = false := by cases decide (0 < vl.length) <;> simp
      rcases c2 with c2 | c2
      all_goals
        go_enter Try.func146, Try.ntmps146
        go_wp2_with fail
        go_quiet (fail)
        go_wp2_with fail
        refine wp_region_held_drew (S := fun v => v.cell? ⟨bt, 1, none⟩ = some (.int .i64 p0)) (by kernel_rfl) ?_ (fun hHeld => ?_)
        · exact TC.out _ (Fr.below (by first | exact below_drewN (Below.refl _ _) _ | exact (below_drewN (Below.refl _ _) _).drew))
        refine takeOn 0 (some 63) (v := ?_) rfl rfl (by kernel_rfl) (by kernel_rfl) (by kernel_rfl) (fun _ _ _ h => h) (by rfl) ?_ (by assumption) ?_
        rotate_left
        · (intro w hSw; (try dsimp only at hSw); go_simp; try with_reducible rfl)
        try simp only [Act.put, List.setIfInBounds_toArray, List.set_cons_zero, List.set_cons_succ]
        refine takeOn 1 (some 64) (v := ?_) rfl rfl (by kernel_rfl) (by kernel_rfl) (by kernel_rfl) (fun _ _ _ h => h) (by rfl) ?_ (by assumption) ?_
        rotate_left
        · (intro w hSw; (try dsimp only at hSw); go_simp; try with_reducible rfl)
        try simp only [Act.put, List.setIfInBounds_toArray, List.set_cons_zero, List.set_cons_succ]
        refine takeOn 2 (some 65) (v := ?_) rfl rfl (by kernel_rfl) (by kernel_rfl) (by kernel_rfl) (fun _ _ _ h => h) (by rfl) ?_ (by assumption) ?_
        rotate_left
        · (intro w hSw; (try dsimp only at hSw); go_simp; try with_reducible rfl)
        try simp only [Act.put, List.setIfInBounds_toArray, List.set_cons_zero, List.set_cons_succ]
        refine takeOn 3 (some 66) (v := ?_) rfl rfl (by kernel_rfl) (by kernel_rfl) (by kernel_rfl) (fun _ _ _ h => h) (by rfl) ?_ (by assumption) ?_
        rotate_left
        · (intro w hSw; (try dsimp only at hSw); go_simp; try with_reducible rfl)
        try simp only [Act.put, List.setIfInBounds_toArray, List.set_cons_zero, List.set_cons_succ]
        refine takeOn 4 (some 67) (v := ?_) rfl rfl (by kernel_rfl) (by kernel_rfl) (by kernel_rfl) (fun _ _ _ h => h) (by rfl) ?_ (by assumption) ?_
        rotate_left
        · (intro w hSw; (try dsimp only at hSw); go_simp; try with_reducible rfl)
        try simp only [Act.put, List.setIfInBounds_toArray, List.set_cons_zero, List.set_cons_succ]
        refine takeOn 5 (some 68) (v := ?_) rfl rfl (by kernel_rfl) (by kernel_rfl) (by kernel_rfl) (fun _ _ _ h => h) (by rfl) ?_ (by assumption) ?_
        rotate_left
        · (intro w hSw; (try dsimp only at hSw); go_simp; try with_reducible rfl)
        try simp only [Act.put, List.setIfInBounds_toArray, List.set_cons_zero, List.set_cons_succ]
        refine takeOn 6 (some 69) (v := ?_) rfl rfl (by kernel_rfl) (by kernel_rfl) (by kernel_rfl) (fun _ _ _ h => h) (by rfl) ?_ (by assumption) ?_
        rotate_left
        · (intro w hSw; (try dsimp only at hSw); go_simp; try with_reducible rfl)
        try simp only [Act.put, List.setIfInBounds_toArray, List.set_cons_zero, List.set_cons_succ]
        refine takeOn 7 (some 70) (v := ?_) rfl rfl (by kernel_rfl) (by kernel_rfl) (by kernel_rfl) (fun _ _ _ h => h) (by rfl) ?_ (by assumption) ?_
        rotate_left
        · (intro w hSw; (try dsimp only at hSw); go_simp; try with_reducible rfl)
        try simp only [Act.put, List.setIfInBounds_toArray, List.set_cons_zero, List.set_cons_succ]
        refine takeOn 8 (some 71) (v := ?_) rfl rfl (by kernel_rfl) (by kernel_rfl) (by kernel_rfl) (fun _ _ _ h => h) (by rfl) ?_ (by assumption) ?_
        rotate_left
        · (intro w hSw; (try dsimp only at hSw); go_simp; try with_reducible rfl)
        try simp only [Act.put, List.setIfInBounds_toArray, List.set_cons_zero, List.set_cons_succ]
        refine takeOn 9 (some 72) (v := ?_) rfl rfl (by kernel_rfl) (by kernel_rfl) (by kernel_rfl) (fun _ _ _ h => h) (by rfl) ?_ (by assumption) ?_
        rotate_left
        · (intro w hSw; (try dsimp only at hSw); go_simp; try with_reducible rfl)
        try simp only [Act.put, List.setIfInBounds_toArray, List.set_cons_zero, List.set_cons_succ]
        refine takeOn 10 (some 73) (v := ?_) rfl rfl (by kernel_rfl) (by kernel_rfl) (by kernel_rfl) (fun _ _ _ h => h) (by rfl) ?_ (by assumption) ?_
        rotate_left
        · (intro w hSw; (try dsimp only at hSw); go_simp; try with_reducible rfl)
        try simp only [Act.put, List.setIfInBounds_toArray, List.set_cons_zero, List.set_cons_succ]
        refine takeCall 11 (some 74) rfl rfl (by kernel_rfl) (by rfl) (by go_simp) (HOf.out _ (by first | exact below_drewN (Below.refl _ _) _ | exact (below_drewN (Below.refl _ _) _).drew)) ?_
        rintro e w1 ⟨g, rfl, n1, b1⟩
        have N1 := Lib.hid (And.intro n1 b1)
        clear n1 b1
        have sc11 := TC.out _ (Fr.below N1.out.2)
        refine ⟨.pointer (some ⟨g, 0, none⟩), rfl, sc11, ?_⟩
        try simp only [Act.put, List.setIfInBounds_toArray, List.set_cons_zero, List.set_cons_succ]
        refine takeCall 12 (some 75) rfl rfl (by kernel_rfl) (by rfl) (by go_simp) (HB.out _ _ N1.out.1 N1.out.2) ?_
        rintro e w2 ⟨rfl, f1⟩
        have F1 := Lib.hid f1
        clear f1
        have sc12 := TC.out _ F1.out
        refine ⟨.bool false, rfl, sc12, ?_⟩
        try simp only [Act.put, List.setIfInBounds_toArray, List.set_cons_zero, List.set_cons_succ]
        refine takeOn 13 (some 76) (v := ?_) rfl rfl (by kernel_rfl) (by kernel_rfl) (by kernel_rfl) (fun _ _ _ h => h) (by rfl) ?_ (by assumption) ?_
        rotate_left
        · (intro w hSw; (try dsimp only at hSw); go_simp; try with_reducible rfl)
        try simp only [Act.put, List.setIfInBounds_toArray, List.set_cons_zero, List.set_cons_succ]
        refine takeOn 14 (some 77) (v := ?_) rfl rfl (by kernel_rfl) (by kernel_rfl) (by kernel_rfl) (fun _ _ _ h => h) (by rfl) ?_ (by assumption) ?_
        rotate_left
        · (intro w hSw; (try dsimp only at hSw); go_simp; try with_reducible rfl)
        try simp only [Act.put, List.setIfInBounds_toArray, List.set_cons_zero, List.set_cons_succ]
        refine takeOff 15 (some 78) rfl rfl (by kernel_rfl) (by kernel_rfl) (by kernel_rfl) (fun _ _ _ h => h) (by rfl) (by assumption) ?_
        try simp only [Act.put, List.setIfInBounds_toArray, List.set_cons_zero, List.set_cons_succ]
        refine takeOff 16 (some 79) rfl rfl (by kernel_rfl) (by kernel_rfl) (by kernel_rfl) (fun _ _ _ h => h) (by rfl) (by assumption) ?_
        try simp only [Act.put, List.setIfInBounds_toArray, List.set_cons_zero, List.set_cons_succ]
        refine takeOff 17 (some 80) rfl rfl (by kernel_rfl) (by kernel_rfl) (by kernel_rfl) (fun _ _ _ h => h) (by rfl) (by assumption) ?_
        try simp only [Act.put, List.setIfInBounds_toArray, List.set_cons_zero, List.set_cons_succ]
        refine takeOff 18 (some 81) rfl rfl (by kernel_rfl) (by kernel_rfl) (by kernel_rfl) (fun _ _ _ h => h) (by rfl) (by assumption) ?_
        try simp only [Act.put, List.setIfInBounds_toArray, List.set_cons_zero, List.set_cons_succ]
        refine takeOff 19 (some 82) rfl rfl (by kernel_rfl) (by kernel_rfl) (by kernel_rfl) (fun _ _ _ h => h) (by rfl) (by assumption) ?_
        try simp only [Act.put, List.setIfInBounds_toArray, List.set_cons_zero, List.set_cons_succ]
        refine takeOff 20 (some 83) rfl rfl (by kernel_rfl) (by kernel_rfl) (by kernel_rfl) (fun _ _ _ h => h) (by rfl) (by assumption) ?_
        try simp only [Act.put, List.setIfInBounds_toArray, List.set_cons_zero, List.set_cons_succ]
        refine takeOff 21 (some 84) rfl rfl (by kernel_rfl) (by kernel_rfl) (by kernel_rfl) (fun _ _ _ h => h) (by rfl) (by assumption) ?_
        try simp only [Act.put, List.setIfInBounds_toArray, List.set_cons_zero, List.set_cons_succ]
        refine takeOff 22 (some 85) rfl rfl (by kernel_rfl) (by kernel_rfl) (by kernel_rfl) (fun _ _ _ h => h) (by rfl) (by assumption) ?_
        try simp only [Act.put, List.setIfInBounds_toArray, List.set_cons_zero, List.set_cons_succ]
        refine takeOff 23 (some 86) rfl rfl (by kernel_rfl) (by kernel_rfl) (by kernel_rfl) (fun _ _ _ h => h) (by rfl) (by assumption) ?_
        try simp only [Act.put, List.setIfInBounds_toArray, List.set_cons_zero, List.set_cons_succ]
        refine takeOff 24 (some 87) rfl rfl (by kernel_rfl) (by kernel_rfl) (by kernel_rfl) (fun _ _ _ h => h) (by rfl) (by assumption) ?_
        try simp only [Act.put, List.setIfInBounds_toArray, List.set_cons_zero, List.set_cons_succ]
        refine takeOff 25 (some 88) rfl rfl (by kernel_rfl) (by kernel_rfl) (by kernel_rfl) (fun _ _ _ h => h) (by rfl) (by assumption) ?_
        try simp only [Act.put, List.setIfInBounds_toArray, List.set_cons_zero, List.set_cons_succ]
        refine takeOff 26 (some 89) rfl rfl (by kernel_rfl) (by kernel_rfl) (by kernel_rfl) (fun _ _ _ h => h) (by rfl) (by assumption) ?_
        try simp only [Act.put, List.setIfInBounds_toArray, List.set_cons_zero, List.set_cons_succ]
        refine takeOff 27 (some 90) rfl rfl (by kernel_rfl) (by kernel_rfl) (by kernel_rfl) (fun _ _ _ h => h) (by rfl) (by assumption) ?_
        try simp only [Act.put, List.setIfInBounds_toArray, List.set_cons_zero, List.set_cons_succ]
        refine takeOff 28 (some 91) rfl rfl (by kernel_rfl) (by kernel_rfl) (by kernel_rfl) (fun _ _ _ h => h) (by rfl) (by assumption) ?_
        try simp only [Act.put, List.setIfInBounds_toArray, List.set_cons_zero, List.set_cons_succ]
        refine takeOn 29 (some 92) (v := ?_) rfl rfl (by kernel_rfl) (by kernel_rfl) (by kernel_rfl) (fun _ _ _ h => h) (by rfl) ?_ (by assumption) ?_
        rotate_left
        · (intro w hSw; (try dsimp only at hSw); go_simp; try with_reducible rfl)
        try simp only [Act.put, List.setIfInBounds_toArray, List.set_cons_zero, List.set_cons_succ]
        refine takeOn 30 (some 12) (v := ?_) rfl rfl (by kernel_rfl) (by kernel_rfl) (by kernel_rfl) (fun _ _ _ h => h) (by rfl) ?_ (by assumption) ?_
        rotate_left
        · (intro w hSw; (try dsimp only at hSw); go_simp; try with_reducible rfl)
        try simp only [Act.put, List.setIfInBounds_toArray, List.set_cons_zero, List.set_cons_succ]
        refine wpAnyH_done (by kernel_rfl) ?_ _
        go_wp2_with fail
        go_ret
        have hh := HH.out
        exact ⟨false, rfl, F1.out, fun _ => dis_one hh.kg hh.ra hh.rb hh.hk hh.hab hh.sh e1.out HOc.out, fun h => by cases h⟩
    · have HOc := Lib.hid o
      clear o
      have HB : Hid (∀ (g : Nat) (W : World), NodeAt (SX s m) W g (.mk a.k 0 (lackF y x) none) → Below w.heap.size w W → Calls Try.prog 111 #[.pointer (some ⟨s, 0, none⟩), .int .i64 p0, .pointer (some ⟨g, 0, none⟩)] W fun e w' => e = .returned (.bool true) ∧ Fr (SX s m) w w' ∧ ∀ S' : Kn, S'.κ = upd S.κ p0 (stc S.m (.mk a.k 0 (lackF y x) none)).1 → S'.m = (stc S.m (.mk a.k 0 (lackF y x) none)).2 → SolAt (SX s m) s m first w' S') := Lib.hid fun g W hg hW => by
        refine (become_yes U s m first S p0 _ g W (HH.out.sol.bel hW) HH.out.kg HH.out.hU hg HT.out.1 HT.out.2.1 (.inl HT.out.2.2.1) hpu.out (by rw [HT.out.2.2.2]; have := HH.out.mb; omega) HOc.out).mono ?_
        rintro e w' ⟨he, hf, hr⟩
        exact ⟨he, (Fr.below hW).trans hf, hr⟩
      have c2 : decide (0 < vl.length) = true ∨ decide (0 < vl.length) = false := by cases decide (0 < vl.length) <;> simp
      rcases c2 with c2 | c2
      all_goals
        go_enter Try.func146, Try.ntmps146
        go_wp2_with fail
        go_quiet (fail)
        go_wp2_with fail
        refine wp_region_held_drew (S := fun v => v.cell? ⟨bt, 1, none⟩ = some (.int .i64 p0)) (by kernel_rfl) ?_ (fun hHeld => ?_)
        · exact TC.out _ (Fr.below (by first | exact below_drewN (Below.refl _ _) _ | exact (below_drewN (Below.refl _ _) _).drew))
        refine takeOn 0 (some 63) (v := ?_) rfl rfl (by kernel_rfl) (by kernel_rfl) (by kernel_rfl) (fun _ _ _ h => h) (by rfl) ?_ (by assumption) ?_
        rotate_left
        · (intro w hSw; (try dsimp only at hSw); go_simp; try with_reducible rfl)
        try simp only [Act.put, List.setIfInBounds_toArray, List.set_cons_zero, List.set_cons_succ]
        refine takeOn 1 (some 64) (v := ?_) rfl rfl (by kernel_rfl) (by kernel_rfl) (by kernel_rfl) (fun _ _ _ h => h) (by rfl) ?_ (by assumption) ?_
        rotate_left
        · (intro w hSw; (try dsimp only at hSw); go_simp; try with_reducible rfl)
        try simp only [Act.put, List.setIfInBounds_toArray, List.set_cons_zero, List.set_cons_succ]
        refine takeOn 2 (some 65) (v := ?_) rfl rfl (by kernel_rfl) (by kernel_rfl) (by kernel_rfl) (fun _ _ _ h => h) (by rfl) ?_ (by assumption) ?_
        rotate_left
        · (intro w hSw; (try dsimp only at hSw); go_simp; try with_reducible rfl)
        try simp only [Act.put, List.setIfInBounds_toArray, List.set_cons_zero, List.set_cons_succ]
        refine takeOn 3 (some 66) (v := ?_) rfl rfl (by kernel_rfl) (by kernel_rfl) (by kernel_rfl) (fun _ _ _ h => h) (by rfl) ?_ (by assumption) ?_
        rotate_left
        · (intro w hSw; (try dsimp only at hSw); go_simp; try with_reducible rfl)
        try simp only [Act.put, List.setIfInBounds_toArray, List.set_cons_zero, List.set_cons_succ]
        refine takeOn 4 (some 67) (v := ?_) rfl rfl (by kernel_rfl) (by kernel_rfl) (by kernel_rfl) (fun _ _ _ h => h) (by rfl) ?_ (by assumption) ?_
        rotate_left
        · (intro w hSw; (try dsimp only at hSw); go_simp; try with_reducible rfl)
        try simp only [Act.put, List.setIfInBounds_toArray, List.set_cons_zero, List.set_cons_succ]
        refine takeOn 5 (some 68) (v := ?_) rfl rfl (by kernel_rfl) (by kernel_rfl) (by kernel_rfl) (fun _ _ _ h => h) (by rfl) ?_ (by assumption) ?_
        rotate_left
        · (intro w hSw; (try dsimp only at hSw); go_simp; try with_reducible rfl)
        try simp only [Act.put, List.setIfInBounds_toArray, List.set_cons_zero, List.set_cons_succ]
        refine takeOn 6 (some 69) (v := ?_) rfl rfl (by kernel_rfl) (by kernel_rfl) (by kernel_rfl) (fun _ _ _ h => h) (by rfl) ?_ (by assumption) ?_
        rotate_left
        · (intro w hSw; (try dsimp only at hSw); go_simp; try with_reducible rfl)
        try simp only [Act.put, List.setIfInBounds_toArray, List.set_cons_zero, List.set_cons_succ]
        refine takeOn 7 (some 70) (v := ?_) rfl rfl (by kernel_rfl) (by kernel_rfl) (by kernel_rfl) (fun _ _ _ h => h) (by rfl) ?_ (by assumption) ?_
        rotate_left
        · (intro w hSw; (try dsimp only at hSw); go_simp; try with_reducible rfl)
        try simp only [Act.put, List.setIfInBounds_toArray, List.set_cons_zero, List.set_cons_succ]
        refine takeOn 8 (some 71) (v := ?_) rfl rfl (by kernel_rfl) (by kernel_rfl) (by kernel_rfl) (fun _ _ _ h => h) (by rfl) ?_ (by assumption) ?_
        rotate_left
        · (intro w hSw; (try dsimp only at hSw); go_simp; try with_reducible rfl)
        try simp only [Act.put, List.setIfInBounds_toArray, List.set_cons_zero, List.set_cons_succ]
        refine takeOn 9 (some 72) (v := ?_) rfl rfl (by kernel_rfl) (by kernel_rfl) (by kernel_rfl) (fun _ _ _ h => h) (by rfl) ?_ (by assumption) ?_
        rotate_left
        · (intro w hSw; (try dsimp only at hSw); go_simp; try with_reducible rfl)
        try simp only [Act.put, List.setIfInBounds_toArray, List.set_cons_zero, List.set_cons_succ]
        refine takeOn 10 (some 73) (v := ?_) rfl rfl (by kernel_rfl) (by kernel_rfl) (by kernel_rfl) (fun _ _ _ h => h) (by rfl) ?_ (by assumption) ?_
        rotate_left
        · (intro w hSw; (try dsimp only at hSw); go_simp; try with_reducible rfl)
        try simp only [Act.put, List.setIfInBounds_toArray, List.set_cons_zero, List.set_cons_succ]
        refine takeCall 11 (some 74) rfl rfl (by kernel_rfl) (by rfl) (by go_simp) (HOf.out _ (by first | exact below_drewN (Below.refl _ _) _ | exact (below_drewN (Below.refl _ _) _).drew)) ?_
        rintro e w1 ⟨g, rfl, n1, b1⟩
        have N1 := Lib.hid (And.intro n1 b1)
        clear n1 b1
        have sc11 := TC.out _ (Fr.below N1.out.2)
        refine ⟨.pointer (some ⟨g, 0, none⟩), rfl, sc11, ?_⟩
        try simp only [Act.put, List.setIfInBounds_toArray, List.set_cons_zero, List.set_cons_succ]
        refine takeCall 12 (some 75) rfl rfl (by kernel_rfl) (by rfl) (by go_simp) (HB.out _ _ N1.out.1 N1.out.2) ?_
        rintro e w2 ⟨rfl, f1, f2⟩
        have F1 := Lib.hid (And.intro f1 f2)
        clear f1 f2
        have sc12 := TC.out _ F1.out.1
        refine ⟨.bool true, rfl, sc12, ?_⟩
        try simp only [Act.put, List.setIfInBounds_toArray, List.set_cons_zero, List.set_cons_succ]
        refine takeOn 13 (some 76) (v := ?_) rfl rfl (by kernel_rfl) (by kernel_rfl) (by kernel_rfl) (fun _ _ _ h => h) (by rfl) ?_ (by assumption) ?_
        rotate_left
        · (intro w hSw; (try dsimp only at hSw); go_simp; try with_reducible rfl)
        try simp only [Act.put, List.setIfInBounds_toArray, List.set_cons_zero, List.set_cons_succ]
        refine takeOn 14 (some 77) (v := ?_) rfl rfl (by kernel_rfl) (by kernel_rfl) (by kernel_rfl) (fun _ _ _ h => h) (by rfl) ?_ (by assumption) ?_
        rotate_left
        · (intro w hSw; (try dsimp only at hSw); go_simp; try with_reducible rfl)
        try simp only [Act.put, List.setIfInBounds_toArray, List.set_cons_zero, List.set_cons_succ]
        refine takeOn 15 (some 78) (v := ?_) rfl rfl (by kernel_rfl) (by kernel_rfl) (by kernel_rfl) (fun _ _ _ h => h) (by rfl) ?_ (by assumption) ?_
        rotate_left
        · (intro w hSw; (try dsimp only at hSw); go_simp; try with_reducible rfl)
        try simp only [Act.put, List.setIfInBounds_toArray, List.set_cons_zero, List.set_cons_succ]
        refine takeOn 16 (some 79) (v := ?_) rfl rfl (by kernel_rfl) (by kernel_rfl) (by kernel_rfl) (fun _ _ _ h => h) (by rfl) ?_ (by assumption) ?_
        rotate_left
        · (intro w hSw; (try dsimp only at hSw); go_simp; try with_reducible rfl)
        try simp only [Act.put, List.setIfInBounds_toArray, List.set_cons_zero, List.set_cons_succ]
        refine takeOn 17 (some 80) (v := ?_) rfl rfl (by kernel_rfl) (by kernel_rfl) (by kernel_rfl) (fun _ _ _ h => h) (by rfl) ?_ (by assumption) ?_
        rotate_left
        · (intro w hSw; (try dsimp only at hSw); go_simp; try with_reducible rfl)
        try simp only [Act.put, List.setIfInBounds_toArray, List.set_cons_zero, List.set_cons_succ]
        refine takeOff 18 (some 81) rfl rfl (by kernel_rfl) (by kernel_rfl) (by kernel_rfl) (fun _ _ _ h => h) (by rfl) (by assumption) ?_
        try simp only [Act.put, List.setIfInBounds_toArray, List.set_cons_zero, List.set_cons_succ]
        refine takeOff 19 (some 82) rfl rfl (by kernel_rfl) (by kernel_rfl) (by kernel_rfl) (fun _ _ _ h => h) (by rfl) (by assumption) ?_
        try simp only [Act.put, List.setIfInBounds_toArray, List.set_cons_zero, List.set_cons_succ]
        refine takeOff 20 (some 83) rfl rfl (by kernel_rfl) (by kernel_rfl) (by kernel_rfl) (fun _ _ _ h => h) (by rfl) (by assumption) ?_
        try simp only [Act.put, List.setIfInBounds_toArray, List.set_cons_zero, List.set_cons_succ]
        refine takeOff 21 (some 84) rfl rfl (by kernel_rfl) (by kernel_rfl) (by kernel_rfl) (fun _ _ _ h => h) (by rfl) (by assumption) ?_
        try simp only [Act.put, List.setIfInBounds_toArray, List.set_cons_zero, List.set_cons_succ]
        refine takeOff 22 (some 85) rfl rfl (by kernel_rfl) (by kernel_rfl) (by kernel_rfl) (fun _ _ _ h => h) (by rfl) (by assumption) ?_
        try simp only [Act.put, List.setIfInBounds_toArray, List.set_cons_zero, List.set_cons_succ]
        refine takeOff 23 (some 86) rfl rfl (by kernel_rfl) (by kernel_rfl) (by kernel_rfl) (fun _ _ _ h => h) (by rfl) (by assumption) ?_
        try simp only [Act.put, List.setIfInBounds_toArray, List.set_cons_zero, List.set_cons_succ]
        refine takeOff 24 (some 87) rfl rfl (by kernel_rfl) (by kernel_rfl) (by kernel_rfl) (fun _ _ _ h => h) (by rfl) (by assumption) ?_
        try simp only [Act.put, List.setIfInBounds_toArray, List.set_cons_zero, List.set_cons_succ]
        refine takeOff 25 (some 88) rfl rfl (by kernel_rfl) (by kernel_rfl) (by kernel_rfl) (fun _ _ _ h => h) (by rfl) (by assumption) ?_
        try simp only [Act.put, List.setIfInBounds_toArray, List.set_cons_zero, List.set_cons_succ]
        refine takeOff 26 (some 89) rfl rfl (by kernel_rfl) (by kernel_rfl) (by kernel_rfl) (fun _ _ _ h => h) (by rfl) (by assumption) ?_
        try simp only [Act.put, List.setIfInBounds_toArray, List.set_cons_zero, List.set_cons_succ]
        refine takeOff 27 (some 90) rfl rfl (by kernel_rfl) (by kernel_rfl) (by kernel_rfl) (fun _ _ _ h => h) (by rfl) (by assumption) ?_
        try simp only [Act.put, List.setIfInBounds_toArray, List.set_cons_zero, List.set_cons_succ]
        refine takeOn 28 (some 91) (v := ?_) rfl rfl (by kernel_rfl) (by kernel_rfl) (by kernel_rfl) (fun _ _ _ h => h) (by rfl) ?_ (by assumption) ?_
        rotate_left
        · (intro w hSw; (try dsimp only at hSw); go_simp; try with_reducible rfl)
        try simp only [Act.put, List.setIfInBounds_toArray, List.set_cons_zero, List.set_cons_succ]
        refine takeOn 29 (some 92) (v := ?_) rfl rfl (by kernel_rfl) (by kernel_rfl) (by kernel_rfl) (fun _ _ _ h => h) (by rfl) ?_ (by assumption) ?_
        rotate_left
        · (intro w hSw; (try dsimp only at hSw); go_simp; try with_reducible rfl)
        try simp only [Act.put, List.setIfInBounds_toArray, List.set_cons_zero, List.set_cons_succ]
        refine takeOn 30 (some 12) (v := ?_) rfl rfl (by kernel_rfl) (by kernel_rfl) (by kernel_rfl) (fun _ _ _ h => h) (by rfl) ?_ (by assumption) ?_
        rotate_left
        · (intro w hSw; (try dsimp only at hSw); go_simp; try with_reducible rfl)
        try simp only [Act.put, List.setIfInBounds_toArray, List.set_cons_zero, List.set_cons_succ]
        refine wpAnyH_done (by kernel_rfl) ?_ _
        go_wp2_with fail
        go_ret
        have hh := HH.out
        exact ⟨true, rfl, F1.out.1, fun h => (by cases h), fun _ => ⟨_, (done_one hh.kg hh.ra hh.rb hh.hk hh.hab hh.sh e1.out HOc.out).more (by omega), F1.out.2 _ rfl rfl⟩⟩
end
end Go.Proofs.Ytblfeokjlecgkaa
