/- Laid together by a tool from the texts of this seat: UEndsD. Conditions: each theorem's own. -/
import Derived.Test.YtblfeokjlecgkaaO27
/- unify.ends with a tail, walked. Written by gen_ends.py. -/
namespace Go.Proofs.Ytblfeokjlecgkaa
open Go.RowKit

attribute [local go_sem ↓] Go.wp_at_zero Go.wp_at_succ

section
variable {U : List Lb} {s m : Nat} {first : Int} {S : Kn} {a b : Ut} {x y : Fl} {p q : Option Int} {w : World} {UA VA : Option Addr} {ul vl : List (ByteArray × Nat)} {tp tq : Option Addr}

theorem TailAt.bel {X : Nat → Prop} {w w' : World} {v : Value} {tl : Option Int} (h : TailAt X w v tl) (hb : Below w.heap.size w w') : TailAt X w' v tl := h.fr (Fr.below (X := fun _ => False) hb) fun _ _ e => e.elim

set_option maxRecDepth 100000 in
set_option maxHeartbeats 4000000 in
/-- Both have one tail. -/
theorem ends_same11 (cu cv : Nat) {p0 : Int} (h : EndsH U s m first S a b x y (some p0) (some p0) w UA VA ul vl tp tq) : EndsAt U s m first S a b x y w UA VA cu cv ul vl tp tq := by
  obtain ⟨bt, hbt, hbx, hbq⟩ := h.tp
  obtain rfl : tp = some ⟨bt, 0, none⟩ := by simpa [pk] using hbt
  obtain ⟨bu, hbu, hux, huq⟩ := h.tq
  obtain rfl : tq = some ⟨bu, 0, none⟩ := by simpa [pk] using hbu
  have tc1 : w.cell? ⟨bt, 1, none⟩ = some (.int .i64 p0) := by simp [World.cell?, hbq]
  have tc2 : w.cell? ⟨bu, 1, none⟩ = some (.int .i64 p0) := by simp [World.cell?, huq]
  have hbtz : bt < w.heap.size := (Array.getElem?_eq_some_iff.1 hbq).1
  have hbuz : bu < w.heap.size := (Array.getElem?_eq_some_iff.1 huq).1
  obtain ⟨l1, l2⟩ := h.lu
  obtain ⟨u1, u2⟩ := h.un
  have HH := Lib.hid h
  have HU := Lib.hid (And.intro u1 u2)
  clear h u1 u2 hbt hbq hbx hbu hux huq
  have c0 : (p0 == p0) = true := by simp
  unfold EndsAt pk
  by_cases e : ul.length + vl.length = 0
  · have c1 : (((ul.length : Int) + (vl.length : Int)) == 0) = true := by simp; omega
    have HE := Lib.hid e
    clear e
    go_enter Try.func146, Try.ntmps146
    go_wp2_with fail
    go_quiet (fail)
    go_wp2_with fail
    go_ret
    have hh := HH.out
    exact AgPost.same (below_drewN (Below.refl _ _) _) hh.sol (done_ends0 hh.kg hh.ra hh.rb hh.hk hh.hab hh.sh (HU.out.1.1 (List.eq_nil_of_length_eq_zero (by have := HE.out; omega))) (HU.out.2.1 (List.eq_nil_of_length_eq_zero (by have := HE.out; omega))) _)
  · have c1 : (((ul.length : Int) + (vl.length : Int)) == 0) = false := by simp; omega
    have HE := Lib.hid e
    clear e
    go_enter Try.func146, Try.ntmps146
    go_wp2_with fail
    go_quiet (fail)
    go_wp2_with fail
    go_ret
    have hh := HH.out
    exact AgPost.no (below_drewN (Below.refl _ _) _) (dis_same hh.ra hh.rb hh.hk hh.hab fun e => HE.out (by rw [HU.out.1.2 e.1, HU.out.2.2 e.2]; rfl))

set_option maxRecDepth 100000 in
set_option maxHeartbeats 8000000 in
/-- Both have tails of their own. -/
theorem ends_11 (cu cv : Nat) {p0 q0 : Int} (hpq : p0 ≠ q0) (h : EndsH U s m first S a b x y (some p0) (some q0) w UA VA ul vl tp tq) : EndsAt U s m first S a b x y w UA VA cu cv ul vl tp tq := by
  obtain ⟨bt, hbt, hbx, hbq⟩ := h.tp
  obtain rfl : tp = some ⟨bt, 0, none⟩ := by simpa [pk] using hbt
  obtain ⟨bu, hbu, hux, huq⟩ := h.tq
  obtain rfl : tq = some ⟨bu, 0, none⟩ := by simpa [pk] using hbu
  have t1c : w.cell? ⟨bt, 1, none⟩ = some (.int .i64 p0) := by simp [World.cell?, hbq]
  have t2c : w.cell? ⟨bu, 1, none⟩ = some (.int .i64 q0) := by simp [World.cell?, huq]
  have hbtz : bt < w.heap.size := (Array.getElem?_eq_some_iff.1 hbq).1
  have hbuz : bu < w.heap.size := (Array.getElem?_eq_some_iff.1 huq).1
  have TC : Hid (∀ W, Fr (SX s m) w W → W.cell? ⟨bt, 1, none⟩ = some (.int .i64 p0) ∧ W.cell? ⟨bu, 1, none⟩ = some (.int .i64 q0)) := Lib.hid fun W hW => ⟨(World.cell?_of_block (w := w) (hW.block bt hbtz hbx)).trans t1c, (World.cell?_of_block (w := w) (hW.block bu hbuz hux)).trans t2c⟩
  obtain ⟨l1, l2⟩ := h.lu
  have HH := Lib.hid h
  have HPQ := Lib.hid hpq
  have c0 : (p0 == q0) = false := by simpa using hpq
  obtain ⟨k1, b1, d1⟩ := two_bec1 h.kg h.hU h.ra h.rb h.hk h.hab
  have HB1 := Lib.hid (And.intro k1 (And.intro b1 d1))
  have hp1 : Hid ((S1 S x y).κ p0 = none) := Lib.hid (h.ra.of.tl p0 rfl).2.1
  have HFr : Hid (∀ W, Below w.heap.size w W → Calls Try.prog 70 #[.pointer (some ⟨s, 0, none⟩), .int .i64 9] W fun e w' => ∃ g, e = .returned (.pointer (some ⟨g, 0, none⟩)) ∧ SolAt (SX s m) s m first w' (S1 S x y) ∧ TailAt (SX s m) w' (.pointer (some ⟨g, 0, none⟩)) (some S.m) ∧ Fr (SX s m) w w') := Lib.hid fun W hW => by
    have hm0 := HH.out.kg.nn.m
    have hmb := HH.out.mb
    have hW2 := HH.out.sol.bel hW
    refine (ufresh_any s m first S.m 9 W hW2.st (by omega) (by omega)).mono ?_
    rintro e w' ⟨g, he, h1, h2, h3, h4⟩
    refine ⟨g, he, hW2.fresh h3 h4 rfl rfl, ⟨g, rfl, fun hx => ?_, h2⟩, (Fr.below hW).trans (h4.mono fun k e => .inl e)⟩
    have h5 := SX_lt hW2 g hx
    omega
  clear h hpq hbt hbq hbx hbu hux huq k1 b1 d1 t1c t2c
  have tc1 : w.cell? ⟨bt, 1, none⟩ = some (.int .i64 p0) := (TC.out w (Fr.refl _ _)).1
  have tc2 : w.cell? ⟨bu, 1, none⟩ = some (.int .i64 q0) := (TC.out w (Fr.refl _ _)).2
  unfold EndsAt pk
  have cu2 : decide (0 < ul.length) = true ∨ decide (0 < ul.length) = false := by cases decide (0 < ul.length) <;> simp
  have cv2 : decide (0 < vl.length) = true ∨ decide (0 < vl.length) = false := by cases decide (0 < vl.length) <;> simp
  by_cases o1 : occN p0 (inst (S1 S x y).σ (stc (S1 S x y).m (t1 S a.k x y)).1)
  · have HO1 := Lib.hid o1
    clear o1
    have HF1 : Hid (∀ (g : Nat) (W : World), TailAt (SX s m) W (.pointer (some ⟨g, 0, none⟩)) (some S.m) → Fr (SX s m) w W → Calls Try.prog 179 #[.int .i64 a.k, .slice VA vl.length cv, .pointer (some ⟨g, 0, none⟩)] W fun e w' => ∃ g2, e = .returned (.pointer (some ⟨g2, 0, none⟩)) ∧ NodeAt (SX s m) w' g2 (t1 S a.k x y) ∧ Below W.heap.size W w') := Lib.hid fun g W ht hW => by
      refine (of_node (SX s m) a.k VA cv vl (lackF y x) (.pointer (some ⟨g, 0, none⟩)) (some S.m) W (fun k hk => Nat.lt_of_lt_of_le (SX_lt HH.out.sol k hk) hW.size) (HH.out.rv.fr hW fun k _ e => e).read (by omega) (HH.out.cv.fr hW fun k _ e => e) ht).mono ?_
      rintro e w' ⟨g2, he, h1, h2⟩
      exact ⟨g2, he, h1, h2⟩
    have HX1 : Hid (∀ (g : Nat) (W : World), NodeAt (SX s m) W g (t1 S a.k x y) → SolAt (SX s m) s m first W (S1 S x y) → Fr (SX s m) w W → Calls Try.prog 111 #[.pointer (some ⟨s, 0, none⟩), .int .i64 p0, .pointer (some ⟨g, 0, none⟩)] W fun e w' => e = .returned (.bool false) ∧ Fr (SX s m) w w') := Lib.hid fun g W hg hS hW => by
      refine (become_no U s m first (S1 S x y) p0 _ g W hS HB1.out.1 HH.out.hU hg HB1.out.2.1.small HB1.out.2.1.mm HB1.out.2.1.gs hp1.out (by rw [HB1.out.2.2]; have := HH.out.mb; have e : (S1 S x y).m = S.m + 1 := rfl; omega) HO1.out).mono ?_
      rintro e w' ⟨he, hf⟩
      exact ⟨he, hW.trans hf⟩
    rcases cu2 with c2 | c2
    all_goals
      rcases cv2 with c3 | c3
      all_goals
        go_enter Try.func146, Try.ntmps146
        go_wp2_with fail
        go_quiet (fail)
        go_wp2_with fail
        refine (HFr.out _ ?_).mono ?_
        · first | exact below_drewN (Below.refl _ _) _ | exact (below_drewN (Below.refl _ _) _).drew
        rintro e w1 ⟨g, rfl, s1, ta1, f1⟩
        have G1 := Lib.hid (And.intro s1 (And.intro ta1 f1))
        clear s1 ta1 f1
        go_wp2_with fail
        refine wp_region_held_drew (S := fun v => v.cell? ⟨bt, 1, none⟩ = some (.int .i64 p0) ∧ v.cell? ⟨bu, 1, none⟩ = some (.int .i64 q0)) (by kernel_rfl) ?_ (fun hHeld => ?_)
        · exact TC.out _ (G1.out.2.2.trans (Fr.below (Below.refl _ _).drew))
        refine takeOn 0 (some 63) (v := ?_) rfl rfl (by kernel_rfl) (by kernel_rfl) (by kernel_rfl) (fun _ _ _ h => h) (by rfl) ?_ (by assumption) ?_
        rotate_left
        · (intro w hSw; (try dsimp only at hSw); go_simp; try with_reducible rfl)
        try simp only [Act.put, List.setIfInBounds_toArray, List.set_cons_zero, List.set_cons_succ]
        refine takeOn 1 (some 64) (v := ?_) rfl rfl (by kernel_rfl) (by kernel_rfl) (by kernel_rfl) (fun _ _ _ h => h) (by rfl) ?_ (by assumption) ?_
        rotate_left
        · (intro w hSw; (try dsimp only at hSw); go_simp; try with_reducible rfl)
        try simp only [Act.put, List.setIfInBounds_toArray, List.set_cons_zero, List.set_cons_succ]
        refine takeOn 2 (some 65) (v := ?_) rfl rfl (by kernel_rfl) (by kernel_rfl) (by kernel_rfl) (fun _ _ _ h => h) (by rfl) ?_ (by assumption) ?_
        rotate_left
        · (intro w hSw; (try dsimp only at hSw); go_simp; try with_reducible rfl)
        try simp only [Act.put, List.setIfInBounds_toArray, List.set_cons_zero, List.set_cons_succ]
        refine takeOn 3 (some 66) (v := ?_) rfl rfl (by kernel_rfl) (by kernel_rfl) (by kernel_rfl) (fun _ _ _ h => h) (by rfl) ?_ (by assumption) ?_
        rotate_left
        · (intro w hSw; (try dsimp only at hSw); go_simp; try with_reducible rfl)
        try simp only [Act.put, List.setIfInBounds_toArray, List.set_cons_zero, List.set_cons_succ]
        refine takeOn 4 (some 67) (v := ?_) rfl rfl (by kernel_rfl) (by kernel_rfl) (by kernel_rfl) (fun _ _ _ h => h) (by rfl) ?_ (by assumption) ?_
        rotate_left
        · (intro w hSw; (try dsimp only at hSw); go_simp; try with_reducible rfl)
        try simp only [Act.put, List.setIfInBounds_toArray, List.set_cons_zero, List.set_cons_succ]
        refine takeOn 5 (some 68) (v := ?_) rfl rfl (by kernel_rfl) (by kernel_rfl) (by kernel_rfl) (fun _ _ _ h => h) (by rfl) ?_ (by assumption) ?_
        rotate_left
        · (intro w hSw; (try dsimp only at hSw); go_simp; try with_reducible rfl)
        try simp only [Act.put, List.setIfInBounds_toArray, List.set_cons_zero, List.set_cons_succ]
        refine takeOn 6 (some 69) (v := ?_) rfl rfl (by kernel_rfl) (by kernel_rfl) (by kernel_rfl) (fun _ _ _ h => h) (by rfl) ?_ (by assumption) ?_
        rotate_left
        · (intro w hSw; (try dsimp only at hSw); go_simp; try with_reducible rfl)
        try simp only [Act.put, List.setIfInBounds_toArray, List.set_cons_zero, List.set_cons_succ]
        refine takeOn 7 (some 70) (v := ?_) rfl rfl (by kernel_rfl) (by kernel_rfl) (by kernel_rfl) (fun _ _ _ h => h) (by rfl) ?_ (by assumption) ?_
        rotate_left
        · (intro w hSw; (try dsimp only at hSw); go_simp; try with_reducible rfl)
        try simp only [Act.put, List.setIfInBounds_toArray, List.set_cons_zero, List.set_cons_succ]
        refine takeOn 8 (some 71) (v := ?_) rfl rfl (by kernel_rfl) (by kernel_rfl) (by kernel_rfl) (fun _ _ _ h => h) (by rfl) ?_ (by assumption) ?_
        rotate_left
        · (intro w hSw; (try dsimp only at hSw); go_simp; try with_reducible rfl)
        try simp only [Act.put, List.setIfInBounds_toArray, List.set_cons_zero, List.set_cons_succ]
        refine takeOn 9 (some 72) (v := ?_) rfl rfl (by kernel_rfl) (by kernel_rfl) (by kernel_rfl) (fun _ _ _ h => h) (by rfl) ?_ (by assumption) ?_
        rotate_left
        · (intro w hSw; (try dsimp only at hSw); go_simp; try with_reducible rfl)
        try simp only [Act.put, List.setIfInBounds_toArray, List.set_cons_zero, List.set_cons_succ]
        refine takeOn 10 (some 73) (v := ?_) rfl rfl (by kernel_rfl) (by kernel_rfl) (by kernel_rfl) (fun _ _ _ h => h) (by rfl) ?_ (by assumption) ?_
        rotate_left
        · (intro w hSw; (try dsimp only at hSw); go_simp; try with_reducible rfl)
        try simp only [Act.put, List.setIfInBounds_toArray, List.set_cons_zero, List.set_cons_succ]
        refine takeCall 11 (some 74) rfl rfl (by kernel_rfl) (by rfl) (by go_simp) (HF1.out g _ (G1.out.2.1.bel (Below.refl _ _).drew) (G1.out.2.2.trans (Fr.below (Below.refl _ _).drew))) ?_
        rintro e w2 ⟨g2, rfl, n2, b2⟩
        have N2 := Lib.hid (And.intro n2 (And.intro (ext_trans (Below.refl w1.heap.size w1).drew b2) (G1.out.2.2.trans (Fr.below (ext_trans (Below.refl w1.heap.size w1).drew b2)))))
        clear n2 b2
        have sc11 := TC.out _ N2.out.2.2
        refine ⟨.pointer (some ⟨g2, 0, none⟩), rfl, sc11, ?_⟩
        try simp only [Act.put, List.setIfInBounds_toArray, List.set_cons_zero, List.set_cons_succ]
        refine takeCall 12 (some 75) rfl rfl (by kernel_rfl) (by rfl) (by go_simp) (HX1.out g2 _ N2.out.1 (G1.out.1.bel N2.out.2.1) N2.out.2.2) ?_
        rintro e w3 ⟨rfl, f1⟩
        have F1 := Lib.hid f1
        clear f1
        have sc12 := TC.out _ F1.out
        refine ⟨.bool false, rfl, sc12, ?_⟩
        try simp only [Act.put, List.setIfInBounds_toArray, List.set_cons_zero, List.set_cons_succ]
        refine takeOn 13 (some 76) (v := ?_) rfl rfl (by kernel_rfl) (by kernel_rfl) (by kernel_rfl) (fun _ _ _ h => h) (by rfl) ?_ (by assumption) ?_
        rotate_left
        · (intro w hSw; (try dsimp only at hSw); go_simp; try with_reducible rfl)
        try simp only [Act.put, List.setIfInBounds_toArray, List.set_cons_zero, List.set_cons_succ]
        refine takeOn 14 (some 77) (v := ?_) rfl rfl (by kernel_rfl) (by kernel_rfl) (by kernel_rfl) (fun _ _ _ h => h) (by rfl) ?_ (by assumption) ?_
        rotate_left
        · (intro w hSw; (try dsimp only at hSw); go_simp; try with_reducible rfl)
        try simp only [Act.put, List.setIfInBounds_toArray, List.set_cons_zero, List.set_cons_succ]
        refine takeOff 15 (some 78) rfl rfl (by kernel_rfl) (by kernel_rfl) (by kernel_rfl) (fun _ _ _ h => h) (by rfl) (by assumption) ?_
        try simp only [Act.put, List.setIfInBounds_toArray, List.set_cons_zero, List.set_cons_succ]
        refine takeOff 16 (some 79) rfl rfl (by kernel_rfl) (by kernel_rfl) (by kernel_rfl) (fun _ _ _ h => h) (by rfl) (by assumption) ?_
        try simp only [Act.put, List.setIfInBounds_toArray, List.set_cons_zero, List.set_cons_succ]
        refine takeOff 17 (some 80) rfl rfl (by kernel_rfl) (by kernel_rfl) (by kernel_rfl) (fun _ _ _ h => h) (by rfl) (by assumption) ?_
        try simp only [Act.put, List.setIfInBounds_toArray, List.set_cons_zero, List.set_cons_succ]
        refine takeOff 18 (some 81) rfl rfl (by kernel_rfl) (by kernel_rfl) (by kernel_rfl) (fun _ _ _ h => h) (by rfl) (by assumption) ?_
        try simp only [Act.put, List.setIfInBounds_toArray, List.set_cons_zero, List.set_cons_succ]
        refine takeOff 19 (some 82) rfl rfl (by kernel_rfl) (by kernel_rfl) (by kernel_rfl) (fun _ _ _ h => h) (by rfl) (by assumption) ?_
        try simp only [Act.put, List.setIfInBounds_toArray, List.set_cons_zero, List.set_cons_succ]
        refine takeOff 20 (some 83) rfl rfl (by kernel_rfl) (by kernel_rfl) (by kernel_rfl) (fun _ _ _ h => h) (by rfl) (by assumption) ?_
        try simp only [Act.put, List.setIfInBounds_toArray, List.set_cons_zero, List.set_cons_succ]
        refine takeOff 21 (some 84) rfl rfl (by kernel_rfl) (by kernel_rfl) (by kernel_rfl) (fun _ _ _ h => h) (by rfl) (by assumption) ?_
        try simp only [Act.put, List.setIfInBounds_toArray, List.set_cons_zero, List.set_cons_succ]
        refine takeOff 22 (some 85) rfl rfl (by kernel_rfl) (by kernel_rfl) (by kernel_rfl) (fun _ _ _ h => h) (by rfl) (by assumption) ?_
        try simp only [Act.put, List.setIfInBounds_toArray, List.set_cons_zero, List.set_cons_succ]
        refine takeOff 23 (some 86) rfl rfl (by kernel_rfl) (by kernel_rfl) (by kernel_rfl) (fun _ _ _ h => h) (by rfl) (by assumption) ?_
        try simp only [Act.put, List.setIfInBounds_toArray, List.set_cons_zero, List.set_cons_succ]
        refine takeOff 24 (some 87) rfl rfl (by kernel_rfl) (by kernel_rfl) (by kernel_rfl) (fun _ _ _ h => h) (by rfl) (by assumption) ?_
        try simp only [Act.put, List.setIfInBounds_toArray, List.set_cons_zero, List.set_cons_succ]
        refine takeOff 25 (some 88) rfl rfl (by kernel_rfl) (by kernel_rfl) (by kernel_rfl) (fun _ _ _ h => h) (by rfl) (by assumption) ?_
        try simp only [Act.put, List.setIfInBounds_toArray, List.set_cons_zero, List.set_cons_succ]
        refine takeOff 26 (some 89) rfl rfl (by kernel_rfl) (by kernel_rfl) (by kernel_rfl) (fun _ _ _ h => h) (by rfl) (by assumption) ?_
        try simp only [Act.put, List.setIfInBounds_toArray, List.set_cons_zero, List.set_cons_succ]
        refine takeOff 27 (some 90) rfl rfl (by kernel_rfl) (by kernel_rfl) (by kernel_rfl) (fun _ _ _ h => h) (by rfl) (by assumption) ?_
        try simp only [Act.put, List.setIfInBounds_toArray, List.set_cons_zero, List.set_cons_succ]
        refine takeOff 28 (some 91) rfl rfl (by kernel_rfl) (by kernel_rfl) (by kernel_rfl) (fun _ _ _ h => h) (by rfl) (by assumption) ?_
        try simp only [Act.put, List.setIfInBounds_toArray, List.set_cons_zero, List.set_cons_succ]
        refine takeOn 29 (some 92) (v := ?_) rfl rfl (by kernel_rfl) (by kernel_rfl) (by kernel_rfl) (fun _ _ _ h => h) (by rfl) ?_ (by assumption) ?_
        rotate_left
        · (intro w hSw; (try dsimp only at hSw); go_simp; try with_reducible rfl)
        try simp only [Act.put, List.setIfInBounds_toArray, List.set_cons_zero, List.set_cons_succ]
        refine takeOn 30 (some 12) (v := ?_) rfl rfl (by kernel_rfl) (by kernel_rfl) (by kernel_rfl) (fun _ _ _ h => h) (by rfl) ?_ (by assumption) ?_
        rotate_left
        · (intro w hSw; (try dsimp only at hSw); go_simp; try with_reducible rfl)
        try simp only [Act.put, List.setIfInBounds_toArray, List.set_cons_zero, List.set_cons_succ]
        refine wpAnyH_done (by kernel_rfl) ?_ _
        go_wp2_with fail
        go_ret
        have hh := HH.out
        exact ⟨false, rfl, F1.out, fun _ => dis_two1 hh.kg hh.ra hh.rb hh.hk hh.hab HO1.out, fun h => by cases h⟩
  · by_cases o2 : occN q0 (inst (S2 S a.k x y p0).σ (stc (S2 S a.k x y p0).m (t2 S a.k x y)).1)
    · have HO1 := Lib.hid o1
      clear o1
      have HF1 : Hid (∀ (g : Nat) (W : World), TailAt (SX s m) W (.pointer (some ⟨g, 0, none⟩)) (some S.m) → Fr (SX s m) w W → Calls Try.prog 179 #[.int .i64 a.k, .slice VA vl.length cv, .pointer (some ⟨g, 0, none⟩)] W fun e w' => ∃ g2, e = .returned (.pointer (some ⟨g2, 0, none⟩)) ∧ NodeAt (SX s m) w' g2 (t1 S a.k x y) ∧ Below W.heap.size W w') := Lib.hid fun g W ht hW => by
        refine (of_node (SX s m) a.k VA cv vl (lackF y x) (.pointer (some ⟨g, 0, none⟩)) (some S.m) W (fun k hk => Nat.lt_of_lt_of_le (SX_lt HH.out.sol k hk) hW.size) (HH.out.rv.fr hW fun k _ e => e).read (by omega) (HH.out.cv.fr hW fun k _ e => e) ht).mono ?_
        rintro e w' ⟨g2, he, h1, h2⟩
        exact ⟨g2, he, h1, h2⟩
      have HX1 : Hid (∀ (g : Nat) (W : World), NodeAt (SX s m) W g (t1 S a.k x y) → SolAt (SX s m) s m first W (S1 S x y) → Fr (SX s m) w W → Calls Try.prog 111 #[.pointer (some ⟨s, 0, none⟩), .int .i64 p0, .pointer (some ⟨g, 0, none⟩)] W fun e w' => e = .returned (.bool true) ∧ Fr (SX s m) w w' ∧ Fr (SX s m) W w' ∧ ∀ S' : Kn, S'.κ = upd (S1 S x y).κ p0 (stc (S1 S x y).m (t1 S a.k x y)).1 → S'.m = (stc (S1 S x y).m (t1 S a.k x y)).2 → SolAt (SX s m) s m first w' S') := Lib.hid fun g W hg hS hW => by
        refine (become_yes U s m first (S1 S x y) p0 _ g W hS HB1.out.1 HH.out.hU hg HB1.out.2.1.small HB1.out.2.1.mm HB1.out.2.1.gs hp1.out (by rw [HB1.out.2.2]; have := HH.out.mb; have e : (S1 S x y).m = S.m + 1 := rfl; omega) HO1.out).mono ?_
        rintro e w' ⟨he, hf, hr⟩
        exact ⟨he, hW.trans hf, hf, hr⟩
      have HB2 := Lib.hid (two_bec2 HH.out.kg HH.out.hU HH.out.ra HH.out.rb HH.out.hk HH.out.hab HPQ.out HO1.out)
      have HF2 : Hid (∀ (g : Nat) (W : World), TailAt (SX s m) W (.pointer (some ⟨g, 0, none⟩)) (some S.m) → Fr (SX s m) w W → Calls Try.prog 179 #[.int .i64 a.k, .slice UA ul.length cu, .pointer (some ⟨g, 0, none⟩)] W fun e w' => ∃ g2, e = .returned (.pointer (some ⟨g2, 0, none⟩)) ∧ NodeAt (SX s m) w' g2 (t2 S a.k x y) ∧ Below W.heap.size W w') := Lib.hid fun g W ht hW => by
        refine (of_node (SX s m) a.k UA cu ul (lackF x y) (.pointer (some ⟨g, 0, none⟩)) (some S.m) W (fun k hk => Nat.lt_of_lt_of_le (SX_lt HH.out.sol k hk) hW.size) (HH.out.ru.fr hW fun k _ e => e).read (by omega) (HH.out.cu.fr hW fun k _ e => e) ht).mono ?_
        rintro e w' ⟨g2, he, h1, h2⟩
        exact ⟨g2, he, h1, h2⟩
      have HO2 := Lib.hid o2
      clear o2
      have HX2 : Hid (∀ (g : Nat) (W : World), NodeAt (SX s m) W g (t2 S a.k x y) → SolAt (SX s m) s m first W (S2 S a.k x y p0) → Fr (SX s m) w W → Calls Try.prog 111 #[.pointer (some ⟨s, 0, none⟩), .int .i64 q0, .pointer (some ⟨g, 0, none⟩)] W fun e w' => e = .returned (.bool false) ∧ Fr (SX s m) w w') := Lib.hid fun g W hg hS hW => by
        refine (become_no U s m first (S2 S a.k x y p0) q0 _ g W hS HB2.out.1 HH.out.hU hg HB2.out.2.1.small HB2.out.2.1.mm HB2.out.2.1.gs HB2.out.2.2.2.1 (by rw [HB2.out.2.2.1, HB2.out.2.2.2.2]; have := HH.out.mb; omega) HO2.out).mono ?_
        rintro e w' ⟨he, hf⟩
        exact ⟨he, hW.trans hf⟩
      rcases cu2 with c2 | c2
      all_goals
        rcases cv2 with c3 | c3
        all_goals
          go_enter Try.func146, Try.ntmps146
          go_wp2_with fail
          go_quiet (fail)
          go_wp2_with fail
          refine (HFr.out _ ?_).mono ?_
          · first | exact below_drewN (Below.refl _ _) _ | exact (below_drewN (Below.refl _ _) _).drew
          rintro e w1 ⟨g, rfl, s1, ta1, f1⟩
          have G1 := Lib.hid (And.intro s1 (And.intro ta1 f1))
          clear s1 ta1 f1
          go_wp2_with fail
          refine wp_region_held_drew (S := fun v => v.cell? ⟨bt, 1, none⟩ = some (.int .i64 p0) ∧ v.cell? ⟨bu, 1, none⟩ = some (.int .i64 q0)) (by kernel_rfl) ?_ (fun hHeld => ?_)
          · exact TC.out _ (G1.out.2.2.trans (Fr.below (Below.refl _ _).drew))
          refine takeOn 0 (some 63) (v := ?_) rfl rfl (by kernel_rfl) (by kernel_rfl) (by kernel_rfl) (fun _ _ _ h => h) (by rfl) ?_ (by assumption) ?_
          rotate_left
          · (intro w hSw; (try dsimp only at hSw); go_simp; try with_reducible rfl)
          try simp only [Act.put, List.setIfInBounds_toArray, List.set_cons_zero, List.set_cons_succ]
          refine takeOn 1 (some 64) (v := ?_) rfl rfl (by kernel_rfl) (by kernel_rfl) (by kernel_rfl) (fun _ _ _ h => h) (by rfl) ?_ (by assumption) ?_
          rotate_left
          · (intro w hSw; (try dsimp only at hSw); go_simp; try with_reducible rfl)
          try simp only [Act.put, List.setIfInBounds_toArray, List.set_cons_zero, List.set_cons_succ]
          refine takeOn 2 (some 65) (v := ?_) rfl rfl (by kernel_rfl) (by kernel_rfl) (by kernel_rfl) (fun _ _ _ h => h) (by rfl) ?_ (by assumption) ?_
          rotate_left
          · (intro w hSw; (try dsimp only at hSw); go_simp; try with_reducible rfl)
          try simp only [Act.put, List.setIfInBounds_toArray, List.set_cons_zero, List.set_cons_succ]
          refine takeOn 3 (some 66) (v := ?_) rfl rfl (by kernel_rfl) (by kernel_rfl) (by kernel_rfl) (fun _ _ _ h => h) (by rfl) ?_ (by assumption) ?_
          rotate_left
          · (intro w hSw; (try dsimp only at hSw); go_simp; try with_reducible rfl)
          try simp only [Act.put, List.setIfInBounds_toArray, List.set_cons_zero, List.set_cons_succ]
          refine takeOn 4 (some 67) (v := ?_) rfl rfl (by kernel_rfl) (by kernel_rfl) (by kernel_rfl) (fun _ _ _ h => h) (by rfl) ?_ (by assumption) ?_
          rotate_left
          · (intro w hSw; (try dsimp only at hSw); go_simp; try with_reducible rfl)
          try simp only [Act.put, List.setIfInBounds_toArray, List.set_cons_zero, List.set_cons_succ]
          refine takeOn 5 (some 68) (v := ?_) rfl rfl (by kernel_rfl) (by kernel_rfl) (by kernel_rfl) (fun _ _ _ h => h) (by rfl) ?_ (by assumption) ?_
          rotate_left
          · (intro w hSw; (try dsimp only at hSw); go_simp; try with_reducible rfl)
          try simp only [Act.put, List.setIfInBounds_toArray, List.set_cons_zero, List.set_cons_succ]
          refine takeOn 6 (some 69) (v := ?_) rfl rfl (by kernel_rfl) (by kernel_rfl) (by kernel_rfl) (fun _ _ _ h => h) (by rfl) ?_ (by assumption) ?_
          rotate_left
          · (intro w hSw; (try dsimp only at hSw); go_simp; try with_reducible rfl)
          try simp only [Act.put, List.setIfInBounds_toArray, List.set_cons_zero, List.set_cons_succ]
          refine takeOn 7 (some 70) (v := ?_) rfl rfl (by kernel_rfl) (by kernel_rfl) (by kernel_rfl) (fun _ _ _ h => h) (by rfl) ?_ (by assumption) ?_
          rotate_left
          · (intro w hSw; (try dsimp only at hSw); go_simp; try with_reducible rfl)
          try simp only [Act.put, List.setIfInBounds_toArray, List.set_cons_zero, List.set_cons_succ]
          refine takeOn 8 (some 71) (v := ?_) rfl rfl (by kernel_rfl) (by kernel_rfl) (by kernel_rfl) (fun _ _ _ h => h) (by rfl) ?_ (by assumption) ?_
          rotate_left
          · (intro w hSw; (try dsimp only at hSw); go_simp; try with_reducible rfl)
          try simp only [Act.put, List.setIfInBounds_toArray, List.set_cons_zero, List.set_cons_succ]
          refine takeOn 9 (some 72) (v := ?_) rfl rfl (by kernel_rfl) (by kernel_rfl) (by kernel_rfl) (fun _ _ _ h => h) (by rfl) ?_ (by assumption) ?_
          rotate_left
          · (intro w hSw; (try dsimp only at hSw); go_simp; try with_reducible rfl)
          try simp only [Act.put, List.setIfInBounds_toArray, List.set_cons_zero, List.set_cons_succ]
          refine takeOn 10 (some 73) (v := ?_) rfl rfl (by kernel_rfl) (by kernel_rfl) (by kernel_rfl) (fun _ _ _ h => h) (by rfl) ?_ (by assumption) ?_
          rotate_left
          · (intro w hSw; (try dsimp only at hSw); go_simp; try with_reducible rfl)
          try simp only [Act.put, List.setIfInBounds_toArray, List.set_cons_zero, List.set_cons_succ]
          refine takeCall 11 (some 74) rfl rfl (by kernel_rfl) (by rfl) (by go_simp) (HF1.out g _ (G1.out.2.1.bel (Below.refl _ _).drew) (G1.out.2.2.trans (Fr.below (Below.refl _ _).drew))) ?_
          rintro e w2 ⟨g2, rfl, n2, b2⟩
          have N2 := Lib.hid (And.intro n2 (And.intro (ext_trans (Below.refl w1.heap.size w1).drew b2) (G1.out.2.2.trans (Fr.below (ext_trans (Below.refl w1.heap.size w1).drew b2)))))
          clear n2 b2
          have sc11 := TC.out _ N2.out.2.2
          refine ⟨.pointer (some ⟨g2, 0, none⟩), rfl, sc11, ?_⟩
          try simp only [Act.put, List.setIfInBounds_toArray, List.set_cons_zero, List.set_cons_succ]
          refine takeCall 12 (some 75) rfl rfl (by kernel_rfl) (by rfl) (by go_simp) (HX1.out g2 _ N2.out.1 (G1.out.1.bel N2.out.2.1) N2.out.2.2) ?_
          rintro e w3 ⟨rfl, f1, f3, f2⟩
          have F1 := Lib.hid (And.intro f1 (f2 (S2 S a.k x y p0) rfl rfl))
          have T3 := Lib.hid ((G1.out.2.1.bel N2.out.2.1).fr f3 fun _ _ e => e)
          clear f1 f2 f3
          have sc12 := TC.out _ F1.out.1
          refine ⟨.bool true, rfl, sc12, ?_⟩
          try simp only [Act.put, List.setIfInBounds_toArray, List.set_cons_zero, List.set_cons_succ]
          refine takeOn 13 (some 76) (v := ?_) rfl rfl (by kernel_rfl) (by kernel_rfl) (by kernel_rfl) (fun _ _ _ h => h) (by rfl) ?_ (by assumption) ?_
          rotate_left
          · (intro w hSw; (try dsimp only at hSw); go_simp; try with_reducible rfl)
          try simp only [Act.put, List.setIfInBounds_toArray, List.set_cons_zero, List.set_cons_succ]
          refine takeOn 14 (some 77) (v := ?_) rfl rfl (by kernel_rfl) (by kernel_rfl) (by kernel_rfl) (fun _ _ _ h => h) (by rfl) ?_ (by assumption) ?_
          rotate_left
          · (intro w hSw; (try dsimp only at hSw); go_simp; try with_reducible rfl)
          try simp only [Act.put, List.setIfInBounds_toArray, List.set_cons_zero, List.set_cons_succ]
          refine takeOn 15 (some 78) (v := ?_) rfl rfl (by kernel_rfl) (by kernel_rfl) (by kernel_rfl) (fun _ _ _ h => h) (by rfl) ?_ (by assumption) ?_
          rotate_left
          · (intro w hSw; (try dsimp only at hSw); go_simp; try with_reducible rfl)
          try simp only [Act.put, List.setIfInBounds_toArray, List.set_cons_zero, List.set_cons_succ]
          refine takeOn 16 (some 79) (v := ?_) rfl rfl (by kernel_rfl) (by kernel_rfl) (by kernel_rfl) (fun _ _ _ h => h) (by rfl) ?_ (by assumption) ?_
          rotate_left
          · (intro w hSw; (try dsimp only at hSw); go_simp; try with_reducible rfl)
          try simp only [Act.put, List.setIfInBounds_toArray, List.set_cons_zero, List.set_cons_succ]
          refine takeOn 17 (some 80) (v := ?_) rfl rfl (by kernel_rfl) (by kernel_rfl) (by kernel_rfl) (fun _ _ _ h => h) (by rfl) ?_ (by assumption) ?_
          rotate_left
          · (intro w hSw; (try dsimp only at hSw); go_simp; try with_reducible rfl)
          try simp only [Act.put, List.setIfInBounds_toArray, List.set_cons_zero, List.set_cons_succ]
          refine takeOn 18 (some 81) (v := ?_) rfl rfl (by kernel_rfl) (by kernel_rfl) (by kernel_rfl) (fun _ _ _ h => h) (by rfl) ?_ (by assumption) ?_
          rotate_left
          · (intro w hSw; (try dsimp only at hSw); go_simp; try with_reducible rfl)
          try simp only [Act.put, List.setIfInBounds_toArray, List.set_cons_zero, List.set_cons_succ]
          refine takeOn 19 (some 82) (v := ?_) rfl rfl (by kernel_rfl) (by kernel_rfl) (by kernel_rfl) (fun _ _ _ h => h) (by rfl) ?_ (by assumption) ?_
          rotate_left
          · (intro w hSw; (try dsimp only at hSw); go_simp; try with_reducible rfl)
          try simp only [Act.put, List.setIfInBounds_toArray, List.set_cons_zero, List.set_cons_succ]
          refine takeOn 20 (some 83) (v := ?_) rfl rfl (by kernel_rfl) (by kernel_rfl) (by kernel_rfl) (fun _ _ _ h => h) (by rfl) ?_ (by assumption) ?_
          rotate_left
          · (intro w hSw; (try dsimp only at hSw); go_simp; try with_reducible rfl)
          try simp only [Act.put, List.setIfInBounds_toArray, List.set_cons_zero, List.set_cons_succ]
          refine takeOn 21 (some 84) (v := ?_) rfl rfl (by kernel_rfl) (by kernel_rfl) (by kernel_rfl) (fun _ _ _ h => h) (by rfl) ?_ (by assumption) ?_
          rotate_left
          · (intro w hSw; (try dsimp only at hSw); go_simp; try with_reducible rfl)
          try simp only [Act.put, List.setIfInBounds_toArray, List.set_cons_zero, List.set_cons_succ]
          refine takeOn 22 (some 85) (v := ?_) rfl rfl (by kernel_rfl) (by kernel_rfl) (by kernel_rfl) (fun _ _ _ h => h) (by rfl) ?_ (by assumption) ?_
          rotate_left
          · (intro w hSw; (try dsimp only at hSw); go_simp; try with_reducible rfl)
          try simp only [Act.put, List.setIfInBounds_toArray, List.set_cons_zero, List.set_cons_succ]
          refine takeOn 23 (some 86) (v := ?_) rfl rfl (by kernel_rfl) (by kernel_rfl) (by kernel_rfl) (fun _ _ _ h => h) (by rfl) ?_ (by assumption) ?_
          rotate_left
          · (intro w hSw; (try dsimp only at hSw); go_simp; try with_reducible rfl)
          try simp only [Act.put, List.setIfInBounds_toArray, List.set_cons_zero, List.set_cons_succ]
          refine takeOn 24 (some 87) (v := ?_) rfl rfl (by kernel_rfl) (by kernel_rfl) (by kernel_rfl) (fun _ _ _ h => h) (by rfl) ?_ (by assumption) ?_
          rotate_left
          · (intro w hSw; (try dsimp only at hSw); go_simp; try with_reducible rfl)
          try simp only [Act.put, List.setIfInBounds_toArray, List.set_cons_zero, List.set_cons_succ]
          refine takeOn 25 (some 88) (v := ?_) rfl rfl (by kernel_rfl) (by kernel_rfl) (by kernel_rfl) (fun _ _ _ h => h) (by rfl) ?_ (by assumption) ?_
          rotate_left
          · (intro w hSw; (try dsimp only at hSw); go_simp; try with_reducible rfl)
          try simp only [Act.put, List.setIfInBounds_toArray, List.set_cons_zero, List.set_cons_succ]
          refine takeCall 26 (some 89) rfl rfl (by kernel_rfl) (by rfl) (by go_simp) (HF2.out g _ (T3.out) F1.out.1) ?_
          rintro e w4 ⟨g4, rfl, n4, b4⟩
          have N4 := Lib.hid (And.intro n4 (And.intro b4 (F1.out.1.trans (Fr.below b4))))
          clear n4 b4
          have sc26 := TC.out _ N4.out.2.2
          refine ⟨.pointer (some ⟨g4, 0, none⟩), rfl, sc26, ?_⟩
          try simp only [Act.put, List.setIfInBounds_toArray, List.set_cons_zero, List.set_cons_succ]
          refine takeCall 27 (some 90) rfl rfl (by kernel_rfl) (by rfl) (by go_simp) (HX2.out g4 _ N4.out.1 (F1.out.2.bel N4.out.2.1) N4.out.2.2) ?_
          rintro e w5 ⟨rfl, f1⟩
          have F2 := Lib.hid f1
          clear f1
          have sc27 := TC.out _ F2.out
          refine ⟨.bool false, rfl, sc27, ?_⟩
          try simp only [Act.put, List.setIfInBounds_toArray, List.set_cons_zero, List.set_cons_succ]
          refine takeOn 28 (some 91) (v := ?_) rfl rfl (by kernel_rfl) (by kernel_rfl) (by kernel_rfl) (fun _ _ _ h => h) (by rfl) ?_ (by assumption) ?_
          rotate_left
          · (intro w hSw; (try dsimp only at hSw); go_simp; try with_reducible rfl)
          try simp only [Act.put, List.setIfInBounds_toArray, List.set_cons_zero, List.set_cons_succ]
          refine takeOn 29 (some 92) (v := ?_) rfl rfl (by kernel_rfl) (by kernel_rfl) (by kernel_rfl) (fun _ _ _ h => h) (by rfl) ?_ (by assumption) ?_
          rotate_left
          · (intro w hSw; (try dsimp only at hSw); go_simp; try with_reducible rfl)
          try simp only [Act.put, List.setIfInBounds_toArray, List.set_cons_zero, List.set_cons_succ]
          refine takeOn 30 (some 12) (v := ?_) rfl rfl (by kernel_rfl) (by kernel_rfl) (by kernel_rfl) (fun _ _ _ h => h) (by rfl) ?_ (by assumption) ?_
          rotate_left
          · (intro w hSw; (try dsimp only at hSw); go_simp; try with_reducible rfl)
          try simp only [Act.put, List.setIfInBounds_toArray, List.set_cons_zero, List.set_cons_succ]
          refine wpAnyH_done (by kernel_rfl) ?_ _
          go_wp2_with fail
          go_ret
          have hh := HH.out
          exact ⟨false, rfl, F2.out, fun _ => dis_two2 hh.kg hh.ra hh.rb hh.hk hh.hab HPQ.out HO1.out HO2.out, fun h => by cases h⟩
    · have HO1 := Lib.hid o1
      clear o1
      have HF1 : Hid (∀ (g : Nat) (W : World), TailAt (SX s m) W (.pointer (some ⟨g, 0, none⟩)) (some S.m) → Fr (SX s m) w W → Calls Try.prog 179 #[.int .i64 a.k, .slice VA vl.length cv, .pointer (some ⟨g, 0, none⟩)] W fun e w' => ∃ g2, e = .returned (.pointer (some ⟨g2, 0, none⟩)) ∧ NodeAt (SX s m) w' g2 (t1 S a.k x y) ∧ Below W.heap.size W w') := Lib.hid fun g W ht hW => by
        refine (of_node (SX s m) a.k VA cv vl (lackF y x) (.pointer (some ⟨g, 0, none⟩)) (some S.m) W (fun k hk => Nat.lt_of_lt_of_le (SX_lt HH.out.sol k hk) hW.size) (HH.out.rv.fr hW fun k _ e => e).read (by omega) (HH.out.cv.fr hW fun k _ e => e) ht).mono ?_
        rintro e w' ⟨g2, he, h1, h2⟩
        exact ⟨g2, he, h1, h2⟩
      have HX1 : Hid (∀ (g : Nat) (W : World), NodeAt (SX s m) W g (t1 S a.k x y) → SolAt (SX s m) s m first W (S1 S x y) → Fr (SX s m) w W → Calls Try.prog 111 #[.pointer (some ⟨s, 0, none⟩), .int .i64 p0, .pointer (some ⟨g, 0, none⟩)] W fun e w' => e = .returned (.bool true) ∧ Fr (SX s m) w w' ∧ Fr (SX s m) W w' ∧ ∀ S' : Kn, S'.κ = upd (S1 S x y).κ p0 (stc (S1 S x y).m (t1 S a.k x y)).1 → S'.m = (stc (S1 S x y).m (t1 S a.k x y)).2 → SolAt (SX s m) s m first w' S') := Lib.hid fun g W hg hS hW => by
        refine (become_yes U s m first (S1 S x y) p0 _ g W hS HB1.out.1 HH.out.hU hg HB1.out.2.1.small HB1.out.2.1.mm HB1.out.2.1.gs hp1.out (by rw [HB1.out.2.2]; have := HH.out.mb; have e : (S1 S x y).m = S.m + 1 := rfl; omega) HO1.out).mono ?_
        rintro e w' ⟨he, hf, hr⟩
        exact ⟨he, hW.trans hf, hf, hr⟩
      have HB2 := Lib.hid (two_bec2 HH.out.kg HH.out.hU HH.out.ra HH.out.rb HH.out.hk HH.out.hab HPQ.out HO1.out)
      have HF2 : Hid (∀ (g : Nat) (W : World), TailAt (SX s m) W (.pointer (some ⟨g, 0, none⟩)) (some S.m) → Fr (SX s m) w W → Calls Try.prog 179 #[.int .i64 a.k, .slice UA ul.length cu, .pointer (some ⟨g, 0, none⟩)] W fun e w' => ∃ g2, e = .returned (.pointer (some ⟨g2, 0, none⟩)) ∧ NodeAt (SX s m) w' g2 (t2 S a.k x y) ∧ Below W.heap.size W w') := Lib.hid fun g W ht hW => by
        refine (of_node (SX s m) a.k UA cu ul (lackF x y) (.pointer (some ⟨g, 0, none⟩)) (some S.m) W (fun k hk => Nat.lt_of_lt_of_le (SX_lt HH.out.sol k hk) hW.size) (HH.out.ru.fr hW fun k _ e => e).read (by omega) (HH.out.cu.fr hW fun k _ e => e) ht).mono ?_
        rintro e w' ⟨g2, he, h1, h2⟩
        exact ⟨g2, he, h1, h2⟩
      have HO2 := Lib.hid o2
      clear o2
      have HX2 : Hid (∀ (g : Nat) (W : World), NodeAt (SX s m) W g (t2 S a.k x y) → SolAt (SX s m) s m first W (S2 S a.k x y p0) → Fr (SX s m) w W → Calls Try.prog 111 #[.pointer (some ⟨s, 0, none⟩), .int .i64 q0, .pointer (some ⟨g, 0, none⟩)] W fun e w' => e = .returned (.bool true) ∧ Fr (SX s m) w w' ∧ Fr (SX s m) W w' ∧ ∀ S' : Kn, S'.κ = upd (S2 S a.k x y p0).κ q0 (stc (S2 S a.k x y p0).m (t2 S a.k x y)).1 → S'.m = (stc (S2 S a.k x y p0).m (t2 S a.k x y)).2 → SolAt (SX s m) s m first w' S') := Lib.hid fun g W hg hS hW => by
        refine (become_yes U s m first (S2 S a.k x y p0) q0 _ g W hS HB2.out.1 HH.out.hU hg HB2.out.2.1.small HB2.out.2.1.mm HB2.out.2.1.gs HB2.out.2.2.2.1 (by rw [HB2.out.2.2.1, HB2.out.2.2.2.2]; have := HH.out.mb; omega) HO2.out).mono ?_
        rintro e w' ⟨he, hf, hr⟩
        exact ⟨he, hW.trans hf, hf, hr⟩
      rcases cu2 with c2 | c2
      all_goals
        rcases cv2 with c3 | c3
        all_goals
          go_enter Try.func146, Try.ntmps146
          go_wp2_with fail
          go_quiet (fail)
          go_wp2_with fail
          refine (HFr.out _ ?_).mono ?_
          · first | exact below_drewN (Below.refl _ _) _ | exact (below_drewN (Below.refl _ _) _).drew
          rintro e w1 ⟨g, rfl, s1, ta1, f1⟩
          have G1 := Lib.hid (And.intro s1 (And.intro ta1 f1))
          clear s1 ta1 f1
          go_wp2_with fail
          refine wp_region_held_drew (S := fun v => v.cell? ⟨bt, 1, none⟩ = some (.int .i64 p0) ∧ v.cell? ⟨bu, 1, none⟩ = some (.int .i64 q0)) (by kernel_rfl) ?_ (fun hHeld => ?_)
          · exact TC.out _ (G1.out.2.2.trans (Fr.below (Below.refl _ _).drew))
          refine takeOn 0 (some 63) (v := ?_) rfl rfl (by kernel_rfl) (by kernel_rfl) (by kernel_rfl) (fun _ _ _ h => h) (by rfl) ?_ (by assumption) ?_
          rotate_left
          · (intro w hSw; (try dsimp only at hSw); go_simp; try with_reducible rfl)
          try simp only [Act.put, List.setIfInBounds_toArray, List.set_cons_zero, List.set_cons_succ]
          refine takeOn 1 (some 64) (v := ?_) rfl rfl (by kernel_rfl) (by kernel_rfl) (by kernel_rfl) (fun _ _ _ h => h) (by rfl) ?_ (by assumption) ?_
          rotate_left
          · (intro w hSw; (try dsimp only at hSw); go_simp; try with_reducible rfl)
          try simp only [Act.put, List.setIfInBounds_toArray, List.set_cons_zero, List.set_cons_succ]
          refine takeOn 2 (some 65) (v := ?_) rfl rfl (by kernel_rfl) (by kernel_rfl) (by kernel_rfl) (fun _ _ _ h => h) (by rfl) ?_ (by assumption) ?_
          rotate_left
          · (intro w hSw; (try dsimp only at hSw); go_simp; try with_reducible rfl)
          try simp only [Act.put, List.setIfInBounds_toArray, List.set_cons_zero, List.set_cons_succ]
          refine takeOn 3 (some 66) (v := ?_) rfl rfl (by kernel_rfl) (by kernel_rfl) (by kernel_rfl) (fun _ _ _ h => h) (by rfl) ?_ (by assumption) ?_
          rotate_left
          · (intro w hSw; (try dsimp only at hSw); go_simp; try with_reducible rfl)
          try simp only [Act.put, List.setIfInBounds_toArray, List.set_cons_zero, List.set_cons_succ]
          refine takeOn 4 (some 67) (v := ?_) rfl rfl (by kernel_rfl) (by kernel_rfl) (by kernel_rfl) (fun _ _ _ h => h) (by rfl) ?_ (by assumption) ?_
          rotate_left
          · (intro w hSw; (try dsimp only at hSw); go_simp; try with_reducible rfl)
          try simp only [Act.put, List.setIfInBounds_toArray, List.set_cons_zero, List.set_cons_succ]
          refine takeOn 5 (some 68) (v := ?_) rfl rfl (by kernel_rfl) (by kernel_rfl) (by kernel_rfl) (fun _ _ _ h => h) (by rfl) ?_ (by assumption) ?_
          rotate_left
          · (intro w hSw; (try dsimp only at hSw); go_simp; try with_reducible rfl)
          try simp only [Act.put, List.setIfInBounds_toArray, List.set_cons_zero, List.set_cons_succ]
          refine takeOn 6 (some 69) (v := ?_) rfl rfl (by kernel_rfl) (by kernel_rfl) (by kernel_rfl) (fun _ _ _ h => h) (by rfl) ?_ (by assumption) ?_
          rotate_left
          · (intro w hSw; (try dsimp only at hSw); go_simp; try with_reducible rfl)
          try simp only [Act.put, List.setIfInBounds_toArray, List.set_cons_zero, List.set_cons_succ]
          refine takeOn 7 (some 70) (v := ?_) rfl rfl (by kernel_rfl) (by kernel_rfl) (by kernel_rfl) (fun _ _ _ h => h) (by rfl) ?_ (by assumption) ?_
          rotate_left
          · (intro w hSw; (try dsimp only at hSw); go_simp; try with_reducible rfl)
          try simp only [Act.put, List.setIfInBounds_toArray, List.set_cons_zero, List.set_cons_succ]
          refine takeOn 8 (some 71) (v := ?_) rfl rfl (by kernel_rfl) (by kernel_rfl) (by kernel_rfl) (fun _ _ _ h => h) (by rfl) ?_ (by assumption) ?_
          rotate_left
          · (intro w hSw; (try dsimp only at hSw); go_simp; try with_reducible rfl)
          try simp only [Act.put, List.setIfInBounds_toArray, List.set_cons_zero, List.set_cons_succ]
          refine takeOn 9 (some 72) (v := ?_) rfl rfl (by kernel_rfl) (by kernel_rfl) (by kernel_rfl) (fun _ _ _ h => h) (by rfl) ?_ (by assumption) ?_
          rotate_left
          · (intro w hSw; (try dsimp only at hSw); go_simp; try with_reducible rfl)
          try simp only [Act.put, List.setIfInBounds_toArray, List.set_cons_zero, List.set_cons_succ]
          refine takeOn 10 (some 73) (v := ?_) rfl rfl (by kernel_rfl) (by kernel_rfl) (by kernel_rfl) (fun _ _ _ h => h) (by rfl) ?_ (by assumption) ?_
          rotate_left
          · (intro w hSw; (try dsimp only at hSw); go_simp; try with_reducible rfl)
          try simp only [Act.put, List.setIfInBounds_toArray, List.set_cons_zero, List.set_cons_succ]
          refine takeCall 11 (some 74) rfl rfl (by kernel_rfl) (by rfl) (by go_simp) (HF1.out g _ (G1.out.2.1.bel (Below.refl _ _).drew) (G1.out.2.2.trans (Fr.below (Below.refl _ _).drew))) ?_
          rintro e w2 ⟨g2, rfl, n2, b2⟩
          have N2 := Lib.hid (And.intro n2 (And.intro (ext_trans (Below.refl w1.heap.size w1).drew b2) (G1.out.2.2.trans (Fr.below (ext_trans (Below.refl w1.heap.size w1).drew b2)))))
          clear n2 b2
          have sc11 := TC.out _ N2.out.2.2
          refine ⟨.pointer (some ⟨g2, 0, none⟩), rfl, sc11, ?_⟩
          try simp only [Act.put, List.setIfInBounds_toArray, List.set_cons_zero, List.set_cons_succ]
          refine takeCall 12 (some 75) rfl rfl (by kernel_rfl) (by rfl) (by go_simp) (HX1.out g2 _ N2.out.1 (G1.out.1.bel N2.out.2.1) N2.out.2.2) ?_
          rintro e w3 ⟨rfl, f1, f3, f2⟩
          have F1 := Lib.hid (And.intro f1 (f2 (S2 S a.k x y p0) rfl rfl))
          have T3 := Lib.hid ((G1.out.2.1.bel N2.out.2.1).fr f3 fun _ _ e => e)
          clear f1 f2 f3
          have sc12 := TC.out _ F1.out.1
          refine ⟨.bool true, rfl, sc12, ?_⟩
          try simp only [Act.put, List.setIfInBounds_toArray, List.set_cons_zero, List.set_cons_succ]
          refine takeOn 13 (some 76) (v := ?_) rfl rfl (by kernel_rfl) (by kernel_rfl) (by kernel_rfl) (fun _ _ _ h => h) (by rfl) ?_ (by assumption) ?_
          rotate_left
          · (intro w hSw; (try dsimp only at hSw); go_simp; try with_reducible rfl)
          try simp only [Act.put, List.setIfInBounds_toArray, List.set_cons_zero, List.set_cons_succ]
          refine takeOn 14 (some 77) (v := ?_) rfl rfl (by kernel_rfl) (by kernel_rfl) (by kernel_rfl) (fun _ _ _ h => h) (by rfl) ?_ (by assumption) ?_
          rotate_left
          · (intro w hSw; (try dsimp only at hSw); go_simp; try with_reducible rfl)
          try simp only [Act.put, List.setIfInBounds_toArray, List.set_cons_zero, List.set_cons_succ]
          refine takeOn 15 (some 78) (v := ?_) rfl rfl (by kernel_rfl) (by kernel_rfl) (by kernel_rfl) (fun _ _ _ h => h) (by rfl) ?_ (by assumption) ?_
          rotate_left
          · (intro w hSw; (try dsimp only at hSw); go_simp; try with_reducible rfl)
          try simp only [Act.put, List.setIfInBounds_toArray, List.set_cons_zero, List.set_cons_succ]
          refine takeOn 16 (some 79) (v := ?_) rfl rfl (by kernel_rfl) (by kernel_rfl) (by kernel_rfl) (fun _ _ _ h => h) (by rfl) ?_ (by assumption) ?_
          rotate_left
          · (intro w hSw; (try dsimp only at hSw); go_simp; try with_reducible rfl)
          try simp only [Act.put, List.setIfInBounds_toArray, List.set_cons_zero, List.set_cons_succ]
          refine takeOn 17 (some 80) (v := ?_) rfl rfl (by kernel_rfl) (by kernel_rfl) (by kernel_rfl) (fun _ _ _ h => h) (by rfl) ?_ (by assumption) ?_
          rotate_left
          · (intro w hSw; (try dsimp only at hSw); go_simp; try with_reducible rfl)
          try simp only [Act.put, List.setIfInBounds_toArray, List.set_cons_zero, List.set_cons_succ]
          refine takeOn 18 (some 81) (v := ?_) rfl rfl (by kernel_rfl) (by kernel_rfl) (by kernel_rfl) (fun _ _ _ h => h) (by rfl) ?_ (by assumption) ?_
          rotate_left
          · (intro w hSw; (try dsimp only at hSw); go_simp; try with_reducible rfl)
          try simp only [Act.put, List.setIfInBounds_toArray, List.set_cons_zero, List.set_cons_succ]
          refine takeOn 19 (some 82) (v := ?_) rfl rfl (by kernel_rfl) (by kernel_rfl) (by kernel_rfl) (fun _ _ _ h => h) (by rfl) ?_ (by assumption) ?_
          rotate_left
          · (intro w hSw; (try dsimp only at hSw); go_simp; try with_reducible rfl)
          try simp only [Act.put, List.setIfInBounds_toArray, List.set_cons_zero, List.set_cons_succ]
          refine takeOn 20 (some 83) (v := ?_) rfl rfl (by kernel_rfl) (by kernel_rfl) (by kernel_rfl) (fun _ _ _ h => h) (by rfl) ?_ (by assumption) ?_
          rotate_left
          · (intro w hSw; (try dsimp only at hSw); go_simp; try with_reducible rfl)
          try simp only [Act.put, List.setIfInBounds_toArray, List.set_cons_zero, List.set_cons_succ]
          refine takeOn 21 (some 84) (v := ?_) rfl rfl (by kernel_rfl) (by kernel_rfl) (by kernel_rfl) (fun _ _ _ h => h) (by rfl) ?_ (by assumption) ?_
          rotate_left
          · (intro w hSw; (try dsimp only at hSw); go_simp; try with_reducible rfl)
          try simp only [Act.put, List.setIfInBounds_toArray, List.set_cons_zero, List.set_cons_succ]
          refine takeOn 22 (some 85) (v := ?_) rfl rfl (by kernel_rfl) (by kernel_rfl) (by kernel_rfl) (fun _ _ _ h => h) (by rfl) ?_ (by assumption) ?_
          rotate_left
          · (intro w hSw; (try dsimp only at hSw); go_simp; try with_reducible rfl)
          try simp only [Act.put, List.setIfInBounds_toArray, List.set_cons_zero, List.set_cons_succ]
          refine takeOn 23 (some 86) (v := ?_) rfl rfl (by kernel_rfl) (by kernel_rfl) (by kernel_rfl) (fun _ _ _ h => h) (by rfl) ?_ (by assumption) ?_
          rotate_left
          · (intro w hSw; (try dsimp only at hSw); go_simp; try with_reducible rfl)
          try simp only [Act.put, List.setIfInBounds_toArray, List.set_cons_zero, List.set_cons_succ]
          refine takeOn 24 (some 87) (v := ?_) rfl rfl (by kernel_rfl) (by kernel_rfl) (by kernel_rfl) (fun _ _ _ h => h) (by rfl) ?_ (by assumption) ?_
          rotate_left
          · (intro w hSw; (try dsimp only at hSw); go_simp; try with_reducible rfl)
          try simp only [Act.put, List.setIfInBounds_toArray, List.set_cons_zero, List.set_cons_succ]
          refine takeOn 25 (some 88) (v := ?_) rfl rfl (by kernel_rfl) (by kernel_rfl) (by kernel_rfl) (fun _ _ _ h => h) (by rfl) ?_ (by assumption) ?_
          rotate_left
          · (intro w hSw; (try dsimp only at hSw); go_simp; try with_reducible rfl)
          try simp only [Act.put, List.setIfInBounds_toArray, List.set_cons_zero, List.set_cons_succ]
          refine takeCall 26 (some 89) rfl rfl (by kernel_rfl) (by rfl) (by go_simp) (HF2.out g _ (T3.out) F1.out.1) ?_
          rintro e w4 ⟨g4, rfl, n4, b4⟩
          have N4 := Lib.hid (And.intro n4 (And.intro b4 (F1.out.1.trans (Fr.below b4))))
          clear n4 b4
          have sc26 := TC.out _ N4.out.2.2
          refine ⟨.pointer (some ⟨g4, 0, none⟩), rfl, sc26, ?_⟩
          try simp only [Act.put, List.setIfInBounds_toArray, List.set_cons_zero, List.set_cons_succ]
          refine takeCall 27 (some 90) rfl rfl (by kernel_rfl) (by rfl) (by go_simp) (HX2.out g4 _ N4.out.1 (F1.out.2.bel N4.out.2.1) N4.out.2.2) ?_
          rintro e w5 ⟨rfl, f1, f3, f2⟩
          have F2 := Lib.hid (And.intro f1 f2)
          clear f1 f2 f3
          have sc27 := TC.out _ F2.out.1
          refine ⟨.bool true, rfl, sc27, ?_⟩
          try simp only [Act.put, List.setIfInBounds_toArray, List.set_cons_zero, List.set_cons_succ]
          refine takeOn 28 (some 91) (v := ?_) rfl rfl (by kernel_rfl) (by kernel_rfl) (by kernel_rfl) (fun _ _ _ h => h) (by rfl) ?_ (by assumption) ?_
          rotate_left
          · (intro w hSw; (try dsimp only at hSw); go_simp; try with_reducible rfl)
          try simp only [Act.put, List.setIfInBounds_toArray, List.set_cons_zero, List.set_cons_succ]
          refine takeOn 29 (some 92) (v := ?_) rfl rfl (by kernel_rfl) (by kernel_rfl) (by kernel_rfl) (fun _ _ _ h => h) (by rfl) ?_ (by assumption) ?_
          rotate_left
          · (intro w hSw; (try dsimp only at hSw); go_simp; try with_reducible rfl)
          try simp only [Act.put, List.setIfInBounds_toArray, List.set_cons_zero, List.set_cons_succ]
          refine takeOn 30 (some 12) (v := ?_) rfl rfl (by kernel_rfl) (by kernel_rfl) (by kernel_rfl) (fun _ _ _ h => h) (by rfl) ?_ (by assumption) ?_
          rotate_left
          · (intro w hSw; (try dsimp only at hSw); go_simp; try with_reducible rfl)
          try simp only [Act.put, List.setIfInBounds_toArray, List.set_cons_zero, List.set_cons_succ]
          refine wpAnyH_done (by kernel_rfl) ?_ _
          go_wp2_with fail
          go_ret
          have hh := HH.out
          exact ⟨true, rfl, F2.out.1, fun h => (by cases h), fun _ => ⟨_, (done_two hh.kg hh.ra hh.rb hh.hk hh.hab HPQ.out hh.sh hh.pa hh.pb HO1.out HO2.out), F2.out.2 _ rfl rfl⟩⟩
end
end Go.Proofs.Ytblfeokjlecgkaa
