/- Laid together by a tool from the texts of this seat: ChOp. Conditions: each theorem's own. -/
import Derived.Test.YtmjdhfbnmmdjiaaGreatK14
/- The way of an operation (written by gen_ways.py). -/
namespace Go.Proofs.YtmjdhfbnmmdjiaaGreat
open Go.RowKit

set_option maxRecDepth 100000 in
set_option maxHeartbeats 8000000 in
theorem op_any (P : Nat) (es : List Pt) (nx : Nx) (HN : Hid (NextC P es nx)) (env : Env) (p : Pt) (at0 a : Nat) (r : Ans) (Y : Nat → Prop) (w : World) (TA UA : Option Addr) (tc uc : Nat) (h : WkE P es env (.ok a) Y w) (hT : TyV w Y TA tc p.T) (hU : TyV w Y UA uc p.U) (hG : ∀ env a t b, nx env a = some (.ok (t, b)) → Gd t) (hm : opM nx env p at0 a = some r) :
    Calls Tryz.prog 72 #[pk P, pv p TA tc UA uc, .int .i64 at0] w (WyPost P es env Y r w) := by
  obtain ⟨w1, hw1⟩ : ∃ w1, w1 = w.alloc (.cells #[.int .i64 p.k, .string p.lb, .string p.nm, .string p.bd, .int .i64 p.mn, .int .i64 p.num, .slice TA p.T.length tc, .slice UA p.U.length uc] 33) := ⟨_, rfl⟩
  have hpm := PtM.new h.lt hT hU
  have hb1 : Below w.heap.size w w1 := by rw [hw1]; exact ext_alloc (Below.refl _ _) _
  rw [← hw1] at hpm
  have G1 : Hid (Fr Y w w1 ∧ YNew Y Y w ∧ WkE P es env (.ok a) Y w1 ∧ PtM w1 Y w.heap.size p TA tc UA uc) := Lib.hid ⟨Fr.below hb1, YNew.refl _ _, h.later hb1, hpm⟩
  have HR := Lib.hid (show opM nx env p at0 a = some r from hm)
  have HD := Lib.hid (hG)
  clear h hT hU hm hG hpm hb1
  unfold pk pv
  go_enter Tryz.func72, Tryz.ntmps72
  go_upto_region 1 with fail
  rw [← hw1]
  clear hw1
  obtain ⟨k0, k1, k2, k3, k4, k6, k7⟩ := G1.out.2.2.2.cells
  rcases op_cases p.nm with hc | hc | hc | hc | hc | ⟨hc1, hc2, hc3, hc4, hc5⟩
  · have q0 : (p.nm.toList == [38, 38]) = true := by rw [hc]; rfl
    have q1 : (p.nm.toList == [124, 124]) = false := by rw [hc]; rfl
    have q2 : (p.nm.toList == [43, 43]) = false := by rw [hc]; rfl
    have q3 : (p.nm.toList == [60]) = false := by rw [hc]; rfl
    have q4 : (p.nm.toList == [61, 61]) = false := by rw [hc]; rfl
    have HI : Hid (opIn p.nm = 2 ∧ opOut p.nm = 2) := Lib.hid (by simp [opIn, opOut, hc])
    clear hc
    rcases andA_some HR.out with ⟨x, h1, hr⟩ | ⟨t1, b1, h1, hr⟩
    · have HX := Lib.hid (HN.out env (.ok a) (.error x) Y w1 h1 G1.out.2.2.1)
      unfold pk at HX
      go_wp2_with fail
      refine HX.out.mono ?_
      rintro e w2 ⟨Y2, hf, hy, hk, rfl⟩
      clear HX
      clear k0 k1 k2 k3 k4 k6 k7
      have G2 : Hid (Fr Y w w2 ∧ YNew Y Y2 w ∧ WkE P es env (.error x) Y2 w2 ∧ PtM w2 Y2 w.heap.size p TA tc UA uc) := Lib.hid ⟨Fr.new G1.out.1 hf G1.out.2.1, YNew.trans G1.out.2.1 hy G1.out.1.size, hk, G1.out.2.2.2.fr hf hy⟩
      clear G1
      obtain ⟨k0, k1, k2, k3, k4, k6, k7⟩ := G2.out.2.2.2.cells
      clear hf hy hk
      have HX := Lib.hid (HN.out env (.error x) (.error x) Y2 w2 rfl G2.out.2.2.1)
      unfold pk at HX
      go_wp2_with fail
      refine HX.out.mono ?_
      rintro e w3 ⟨Y3, hf, hy, hk, rfl⟩
      clear HX
      clear k0 k1 k2 k3 k4 k6 k7
      have G3 : Hid (Fr Y w w3 ∧ YNew Y Y3 w ∧ WkE P es env (.error x) Y3 w3 ∧ PtM w3 Y3 w.heap.size p TA tc UA uc) := Lib.hid ⟨Fr.new G2.out.1 hf G2.out.2.1, YNew.trans G2.out.2.1 hy G2.out.1.size, hk, G2.out.2.2.2.fr hf hy⟩
      clear G2
      obtain ⟨k0, k1, k2, k3, k4, k6, k7⟩ := G3.out.2.2.2.cells
      clear hf hy hk
      have HX := Lib.hid (base_any 2 w3)
      go_wp2_with fail
      refine HX.out.mono ?_
      rintro e w4 ⟨A4, c4, rfl, hown, hb⟩
      clear HX
      clear k0 k1 k2 k3 k4 k6 k7
      have G4 : Hid (Fr Y w w4 ∧ YNew Y Y3 w ∧ WkE P es env (.error x) Y3 w4 ∧ PtM w4 Y3 w.heap.size p TA tc UA uc ∧ TyV w4 Y3 A4 c4 (baseN 2)) := Lib.hid ⟨Fr.new G3.out.1 (Fr.below hb) G3.out.2.1, YNew.trans G3.out.2.1 (YNew.refl _ _) G3.out.1.size, (G3.out.2.2.1.later hb), G3.out.2.2.2.fr (Fr.below hb) (YNew.refl _ _), (TyV.own hown (G3.out.2.2.1.lt))⟩
      clear G3
      obtain ⟨k0, k1, k2, k3, k4, k6, k7⟩ := G4.out.2.2.2.1.cells
      clear hown hb
      have HX := Lib.hid (agree_bad P es env x (.slice none 0 0) (.slice A4 1 c4) at0 Y3 w4 G4.out.2.2.1)
      unfold pk at HX
      go_wp2_with fail
      refine HX.out.mono ?_
      rintro e w5 ⟨⟨v5, rfl⟩, hf, hk⟩
      clear HX
      clear k0 k1 k2 k3 k4 k6 k7
      have G5 : Hid (Fr Y w w5 ∧ YNew Y Y3 w ∧ WkE P es env (.error x) Y3 w5 ∧ PtM w5 Y3 w.heap.size p TA tc UA uc ∧ TyV w5 Y3 A4 c4 (baseN 2)) := Lib.hid ⟨Fr.new G4.out.1 hf G4.out.2.1, YNew.trans G4.out.2.1 (YNew.refl _ _) G4.out.1.size, hk, G4.out.2.2.2.1.fr hf (YNew.refl _ _), G4.out.2.2.2.2.fr hf (YNew.refl _ _)⟩
      clear G4
      obtain ⟨k0, k1, k2, k3, k4, k6, k7⟩ := G5.out.2.2.2.1.cells
      clear hf hk
      have HX := Lib.hid (base_any 2 w5)
      go_wp2_with fail
      refine HX.out.mono ?_
      rintro e w6 ⟨A6, c6, rfl, hown, hb⟩
      clear HX
      clear k0 k1 k2 k3 k4 k6 k7
      have G6 : Hid (Fr Y w w6 ∧ YNew Y Y3 w ∧ WkE P es env (.error x) Y3 w6 ∧ PtM w6 Y3 w.heap.size p TA tc UA uc ∧ TyV w6 Y3 A4 c4 (baseN 2) ∧ TyV w6 Y3 A6 c6 (baseN 2)) := Lib.hid ⟨Fr.new G5.out.1 (Fr.below hb) G5.out.2.1, YNew.trans G5.out.2.1 (YNew.refl _ _) G5.out.1.size, (G5.out.2.2.1.later hb), G5.out.2.2.2.1.fr (Fr.below hb) (YNew.refl _ _), G5.out.2.2.2.2.fr (Fr.below hb) (YNew.refl _ _), (TyV.own hown (G5.out.2.2.1.lt))⟩
      clear G5
      obtain ⟨k0, k1, k2, k3, k4, k6, k7⟩ := G6.out.2.2.2.1.cells
      clear hown hb
      have HX := Lib.hid (agree_bad P es env x (.slice none 0 0) (.slice A6 1 c6) at0 Y3 w6 G6.out.2.2.1)
      unfold pk at HX
      go_wp2_with fail
      refine HX.out.mono ?_
      rintro e w7 ⟨⟨v7, rfl⟩, hf, hk⟩
      clear HX
      clear k0 k1 k2 k3 k4 k6 k7
      have G7 : Hid (Fr Y w w7 ∧ YNew Y Y3 w ∧ WkE P es env (.error x) Y3 w7 ∧ PtM w7 Y3 w.heap.size p TA tc UA uc ∧ TyV w7 Y3 A4 c4 (baseN 2) ∧ TyV w7 Y3 A6 c6 (baseN 2)) := Lib.hid ⟨Fr.new G6.out.1 hf G6.out.2.1, YNew.trans G6.out.2.1 (YNew.refl _ _) G6.out.1.size, hk, G6.out.2.2.2.1.fr hf (YNew.refl _ _), G6.out.2.2.2.2.1.fr hf (YNew.refl _ _), G6.out.2.2.2.2.2.fr hf (YNew.refl _ _)⟩
      clear G6
      obtain ⟨k0, k1, k2, k3, k4, k6, k7⟩ := G7.out.2.2.2.1.cells
      clear hf hk
      have HX := Lib.hid (base_any 2 w7)
      go_wp2_with fail
      refine HX.out.mono ?_
      rintro e w8 ⟨A8, c8, rfl, hown, hb⟩
      clear HX
      clear k0 k1 k2 k3 k4 k6 k7
      have G8 : Hid (Fr Y w w8 ∧ YNew Y Y3 w ∧ WkE P es env (.error x) Y3 w8 ∧ PtM w8 Y3 w.heap.size p TA tc UA uc ∧ TyV w8 Y3 A4 c4 (baseN 2) ∧ TyV w8 Y3 A6 c6 (baseN 2) ∧ TyV w8 Y3 A8 c8 (baseN 2)) := Lib.hid ⟨Fr.new G7.out.1 (Fr.below hb) G7.out.2.1, YNew.trans G7.out.2.1 (YNew.refl _ _) G7.out.1.size, (G7.out.2.2.1.later hb), G7.out.2.2.2.1.fr (Fr.below hb) (YNew.refl _ _), G7.out.2.2.2.2.1.fr (Fr.below hb) (YNew.refl _ _), G7.out.2.2.2.2.2.fr (Fr.below hb) (YNew.refl _ _), (TyV.own hown (G7.out.2.2.1.lt))⟩
      clear G7
      obtain ⟨k0, k1, k2, k3, k4, k6, k7⟩ := G8.out.2.2.2.1.cells
      clear hown hb
      have HQ : Hid (WyPost P es env Y r w (.returned (.slice A8 1 c8)) w8) := Lib.hid (by
        subst hr
        exact ⟨Y3, G8.out.1, G8.out.2.1, G8.out.2.2.1, _, _, _, rfl⟩)
      go_wp2_with fail
      go_ret
      exact HQ.out
    · have HX := Lib.hid (HN.out env (.ok a) _ Y w1 h1 G1.out.2.2.1)
      unfold pk at HX
      go_wp2_with fail
      refine HX.out.mono ?_
      rintro e w2 ⟨Y2, hf, hy, hk, A2, c2, rfl, ht⟩
      clear HX
      clear k0 k1 k2 k3 k4 k6 k7
      have G2 : Hid (Fr Y w w2 ∧ YNew Y Y2 w ∧ WkE P es env (.ok b1) Y2 w2 ∧ PtM w2 Y2 w.heap.size p TA tc UA uc ∧ TyV w2 Y2 A2 c2 t1) := Lib.hid ⟨Fr.new G1.out.1 hf G1.out.2.1, YNew.trans G1.out.2.1 hy G1.out.1.size, hk, G1.out.2.2.2.fr hf hy, ht⟩
      clear G1
      obtain ⟨k0, k1, k2, k3, k4, k6, k7⟩ := G2.out.2.2.2.1.cells
      clear hf hy hk ht
      rcases andA_some hr with ⟨x, h2, hr⟩ | ⟨t2, b2, h2, hr⟩
      · have HX := Lib.hid (HN.out env (.ok b1) (.error x) Y2 w2 h2 G2.out.2.2.1)
        unfold pk at HX
        go_wp2_with fail
        refine HX.out.mono ?_
        rintro e w3 ⟨Y3, hf, hy, hk, rfl⟩
        clear HX
        clear k0 k1 k2 k3 k4 k6 k7
        have G3 : Hid (Fr Y w w3 ∧ YNew Y Y3 w ∧ WkE P es env (.error x) Y3 w3 ∧ PtM w3 Y3 w.heap.size p TA tc UA uc ∧ TyV w3 Y3 A2 c2 t1) := Lib.hid ⟨Fr.new G2.out.1 hf G2.out.2.1, YNew.trans G2.out.2.1 hy G2.out.1.size, hk, G2.out.2.2.2.1.fr hf hy, G2.out.2.2.2.2.fr hf hy⟩
        clear G2
        obtain ⟨k0, k1, k2, k3, k4, k6, k7⟩ := G3.out.2.2.2.1.cells
        clear hf hy hk
        have HX := Lib.hid (base_any 2 w3)
        go_wp2_with fail
        refine HX.out.mono ?_
        rintro e w4 ⟨A4, c4, rfl, hown, hb⟩
        clear HX
        clear k0 k1 k2 k3 k4 k6 k7
        have G4 : Hid (Fr Y w w4 ∧ YNew Y Y3 w ∧ WkE P es env (.error x) Y3 w4 ∧ PtM w4 Y3 w.heap.size p TA tc UA uc ∧ TyV w4 Y3 A2 c2 t1 ∧ TyV w4 Y3 A4 c4 (baseN 2)) := Lib.hid ⟨Fr.new G3.out.1 (Fr.below hb) G3.out.2.1, YNew.trans G3.out.2.1 (YNew.refl _ _) G3.out.1.size, (G3.out.2.2.1.later hb), G3.out.2.2.2.1.fr (Fr.below hb) (YNew.refl _ _), G3.out.2.2.2.2.fr (Fr.below hb) (YNew.refl _ _), (TyV.own hown (G3.out.2.2.1.lt))⟩
        clear G3
        obtain ⟨k0, k1, k2, k3, k4, k6, k7⟩ := G4.out.2.2.2.1.cells
        clear hown hb
        have HX := Lib.hid (agree_bad P es env x (.slice A2 t1.length c2) (.slice A4 1 c4) at0 Y3 w4 G4.out.2.2.1)
        unfold pk at HX
        go_wp2_with fail
        refine HX.out.mono ?_
        rintro e w5 ⟨⟨v5, rfl⟩, hf, hk⟩
        clear HX
        clear k0 k1 k2 k3 k4 k6 k7
        have G5 : Hid (Fr Y w w5 ∧ YNew Y Y3 w ∧ WkE P es env (.error x) Y3 w5 ∧ PtM w5 Y3 w.heap.size p TA tc UA uc ∧ TyV w5 Y3 A2 c2 t1 ∧ TyV w5 Y3 A4 c4 (baseN 2)) := Lib.hid ⟨Fr.new G4.out.1 hf G4.out.2.1, YNew.trans G4.out.2.1 (YNew.refl _ _) G4.out.1.size, hk, G4.out.2.2.2.1.fr hf (YNew.refl _ _), G4.out.2.2.2.2.1.fr hf (YNew.refl _ _), G4.out.2.2.2.2.2.fr hf (YNew.refl _ _)⟩
        clear G4
        obtain ⟨k0, k1, k2, k3, k4, k6, k7⟩ := G5.out.2.2.2.1.cells
        clear hf hk
        have HX := Lib.hid (base_any 2 w5)
        go_wp2_with fail
        refine HX.out.mono ?_
        rintro e w6 ⟨A6, c6, rfl, hown, hb⟩
        clear HX
        clear k0 k1 k2 k3 k4 k6 k7
        have G6 : Hid (Fr Y w w6 ∧ YNew Y Y3 w ∧ WkE P es env (.error x) Y3 w6 ∧ PtM w6 Y3 w.heap.size p TA tc UA uc ∧ TyV w6 Y3 A2 c2 t1 ∧ TyV w6 Y3 A4 c4 (baseN 2) ∧ TyV w6 Y3 A6 c6 (baseN 2)) := Lib.hid ⟨Fr.new G5.out.1 (Fr.below hb) G5.out.2.1, YNew.trans G5.out.2.1 (YNew.refl _ _) G5.out.1.size, (G5.out.2.2.1.later hb), G5.out.2.2.2.1.fr (Fr.below hb) (YNew.refl _ _), G5.out.2.2.2.2.1.fr (Fr.below hb) (YNew.refl _ _), G5.out.2.2.2.2.2.fr (Fr.below hb) (YNew.refl _ _), (TyV.own hown (G5.out.2.2.1.lt))⟩
        clear G5
        obtain ⟨k0, k1, k2, k3, k4, k6, k7⟩ := G6.out.2.2.2.1.cells
        clear hown hb
        have HX := Lib.hid (agree_bad P es env x (.slice none 0 0) (.slice A6 1 c6) at0 Y3 w6 G6.out.2.2.1)
        unfold pk at HX
        go_wp2_with fail
        refine HX.out.mono ?_
        rintro e w7 ⟨⟨v7, rfl⟩, hf, hk⟩
        clear HX
        clear k0 k1 k2 k3 k4 k6 k7
        have G7 : Hid (Fr Y w w7 ∧ YNew Y Y3 w ∧ WkE P es env (.error x) Y3 w7 ∧ PtM w7 Y3 w.heap.size p TA tc UA uc ∧ TyV w7 Y3 A2 c2 t1 ∧ TyV w7 Y3 A4 c4 (baseN 2) ∧ TyV w7 Y3 A6 c6 (baseN 2)) := Lib.hid ⟨Fr.new G6.out.1 hf G6.out.2.1, YNew.trans G6.out.2.1 (YNew.refl _ _) G6.out.1.size, hk, G6.out.2.2.2.1.fr hf (YNew.refl _ _), G6.out.2.2.2.2.1.fr hf (YNew.refl _ _), G6.out.2.2.2.2.2.1.fr hf (YNew.refl _ _), G6.out.2.2.2.2.2.2.fr hf (YNew.refl _ _)⟩
        clear G6
        obtain ⟨k0, k1, k2, k3, k4, k6, k7⟩ := G7.out.2.2.2.1.cells
        clear hf hk
        have HX := Lib.hid (base_any 2 w7)
        go_wp2_with fail
        refine HX.out.mono ?_
        rintro e w8 ⟨A8, c8, rfl, hown, hb⟩
        clear HX
        clear k0 k1 k2 k3 k4 k6 k7
        have G8 : Hid (Fr Y w w8 ∧ YNew Y Y3 w ∧ WkE P es env (.error x) Y3 w8 ∧ PtM w8 Y3 w.heap.size p TA tc UA uc ∧ TyV w8 Y3 A2 c2 t1 ∧ TyV w8 Y3 A4 c4 (baseN 2) ∧ TyV w8 Y3 A6 c6 (baseN 2) ∧ TyV w8 Y3 A8 c8 (baseN 2)) := Lib.hid ⟨Fr.new G7.out.1 (Fr.below hb) G7.out.2.1, YNew.trans G7.out.2.1 (YNew.refl _ _) G7.out.1.size, (G7.out.2.2.1.later hb), G7.out.2.2.2.1.fr (Fr.below hb) (YNew.refl _ _), G7.out.2.2.2.2.1.fr (Fr.below hb) (YNew.refl _ _), G7.out.2.2.2.2.2.1.fr (Fr.below hb) (YNew.refl _ _), G7.out.2.2.2.2.2.2.fr (Fr.below hb) (YNew.refl _ _), (TyV.own hown (G7.out.2.2.1.lt))⟩
        clear G7
        obtain ⟨k0, k1, k2, k3, k4, k6, k7⟩ := G8.out.2.2.2.1.cells
        clear hown hb
        have HQ : Hid (WyPost P es env Y r w (.returned (.slice A8 1 c8)) w8) := Lib.hid (by
          subst hr
          exact ⟨Y3, G8.out.1, G8.out.2.1, G8.out.2.2.1, _, _, _, rfl⟩)
        go_wp2_with fail
        go_ret
        exact HQ.out
      · have HX := Lib.hid (HN.out env (.ok b1) _ Y2 w2 h2 G2.out.2.2.1)
        unfold pk at HX
        go_wp2_with fail
        refine HX.out.mono ?_
        rintro e w3 ⟨Y3, hf, hy, hk, A3, c3, rfl, ht⟩
        clear HX
        clear k0 k1 k2 k3 k4 k6 k7
        have G3 : Hid (Fr Y w w3 ∧ YNew Y Y3 w ∧ WkE P es env (.ok b2) Y3 w3 ∧ PtM w3 Y3 w.heap.size p TA tc UA uc ∧ TyV w3 Y3 A2 c2 t1 ∧ TyV w3 Y3 A3 c3 t2) := Lib.hid ⟨Fr.new G2.out.1 hf G2.out.2.1, YNew.trans G2.out.2.1 hy G2.out.1.size, hk, G2.out.2.2.2.1.fr hf hy, G2.out.2.2.2.2.fr hf hy, ht⟩
        clear G2
        obtain ⟨k0, k1, k2, k3, k4, k6, k7⟩ := G3.out.2.2.2.1.cells
        clear hf hy hk ht
        rw [HI.out.1, HI.out.2] at hr
        have HRR := Lib.hid hr
        clear hr
        have HX := Lib.hid (base_any 2 w3)
        go_wp2_with fail
        refine HX.out.mono ?_
        rintro e w4 ⟨A4, c4, rfl, hown, hb⟩
        clear HX
        clear k0 k1 k2 k3 k4 k6 k7
        have G4 : Hid (Fr Y w w4 ∧ YNew Y Y3 w ∧ WkE P es env (.ok b2) Y3 w4 ∧ PtM w4 Y3 w.heap.size p TA tc UA uc ∧ TyV w4 Y3 A2 c2 t1 ∧ TyV w4 Y3 A3 c3 t2 ∧ TyV w4 Y3 A4 c4 (baseN 2)) := Lib.hid ⟨Fr.new G3.out.1 (Fr.below hb) G3.out.2.1, YNew.trans G3.out.2.1 (YNew.refl _ _) G3.out.1.size, (G3.out.2.2.1.later hb), G3.out.2.2.2.1.fr (Fr.below hb) (YNew.refl _ _), G3.out.2.2.2.2.1.fr (Fr.below hb) (YNew.refl _ _), G3.out.2.2.2.2.2.fr (Fr.below hb) (YNew.refl _ _), (TyV.own hown (G3.out.2.2.1.lt))⟩
        clear G3
        obtain ⟨k0, k1, k2, k3, k4, k6, k7⟩ := G4.out.2.2.2.1.cells
        clear hown hb
        have HX := Lib.hid (agree_ok P es env b2 A2 A4 c2 c4 t1 (baseN 2) at0 Y3 w4 G4.out.2.2.1 G4.out.2.2.2.2.1.ty G4.out.2.2.2.2.2.2.ty (HD.out _ _ _ _ h1) (gd_base 2 (by decide)))
        unfold pk at HX
        go_wp2_with fail
        refine HX.out.mono ?_
        rintro e w5 ⟨⟨v5, rfl⟩, hf, hk⟩
        clear HX
        clear k0 k1 k2 k3 k4 k6 k7
        have G5 : Hid (Fr Y w w5 ∧ YNew Y Y3 w ∧ WkE P es env (agS t1 (baseN 2) at0 b2) Y3 w5 ∧ PtM w5 Y3 w.heap.size p TA tc UA uc ∧ TyV w5 Y3 A2 c2 t1 ∧ TyV w5 Y3 A3 c3 t2 ∧ TyV w5 Y3 A4 c4 (baseN 2)) := Lib.hid ⟨Fr.new G4.out.1 hf G4.out.2.1, YNew.trans G4.out.2.1 (YNew.refl _ _) G4.out.1.size, hk, G4.out.2.2.2.1.fr hf (YNew.refl _ _), G4.out.2.2.2.2.1.fr hf (YNew.refl _ _), G4.out.2.2.2.2.2.1.fr hf (YNew.refl _ _), G4.out.2.2.2.2.2.2.fr hf (YNew.refl _ _)⟩
        clear G4
        obtain ⟨k0, k1, k2, k3, k4, k6, k7⟩ := G5.out.2.2.2.1.cells
        clear hf hk
        cases hag : agB t1 (baseN 2) with
        | true =>
          have hk2 : WkE P es env (.ok b2) Y3 w5 := by have hk := G5.out.2.2.1; unfold agS at hk; rw [hag, if_pos rfl] at hk; exact hk
          have HX := Lib.hid (base_any 2 w5)
          go_wp2_with fail
          refine HX.out.mono ?_
          rintro e w6 ⟨A6, c6, rfl, hown, hb⟩
          clear HX
          clear k0 k1 k2 k3 k4 k6 k7
          have G6 : Hid (Fr Y w w6 ∧ YNew Y Y3 w ∧ WkE P es env (.ok b2) Y3 w6 ∧ PtM w6 Y3 w.heap.size p TA tc UA uc ∧ TyV w6 Y3 A2 c2 t1 ∧ TyV w6 Y3 A3 c3 t2 ∧ TyV w6 Y3 A4 c4 (baseN 2) ∧ TyV w6 Y3 A6 c6 (baseN 2)) := Lib.hid ⟨Fr.new G5.out.1 (Fr.below hb) G5.out.2.1, YNew.trans G5.out.2.1 (YNew.refl _ _) G5.out.1.size, (hk2.later hb), G5.out.2.2.2.1.fr (Fr.below hb) (YNew.refl _ _), G5.out.2.2.2.2.1.fr (Fr.below hb) (YNew.refl _ _), G5.out.2.2.2.2.2.1.fr (Fr.below hb) (YNew.refl _ _), G5.out.2.2.2.2.2.2.fr (Fr.below hb) (YNew.refl _ _), (TyV.own hown (hk2.lt))⟩
          clear G5
          obtain ⟨k0, k1, k2, k3, k4, k6, k7⟩ := G6.out.2.2.2.1.cells
          clear hown hb hk2
          have HX := Lib.hid (agree_ok P es env b2 A3 A6 c3 c6 t2 (baseN 2) at0 Y3 w6 G6.out.2.2.1 G6.out.2.2.2.2.2.1.ty G6.out.2.2.2.2.2.2.2.ty (HD.out _ _ _ _ h2) (gd_base 2 (by decide)))
          unfold pk at HX
          go_wp2_with fail
          refine HX.out.mono ?_
          rintro e w7 ⟨⟨v7, rfl⟩, hf, hk⟩
          clear HX
          clear k0 k1 k2 k3 k4 k6 k7
          have G7 : Hid (Fr Y w w7 ∧ YNew Y Y3 w ∧ WkE P es env (agS t2 (baseN 2) at0 b2) Y3 w7 ∧ PtM w7 Y3 w.heap.size p TA tc UA uc ∧ TyV w7 Y3 A2 c2 t1 ∧ TyV w7 Y3 A3 c3 t2 ∧ TyV w7 Y3 A4 c4 (baseN 2) ∧ TyV w7 Y3 A6 c6 (baseN 2)) := Lib.hid ⟨Fr.new G6.out.1 hf G6.out.2.1, YNew.trans G6.out.2.1 (YNew.refl _ _) G6.out.1.size, hk, G6.out.2.2.2.1.fr hf (YNew.refl _ _), G6.out.2.2.2.2.1.fr hf (YNew.refl _ _), G6.out.2.2.2.2.2.1.fr hf (YNew.refl _ _), G6.out.2.2.2.2.2.2.1.fr hf (YNew.refl _ _), G6.out.2.2.2.2.2.2.2.fr hf (YNew.refl _ _)⟩
          clear G6
          obtain ⟨k0, k1, k2, k3, k4, k6, k7⟩ := G7.out.2.2.2.1.cells
          clear hf hk
          have HX := Lib.hid (base_any 2 w7)
          go_wp2_with fail
          refine HX.out.mono ?_
          rintro e w8 ⟨A8, c8, rfl, hown, hb⟩
          clear HX
          clear k0 k1 k2 k3 k4 k6 k7
          have G8 : Hid (Fr Y w w8 ∧ YNew Y Y3 w ∧ WkE P es env (agS t2 (baseN 2) at0 b2) Y3 w8 ∧ PtM w8 Y3 w.heap.size p TA tc UA uc ∧ TyV w8 Y3 A2 c2 t1 ∧ TyV w8 Y3 A3 c3 t2 ∧ TyV w8 Y3 A4 c4 (baseN 2) ∧ TyV w8 Y3 A6 c6 (baseN 2) ∧ TyV w8 Y3 A8 c8 (baseN 2)) := Lib.hid ⟨Fr.new G7.out.1 (Fr.below hb) G7.out.2.1, YNew.trans G7.out.2.1 (YNew.refl _ _) G7.out.1.size, (G7.out.2.2.1.later hb), G7.out.2.2.2.1.fr (Fr.below hb) (YNew.refl _ _), G7.out.2.2.2.2.1.fr (Fr.below hb) (YNew.refl _ _), G7.out.2.2.2.2.2.1.fr (Fr.below hb) (YNew.refl _ _), G7.out.2.2.2.2.2.2.1.fr (Fr.below hb) (YNew.refl _ _), G7.out.2.2.2.2.2.2.2.fr (Fr.below hb) (YNew.refl _ _), (TyV.own hown (G7.out.2.2.1.lt))⟩
          clear G7
          obtain ⟨k0, k1, k2, k3, k4, k6, k7⟩ := G8.out.2.2.2.1.cells
          clear hown hb
          cases hag2 : agB t2 (baseN 2) with
          | true =>
            have HQ : Hid (WyPost P es env Y r w (.returned (.slice A8 1 c8)) w8) := Lib.hid (by
              have hk := G8.out.2.2.1
              have hr := HRR.out
              rw [if_pos ⟨hag, hag2⟩] at hr
              unfold agS at hk
              rw [if_pos hag2] at hk
              injection hr with hr
              subst hr
              exact ⟨Y3, G8.out.1, G8.out.2.1, hk, A8, c8, rfl, G8.out.2.2.2.2.2.2.2.2⟩)
            go_wp2_with fail
            go_ret
            exact HQ.out
          | false =>
            have HQ : Hid (WyPost P es env Y r w (.returned (.slice A8 1 c8)) w8) := Lib.hid (by
              have hk := G8.out.2.2.1
              have hr := HRR.out
              rw [if_neg (by rw [hag2]; simp)] at hr
              unfold agS at hk
              rw [if_neg (by rw [hag2]; simp)] at hk
              injection hr with hr
              subst hr
              exact ⟨Y3, G8.out.1, G8.out.2.1, hk, _, _, _, rfl⟩)
            go_wp2_with fail
            go_ret
            exact HQ.out
        | false =>
          have hk2 : WkE P es env (.error (at0, 9)) Y3 w5 := by have hk := G5.out.2.2.1; unfold agS at hk; rw [hag, if_neg (by simp)] at hk; exact hk
          have HX := Lib.hid (base_any 2 w5)
          go_wp2_with fail
          refine HX.out.mono ?_
          rintro e w6 ⟨A6, c6, rfl, hown, hb⟩
          clear HX
          clear k0 k1 k2 k3 k4 k6 k7
          have G6 : Hid (Fr Y w w6 ∧ YNew Y Y3 w ∧ WkE P es env (.error (at0, 9)) Y3 w6 ∧ PtM w6 Y3 w.heap.size p TA tc UA uc ∧ TyV w6 Y3 A2 c2 t1 ∧ TyV w6 Y3 A3 c3 t2 ∧ TyV w6 Y3 A4 c4 (baseN 2)) := Lib.hid ⟨Fr.new G5.out.1 (Fr.below hb) G5.out.2.1, YNew.trans G5.out.2.1 (YNew.refl _ _) G5.out.1.size, (hk2.later hb), G5.out.2.2.2.1.fr (Fr.below hb) (YNew.refl _ _), G5.out.2.2.2.2.1.fr (Fr.below hb) (YNew.refl _ _), G5.out.2.2.2.2.2.1.fr (Fr.below hb) (YNew.refl _ _), G5.out.2.2.2.2.2.2.fr (Fr.below hb) (YNew.refl _ _)⟩
          clear G5
          obtain ⟨k0, k1, k2, k3, k4, k6, k7⟩ := G6.out.2.2.2.1.cells
          clear hown hb hk2
          have HX := Lib.hid (agree_bad P es env (at0, 9) (.slice A3 t2.length c3) (.slice A6 1 c6) at0 Y3 w6 G6.out.2.2.1)
          unfold pk at HX
          go_wp2_with fail
          refine HX.out.mono ?_
          rintro e w7 ⟨⟨v7, rfl⟩, hf, hk⟩
          clear HX
          clear k0 k1 k2 k3 k4 k6 k7
          have G7 : Hid (Fr Y w w7 ∧ YNew Y Y3 w ∧ WkE P es env (.error (at0, 9)) Y3 w7 ∧ PtM w7 Y3 w.heap.size p TA tc UA uc ∧ TyV w7 Y3 A2 c2 t1 ∧ TyV w7 Y3 A3 c3 t2 ∧ TyV w7 Y3 A4 c4 (baseN 2)) := Lib.hid ⟨Fr.new G6.out.1 hf G6.out.2.1, YNew.trans G6.out.2.1 (YNew.refl _ _) G6.out.1.size, hk, G6.out.2.2.2.1.fr hf (YNew.refl _ _), G6.out.2.2.2.2.1.fr hf (YNew.refl _ _), G6.out.2.2.2.2.2.1.fr hf (YNew.refl _ _), G6.out.2.2.2.2.2.2.fr hf (YNew.refl _ _)⟩
          clear G6
          obtain ⟨k0, k1, k2, k3, k4, k6, k7⟩ := G7.out.2.2.2.1.cells
          clear hf hk
          have HX := Lib.hid (base_any 2 w7)
          go_wp2_with fail
          refine HX.out.mono ?_
          rintro e w8 ⟨A8, c8, rfl, hown, hb⟩
          clear HX
          clear k0 k1 k2 k3 k4 k6 k7
          have G8 : Hid (Fr Y w w8 ∧ YNew Y Y3 w ∧ WkE P es env (.error (at0, 9)) Y3 w8 ∧ PtM w8 Y3 w.heap.size p TA tc UA uc ∧ TyV w8 Y3 A2 c2 t1 ∧ TyV w8 Y3 A3 c3 t2 ∧ TyV w8 Y3 A4 c4 (baseN 2) ∧ TyV w8 Y3 A8 c8 (baseN 2)) := Lib.hid ⟨Fr.new G7.out.1 (Fr.below hb) G7.out.2.1, YNew.trans G7.out.2.1 (YNew.refl _ _) G7.out.1.size, (G7.out.2.2.1.later hb), G7.out.2.2.2.1.fr (Fr.below hb) (YNew.refl _ _), G7.out.2.2.2.2.1.fr (Fr.below hb) (YNew.refl _ _), G7.out.2.2.2.2.2.1.fr (Fr.below hb) (YNew.refl _ _), G7.out.2.2.2.2.2.2.fr (Fr.below hb) (YNew.refl _ _), (TyV.own hown (G7.out.2.2.1.lt))⟩
          clear G7
          obtain ⟨k0, k1, k2, k3, k4, k6, k7⟩ := G8.out.2.2.2.1.cells
          clear hown hb
          have HQ : Hid (WyPost P es env Y r w (.returned (.slice A8 1 c8)) w8) := Lib.hid (by
            have hr := HRR.out
            rw [if_neg (by rw [hag]; simp)] at hr
            injection hr with hr
            subst hr
            exact ⟨Y3, G8.out.1, G8.out.2.1, G8.out.2.2.1, _, _, _, rfl⟩)
          go_wp2_with fail
          go_ret
          exact HQ.out
  · have q0 : (p.nm.toList == [38, 38]) = false := by rw [hc]; rfl
    have q1 : (p.nm.toList == [124, 124]) = true := by rw [hc]; rfl
    have q2 : (p.nm.toList == [43, 43]) = false := by rw [hc]; rfl
    have q3 : (p.nm.toList == [60]) = false := by rw [hc]; rfl
    have q4 : (p.nm.toList == [61, 61]) = false := by rw [hc]; rfl
    have HI : Hid (opIn p.nm = 2 ∧ opOut p.nm = 2) := Lib.hid (by simp [opIn, opOut, hc])
    clear hc
    rcases andA_some HR.out with ⟨x, h1, hr⟩ | ⟨t1, b1, h1, hr⟩
    · have HX := Lib.hid (HN.out env (.ok a) (.error x) Y w1 h1 G1.out.2.2.1)
      unfold pk at HX
      go_wp2_with fail
      refine HX.out.mono ?_
      rintro e w2 ⟨Y2, hf, hy, hk, rfl⟩
      clear HX
      clear k0 k1 k2 k3 k4 k6 k7
      have G2 : Hid (Fr Y w w2 ∧ YNew Y Y2 w ∧ WkE P es env (.error x) Y2 w2 ∧ PtM w2 Y2 w.heap.size p TA tc UA uc) := Lib.hid ⟨Fr.new G1.out.1 hf G1.out.2.1, YNew.trans G1.out.2.1 hy G1.out.1.size, hk, G1.out.2.2.2.fr hf hy⟩
      clear G1
      obtain ⟨k0, k1, k2, k3, k4, k6, k7⟩ := G2.out.2.2.2.cells
      clear hf hy hk
      have HX := Lib.hid (HN.out env (.error x) (.error x) Y2 w2 rfl G2.out.2.2.1)
      unfold pk at HX
      go_wp2_with fail
      refine HX.out.mono ?_
      rintro e w3 ⟨Y3, hf, hy, hk, rfl⟩
      clear HX
      clear k0 k1 k2 k3 k4 k6 k7
      have G3 : Hid (Fr Y w w3 ∧ YNew Y Y3 w ∧ WkE P es env (.error x) Y3 w3 ∧ PtM w3 Y3 w.heap.size p TA tc UA uc) := Lib.hid ⟨Fr.new G2.out.1 hf G2.out.2.1, YNew.trans G2.out.2.1 hy G2.out.1.size, hk, G2.out.2.2.2.fr hf hy⟩
      clear G2
      obtain ⟨k0, k1, k2, k3, k4, k6, k7⟩ := G3.out.2.2.2.cells
      clear hf hy hk
      have HX := Lib.hid (base_any 2 w3)
      go_wp2_with fail
      refine HX.out.mono ?_
      rintro e w4 ⟨A4, c4, rfl, hown, hb⟩
      clear HX
      clear k0 k1 k2 k3 k4 k6 k7
      have G4 : Hid (Fr Y w w4 ∧ YNew Y Y3 w ∧ WkE P es env (.error x) Y3 w4 ∧ PtM w4 Y3 w.heap.size p TA tc UA uc ∧ TyV w4 Y3 A4 c4 (baseN 2)) := Lib.hid ⟨Fr.new G3.out.1 (Fr.below hb) G3.out.2.1, YNew.trans G3.out.2.1 (YNew.refl _ _) G3.out.1.size, (G3.out.2.2.1.later hb), G3.out.2.2.2.fr (Fr.below hb) (YNew.refl _ _), (TyV.own hown (G3.out.2.2.1.lt))⟩
      clear G3
      obtain ⟨k0, k1, k2, k3, k4, k6, k7⟩ := G4.out.2.2.2.1.cells
      clear hown hb
      have HX := Lib.hid (agree_bad P es env x (.slice none 0 0) (.slice A4 1 c4) at0 Y3 w4 G4.out.2.2.1)
      unfold pk at HX
      go_wp2_with fail
      refine HX.out.mono ?_
      rintro e w5 ⟨⟨v5, rfl⟩, hf, hk⟩
      clear HX
      clear k0 k1 k2 k3 k4 k6 k7
      have G5 : Hid (Fr Y w w5 ∧ YNew Y Y3 w ∧ WkE P es env (.error x) Y3 w5 ∧ PtM w5 Y3 w.heap.size p TA tc UA uc ∧ TyV w5 Y3 A4 c4 (baseN 2)) := Lib.hid ⟨Fr.new G4.out.1 hf G4.out.2.1, YNew.trans G4.out.2.1 (YNew.refl _ _) G4.out.1.size, hk, G4.out.2.2.2.1.fr hf (YNew.refl _ _), G4.out.2.2.2.2.fr hf (YNew.refl _ _)⟩
      clear G4
      obtain ⟨k0, k1, k2, k3, k4, k6, k7⟩ := G5.out.2.2.2.1.cells
      clear hf hk
      have HX := Lib.hid (base_any 2 w5)
      go_wp2_with fail
      refine HX.out.mono ?_
      rintro e w6 ⟨A6, c6, rfl, hown, hb⟩
      clear HX
      clear k0 k1 k2 k3 k4 k6 k7
      have G6 : Hid (Fr Y w w6 ∧ YNew Y Y3 w ∧ WkE P es env (.error x) Y3 w6 ∧ PtM w6 Y3 w.heap.size p TA tc UA uc ∧ TyV w6 Y3 A4 c4 (baseN 2) ∧ TyV w6 Y3 A6 c6 (baseN 2)) := Lib.hid ⟨Fr.new G5.out.1 (Fr.below hb) G5.out.2.1, YNew.trans G5.out.2.1 (YNew.refl _ _) G5.out.1.size, (G5.out.2.2.1.later hb), G5.out.2.2.2.1.fr (Fr.below hb) (YNew.refl _ _), G5.out.2.2.2.2.fr (Fr.below hb) (YNew.refl _ _), (TyV.own hown (G5.out.2.2.1.lt))⟩
      clear G5
      obtain ⟨k0, k1, k2, k3, k4, k6, k7⟩ := G6.out.2.2.2.1.cells
      clear hown hb
      have HX := Lib.hid (agree_bad P es env x (.slice none 0 0) (.slice A6 1 c6) at0 Y3 w6 G6.out.2.2.1)
      unfold pk at HX
      go_wp2_with fail
      refine HX.out.mono ?_
      rintro e w7 ⟨⟨v7, rfl⟩, hf, hk⟩
      clear HX
      clear k0 k1 k2 k3 k4 k6 k7
      have G7 : Hid (Fr Y w w7 ∧ YNew Y Y3 w ∧ WkE P es env (.error x) Y3 w7 ∧ PtM w7 Y3 w.heap.size p TA tc UA uc ∧ TyV w7 Y3 A4 c4 (baseN 2) ∧ TyV w7 Y3 A6 c6 (baseN 2)) := Lib.hid ⟨Fr.new G6.out.1 hf G6.out.2.1, YNew.trans G6.out.2.1 (YNew.refl _ _) G6.out.1.size, hk, G6.out.2.2.2.1.fr hf (YNew.refl _ _), G6.out.2.2.2.2.1.fr hf (YNew.refl _ _), G6.out.2.2.2.2.2.fr hf (YNew.refl _ _)⟩
      clear G6
      obtain ⟨k0, k1, k2, k3, k4, k6, k7⟩ := G7.out.2.2.2.1.cells
      clear hf hk
      have HX := Lib.hid (base_any 2 w7)
      go_wp2_with fail
      refine HX.out.mono ?_
      rintro e w8 ⟨A8, c8, rfl, hown, hb⟩
      clear HX
      clear k0 k1 k2 k3 k4 k6 k7
      have G8 : Hid (Fr Y w w8 ∧ YNew Y Y3 w ∧ WkE P es env (.error x) Y3 w8 ∧ PtM w8 Y3 w.heap.size p TA tc UA uc ∧ TyV w8 Y3 A4 c4 (baseN 2) ∧ TyV w8 Y3 A6 c6 (baseN 2) ∧ TyV w8 Y3 A8 c8 (baseN 2)) := Lib.hid ⟨Fr.new G7.out.1 (Fr.below hb) G7.out.2.1, YNew.trans G7.out.2.1 (YNew.refl _ _) G7.out.1.size, (G7.out.2.2.1.later hb), G7.out.2.2.2.1.fr (Fr.below hb) (YNew.refl _ _), G7.out.2.2.2.2.1.fr (Fr.below hb) (YNew.refl _ _), G7.out.2.2.2.2.2.fr (Fr.below hb) (YNew.refl _ _), (TyV.own hown (G7.out.2.2.1.lt))⟩
      clear G7
      obtain ⟨k0, k1, k2, k3, k4, k6, k7⟩ := G8.out.2.2.2.1.cells
      clear hown hb
      have HQ : Hid (WyPost P es env Y r w (.returned (.slice A8 1 c8)) w8) := Lib.hid (by
        subst hr
        exact ⟨Y3, G8.out.1, G8.out.2.1, G8.out.2.2.1, _, _, _, rfl⟩)
      go_wp2_with fail
      go_ret
      exact HQ.out
    · have HX := Lib.hid (HN.out env (.ok a) _ Y w1 h1 G1.out.2.2.1)
      unfold pk at HX
      go_wp2_with fail
      refine HX.out.mono ?_
      rintro e w2 ⟨Y2, hf, hy, hk, A2, c2, rfl, ht⟩
      clear HX
      clear k0 k1 k2 k3 k4 k6 k7
      have G2 : Hid (Fr Y w w2 ∧ YNew Y Y2 w ∧ WkE P es env (.ok b1) Y2 w2 ∧ PtM w2 Y2 w.heap.size p TA tc UA uc ∧ TyV w2 Y2 A2 c2 t1) := Lib.hid ⟨Fr.new G1.out.1 hf G1.out.2.1, YNew.trans G1.out.2.1 hy G1.out.1.size, hk, G1.out.2.2.2.fr hf hy, ht⟩
      clear G1
      obtain ⟨k0, k1, k2, k3, k4, k6, k7⟩ := G2.out.2.2.2.1.cells
      clear hf hy hk ht
      rcases andA_some hr with ⟨x, h2, hr⟩ | ⟨t2, b2, h2, hr⟩
      · have HX := Lib.hid (HN.out env (.ok b1) (.error x) Y2 w2 h2 G2.out.2.2.1)
        unfold pk at HX
        go_wp2_with fail
        refine HX.out.mono ?_
        rintro e w3 ⟨Y3, hf, hy, hk, rfl⟩
        clear HX
        clear k0 k1 k2 k3 k4 k6 k7
        have G3 : Hid (Fr Y w w3 ∧ YNew Y Y3 w ∧ WkE P es env (.error x) Y3 w3 ∧ PtM w3 Y3 w.heap.size p TA tc UA uc ∧ TyV w3 Y3 A2 c2 t1) := Lib.hid ⟨Fr.new G2.out.1 hf G2.out.2.1, YNew.trans G2.out.2.1 hy G2.out.1.size, hk, G2.out.2.2.2.1.fr hf hy, G2.out.2.2.2.2.fr hf hy⟩
        clear G2
        obtain ⟨k0, k1, k2, k3, k4, k6, k7⟩ := G3.out.2.2.2.1.cells
        clear hf hy hk
        have HX := Lib.hid (base_any 2 w3)
        go_wp2_with fail
        refine HX.out.mono ?_
        rintro e w4 ⟨A4, c4, rfl, hown, hb⟩
        clear HX
        clear k0 k1 k2 k3 k4 k6 k7
        have G4 : Hid (Fr Y w w4 ∧ YNew Y Y3 w ∧ WkE P es env (.error x) Y3 w4 ∧ PtM w4 Y3 w.heap.size p TA tc UA uc ∧ TyV w4 Y3 A2 c2 t1 ∧ TyV w4 Y3 A4 c4 (baseN 2)) := Lib.hid ⟨Fr.new G3.out.1 (Fr.below hb) G3.out.2.1, YNew.trans G3.out.2.1 (YNew.refl _ _) G3.out.1.size, (G3.out.2.2.1.later hb), G3.out.2.2.2.1.fr (Fr.below hb) (YNew.refl _ _), G3.out.2.2.2.2.fr (Fr.below hb) (YNew.refl _ _), (TyV.own hown (G3.out.2.2.1.lt))⟩
        clear G3
        obtain ⟨k0, k1, k2, k3, k4, k6, k7⟩ := G4.out.2.2.2.1.cells
        clear hown hb
        have HX := Lib.hid (agree_bad P es env x (.slice A2 t1.length c2) (.slice A4 1 c4) at0 Y3 w4 G4.out.2.2.1)
        unfold pk at HX
        go_wp2_with fail
        refine HX.out.mono ?_
        rintro e w5 ⟨⟨v5, rfl⟩, hf, hk⟩
        clear HX
        clear k0 k1 k2 k3 k4 k6 k7
        have G5 : Hid (Fr Y w w5 ∧ YNew Y Y3 w ∧ WkE P es env (.error x) Y3 w5 ∧ PtM w5 Y3 w.heap.size p TA tc UA uc ∧ TyV w5 Y3 A2 c2 t1 ∧ TyV w5 Y3 A4 c4 (baseN 2)) := Lib.hid ⟨Fr.new G4.out.1 hf G4.out.2.1, YNew.trans G4.out.2.1 (YNew.refl _ _) G4.out.1.size, hk, G4.out.2.2.2.1.fr hf (YNew.refl _ _), G4.out.2.2.2.2.1.fr hf (YNew.refl _ _), G4.out.2.2.2.2.2.fr hf (YNew.refl _ _)⟩
        clear G4
        obtain ⟨k0, k1, k2, k3, k4, k6, k7⟩ := G5.out.2.2.2.1.cells
        clear hf hk
        have HX := Lib.hid (base_any 2 w5)
        go_wp2_with fail
        refine HX.out.mono ?_
        rintro e w6 ⟨A6, c6, rfl, hown, hb⟩
        clear HX
        clear k0 k1 k2 k3 k4 k6 k7
        have G6 : Hid (Fr Y w w6 ∧ YNew Y Y3 w ∧ WkE P es env (.error x) Y3 w6 ∧ PtM w6 Y3 w.heap.size p TA tc UA uc ∧ TyV w6 Y3 A2 c2 t1 ∧ TyV w6 Y3 A4 c4 (baseN 2) ∧ TyV w6 Y3 A6 c6 (baseN 2)) := Lib.hid ⟨Fr.new G5.out.1 (Fr.below hb) G5.out.2.1, YNew.trans G5.out.2.1 (YNew.refl _ _) G5.out.1.size, (G5.out.2.2.1.later hb), G5.out.2.2.2.1.fr (Fr.below hb) (YNew.refl _ _), G5.out.2.2.2.2.1.fr (Fr.below hb) (YNew.refl _ _), G5.out.2.2.2.2.2.fr (Fr.below hb) (YNew.refl _ _), (TyV.own hown (G5.out.2.2.1.lt))⟩
        clear G5
        obtain ⟨k0, k1, k2, k3, k4, k6, k7⟩ := G6.out.2.2.2.1.cells
        clear hown hb
        have HX := Lib.hid (agree_bad P es env x (.slice none 0 0) (.slice A6 1 c6) at0 Y3 w6 G6.out.2.2.1)
        unfold pk at HX
        go_wp2_with fail
        refine HX.out.mono ?_
        rintro e w7 ⟨⟨v7, rfl⟩, hf, hk⟩
        clear HX
        clear k0 k1 k2 k3 k4 k6 k7
        have G7 : Hid (Fr Y w w7 ∧ YNew Y Y3 w ∧ WkE P es env (.error x) Y3 w7 ∧ PtM w7 Y3 w.heap.size p TA tc UA uc ∧ TyV w7 Y3 A2 c2 t1 ∧ TyV w7 Y3 A4 c4 (baseN 2) ∧ TyV w7 Y3 A6 c6 (baseN 2)) := Lib.hid ⟨Fr.new G6.out.1 hf G6.out.2.1, YNew.trans G6.out.2.1 (YNew.refl _ _) G6.out.1.size, hk, G6.out.2.2.2.1.fr hf (YNew.refl _ _), G6.out.2.2.2.2.1.fr hf (YNew.refl _ _), G6.out.2.2.2.2.2.1.fr hf (YNew.refl _ _), G6.out.2.2.2.2.2.2.fr hf (YNew.refl _ _)⟩
        clear G6
        obtain ⟨k0, k1, k2, k3, k4, k6, k7⟩ := G7.out.2.2.2.1.cells
        clear hf hk
        have HX := Lib.hid (base_any 2 w7)
        go_wp2_with fail
        refine HX.out.mono ?_
        rintro e w8 ⟨A8, c8, rfl, hown, hb⟩
        clear HX
        clear k0 k1 k2 k3 k4 k6 k7
        have G8 : Hid (Fr Y w w8 ∧ YNew Y Y3 w ∧ WkE P es env (.error x) Y3 w8 ∧ PtM w8 Y3 w.heap.size p TA tc UA uc ∧ TyV w8 Y3 A2 c2 t1 ∧ TyV w8 Y3 A4 c4 (baseN 2) ∧ TyV w8 Y3 A6 c6 (baseN 2) ∧ TyV w8 Y3 A8 c8 (baseN 2)) := Lib.hid ⟨Fr.new G7.out.1 (Fr.below hb) G7.out.2.1, YNew.trans G7.out.2.1 (YNew.refl _ _) G7.out.1.size, (G7.out.2.2.1.later hb), G7.out.2.2.2.1.fr (Fr.below hb) (YNew.refl _ _), G7.out.2.2.2.2.1.fr (Fr.below hb) (YNew.refl _ _), G7.out.2.2.2.2.2.1.fr (Fr.below hb) (YNew.refl _ _), G7.out.2.2.2.2.2.2.fr (Fr.below hb) (YNew.refl _ _), (TyV.own hown (G7.out.2.2.1.lt))⟩
        clear G7
        obtain ⟨k0, k1, k2, k3, k4, k6, k7⟩ := G8.out.2.2.2.1.cells
        clear hown hb
        have HQ : Hid (WyPost P es env Y r w (.returned (.slice A8 1 c8)) w8) := Lib.hid (by
          subst hr
          exact ⟨Y3, G8.out.1, G8.out.2.1, G8.out.2.2.1, _, _, _, rfl⟩)
        go_wp2_with fail
        go_ret
        exact HQ.out
      · have HX := Lib.hid (HN.out env (.ok b1) _ Y2 w2 h2 G2.out.2.2.1)
        unfold pk at HX
        go_wp2_with fail
        refine HX.out.mono ?_
        rintro e w3 ⟨Y3, hf, hy, hk, A3, c3, rfl, ht⟩
        clear HX
        clear k0 k1 k2 k3 k4 k6 k7
        have G3 : Hid (Fr Y w w3 ∧ YNew Y Y3 w ∧ WkE P es env (.ok b2) Y3 w3 ∧ PtM w3 Y3 w.heap.size p TA tc UA uc ∧ TyV w3 Y3 A2 c2 t1 ∧ TyV w3 Y3 A3 c3 t2) := Lib.hid ⟨Fr.new G2.out.1 hf G2.out.2.1, YNew.trans G2.out.2.1 hy G2.out.1.size, hk, G2.out.2.2.2.1.fr hf hy, G2.out.2.2.2.2.fr hf hy, ht⟩
        clear G2
        obtain ⟨k0, k1, k2, k3, k4, k6, k7⟩ := G3.out.2.2.2.1.cells
        clear hf hy hk ht
        rw [HI.out.1, HI.out.2] at hr
        have HRR := Lib.hid hr
        clear hr
        have HX := Lib.hid (base_any 2 w3)
        go_wp2_with fail
        refine HX.out.mono ?_
        rintro e w4 ⟨A4, c4, rfl, hown, hb⟩
        clear HX
        clear k0 k1 k2 k3 k4 k6 k7
        have G4 : Hid (Fr Y w w4 ∧ YNew Y Y3 w ∧ WkE P es env (.ok b2) Y3 w4 ∧ PtM w4 Y3 w.heap.size p TA tc UA uc ∧ TyV w4 Y3 A2 c2 t1 ∧ TyV w4 Y3 A3 c3 t2 ∧ TyV w4 Y3 A4 c4 (baseN 2)) := Lib.hid ⟨Fr.new G3.out.1 (Fr.below hb) G3.out.2.1, YNew.trans G3.out.2.1 (YNew.refl _ _) G3.out.1.size, (G3.out.2.2.1.later hb), G3.out.2.2.2.1.fr (Fr.below hb) (YNew.refl _ _), G3.out.2.2.2.2.1.fr (Fr.below hb) (YNew.refl _ _), G3.out.2.2.2.2.2.fr (Fr.below hb) (YNew.refl _ _), (TyV.own hown (G3.out.2.2.1.lt))⟩
        clear G3
        obtain ⟨k0, k1, k2, k3, k4, k6, k7⟩ := G4.out.2.2.2.1.cells
        clear hown hb
        have HX := Lib.hid (agree_ok P es env b2 A2 A4 c2 c4 t1 (baseN 2) at0 Y3 w4 G4.out.2.2.1 G4.out.2.2.2.2.1.ty G4.out.2.2.2.2.2.2.ty (HD.out _ _ _ _ h1) (gd_base 2 (by decide)))
        unfold pk at HX
        go_wp2_with fail
        refine HX.out.mono ?_
        rintro e w5 ⟨⟨v5, rfl⟩, hf, hk⟩
        clear HX
        clear k0 k1 k2 k3 k4 k6 k7
        have G5 : Hid (Fr Y w w5 ∧ YNew Y Y3 w ∧ WkE P es env (agS t1 (baseN 2) at0 b2) Y3 w5 ∧ PtM w5 Y3 w.heap.size p TA tc UA uc ∧ TyV w5 Y3 A2 c2 t1 ∧ TyV w5 Y3 A3 c3 t2 ∧ TyV w5 Y3 A4 c4 (baseN 2)) := Lib.hid ⟨Fr.new G4.out.1 hf G4.out.2.1, YNew.trans G4.out.2.1 (YNew.refl _ _) G4.out.1.size, hk, G4.out.2.2.2.1.fr hf (YNew.refl _ _), G4.out.2.2.2.2.1.fr hf (YNew.refl _ _), G4.out.2.2.2.2.2.1.fr hf (YNew.refl _ _), G4.out.2.2.2.2.2.2.fr hf (YNew.refl _ _)⟩
        clear G4
        obtain ⟨k0, k1, k2, k3, k4, k6, k7⟩ := G5.out.2.2.2.1.cells
        clear hf hk
        cases hag : agB t1 (baseN 2) with
        | true =>
          have hk2 : WkE P es env (.ok b2) Y3 w5 := by have hk := G5.out.2.2.1; unfold agS at hk; rw [hag, if_pos rfl] at hk; exact hk
          have HX := Lib.hid (base_any 2 w5)
          go_wp2_with fail
          refine HX.out.mono ?_
          rintro e w6 ⟨A6, c6, rfl, hown, hb⟩
          clear HX
          clear k0 k1 k2 k3 k4 k6 k7
          have G6 : Hid (Fr Y w w6 ∧ YNew Y Y3 w ∧ WkE P es env (.ok b2) Y3 w6 ∧ PtM w6 Y3 w.heap.size p TA tc UA uc ∧ TyV w6 Y3 A2 c2 t1 ∧ TyV w6 Y3 A3 c3 t2 ∧ TyV w6 Y3 A4 c4 (baseN 2) ∧ TyV w6 Y3 A6 c6 (baseN 2)) := Lib.hid ⟨Fr.new G5.out.1 (Fr.below hb) G5.out.2.1, YNew.trans G5.out.2.1 (YNew.refl _ _) G5.out.1.size, (hk2.later hb), G5.out.2.2.2.1.fr (Fr.below hb) (YNew.refl _ _), G5.out.2.2.2.2.1.fr (Fr.below hb) (YNew.refl _ _), G5.out.2.2.2.2.2.1.fr (Fr.below hb) (YNew.refl _ _), G5.out.2.2.2.2.2.2.fr (Fr.below hb) (YNew.refl _ _), (TyV.own hown (hk2.lt))⟩
          clear G5
          obtain ⟨k0, k1, k2, k3, k4, k6, k7⟩ := G6.out.2.2.2.1.cells
          clear hown hb hk2
          have HX := Lib.hid (agree_ok P es env b2 A3 A6 c3 c6 t2 (baseN 2) at0 Y3 w6 G6.out.2.2.1 G6.out.2.2.2.2.2.1.ty G6.out.2.2.2.2.2.2.2.ty (HD.out _ _ _ _ h2) (gd_base 2 (by decide)))
          unfold pk at HX
          go_wp2_with fail
          refine HX.out.mono ?_
          rintro e w7 ⟨⟨v7, rfl⟩, hf, hk⟩
          clear HX
          clear k0 k1 k2 k3 k4 k6 k7
          have G7 : Hid (Fr Y w w7 ∧ YNew Y Y3 w ∧ WkE P es env (agS t2 (baseN 2) at0 b2) Y3 w7 ∧ PtM w7 Y3 w.heap.size p TA tc UA uc ∧ TyV w7 Y3 A2 c2 t1 ∧ TyV w7 Y3 A3 c3 t2 ∧ TyV w7 Y3 A4 c4 (baseN 2) ∧ TyV w7 Y3 A6 c6 (baseN 2)) := Lib.hid ⟨Fr.new G6.out.1 hf G6.out.2.1, YNew.trans G6.out.2.1 (YNew.refl _ _) G6.out.1.size, hk, G6.out.2.2.2.1.fr hf (YNew.refl _ _), G6.out.2.2.2.2.1.fr hf (YNew.refl _ _), G6.out.2.2.2.2.2.1.fr hf (YNew.refl _ _), G6.out.2.2.2.2.2.2.1.fr hf (YNew.refl _ _), G6.out.2.2.2.2.2.2.2.fr hf (YNew.refl _ _)⟩
          clear G6
          obtain ⟨k0, k1, k2, k3, k4, k6, k7⟩ := G7.out.2.2.2.1.cells
          clear hf hk
          have HX := Lib.hid (base_any 2 w7)
          go_wp2_with fail
          refine HX.out.mono ?_
          rintro e w8 ⟨A8, c8, rfl, hown, hb⟩
          clear HX
          clear k0 k1 k2 k3 k4 k6 k7
          have G8 : Hid (Fr Y w w8 ∧ YNew Y Y3 w ∧ WkE P es env (agS t2 (baseN 2) at0 b2) Y3 w8 ∧ PtM w8 Y3 w.heap.size p TA tc UA uc ∧ TyV w8 Y3 A2 c2 t1 ∧ TyV w8 Y3 A3 c3 t2 ∧ TyV w8 Y3 A4 c4 (baseN 2) ∧ TyV w8 Y3 A6 c6 (baseN 2) ∧ TyV w8 Y3 A8 c8 (baseN 2)) := Lib.hid ⟨Fr.new G7.out.1 (Fr.below hb) G7.out.2.1, YNew.trans G7.out.2.1 (YNew.refl _ _) G7.out.1.size, (G7.out.2.2.1.later hb), G7.out.2.2.2.1.fr (Fr.below hb) (YNew.refl _ _), G7.out.2.2.2.2.1.fr (Fr.below hb) (YNew.refl _ _), G7.out.2.2.2.2.2.1.fr (Fr.below hb) (YNew.refl _ _), G7.out.2.2.2.2.2.2.1.fr (Fr.below hb) (YNew.refl _ _), G7.out.2.2.2.2.2.2.2.fr (Fr.below hb) (YNew.refl _ _), (TyV.own hown (G7.out.2.2.1.lt))⟩
          clear G7
          obtain ⟨k0, k1, k2, k3, k4, k6, k7⟩ := G8.out.2.2.2.1.cells
          clear hown hb
          cases hag2 : agB t2 (baseN 2) with
          | true =>
            have HQ : Hid (WyPost P es env Y r w (.returned (.slice A8 1 c8)) w8) := Lib.hid (by
              have hk := G8.out.2.2.1
              have hr := HRR.out
              rw [if_pos ⟨hag, hag2⟩] at hr
              unfold agS at hk
              rw [if_pos hag2] at hk
              injection hr with hr
              subst hr
              exact ⟨Y3, G8.out.1, G8.out.2.1, hk, A8, c8, rfl, G8.out.2.2.2.2.2.2.2.2⟩)
            go_wp2_with fail
            go_ret
            exact HQ.out
          | false =>
            have HQ : Hid (WyPost P es env Y r w (.returned (.slice A8 1 c8)) w8) := Lib.hid (by
              have hk := G8.out.2.2.1
              have hr := HRR.out
              rw [if_neg (by rw [hag2]; simp)] at hr
              unfold agS at hk
              rw [if_neg (by rw [hag2]; simp)] at hk
              injection hr with hr
              subst hr
              exact ⟨Y3, G8.out.1, G8.out.2.1, hk, _, _, _, rfl⟩)
            go_wp2_with fail
            go_ret
            exact HQ.out
        | false =>
          have hk2 : WkE P es env (.error (at0, 9)) Y3 w5 := by have hk := G5.out.2.2.1; unfold agS at hk; rw [hag, if_neg (by simp)] at hk; exact hk
          have HX := Lib.hid (base_any 2 w5)
          go_wp2_with fail
          refine HX.out.mono ?_
          rintro e w6 ⟨A6, c6, rfl, hown, hb⟩
          clear HX
          clear k0 k1 k2 k3 k4 k6 k7
          have G6 : Hid (Fr Y w w6 ∧ YNew Y Y3 w ∧ WkE P es env (.error (at0, 9)) Y3 w6 ∧ PtM w6 Y3 w.heap.size p TA tc UA uc ∧ TyV w6 Y3 A2 c2 t1 ∧ TyV w6 Y3 A3 c3 t2 ∧ TyV w6 Y3 A4 c4 (baseN 2)) := Lib.hid ⟨Fr.new G5.out.1 (Fr.below hb) G5.out.2.1, YNew.trans G5.out.2.1 (YNew.refl _ _) G5.out.1.size, (hk2.later hb), G5.out.2.2.2.1.fr (Fr.below hb) (YNew.refl _ _), G5.out.2.2.2.2.1.fr (Fr.below hb) (YNew.refl _ _), G5.out.2.2.2.2.2.1.fr (Fr.below hb) (YNew.refl _ _), G5.out.2.2.2.2.2.2.fr (Fr.below hb) (YNew.refl _ _)⟩
          clear G5
          obtain ⟨k0, k1, k2, k3, k4, k6, k7⟩ := G6.out.2.2.2.1.cells
          clear hown hb hk2
          have HX := Lib.hid (agree_bad P es env (at0, 9) (.slice A3 t2.length c3) (.slice A6 1 c6) at0 Y3 w6 G6.out.2.2.1)
          unfold pk at HX
          go_wp2_with fail
          refine HX.out.mono ?_
          rintro e w7 ⟨⟨v7, rfl⟩, hf, hk⟩
          clear HX
          clear k0 k1 k2 k3 k4 k6 k7
          have G7 : Hid (Fr Y w w7 ∧ YNew Y Y3 w ∧ WkE P es env (.error (at0, 9)) Y3 w7 ∧ PtM w7 Y3 w.heap.size p TA tc UA uc ∧ TyV w7 Y3 A2 c2 t1 ∧ TyV w7 Y3 A3 c3 t2 ∧ TyV w7 Y3 A4 c4 (baseN 2)) := Lib.hid ⟨Fr.new G6.out.1 hf G6.out.2.1, YNew.trans G6.out.2.1 (YNew.refl _ _) G6.out.1.size, hk, G6.out.2.2.2.1.fr hf (YNew.refl _ _), G6.out.2.2.2.2.1.fr hf (YNew.refl _ _), G6.out.2.2.2.2.2.1.fr hf (YNew.refl _ _), G6.out.2.2.2.2.2.2.fr hf (YNew.refl _ _)⟩
          clear G6
          obtain ⟨k0, k1, k2, k3, k4, k6, k7⟩ := G7.out.2.2.2.1.cells
          clear hf hk
          have HX := Lib.hid (base_any 2 w7)
          go_wp2_with fail
          refine HX.out.mono ?_
          rintro e w8 ⟨A8, c8, rfl, hown, hb⟩
          clear HX
          clear k0 k1 k2 k3 k4 k6 k7
          have G8 : Hid (Fr Y w w8 ∧ YNew Y Y3 w ∧ WkE P es env (.error (at0, 9)) Y3 w8 ∧ PtM w8 Y3 w.heap.size p TA tc UA uc ∧ TyV w8 Y3 A2 c2 t1 ∧ TyV w8 Y3 A3 c3 t2 ∧ TyV w8 Y3 A4 c4 (baseN 2) ∧ TyV w8 Y3 A8 c8 (baseN 2)) := Lib.hid ⟨Fr.new G7.out.1 (Fr.below hb) G7.out.2.1, YNew.trans G7.out.2.1 (YNew.refl _ _) G7.out.1.size, (G7.out.2.2.1.later hb), G7.out.2.2.2.1.fr (Fr.below hb) (YNew.refl _ _), G7.out.2.2.2.2.1.fr (Fr.below hb) (YNew.refl _ _), G7.out.2.2.2.2.2.1.fr (Fr.below hb) (YNew.refl _ _), G7.out.2.2.2.2.2.2.fr (Fr.below hb) (YNew.refl _ _), (TyV.own hown (G7.out.2.2.1.lt))⟩
          clear G7
          obtain ⟨k0, k1, k2, k3, k4, k6, k7⟩ := G8.out.2.2.2.1.cells
          clear hown hb
          have HQ : Hid (WyPost P es env Y r w (.returned (.slice A8 1 c8)) w8) := Lib.hid (by
            have hr := HRR.out
            rw [if_neg (by rw [hag]; simp)] at hr
            injection hr with hr
            subst hr
            exact ⟨Y3, G8.out.1, G8.out.2.1, G8.out.2.2.1, _, _, _, rfl⟩)
          go_wp2_with fail
          go_ret
          exact HQ.out
  · have q0 : (p.nm.toList == [38, 38]) = false := by rw [hc]; rfl
    have q1 : (p.nm.toList == [124, 124]) = false := by rw [hc]; rfl
    have q2 : (p.nm.toList == [43, 43]) = true := by rw [hc]; rfl
    have q3 : (p.nm.toList == [60]) = false := by rw [hc]; rfl
    have q4 : (p.nm.toList == [61, 61]) = false := by rw [hc]; rfl
    have HI : Hid (opIn p.nm = 3 ∧ opOut p.nm = 3) := Lib.hid (by simp [opIn, opOut, hc])
    clear hc
    rcases andA_some HR.out with ⟨x, h1, hr⟩ | ⟨t1, b1, h1, hr⟩
    · have HX := Lib.hid (HN.out env (.ok a) (.error x) Y w1 h1 G1.out.2.2.1)
      unfold pk at HX
      go_wp2_with fail
      refine HX.out.mono ?_
      rintro e w2 ⟨Y2, hf, hy, hk, rfl⟩
      clear HX
      clear k0 k1 k2 k3 k4 k6 k7
      have G2 : Hid (Fr Y w w2 ∧ YNew Y Y2 w ∧ WkE P es env (.error x) Y2 w2 ∧ PtM w2 Y2 w.heap.size p TA tc UA uc) := Lib.hid ⟨Fr.new G1.out.1 hf G1.out.2.1, YNew.trans G1.out.2.1 hy G1.out.1.size, hk, G1.out.2.2.2.fr hf hy⟩
      clear G1
      obtain ⟨k0, k1, k2, k3, k4, k6, k7⟩ := G2.out.2.2.2.cells
      clear hf hy hk
      have HX := Lib.hid (HN.out env (.error x) (.error x) Y2 w2 rfl G2.out.2.2.1)
      unfold pk at HX
      go_wp2_with fail
      refine HX.out.mono ?_
      rintro e w3 ⟨Y3, hf, hy, hk, rfl⟩
      clear HX
      clear k0 k1 k2 k3 k4 k6 k7
      have G3 : Hid (Fr Y w w3 ∧ YNew Y Y3 w ∧ WkE P es env (.error x) Y3 w3 ∧ PtM w3 Y3 w.heap.size p TA tc UA uc) := Lib.hid ⟨Fr.new G2.out.1 hf G2.out.2.1, YNew.trans G2.out.2.1 hy G2.out.1.size, hk, G2.out.2.2.2.fr hf hy⟩
      clear G2
      obtain ⟨k0, k1, k2, k3, k4, k6, k7⟩ := G3.out.2.2.2.cells
      clear hf hy hk
      have HX := Lib.hid (base_any 3 w3)
      go_wp2_with fail
      refine HX.out.mono ?_
      rintro e w4 ⟨A4, c4, rfl, hown, hb⟩
      clear HX
      clear k0 k1 k2 k3 k4 k6 k7
      have G4 : Hid (Fr Y w w4 ∧ YNew Y Y3 w ∧ WkE P es env (.error x) Y3 w4 ∧ PtM w4 Y3 w.heap.size p TA tc UA uc ∧ TyV w4 Y3 A4 c4 (baseN 3)) := Lib.hid ⟨Fr.new G3.out.1 (Fr.below hb) G3.out.2.1, YNew.trans G3.out.2.1 (YNew.refl _ _) G3.out.1.size, (G3.out.2.2.1.later hb), G3.out.2.2.2.fr (Fr.below hb) (YNew.refl _ _), (TyV.own hown (G3.out.2.2.1.lt))⟩
      clear G3
      obtain ⟨k0, k1, k2, k3, k4, k6, k7⟩ := G4.out.2.2.2.1.cells
      clear hown hb
      have HX := Lib.hid (agree_bad P es env x (.slice none 0 0) (.slice A4 1 c4) at0 Y3 w4 G4.out.2.2.1)
      unfold pk at HX
      go_wp2_with fail
      refine HX.out.mono ?_
      rintro e w5 ⟨⟨v5, rfl⟩, hf, hk⟩
      clear HX
      clear k0 k1 k2 k3 k4 k6 k7
      have G5 : Hid (Fr Y w w5 ∧ YNew Y Y3 w ∧ WkE P es env (.error x) Y3 w5 ∧ PtM w5 Y3 w.heap.size p TA tc UA uc ∧ TyV w5 Y3 A4 c4 (baseN 3)) := Lib.hid ⟨Fr.new G4.out.1 hf G4.out.2.1, YNew.trans G4.out.2.1 (YNew.refl _ _) G4.out.1.size, hk, G4.out.2.2.2.1.fr hf (YNew.refl _ _), G4.out.2.2.2.2.fr hf (YNew.refl _ _)⟩
      clear G4
      obtain ⟨k0, k1, k2, k3, k4, k6, k7⟩ := G5.out.2.2.2.1.cells
      clear hf hk
      have HX := Lib.hid (base_any 3 w5)
      go_wp2_with fail
      refine HX.out.mono ?_
      rintro e w6 ⟨A6, c6, rfl, hown, hb⟩
      clear HX
      clear k0 k1 k2 k3 k4 k6 k7
      have G6 : Hid (Fr Y w w6 ∧ YNew Y Y3 w ∧ WkE P es env (.error x) Y3 w6 ∧ PtM w6 Y3 w.heap.size p TA tc UA uc ∧ TyV w6 Y3 A4 c4 (baseN 3) ∧ TyV w6 Y3 A6 c6 (baseN 3)) := Lib.hid ⟨Fr.new G5.out.1 (Fr.below hb) G5.out.2.1, YNew.trans G5.out.2.1 (YNew.refl _ _) G5.out.1.size, (G5.out.2.2.1.later hb), G5.out.2.2.2.1.fr (Fr.below hb) (YNew.refl _ _), G5.out.2.2.2.2.fr (Fr.below hb) (YNew.refl _ _), (TyV.own hown (G5.out.2.2.1.lt))⟩
      clear G5
      obtain ⟨k0, k1, k2, k3, k4, k6, k7⟩ := G6.out.2.2.2.1.cells
      clear hown hb
      have HX := Lib.hid (agree_bad P es env x (.slice none 0 0) (.slice A6 1 c6) at0 Y3 w6 G6.out.2.2.1)
      unfold pk at HX
      go_wp2_with fail
      refine HX.out.mono ?_
      rintro e w7 ⟨⟨v7, rfl⟩, hf, hk⟩
      clear HX
      clear k0 k1 k2 k3 k4 k6 k7
      have G7 : Hid (Fr Y w w7 ∧ YNew Y Y3 w ∧ WkE P es env (.error x) Y3 w7 ∧ PtM w7 Y3 w.heap.size p TA tc UA uc ∧ TyV w7 Y3 A4 c4 (baseN 3) ∧ TyV w7 Y3 A6 c6 (baseN 3)) := Lib.hid ⟨Fr.new G6.out.1 hf G6.out.2.1, YNew.trans G6.out.2.1 (YNew.refl _ _) G6.out.1.size, hk, G6.out.2.2.2.1.fr hf (YNew.refl _ _), G6.out.2.2.2.2.1.fr hf (YNew.refl _ _), G6.out.2.2.2.2.2.fr hf (YNew.refl _ _)⟩
      clear G6
      obtain ⟨k0, k1, k2, k3, k4, k6, k7⟩ := G7.out.2.2.2.1.cells
      clear hf hk
      have HX := Lib.hid (base_any 3 w7)
      go_wp2_with fail
      refine HX.out.mono ?_
      rintro e w8 ⟨A8, c8, rfl, hown, hb⟩
      clear HX
      clear k0 k1 k2 k3 k4 k6 k7
      have G8 : Hid (Fr Y w w8 ∧ YNew Y Y3 w ∧ WkE P es env (.error x) Y3 w8 ∧ PtM w8 Y3 w.heap.size p TA tc UA uc ∧ TyV w8 Y3 A4 c4 (baseN 3) ∧ TyV w8 Y3 A6 c6 (baseN 3) ∧ TyV w8 Y3 A8 c8 (baseN 3)) := Lib.hid ⟨Fr.new G7.out.1 (Fr.below hb) G7.out.2.1, YNew.trans G7.out.2.1 (YNew.refl _ _) G7.out.1.size, (G7.out.2.2.1.later hb), G7.out.2.2.2.1.fr (Fr.below hb) (YNew.refl _ _), G7.out.2.2.2.2.1.fr (Fr.below hb) (YNew.refl _ _), G7.out.2.2.2.2.2.fr (Fr.below hb) (YNew.refl _ _), (TyV.own hown (G7.out.2.2.1.lt))⟩
      clear G7
      obtain ⟨k0, k1, k2, k3, k4, k6, k7⟩ := G8.out.2.2.2.1.cells
      clear hown hb
      have HQ : Hid (WyPost P es env Y r w (.returned (.slice A8 1 c8)) w8) := Lib.hid (by
        subst hr
        exact ⟨Y3, G8.out.1, G8.out.2.1, G8.out.2.2.1, _, _, _, rfl⟩)
      go_wp2_with fail
      go_ret
      exact HQ.out
    · have HX := Lib.hid (HN.out env (.ok a) _ Y w1 h1 G1.out.2.2.1)
      unfold pk at HX
      go_wp2_with fail
      refine HX.out.mono ?_
      rintro e w2 ⟨Y2, hf, hy, hk, A2, c2, rfl, ht⟩
      clear HX
      clear k0 k1 k2 k3 k4 k6 k7
      have G2 : Hid (Fr Y w w2 ∧ YNew Y Y2 w ∧ WkE P es env (.ok b1) Y2 w2 ∧ PtM w2 Y2 w.heap.size p TA tc UA uc ∧ TyV w2 Y2 A2 c2 t1) := Lib.hid ⟨Fr.new G1.out.1 hf G1.out.2.1, YNew.trans G1.out.2.1 hy G1.out.1.size, hk, G1.out.2.2.2.fr hf hy, ht⟩
      clear G1
      obtain ⟨k0, k1, k2, k3, k4, k6, k7⟩ := G2.out.2.2.2.1.cells
      clear hf hy hk ht
      rcases andA_some hr with ⟨x, h2, hr⟩ | ⟨t2, b2, h2, hr⟩
      · have HX := Lib.hid (HN.out env (.ok b1) (.error x) Y2 w2 h2 G2.out.2.2.1)
        unfold pk at HX
        go_wp2_with fail
        refine HX.out.mono ?_
        rintro e w3 ⟨Y3, hf, hy, hk, rfl⟩
        clear HX
        clear k0 k1 k2 k3 k4 k6 k7
        have G3 : Hid (Fr Y w w3 ∧ YNew Y Y3 w ∧ WkE P es env (.error x) Y3 w3 ∧ PtM w3 Y3 w.heap.size p TA tc UA uc ∧ TyV w3 Y3 A2 c2 t1) := Lib.hid ⟨Fr.new G2.out.1 hf G2.out.2.1, YNew.trans G2.out.2.1 hy G2.out.1.size, hk, G2.out.2.2.2.1.fr hf hy, G2.out.2.2.2.2.fr hf hy⟩
        clear G2
        obtain ⟨k0, k1, k2, k3, k4, k6, k7⟩ := G3.out.2.2.2.1.cells
        clear hf hy hk
        have HX := Lib.hid (base_any 3 w3)
        go_wp2_with fail
        refine HX.out.mono ?_
        rintro e w4 ⟨A4, c4, rfl, hown, hb⟩
        clear HX
        clear k0 k1 k2 k3 k4 k6 k7
        have G4 : Hid (Fr Y w w4 ∧ YNew Y Y3 w ∧ WkE P es env (.error x) Y3 w4 ∧ PtM w4 Y3 w.heap.size p TA tc UA uc ∧ TyV w4 Y3 A2 c2 t1 ∧ TyV w4 Y3 A4 c4 (baseN 3)) := Lib.hid ⟨Fr.new G3.out.1 (Fr.below hb) G3.out.2.1, YNew.trans G3.out.2.1 (YNew.refl _ _) G3.out.1.size, (G3.out.2.2.1.later hb), G3.out.2.2.2.1.fr (Fr.below hb) (YNew.refl _ _), G3.out.2.2.2.2.fr (Fr.below hb) (YNew.refl _ _), (TyV.own hown (G3.out.2.2.1.lt))⟩
        clear G3
        obtain ⟨k0, k1, k2, k3, k4, k6, k7⟩ := G4.out.2.2.2.1.cells
        clear hown hb
        have HX := Lib.hid (agree_bad P es env x (.slice A2 t1.length c2) (.slice A4 1 c4) at0 Y3 w4 G4.out.2.2.1)
        unfold pk at HX
        go_wp2_with fail
        refine HX.out.mono ?_
        rintro e w5 ⟨⟨v5, rfl⟩, hf, hk⟩
        clear HX
        clear k0 k1 k2 k3 k4 k6 k7
        have G5 : Hid (Fr Y w w5 ∧ YNew Y Y3 w ∧ WkE P es env (.error x) Y3 w5 ∧ PtM w5 Y3 w.heap.size p TA tc UA uc ∧ TyV w5 Y3 A2 c2 t1 ∧ TyV w5 Y3 A4 c4 (baseN 3)) := Lib.hid ⟨Fr.new G4.out.1 hf G4.out.2.1, YNew.trans G4.out.2.1 (YNew.refl _ _) G4.out.1.size, hk, G4.out.2.2.2.1.fr hf (YNew.refl _ _), G4.out.2.2.2.2.1.fr hf (YNew.refl _ _), G4.out.2.2.2.2.2.fr hf (YNew.refl _ _)⟩
        clear G4
        obtain ⟨k0, k1, k2, k3, k4, k6, k7⟩ := G5.out.2.2.2.1.cells
        clear hf hk
        have HX := Lib.hid (base_any 3 w5)
        go_wp2_with fail
        refine HX.out.mono ?_
        rintro e w6 ⟨A6, c6, rfl, hown, hb⟩
        clear HX
        clear k0 k1 k2 k3 k4 k6 k7
        have G6 : Hid (Fr Y w w6 ∧ YNew Y Y3 w ∧ WkE P es env (.error x) Y3 w6 ∧ PtM w6 Y3 w.heap.size p TA tc UA uc ∧ TyV w6 Y3 A2 c2 t1 ∧ TyV w6 Y3 A4 c4 (baseN 3) ∧ TyV w6 Y3 A6 c6 (baseN 3)) := Lib.hid ⟨Fr.new G5.out.1 (Fr.below hb) G5.out.2.1, YNew.trans G5.out.2.1 (YNew.refl _ _) G5.out.1.size, (G5.out.2.2.1.later hb), G5.out.2.2.2.1.fr (Fr.below hb) (YNew.refl _ _), G5.out.2.2.2.2.1.fr (Fr.below hb) (YNew.refl _ _), G5.out.2.2.2.2.2.fr (Fr.below hb) (YNew.refl _ _), (TyV.own hown (G5.out.2.2.1.lt))⟩
        clear G5
        obtain ⟨k0, k1, k2, k3, k4, k6, k7⟩ := G6.out.2.2.2.1.cells
        clear hown hb
        have HX := Lib.hid (agree_bad P es env x (.slice none 0 0) (.slice A6 1 c6) at0 Y3 w6 G6.out.2.2.1)
        unfold pk at HX
        go_wp2_with fail
        refine HX.out.mono ?_
        rintro e w7 ⟨⟨v7, rfl⟩, hf, hk⟩
        clear HX
        clear k0 k1 k2 k3 k4 k6 k7
        have G7 : Hid (Fr Y w w7 ∧ YNew Y Y3 w ∧ WkE P es env (.error x) Y3 w7 ∧ PtM w7 Y3 w.heap.size p TA tc UA uc ∧ TyV w7 Y3 A2 c2 t1 ∧ TyV w7 Y3 A4 c4 (baseN 3) ∧ TyV w7 Y3 A6 c6 (baseN 3)) := Lib.hid ⟨Fr.new G6.out.1 hf G6.out.2.1, YNew.trans G6.out.2.1 (YNew.refl _ _) G6.out.1.size, hk, G6.out.2.2.2.1.fr hf (YNew.refl _ _), G6.out.2.2.2.2.1.fr hf (YNew.refl _ _), G6.out.2.2.2.2.2.1.fr hf (YNew.refl _ _), G6.out.2.2.2.2.2.2.fr hf (YNew.refl _ _)⟩
        clear G6
        obtain ⟨k0, k1, k2, k3, k4, k6, k7⟩ := G7.out.2.2.2.1.cells
        clear hf hk
        have HX := Lib.hid (base_any 3 w7)
        go_wp2_with fail
        refine HX.out.mono ?_
        rintro e w8 ⟨A8, c8, rfl, hown, hb⟩
        clear HX
        clear k0 k1 k2 k3 k4 k6 k7
        have G8 : Hid (Fr Y w w8 ∧ YNew Y Y3 w ∧ WkE P es env (.error x) Y3 w8 ∧ PtM w8 Y3 w.heap.size p TA tc UA uc ∧ TyV w8 Y3 A2 c2 t1 ∧ TyV w8 Y3 A4 c4 (baseN 3) ∧ TyV w8 Y3 A6 c6 (baseN 3) ∧ TyV w8 Y3 A8 c8 (baseN 3)) := Lib.hid ⟨Fr.new G7.out.1 (Fr.below hb) G7.out.2.1, YNew.trans G7.out.2.1 (YNew.refl _ _) G7.out.1.size, (G7.out.2.2.1.later hb), G7.out.2.2.2.1.fr (Fr.below hb) (YNew.refl _ _), G7.out.2.2.2.2.1.fr (Fr.below hb) (YNew.refl _ _), G7.out.2.2.2.2.2.1.fr (Fr.below hb) (YNew.refl _ _), G7.out.2.2.2.2.2.2.fr (Fr.below hb) (YNew.refl _ _), (TyV.own hown (G7.out.2.2.1.lt))⟩
        clear G7
        obtain ⟨k0, k1, k2, k3, k4, k6, k7⟩ := G8.out.2.2.2.1.cells
        clear hown hb
        have HQ : Hid (WyPost P es env Y r w (.returned (.slice A8 1 c8)) w8) := Lib.hid (by
          subst hr
          exact ⟨Y3, G8.out.1, G8.out.2.1, G8.out.2.2.1, _, _, _, rfl⟩)
        go_wp2_with fail
        go_ret
        exact HQ.out
      · have HX := Lib.hid (HN.out env (.ok b1) _ Y2 w2 h2 G2.out.2.2.1)
        unfold pk at HX
        go_wp2_with fail
        refine HX.out.mono ?_
        rintro e w3 ⟨Y3, hf, hy, hk, A3, c3, rfl, ht⟩
        clear HX
        clear k0 k1 k2 k3 k4 k6 k7
        have G3 : Hid (Fr Y w w3 ∧ YNew Y Y3 w ∧ WkE P es env (.ok b2) Y3 w3 ∧ PtM w3 Y3 w.heap.size p TA tc UA uc ∧ TyV w3 Y3 A2 c2 t1 ∧ TyV w3 Y3 A3 c3 t2) := Lib.hid ⟨Fr.new G2.out.1 hf G2.out.2.1, YNew.trans G2.out.2.1 hy G2.out.1.size, hk, G2.out.2.2.2.1.fr hf hy, G2.out.2.2.2.2.fr hf hy, ht⟩
        clear G2
        obtain ⟨k0, k1, k2, k3, k4, k6, k7⟩ := G3.out.2.2.2.1.cells
        clear hf hy hk ht
        rw [HI.out.1, HI.out.2] at hr
        have HRR := Lib.hid hr
        clear hr
        have HX := Lib.hid (base_any 3 w3)
        go_wp2_with fail
        refine HX.out.mono ?_
        rintro e w4 ⟨A4, c4, rfl, hown, hb⟩
        clear HX
        clear k0 k1 k2 k3 k4 k6 k7
        have G4 : Hid (Fr Y w w4 ∧ YNew Y Y3 w ∧ WkE P es env (.ok b2) Y3 w4 ∧ PtM w4 Y3 w.heap.size p TA tc UA uc ∧ TyV w4 Y3 A2 c2 t1 ∧ TyV w4 Y3 A3 c3 t2 ∧ TyV w4 Y3 A4 c4 (baseN 3)) := Lib.hid ⟨Fr.new G3.out.1 (Fr.below hb) G3.out.2.1, YNew.trans G3.out.2.1 (YNew.refl _ _) G3.out.1.size, (G3.out.2.2.1.later hb), G3.out.2.2.2.1.fr (Fr.below hb) (YNew.refl _ _), G3.out.2.2.2.2.1.fr (Fr.below hb) (YNew.refl _ _), G3.out.2.2.2.2.2.fr (Fr.below hb) (YNew.refl _ _), (TyV.own hown (G3.out.2.2.1.lt))⟩
        clear G3
        obtain ⟨k0, k1, k2, k3, k4, k6, k7⟩ := G4.out.2.2.2.1.cells
        clear hown hb
        have HX := Lib.hid (agree_ok P es env b2 A2 A4 c2 c4 t1 (baseN 3) at0 Y3 w4 G4.out.2.2.1 G4.out.2.2.2.2.1.ty G4.out.2.2.2.2.2.2.ty (HD.out _ _ _ _ h1) (gd_base 3 (by decide)))
        unfold pk at HX
        go_wp2_with fail
        refine HX.out.mono ?_
        rintro e w5 ⟨⟨v5, rfl⟩, hf, hk⟩
        clear HX
        clear k0 k1 k2 k3 k4 k6 k7
        have G5 : Hid (Fr Y w w5 ∧ YNew Y Y3 w ∧ WkE P es env (agS t1 (baseN 3) at0 b2) Y3 w5 ∧ PtM w5 Y3 w.heap.size p TA tc UA uc ∧ TyV w5 Y3 A2 c2 t1 ∧ TyV w5 Y3 A3 c3 t2 ∧ TyV w5 Y3 A4 c4 (baseN 3)) := Lib.hid ⟨Fr.new G4.out.1 hf G4.out.2.1, YNew.trans G4.out.2.1 (YNew.refl _ _) G4.out.1.size, hk, G4.out.2.2.2.1.fr hf (YNew.refl _ _), G4.out.2.2.2.2.1.fr hf (YNew.refl _ _), G4.out.2.2.2.2.2.1.fr hf (YNew.refl _ _), G4.out.2.2.2.2.2.2.fr hf (YNew.refl _ _)⟩
        clear G4
        obtain ⟨k0, k1, k2, k3, k4, k6, k7⟩ := G5.out.2.2.2.1.cells
        clear hf hk
        cases hag : agB t1 (baseN 3) with
        | true =>
          have hk2 : WkE P es env (.ok b2) Y3 w5 := by have hk := G5.out.2.2.1; unfold agS at hk; rw [hag, if_pos rfl] at hk; exact hk
          have HX := Lib.hid (base_any 3 w5)
          go_wp2_with fail
          refine HX.out.mono ?_
          rintro e w6 ⟨A6, c6, rfl, hown, hb⟩
          clear HX
          clear k0 k1 k2 k3 k4 k6 k7
          have G6 : Hid (Fr Y w w6 ∧ YNew Y Y3 w ∧ WkE P es env (.ok b2) Y3 w6 ∧ PtM w6 Y3 w.heap.size p TA tc UA uc ∧ TyV w6 Y3 A2 c2 t1 ∧ TyV w6 Y3 A3 c3 t2 ∧ TyV w6 Y3 A4 c4 (baseN 3) ∧ TyV w6 Y3 A6 c6 (baseN 3)) := Lib.hid ⟨Fr.new G5.out.1 (Fr.below hb) G5.out.2.1, YNew.trans G5.out.2.1 (YNew.refl _ _) G5.out.1.size, (hk2.later hb), G5.out.2.2.2.1.fr (Fr.below hb) (YNew.refl _ _), G5.out.2.2.2.2.1.fr (Fr.below hb) (YNew.refl _ _), G5.out.2.2.2.2.2.1.fr (Fr.below hb) (YNew.refl _ _), G5.out.2.2.2.2.2.2.fr (Fr.below hb) (YNew.refl _ _), (TyV.own hown (hk2.lt))⟩
          clear G5
          obtain ⟨k0, k1, k2, k3, k4, k6, k7⟩ := G6.out.2.2.2.1.cells
          clear hown hb hk2
          have HX := Lib.hid (agree_ok P es env b2 A3 A6 c3 c6 t2 (baseN 3) at0 Y3 w6 G6.out.2.2.1 G6.out.2.2.2.2.2.1.ty G6.out.2.2.2.2.2.2.2.ty (HD.out _ _ _ _ h2) (gd_base 3 (by decide)))
          unfold pk at HX
          go_wp2_with fail
          refine HX.out.mono ?_
          rintro e w7 ⟨⟨v7, rfl⟩, hf, hk⟩
          clear HX
          clear k0 k1 k2 k3 k4 k6 k7
          have G7 : Hid (Fr Y w w7 ∧ YNew Y Y3 w ∧ WkE P es env (agS t2 (baseN 3) at0 b2) Y3 w7 ∧ PtM w7 Y3 w.heap.size p TA tc UA uc ∧ TyV w7 Y3 A2 c2 t1 ∧ TyV w7 Y3 A3 c3 t2 ∧ TyV w7 Y3 A4 c4 (baseN 3) ∧ TyV w7 Y3 A6 c6 (baseN 3)) := Lib.hid ⟨Fr.new G6.out.1 hf G6.out.2.1, YNew.trans G6.out.2.1 (YNew.refl _ _) G6.out.1.size, hk, G6.out.2.2.2.1.fr hf (YNew.refl _ _), G6.out.2.2.2.2.1.fr hf (YNew.refl _ _), G6.out.2.2.2.2.2.1.fr hf (YNew.refl _ _), G6.out.2.2.2.2.2.2.1.fr hf (YNew.refl _ _), G6.out.2.2.2.2.2.2.2.fr hf (YNew.refl _ _)⟩
          clear G6
          obtain ⟨k0, k1, k2, k3, k4, k6, k7⟩ := G7.out.2.2.2.1.cells
          clear hf hk
          have HX := Lib.hid (base_any 3 w7)
          go_wp2_with fail
          refine HX.out.mono ?_
          rintro e w8 ⟨A8, c8, rfl, hown, hb⟩
          clear HX
          clear k0 k1 k2 k3 k4 k6 k7
          have G8 : Hid (Fr Y w w8 ∧ YNew Y Y3 w ∧ WkE P es env (agS t2 (baseN 3) at0 b2) Y3 w8 ∧ PtM w8 Y3 w.heap.size p TA tc UA uc ∧ TyV w8 Y3 A2 c2 t1 ∧ TyV w8 Y3 A3 c3 t2 ∧ TyV w8 Y3 A4 c4 (baseN 3) ∧ TyV w8 Y3 A6 c6 (baseN 3) ∧ TyV w8 Y3 A8 c8 (baseN 3)) := Lib.hid ⟨Fr.new G7.out.1 (Fr.below hb) G7.out.2.1, YNew.trans G7.out.2.1 (YNew.refl _ _) G7.out.1.size, (G7.out.2.2.1.later hb), G7.out.2.2.2.1.fr (Fr.below hb) (YNew.refl _ _), G7.out.2.2.2.2.1.fr (Fr.below hb) (YNew.refl _ _), G7.out.2.2.2.2.2.1.fr (Fr.below hb) (YNew.refl _ _), G7.out.2.2.2.2.2.2.1.fr (Fr.below hb) (YNew.refl _ _), G7.out.2.2.2.2.2.2.2.fr (Fr.below hb) (YNew.refl _ _), (TyV.own hown (G7.out.2.2.1.lt))⟩
          clear G7
          obtain ⟨k0, k1, k2, k3, k4, k6, k7⟩ := G8.out.2.2.2.1.cells
          clear hown hb
          cases hag2 : agB t2 (baseN 3) with
          | true =>
            have HQ : Hid (WyPost P es env Y r w (.returned (.slice A8 1 c8)) w8) := Lib.hid (by
              have hk := G8.out.2.2.1
              have hr := HRR.out
              rw [if_pos ⟨hag, hag2⟩] at hr
              unfold agS at hk
              rw [if_pos hag2] at hk
              injection hr with hr
              subst hr
              exact ⟨Y3, G8.out.1, G8.out.2.1, hk, A8, c8, rfl, G8.out.2.2.2.2.2.2.2.2⟩)
            go_wp2_with fail
            go_ret
            exact HQ.out
          | false =>
            have HQ : Hid (WyPost P es env Y r w (.returned (.slice A8 1 c8)) w8) := Lib.hid (by
              have hk := G8.out.2.2.1
              have hr := HRR.out
              rw [if_neg (by rw [hag2]; simp)] at hr
              unfold agS at hk
              rw [if_neg (by rw [hag2]; simp)] at hk
              injection hr with hr
              subst hr
              exact ⟨Y3, G8.out.1, G8.out.2.1, hk, _, _, _, rfl⟩)
            go_wp2_with fail
            go_ret
            exact HQ.out
        | false =>
          have hk2 : WkE P es env (.error (at0, 9)) Y3 w5 := by have hk := G5.out.2.2.1; unfold agS at hk; rw [hag, if_neg (by simp)] at hk; exact hk
          have HX := Lib.hid (base_any 3 w5)
          go_wp2_with fail
          refine HX.out.mono ?_
          rintro e w6 ⟨A6, c6, rfl, hown, hb⟩
          clear HX
          clear k0 k1 k2 k3 k4 k6 k7
          have G6 : Hid (Fr Y w w6 ∧ YNew Y Y3 w ∧ WkE P es env (.error (at0, 9)) Y3 w6 ∧ PtM w6 Y3 w.heap.size p TA tc UA uc ∧ TyV w6 Y3 A2 c2 t1 ∧ TyV w6 Y3 A3 c3 t2 ∧ TyV w6 Y3 A4 c4 (baseN 3)) := Lib.hid ⟨Fr.new G5.out.1 (Fr.below hb) G5.out.2.1, YNew.trans G5.out.2.1 (YNew.refl _ _) G5.out.1.size, (hk2.later hb), G5.out.2.2.2.1.fr (Fr.below hb) (YNew.refl _ _), G5.out.2.2.2.2.1.fr (Fr.below hb) (YNew.refl _ _), G5.out.2.2.2.2.2.1.fr (Fr.below hb) (YNew.refl _ _), G5.out.2.2.2.2.2.2.fr (Fr.below hb) (YNew.refl _ _)⟩
          clear G5
          obtain ⟨k0, k1, k2, k3, k4, k6, k7⟩ := G6.out.2.2.2.1.cells
          clear hown hb hk2
          have HX := Lib.hid (agree_bad P es env (at0, 9) (.slice A3 t2.length c3) (.slice A6 1 c6) at0 Y3 w6 G6.out.2.2.1)
          unfold pk at HX
          go_wp2_with fail
          refine HX.out.mono ?_
          rintro e w7 ⟨⟨v7, rfl⟩, hf, hk⟩
          clear HX
          clear k0 k1 k2 k3 k4 k6 k7
          have G7 : Hid (Fr Y w w7 ∧ YNew Y Y3 w ∧ WkE P es env (.error (at0, 9)) Y3 w7 ∧ PtM w7 Y3 w.heap.size p TA tc UA uc ∧ TyV w7 Y3 A2 c2 t1 ∧ TyV w7 Y3 A3 c3 t2 ∧ TyV w7 Y3 A4 c4 (baseN 3)) := Lib.hid ⟨Fr.new G6.out.1 hf G6.out.2.1, YNew.trans G6.out.2.1 (YNew.refl _ _) G6.out.1.size, hk, G6.out.2.2.2.1.fr hf (YNew.refl _ _), G6.out.2.2.2.2.1.fr hf (YNew.refl _ _), G6.out.2.2.2.2.2.1.fr hf (YNew.refl _ _), G6.out.2.2.2.2.2.2.fr hf (YNew.refl _ _)⟩
          clear G6
          obtain ⟨k0, k1, k2, k3, k4, k6, k7⟩ := G7.out.2.2.2.1.cells
          clear hf hk
          have HX := Lib.hid (base_any 3 w7)
          go_wp2_with fail
          refine HX.out.mono ?_
          rintro e w8 ⟨A8, c8, rfl, hown, hb⟩
          clear HX
          clear k0 k1 k2 k3 k4 k6 k7
          have G8 : Hid (Fr Y w w8 ∧ YNew Y Y3 w ∧ WkE P es env (.error (at0, 9)) Y3 w8 ∧ PtM w8 Y3 w.heap.size p TA tc UA uc ∧ TyV w8 Y3 A2 c2 t1 ∧ TyV w8 Y3 A3 c3 t2 ∧ TyV w8 Y3 A4 c4 (baseN 3) ∧ TyV w8 Y3 A8 c8 (baseN 3)) := Lib.hid ⟨Fr.new G7.out.1 (Fr.below hb) G7.out.2.1, YNew.trans G7.out.2.1 (YNew.refl _ _) G7.out.1.size, (G7.out.2.2.1.later hb), G7.out.2.2.2.1.fr (Fr.below hb) (YNew.refl _ _), G7.out.2.2.2.2.1.fr (Fr.below hb) (YNew.refl _ _), G7.out.2.2.2.2.2.1.fr (Fr.below hb) (YNew.refl _ _), G7.out.2.2.2.2.2.2.fr (Fr.below hb) (YNew.refl _ _), (TyV.own hown (G7.out.2.2.1.lt))⟩
          clear G7
          obtain ⟨k0, k1, k2, k3, k4, k6, k7⟩ := G8.out.2.2.2.1.cells
          clear hown hb
          have HQ : Hid (WyPost P es env Y r w (.returned (.slice A8 1 c8)) w8) := Lib.hid (by
            have hr := HRR.out
            rw [if_neg (by rw [hag]; simp)] at hr
            injection hr with hr
            subst hr
            exact ⟨Y3, G8.out.1, G8.out.2.1, G8.out.2.2.1, _, _, _, rfl⟩)
          go_wp2_with fail
          go_ret
          exact HQ.out
  · have q0 : (p.nm.toList == [38, 38]) = false := by rw [hc]; rfl
    have q1 : (p.nm.toList == [124, 124]) = false := by rw [hc]; rfl
    have q2 : (p.nm.toList == [43, 43]) = false := by rw [hc]; rfl
    have q3 : (p.nm.toList == [60]) = true := by rw [hc]; rfl
    have q4 : (p.nm.toList == [61, 61]) = false := by rw [hc]; rfl
    have HI : Hid (opIn p.nm = 1 ∧ opOut p.nm = 2) := Lib.hid (by simp [opIn, opOut, hc])
    clear hc
    rcases andA_some HR.out with ⟨x, h1, hr⟩ | ⟨t1, b1, h1, hr⟩
    · have HX := Lib.hid (HN.out env (.ok a) (.error x) Y w1 h1 G1.out.2.2.1)
      unfold pk at HX
      go_wp2_with fail
      refine HX.out.mono ?_
      rintro e w2 ⟨Y2, hf, hy, hk, rfl⟩
      clear HX
      clear k0 k1 k2 k3 k4 k6 k7
      have G2 : Hid (Fr Y w w2 ∧ YNew Y Y2 w ∧ WkE P es env (.error x) Y2 w2 ∧ PtM w2 Y2 w.heap.size p TA tc UA uc) := Lib.hid ⟨Fr.new G1.out.1 hf G1.out.2.1, YNew.trans G1.out.2.1 hy G1.out.1.size, hk, G1.out.2.2.2.fr hf hy⟩
      clear G1
      obtain ⟨k0, k1, k2, k3, k4, k6, k7⟩ := G2.out.2.2.2.cells
      clear hf hy hk
      have HX := Lib.hid (HN.out env (.error x) (.error x) Y2 w2 rfl G2.out.2.2.1)
      unfold pk at HX
      go_wp2_with fail
      refine HX.out.mono ?_
      rintro e w3 ⟨Y3, hf, hy, hk, rfl⟩
      clear HX
      clear k0 k1 k2 k3 k4 k6 k7
      have G3 : Hid (Fr Y w w3 ∧ YNew Y Y3 w ∧ WkE P es env (.error x) Y3 w3 ∧ PtM w3 Y3 w.heap.size p TA tc UA uc) := Lib.hid ⟨Fr.new G2.out.1 hf G2.out.2.1, YNew.trans G2.out.2.1 hy G2.out.1.size, hk, G2.out.2.2.2.fr hf hy⟩
      clear G2
      obtain ⟨k0, k1, k2, k3, k4, k6, k7⟩ := G3.out.2.2.2.cells
      clear hf hy hk
      have HX := Lib.hid (base_any 1 w3)
      go_wp2_with fail
      refine HX.out.mono ?_
      rintro e w4 ⟨A4, c4, rfl, hown, hb⟩
      clear HX
      clear k0 k1 k2 k3 k4 k6 k7
      have G4 : Hid (Fr Y w w4 ∧ YNew Y Y3 w ∧ WkE P es env (.error x) Y3 w4 ∧ PtM w4 Y3 w.heap.size p TA tc UA uc ∧ TyV w4 Y3 A4 c4 (baseN 1)) := Lib.hid ⟨Fr.new G3.out.1 (Fr.below hb) G3.out.2.1, YNew.trans G3.out.2.1 (YNew.refl _ _) G3.out.1.size, (G3.out.2.2.1.later hb), G3.out.2.2.2.fr (Fr.below hb) (YNew.refl _ _), (TyV.own hown (G3.out.2.2.1.lt))⟩
      clear G3
      obtain ⟨k0, k1, k2, k3, k4, k6, k7⟩ := G4.out.2.2.2.1.cells
      clear hown hb
      have HX := Lib.hid (agree_bad P es env x (.slice none 0 0) (.slice A4 1 c4) at0 Y3 w4 G4.out.2.2.1)
      unfold pk at HX
      go_wp2_with fail
      refine HX.out.mono ?_
      rintro e w5 ⟨⟨v5, rfl⟩, hf, hk⟩
      clear HX
      clear k0 k1 k2 k3 k4 k6 k7
      have G5 : Hid (Fr Y w w5 ∧ YNew Y Y3 w ∧ WkE P es env (.error x) Y3 w5 ∧ PtM w5 Y3 w.heap.size p TA tc UA uc ∧ TyV w5 Y3 A4 c4 (baseN 1)) := Lib.hid ⟨Fr.new G4.out.1 hf G4.out.2.1, YNew.trans G4.out.2.1 (YNew.refl _ _) G4.out.1.size, hk, G4.out.2.2.2.1.fr hf (YNew.refl _ _), G4.out.2.2.2.2.fr hf (YNew.refl _ _)⟩
      clear G4
      obtain ⟨k0, k1, k2, k3, k4, k6, k7⟩ := G5.out.2.2.2.1.cells
      clear hf hk
      have HX := Lib.hid (base_any 1 w5)
      go_wp2_with fail
      refine HX.out.mono ?_
      rintro e w6 ⟨A6, c6, rfl, hown, hb⟩
      clear HX
      clear k0 k1 k2 k3 k4 k6 k7
      have G6 : Hid (Fr Y w w6 ∧ YNew Y Y3 w ∧ WkE P es env (.error x) Y3 w6 ∧ PtM w6 Y3 w.heap.size p TA tc UA uc ∧ TyV w6 Y3 A4 c4 (baseN 1) ∧ TyV w6 Y3 A6 c6 (baseN 1)) := Lib.hid ⟨Fr.new G5.out.1 (Fr.below hb) G5.out.2.1, YNew.trans G5.out.2.1 (YNew.refl _ _) G5.out.1.size, (G5.out.2.2.1.later hb), G5.out.2.2.2.1.fr (Fr.below hb) (YNew.refl _ _), G5.out.2.2.2.2.fr (Fr.below hb) (YNew.refl _ _), (TyV.own hown (G5.out.2.2.1.lt))⟩
      clear G5
      obtain ⟨k0, k1, k2, k3, k4, k6, k7⟩ := G6.out.2.2.2.1.cells
      clear hown hb
      have HX := Lib.hid (agree_bad P es env x (.slice none 0 0) (.slice A6 1 c6) at0 Y3 w6 G6.out.2.2.1)
      unfold pk at HX
      go_wp2_with fail
      refine HX.out.mono ?_
      rintro e w7 ⟨⟨v7, rfl⟩, hf, hk⟩
      clear HX
      clear k0 k1 k2 k3 k4 k6 k7
      have G7 : Hid (Fr Y w w7 ∧ YNew Y Y3 w ∧ WkE P es env (.error x) Y3 w7 ∧ PtM w7 Y3 w.heap.size p TA tc UA uc ∧ TyV w7 Y3 A4 c4 (baseN 1) ∧ TyV w7 Y3 A6 c6 (baseN 1)) := Lib.hid ⟨Fr.new G6.out.1 hf G6.out.2.1, YNew.trans G6.out.2.1 (YNew.refl _ _) G6.out.1.size, hk, G6.out.2.2.2.1.fr hf (YNew.refl _ _), G6.out.2.2.2.2.1.fr hf (YNew.refl _ _), G6.out.2.2.2.2.2.fr hf (YNew.refl _ _)⟩
      clear G6
      obtain ⟨k0, k1, k2, k3, k4, k6, k7⟩ := G7.out.2.2.2.1.cells
      clear hf hk
      have HX := Lib.hid (base_any 2 w7)
      go_wp2_with fail
      refine HX.out.mono ?_
      rintro e w8 ⟨A8, c8, rfl, hown, hb⟩
      clear HX
      clear k0 k1 k2 k3 k4 k6 k7
      have G8 : Hid (Fr Y w w8 ∧ YNew Y Y3 w ∧ WkE P es env (.error x) Y3 w8 ∧ PtM w8 Y3 w.heap.size p TA tc UA uc ∧ TyV w8 Y3 A4 c4 (baseN 1) ∧ TyV w8 Y3 A6 c6 (baseN 1) ∧ TyV w8 Y3 A8 c8 (baseN 2)) := Lib.hid ⟨Fr.new G7.out.1 (Fr.below hb) G7.out.2.1, YNew.trans G7.out.2.1 (YNew.refl _ _) G7.out.1.size, (G7.out.2.2.1.later hb), G7.out.2.2.2.1.fr (Fr.below hb) (YNew.refl _ _), G7.out.2.2.2.2.1.fr (Fr.below hb) (YNew.refl _ _), G7.out.2.2.2.2.2.fr (Fr.below hb) (YNew.refl _ _), (TyV.own hown (G7.out.2.2.1.lt))⟩
      clear G7
      obtain ⟨k0, k1, k2, k3, k4, k6, k7⟩ := G8.out.2.2.2.1.cells
      clear hown hb
      have HQ : Hid (WyPost P es env Y r w (.returned (.slice A8 1 c8)) w8) := Lib.hid (by
        subst hr
        exact ⟨Y3, G8.out.1, G8.out.2.1, G8.out.2.2.1, _, _, _, rfl⟩)
      go_wp2_with fail
      go_ret
      exact HQ.out
    · have HX := Lib.hid (HN.out env (.ok a) _ Y w1 h1 G1.out.2.2.1)
      unfold pk at HX
      go_wp2_with fail
      refine HX.out.mono ?_
      rintro e w2 ⟨Y2, hf, hy, hk, A2, c2, rfl, ht⟩
      clear HX
      clear k0 k1 k2 k3 k4 k6 k7
      have G2 : Hid (Fr Y w w2 ∧ YNew Y Y2 w ∧ WkE P es env (.ok b1) Y2 w2 ∧ PtM w2 Y2 w.heap.size p TA tc UA uc ∧ TyV w2 Y2 A2 c2 t1) := Lib.hid ⟨Fr.new G1.out.1 hf G1.out.2.1, YNew.trans G1.out.2.1 hy G1.out.1.size, hk, G1.out.2.2.2.fr hf hy, ht⟩
      clear G1
      obtain ⟨k0, k1, k2, k3, k4, k6, k7⟩ := G2.out.2.2.2.1.cells
      clear hf hy hk ht
      rcases andA_some hr with ⟨x, h2, hr⟩ | ⟨t2, b2, h2, hr⟩
      · have HX := Lib.hid (HN.out env (.ok b1) (.error x) Y2 w2 h2 G2.out.2.2.1)
        unfold pk at HX
        go_wp2_with fail
        refine HX.out.mono ?_
        rintro e w3 ⟨Y3, hf, hy, hk, rfl⟩
        clear HX
        clear k0 k1 k2 k3 k4 k6 k7
        have G3 : Hid (Fr Y w w3 ∧ YNew Y Y3 w ∧ WkE P es env (.error x) Y3 w3 ∧ PtM w3 Y3 w.heap.size p TA tc UA uc ∧ TyV w3 Y3 A2 c2 t1) := Lib.hid ⟨Fr.new G2.out.1 hf G2.out.2.1, YNew.trans G2.out.2.1 hy G2.out.1.size, hk, G2.out.2.2.2.1.fr hf hy, G2.out.2.2.2.2.fr hf hy⟩
        clear G2
        obtain ⟨k0, k1, k2, k3, k4, k6, k7⟩ := G3.out.2.2.2.1.cells
        clear hf hy hk
        have HX := Lib.hid (base_any 1 w3)
        go_wp2_with fail
        refine HX.out.mono ?_
        rintro e w4 ⟨A4, c4, rfl, hown, hb⟩
        clear HX
        clear k0 k1 k2 k3 k4 k6 k7
        have G4 : Hid (Fr Y w w4 ∧ YNew Y Y3 w ∧ WkE P es env (.error x) Y3 w4 ∧ PtM w4 Y3 w.heap.size p TA tc UA uc ∧ TyV w4 Y3 A2 c2 t1 ∧ TyV w4 Y3 A4 c4 (baseN 1)) := Lib.hid ⟨Fr.new G3.out.1 (Fr.below hb) G3.out.2.1, YNew.trans G3.out.2.1 (YNew.refl _ _) G3.out.1.size, (G3.out.2.2.1.later hb), G3.out.2.2.2.1.fr (Fr.below hb) (YNew.refl _ _), G3.out.2.2.2.2.fr (Fr.below hb) (YNew.refl _ _), (TyV.own hown (G3.out.2.2.1.lt))⟩
        clear G3
        obtain ⟨k0, k1, k2, k3, k4, k6, k7⟩ := G4.out.2.2.2.1.cells
        clear hown hb
        have HX := Lib.hid (agree_bad P es env x (.slice A2 t1.length c2) (.slice A4 1 c4) at0 Y3 w4 G4.out.2.2.1)
        unfold pk at HX
        go_wp2_with fail
        refine HX.out.mono ?_
        rintro e w5 ⟨⟨v5, rfl⟩, hf, hk⟩
        clear HX
        clear k0 k1 k2 k3 k4 k6 k7
        have G5 : Hid (Fr Y w w5 ∧ YNew Y Y3 w ∧ WkE P es env (.error x) Y3 w5 ∧ PtM w5 Y3 w.heap.size p TA tc UA uc ∧ TyV w5 Y3 A2 c2 t1 ∧ TyV w5 Y3 A4 c4 (baseN 1)) := Lib.hid ⟨Fr.new G4.out.1 hf G4.out.2.1, YNew.trans G4.out.2.1 (YNew.refl _ _) G4.out.1.size, hk, G4.out.2.2.2.1.fr hf (YNew.refl _ _), G4.out.2.2.2.2.1.fr hf (YNew.refl _ _), G4.out.2.2.2.2.2.fr hf (YNew.refl _ _)⟩
        clear G4
        obtain ⟨k0, k1, k2, k3, k4, k6, k7⟩ := G5.out.2.2.2.1.cells
        clear hf hk
        have HX := Lib.hid (base_any 1 w5)
        go_wp2_with fail
        refine HX.out.mono ?_
        rintro e w6 ⟨A6, c6, rfl, hown, hb⟩
        clear HX
        clear k0 k1 k2 k3 k4 k6 k7
        have G6 : Hid (Fr Y w w6 ∧ YNew Y Y3 w ∧ WkE P es env (.error x) Y3 w6 ∧ PtM w6 Y3 w.heap.size p TA tc UA uc ∧ TyV w6 Y3 A2 c2 t1 ∧ TyV w6 Y3 A4 c4 (baseN 1) ∧ TyV w6 Y3 A6 c6 (baseN 1)) := Lib.hid ⟨Fr.new G5.out.1 (Fr.below hb) G5.out.2.1, YNew.trans G5.out.2.1 (YNew.refl _ _) G5.out.1.size, (G5.out.2.2.1.later hb), G5.out.2.2.2.1.fr (Fr.below hb) (YNew.refl _ _), G5.out.2.2.2.2.1.fr (Fr.below hb) (YNew.refl _ _), G5.out.2.2.2.2.2.fr (Fr.below hb) (YNew.refl _ _), (TyV.own hown (G5.out.2.2.1.lt))⟩
        clear G5
        obtain ⟨k0, k1, k2, k3, k4, k6, k7⟩ := G6.out.2.2.2.1.cells
        clear hown hb
        have HX := Lib.hid (agree_bad P es env x (.slice none 0 0) (.slice A6 1 c6) at0 Y3 w6 G6.out.2.2.1)
        unfold pk at HX
        go_wp2_with fail
        refine HX.out.mono ?_
        rintro e w7 ⟨⟨v7, rfl⟩, hf, hk⟩
        clear HX
        clear k0 k1 k2 k3 k4 k6 k7
        have G7 : Hid (Fr Y w w7 ∧ YNew Y Y3 w ∧ WkE P es env (.error x) Y3 w7 ∧ PtM w7 Y3 w.heap.size p TA tc UA uc ∧ TyV w7 Y3 A2 c2 t1 ∧ TyV w7 Y3 A4 c4 (baseN 1) ∧ TyV w7 Y3 A6 c6 (baseN 1)) := Lib.hid ⟨Fr.new G6.out.1 hf G6.out.2.1, YNew.trans G6.out.2.1 (YNew.refl _ _) G6.out.1.size, hk, G6.out.2.2.2.1.fr hf (YNew.refl _ _), G6.out.2.2.2.2.1.fr hf (YNew.refl _ _), G6.out.2.2.2.2.2.1.fr hf (YNew.refl _ _), G6.out.2.2.2.2.2.2.fr hf (YNew.refl _ _)⟩
        clear G6
        obtain ⟨k0, k1, k2, k3, k4, k6, k7⟩ := G7.out.2.2.2.1.cells
        clear hf hk
        have HX := Lib.hid (base_any 2 w7)
        go_wp2_with fail
        refine HX.out.mono ?_
        rintro e w8 ⟨A8, c8, rfl, hown, hb⟩
        clear HX
        clear k0 k1 k2 k3 k4 k6 k7
        have G8 : Hid (Fr Y w w8 ∧ YNew Y Y3 w ∧ WkE P es env (.error x) Y3 w8 ∧ PtM w8 Y3 w.heap.size p TA tc UA uc ∧ TyV w8 Y3 A2 c2 t1 ∧ TyV w8 Y3 A4 c4 (baseN 1) ∧ TyV w8 Y3 A6 c6 (baseN 1) ∧ TyV w8 Y3 A8 c8 (baseN 2)) := Lib.hid ⟨Fr.new G7.out.1 (Fr.below hb) G7.out.2.1, YNew.trans G7.out.2.1 (YNew.refl _ _) G7.out.1.size, (G7.out.2.2.1.later hb), G7.out.2.2.2.1.fr (Fr.below hb) (YNew.refl _ _), G7.out.2.2.2.2.1.fr (Fr.below hb) (YNew.refl _ _), G7.out.2.2.2.2.2.1.fr (Fr.below hb) (YNew.refl _ _), G7.out.2.2.2.2.2.2.fr (Fr.below hb) (YNew.refl _ _), (TyV.own hown (G7.out.2.2.1.lt))⟩
        clear G7
        obtain ⟨k0, k1, k2, k3, k4, k6, k7⟩ := G8.out.2.2.2.1.cells
        clear hown hb
        have HQ : Hid (WyPost P es env Y r w (.returned (.slice A8 1 c8)) w8) := Lib.hid (by
          subst hr
          exact ⟨Y3, G8.out.1, G8.out.2.1, G8.out.2.2.1, _, _, _, rfl⟩)
        go_wp2_with fail
        go_ret
        exact HQ.out
      · have HX := Lib.hid (HN.out env (.ok b1) _ Y2 w2 h2 G2.out.2.2.1)
        unfold pk at HX
        go_wp2_with fail
        refine HX.out.mono ?_
        rintro e w3 ⟨Y3, hf, hy, hk, A3, c3, rfl, ht⟩
        clear HX
        clear k0 k1 k2 k3 k4 k6 k7
        have G3 : Hid (Fr Y w w3 ∧ YNew Y Y3 w ∧ WkE P es env (.ok b2) Y3 w3 ∧ PtM w3 Y3 w.heap.size p TA tc UA uc ∧ TyV w3 Y3 A2 c2 t1 ∧ TyV w3 Y3 A3 c3 t2) := Lib.hid ⟨Fr.new G2.out.1 hf G2.out.2.1, YNew.trans G2.out.2.1 hy G2.out.1.size, hk, G2.out.2.2.2.1.fr hf hy, G2.out.2.2.2.2.fr hf hy, ht⟩
        clear G2
        obtain ⟨k0, k1, k2, k3, k4, k6, k7⟩ := G3.out.2.2.2.1.cells
        clear hf hy hk ht
        rw [HI.out.1, HI.out.2] at hr
        have HRR := Lib.hid hr
        clear hr
        have HX := Lib.hid (base_any 1 w3)
        go_wp2_with fail
        refine HX.out.mono ?_
        rintro e w4 ⟨A4, c4, rfl, hown, hb⟩
        clear HX
        clear k0 k1 k2 k3 k4 k6 k7
        have G4 : Hid (Fr Y w w4 ∧ YNew Y Y3 w ∧ WkE P es env (.ok b2) Y3 w4 ∧ PtM w4 Y3 w.heap.size p TA tc UA uc ∧ TyV w4 Y3 A2 c2 t1 ∧ TyV w4 Y3 A3 c3 t2 ∧ TyV w4 Y3 A4 c4 (baseN 1)) := Lib.hid ⟨Fr.new G3.out.1 (Fr.below hb) G3.out.2.1, YNew.trans G3.out.2.1 (YNew.refl _ _) G3.out.1.size, (G3.out.2.2.1.later hb), G3.out.2.2.2.1.fr (Fr.below hb) (YNew.refl _ _), G3.out.2.2.2.2.1.fr (Fr.below hb) (YNew.refl _ _), G3.out.2.2.2.2.2.fr (Fr.below hb) (YNew.refl _ _), (TyV.own hown (G3.out.2.2.1.lt))⟩
        clear G3
        obtain ⟨k0, k1, k2, k3, k4, k6, k7⟩ := G4.out.2.2.2.1.cells
        clear hown hb
        have HX := Lib.hid (agree_ok P es env b2 A2 A4 c2 c4 t1 (baseN 1) at0 Y3 w4 G4.out.2.2.1 G4.out.2.2.2.2.1.ty G4.out.2.2.2.2.2.2.ty (HD.out _ _ _ _ h1) (gd_base 1 (by decide)))
        unfold pk at HX
        go_wp2_with fail
        refine HX.out.mono ?_
        rintro e w5 ⟨⟨v5, rfl⟩, hf, hk⟩
        clear HX
        clear k0 k1 k2 k3 k4 k6 k7
        have G5 : Hid (Fr Y w w5 ∧ YNew Y Y3 w ∧ WkE P es env (agS t1 (baseN 1) at0 b2) Y3 w5 ∧ PtM w5 Y3 w.heap.size p TA tc UA uc ∧ TyV w5 Y3 A2 c2 t1 ∧ TyV w5 Y3 A3 c3 t2 ∧ TyV w5 Y3 A4 c4 (baseN 1)) := Lib.hid ⟨Fr.new G4.out.1 hf G4.out.2.1, YNew.trans G4.out.2.1 (YNew.refl _ _) G4.out.1.size, hk, G4.out.2.2.2.1.fr hf (YNew.refl _ _), G4.out.2.2.2.2.1.fr hf (YNew.refl _ _), G4.out.2.2.2.2.2.1.fr hf (YNew.refl _ _), G4.out.2.2.2.2.2.2.fr hf (YNew.refl _ _)⟩
        clear G4
        obtain ⟨k0, k1, k2, k3, k4, k6, k7⟩ := G5.out.2.2.2.1.cells
        clear hf hk
        cases hag : agB t1 (baseN 1) with
        | true =>
          have hk2 : WkE P es env (.ok b2) Y3 w5 := by have hk := G5.out.2.2.1; unfold agS at hk; rw [hag, if_pos rfl] at hk; exact hk
          have HX := Lib.hid (base_any 1 w5)
          go_wp2_with fail
          refine HX.out.mono ?_
          rintro e w6 ⟨A6, c6, rfl, hown, hb⟩
          clear HX
          clear k0 k1 k2 k3 k4 k6 k7
          have G6 : Hid (Fr Y w w6 ∧ YNew Y Y3 w ∧ WkE P es env (.ok b2) Y3 w6 ∧ PtM w6 Y3 w.heap.size p TA tc UA uc ∧ TyV w6 Y3 A2 c2 t1 ∧ TyV w6 Y3 A3 c3 t2 ∧ TyV w6 Y3 A4 c4 (baseN 1) ∧ TyV w6 Y3 A6 c6 (baseN 1)) := Lib.hid ⟨Fr.new G5.out.1 (Fr.below hb) G5.out.2.1, YNew.trans G5.out.2.1 (YNew.refl _ _) G5.out.1.size, (hk2.later hb), G5.out.2.2.2.1.fr (Fr.below hb) (YNew.refl _ _), G5.out.2.2.2.2.1.fr (Fr.below hb) (YNew.refl _ _), G5.out.2.2.2.2.2.1.fr (Fr.below hb) (YNew.refl _ _), G5.out.2.2.2.2.2.2.fr (Fr.below hb) (YNew.refl _ _), (TyV.own hown (hk2.lt))⟩
          clear G5
          obtain ⟨k0, k1, k2, k3, k4, k6, k7⟩ := G6.out.2.2.2.1.cells
          clear hown hb hk2
          have HX := Lib.hid (agree_ok P es env b2 A3 A6 c3 c6 t2 (baseN 1) at0 Y3 w6 G6.out.2.2.1 G6.out.2.2.2.2.2.1.ty G6.out.2.2.2.2.2.2.2.ty (HD.out _ _ _ _ h2) (gd_base 1 (by decide)))
          unfold pk at HX
          go_wp2_with fail
          refine HX.out.mono ?_
          rintro e w7 ⟨⟨v7, rfl⟩, hf, hk⟩
          clear HX
          clear k0 k1 k2 k3 k4 k6 k7
          have G7 : Hid (Fr Y w w7 ∧ YNew Y Y3 w ∧ WkE P es env (agS t2 (baseN 1) at0 b2) Y3 w7 ∧ PtM w7 Y3 w.heap.size p TA tc UA uc ∧ TyV w7 Y3 A2 c2 t1 ∧ TyV w7 Y3 A3 c3 t2 ∧ TyV w7 Y3 A4 c4 (baseN 1) ∧ TyV w7 Y3 A6 c6 (baseN 1)) := Lib.hid ⟨Fr.new G6.out.1 hf G6.out.2.1, YNew.trans G6.out.2.1 (YNew.refl _ _) G6.out.1.size, hk, G6.out.2.2.2.1.fr hf (YNew.refl _ _), G6.out.2.2.2.2.1.fr hf (YNew.refl _ _), G6.out.2.2.2.2.2.1.fr hf (YNew.refl _ _), G6.out.2.2.2.2.2.2.1.fr hf (YNew.refl _ _), G6.out.2.2.2.2.2.2.2.fr hf (YNew.refl _ _)⟩
          clear G6
          obtain ⟨k0, k1, k2, k3, k4, k6, k7⟩ := G7.out.2.2.2.1.cells
          clear hf hk
          have HX := Lib.hid (base_any 2 w7)
          go_wp2_with fail
          refine HX.out.mono ?_
          rintro e w8 ⟨A8, c8, rfl, hown, hb⟩
          clear HX
          clear k0 k1 k2 k3 k4 k6 k7
          have G8 : Hid (Fr Y w w8 ∧ YNew Y Y3 w ∧ WkE P es env (agS t2 (baseN 1) at0 b2) Y3 w8 ∧ PtM w8 Y3 w.heap.size p TA tc UA uc ∧ TyV w8 Y3 A2 c2 t1 ∧ TyV w8 Y3 A3 c3 t2 ∧ TyV w8 Y3 A4 c4 (baseN 1) ∧ TyV w8 Y3 A6 c6 (baseN 1) ∧ TyV w8 Y3 A8 c8 (baseN 2)) := Lib.hid ⟨Fr.new G7.out.1 (Fr.below hb) G7.out.2.1, YNew.trans G7.out.2.1 (YNew.refl _ _) G7.out.1.size, (G7.out.2.2.1.later hb), G7.out.2.2.2.1.fr (Fr.below hb) (YNew.refl _ _), G7.out.2.2.2.2.1.fr (Fr.below hb) (YNew.refl _ _), G7.out.2.2.2.2.2.1.fr (Fr.below hb) (YNew.refl _ _), G7.out.2.2.2.2.2.2.1.fr (Fr.below hb) (YNew.refl _ _), G7.out.2.2.2.2.2.2.2.fr (Fr.below hb) (YNew.refl _ _), (TyV.own hown (G7.out.2.2.1.lt))⟩
          clear G7
          obtain ⟨k0, k1, k2, k3, k4, k6, k7⟩ := G8.out.2.2.2.1.cells
          clear hown hb
          cases hag2 : agB t2 (baseN 1) with
          | true =>
            have HQ : Hid (WyPost P es env Y r w (.returned (.slice A8 1 c8)) w8) := Lib.hid (by
              have hk := G8.out.2.2.1
              have hr := HRR.out
              rw [if_pos ⟨hag, hag2⟩] at hr
              unfold agS at hk
              rw [if_pos hag2] at hk
              injection hr with hr
              subst hr
              exact ⟨Y3, G8.out.1, G8.out.2.1, hk, A8, c8, rfl, G8.out.2.2.2.2.2.2.2.2⟩)
            go_wp2_with fail
            go_ret
            exact HQ.out
          | false =>
            have HQ : Hid (WyPost P es env Y r w (.returned (.slice A8 1 c8)) w8) := Lib.hid (by
              have hk := G8.out.2.2.1
              have hr := HRR.out
              rw [if_neg (by rw [hag2]; simp)] at hr
              unfold agS at hk
              rw [if_neg (by rw [hag2]; simp)] at hk
              injection hr with hr
              subst hr
              exact ⟨Y3, G8.out.1, G8.out.2.1, hk, _, _, _, rfl⟩)
            go_wp2_with fail
            go_ret
            exact HQ.out
        | false =>
          have hk2 : WkE P es env (.error (at0, 9)) Y3 w5 := by have hk := G5.out.2.2.1; unfold agS at hk; rw [hag, if_neg (by simp)] at hk; exact hk
          have HX := Lib.hid (base_any 1 w5)
          go_wp2_with fail
          refine HX.out.mono ?_
          rintro e w6 ⟨A6, c6, rfl, hown, hb⟩
          clear HX
          clear k0 k1 k2 k3 k4 k6 k7
          have G6 : Hid (Fr Y w w6 ∧ YNew Y Y3 w ∧ WkE P es env (.error (at0, 9)) Y3 w6 ∧ PtM w6 Y3 w.heap.size p TA tc UA uc ∧ TyV w6 Y3 A2 c2 t1 ∧ TyV w6 Y3 A3 c3 t2 ∧ TyV w6 Y3 A4 c4 (baseN 1)) := Lib.hid ⟨Fr.new G5.out.1 (Fr.below hb) G5.out.2.1, YNew.trans G5.out.2.1 (YNew.refl _ _) G5.out.1.size, (hk2.later hb), G5.out.2.2.2.1.fr (Fr.below hb) (YNew.refl _ _), G5.out.2.2.2.2.1.fr (Fr.below hb) (YNew.refl _ _), G5.out.2.2.2.2.2.1.fr (Fr.below hb) (YNew.refl _ _), G5.out.2.2.2.2.2.2.fr (Fr.below hb) (YNew.refl _ _)⟩
          clear G5
          obtain ⟨k0, k1, k2, k3, k4, k6, k7⟩ := G6.out.2.2.2.1.cells
          clear hown hb hk2
          have HX := Lib.hid (agree_bad P es env (at0, 9) (.slice A3 t2.length c3) (.slice A6 1 c6) at0 Y3 w6 G6.out.2.2.1)
          unfold pk at HX
          go_wp2_with fail
          refine HX.out.mono ?_
          rintro e w7 ⟨⟨v7, rfl⟩, hf, hk⟩
          clear HX
          clear k0 k1 k2 k3 k4 k6 k7
          have G7 : Hid (Fr Y w w7 ∧ YNew Y Y3 w ∧ WkE P es env (.error (at0, 9)) Y3 w7 ∧ PtM w7 Y3 w.heap.size p TA tc UA uc ∧ TyV w7 Y3 A2 c2 t1 ∧ TyV w7 Y3 A3 c3 t2 ∧ TyV w7 Y3 A4 c4 (baseN 1)) := Lib.hid ⟨Fr.new G6.out.1 hf G6.out.2.1, YNew.trans G6.out.2.1 (YNew.refl _ _) G6.out.1.size, hk, G6.out.2.2.2.1.fr hf (YNew.refl _ _), G6.out.2.2.2.2.1.fr hf (YNew.refl _ _), G6.out.2.2.2.2.2.1.fr hf (YNew.refl _ _), G6.out.2.2.2.2.2.2.fr hf (YNew.refl _ _)⟩
          clear G6
          obtain ⟨k0, k1, k2, k3, k4, k6, k7⟩ := G7.out.2.2.2.1.cells
          clear hf hk
          have HX := Lib.hid (base_any 2 w7)
          go_wp2_with fail
          refine HX.out.mono ?_
          rintro e w8 ⟨A8, c8, rfl, hown, hb⟩
          clear HX
          clear k0 k1 k2 k3 k4 k6 k7
          have G8 : Hid (Fr Y w w8 ∧ YNew Y Y3 w ∧ WkE P es env (.error (at0, 9)) Y3 w8 ∧ PtM w8 Y3 w.heap.size p TA tc UA uc ∧ TyV w8 Y3 A2 c2 t1 ∧ TyV w8 Y3 A3 c3 t2 ∧ TyV w8 Y3 A4 c4 (baseN 1) ∧ TyV w8 Y3 A8 c8 (baseN 2)) := Lib.hid ⟨Fr.new G7.out.1 (Fr.below hb) G7.out.2.1, YNew.trans G7.out.2.1 (YNew.refl _ _) G7.out.1.size, (G7.out.2.2.1.later hb), G7.out.2.2.2.1.fr (Fr.below hb) (YNew.refl _ _), G7.out.2.2.2.2.1.fr (Fr.below hb) (YNew.refl _ _), G7.out.2.2.2.2.2.1.fr (Fr.below hb) (YNew.refl _ _), G7.out.2.2.2.2.2.2.fr (Fr.below hb) (YNew.refl _ _), (TyV.own hown (G7.out.2.2.1.lt))⟩
          clear G7
          obtain ⟨k0, k1, k2, k3, k4, k6, k7⟩ := G8.out.2.2.2.1.cells
          clear hown hb
          have HQ : Hid (WyPost P es env Y r w (.returned (.slice A8 1 c8)) w8) := Lib.hid (by
            have hr := HRR.out
            rw [if_neg (by rw [hag]; simp)] at hr
            injection hr with hr
            subst hr
            exact ⟨Y3, G8.out.1, G8.out.2.1, G8.out.2.2.1, _, _, _, rfl⟩)
          go_wp2_with fail
          go_ret
          exact HQ.out
  · have q0 : (p.nm.toList == [38, 38]) = false := by rw [hc]; rfl
    have q1 : (p.nm.toList == [124, 124]) = false := by rw [hc]; rfl
    have q2 : (p.nm.toList == [43, 43]) = false := by rw [hc]; rfl
    have q3 : (p.nm.toList == [60]) = false := by rw [hc]; rfl
    have q4 : (p.nm.toList == [61, 61]) = true := by rw [hc]; rfl
    have HI : Hid (opIn p.nm = 1 ∧ opOut p.nm = 2) := Lib.hid (by simp [opIn, opOut, hc])
    clear hc
    rcases andA_some HR.out with ⟨x, h1, hr⟩ | ⟨t1, b1, h1, hr⟩
    · have HX := Lib.hid (HN.out env (.ok a) (.error x) Y w1 h1 G1.out.2.2.1)
      unfold pk at HX
      go_wp2_with fail
      refine HX.out.mono ?_
      rintro e w2 ⟨Y2, hf, hy, hk, rfl⟩
      clear HX
      clear k0 k1 k2 k3 k4 k6 k7
      have G2 : Hid (Fr Y w w2 ∧ YNew Y Y2 w ∧ WkE P es env (.error x) Y2 w2 ∧ PtM w2 Y2 w.heap.size p TA tc UA uc) := Lib.hid ⟨Fr.new G1.out.1 hf G1.out.2.1, YNew.trans G1.out.2.1 hy G1.out.1.size, hk, G1.out.2.2.2.fr hf hy⟩
      clear G1
      obtain ⟨k0, k1, k2, k3, k4, k6, k7⟩ := G2.out.2.2.2.cells
      clear hf hy hk
      have HX := Lib.hid (HN.out env (.error x) (.error x) Y2 w2 rfl G2.out.2.2.1)
      unfold pk at HX
      go_wp2_with fail
      refine HX.out.mono ?_
      rintro e w3 ⟨Y3, hf, hy, hk, rfl⟩
      clear HX
      clear k0 k1 k2 k3 k4 k6 k7
      have G3 : Hid (Fr Y w w3 ∧ YNew Y Y3 w ∧ WkE P es env (.error x) Y3 w3 ∧ PtM w3 Y3 w.heap.size p TA tc UA uc) := Lib.hid ⟨Fr.new G2.out.1 hf G2.out.2.1, YNew.trans G2.out.2.1 hy G2.out.1.size, hk, G2.out.2.2.2.fr hf hy⟩
      clear G2
      obtain ⟨k0, k1, k2, k3, k4, k6, k7⟩ := G3.out.2.2.2.cells
      clear hf hy hk
      have HX := Lib.hid (base_any 1 w3)
      go_wp2_with fail
      refine HX.out.mono ?_
      rintro e w4 ⟨A4, c4, rfl, hown, hb⟩
      clear HX
      clear k0 k1 k2 k3 k4 k6 k7
      have G4 : Hid (Fr Y w w4 ∧ YNew Y Y3 w ∧ WkE P es env (.error x) Y3 w4 ∧ PtM w4 Y3 w.heap.size p TA tc UA uc ∧ TyV w4 Y3 A4 c4 (baseN 1)) := Lib.hid ⟨Fr.new G3.out.1 (Fr.below hb) G3.out.2.1, YNew.trans G3.out.2.1 (YNew.refl _ _) G3.out.1.size, (G3.out.2.2.1.later hb), G3.out.2.2.2.fr (Fr.below hb) (YNew.refl _ _), (TyV.own hown (G3.out.2.2.1.lt))⟩
      clear G3
      obtain ⟨k0, k1, k2, k3, k4, k6, k7⟩ := G4.out.2.2.2.1.cells
      clear hown hb
      have HX := Lib.hid (agree_bad P es env x (.slice none 0 0) (.slice A4 1 c4) at0 Y3 w4 G4.out.2.2.1)
      unfold pk at HX
      go_wp2_with fail
      refine HX.out.mono ?_
      rintro e w5 ⟨⟨v5, rfl⟩, hf, hk⟩
      clear HX
      clear k0 k1 k2 k3 k4 k6 k7
      have G5 : Hid (Fr Y w w5 ∧ YNew Y Y3 w ∧ WkE P es env (.error x) Y3 w5 ∧ PtM w5 Y3 w.heap.size p TA tc UA uc ∧ TyV w5 Y3 A4 c4 (baseN 1)) := Lib.hid ⟨Fr.new G4.out.1 hf G4.out.2.1, YNew.trans G4.out.2.1 (YNew.refl _ _) G4.out.1.size, hk, G4.out.2.2.2.1.fr hf (YNew.refl _ _), G4.out.2.2.2.2.fr hf (YNew.refl _ _)⟩
      clear G4
      obtain ⟨k0, k1, k2, k3, k4, k6, k7⟩ := G5.out.2.2.2.1.cells
      clear hf hk
      have HX := Lib.hid (base_any 1 w5)
      go_wp2_with fail
      refine HX.out.mono ?_
      rintro e w6 ⟨A6, c6, rfl, hown, hb⟩
      clear HX
      clear k0 k1 k2 k3 k4 k6 k7
      have G6 : Hid (Fr Y w w6 ∧ YNew Y Y3 w ∧ WkE P es env (.error x) Y3 w6 ∧ PtM w6 Y3 w.heap.size p TA tc UA uc ∧ TyV w6 Y3 A4 c4 (baseN 1) ∧ TyV w6 Y3 A6 c6 (baseN 1)) := Lib.hid ⟨Fr.new G5.out.1 (Fr.below hb) G5.out.2.1, YNew.trans G5.out.2.1 (YNew.refl _ _) G5.out.1.size, (G5.out.2.2.1.later hb), G5.out.2.2.2.1.fr (Fr.below hb) (YNew.refl _ _), G5.out.2.2.2.2.fr (Fr.below hb) (YNew.refl _ _), (TyV.own hown (G5.out.2.2.1.lt))⟩
      clear G5
      obtain ⟨k0, k1, k2, k3, k4, k6, k7⟩ := G6.out.2.2.2.1.cells
      clear hown hb
      have HX := Lib.hid (agree_bad P es env x (.slice none 0 0) (.slice A6 1 c6) at0 Y3 w6 G6.out.2.2.1)
      unfold pk at HX
      go_wp2_with fail
      refine HX.out.mono ?_
      rintro e w7 ⟨⟨v7, rfl⟩, hf, hk⟩
      clear HX
      clear k0 k1 k2 k3 k4 k6 k7
      have G7 : Hid (Fr Y w w7 ∧ YNew Y Y3 w ∧ WkE P es env (.error x) Y3 w7 ∧ PtM w7 Y3 w.heap.size p TA tc UA uc ∧ TyV w7 Y3 A4 c4 (baseN 1) ∧ TyV w7 Y3 A6 c6 (baseN 1)) := Lib.hid ⟨Fr.new G6.out.1 hf G6.out.2.1, YNew.trans G6.out.2.1 (YNew.refl _ _) G6.out.1.size, hk, G6.out.2.2.2.1.fr hf (YNew.refl _ _), G6.out.2.2.2.2.1.fr hf (YNew.refl _ _), G6.out.2.2.2.2.2.fr hf (YNew.refl _ _)⟩
      clear G6
      obtain ⟨k0, k1, k2, k3, k4, k6, k7⟩ := G7.out.2.2.2.1.cells
      clear hf hk
      have HX := Lib.hid (base_any 2 w7)
      go_wp2_with fail
      refine HX.out.mono ?_
      rintro e w8 ⟨A8, c8, rfl, hown, hb⟩
      clear HX
      clear k0 k1 k2 k3 k4 k6 k7
      have G8 : Hid (Fr Y w w8 ∧ YNew Y Y3 w ∧ WkE P es env (.error x) Y3 w8 ∧ PtM w8 Y3 w.heap.size p TA tc UA uc ∧ TyV w8 Y3 A4 c4 (baseN 1) ∧ TyV w8 Y3 A6 c6 (baseN 1) ∧ TyV w8 Y3 A8 c8 (baseN 2)) := Lib.hid ⟨Fr.new G7.out.1 (Fr.below hb) G7.out.2.1, YNew.trans G7.out.2.1 (YNew.refl _ _) G7.out.1.size, (G7.out.2.2.1.later hb), G7.out.2.2.2.1.fr (Fr.below hb) (YNew.refl _ _), G7.out.2.2.2.2.1.fr (Fr.below hb) (YNew.refl _ _), G7.out.2.2.2.2.2.fr (Fr.below hb) (YNew.refl _ _), (TyV.own hown (G7.out.2.2.1.lt))⟩
      clear G7
      obtain ⟨k0, k1, k2, k3, k4, k6, k7⟩ := G8.out.2.2.2.1.cells
      clear hown hb
      have HQ : Hid (WyPost P es env Y r w (.returned (.slice A8 1 c8)) w8) := Lib.hid (by
        subst hr
        exact ⟨Y3, G8.out.1, G8.out.2.1, G8.out.2.2.1, _, _, _, rfl⟩)
      go_wp2_with fail
      go_ret
      exact HQ.out
    · have HX := Lib.hid (HN.out env (.ok a) _ Y w1 h1 G1.out.2.2.1)
      unfold pk at HX
      go_wp2_with fail
      refine HX.out.mono ?_
      rintro e w2 ⟨Y2, hf, hy, hk, A2, c2, rfl, ht⟩
      clear HX
      clear k0 k1 k2 k3 k4 k6 k7
      have G2 : Hid (Fr Y w w2 ∧ YNew Y Y2 w ∧ WkE P es env (.ok b1) Y2 w2 ∧ PtM w2 Y2 w.heap.size p TA tc UA uc ∧ TyV w2 Y2 A2 c2 t1) := Lib.hid ⟨Fr.new G1.out.1 hf G1.out.2.1, YNew.trans G1.out.2.1 hy G1.out.1.size, hk, G1.out.2.2.2.fr hf hy, ht⟩
      clear G1
      obtain ⟨k0, k1, k2, k3, k4, k6, k7⟩ := G2.out.2.2.2.1.cells
      clear hf hy hk ht
      rcases andA_some hr with ⟨x, h2, hr⟩ | ⟨t2, b2, h2, hr⟩
      · have HX := Lib.hid (HN.out env (.ok b1) (.error x) Y2 w2 h2 G2.out.2.2.1)
        unfold pk at HX
        go_wp2_with fail
        refine HX.out.mono ?_
        rintro e w3 ⟨Y3, hf, hy, hk, rfl⟩
        clear HX
        clear k0 k1 k2 k3 k4 k6 k7
        have G3 : Hid (Fr Y w w3 ∧ YNew Y Y3 w ∧ WkE P es env (.error x) Y3 w3 ∧ PtM w3 Y3 w.heap.size p TA tc UA uc ∧ TyV w3 Y3 A2 c2 t1) := Lib.hid ⟨Fr.new G2.out.1 hf G2.out.2.1, YNew.trans G2.out.2.1 hy G2.out.1.size, hk, G2.out.2.2.2.1.fr hf hy, G2.out.2.2.2.2.fr hf hy⟩
        clear G2
        obtain ⟨k0, k1, k2, k3, k4, k6, k7⟩ := G3.out.2.2.2.1.cells
        clear hf hy hk
        have HX := Lib.hid (base_any 1 w3)
        go_wp2_with fail
        refine HX.out.mono ?_
        rintro e w4 ⟨A4, c4, rfl, hown, hb⟩
        clear HX
        clear k0 k1 k2 k3 k4 k6 k7
        have G4 : Hid (Fr Y w w4 ∧ YNew Y Y3 w ∧ WkE P es env (.error x) Y3 w4 ∧ PtM w4 Y3 w.heap.size p TA tc UA uc ∧ TyV w4 Y3 A2 c2 t1 ∧ TyV w4 Y3 A4 c4 (baseN 1)) := Lib.hid ⟨Fr.new G3.out.1 (Fr.below hb) G3.out.2.1, YNew.trans G3.out.2.1 (YNew.refl _ _) G3.out.1.size, (G3.out.2.2.1.later hb), G3.out.2.2.2.1.fr (Fr.below hb) (YNew.refl _ _), G3.out.2.2.2.2.fr (Fr.below hb) (YNew.refl _ _), (TyV.own hown (G3.out.2.2.1.lt))⟩
        clear G3
        obtain ⟨k0, k1, k2, k3, k4, k6, k7⟩ := G4.out.2.2.2.1.cells
        clear hown hb
        have HX := Lib.hid (agree_bad P es env x (.slice A2 t1.length c2) (.slice A4 1 c4) at0 Y3 w4 G4.out.2.2.1)
        unfold pk at HX
        go_wp2_with fail
        refine HX.out.mono ?_
        rintro e w5 ⟨⟨v5, rfl⟩, hf, hk⟩
        clear HX
        clear k0 k1 k2 k3 k4 k6 k7
        have G5 : Hid (Fr Y w w5 ∧ YNew Y Y3 w ∧ WkE P es env (.error x) Y3 w5 ∧ PtM w5 Y3 w.heap.size p TA tc UA uc ∧ TyV w5 Y3 A2 c2 t1 ∧ TyV w5 Y3 A4 c4 (baseN 1)) := Lib.hid ⟨Fr.new G4.out.1 hf G4.out.2.1, YNew.trans G4.out.2.1 (YNew.refl _ _) G4.out.1.size, hk, G4.out.2.2.2.1.fr hf (YNew.refl _ _), G4.out.2.2.2.2.1.fr hf (YNew.refl _ _), G4.out.2.2.2.2.2.fr hf (YNew.refl _ _)⟩
        clear G4
        obtain ⟨k0, k1, k2, k3, k4, k6, k7⟩ := G5.out.2.2.2.1.cells
        clear hf hk
        have HX := Lib.hid (base_any 1 w5)
        go_wp2_with fail
        refine HX.out.mono ?_
        rintro e w6 ⟨A6, c6, rfl, hown, hb⟩
        clear HX
        clear k0 k1 k2 k3 k4 k6 k7
        have G6 : Hid (Fr Y w w6 ∧ YNew Y Y3 w ∧ WkE P es env (.error x) Y3 w6 ∧ PtM w6 Y3 w.heap.size p TA tc UA uc ∧ TyV w6 Y3 A2 c2 t1 ∧ TyV w6 Y3 A4 c4 (baseN 1) ∧ TyV w6 Y3 A6 c6 (baseN 1)) := Lib.hid ⟨Fr.new G5.out.1 (Fr.below hb) G5.out.2.1, YNew.trans G5.out.2.1 (YNew.refl _ _) G5.out.1.size, (G5.out.2.2.1.later hb), G5.out.2.2.2.1.fr (Fr.below hb) (YNew.refl _ _), G5.out.2.2.2.2.1.fr (Fr.below hb) (YNew.refl _ _), G5.out.2.2.2.2.2.fr (Fr.below hb) (YNew.refl _ _), (TyV.own hown (G5.out.2.2.1.lt))⟩
        clear G5
        obtain ⟨k0, k1, k2, k3, k4, k6, k7⟩ := G6.out.2.2.2.1.cells
        clear hown hb
        have HX := Lib.hid (agree_bad P es env x (.slice none 0 0) (.slice A6 1 c6) at0 Y3 w6 G6.out.2.2.1)
        unfold pk at HX
        go_wp2_with fail
        refine HX.out.mono ?_
        rintro e w7 ⟨⟨v7, rfl⟩, hf, hk⟩
        clear HX
        clear k0 k1 k2 k3 k4 k6 k7
        have G7 : Hid (Fr Y w w7 ∧ YNew Y Y3 w ∧ WkE P es env (.error x) Y3 w7 ∧ PtM w7 Y3 w.heap.size p TA tc UA uc ∧ TyV w7 Y3 A2 c2 t1 ∧ TyV w7 Y3 A4 c4 (baseN 1) ∧ TyV w7 Y3 A6 c6 (baseN 1)) := Lib.hid ⟨Fr.new G6.out.1 hf G6.out.2.1, YNew.trans G6.out.2.1 (YNew.refl _ _) G6.out.1.size, hk, G6.out.2.2.2.1.fr hf (YNew.refl _ _), G6.out.2.2.2.2.1.fr hf (YNew.refl _ _), G6.out.2.2.2.2.2.1.fr hf (YNew.refl _ _), G6.out.2.2.2.2.2.2.fr hf (YNew.refl _ _)⟩
        clear G6
        obtain ⟨k0, k1, k2, k3, k4, k6, k7⟩ := G7.out.2.2.2.1.cells
        clear hf hk
        have HX := Lib.hid (base_any 2 w7)
        go_wp2_with fail
        refine HX.out.mono ?_
        rintro e w8 ⟨A8, c8, rfl, hown, hb⟩
        clear HX
        clear k0 k1 k2 k3 k4 k6 k7
        have G8 : Hid (Fr Y w w8 ∧ YNew Y Y3 w ∧ WkE P es env (.error x) Y3 w8 ∧ PtM w8 Y3 w.heap.size p TA tc UA uc ∧ TyV w8 Y3 A2 c2 t1 ∧ TyV w8 Y3 A4 c4 (baseN 1) ∧ TyV w8 Y3 A6 c6 (baseN 1) ∧ TyV w8 Y3 A8 c8 (baseN 2)) := Lib.hid ⟨Fr.new G7.out.1 (Fr.below hb) G7.out.2.1, YNew.trans G7.out.2.1 (YNew.refl _ _) G7.out.1.size, (G7.out.2.2.1.later hb), G7.out.2.2.2.1.fr (Fr.below hb) (YNew.refl _ _), G7.out.2.2.2.2.1.fr (Fr.below hb) (YNew.refl _ _), G7.out.2.2.2.2.2.1.fr (Fr.below hb) (YNew.refl _ _), G7.out.2.2.2.2.2.2.fr (Fr.below hb) (YNew.refl _ _), (TyV.own hown (G7.out.2.2.1.lt))⟩
        clear G7
        obtain ⟨k0, k1, k2, k3, k4, k6, k7⟩ := G8.out.2.2.2.1.cells
        clear hown hb
        have HQ : Hid (WyPost P es env Y r w (.returned (.slice A8 1 c8)) w8) := Lib.hid (by
          subst hr
          exact ⟨Y3, G8.out.1, G8.out.2.1, G8.out.2.2.1, _, _, _, rfl⟩)
        go_wp2_with fail
        go_ret
        exact HQ.out
      · have HX := Lib.hid (HN.out env (.ok b1) _ Y2 w2 h2 G2.out.2.2.1)
        unfold pk at HX
        go_wp2_with fail
        refine HX.out.mono ?_
        rintro e w3 ⟨Y3, hf, hy, hk, A3, c3, rfl, ht⟩
        clear HX
        clear k0 k1 k2 k3 k4 k6 k7
        have G3 : Hid (Fr Y w w3 ∧ YNew Y Y3 w ∧ WkE P es env (.ok b2) Y3 w3 ∧ PtM w3 Y3 w.heap.size p TA tc UA uc ∧ TyV w3 Y3 A2 c2 t1 ∧ TyV w3 Y3 A3 c3 t2) := Lib.hid ⟨Fr.new G2.out.1 hf G2.out.2.1, YNew.trans G2.out.2.1 hy G2.out.1.size, hk, G2.out.2.2.2.1.fr hf hy, G2.out.2.2.2.2.fr hf hy, ht⟩
        clear G2
        obtain ⟨k0, k1, k2, k3, k4, k6, k7⟩ := G3.out.2.2.2.1.cells
        clear hf hy hk ht
        rw [HI.out.1, HI.out.2] at hr
        have HRR := Lib.hid hr
        clear hr
        have HX := Lib.hid (base_any 1 w3)
        go_wp2_with fail
        refine HX.out.mono ?_
        rintro e w4 ⟨A4, c4, rfl, hown, hb⟩
        clear HX
        clear k0 k1 k2 k3 k4 k6 k7
        have G4 : Hid (Fr Y w w4 ∧ YNew Y Y3 w ∧ WkE P es env (.ok b2) Y3 w4 ∧ PtM w4 Y3 w.heap.size p TA tc UA uc ∧ TyV w4 Y3 A2 c2 t1 ∧ TyV w4 Y3 A3 c3 t2 ∧ TyV w4 Y3 A4 c4 (baseN 1)) := Lib.hid ⟨Fr.new G3.out.1 (Fr.below hb) G3.out.2.1, YNew.trans G3.out.2.1 (YNew.refl _ _) G3.out.1.size, (G3.out.2.2.1.later hb), G3.out.2.2.2.1.fr (Fr.below hb) (YNew.refl _ _), G3.out.2.2.2.2.1.fr (Fr.below hb) (YNew.refl _ _), G3.out.2.2.2.2.2.fr (Fr.below hb) (YNew.refl _ _), (TyV.own hown (G3.out.2.2.1.lt))⟩
        clear G3
        obtain ⟨k0, k1, k2, k3, k4, k6, k7⟩ := G4.out.2.2.2.1.cells
        clear hown hb
        have HX := Lib.hid (agree_ok P es env b2 A2 A4 c2 c4 t1 (baseN 1) at0 Y3 w4 G4.out.2.2.1 G4.out.2.2.2.2.1.ty G4.out.2.2.2.2.2.2.ty (HD.out _ _ _ _ h1) (gd_base 1 (by decide)))
        unfold pk at HX
        go_wp2_with fail
        refine HX.out.mono ?_
        rintro e w5 ⟨⟨v5, rfl⟩, hf, hk⟩
        clear HX
        clear k0 k1 k2 k3 k4 k6 k7
        have G5 : Hid (Fr Y w w5 ∧ YNew Y Y3 w ∧ WkE P es env (agS t1 (baseN 1) at0 b2) Y3 w5 ∧ PtM w5 Y3 w.heap.size p TA tc UA uc ∧ TyV w5 Y3 A2 c2 t1 ∧ TyV w5 Y3 A3 c3 t2 ∧ TyV w5 Y3 A4 c4 (baseN 1)) := Lib.hid ⟨Fr.new G4.out.1 hf G4.out.2.1, YNew.trans G4.out.2.1 (YNew.refl _ _) G4.out.1.size, hk, G4.out.2.2.2.1.fr hf (YNew.refl _ _), G4.out.2.2.2.2.1.fr hf (YNew.refl _ _), G4.out.2.2.2.2.2.1.fr hf (YNew.refl _ _), G4.out.2.2.2.2.2.2.fr hf (YNew.refl _ _)⟩
        clear G4
        obtain ⟨k0, k1, k2, k3, k4, k6, k7⟩ := G5.out.2.2.2.1.cells
        clear hf hk
        cases hag : agB t1 (baseN 1) with
        | true =>
          have hk2 : WkE P es env (.ok b2) Y3 w5 := by have hk := G5.out.2.2.1; unfold agS at hk; rw [hag, if_pos rfl] at hk; exact hk
          have HX := Lib.hid (base_any 1 w5)
          go_wp2_with fail
          refine HX.out.mono ?_
          rintro e w6 ⟨A6, c6, rfl, hown, hb⟩
          clear HX
          clear k0 k1 k2 k3 k4 k6 k7
          have G6 : Hid (Fr Y w w6 ∧ YNew Y Y3 w ∧ WkE P es env (.ok b2) Y3 w6 ∧ PtM w6 Y3 w.heap.size p TA tc UA uc ∧ TyV w6 Y3 A2 c2 t1 ∧ TyV w6 Y3 A3 c3 t2 ∧ TyV w6 Y3 A4 c4 (baseN 1) ∧ TyV w6 Y3 A6 c6 (baseN 1)) := Lib.hid ⟨Fr.new G5.out.1 (Fr.below hb) G5.out.2.1, YNew.trans G5.out.2.1 (YNew.refl _ _) G5.out.1.size, (hk2.later hb), G5.out.2.2.2.1.fr (Fr.below hb) (YNew.refl _ _), G5.out.2.2.2.2.1.fr (Fr.below hb) (YNew.refl _ _), G5.out.2.2.2.2.2.1.fr (Fr.below hb) (YNew.refl _ _), G5.out.2.2.2.2.2.2.fr (Fr.below hb) (YNew.refl _ _), (TyV.own hown (hk2.lt))⟩
          clear G5
          obtain ⟨k0, k1, k2, k3, k4, k6, k7⟩ := G6.out.2.2.2.1.cells
          clear hown hb hk2
          have HX := Lib.hid (agree_ok P es env b2 A3 A6 c3 c6 t2 (baseN 1) at0 Y3 w6 G6.out.2.2.1 G6.out.2.2.2.2.2.1.ty G6.out.2.2.2.2.2.2.2.ty (HD.out _ _ _ _ h2) (gd_base 1 (by decide)))
          unfold pk at HX
          go_wp2_with fail
          refine HX.out.mono ?_
          rintro e w7 ⟨⟨v7, rfl⟩, hf, hk⟩
          clear HX
          clear k0 k1 k2 k3 k4 k6 k7
          have G7 : Hid (Fr Y w w7 ∧ YNew Y Y3 w ∧ WkE P es env (agS t2 (baseN 1) at0 b2) Y3 w7 ∧ PtM w7 Y3 w.heap.size p TA tc UA uc ∧ TyV w7 Y3 A2 c2 t1 ∧ TyV w7 Y3 A3 c3 t2 ∧ TyV w7 Y3 A4 c4 (baseN 1) ∧ TyV w7 Y3 A6 c6 (baseN 1)) := Lib.hid ⟨Fr.new G6.out.1 hf G6.out.2.1, YNew.trans G6.out.2.1 (YNew.refl _ _) G6.out.1.size, hk, G6.out.2.2.2.1.fr hf (YNew.refl _ _), G6.out.2.2.2.2.1.fr hf (YNew.refl _ _), G6.out.2.2.2.2.2.1.fr hf (YNew.refl _ _), G6.out.2.2.2.2.2.2.1.fr hf (YNew.refl _ _), G6.out.2.2.2.2.2.2.2.fr hf (YNew.refl _ _)⟩
          clear G6
          obtain ⟨k0, k1, k2, k3, k4, k6, k7⟩ := G7.out.2.2.2.1.cells
          clear hf hk
          have HX := Lib.hid (base_any 2 w7)
          go_wp2_with fail
          refine HX.out.mono ?_
          rintro e w8 ⟨A8, c8, rfl, hown, hb⟩
          clear HX
          clear k0 k1 k2 k3 k4 k6 k7
          have G8 : Hid (Fr Y w w8 ∧ YNew Y Y3 w ∧ WkE P es env (agS t2 (baseN 1) at0 b2) Y3 w8 ∧ PtM w8 Y3 w.heap.size p TA tc UA uc ∧ TyV w8 Y3 A2 c2 t1 ∧ TyV w8 Y3 A3 c3 t2 ∧ TyV w8 Y3 A4 c4 (baseN 1) ∧ TyV w8 Y3 A6 c6 (baseN 1) ∧ TyV w8 Y3 A8 c8 (baseN 2)) := Lib.hid ⟨Fr.new G7.out.1 (Fr.below hb) G7.out.2.1, YNew.trans G7.out.2.1 (YNew.refl _ _) G7.out.1.size, (G7.out.2.2.1.later hb), G7.out.2.2.2.1.fr (Fr.below hb) (YNew.refl _ _), G7.out.2.2.2.2.1.fr (Fr.below hb) (YNew.refl _ _), G7.out.2.2.2.2.2.1.fr (Fr.below hb) (YNew.refl _ _), G7.out.2.2.2.2.2.2.1.fr (Fr.below hb) (YNew.refl _ _), G7.out.2.2.2.2.2.2.2.fr (Fr.below hb) (YNew.refl _ _), (TyV.own hown (G7.out.2.2.1.lt))⟩
          clear G7
          obtain ⟨k0, k1, k2, k3, k4, k6, k7⟩ := G8.out.2.2.2.1.cells
          clear hown hb
          cases hag2 : agB t2 (baseN 1) with
          | true =>
            have HQ : Hid (WyPost P es env Y r w (.returned (.slice A8 1 c8)) w8) := Lib.hid (by
              have hk := G8.out.2.2.1
              have hr := HRR.out
              rw [if_pos ⟨hag, hag2⟩] at hr
              unfold agS at hk
              rw [if_pos hag2] at hk
              injection hr with hr
              subst hr
              exact ⟨Y3, G8.out.1, G8.out.2.1, hk, A8, c8, rfl, G8.out.2.2.2.2.2.2.2.2⟩)
            go_wp2_with fail
            go_ret
            exact HQ.out
          | false =>
            have HQ : Hid (WyPost P es env Y r w (.returned (.slice A8 1 c8)) w8) := Lib.hid (by
              have hk := G8.out.2.2.1
              have hr := HRR.out
              rw [if_neg (by rw [hag2]; simp)] at hr
              unfold agS at hk
              rw [if_neg (by rw [hag2]; simp)] at hk
              injection hr with hr
              subst hr
              exact ⟨Y3, G8.out.1, G8.out.2.1, hk, _, _, _, rfl⟩)
            go_wp2_with fail
            go_ret
            exact HQ.out
        | false =>
          have hk2 : WkE P es env (.error (at0, 9)) Y3 w5 := by have hk := G5.out.2.2.1; unfold agS at hk; rw [hag, if_neg (by simp)] at hk; exact hk
          have HX := Lib.hid (base_any 1 w5)
          go_wp2_with fail
          refine HX.out.mono ?_
          rintro e w6 ⟨A6, c6, rfl, hown, hb⟩
          clear HX
          clear k0 k1 k2 k3 k4 k6 k7
          have G6 : Hid (Fr Y w w6 ∧ YNew Y Y3 w ∧ WkE P es env (.error (at0, 9)) Y3 w6 ∧ PtM w6 Y3 w.heap.size p TA tc UA uc ∧ TyV w6 Y3 A2 c2 t1 ∧ TyV w6 Y3 A3 c3 t2 ∧ TyV w6 Y3 A4 c4 (baseN 1)) := Lib.hid ⟨Fr.new G5.out.1 (Fr.below hb) G5.out.2.1, YNew.trans G5.out.2.1 (YNew.refl _ _) G5.out.1.size, (hk2.later hb), G5.out.2.2.2.1.fr (Fr.below hb) (YNew.refl _ _), G5.out.2.2.2.2.1.fr (Fr.below hb) (YNew.refl _ _), G5.out.2.2.2.2.2.1.fr (Fr.below hb) (YNew.refl _ _), G5.out.2.2.2.2.2.2.fr (Fr.below hb) (YNew.refl _ _)⟩
          clear G5
          obtain ⟨k0, k1, k2, k3, k4, k6, k7⟩ := G6.out.2.2.2.1.cells
          clear hown hb hk2
          have HX := Lib.hid (agree_bad P es env (at0, 9) (.slice A3 t2.length c3) (.slice A6 1 c6) at0 Y3 w6 G6.out.2.2.1)
          unfold pk at HX
          go_wp2_with fail
          refine HX.out.mono ?_
          rintro e w7 ⟨⟨v7, rfl⟩, hf, hk⟩
          clear HX
          clear k0 k1 k2 k3 k4 k6 k7
          have G7 : Hid (Fr Y w w7 ∧ YNew Y Y3 w ∧ WkE P es env (.error (at0, 9)) Y3 w7 ∧ PtM w7 Y3 w.heap.size p TA tc UA uc ∧ TyV w7 Y3 A2 c2 t1 ∧ TyV w7 Y3 A3 c3 t2 ∧ TyV w7 Y3 A4 c4 (baseN 1)) := Lib.hid ⟨Fr.new G6.out.1 hf G6.out.2.1, YNew.trans G6.out.2.1 (YNew.refl _ _) G6.out.1.size, hk, G6.out.2.2.2.1.fr hf (YNew.refl _ _), G6.out.2.2.2.2.1.fr hf (YNew.refl _ _), G6.out.2.2.2.2.2.1.fr hf (YNew.refl _ _), G6.out.2.2.2.2.2.2.fr hf (YNew.refl _ _)⟩
          clear G6
          obtain ⟨k0, k1, k2, k3, k4, k6, k7⟩ := G7.out.2.2.2.1.cells
          clear hf hk
          have HX := Lib.hid (base_any 2 w7)
          go_wp2_with fail
          refine HX.out.mono ?_
          rintro e w8 ⟨A8, c8, rfl, hown, hb⟩
          clear HX
          clear k0 k1 k2 k3 k4 k6 k7
          have G8 : Hid (Fr Y w w8 ∧ YNew Y Y3 w ∧ WkE P es env (.error (at0, 9)) Y3 w8 ∧ PtM w8 Y3 w.heap.size p TA tc UA uc ∧ TyV w8 Y3 A2 c2 t1 ∧ TyV w8 Y3 A3 c3 t2 ∧ TyV w8 Y3 A4 c4 (baseN 1) ∧ TyV w8 Y3 A8 c8 (baseN 2)) := Lib.hid ⟨Fr.new G7.out.1 (Fr.below hb) G7.out.2.1, YNew.trans G7.out.2.1 (YNew.refl _ _) G7.out.1.size, (G7.out.2.2.1.later hb), G7.out.2.2.2.1.fr (Fr.below hb) (YNew.refl _ _), G7.out.2.2.2.2.1.fr (Fr.below hb) (YNew.refl _ _), G7.out.2.2.2.2.2.1.fr (Fr.below hb) (YNew.refl _ _), G7.out.2.2.2.2.2.2.fr (Fr.below hb) (YNew.refl _ _), (TyV.own hown (G7.out.2.2.1.lt))⟩
          clear G7
          obtain ⟨k0, k1, k2, k3, k4, k6, k7⟩ := G8.out.2.2.2.1.cells
          clear hown hb
          have HQ : Hid (WyPost P es env Y r w (.returned (.slice A8 1 c8)) w8) := Lib.hid (by
            have hr := HRR.out
            rw [if_neg (by rw [hag]; simp)] at hr
            injection hr with hr
            subst hr
            exact ⟨Y3, G8.out.1, G8.out.2.1, G8.out.2.2.1, _, _, _, rfl⟩)
          go_wp2_with fail
          go_ret
          exact HQ.out
  · have q0 : (p.nm.toList == [38, 38]) = false := by simpa using hc1
    have q1 : (p.nm.toList == [124, 124]) = false := by simpa using hc2
    have q2 : (p.nm.toList == [43, 43]) = false := by simpa using hc3
    have q3 : (p.nm.toList == [60]) = false := by simpa using hc4
    have q4 : (p.nm.toList == [61, 61]) = false := by simpa using hc5
    have HI : Hid (opIn p.nm = 1 ∧ opOut p.nm = 1) := Lib.hid (by simp [opIn, opOut, hc1, hc2, hc3, hc4, hc5])
    clear hc1 hc2 hc3 hc4 hc5
    rcases andA_some HR.out with ⟨x, h1, hr⟩ | ⟨t1, b1, h1, hr⟩
    · have HX := Lib.hid (HN.out env (.ok a) (.error x) Y w1 h1 G1.out.2.2.1)
      unfold pk at HX
      go_wp2_with fail
      refine HX.out.mono ?_
      rintro e w2 ⟨Y2, hf, hy, hk, rfl⟩
      clear HX
      clear k0 k1 k2 k3 k4 k6 k7
      have G2 : Hid (Fr Y w w2 ∧ YNew Y Y2 w ∧ WkE P es env (.error x) Y2 w2 ∧ PtM w2 Y2 w.heap.size p TA tc UA uc) := Lib.hid ⟨Fr.new G1.out.1 hf G1.out.2.1, YNew.trans G1.out.2.1 hy G1.out.1.size, hk, G1.out.2.2.2.fr hf hy⟩
      clear G1
      obtain ⟨k0, k1, k2, k3, k4, k6, k7⟩ := G2.out.2.2.2.cells
      clear hf hy hk
      have HX := Lib.hid (HN.out env (.error x) (.error x) Y2 w2 rfl G2.out.2.2.1)
      unfold pk at HX
      go_wp2_with fail
      refine HX.out.mono ?_
      rintro e w3 ⟨Y3, hf, hy, hk, rfl⟩
      clear HX
      clear k0 k1 k2 k3 k4 k6 k7
      have G3 : Hid (Fr Y w w3 ∧ YNew Y Y3 w ∧ WkE P es env (.error x) Y3 w3 ∧ PtM w3 Y3 w.heap.size p TA tc UA uc) := Lib.hid ⟨Fr.new G2.out.1 hf G2.out.2.1, YNew.trans G2.out.2.1 hy G2.out.1.size, hk, G2.out.2.2.2.fr hf hy⟩
      clear G2
      obtain ⟨k0, k1, k2, k3, k4, k6, k7⟩ := G3.out.2.2.2.cells
      clear hf hy hk
      have HX := Lib.hid (base_any 1 w3)
      go_wp2_with fail
      refine HX.out.mono ?_
      rintro e w4 ⟨A4, c4, rfl, hown, hb⟩
      clear HX
      clear k0 k1 k2 k3 k4 k6 k7
      have G4 : Hid (Fr Y w w4 ∧ YNew Y Y3 w ∧ WkE P es env (.error x) Y3 w4 ∧ PtM w4 Y3 w.heap.size p TA tc UA uc ∧ TyV w4 Y3 A4 c4 (baseN 1)) := Lib.hid ⟨Fr.new G3.out.1 (Fr.below hb) G3.out.2.1, YNew.trans G3.out.2.1 (YNew.refl _ _) G3.out.1.size, (G3.out.2.2.1.later hb), G3.out.2.2.2.fr (Fr.below hb) (YNew.refl _ _), (TyV.own hown (G3.out.2.2.1.lt))⟩
      clear G3
      obtain ⟨k0, k1, k2, k3, k4, k6, k7⟩ := G4.out.2.2.2.1.cells
      clear hown hb
      have HX := Lib.hid (agree_bad P es env x (.slice none 0 0) (.slice A4 1 c4) at0 Y3 w4 G4.out.2.2.1)
      unfold pk at HX
      go_wp2_with fail
      refine HX.out.mono ?_
      rintro e w5 ⟨⟨v5, rfl⟩, hf, hk⟩
      clear HX
      clear k0 k1 k2 k3 k4 k6 k7
      have G5 : Hid (Fr Y w w5 ∧ YNew Y Y3 w ∧ WkE P es env (.error x) Y3 w5 ∧ PtM w5 Y3 w.heap.size p TA tc UA uc ∧ TyV w5 Y3 A4 c4 (baseN 1)) := Lib.hid ⟨Fr.new G4.out.1 hf G4.out.2.1, YNew.trans G4.out.2.1 (YNew.refl _ _) G4.out.1.size, hk, G4.out.2.2.2.1.fr hf (YNew.refl _ _), G4.out.2.2.2.2.fr hf (YNew.refl _ _)⟩
      clear G4
      obtain ⟨k0, k1, k2, k3, k4, k6, k7⟩ := G5.out.2.2.2.1.cells
      clear hf hk
      have HX := Lib.hid (base_any 1 w5)
      go_wp2_with fail
      refine HX.out.mono ?_
      rintro e w6 ⟨A6, c6, rfl, hown, hb⟩
      clear HX
      clear k0 k1 k2 k3 k4 k6 k7
      have G6 : Hid (Fr Y w w6 ∧ YNew Y Y3 w ∧ WkE P es env (.error x) Y3 w6 ∧ PtM w6 Y3 w.heap.size p TA tc UA uc ∧ TyV w6 Y3 A4 c4 (baseN 1) ∧ TyV w6 Y3 A6 c6 (baseN 1)) := Lib.hid ⟨Fr.new G5.out.1 (Fr.below hb) G5.out.2.1, YNew.trans G5.out.2.1 (YNew.refl _ _) G5.out.1.size, (G5.out.2.2.1.later hb), G5.out.2.2.2.1.fr (Fr.below hb) (YNew.refl _ _), G5.out.2.2.2.2.fr (Fr.below hb) (YNew.refl _ _), (TyV.own hown (G5.out.2.2.1.lt))⟩
      clear G5
      obtain ⟨k0, k1, k2, k3, k4, k6, k7⟩ := G6.out.2.2.2.1.cells
      clear hown hb
      have HX := Lib.hid (agree_bad P es env x (.slice none 0 0) (.slice A6 1 c6) at0 Y3 w6 G6.out.2.2.1)
      unfold pk at HX
      go_wp2_with fail
      refine HX.out.mono ?_
      rintro e w7 ⟨⟨v7, rfl⟩, hf, hk⟩
      clear HX
      clear k0 k1 k2 k3 k4 k6 k7
      have G7 : Hid (Fr Y w w7 ∧ YNew Y Y3 w ∧ WkE P es env (.error x) Y3 w7 ∧ PtM w7 Y3 w.heap.size p TA tc UA uc ∧ TyV w7 Y3 A4 c4 (baseN 1) ∧ TyV w7 Y3 A6 c6 (baseN 1)) := Lib.hid ⟨Fr.new G6.out.1 hf G6.out.2.1, YNew.trans G6.out.2.1 (YNew.refl _ _) G6.out.1.size, hk, G6.out.2.2.2.1.fr hf (YNew.refl _ _), G6.out.2.2.2.2.1.fr hf (YNew.refl _ _), G6.out.2.2.2.2.2.fr hf (YNew.refl _ _)⟩
      clear G6
      obtain ⟨k0, k1, k2, k3, k4, k6, k7⟩ := G7.out.2.2.2.1.cells
      clear hf hk
      have HX := Lib.hid (base_any 1 w7)
      go_wp2_with fail
      refine HX.out.mono ?_
      rintro e w8 ⟨A8, c8, rfl, hown, hb⟩
      clear HX
      clear k0 k1 k2 k3 k4 k6 k7
      have G8 : Hid (Fr Y w w8 ∧ YNew Y Y3 w ∧ WkE P es env (.error x) Y3 w8 ∧ PtM w8 Y3 w.heap.size p TA tc UA uc ∧ TyV w8 Y3 A4 c4 (baseN 1) ∧ TyV w8 Y3 A6 c6 (baseN 1) ∧ TyV w8 Y3 A8 c8 (baseN 1)) := Lib.hid ⟨Fr.new G7.out.1 (Fr.below hb) G7.out.2.1, YNew.trans G7.out.2.1 (YNew.refl _ _) G7.out.1.size, (G7.out.2.2.1.later hb), G7.out.2.2.2.1.fr (Fr.below hb) (YNew.refl _ _), G7.out.2.2.2.2.1.fr (Fr.below hb) (YNew.refl _ _), G7.out.2.2.2.2.2.fr (Fr.below hb) (YNew.refl _ _), (TyV.own hown (G7.out.2.2.1.lt))⟩
      clear G7
      obtain ⟨k0, k1, k2, k3, k4, k6, k7⟩ := G8.out.2.2.2.1.cells
      clear hown hb
      have HQ : Hid (WyPost P es env Y r w (.returned (.slice A8 1 c8)) w8) := Lib.hid (by
        subst hr
        exact ⟨Y3, G8.out.1, G8.out.2.1, G8.out.2.2.1, _, _, _, rfl⟩)
      go_wp2_with fail
      go_ret
      exact HQ.out
    · have HX := Lib.hid (HN.out env (.ok a) _ Y w1 h1 G1.out.2.2.1)
      unfold pk at HX
      go_wp2_with fail
      refine HX.out.mono ?_
      rintro e w2 ⟨Y2, hf, hy, hk, A2, c2, rfl, ht⟩
      clear HX
      clear k0 k1 k2 k3 k4 k6 k7
      have G2 : Hid (Fr Y w w2 ∧ YNew Y Y2 w ∧ WkE P es env (.ok b1) Y2 w2 ∧ PtM w2 Y2 w.heap.size p TA tc UA uc ∧ TyV w2 Y2 A2 c2 t1) := Lib.hid ⟨Fr.new G1.out.1 hf G1.out.2.1, YNew.trans G1.out.2.1 hy G1.out.1.size, hk, G1.out.2.2.2.fr hf hy, ht⟩
      clear G1
      obtain ⟨k0, k1, k2, k3, k4, k6, k7⟩ := G2.out.2.2.2.1.cells
      clear hf hy hk ht
      rcases andA_some hr with ⟨x, h2, hr⟩ | ⟨t2, b2, h2, hr⟩
      · have HX := Lib.hid (HN.out env (.ok b1) (.error x) Y2 w2 h2 G2.out.2.2.1)
        unfold pk at HX
        go_wp2_with fail
        refine HX.out.mono ?_
        rintro e w3 ⟨Y3, hf, hy, hk, rfl⟩
        clear HX
        clear k0 k1 k2 k3 k4 k6 k7
        have G3 : Hid (Fr Y w w3 ∧ YNew Y Y3 w ∧ WkE P es env (.error x) Y3 w3 ∧ PtM w3 Y3 w.heap.size p TA tc UA uc ∧ TyV w3 Y3 A2 c2 t1) := Lib.hid ⟨Fr.new G2.out.1 hf G2.out.2.1, YNew.trans G2.out.2.1 hy G2.out.1.size, hk, G2.out.2.2.2.1.fr hf hy, G2.out.2.2.2.2.fr hf hy⟩
        clear G2
        obtain ⟨k0, k1, k2, k3, k4, k6, k7⟩ := G3.out.2.2.2.1.cells
        clear hf hy hk
        have HX := Lib.hid (base_any 1 w3)
        go_wp2_with fail
        refine HX.out.mono ?_
        rintro e w4 ⟨A4, c4, rfl, hown, hb⟩
        clear HX
        clear k0 k1 k2 k3 k4 k6 k7
        have G4 : Hid (Fr Y w w4 ∧ YNew Y Y3 w ∧ WkE P es env (.error x) Y3 w4 ∧ PtM w4 Y3 w.heap.size p TA tc UA uc ∧ TyV w4 Y3 A2 c2 t1 ∧ TyV w4 Y3 A4 c4 (baseN 1)) := Lib.hid ⟨Fr.new G3.out.1 (Fr.below hb) G3.out.2.1, YNew.trans G3.out.2.1 (YNew.refl _ _) G3.out.1.size, (G3.out.2.2.1.later hb), G3.out.2.2.2.1.fr (Fr.below hb) (YNew.refl _ _), G3.out.2.2.2.2.fr (Fr.below hb) (YNew.refl _ _), (TyV.own hown (G3.out.2.2.1.lt))⟩
        clear G3
        obtain ⟨k0, k1, k2, k3, k4, k6, k7⟩ := G4.out.2.2.2.1.cells
        clear hown hb
        have HX := Lib.hid (agree_bad P es env x (.slice A2 t1.length c2) (.slice A4 1 c4) at0 Y3 w4 G4.out.2.2.1)
        unfold pk at HX
        go_wp2_with fail
        refine HX.out.mono ?_
        rintro e w5 ⟨⟨v5, rfl⟩, hf, hk⟩
        clear HX
        clear k0 k1 k2 k3 k4 k6 k7
        have G5 : Hid (Fr Y w w5 ∧ YNew Y Y3 w ∧ WkE P es env (.error x) Y3 w5 ∧ PtM w5 Y3 w.heap.size p TA tc UA uc ∧ TyV w5 Y3 A2 c2 t1 ∧ TyV w5 Y3 A4 c4 (baseN 1)) := Lib.hid ⟨Fr.new G4.out.1 hf G4.out.2.1, YNew.trans G4.out.2.1 (YNew.refl _ _) G4.out.1.size, hk, G4.out.2.2.2.1.fr hf (YNew.refl _ _), G4.out.2.2.2.2.1.fr hf (YNew.refl _ _), G4.out.2.2.2.2.2.fr hf (YNew.refl _ _)⟩
        clear G4
        obtain ⟨k0, k1, k2, k3, k4, k6, k7⟩ := G5.out.2.2.2.1.cells
        clear hf hk
        have HX := Lib.hid (base_any 1 w5)
        go_wp2_with fail
        refine HX.out.mono ?_
        rintro e w6 ⟨A6, c6, rfl, hown, hb⟩
        clear HX
        clear k0 k1 k2 k3 k4 k6 k7
        have G6 : Hid (Fr Y w w6 ∧ YNew Y Y3 w ∧ WkE P es env (.error x) Y3 w6 ∧ PtM w6 Y3 w.heap.size p TA tc UA uc ∧ TyV w6 Y3 A2 c2 t1 ∧ TyV w6 Y3 A4 c4 (baseN 1) ∧ TyV w6 Y3 A6 c6 (baseN 1)) := Lib.hid ⟨Fr.new G5.out.1 (Fr.below hb) G5.out.2.1, YNew.trans G5.out.2.1 (YNew.refl _ _) G5.out.1.size, (G5.out.2.2.1.later hb), G5.out.2.2.2.1.fr (Fr.below hb) (YNew.refl _ _), G5.out.2.2.2.2.1.fr (Fr.below hb) (YNew.refl _ _), G5.out.2.2.2.2.2.fr (Fr.below hb) (YNew.refl _ _), (TyV.own hown (G5.out.2.2.1.lt))⟩
        clear G5
        obtain ⟨k0, k1, k2, k3, k4, k6, k7⟩ := G6.out.2.2.2.1.cells
        clear hown hb
        have HX := Lib.hid (agree_bad P es env x (.slice none 0 0) (.slice A6 1 c6) at0 Y3 w6 G6.out.2.2.1)
        unfold pk at HX
        go_wp2_with fail
        refine HX.out.mono ?_
        rintro e w7 ⟨⟨v7, rfl⟩, hf, hk⟩
        clear HX
        clear k0 k1 k2 k3 k4 k6 k7
        have G7 : Hid (Fr Y w w7 ∧ YNew Y Y3 w ∧ WkE P es env (.error x) Y3 w7 ∧ PtM w7 Y3 w.heap.size p TA tc UA uc ∧ TyV w7 Y3 A2 c2 t1 ∧ TyV w7 Y3 A4 c4 (baseN 1) ∧ TyV w7 Y3 A6 c6 (baseN 1)) := Lib.hid ⟨Fr.new G6.out.1 hf G6.out.2.1, YNew.trans G6.out.2.1 (YNew.refl _ _) G6.out.1.size, hk, G6.out.2.2.2.1.fr hf (YNew.refl _ _), G6.out.2.2.2.2.1.fr hf (YNew.refl _ _), G6.out.2.2.2.2.2.1.fr hf (YNew.refl _ _), G6.out.2.2.2.2.2.2.fr hf (YNew.refl _ _)⟩
        clear G6
        obtain ⟨k0, k1, k2, k3, k4, k6, k7⟩ := G7.out.2.2.2.1.cells
        clear hf hk
        have HX := Lib.hid (base_any 1 w7)
        go_wp2_with fail
        refine HX.out.mono ?_
        rintro e w8 ⟨A8, c8, rfl, hown, hb⟩
        clear HX
        clear k0 k1 k2 k3 k4 k6 k7
        have G8 : Hid (Fr Y w w8 ∧ YNew Y Y3 w ∧ WkE P es env (.error x) Y3 w8 ∧ PtM w8 Y3 w.heap.size p TA tc UA uc ∧ TyV w8 Y3 A2 c2 t1 ∧ TyV w8 Y3 A4 c4 (baseN 1) ∧ TyV w8 Y3 A6 c6 (baseN 1) ∧ TyV w8 Y3 A8 c8 (baseN 1)) := Lib.hid ⟨Fr.new G7.out.1 (Fr.below hb) G7.out.2.1, YNew.trans G7.out.2.1 (YNew.refl _ _) G7.out.1.size, (G7.out.2.2.1.later hb), G7.out.2.2.2.1.fr (Fr.below hb) (YNew.refl _ _), G7.out.2.2.2.2.1.fr (Fr.below hb) (YNew.refl _ _), G7.out.2.2.2.2.2.1.fr (Fr.below hb) (YNew.refl _ _), G7.out.2.2.2.2.2.2.fr (Fr.below hb) (YNew.refl _ _), (TyV.own hown (G7.out.2.2.1.lt))⟩
        clear G7
        obtain ⟨k0, k1, k2, k3, k4, k6, k7⟩ := G8.out.2.2.2.1.cells
        clear hown hb
        have HQ : Hid (WyPost P es env Y r w (.returned (.slice A8 1 c8)) w8) := Lib.hid (by
          subst hr
          exact ⟨Y3, G8.out.1, G8.out.2.1, G8.out.2.2.1, _, _, _, rfl⟩)
        go_wp2_with fail
        go_ret
        exact HQ.out
      · have HX := Lib.hid (HN.out env (.ok b1) _ Y2 w2 h2 G2.out.2.2.1)
        unfold pk at HX
        go_wp2_with fail
        refine HX.out.mono ?_
        rintro e w3 ⟨Y3, hf, hy, hk, A3, c3, rfl, ht⟩
        clear HX
        clear k0 k1 k2 k3 k4 k6 k7
        have G3 : Hid (Fr Y w w3 ∧ YNew Y Y3 w ∧ WkE P es env (.ok b2) Y3 w3 ∧ PtM w3 Y3 w.heap.size p TA tc UA uc ∧ TyV w3 Y3 A2 c2 t1 ∧ TyV w3 Y3 A3 c3 t2) := Lib.hid ⟨Fr.new G2.out.1 hf G2.out.2.1, YNew.trans G2.out.2.1 hy G2.out.1.size, hk, G2.out.2.2.2.1.fr hf hy, G2.out.2.2.2.2.fr hf hy, ht⟩
        clear G2
        obtain ⟨k0, k1, k2, k3, k4, k6, k7⟩ := G3.out.2.2.2.1.cells
        clear hf hy hk ht
        rw [HI.out.1, HI.out.2] at hr
        have HRR := Lib.hid hr
        clear hr
        have HX := Lib.hid (base_any 1 w3)
        go_wp2_with fail
        refine HX.out.mono ?_
        rintro e w4 ⟨A4, c4, rfl, hown, hb⟩
        clear HX
        clear k0 k1 k2 k3 k4 k6 k7
        have G4 : Hid (Fr Y w w4 ∧ YNew Y Y3 w ∧ WkE P es env (.ok b2) Y3 w4 ∧ PtM w4 Y3 w.heap.size p TA tc UA uc ∧ TyV w4 Y3 A2 c2 t1 ∧ TyV w4 Y3 A3 c3 t2 ∧ TyV w4 Y3 A4 c4 (baseN 1)) := Lib.hid ⟨Fr.new G3.out.1 (Fr.below hb) G3.out.2.1, YNew.trans G3.out.2.1 (YNew.refl _ _) G3.out.1.size, (G3.out.2.2.1.later hb), G3.out.2.2.2.1.fr (Fr.below hb) (YNew.refl _ _), G3.out.2.2.2.2.1.fr (Fr.below hb) (YNew.refl _ _), G3.out.2.2.2.2.2.fr (Fr.below hb) (YNew.refl _ _), (TyV.own hown (G3.out.2.2.1.lt))⟩
        clear G3
        obtain ⟨k0, k1, k2, k3, k4, k6, k7⟩ := G4.out.2.2.2.1.cells
        clear hown hb
        have HX := Lib.hid (agree_ok P es env b2 A2 A4 c2 c4 t1 (baseN 1) at0 Y3 w4 G4.out.2.2.1 G4.out.2.2.2.2.1.ty G4.out.2.2.2.2.2.2.ty (HD.out _ _ _ _ h1) (gd_base 1 (by decide)))
        unfold pk at HX
        go_wp2_with fail
        refine HX.out.mono ?_
        rintro e w5 ⟨⟨v5, rfl⟩, hf, hk⟩
        clear HX
        clear k0 k1 k2 k3 k4 k6 k7
        have G5 : Hid (Fr Y w w5 ∧ YNew Y Y3 w ∧ WkE P es env (agS t1 (baseN 1) at0 b2) Y3 w5 ∧ PtM w5 Y3 w.heap.size p TA tc UA uc ∧ TyV w5 Y3 A2 c2 t1 ∧ TyV w5 Y3 A3 c3 t2 ∧ TyV w5 Y3 A4 c4 (baseN 1)) := Lib.hid ⟨Fr.new G4.out.1 hf G4.out.2.1, YNew.trans G4.out.2.1 (YNew.refl _ _) G4.out.1.size, hk, G4.out.2.2.2.1.fr hf (YNew.refl _ _), G4.out.2.2.2.2.1.fr hf (YNew.refl _ _), G4.out.2.2.2.2.2.1.fr hf (YNew.refl _ _), G4.out.2.2.2.2.2.2.fr hf (YNew.refl _ _)⟩
        clear G4
        obtain ⟨k0, k1, k2, k3, k4, k6, k7⟩ := G5.out.2.2.2.1.cells
        clear hf hk
        cases hag : agB t1 (baseN 1) with
        | true =>
          have hk2 : WkE P es env (.ok b2) Y3 w5 := by have hk := G5.out.2.2.1; unfold agS at hk; rw [hag, if_pos rfl] at hk; exact hk
          have HX := Lib.hid (base_any 1 w5)
          go_wp2_with fail
          refine HX.out.mono ?_
          rintro e w6 ⟨A6, c6, rfl, hown, hb⟩
          clear HX
          clear k0 k1 k2 k3 k4 k6 k7
          have G6 : Hid (Fr Y w w6 ∧ YNew Y Y3 w ∧ WkE P es env (.ok b2) Y3 w6 ∧ PtM w6 Y3 w.heap.size p TA tc UA uc ∧ TyV w6 Y3 A2 c2 t1 ∧ TyV w6 Y3 A3 c3 t2 ∧ TyV w6 Y3 A4 c4 (baseN 1) ∧ TyV w6 Y3 A6 c6 (baseN 1)) := Lib.hid ⟨Fr.new G5.out.1 (Fr.below hb) G5.out.2.1, YNew.trans G5.out.2.1 (YNew.refl _ _) G5.out.1.size, (hk2.later hb), G5.out.2.2.2.1.fr (Fr.below hb) (YNew.refl _ _), G5.out.2.2.2.2.1.fr (Fr.below hb) (YNew.refl _ _), G5.out.2.2.2.2.2.1.fr (Fr.below hb) (YNew.refl _ _), G5.out.2.2.2.2.2.2.fr (Fr.below hb) (YNew.refl _ _), (TyV.own hown (hk2.lt))⟩
          clear G5
          obtain ⟨k0, k1, k2, k3, k4, k6, k7⟩ := G6.out.2.2.2.1.cells
          clear hown hb hk2
          have HX := Lib.hid (agree_ok P es env b2 A3 A6 c3 c6 t2 (baseN 1) at0 Y3 w6 G6.out.2.2.1 G6.out.2.2.2.2.2.1.ty G6.out.2.2.2.2.2.2.2.ty (HD.out _ _ _ _ h2) (gd_base 1 (by decide)))
          unfold pk at HX
          go_wp2_with fail
          refine HX.out.mono ?_
          rintro e w7 ⟨⟨v7, rfl⟩, hf, hk⟩
          clear HX
          clear k0 k1 k2 k3 k4 k6 k7
          have G7 : Hid (Fr Y w w7 ∧ YNew Y Y3 w ∧ WkE P es env (agS t2 (baseN 1) at0 b2) Y3 w7 ∧ PtM w7 Y3 w.heap.size p TA tc UA uc ∧ TyV w7 Y3 A2 c2 t1 ∧ TyV w7 Y3 A3 c3 t2 ∧ TyV w7 Y3 A4 c4 (baseN 1) ∧ TyV w7 Y3 A6 c6 (baseN 1)) := Lib.hid ⟨Fr.new G6.out.1 hf G6.out.2.1, YNew.trans G6.out.2.1 (YNew.refl _ _) G6.out.1.size, hk, G6.out.2.2.2.1.fr hf (YNew.refl _ _), G6.out.2.2.2.2.1.fr hf (YNew.refl _ _), G6.out.2.2.2.2.2.1.fr hf (YNew.refl _ _), G6.out.2.2.2.2.2.2.1.fr hf (YNew.refl _ _), G6.out.2.2.2.2.2.2.2.fr hf (YNew.refl _ _)⟩
          clear G6
          obtain ⟨k0, k1, k2, k3, k4, k6, k7⟩ := G7.out.2.2.2.1.cells
          clear hf hk
          have HX := Lib.hid (base_any 1 w7)
          go_wp2_with fail
          refine HX.out.mono ?_
          rintro e w8 ⟨A8, c8, rfl, hown, hb⟩
          clear HX
          clear k0 k1 k2 k3 k4 k6 k7
          have G8 : Hid (Fr Y w w8 ∧ YNew Y Y3 w ∧ WkE P es env (agS t2 (baseN 1) at0 b2) Y3 w8 ∧ PtM w8 Y3 w.heap.size p TA tc UA uc ∧ TyV w8 Y3 A2 c2 t1 ∧ TyV w8 Y3 A3 c3 t2 ∧ TyV w8 Y3 A4 c4 (baseN 1) ∧ TyV w8 Y3 A6 c6 (baseN 1) ∧ TyV w8 Y3 A8 c8 (baseN 1)) := Lib.hid ⟨Fr.new G7.out.1 (Fr.below hb) G7.out.2.1, YNew.trans G7.out.2.1 (YNew.refl _ _) G7.out.1.size, (G7.out.2.2.1.later hb), G7.out.2.2.2.1.fr (Fr.below hb) (YNew.refl _ _), G7.out.2.2.2.2.1.fr (Fr.below hb) (YNew.refl _ _), G7.out.2.2.2.2.2.1.fr (Fr.below hb) (YNew.refl _ _), G7.out.2.2.2.2.2.2.1.fr (Fr.below hb) (YNew.refl _ _), G7.out.2.2.2.2.2.2.2.fr (Fr.below hb) (YNew.refl _ _), (TyV.own hown (G7.out.2.2.1.lt))⟩
          clear G7
          obtain ⟨k0, k1, k2, k3, k4, k6, k7⟩ := G8.out.2.2.2.1.cells
          clear hown hb
          cases hag2 : agB t2 (baseN 1) with
          | true =>
            have HQ : Hid (WyPost P es env Y r w (.returned (.slice A8 1 c8)) w8) := Lib.hid (by
              have hk := G8.out.2.2.1
              have hr := HRR.out
              rw [if_pos ⟨hag, hag2⟩] at hr
              unfold agS at hk
              rw [if_pos hag2] at hk
              injection hr with hr
              subst hr
              exact ⟨Y3, G8.out.1, G8.out.2.1, hk, A8, c8, rfl, G8.out.2.2.2.2.2.2.2.2⟩)
            go_wp2_with fail
            go_ret
            exact HQ.out
          | false =>
            have HQ : Hid (WyPost P es env Y r w (.returned (.slice A8 1 c8)) w8) := Lib.hid (by
              have hk := G8.out.2.2.1
              have hr := HRR.out
              rw [if_neg (by rw [hag2]; simp)] at hr
              unfold agS at hk
              rw [if_neg (by rw [hag2]; simp)] at hk
              injection hr with hr
              subst hr
              exact ⟨Y3, G8.out.1, G8.out.2.1, hk, _, _, _, rfl⟩)
            go_wp2_with fail
            go_ret
            exact HQ.out
        | false =>
          have hk2 : WkE P es env (.error (at0, 9)) Y3 w5 := by have hk := G5.out.2.2.1; unfold agS at hk; rw [hag, if_neg (by simp)] at hk; exact hk
          have HX := Lib.hid (base_any 1 w5)
          go_wp2_with fail
          refine HX.out.mono ?_
          rintro e w6 ⟨A6, c6, rfl, hown, hb⟩
          clear HX
          clear k0 k1 k2 k3 k4 k6 k7
          have G6 : Hid (Fr Y w w6 ∧ YNew Y Y3 w ∧ WkE P es env (.error (at0, 9)) Y3 w6 ∧ PtM w6 Y3 w.heap.size p TA tc UA uc ∧ TyV w6 Y3 A2 c2 t1 ∧ TyV w6 Y3 A3 c3 t2 ∧ TyV w6 Y3 A4 c4 (baseN 1)) := Lib.hid ⟨Fr.new G5.out.1 (Fr.below hb) G5.out.2.1, YNew.trans G5.out.2.1 (YNew.refl _ _) G5.out.1.size, (hk2.later hb), G5.out.2.2.2.1.fr (Fr.below hb) (YNew.refl _ _), G5.out.2.2.2.2.1.fr (Fr.below hb) (YNew.refl _ _), G5.out.2.2.2.2.2.1.fr (Fr.below hb) (YNew.refl _ _), G5.out.2.2.2.2.2.2.fr (Fr.below hb) (YNew.refl _ _)⟩
          clear G5
          obtain ⟨k0, k1, k2, k3, k4, k6, k7⟩ := G6.out.2.2.2.1.cells
          clear hown hb hk2
          have HX := Lib.hid (agree_bad P es env (at0, 9) (.slice A3 t2.length c3) (.slice A6 1 c6) at0 Y3 w6 G6.out.2.2.1)
          unfold pk at HX
          go_wp2_with fail
          refine HX.out.mono ?_
          rintro e w7 ⟨⟨v7, rfl⟩, hf, hk⟩
          clear HX
          clear k0 k1 k2 k3 k4 k6 k7
          have G7 : Hid (Fr Y w w7 ∧ YNew Y Y3 w ∧ WkE P es env (.error (at0, 9)) Y3 w7 ∧ PtM w7 Y3 w.heap.size p TA tc UA uc ∧ TyV w7 Y3 A2 c2 t1 ∧ TyV w7 Y3 A3 c3 t2 ∧ TyV w7 Y3 A4 c4 (baseN 1)) := Lib.hid ⟨Fr.new G6.out.1 hf G6.out.2.1, YNew.trans G6.out.2.1 (YNew.refl _ _) G6.out.1.size, hk, G6.out.2.2.2.1.fr hf (YNew.refl _ _), G6.out.2.2.2.2.1.fr hf (YNew.refl _ _), G6.out.2.2.2.2.2.1.fr hf (YNew.refl _ _), G6.out.2.2.2.2.2.2.fr hf (YNew.refl _ _)⟩
          clear G6
          obtain ⟨k0, k1, k2, k3, k4, k6, k7⟩ := G7.out.2.2.2.1.cells
          clear hf hk
          have HX := Lib.hid (base_any 1 w7)
          go_wp2_with fail
          refine HX.out.mono ?_
          rintro e w8 ⟨A8, c8, rfl, hown, hb⟩
          clear HX
          clear k0 k1 k2 k3 k4 k6 k7
          have G8 : Hid (Fr Y w w8 ∧ YNew Y Y3 w ∧ WkE P es env (.error (at0, 9)) Y3 w8 ∧ PtM w8 Y3 w.heap.size p TA tc UA uc ∧ TyV w8 Y3 A2 c2 t1 ∧ TyV w8 Y3 A3 c3 t2 ∧ TyV w8 Y3 A4 c4 (baseN 1) ∧ TyV w8 Y3 A8 c8 (baseN 1)) := Lib.hid ⟨Fr.new G7.out.1 (Fr.below hb) G7.out.2.1, YNew.trans G7.out.2.1 (YNew.refl _ _) G7.out.1.size, (G7.out.2.2.1.later hb), G7.out.2.2.2.1.fr (Fr.below hb) (YNew.refl _ _), G7.out.2.2.2.2.1.fr (Fr.below hb) (YNew.refl _ _), G7.out.2.2.2.2.2.1.fr (Fr.below hb) (YNew.refl _ _), G7.out.2.2.2.2.2.2.fr (Fr.below hb) (YNew.refl _ _), (TyV.own hown (G7.out.2.2.1.lt))⟩
          clear G7
          obtain ⟨k0, k1, k2, k3, k4, k6, k7⟩ := G8.out.2.2.2.1.cells
          clear hown hb
          have HQ : Hid (WyPost P es env Y r w (.returned (.slice A8 1 c8)) w8) := Lib.hid (by
            have hr := HRR.out
            rw [if_neg (by rw [hag]; simp)] at hr
            injection hr with hr
            subst hr
            exact ⟨Y3, G8.out.1, G8.out.2.1, G8.out.2.2.1, _, _, _, rfl⟩)
          go_wp2_with fail
          go_ret
          exact HQ.out
end Go.Proofs.YtmjdhfbnmmdjiaaGreat
