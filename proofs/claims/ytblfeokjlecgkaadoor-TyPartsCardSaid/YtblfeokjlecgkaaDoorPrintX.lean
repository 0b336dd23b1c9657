/- The program's printer: arrows, rows, any node. -/
import Derived.Test.YtblfeokjlecgkaaDoorPrintW
namespace Go.Proofs.YtblfeokjlecgkaaDoor
open Go.RowKit

def PArrow (f : Nat) : Prop := ∀ (i j1 j B b c : Nat) (A : Option Addr) (T : List Nd) (l : List UInt8) (w : World), treeP T f i = some j1 → treeP T f j1 = some j → TyA w B A T → IsB B b l w → B ≤ w.heap.size → T.length ≤ 1000000 →
  (∀ x ∈ T, x.Ok) → l.length + ((if (headNd (T.drop i)).k = 5 then 40 :: (prS f (T.drop i) ++ [41]) else prS f (T.drop i)) ++ ([32, 45, 62, 32] ++ prS f (T.drop j1))).length ≤ 140737488355328 → Tab w B →
  Calls Tryd.prog 66 #[.pointer (some ⟨b, 0, none⟩), .slice A T.length c, .int .i64 (i : Int)] w
    (PrPost B b l j ((if (headNd (T.drop i)).k = 5 then 40 :: (prS f (T.drop i) ++ [41]) else prS f (T.drop i)) ++ ([32, 45, 62, 32] ++ prS f (T.drop j1))) w)

set_option maxRecDepth 100000 in
set_option maxHeartbeats 4000000 in
theorem arrow_of (f : Nat) (hN : PNode f) : PArrow f := by
  have HN := Lib.hid hN
  clear hN
  intro i j1 j B b c A T l w h1 h2 ha hb hBw hl hok hlen ht
  obtain ⟨x, hx⟩ := treeP_get h1
  rw [headNd_drop hx] at hlen ⊢
  obtain ⟨b1, o1, rfl, hb1, c10, c11, c12⟩ := ha.at_ hx
  have hi := getq_lt hx
  have Hx := Lib.hid hx
  have H1 := Lib.hid h1
  have H2 := Lib.hid h2
  clear hx h1 h2
  cases h5 : (x.k == 5)
  · have h5' : ¬ x.k = 5 := by simpa using h5
    rw [if_neg h5'] at hlen ⊢
    have Hok := Lib.hid hok
    simp only [List.length_append, List.length_cons, List.length_nil] at hlen
    clear h5' hok
    go_enter Tryd.func66, Tryd.ntmps66
    go_wp2_with fail
    refine (HN.out i j1 B b c _ T l w H1.out ha hb hBw hl Hok.out (by omega) ht).mono ?_
    rintro e w1 ⟨rfl, hb1', hbel1⟩
    have z1 := hbel1.size
    go_wp2_with fail
    refine (writeString_any B b _ _ w1 hb1' (by simp [ByteArray.size_mk']; omega) (by omega)).mono ?_
    rintro e w2 ⟨rfl, hb2, hbel2⟩
    have z2 := hbel2.size
    have hbel12 := hbel1.trans hbel2
    go_wp2_with fail
    refine (HN.out j1 j B b c _ T _ w2 H2.out (ha.below hbel12) hb2 (by omega) hl Hok.out (by simp; omega) (ht.below hbel12)).mono ?_
    rintro e w3 ⟨rfl, hb3, hbel3⟩
    go_wp2_with fail
    go_ret
    refine ⟨rfl, ?_, hbel12.trans hbel3⟩
    simpa [List.append_assoc] using hb3
  · have h5' : x.k = 5 := by simpa using h5
    rw [if_pos h5'] at hlen ⊢
    have Hok := Lib.hid hok
    simp only [List.length_append, List.length_cons, List.length_nil] at hlen
    clear h5' hok
    go_enter Tryd.func66, Tryd.ntmps66
    go_wp2_with fail
    refine (writeString_any B b _ _ w hb (by simp [ByteArray.size_mk']; omega) (by omega)).mono ?_
    rintro e w0 ⟨rfl, hb0, hbel0⟩
    have z0 := hbel0.size
    go_wp2_with fail
    refine (HN.out i j1 B b c _ T _ w0 H1.out (ha.below hbel0) hb0 (by omega) hl Hok.out (by simp; omega) (ht.below hbel0)).mono ?_
    rintro e w1 ⟨rfl, hb1', hbel1⟩
    have z1 := hbel1.size
    have hbel01 := hbel0.trans hbel1
    go_wp2_with fail
    refine (writeString_any B b _ _ w1 hb1' (by simp [ByteArray.size_mk']; omega) (by omega)).mono ?_
    rintro e w2 ⟨rfl, hb2, hbel2⟩
    have z2 := hbel2.size
    have hbel02 := hbel01.trans hbel2
    go_wp2_with fail
    refine (writeString_any B b _ _ w2 hb2 (by simp [ByteArray.size_mk']; omega) (by omega)).mono ?_
    rintro e w3 ⟨rfl, hb3, hbel3⟩
    have z3 := hbel3.size
    have hbel03 := hbel02.trans hbel3
    go_wp2_with fail
    refine (HN.out j1 j B b c _ T _ w3 H2.out (ha.below hbel03) hb3 (by omega) hl Hok.out (by simp; omega) (ht.below hbel03)).mono ?_
    rintro e w4 ⟨rfl, hb4, hbel4⟩
    go_wp2_with fail
    go_ret
    refine ⟨rfl, ?_, hbel03.trans hbel4⟩
    simpa [List.append_assoc] using hb4

def PRow (f : Nat) : Prop := ∀ (i j m B b c : Nat) (x : Nd) (A : Option Addr) (T : List Nd) (l : List UInt8) (o sep cl : ByteArray) (w : World), T[i]? = some x → x.n = (m : Int) → kidsP (treeP T f) T x m 0 ByteArray.empty (i + 1) = some j → TyA w B A T → IsB B b l w → B ≤ w.heap.size → T.length ≤ 1000000 → m ≤ 50 →
  (∀ x ∈ T, x.Ok) → l.length + (o.data.toList ++ (prKids (prS f) sep.data.toList m [] (T.drop (i + 1)) ++ cl.data.toList)).length ≤ 140737488355328 → Tab w B →
  Calls Tryd.prog 67 #[.pointer (some ⟨b, 0, none⟩), .slice A T.length c, .int .i64 (i : Int), .string o, .string sep, .string cl] w
    (PrPost B b l j (o.data.toList ++ (prKids (prS f) sep.data.toList m [] (T.drop (i + 1)) ++ cl.data.toList)) w)

set_option maxRecDepth 100000 in
set_option maxHeartbeats 4000000 in
theorem row_of (f : Nat) (hN : PNode f) : PRow f := by
  have HN := Lib.hid hN
  clear hN
  intro i j m B b c x A T l o sep cl w hx hxm hkids ha hb hBw hl hm50 hok hlen ht
  obtain ⟨b1, o1, rfl, hb1, c10, c11, c12⟩ := ha.at_ hx
  rw [hxm] at c12
  have hi := getq_lt hx
  have Hx := Lib.hid hx
  have Hok := Lib.hid hok
  have Hk := Lib.hid hkids
  clear hx hok hkids hxm
  simp only [List.length_append, head_bytes] at hlen
  go_enter Tryd.func67, Tryd.ntmps67
  go_wp2_with fail
  refine (writeString_any B b _ _ w hb (by omega) (by omega)).mono ?_
  rintro e w0 ⟨rfl, hb0, hbel0⟩
  have z0 := hbel0.size
  obtain ⟨hc0, hf0⟩ := bcell hbel0
  go_wp2_with fail
  go_loopw [2, 28] (fun a2 k28 wr => ∃ (k at_ : Nat) (txt : List UInt8) (last : ByteArray), a2 = .int .i64 at_ ∧ k28 = .int .i64 k ∧ k ≤ m ∧ Hid (kidsP (treeP T f) T x (m - k) k last at_ = some j) ∧ IsB B b (l ++ o.data.toList ++ txt) wr ∧ Below B w wr ∧
      Hid (txt ++ prKids (prS f) sep.data.toList (m - k) (if k = 0 then [] else sep.data.toList) (T.drop at_) = prKids (prS f) sep.data.toList m [] (T.drop (i + 1))))
    (fun _ k28 _ => m - (intOf k28).toNat)
  case atStart => exact ⟨0, i + 1, [], ByteArray.empty, by go_num, rfl, Nat.zero_le _, Lib.hid Hk.out, by simpa using hb0, hbel0, Lib.hid rfl⟩
  case round =>
    clear hb0 hbel0 hc0 hf0 z0
    obtain ⟨k, at_, txt, last, rfl, rfl, hkm, hkp, hbr, hbel, htxt⟩ := hrel
    have zr := hbel.size
    by_cases hlt : k < m
    · obtain ⟨d, hd⟩ : ∃ d, m - k = d + 1 := ⟨m - k - 1, by omega⟩
      have hkp2 := hkp.out
      rw [hd] at hkp2
      obtain ⟨y, at', hy, htr, hkp3⟩ := kidsP_step hkp2
      have htot := htxt.out
      rw [hd] at htot
      simp only [prKids, headNd_drop hy, tree_rest1 htr] at htot
      have hlt2 := congrArg List.length htot
      simp only [List.length_append] at hlt2
      obtain ⟨_, _, hte, hb1y, c20, c21, c22⟩ := (ha.below hbel).at_ hy
      simp only [Option.some.injEq, Addr.mk.injEq, and_true] at hte
      obtain ⟨rfl, rfl⟩ := hte
      have hatl := getq_lt hy
      have Hd := Lib.hid hd
      have Hkp3 := Lib.hid hkp3
      have Htr := Lib.hid htr
      have Hy := Lib.hid hy
      have Htot := Lib.hid htot
      have Hlt2 := Lib.hid hlt2
      clear hd hkp2 hkp3 htr hy htot hlt2 htxt hkp
      by_cases h0 : k = 0
      · by_cases h9 : y.k = 9
        · have htot2 := Htot.out
          have hlt2 := Hlt2.out
          rw [if_pos h0] at htot2 hlt2
          rw [if_pos h9] at htot2 hlt2
          simp only [List.length_nil] at hlt2
          have Htot2 := Lib.hid htot2
          clear htot2 Htot Hlt2
          have h9b : (y.k != 9) = false := by simp [h9]
          clear h9
          obtain ⟨hcr, hfr⟩ := bcell hbel
          go_wp2_with fail
          refine (HN.out at_ at' B b c _ T _ wr Htr.out (ha.below hbel) hbr (by omega) hl Hok.out (by simp; omega) (ht.below hbel)).mono ?_
          rintro e wn ⟨rfl, hbn, hbeln⟩
          go_wp2_with fail
          go_roundw
          case rel =>
            refine ⟨k + 1, at', txt ++ (([] : List UInt8) ++ (([] : List UInt8) ++ prS f (T.drop at_))), y.s, by go_num, by go_num, by omega, Lib.hid (by have := Hd.out; have e : m - (k + 1) = d := (by omega); rw [e]; exact_mod_cast Hkp3.out), ?_, hbel.trans hbeln, Lib.hid ?_⟩
            · first | (simpa [List.append_assoc] using hbn) | (simpa [ByteArray.data_append, List.append_assoc] using hbn)
            · rw [← Htot2.out, if_neg (by omega), show m - (k + 1) = d by have := Hd.out; omega]
              simp only [List.append_assoc]
          case measure => simp [intOf]; omega
        · have htot2 := Htot.out
          have hlt2 := Hlt2.out
          rw [if_pos h0] at htot2 hlt2
          rw [if_neg h9] at htot2 hlt2
          simp only [List.length_append, List.length_cons, List.length_nil, head_bytes] at hlt2
          have Htot2 := Lib.hid htot2
          clear htot2 Htot Hlt2
          have h9b : (y.k != 9) = true := by simp [h9]
          clear h9
          obtain ⟨hcr, hfr⟩ := bcell hbel
          go_wp2_with fail
          go_region_with (go_at_call 68; refine (writeString_any B b _ _ _ (hbr.below (by repeat (first | exact Below.refl _ _ | refine Below.drew ?_))) (by simp [ByteArray.size_mk']; omega) (by simp; omega)).mono ?_; rintro e wb ⟨rfl, hbb, hbelb⟩)
          all_goals
            have zb := hbelb.size
            have hbelB := hbel.trans (((by repeat (first | exact Below.refl _ _ | refine Below.drew ?_)) : Below B wr _).trans hbelb)
            have zB := hbelB.size
            go_wp2_with fail
            refine (HN.out at_ at' B b c _ T _ wb Htr.out (ha.below hbelB) hbb (by omega) hl Hok.out (by simp; omega) (ht.below hbelB)).mono ?_
            rintro e wn ⟨rfl, hbn, hbeln⟩
            go_wp2_with fail
            go_roundw
            case rel =>
              refine ⟨k + 1, at', txt ++ (([] : List UInt8) ++ ((y.s.data.toList ++ [58, 32]) ++ prS f (T.drop at_))), y.s, by go_num, by go_num, by omega, Lib.hid (by have := Hd.out; have e : m - (k + 1) = d := (by omega); rw [e]; exact_mod_cast Hkp3.out), ?_, hbelB.trans hbeln, Lib.hid ?_⟩
              · first | (simpa [List.append_assoc] using hbn) | (simpa [ByteArray.data_append, List.append_assoc] using hbn)
              · rw [← Htot2.out, if_neg (by omega), show m - (k + 1) = d by have := Hd.out; omega]
                simp only [List.append_assoc]
            case measure => simp [intOf]; omega
      · by_cases h9 : y.k = 9
        · have htot2 := Htot.out
          have hlt2 := Hlt2.out
          rw [if_neg h0] at htot2 hlt2
          rw [if_pos h9] at htot2 hlt2
          simp only [List.length_nil, head_bytes] at hlt2
          have Htot2 := Lib.hid htot2
          clear htot2 Htot Hlt2
          have h0' : 0 < k := by omega
          clear h0
          have h9b : (y.k != 9) = false := by simp [h9]
          clear h9
          obtain ⟨hcr, hfr⟩ := bcell hbel
          go_wp2_with fail
          refine (writeString_any B b _ _ wr hbr (by simp; omega) (by omega)).mono ?_
          rintro e wa ⟨rfl, hba, hbela⟩
          have za := hbela.size
          have hbelA := hbel.trans hbela
          obtain ⟨hca, hfa⟩ := bcell hbela
          go_wp2_with fail
          refine (HN.out at_ at' B b c _ T _ wa Htr.out (ha.below hbelA) hba (by omega) hl Hok.out (by simp; omega) (ht.below hbelA)).mono ?_
          rintro e wn ⟨rfl, hbn, hbeln⟩
          go_wp2_with fail
          go_roundw
          case rel =>
            refine ⟨k + 1, at', txt ++ (sep.data.toList ++ (([] : List UInt8) ++ prS f (T.drop at_))), y.s, by go_num, by go_num, by omega, Lib.hid (by have := Hd.out; have e : m - (k + 1) = d := (by omega); rw [e]; exact_mod_cast Hkp3.out), ?_, hbelA.trans hbeln, Lib.hid ?_⟩
            · first | (simpa [List.append_assoc] using hbn) | (simpa [ByteArray.data_append, List.append_assoc] using hbn)
            · rw [← Htot2.out, if_neg (by omega), show m - (k + 1) = d by have := Hd.out; omega]
              simp only [List.append_assoc]
          case measure => simp [intOf]; omega
        · have htot2 := Htot.out
          have hlt2 := Hlt2.out
          rw [if_neg h0] at htot2 hlt2
          rw [if_neg h9] at htot2 hlt2
          simp only [List.length_append, List.length_cons, List.length_nil, head_bytes] at hlt2
          have Htot2 := Lib.hid htot2
          clear htot2 Htot Hlt2
          have h0' : 0 < k := by omega
          clear h0
          have h9b : (y.k != 9) = true := by simp [h9]
          clear h9
          obtain ⟨hcr, hfr⟩ := bcell hbel
          go_wp2_with fail
          refine (writeString_any B b _ _ wr hbr (by simp; omega) (by omega)).mono ?_
          rintro e wa ⟨rfl, hba, hbela⟩
          have za := hbela.size
          have hbelA := hbel.trans hbela
          obtain ⟨hca, hfa⟩ := bcell hbela
          go_wp2_with fail
          go_region_with (go_at_call 68; refine (writeString_any B b _ _ _ (hba.below (by repeat (first | exact Below.refl _ _ | refine Below.drew ?_))) (by simp [ByteArray.size_mk']; omega) (by simp; omega)).mono ?_; rintro e wb ⟨rfl, hbb, hbelb⟩)
          all_goals
            have zb := hbelb.size
            have hbelB := hbelA.trans (((by repeat (first | exact Below.refl _ _ | refine Below.drew ?_)) : Below B wa _).trans hbelb)
            have zB := hbelB.size
            go_wp2_with fail
            refine (HN.out at_ at' B b c _ T _ wb Htr.out (ha.below hbelB) hbb (by omega) hl Hok.out (by simp; omega) (ht.below hbelB)).mono ?_
            rintro e wn ⟨rfl, hbn, hbeln⟩
            go_wp2_with fail
            go_roundw
            case rel =>
              refine ⟨k + 1, at', txt ++ (sep.data.toList ++ ((y.s.data.toList ++ [58, 32]) ++ prS f (T.drop at_))), y.s, by go_num, by go_num, by omega, Lib.hid (by have := Hd.out; have e : m - (k + 1) = d := (by omega); rw [e]; exact_mod_cast Hkp3.out), ?_, hbelB.trans hbeln, Lib.hid ?_⟩
              · first | (simpa [List.append_assoc] using hbn) | (simpa [ByteArray.data_append, List.append_assoc] using hbn)
              · rw [← Htot2.out, if_neg (by omega), show m - (k + 1) = d by have := Hd.out; omega]
                simp only [List.append_assoc]
            case measure => simp [intOf]; omega
    · have hkm' : k = m := by omega
      subst hkm'
      have hj := hkp.out
      rw [Nat.sub_self] at hj
      simp only [kidsP, Option.some.injEq] at hj
      have ht2 := htxt.out
      rw [Nat.sub_self] at ht2
      simp only [prKids, List.append_nil] at ht2
      have Ht2 := Lib.hid ht2
      have Hj := Lib.hid hj
      have hlen2 := congrArg List.length ht2
      clear ht2 hj htxt hkp
      have Hlen2 := Lib.hid hlen2
      clear hlen2
      go_wp2_with fail
      refine (writeString_any B b _ _ wr hbr (by have := Hlen2.out; simp; omega) (by omega)).mono ?_
      rintro e w5 ⟨rfl, hb5, hbel5⟩
      go_wp2_with fail
      go_ret
      refine ⟨by rw [Hj.out]; rfl, ?_, hbel.trans hbel5⟩
      rw [← Ht2.out]
      have e : l ++ (o.data.toList ++ (txt ++ cl.data.toList)) = l ++ o.data.toList ++ txt ++ cl.data.toList := by simp [List.append_assoc]
      rw [e]
      exact hb5

set_option maxRecDepth 100000 in
set_option maxHeartbeats 4000000 in
theorem node_arrow (f : Nat) (hA : PArrow f) (i j1 j B b c : Nat) (A : Option Addr) (T : List Nd) (l : List UInt8) (w : World) (x : Nd) (hx : T[i]? = some x) (h5 : x.k = 5) (h1 : treeP T f (i + 1) = some j1) (h2 : treeP T f j1 = some j) (ha : TyA w B A T) (hb : IsB B b l w) (hBw : B ≤ w.heap.size) (hl : T.length ≤ 1000000)
    (hok : ∀ x ∈ T, x.Ok) (hlen : l.length + ((if (headNd (T.drop (i + 1))).k = 5 then 40 :: (prS f (T.drop (i + 1)) ++ [41]) else prS f (T.drop (i + 1))) ++ ([32, 45, 62, 32] ++ prS f (T.drop j1))).length ≤ 140737488355328) (ht : Tab w B) :
    Calls Tryd.prog 46 #[.pointer (some ⟨b, 0, none⟩), .slice A T.length c, .int .i64 (i : Int)] w
      (PrPost B b l j ((if (headNd (T.drop (i + 1))).k = 5 then 40 :: (prS f (T.drop (i + 1)) ++ [41]) else prS f (T.drop (i + 1))) ++ ([32, 45, 62, 32] ++ prS f (T.drop j1))) w) := by
  generalize htx : ((if (headNd (T.drop (i + 1))).k = 5 then 40 :: (prS f (T.drop (i + 1)) ++ [41]) else prS f (T.drop (i + 1))) ++ ([32, 45, 62, 32] ++ prS f (T.drop j1))) = txt at hlen ⊢
  have Htx := Lib.hid htx
  have HA := Lib.hid (hA (i + 1) j1 j B b c A T l)
  have haA := Lib.hid ha
  obtain ⟨b1, o1, rfl, hb1, c10, c11, c12⟩ := (ha.more hBw).at_ hx
  have hi := getq_lt hx
  have h5b : (x.k == 5) = true := by simp [h5]
  have Hx := Lib.hid hx
  have H1 := Lib.hid h1
  have H2 := Lib.hid h2
  have Hok := Lib.hid hok
  have hbl := hb.lt
  clear hx h5 h1 h2 htx hA ha hok
  go_enter Tryd.func46, Tryd.ntmps46
  go_wp2_with fail
  have h := HA.out (w.alloc (.cells #[.int .i64 x.k, .string x.s, .int .i64 x.n] 38)) H1.out H2.out (haA.out.alloc hBw _) (hb.below (ext_alloc (Below.refl _ _) _)) (by simp; omega) hl Hok.out (by rw [Htx.out]; exact hlen) (ht.below (Below.alloc (Below.refl _ _) hBw _))
  rw [Htx.out] at h
  refine h.mono ?_
  rintro e w1 ⟨rfl, hb1', hbel1⟩
  go_wp2_with fail
  go_ret
  exact ⟨rfl, hb1', (Below.alloc (Below.refl _ _) hBw _).trans hbel1⟩

set_option maxRecDepth 100000 in
set_option maxHeartbeats 4000000 in
theorem node_rec (f : Nat) (hA : PRow f) (i j m B b c : Nat) (A : Option Addr) (T : List Nd) (l : List UInt8) (w : World) (x : Nd) (hx : T[i]? = some x) (h5 : x.k = 6) (hm : x.n = (m : Int)) (hm50 : m ≤ 50) (h1 : kidsP (treeP T f) T x m 0 ByteArray.empty (i + 1) = some j) (ha : TyA w B A T) (hb : IsB B b l w) (hBw : B ≤ w.heap.size) (hl : T.length ≤ 1000000)
    (hok : ∀ x ∈ T, x.Ok) (hlen : l.length + (123 :: (prKids (prS f) [44, 32] m [] (T.drop (i + 1)) ++ [125])).length ≤ 140737488355328) (ht : Tab w B) :
    Calls Tryd.prog 46 #[.pointer (some ⟨b, 0, none⟩), .slice A T.length c, .int .i64 (i : Int)] w
      (PrPost B b l j (123 :: (prKids (prS f) [44, 32] m [] (T.drop (i + 1)) ++ [125])) w) := by
  generalize htx : (123 :: (prKids (prS f) [44, 32] m [] (T.drop (i + 1)) ++ [125])) = txt at hlen ⊢
  have Htx := Lib.hid htx
  have HA := Lib.hid (hA i j m B b c x A T l ⟨#[123]⟩ ⟨#[44, 32]⟩ ⟨#[125]⟩)
  have haA := Lib.hid ha
  obtain ⟨b1, o1, rfl, hb1, c10, c11, c12⟩ := (ha.more hBw).at_ hx
  have hi := getq_lt hx
  have h5b : (x.k == 5) = false := by simp [h5]
  have h6b : (x.k == 6) = true := by simp [h5]
  have Hx := Lib.hid hx
  have H1 := Lib.hid h1
  have Hm := Lib.hid hm
  have Hok := Lib.hid hok
  have hbl := hb.lt
  clear hx h5 h1 hm htx hA ha hok
  go_enter Tryd.func46, Tryd.ntmps46
  go_wp2_with fail
  have h := HA.out (w.alloc (.cells #[.int .i64 x.k, .string x.s, .int .i64 x.n] 38)) Hx.out Hm.out H1.out (haA.out.alloc hBw _) (hb.below (ext_alloc (Below.refl _ _) _)) (by simp; omega) hl hm50 Hok.out (by have := Htx.out; simp only [List.cons_append, List.nil_append] at this ⊢; rw [this]; exact hlen) (ht.below (Below.alloc (Below.refl _ _) hBw _))
  simp only [List.cons_append, List.nil_append] at h
  rw [Htx.out] at h
  refine h.mono ?_
  rintro e w1 ⟨rfl, hb1', hbel1⟩
  go_wp2_with fail
  go_ret
  exact ⟨rfl, hb1', (Below.alloc (Below.refl _ _) hBw _).trans hbel1⟩

set_option maxRecDepth 100000 in
set_option maxHeartbeats 4000000 in
theorem node_uni (f : Nat) (hA : PRow f) (i j m B b c : Nat) (A : Option Addr) (T : List Nd) (l : List UInt8) (w : World) (x : Nd) (hx : T[i]? = some x) (h5 : x.k = 7) (hm : x.n = (m : Int)) (hm50 : m ≤ 50) (h1 : kidsP (treeP T f) T x m 0 ByteArray.empty (i + 1) = some j) (ha : TyA w B A T) (hb : IsB B b l w) (hBw : B ≤ w.heap.size) (hl : T.length ≤ 1000000)
    (hok : ∀ x ∈ T, x.Ok) (hlen : l.length + (91 :: (prKids (prS f) [32, 124, 32] m [] (T.drop (i + 1)) ++ [93])).length ≤ 140737488355328) (ht : Tab w B) :
    Calls Tryd.prog 46 #[.pointer (some ⟨b, 0, none⟩), .slice A T.length c, .int .i64 (i : Int)] w
      (PrPost B b l j (91 :: (prKids (prS f) [32, 124, 32] m [] (T.drop (i + 1)) ++ [93])) w) := by
  generalize htx : (91 :: (prKids (prS f) [32, 124, 32] m [] (T.drop (i + 1)) ++ [93])) = txt at hlen ⊢
  have Htx := Lib.hid htx
  have HA := Lib.hid (hA i j m B b c x A T l ⟨#[91]⟩ ⟨#[32, 124, 32]⟩ ⟨#[93]⟩)
  have haA := Lib.hid ha
  obtain ⟨b1, o1, rfl, hb1, c10, c11, c12⟩ := (ha.more hBw).at_ hx
  have hi := getq_lt hx
  have h5b : (x.k == 5) = false := by simp [h5]
  have h6b : (x.k == 6) = false := by simp [h5]
  have h7b : (x.k == 7) = true := by simp [h5]
  have Hx := Lib.hid hx
  have H1 := Lib.hid h1
  have Hm := Lib.hid hm
  have Hok := Lib.hid hok
  have hbl := hb.lt
  clear hx h5 h1 hm htx hA ha hok
  go_enter Tryd.func46, Tryd.ntmps46
  go_wp2_with fail
  have h := HA.out (w.alloc (.cells #[.int .i64 x.k, .string x.s, .int .i64 x.n] 38)) Hx.out Hm.out H1.out (haA.out.alloc hBw _) (hb.below (ext_alloc (Below.refl _ _) _)) (by simp; omega) hl hm50 Hok.out (by have := Htx.out; simp only [List.cons_append, List.nil_append] at this ⊢; rw [this]; exact hlen) (ht.below (Below.alloc (Below.refl _ _) hBw _))
  simp only [List.cons_append, List.nil_append] at h
  rw [Htx.out] at h
  refine h.mono ?_
  rintro e w1 ⟨rfl, hb1', hbel1⟩
  go_wp2_with fail
  go_ret
  exact ⟨rfl, hb1', (Below.alloc (Below.refl _ _) hBw _).trans hbel1⟩


theorem node_of : ∀ f, PNode f
  | 0 => by intro i j B b c A T l w h; cases h
  | f + 1 => by
    have HN := node_of f
    intro i j B b c A T l w htree ha hb hBw hl hok hlen ht
    obtain ⟨x, hx⟩ := treeP_get htree
    simp only [treeP, hx] at htree
    split at htree
    · rename_i hnode
      rw [drop_cons hx] at hlen ⊢
      by_cases h5 : x.k = 5
      · have hm : (many x.k x.n).toNat = 2 := by unfold many; simp [h5]
        rw [hm] at htree
        obtain ⟨y, j1, hy, h1, htr2⟩ := kidsP_step htree
        obtain ⟨y2, j2, hy2, h2, htr3⟩ := kidsP_step htr2
        simp only [kidsP, Option.some.injEq] at htr3
        subst htr3
        simp only [prS, if_pos h5, tree_rest1 h1] at hlen ⊢
        exact node_arrow f (arrow_of f HN) i j1 j2 B b c A T l w x hx h5 h1 h2 ha hb hBw hl hok hlen ht
      · by_cases h6 : x.k = 6
        · have hmm := manyN_ok hnode
          have hn : x.n = (manyN x : Int) := by rw [← hmm]; unfold many; simp [h6, isRowB]
          have h50 : manyN x ≤ 50 := by
            have := hnode
            rw [okNode_row (by simp [isRowB, h6])] at this
            simp at this
            omega
          simp only [prS, if_neg h5, if_pos h6] at hlen ⊢
          exact node_rec f (row_of f HN) i j (manyN x) B b c A T l w x hx h6 hn h50 htree ha hb hBw hl hok hlen ht
        · by_cases h7 : x.k = 7
          · have hmm := manyN_ok hnode
            have hn : x.n = (manyN x : Int) := by rw [← hmm]; unfold many; simp [h7, isRowB]
            have h50 : manyN x ≤ 50 := by
              have := hnode
              rw [okNode_row (by simp [isRowB, h7])] at this
              simp at this
              omega
            simp only [prS, if_neg h5, if_neg h6, if_pos h7] at hlen ⊢
            exact node_uni f (row_of f HN) i j (manyN x) B b c A T l w x hx h7 hn h50 htree ha hb hBw hl hok hlen ht
          · have hm : (many x.k x.n).toNat = 0 := by unfold many; simp [h5, isRowB, h6, h7]
            rw [hm] at htree
            simp only [kidsP, Option.some.injEq] at htree
            subst htree
            simp only [prS, if_neg h5, if_neg h6, if_neg h7] at hlen ⊢
            have hx0 := hok x (List.mem_of_getElem? hx)
            by_cases h8 : x.k = 8
            · exact node_var i B b c A T l w x hx h8 hx0.n0 hx0.n1 ha hb hBw hl hlen ht
            · by_cases h9 : x.k = 9
              · exact node_tail i B b c A T l w x hx h9 hx0.n0 hx0.n1 ha hb hBw hl hlen ht
              · have h04 : 0 ≤ x.k ∧ x.k ≤ 4 := by
                  unfold okNode at hnode
                  by_cases h0 : x.k = 0
                  · omega
                  · rw [if_neg (by omega), if_neg h6, if_neg h7] at hnode
                    simp at hnode
                    omega
                exact node_word i B b c A T l w x hx h04.1 h04.2 ha hb hBw hl hlen
    · cases htree

theorem prS_ne {f i j : Nat} {T : List Nd} (h : treeP T f i = some j) : prS f (T.drop i) ≠ [] := by
  cases f with
  | zero => cases h
  | succ f =>
    obtain ⟨x, hx⟩ := treeP_get h
    rw [drop_cons hx]
    simp only [prS]
    split
    · intro e
      simp at e
    · split
      · simp
      · split
        · simp
        · unfold wordT
          repeat' split
          all_goals simp

set_option maxRecDepth 100000 in
set_option maxHeartbeats 4000000 in
theorem print_any (j B c : Nat) (A : Option Addr) (T : List Nd) (w : World) (htree : treeP T 100 0 = some j) (ha : TyA w B A T) (hBw : B ≤ w.heap.size) (hl : T.length ≤ 1000000)
    (hok : ∀ x ∈ T, x.Ok) (hlen : (prS 100 T).length ≤ 140737488355328) (ht : Tab w B) :
    Calls Tryd.prog 19 #[.slice A T.length c] w fun e w' => e = .returned (.string ⟨(prS 100 T).toArray⟩) ∧ Below w.heap.size w w' := by
  have hN := Lib.hid (node_of 100)
  have H1 := Lib.hid htree
  have Hok := Lib.hid hok
  have hne := Lib.hid (prS_ne htree)
  have hT : T.drop 0 = T := rfl
  clear htree hok
  go_enter Tryd.func19, Tryd.ntmps19
  go_wp2_with fail
  refine (hN.out 0 j w.heap.size w.heap.size c A T [] (w.alloc (.cells #[.pointer none, .slice none 0 0] 60)) H1.out ((ha.more hBw).alloc (Nat.le_refl _) _) (Lib.fresh_isBuilder _ _ w) (by simp) hl Hok.out (by simpa using hlen) ((ht.more hBw).below (Below.alloc (Below.refl _ _) (Nat.le_refl _) _))).mono ?_
  rintro e w1 ⟨rfl, hb1, hbel1⟩
  rw [hT, List.nil_append] at hb1
  have hbel := (ext_alloc (Below.refl w.heap.size w) (.cells #[.pointer none, .slice none 0 0] 60)).trans hbel1
  go_wp2_with fail
  refine (bString_any _ _ _ w1 hb1 hne.out).mono ?_
  rintro e w2 ⟨rfl, hbel2⟩
  go_wp2_with fail
  go_ret
  exact ⟨rfl, hbel.trans hbel2⟩
end Go.Proofs.YtblfeokjlecgkaaDoor
