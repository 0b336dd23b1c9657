/- Laid together by a tool from the texts of this seat: ChX. Conditions: each theorem's own. -/
import Derived.Test.YtmjdhfbnmmdjiaaGreatK13
/- Ways of check's walk that go straight on (written by gen_ways.py). -/
namespace Go.Proofs.YtmjdhfbnmmdjiaaGreat
open Go.RowKit

theorem base_any (k : Int) (w : World) : Calls Tryz.prog 100 #[.int .i64 k] w (RetN w (baseN k)) := by
  go_enter Tryz.func100, Tryz.ntmps100
  go_wp2_with fail
  go_ret
  exact ⟨_, 1, rfl, own_one w ⟨k, ByteArray.empty, 0⟩, ext_alloc (Below.refl _ _) _⟩
theorem gd_base (k : Int) (hk : 0 ≤ k ∧ k ≤ 4) : Gd (baseN k) := by
  have : k = 0 ∨ k = 1 ∨ k = 2 ∨ k = 3 ∨ k = 4 := by omega
  rcases this with rfl | rfl | rfl | rfl | rfl <;> decide



theorem field_bad (P : Nat) (es : List Pt) (env : Env) (x : Nat × Int) (v1 v2 : Value) (at0 : Nat) (Y : Nat → Prop) (w : World) (h : WkE P es env (.error x) Y w) :
    Calls Tryz.prog 104 #[pk P, v1, v2, .int .i64 at0] w (NxPost P es env Y (.error x) w) := by
  have H := Lib.hid h
  have HO := Lib.hid (ok_any P es env _ Y w h)
  simp only [okS] at HO
  unfold pk at *
  clear h
  go_enter Tryz.func104, Tryz.ntmps104
  go_wp2_with fail
  refine HO.out.mono ?_
  rintro e w1 ⟨rfl, hb1⟩
  have HB := Lib.hid hb1
  clear hb1
  go_wp2_with fail
  go_ret
  exact ⟨Y, Fr.below HB.out, YNew.refl _ _, H.out.later HB.out, rfl⟩


theorem meet_bad (P : Nat) (es : List Pt) (env : Env) (x : Nat × Int) (v1 v2 : Value) (at0 : Nat) (Y : Nat → Prop) (w : World) (h : WkE P es env (.error x) Y w) :
    Calls Tryz.prog 101 #[pk P, v1, v2, .int .i64 at0] w (NxPost P es env Y (.error x) w) := by
  have H := Lib.hid h
  have HO := Lib.hid (ok_any P es env _ Y w h)
  simp only [okS] at HO
  unfold pk at *
  clear h
  go_enter Tryz.func101, Tryz.ntmps101
  go_wp2_with fail
  refine HO.out.mono ?_
  rintro e w1 ⟨rfl, hb1⟩
  have HB := Lib.hid hb1
  clear hb1
  go_wp2_with fail
  go_ret
  exact ⟨Y, Fr.below HB.out, YNew.refl _ _, H.out.later HB.out, rfl⟩


set_option maxRecDepth 100000 in
set_option maxHeartbeats 4000000 in
theorem field_ok (P : Nat) (es : List Pt) (env : Env) (a : Nat) (A : Option Addr) (c : Nat) (t : List Nd) (s : ByteArray) (at0 : Nat) (r : Ans) (Y : Nat → Prop) (w : World) (h : WkE P es env (.ok a) Y w) (ht : TyV w Y A c t) (g : Gd t) (hm : fieldA t s at0 a = some r) :
    Calls Tryz.prog 104 #[pk P, .slice A t.length c, .string s, .int .i64 at0] w (NxPost P es env Y r w) := by
  have HL := Lib.hid h.lt
  have HO := Lib.hid (ok_any P es env _ Y w h)
  have HC := Lib.hid (fun v (hv : Below w.heap.size w v) => field_any A c t s v (ht.later hv).ty.tyA g ht.cap)
  have HW := Lib.hid (fun v (hv : Below w.heap.size w v) => h.later hv)
  have HR := Lib.hid hm
  simp only [okS] at HO
  unfold pk at *
  clear h ht g hm
  go_enter Tryz.func104, Tryz.ntmps104
  go_wp2_with fail
  refine HO.out.mono ?_
  rintro e w1 ⟨rfl, hb1⟩
  have HB1 := Lib.hid hb1
  clear hb1
  go_wp2_with fail
  refine (HC.out _ HB1.out).mono ?_
  rintro e w2 ⟨hb2, h2⟩
  have HB2 := Lib.hid (ext_trans HB1.out hb2)
  clear hb2
  cases hi : fieldM t s with
  | none =>
    rw [hi] at h2
    subst h2
    have HR2 : Hid (r = .error (at0, 9)) := Lib.hid (by
      have := HR.out
      unfold fieldA at this
      rw [hi] at this
      injection this with this
      exact this.symm)
    have HM := Lib.hid (must_any P es env (.ok a) false at0 9 Y w2 (.inl (by decide)) (HW.out w2 HB2.out))
    unfold pk at HM
    clear hi
    go_wp2_with fail
    refine HM.out.mono ?_
    rintro e w3 ⟨⟨v3, rfl⟩, hf3, hk3⟩
    have HP : Hid (NxPost P es env Y r w (.returned (.slice none 0 0)) w3) := Lib.hid (by
      rw [HR2.out]
      exact ⟨Y, (Fr.below HB2.out).trans hf3, YNew.refl _ _, hk3, rfl⟩)
    clear hf3 hk3
    go_wp2_with fail
    go_ret
    exact HP.out
  | some u0 =>
    rw [hi] at h2
    obtain ⟨A1, c1, rfl, hown⟩ := h2
    have HR2 : Hid (r = .ok (u0, a)) := Lib.hid (by
      have := HR.out
      unfold fieldA at this
      rw [hi] at this
      injection this with this
      exact this.symm)
    have HT := Lib.hid (TyV.own hown fun q hq => Nat.lt_of_lt_of_le (HL.out q hq) HB1.out.size)
    have HM := Lib.hid (must_any P es env (.ok a) true at0 0 Y w2 (.inr rfl) (HW.out w2 HB2.out))
    unfold pk at HM
    clear hi hown
    go_wp2_with fail
    refine HM.out.mono ?_
    rintro e w3 ⟨⟨v3, rfl⟩, hf3, hk3⟩
    have HP : Hid (NxPost P es env Y r w (.returned (.slice A1 u0.length c1)) w3) := Lib.hid (by
      rw [HR2.out]
      exact ⟨Y, (Fr.below HB2.out).trans hf3, YNew.refl _ _, hk3, A1, c1, rfl, HT.out.fr hf3 (YNew.refl _ _)⟩)
    clear hf3 hk3
    go_wp2_with fail
    go_ret
    exact HP.out


set_option maxRecDepth 100000 in
set_option maxHeartbeats 4000000 in
theorem meet_ok (P : Nat) (es : List Pt) (env : Env) (a : Nat) (A B : Option Addr) (c d : Nat) (t u : List Nd) (at0 : Nat) (r : Ans) (Y : Nat → Prop) (w : World) (h : WkE P es env (.ok a) Y w) (ht : TyV w Y A c t) (hu : TyV w Y B d u) (g : Gd t) (gu : Gd u) (hm : meetA t u at0 a = some r) :
    Calls Tryz.prog 101 #[pk P, .slice A t.length c, .slice B u.length d, .int .i64 at0] w (NxPost P es env Y r w) := by
  have HL := Lib.hid h.lt
  have HO := Lib.hid (ok_any P es env _ Y w h)
  have HC := Lib.hid (fun v (hv : Below w.heap.size w v) => meet_any A B c d t u v (ht.later hv).ty.tyA (hu.later hv).ty.tyA g gu ht.cap hu.cap)
  have HW := Lib.hid (fun v (hv : Below w.heap.size w v) => h.later hv)
  have HR := Lib.hid hm
  simp only [okS] at HO
  unfold pk at *
  clear h ht hu g gu hm
  go_enter Tryz.func101, Tryz.ntmps101
  go_wp2_with fail
  refine HO.out.mono ?_
  rintro e w1 ⟨rfl, hb1⟩
  have HB1 := Lib.hid hb1
  clear hb1
  go_wp2_with fail
  refine (HC.out _ HB1.out).mono ?_
  rintro e w2 ⟨hb2, h2⟩
  have HB2 := Lib.hid (ext_trans HB1.out hb2)
  clear hb2
  cases hi : met 1 t u with
  | none =>
    rw [hi] at h2
    subst h2
    have HR2 : Hid (r = .error (at0, 9)) := Lib.hid (by
      have := HR.out
      unfold meetA at this
      rw [hi] at this
      injection this with this
      exact this.symm)
    have HM := Lib.hid (must_any P es env (.ok a) false at0 9 Y w2 (.inl (by decide)) (HW.out w2 HB2.out))
    unfold pk at HM
    clear hi
    go_wp2_with fail
    refine HM.out.mono ?_
    rintro e w3 ⟨⟨v3, rfl⟩, hf3, hk3⟩
    have HP : Hid (NxPost P es env Y r w (.returned (.slice none 0 0)) w3) := Lib.hid (by
      rw [HR2.out]
      exact ⟨Y, (Fr.below HB2.out).trans hf3, YNew.refl _ _, hk3, rfl⟩)
    clear hf3 hk3
    go_wp2_with fail
    go_ret
    exact HP.out
  | some u0 =>
    rw [hi] at h2
    obtain ⟨A1, c1, rfl, hown⟩ := h2
    have HR2 : Hid (r = .ok (u0, a)) := Lib.hid (by
      have := HR.out
      unfold meetA at this
      rw [hi] at this
      injection this with this
      exact this.symm)
    have HT := Lib.hid (TyV.own hown fun q hq => Nat.lt_of_lt_of_le (HL.out q hq) HB1.out.size)
    have HM := Lib.hid (must_any P es env (.ok a) true at0 0 Y w2 (.inr rfl) (HW.out w2 HB2.out))
    unfold pk at HM
    clear hi hown
    go_wp2_with fail
    refine HM.out.mono ?_
    rintro e w3 ⟨⟨v3, rfl⟩, hf3, hk3⟩
    have HP : Hid (NxPost P es env Y r w (.returned (.slice A1 u0.length c1)) w3) := Lib.hid (by
      rw [HR2.out]
      exact ⟨Y, (Fr.below HB2.out).trans hf3, YNew.refl _ _, hk3, A1, c1, rfl, HT.out.fr hf3 (YNew.refl _ _)⟩)
    clear hf3 hk3
    go_wp2_with fail
    go_ret
    exact HP.out


theorem op_cases (s : ByteArray) : s.toList = [38, 38] ∨ s.toList = [124, 124] ∨ s.toList = [43, 43] ∨ s.toList = [60] ∨ s.toList = [61, 61] ∨ (s.toList ≠ [38, 38] ∧ s.toList ≠ [124, 124] ∧ s.toList ≠ [43, 43] ∧ s.toList ≠ [60] ∧ s.toList ≠ [61, 61]) := by
  by_cases h1 : s.toList = [38, 38]
  · exact .inl h1
  by_cases h2 : s.toList = [124, 124]
  · exact .inr (.inl h2)
  by_cases h3 : s.toList = [43, 43]
  · exact .inr (.inr (.inl h3))
  by_cases h4 : s.toList = [60]
  · exact .inr (.inr (.inr (.inl h4)))
  by_cases h5 : s.toList = [61, 61]
  · exact .inr (.inr (.inr (.inr (.inl h5))))
  exact .inr (.inr (.inr (.inr (.inr ⟨h1, h2, h3, h4, h5⟩))))
theorem NxPost.to {P : Nat} {es : List Pt} {env : Env} {Y Y2 : Nat → Prop} {r : Ans} {w w1 w' : World} {e : Ending} (h : NxPost P es env Y2 r w1 e w') (hf : Fr Y w w1) (hy : YNew Y Y2 w) : WyPost P es env Y r w e w' := by
  obtain ⟨Y3, h1, h2, h3, h4⟩ := h
  refine ⟨Y3, Fr.new hf h1 hy, YNew.trans hy h2 hf.size, h3, ?_⟩
  match r, h4 with
  | .ok (t, a), h4 => exact h4
  | .error x, h4 => exact ⟨_, _, _, h4⟩
theorem WyPost.ret {P : Nat} {es : List Pt} {env : Env} {Y : Nat → Prop} {r : Ans} {w w' : World} {e : Ending} (h : WyPost P es env Y r w e w') : ∃ v, e = .returned v := by
  obtain ⟨Y', _, _, _, h⟩ := h
  match r, h with
  | .ok (t, a), ⟨A, c, e1, _⟩ => exact ⟨_, e1⟩
  | .error x, ⟨A, n, c, e1⟩ => exact ⟨_, e1⟩

/-- What is cut out of a good type is one. -/
theorem gd_part {T ts r : List Nd} {i : Nat} (g : Gd T) (h : T.drop i = ts ++ r) (hf : Fo 1 ts) : Gd (bareN ts) := by
  have hok : okAll ts := fun z hz => g.ok z (List.mem_of_mem_drop (i := i) (by rw [h]; exact List.mem_append_left _ hz))
  have hl : ts.length ≤ T.length := by
    have := congrArg List.length h
    rw [List.length_drop, List.length_append] at this
    omega
  match ts, hf, hok, hl with
  | [], hf, _, _ => exact absurd hf.pos (by simp)
  | x :: xt, hf, hok, hl =>
    refine ⟨fun z hz => ?_, ?_, rfl, by rw [bareN_length]; have := g.len; omega⟩
    · rcases List.mem_cons.1 hz with rfl | hz
      · exact hok x (by simp)
      · exact hok z (by simp [hz])
    · unfold Fo at hf ⊢
      show skip (x.name ByteArray.empty :: xt) 1 = _
      rw [skip_cons] at hf ⊢
      exact hf
theorem gd_dyn : Gd dynN := by decide
theorem gd_kid {x : Nd} {xt ts : List Nd} (g : Gd (x :: xt)) (h : ts ∈ kidsL (x :: xt)) : Gd (bareN ts) := by
  obtain ⟨k, hk⟩ := List.getElem?_of_mem h
  have hok : okAll xt := fun z hz => g.ok z (List.mem_cons_of_mem _ hz)
  have hd : (x :: xt).drop 1 = xt ++ [] := by rw [List.append_nil]; rfl
  have hm := kids_heads (manyN x) 1 xt [] hd hok g.fo.kids
  have hl : k < (kidsGo (x :: xt) (manyN x) 1).length := by
    have := congrArg List.length hm
    rw [List.length_map, List.length_map] at this
    rw [this]
    exact getq_lt hk
  obtain ⟨pos, hpos⟩ := getq_ex hl
  obtain ⟨us, r, e1, e2, e3, _⟩ := kidsGo_split (manyN x) 1 xt [] hd hok g.fo.kids k pos hpos
  have : us = ts := by
    have h2 : (splitF (manyN x) xt)[k]? = some ts := hk
    rw [e1] at h2
    injection h2
  subst this
  exact gd_part g e2 e3
theorem gd_fieldM {t u : List Nd} {s : ByteArray} (g : Gd t) (h : fieldM t s = some u) : Gd u := by
  rcases t with _ | ⟨x, xt⟩
  · exact absurd g.fo.pos (by simp)
  rw [fieldM_cons] at h
  split at h
  · injection h with h
    rw [← h]
    exact gd_dyn
  · split at h
    · rw [Option.map_eq_some_iff] at h
      obtain ⟨ts, h1, rfl⟩ := h
      exact gd_kid g (List.mem_of_find?_eq_some h1)
    · cases h
theorem gd_field {t u : List Nd} {s : ByteArray} {at0 a b : Nat} (g : Gd t) (h : fieldA t s at0 a = some (.ok (u, b))) : Gd u := by
  unfold fieldA at h
  split at h
  · rename_i v hv
    injection h with h
    injection h with h
    injection h with h1 h2
    subst h1
    exact gd_fieldM g hv
  · injection h with h
    cases h
theorem gd_call {t a b : List Nd} (g : Gd t) (h : callM t = some (a, b)) : Gd a ∧ Gd b := by
  rcases t with _ | ⟨x, xt⟩
  · exact absurd g.fo.pos (by simp)
  unfold callM at h
  split at h
  · injection h with h
    injection h with h1 h2
    subst h1 h2
    exact ⟨gd_dyn, gd_dyn⟩
  · split at h
    · rename_i h5
      have hm : manyN x = 2 := by
        have h5 : x.k = 5 := h5
        simp [manyN, many, h5]
      have hk : ∃ ta tb, kidsL (x :: xt) = [ta, tb] := by
        have := splitF_len (manyN x) xt
        rw [hm] at this
        show ∃ ta tb, splitF (manyN x) xt = [ta, tb]
        rw [hm]
        match splitF 2 xt, this with
        | [ta, tb], _ => exact ⟨ta, tb, rfl⟩
      obtain ⟨ta, tb, hk⟩ := hk
      rw [hk] at h
      injection h with h
      injection h with h1 h2
      subst h1 h2
      exact ⟨gd_kid g (by rw [hk]; simp), gd_kid g (by rw [hk]; simp)⟩
    · cases h


set_option maxRecDepth 100000 in
set_option maxHeartbeats 8000000 in
theorem cast_any (P : Nat) (es : List Pt) (nx : Nx) (HN : Hid (NextC P es nx)) (env : Env) (p : Pt) (at0 a : Nat) (r : Ans) (Y : Nat → Prop) (w : World) (TA UA : Option Addr) (tc uc : Nat) (h : WkE P es env (.ok a) Y w) (hT : TyV w Y TA tc p.T) (hU : TyV w Y UA uc p.U) (gT : Gd p.T) (gU : Gd p.U) (hG : ∀ env a t b, nx env a = some (.ok (t, b)) → Gd t) (hm : castM nx env p at0 a = some r) :
    Calls Tryz.prog 77 #[pk P, pv p TA tc UA uc, .int .i64 at0] w (WyPost P es env Y r w) := by
  obtain ⟨w1, hw1⟩ : ∃ w1, w1 = w.alloc (.cells #[.int .i64 p.k, .string p.lb, .string p.nm, .string p.bd, .int .i64 p.mn, .int .i64 p.num, .slice TA p.T.length tc, .slice UA p.U.length uc] 33) := ⟨_, rfl⟩
  have hpm := PtM.new h.lt hT hU
  have hb1 : Below w.heap.size w w1 := by rw [hw1]; exact ext_alloc (Below.refl _ _) _
  rw [← hw1] at hpm
  have G1 : Hid (Fr Y w w1 ∧ YNew Y Y w ∧ WkE P es env (.ok a) Y w1 ∧ PtM w1 Y w.heap.size p TA tc UA uc) := Lib.hid ⟨Fr.below hb1, YNew.refl _ _, h.later hb1, hpm⟩
  have HR := Lib.hid (show castM nx env p at0 a = some r from hm)
  have HD := Lib.hid (And.intro gT (And.intro gU hG))
  clear h hT hU hm hG hpm hb1
  unfold pk pv
  go_enter Tryz.func77, Tryz.ntmps77
  go_upto_region 1 with fail
  rw [← hw1]
  clear hw1
  obtain ⟨k0, k1, k2, k3, k4, k6, k7⟩ := G1.out.2.2.2.cells
  rcases andA_some HR.out with ⟨x, h1, hr⟩ | ⟨t1, b1, h1, hr⟩
  · have HX := Lib.hid (HN.out env (.ok a) (.error x) Y w1 h1 G1.out.2.2.1)
    unfold pk at HX
    go_wp2_with fail
    refine HX.out.mono ?_
    rintro e w2 ⟨Y2, hf, hy, hk, rfl⟩
    clear HX
    clear k0 k1 k2 k3 k4 k6 k7
    have G2 : Hid (Fr Y w w2 ∧ YNew Y Y2 w ∧ WkE P es env (.error x) Y2 w2 ∧ PtM w2 Y2 w.heap.size p TA tc UA uc) := Lib.hid ⟨Fr.new G1.out.1 hf G1.out.2.1, YNew.trans G1.out.2.1 hy G1.out.1.size, hk, G1.out.2.2.2.fr hf hy⟩
    clear G1
    obtain ⟨k0, k1, k2, k3, k4, k6, k7⟩ := G2.out.2.2.2.cells
    clear hf hy hk
    have HX := Lib.hid (same_any none TA 0 tc [] p.T w2 TyA.nil G2.out.2.2.2.T.ty.tyA (by simp))
    go_wp2_with fail
    refine HX.out.mono ?_
    rintro e w3 ⟨rfl, hb⟩
    clear HX
    clear k0 k1 k2 k3 k4 k6 k7
    have G3 : Hid (Fr Y w w3 ∧ YNew Y Y2 w ∧ WkE P es env (.error x) Y2 w3 ∧ PtM w3 Y2 w.heap.size p TA tc UA uc) := Lib.hid ⟨Fr.new G2.out.1 (Fr.below hb) G2.out.2.1, YNew.trans G2.out.2.1 (YNew.refl _ _) G2.out.1.size, (G2.out.2.2.1.later hb), G2.out.2.2.2.fr (Fr.below hb) (YNew.refl _ _)⟩
    clear G2
    obtain ⟨k0, k1, k2, k3, k4, k6, k7⟩ := G3.out.2.2.2.cells
    clear hb
    have HX := Lib.hid (must_any P es env (.error x) (sameB [] p.T) at0 9 Y2 w3 (.inl (by decide)) G3.out.2.2.1)
    unfold pk at HX
    go_wp2_with fail
    refine HX.out.mono ?_
    rintro e w4 ⟨⟨v4, rfl⟩, hf, hk⟩
    clear HX
    clear k0 k1 k2 k3 k4 k6 k7
    have G4 : Hid (Fr Y w w4 ∧ YNew Y Y2 w ∧ WkE P es env (.error x) Y2 w4 ∧ PtM w4 Y2 w.heap.size p TA tc UA uc) := Lib.hid ⟨Fr.new G3.out.1 hf G3.out.2.1, YNew.trans G3.out.2.1 (YNew.refl _ _) G3.out.1.size, hk, G3.out.2.2.2.fr hf (YNew.refl _ _)⟩
    clear G3
    obtain ⟨k0, k1, k2, k3, k4, k6, k7⟩ := G4.out.2.2.2.cells
    clear hf hk
    have HX := Lib.hid (agree_bad P es env x (.slice TA p.T.length tc) (.slice UA p.U.length uc) at0 Y2 w4 G4.out.2.2.1)
    unfold pk at HX
    go_wp2_with fail
    refine HX.out.mono ?_
    rintro e w5 ⟨⟨v5, rfl⟩, hf, hk⟩
    clear HX
    clear k0 k1 k2 k3 k4 k6 k7
    have G5 : Hid (Fr Y w w5 ∧ YNew Y Y2 w ∧ WkE P es env (.error x) Y2 w5 ∧ PtM w5 Y2 w.heap.size p TA tc UA uc) := Lib.hid ⟨Fr.new G4.out.1 hf G4.out.2.1, YNew.trans G4.out.2.1 (YNew.refl _ _) G4.out.1.size, hk, G4.out.2.2.2.fr hf (YNew.refl _ _)⟩
    clear G4
    obtain ⟨k0, k1, k2, k3, k4, k6, k7⟩ := G5.out.2.2.2.cells
    clear hf hk
    have HQ : Hid (WyPost P es env Y r w (.returned (.slice UA p.U.length uc)) w5) := Lib.hid (by
      subst hr
      exact ⟨Y2, G5.out.1, G5.out.2.1, G5.out.2.2.1, _, _, _, rfl⟩)
    go_wp2_with fail
    go_ret
    exact HQ.out
  · have HX := Lib.hid (HN.out env (.ok a) _ Y w1 h1 G1.out.2.2.1)
    unfold pk at HX
    go_wp2_with fail
    refine HX.out.mono ?_
    rintro e w2 ⟨Y2, hf, hy, hk, A2, c2, rfl, ht⟩
    clear HX
    clear k0 k1 k2 k3 k4 k6 k7
    have G2 : Hid (Fr Y w w2 ∧ YNew Y Y2 w ∧ WkE P es env (.ok b1) Y2 w2 ∧ PtM w2 Y2 w.heap.size p TA tc UA uc ∧ TyV w2 Y2 A2 c2 t1) := Lib.hid ⟨Fr.new G1.out.1 hf G1.out.2.1, YNew.trans G1.out.2.1 hy G1.out.1.size, hk, G1.out.2.2.2.fr hf hy, ht⟩
    clear G1
    obtain ⟨k0, k1, k2, k3, k4, k6, k7⟩ := G2.out.2.2.2.1.cells
    clear hf hy hk ht
    have HX := Lib.hid (same_any A2 TA c2 tc t1 p.T w2 G2.out.2.2.2.2.ty.tyA G2.out.2.2.2.1.T.ty.tyA (by have := (HD.out.2.2 _ _ _ _ h1).len; omega))
    go_wp2_with fail
    refine HX.out.mono ?_
    rintro e w3 ⟨rfl, hb⟩
    clear HX
    clear k0 k1 k2 k3 k4 k6 k7
    have G3 : Hid (Fr Y w w3 ∧ YNew Y Y2 w ∧ WkE P es env (.ok b1) Y2 w3 ∧ PtM w3 Y2 w.heap.size p TA tc UA uc ∧ TyV w3 Y2 A2 c2 t1) := Lib.hid ⟨Fr.new G2.out.1 (Fr.below hb) G2.out.2.1, YNew.trans G2.out.2.1 (YNew.refl _ _) G2.out.1.size, (G2.out.2.2.1.later hb), G2.out.2.2.2.1.fr (Fr.below hb) (YNew.refl _ _), G2.out.2.2.2.2.fr (Fr.below hb) (YNew.refl _ _)⟩
    clear G2
    obtain ⟨k0, k1, k2, k3, k4, k6, k7⟩ := G3.out.2.2.2.1.cells
    clear hb
    have HS := Lib.hid (show (if sameB t1 p.T = true ∧ agB p.T p.U = true then some (.ok (p.U, b1)) else some (.error (at0, 9))) = some r from hr)
    clear hr
    obtain ⟨sb, hsb⟩ : ∃ sb, sb = sameB t1 p.T := ⟨_, rfl⟩
    rw [← hsb] at HS ⊢
    clear hsb
    cases sb with
    | true =>
      have HX := Lib.hid (must_any P es env (.ok b1) true at0 9 Y2 w3 (.inr rfl) G3.out.2.2.1)
      unfold pk at HX
      go_wp2_with fail
      refine HX.out.mono ?_
      rintro e w4 ⟨⟨v4, rfl⟩, hf, hk⟩
      clear HX
      clear k0 k1 k2 k3 k4 k6 k7
      have G4 : Hid (Fr Y w w4 ∧ YNew Y Y2 w ∧ WkE P es env (.ok b1) Y2 w4 ∧ PtM w4 Y2 w.heap.size p TA tc UA uc ∧ TyV w4 Y2 A2 c2 t1) := Lib.hid ⟨Fr.new G3.out.1 hf G3.out.2.1, YNew.trans G3.out.2.1 (YNew.refl _ _) G3.out.1.size, hk, G3.out.2.2.2.1.fr hf (YNew.refl _ _), G3.out.2.2.2.2.fr hf (YNew.refl _ _)⟩
      clear G3
      obtain ⟨k0, k1, k2, k3, k4, k6, k7⟩ := G4.out.2.2.2.1.cells
      clear hf hk
      have HX := Lib.hid (agree_ok P es env b1 TA UA tc uc p.T p.U at0 Y2 w4 G4.out.2.2.1 G4.out.2.2.2.1.T.ty G4.out.2.2.2.1.U.ty HD.out.1 HD.out.2.1)
      unfold pk at HX
      go_wp2_with fail
      refine HX.out.mono ?_
      rintro e w5 ⟨⟨v5, rfl⟩, hf, hk⟩
      clear HX
      clear k0 k1 k2 k3 k4 k6 k7
      have G5 : Hid (Fr Y w w5 ∧ YNew Y Y2 w ∧ WkE P es env (agS p.T p.U at0 b1) Y2 w5 ∧ PtM w5 Y2 w.heap.size p TA tc UA uc ∧ TyV w5 Y2 A2 c2 t1) := Lib.hid ⟨Fr.new G4.out.1 hf G4.out.2.1, YNew.trans G4.out.2.1 (YNew.refl _ _) G4.out.1.size, hk, G4.out.2.2.2.1.fr hf (YNew.refl _ _), G4.out.2.2.2.2.fr hf (YNew.refl _ _)⟩
      clear G4
      obtain ⟨k0, k1, k2, k3, k4, k6, k7⟩ := G5.out.2.2.2.1.cells
      clear hf hk
      cases hag : agB p.T p.U with
      | true =>
        have HQ : Hid (WyPost P es env Y r w (.returned (.slice UA p.U.length uc)) w5) := Lib.hid (by
          have hr := HS.out
          have hk := G5.out.2.2.1
          simp only [hag, agS, if_true, and_self] at hr hk
          injection hr with hr
          subst hr
          exact ⟨Y2, G5.out.1, G5.out.2.1, hk, _, _, rfl, G5.out.2.2.2.1.U⟩)
        go_wp2_with fail
        go_ret
        exact HQ.out
      | false =>
        have HQ : Hid (WyPost P es env Y r w (.returned (.slice UA p.U.length uc)) w5) := Lib.hid (by
          have hr := HS.out
          have hk := G5.out.2.2.1
          simp [hag, agS] at hr hk
          subst hr
          exact ⟨Y2, G5.out.1, G5.out.2.1, hk, _, _, _, rfl⟩)
        go_wp2_with fail
        go_ret
        exact HQ.out
    | false =>
      have HX := Lib.hid (must_any P es env (.ok b1) false at0 9 Y2 w3 (.inl (by decide)) G3.out.2.2.1)
      unfold pk at HX
      go_wp2_with fail
      refine HX.out.mono ?_
      rintro e w4 ⟨⟨v4, rfl⟩, hf, hk⟩
      clear HX
      clear k0 k1 k2 k3 k4 k6 k7
      have G4 : Hid (Fr Y w w4 ∧ YNew Y Y2 w ∧ WkE P es env (.error (at0, 9)) Y2 w4 ∧ PtM w4 Y2 w.heap.size p TA tc UA uc ∧ TyV w4 Y2 A2 c2 t1) := Lib.hid ⟨Fr.new G3.out.1 hf G3.out.2.1, YNew.trans G3.out.2.1 (YNew.refl _ _) G3.out.1.size, hk, G3.out.2.2.2.1.fr hf (YNew.refl _ _), G3.out.2.2.2.2.fr hf (YNew.refl _ _)⟩
      clear G3
      obtain ⟨k0, k1, k2, k3, k4, k6, k7⟩ := G4.out.2.2.2.1.cells
      clear hf hk
      have HX := Lib.hid (agree_bad P es env (at0, 9) (.slice TA p.T.length tc) (.slice UA p.U.length uc) at0 Y2 w4 G4.out.2.2.1)
      unfold pk at HX
      go_wp2_with fail
      refine HX.out.mono ?_
      rintro e w5 ⟨⟨v5, rfl⟩, hf, hk⟩
      clear HX
      clear k0 k1 k2 k3 k4 k6 k7
      have G5 : Hid (Fr Y w w5 ∧ YNew Y Y2 w ∧ WkE P es env (.error (at0, 9)) Y2 w5 ∧ PtM w5 Y2 w.heap.size p TA tc UA uc ∧ TyV w5 Y2 A2 c2 t1) := Lib.hid ⟨Fr.new G4.out.1 hf G4.out.2.1, YNew.trans G4.out.2.1 (YNew.refl _ _) G4.out.1.size, hk, G4.out.2.2.2.1.fr hf (YNew.refl _ _), G4.out.2.2.2.2.fr hf (YNew.refl _ _)⟩
      clear G4
      obtain ⟨k0, k1, k2, k3, k4, k6, k7⟩ := G5.out.2.2.2.1.cells
      clear hf hk
      have HQ : Hid (WyPost P es env Y r w (.returned (.slice UA p.U.length uc)) w5) := Lib.hid (by
        have hr := HS.out
        simp at hr
        subst hr
        exact ⟨Y2, G5.out.1, G5.out.2.1, G5.out.2.2.1, _, _, _, rfl⟩)
      go_wp2_with fail
      go_ret
      exact HQ.out
set_option maxRecDepth 100000 in
set_option maxHeartbeats 8000000 in
theorem inject_any (P : Nat) (es : List Pt) (nx : Nx) (HN : Hid (NextC P es nx)) (env : Env) (p : Pt) (at0 a : Nat) (r : Ans) (Y : Nat → Prop) (w : World) (TA UA : Option Addr) (tc uc : Nat) (h : WkE P es env (.ok a) Y w) (hT : TyV w Y TA tc p.T) (hU : TyV w Y UA uc p.U) (gT : Gd p.T) (hG : ∀ env a t b, nx env a = some (.ok (t, b)) → Gd t) (hm : injM nx env p at0 a = some r) :
    Calls Tryz.prog 75 #[pk P, pv p TA tc UA uc, .int .i64 at0] w (WyPost P es env Y r w) := by
  obtain ⟨w1, hw1⟩ : ∃ w1, w1 = w.alloc (.cells #[.int .i64 p.k, .string p.lb, .string p.nm, .string p.bd, .int .i64 p.mn, .int .i64 p.num, .slice TA p.T.length tc, .slice UA p.U.length uc] 33) := ⟨_, rfl⟩
  have hpm := PtM.new h.lt hT hU
  have hb1 : Below w.heap.size w w1 := by rw [hw1]; exact ext_alloc (Below.refl _ _) _
  rw [← hw1] at hpm
  have G1 : Hid (Fr Y w w1 ∧ YNew Y Y w ∧ WkE P es env (.ok a) Y w1 ∧ PtM w1 Y w.heap.size p TA tc UA uc) := Lib.hid ⟨Fr.below hb1, YNew.refl _ _, h.later hb1, hpm⟩
  have HR := Lib.hid (show injM nx env p at0 a = some r from hm)
  have HD := Lib.hid (And.intro gT hG)
  clear h hT hU hm hG hpm hb1
  unfold pk pv
  go_enter Tryz.func75, Tryz.ntmps75
  go_upto_region 1 with fail
  rw [← hw1]
  clear hw1
  obtain ⟨k0, k1, k2, k3, k4, k6, k7⟩ := G1.out.2.2.2.cells
  rcases andA_some HR.out with ⟨x, h1, hr⟩ | ⟨t1, b1, h1, hr⟩
  · have HX := Lib.hid (HN.out env (.ok a) (.error x) Y w1 h1 G1.out.2.2.1)
    unfold pk at HX
    go_wp2_with fail
    refine HX.out.mono ?_
    rintro e w2 ⟨Y2, hf, hy, hk, rfl⟩
    clear HX
    clear k0 k1 k2 k3 k4 k6 k7
    have G2 : Hid (Fr Y w w2 ∧ YNew Y Y2 w ∧ WkE P es env (.error x) Y2 w2 ∧ PtM w2 Y2 w.heap.size p TA tc UA uc) := Lib.hid ⟨Fr.new G1.out.1 hf G1.out.2.1, YNew.trans G1.out.2.1 hy G1.out.1.size, hk, G1.out.2.2.2.fr hf hy⟩
    clear G1
    obtain ⟨k0, k1, k2, k3, k4, k6, k7⟩ := G2.out.2.2.2.cells
    clear hf hy hk
    have HX := Lib.hid (field_bad P es env x (.slice TA p.T.length tc) (.string p.nm) at0 Y2 w2 G2.out.2.2.1)
    unfold pk at HX
    go_wp2_with fail
    refine HX.out.mono ?_
    rintro e w3 ⟨Y3, hf, hy, hk, rfl⟩
    clear HX
    clear k0 k1 k2 k3 k4 k6 k7
    have G3 : Hid (Fr Y w w3 ∧ YNew Y Y3 w ∧ WkE P es env (.error x) Y3 w3 ∧ PtM w3 Y3 w.heap.size p TA tc UA uc) := Lib.hid ⟨Fr.new G2.out.1 hf G2.out.2.1, YNew.trans G2.out.2.1 hy G2.out.1.size, hk, G2.out.2.2.2.fr hf hy⟩
    clear G2
    obtain ⟨k0, k1, k2, k3, k4, k6, k7⟩ := G3.out.2.2.2.cells
    clear hf hy hk
    have HX := Lib.hid (agree_bad P es env x (.slice none 0 0) (.slice none 0 0) at0 Y3 w3 G3.out.2.2.1)
    unfold pk at HX
    go_wp2_with fail
    refine HX.out.mono ?_
    rintro e w4 ⟨⟨v4, rfl⟩, hf, hk⟩
    clear HX
    clear k0 k1 k2 k3 k4 k6 k7
    have G4 : Hid (Fr Y w w4 ∧ YNew Y Y3 w ∧ WkE P es env (.error x) Y3 w4 ∧ PtM w4 Y3 w.heap.size p TA tc UA uc) := Lib.hid ⟨Fr.new G3.out.1 hf G3.out.2.1, YNew.trans G3.out.2.1 (YNew.refl _ _) G3.out.1.size, hk, G3.out.2.2.2.fr hf (YNew.refl _ _)⟩
    clear G3
    obtain ⟨k0, k1, k2, k3, k4, k6, k7⟩ := G4.out.2.2.2.cells
    clear hf hk
    have HQ : Hid (WyPost P es env Y r w (.returned (.slice TA p.T.length tc)) w4) := Lib.hid (by
      subst hr
      exact ⟨Y3, G4.out.1, G4.out.2.1, G4.out.2.2.1, _, _, _, rfl⟩)
    go_wp2_with fail
    go_ret
    exact HQ.out
  · have HX := Lib.hid (HN.out env (.ok a) _ Y w1 h1 G1.out.2.2.1)
    unfold pk at HX
    go_wp2_with fail
    refine HX.out.mono ?_
    rintro e w2 ⟨Y2, hf, hy, hk, A2, c2, rfl, ht⟩
    clear HX
    clear k0 k1 k2 k3 k4 k6 k7
    have G2 : Hid (Fr Y w w2 ∧ YNew Y Y2 w ∧ WkE P es env (.ok b1) Y2 w2 ∧ PtM w2 Y2 w.heap.size p TA tc UA uc ∧ TyV w2 Y2 A2 c2 t1) := Lib.hid ⟨Fr.new G1.out.1 hf G1.out.2.1, YNew.trans G1.out.2.1 hy G1.out.1.size, hk, G1.out.2.2.2.fr hf hy, ht⟩
    clear G1
    obtain ⟨k0, k1, k2, k3, k4, k6, k7⟩ := G2.out.2.2.2.1.cells
    clear hf hy hk ht
    rcases andA_some hr with ⟨x, h2, hr⟩ | ⟨t2, b2, h2, hr⟩
    · have HX := Lib.hid (field_ok P es env b1 TA tc p.T p.nm at0 _ Y2 w2 G2.out.2.2.1 G2.out.2.2.2.1.T HD.out.1 h2)
      unfold pk at HX
      go_wp2_with fail
      refine HX.out.mono ?_
      rintro e w3 ⟨Y3, hf, hy, hk, rfl⟩
      clear HX
      clear k0 k1 k2 k3 k4 k6 k7
      have G3 : Hid (Fr Y w w3 ∧ YNew Y Y3 w ∧ WkE P es env (.error x) Y3 w3 ∧ PtM w3 Y3 w.heap.size p TA tc UA uc ∧ TyV w3 Y3 A2 c2 t1) := Lib.hid ⟨Fr.new G2.out.1 hf G2.out.2.1, YNew.trans G2.out.2.1 hy G2.out.1.size, hk, G2.out.2.2.2.1.fr hf hy, G2.out.2.2.2.2.fr hf hy⟩
      clear G2
      obtain ⟨k0, k1, k2, k3, k4, k6, k7⟩ := G3.out.2.2.2.1.cells
      clear hf hy hk
      have HX := Lib.hid (agree_bad P es env x (.slice A2 t1.length c2) (.slice none 0 0) at0 Y3 w3 G3.out.2.2.1)
      unfold pk at HX
      go_wp2_with fail
      refine HX.out.mono ?_
      rintro e w4 ⟨⟨v4, rfl⟩, hf, hk⟩
      clear HX
      clear k0 k1 k2 k3 k4 k6 k7
      have G4 : Hid (Fr Y w w4 ∧ YNew Y Y3 w ∧ WkE P es env (.error x) Y3 w4 ∧ PtM w4 Y3 w.heap.size p TA tc UA uc ∧ TyV w4 Y3 A2 c2 t1) := Lib.hid ⟨Fr.new G3.out.1 hf G3.out.2.1, YNew.trans G3.out.2.1 (YNew.refl _ _) G3.out.1.size, hk, G3.out.2.2.2.1.fr hf (YNew.refl _ _), G3.out.2.2.2.2.fr hf (YNew.refl _ _)⟩
      clear G3
      obtain ⟨k0, k1, k2, k3, k4, k6, k7⟩ := G4.out.2.2.2.1.cells
      clear hf hk
      have HQ : Hid (WyPost P es env Y r w (.returned (.slice TA p.T.length tc)) w4) := Lib.hid (by
        subst hr
        exact ⟨Y3, G4.out.1, G4.out.2.1, G4.out.2.2.1, _, _, _, rfl⟩)
      go_wp2_with fail
      go_ret
      exact HQ.out
    · have HX := Lib.hid (field_ok P es env b1 TA tc p.T p.nm at0 _ Y2 w2 G2.out.2.2.1 G2.out.2.2.2.1.T HD.out.1 h2)
      unfold pk at HX
      go_wp2_with fail
      refine HX.out.mono ?_
      rintro e w3 ⟨Y3, hf, hy, hk, A3, c3, rfl, ht⟩
      clear HX
      clear k0 k1 k2 k3 k4 k6 k7
      have G3 : Hid (Fr Y w w3 ∧ YNew Y Y3 w ∧ WkE P es env (.ok b2) Y3 w3 ∧ PtM w3 Y3 w.heap.size p TA tc UA uc ∧ TyV w3 Y3 A2 c2 t1 ∧ TyV w3 Y3 A3 c3 t2) := Lib.hid ⟨Fr.new G2.out.1 hf G2.out.2.1, YNew.trans G2.out.2.1 hy G2.out.1.size, hk, G2.out.2.2.2.1.fr hf hy, G2.out.2.2.2.2.fr hf hy, ht⟩
      clear G2
      obtain ⟨k0, k1, k2, k3, k4, k6, k7⟩ := G3.out.2.2.2.1.cells
      clear hf hy hk ht
      have HX := Lib.hid (agree_ok P es env b2 A2 A3 c2 c3 t1 t2 at0 Y3 w3 G3.out.2.2.1 G3.out.2.2.2.2.1.ty G3.out.2.2.2.2.2.ty (HD.out.2 _ _ _ _ h1) (gd_field HD.out.1 h2))
      unfold pk at HX
      go_wp2_with fail
      refine HX.out.mono ?_
      rintro e w4 ⟨⟨v4, rfl⟩, hf, hk⟩
      clear HX
      clear k0 k1 k2 k3 k4 k6 k7
      have G4 : Hid (Fr Y w w4 ∧ YNew Y Y3 w ∧ WkE P es env (agS t1 t2 at0 b2) Y3 w4 ∧ PtM w4 Y3 w.heap.size p TA tc UA uc ∧ TyV w4 Y3 A2 c2 t1 ∧ TyV w4 Y3 A3 c3 t2) := Lib.hid ⟨Fr.new G3.out.1 hf G3.out.2.1, YNew.trans G3.out.2.1 (YNew.refl _ _) G3.out.1.size, hk, G3.out.2.2.2.1.fr hf (YNew.refl _ _), G3.out.2.2.2.2.1.fr hf (YNew.refl _ _), G3.out.2.2.2.2.2.fr hf (YNew.refl _ _)⟩
      clear G3
      obtain ⟨k0, k1, k2, k3, k4, k6, k7⟩ := G4.out.2.2.2.1.cells
      clear hf hk
      cases hag : agB t1 t2 with
      | true =>
        have HQ : Hid (WyPost P es env Y r w (.returned (.slice TA p.T.length tc)) w4) := Lib.hid (by
          have hk := G4.out.2.2.1
          simp only [hag, agS, if_true] at hr hk
          injection hr with hr
          subst hr
          exact ⟨Y3, G4.out.1, G4.out.2.1, hk, _, _, rfl, G4.out.2.2.2.1.T⟩)
        go_wp2_with fail
        go_ret
        exact HQ.out
      | false =>
        have HQ : Hid (WyPost P es env Y r w (.returned (.slice TA p.T.length tc)) w4) := Lib.hid (by
          have hk := G4.out.2.2.1
          simp [hag, agS] at hr hk
          subst hr
          exact ⟨Y3, G4.out.1, G4.out.2.1, hk, _, _, _, rfl⟩)
        go_wp2_with fail
        go_ret
        exact HQ.out
set_option maxRecDepth 100000 in
set_option maxHeartbeats 8000000 in
theorem cond_any (P : Nat) (es : List Pt) (nx : Nx) (HN : Hid (NextC P es nx)) (env : Env) (p : Pt) (at0 a : Nat) (r : Ans) (Y : Nat → Prop) (w : World) (TA UA : Option Addr) (tc uc : Nat) (h : WkE P es env (.ok a) Y w) (hT : TyV w Y TA tc p.T) (hU : TyV w Y UA uc p.U) (hG : ∀ env a t b, nx env a = some (.ok (t, b)) → Gd t) (hm : condM nx env at0 a = some r) :
    Calls Tryz.prog 70 #[pk P, pv p TA tc UA uc, .int .i64 at0] w (WyPost P es env Y r w) := by
  obtain ⟨w1, hw1⟩ : ∃ w1, w1 = w.alloc (.cells #[.int .i64 p.k, .string p.lb, .string p.nm, .string p.bd, .int .i64 p.mn, .int .i64 p.num, .slice TA p.T.length tc, .slice UA p.U.length uc] 33) := ⟨_, rfl⟩
  have hpm := PtM.new h.lt hT hU
  have hb1 : Below w.heap.size w w1 := by rw [hw1]; exact ext_alloc (Below.refl _ _) _
  rw [← hw1] at hpm
  have G1 : Hid (Fr Y w w1 ∧ YNew Y Y w ∧ WkE P es env (.ok a) Y w1 ∧ PtM w1 Y w.heap.size p TA tc UA uc) := Lib.hid ⟨Fr.below hb1, YNew.refl _ _, h.later hb1, hpm⟩
  have HR := Lib.hid (show condM nx env at0 a = some r from hm)
  have HD := Lib.hid (hG)
  clear h hT hU hm hG hpm hb1
  unfold pk pv
  go_enter Tryz.func70, Tryz.ntmps70
  go_upto_region 1 with fail
  rw [← hw1]
  clear hw1
  obtain ⟨k0, k1, k2, k3, k4, k6, k7⟩ := G1.out.2.2.2.cells
  rcases andA_some HR.out with ⟨x, h1, hr⟩ | ⟨t1, b1, h1, hr⟩
  · have HX := Lib.hid (HN.out env (.ok a) (.error x) Y w1 h1 G1.out.2.2.1)
    unfold pk at HX
    go_wp2_with fail
    refine HX.out.mono ?_
    rintro e w2 ⟨Y2, hf, hy, hk, rfl⟩
    clear HX
    clear k0 k1 k2 k3 k4 k6 k7
    have G2 : Hid (Fr Y w w2 ∧ YNew Y Y2 w ∧ WkE P es env (.error x) Y2 w2 ∧ PtM w2 Y2 w.heap.size p TA tc UA uc) := Lib.hid ⟨Fr.new G1.out.1 hf G1.out.2.1, YNew.trans G1.out.2.1 hy G1.out.1.size, hk, G1.out.2.2.2.fr hf hy⟩
    clear G1
    obtain ⟨k0, k1, k2, k3, k4, k6, k7⟩ := G2.out.2.2.2.cells
    clear hf hy hk
    have HX := Lib.hid (HN.out env (.error x) (.error x) Y2 w2 rfl G2.out.2.2.1)
    unfold pk at HX
    go_wp2_with fail
    refine HX.out.mono ?_
    rintro e w3 ⟨Y3, hf, hy, hk, rfl⟩
    clear HX
    clear k0 k1 k2 k3 k4 k6 k7
    have G3 : Hid (Fr Y w w3 ∧ YNew Y Y3 w ∧ WkE P es env (.error x) Y3 w3 ∧ PtM w3 Y3 w.heap.size p TA tc UA uc) := Lib.hid ⟨Fr.new G2.out.1 hf G2.out.2.1, YNew.trans G2.out.2.1 hy G2.out.1.size, hk, G2.out.2.2.2.fr hf hy⟩
    clear G2
    obtain ⟨k0, k1, k2, k3, k4, k6, k7⟩ := G3.out.2.2.2.cells
    clear hf hy hk
    have HX := Lib.hid (HN.out env (.error x) (.error x) Y3 w3 rfl G3.out.2.2.1)
    unfold pk at HX
    go_wp2_with fail
    refine HX.out.mono ?_
    rintro e w4 ⟨Y4, hf, hy, hk, rfl⟩
    clear HX
    clear k0 k1 k2 k3 k4 k6 k7
    have G4 : Hid (Fr Y w w4 ∧ YNew Y Y4 w ∧ WkE P es env (.error x) Y4 w4 ∧ PtM w4 Y4 w.heap.size p TA tc UA uc) := Lib.hid ⟨Fr.new G3.out.1 hf G3.out.2.1, YNew.trans G3.out.2.1 hy G3.out.1.size, hk, G3.out.2.2.2.fr hf hy⟩
    clear G3
    obtain ⟨k0, k1, k2, k3, k4, k6, k7⟩ := G4.out.2.2.2.cells
    clear hf hy hk
    have HX := Lib.hid (base_any 2 w4)
    go_wp2_with fail
    refine HX.out.mono ?_
    rintro e w5 ⟨A5, c5, rfl, hown, hb⟩
    clear HX
    clear k0 k1 k2 k3 k4 k6 k7
    have G5 : Hid (Fr Y w w5 ∧ YNew Y Y4 w ∧ WkE P es env (.error x) Y4 w5 ∧ PtM w5 Y4 w.heap.size p TA tc UA uc ∧ TyV w5 Y4 A5 c5 (baseN 2)) := Lib.hid ⟨Fr.new G4.out.1 (Fr.below hb) G4.out.2.1, YNew.trans G4.out.2.1 (YNew.refl _ _) G4.out.1.size, (G4.out.2.2.1.later hb), G4.out.2.2.2.fr (Fr.below hb) (YNew.refl _ _), (TyV.own hown (G4.out.2.2.1.lt))⟩
    clear G4
    obtain ⟨k0, k1, k2, k3, k4, k6, k7⟩ := G5.out.2.2.2.1.cells
    clear hown hb
    have HX := Lib.hid (agree_bad P es env x (.slice none 0 0) (.slice A5 1 c5) at0 Y4 w5 G5.out.2.2.1)
    unfold pk at HX
    go_wp2_with fail
    refine HX.out.mono ?_
    rintro e w6 ⟨⟨v6, rfl⟩, hf, hk⟩
    clear HX
    clear k0 k1 k2 k3 k4 k6 k7
    have G6 : Hid (Fr Y w w6 ∧ YNew Y Y4 w ∧ WkE P es env (.error x) Y4 w6 ∧ PtM w6 Y4 w.heap.size p TA tc UA uc ∧ TyV w6 Y4 A5 c5 (baseN 2)) := Lib.hid ⟨Fr.new G5.out.1 hf G5.out.2.1, YNew.trans G5.out.2.1 (YNew.refl _ _) G5.out.1.size, hk, G5.out.2.2.2.1.fr hf (YNew.refl _ _), G5.out.2.2.2.2.fr hf (YNew.refl _ _)⟩
    clear G5
    obtain ⟨k0, k1, k2, k3, k4, k6, k7⟩ := G6.out.2.2.2.1.cells
    clear hf hk
    have HX := Lib.hid (meet_bad P es env x (.slice none 0 0) (.slice none 0 0) at0 Y4 w6 G6.out.2.2.1)
    unfold pk at HX
    go_wp2_with fail
    refine HX.out.mono ?_
    rintro e w7 ⟨Y7, hf, hy, hk, rfl⟩
    clear HX
    clear k0 k1 k2 k3 k4 k6 k7
    have G7 : Hid (Fr Y w w7 ∧ YNew Y Y7 w ∧ WkE P es env (.error x) Y7 w7 ∧ PtM w7 Y7 w.heap.size p TA tc UA uc ∧ TyV w7 Y7 A5 c5 (baseN 2)) := Lib.hid ⟨Fr.new G6.out.1 hf G6.out.2.1, YNew.trans G6.out.2.1 hy G6.out.1.size, hk, G6.out.2.2.2.1.fr hf hy, G6.out.2.2.2.2.fr hf hy⟩
    clear G6
    obtain ⟨k0, k1, k2, k3, k4, k6, k7⟩ := G7.out.2.2.2.1.cells
    clear hf hy hk
    have HQ : Hid (WyPost P es env Y r w (.returned (.slice none 0 0)) w7) := Lib.hid (by
      subst hr
      exact ⟨Y7, G7.out.1, G7.out.2.1, G7.out.2.2.1, _, _, _, rfl⟩)
    go_wp2_with fail
    go_ret
    exact HQ.out
  · have HX := Lib.hid (HN.out env (.ok a) _ Y w1 h1 G1.out.2.2.1)
    unfold pk at HX
    go_wp2_with fail
    refine HX.out.mono ?_
    rintro e w2 ⟨Y2, hf, hy, hk, A2, c2, rfl, ht⟩
    clear HX
    clear k0 k1 k2 k3 k4 k6 k7
    have G2 : Hid (Fr Y w w2 ∧ YNew Y Y2 w ∧ WkE P es env (.ok b1) Y2 w2 ∧ PtM w2 Y2 w.heap.size p TA tc UA uc ∧ TyV w2 Y2 A2 c2 t1) := Lib.hid ⟨Fr.new G1.out.1 hf G1.out.2.1, YNew.trans G1.out.2.1 hy G1.out.1.size, hk, G1.out.2.2.2.fr hf hy, ht⟩
    clear G1
    obtain ⟨k0, k1, k2, k3, k4, k6, k7⟩ := G2.out.2.2.2.1.cells
    clear hf hy hk ht
    rcases andA_some hr with ⟨x, h2, hr⟩ | ⟨t2, b2, h2, hr⟩
    · have HX := Lib.hid (HN.out env (.ok b1) (.error x) Y2 w2 h2 G2.out.2.2.1)
      unfold pk at HX
      go_wp2_with fail
      refine HX.out.mono ?_
      rintro e w3 ⟨Y3, hf, hy, hk, rfl⟩
      clear HX
      clear k0 k1 k2 k3 k4 k6 k7
      have G3 : Hid (Fr Y w w3 ∧ YNew Y Y3 w ∧ WkE P es env (.error x) Y3 w3 ∧ PtM w3 Y3 w.heap.size p TA tc UA uc ∧ TyV w3 Y3 A2 c2 t1) := Lib.hid ⟨Fr.new G2.out.1 hf G2.out.2.1, YNew.trans G2.out.2.1 hy G2.out.1.size, hk, G2.out.2.2.2.1.fr hf hy, G2.out.2.2.2.2.fr hf hy⟩
      clear G2
      obtain ⟨k0, k1, k2, k3, k4, k6, k7⟩ := G3.out.2.2.2.1.cells
      clear hf hy hk
      have HX := Lib.hid (HN.out env (.error x) (.error x) Y3 w3 rfl G3.out.2.2.1)
      unfold pk at HX
      go_wp2_with fail
      refine HX.out.mono ?_
      rintro e w4 ⟨Y4, hf, hy, hk, rfl⟩
      clear HX
      clear k0 k1 k2 k3 k4 k6 k7
      have G4 : Hid (Fr Y w w4 ∧ YNew Y Y4 w ∧ WkE P es env (.error x) Y4 w4 ∧ PtM w4 Y4 w.heap.size p TA tc UA uc ∧ TyV w4 Y4 A2 c2 t1) := Lib.hid ⟨Fr.new G3.out.1 hf G3.out.2.1, YNew.trans G3.out.2.1 hy G3.out.1.size, hk, G3.out.2.2.2.1.fr hf hy, G3.out.2.2.2.2.fr hf hy⟩
      clear G3
      obtain ⟨k0, k1, k2, k3, k4, k6, k7⟩ := G4.out.2.2.2.1.cells
      clear hf hy hk
      have HX := Lib.hid (base_any 2 w4)
      go_wp2_with fail
      refine HX.out.mono ?_
      rintro e w5 ⟨A5, c5, rfl, hown, hb⟩
      clear HX
      clear k0 k1 k2 k3 k4 k6 k7
      have G5 : Hid (Fr Y w w5 ∧ YNew Y Y4 w ∧ WkE P es env (.error x) Y4 w5 ∧ PtM w5 Y4 w.heap.size p TA tc UA uc ∧ TyV w5 Y4 A2 c2 t1 ∧ TyV w5 Y4 A5 c5 (baseN 2)) := Lib.hid ⟨Fr.new G4.out.1 (Fr.below hb) G4.out.2.1, YNew.trans G4.out.2.1 (YNew.refl _ _) G4.out.1.size, (G4.out.2.2.1.later hb), G4.out.2.2.2.1.fr (Fr.below hb) (YNew.refl _ _), G4.out.2.2.2.2.fr (Fr.below hb) (YNew.refl _ _), (TyV.own hown (G4.out.2.2.1.lt))⟩
      clear G4
      obtain ⟨k0, k1, k2, k3, k4, k6, k7⟩ := G5.out.2.2.2.1.cells
      clear hown hb
      have HX := Lib.hid (agree_bad P es env x (.slice A2 t1.length c2) (.slice A5 1 c5) at0 Y4 w5 G5.out.2.2.1)
      unfold pk at HX
      go_wp2_with fail
      refine HX.out.mono ?_
      rintro e w6 ⟨⟨v6, rfl⟩, hf, hk⟩
      clear HX
      clear k0 k1 k2 k3 k4 k6 k7
      have G6 : Hid (Fr Y w w6 ∧ YNew Y Y4 w ∧ WkE P es env (.error x) Y4 w6 ∧ PtM w6 Y4 w.heap.size p TA tc UA uc ∧ TyV w6 Y4 A2 c2 t1 ∧ TyV w6 Y4 A5 c5 (baseN 2)) := Lib.hid ⟨Fr.new G5.out.1 hf G5.out.2.1, YNew.trans G5.out.2.1 (YNew.refl _ _) G5.out.1.size, hk, G5.out.2.2.2.1.fr hf (YNew.refl _ _), G5.out.2.2.2.2.1.fr hf (YNew.refl _ _), G5.out.2.2.2.2.2.fr hf (YNew.refl _ _)⟩
      clear G5
      obtain ⟨k0, k1, k2, k3, k4, k6, k7⟩ := G6.out.2.2.2.1.cells
      clear hf hk
      have HX := Lib.hid (meet_bad P es env x (.slice none 0 0) (.slice none 0 0) at0 Y4 w6 G6.out.2.2.1)
      unfold pk at HX
      go_wp2_with fail
      refine HX.out.mono ?_
      rintro e w7 ⟨Y7, hf, hy, hk, rfl⟩
      clear HX
      clear k0 k1 k2 k3 k4 k6 k7
      have G7 : Hid (Fr Y w w7 ∧ YNew Y Y7 w ∧ WkE P es env (.error x) Y7 w7 ∧ PtM w7 Y7 w.heap.size p TA tc UA uc ∧ TyV w7 Y7 A2 c2 t1 ∧ TyV w7 Y7 A5 c5 (baseN 2)) := Lib.hid ⟨Fr.new G6.out.1 hf G6.out.2.1, YNew.trans G6.out.2.1 hy G6.out.1.size, hk, G6.out.2.2.2.1.fr hf hy, G6.out.2.2.2.2.1.fr hf hy, G6.out.2.2.2.2.2.fr hf hy⟩
      clear G6
      obtain ⟨k0, k1, k2, k3, k4, k6, k7⟩ := G7.out.2.2.2.1.cells
      clear hf hy hk
      have HQ : Hid (WyPost P es env Y r w (.returned (.slice none 0 0)) w7) := Lib.hid (by
        subst hr
        exact ⟨Y7, G7.out.1, G7.out.2.1, G7.out.2.2.1, _, _, _, rfl⟩)
      go_wp2_with fail
      go_ret
      exact HQ.out
    · have HX := Lib.hid (HN.out env (.ok b1) _ Y2 w2 h2 G2.out.2.2.1)
      unfold pk at HX
      go_wp2_with fail
      refine HX.out.mono ?_
      rintro e w3 ⟨Y3, hf, hy, hk, A3, c3, rfl, ht⟩
      clear HX
      clear k0 k1 k2 k3 k4 k6 k7
      have G3 : Hid (Fr Y w w3 ∧ YNew Y Y3 w ∧ WkE P es env (.ok b2) Y3 w3 ∧ PtM w3 Y3 w.heap.size p TA tc UA uc ∧ TyV w3 Y3 A2 c2 t1 ∧ TyV w3 Y3 A3 c3 t2) := Lib.hid ⟨Fr.new G2.out.1 hf G2.out.2.1, YNew.trans G2.out.2.1 hy G2.out.1.size, hk, G2.out.2.2.2.1.fr hf hy, G2.out.2.2.2.2.fr hf hy, ht⟩
      clear G2
      obtain ⟨k0, k1, k2, k3, k4, k6, k7⟩ := G3.out.2.2.2.1.cells
      clear hf hy hk ht
      rcases andA_some hr with ⟨x, h3, hr⟩ | ⟨t3, b3, h3, hr⟩
      · have HX := Lib.hid (HN.out env (.ok b2) (.error x) Y3 w3 h3 G3.out.2.2.1)
        unfold pk at HX
        go_wp2_with fail
        refine HX.out.mono ?_
        rintro e w4 ⟨Y4, hf, hy, hk, rfl⟩
        clear HX
        clear k0 k1 k2 k3 k4 k6 k7
        have G4 : Hid (Fr Y w w4 ∧ YNew Y Y4 w ∧ WkE P es env (.error x) Y4 w4 ∧ PtM w4 Y4 w.heap.size p TA tc UA uc ∧ TyV w4 Y4 A2 c2 t1 ∧ TyV w4 Y4 A3 c3 t2) := Lib.hid ⟨Fr.new G3.out.1 hf G3.out.2.1, YNew.trans G3.out.2.1 hy G3.out.1.size, hk, G3.out.2.2.2.1.fr hf hy, G3.out.2.2.2.2.1.fr hf hy, G3.out.2.2.2.2.2.fr hf hy⟩
        clear G3
        obtain ⟨k0, k1, k2, k3, k4, k6, k7⟩ := G4.out.2.2.2.1.cells
        clear hf hy hk
        have HX := Lib.hid (base_any 2 w4)
        go_wp2_with fail
        refine HX.out.mono ?_
        rintro e w5 ⟨A5, c5, rfl, hown, hb⟩
        clear HX
        clear k0 k1 k2 k3 k4 k6 k7
        have G5 : Hid (Fr Y w w5 ∧ YNew Y Y4 w ∧ WkE P es env (.error x) Y4 w5 ∧ PtM w5 Y4 w.heap.size p TA tc UA uc ∧ TyV w5 Y4 A2 c2 t1 ∧ TyV w5 Y4 A3 c3 t2 ∧ TyV w5 Y4 A5 c5 (baseN 2)) := Lib.hid ⟨Fr.new G4.out.1 (Fr.below hb) G4.out.2.1, YNew.trans G4.out.2.1 (YNew.refl _ _) G4.out.1.size, (G4.out.2.2.1.later hb), G4.out.2.2.2.1.fr (Fr.below hb) (YNew.refl _ _), G4.out.2.2.2.2.1.fr (Fr.below hb) (YNew.refl _ _), G4.out.2.2.2.2.2.fr (Fr.below hb) (YNew.refl _ _), (TyV.own hown (G4.out.2.2.1.lt))⟩
        clear G4
        obtain ⟨k0, k1, k2, k3, k4, k6, k7⟩ := G5.out.2.2.2.1.cells
        clear hown hb
        have HX := Lib.hid (agree_bad P es env x (.slice A2 t1.length c2) (.slice A5 1 c5) at0 Y4 w5 G5.out.2.2.1)
        unfold pk at HX
        go_wp2_with fail
        refine HX.out.mono ?_
        rintro e w6 ⟨⟨v6, rfl⟩, hf, hk⟩
        clear HX
        clear k0 k1 k2 k3 k4 k6 k7
        have G6 : Hid (Fr Y w w6 ∧ YNew Y Y4 w ∧ WkE P es env (.error x) Y4 w6 ∧ PtM w6 Y4 w.heap.size p TA tc UA uc ∧ TyV w6 Y4 A2 c2 t1 ∧ TyV w6 Y4 A3 c3 t2 ∧ TyV w6 Y4 A5 c5 (baseN 2)) := Lib.hid ⟨Fr.new G5.out.1 hf G5.out.2.1, YNew.trans G5.out.2.1 (YNew.refl _ _) G5.out.1.size, hk, G5.out.2.2.2.1.fr hf (YNew.refl _ _), G5.out.2.2.2.2.1.fr hf (YNew.refl _ _), G5.out.2.2.2.2.2.1.fr hf (YNew.refl _ _), G5.out.2.2.2.2.2.2.fr hf (YNew.refl _ _)⟩
        clear G5
        obtain ⟨k0, k1, k2, k3, k4, k6, k7⟩ := G6.out.2.2.2.1.cells
        clear hf hk
        have HX := Lib.hid (meet_bad P es env x (.slice A3 t2.length c3) (.slice none 0 0) at0 Y4 w6 G6.out.2.2.1)
        unfold pk at HX
        go_wp2_with fail
        refine HX.out.mono ?_
        rintro e w7 ⟨Y7, hf, hy, hk, rfl⟩
        clear HX
        clear k0 k1 k2 k3 k4 k6 k7
        have G7 : Hid (Fr Y w w7 ∧ YNew Y Y7 w ∧ WkE P es env (.error x) Y7 w7 ∧ PtM w7 Y7 w.heap.size p TA tc UA uc ∧ TyV w7 Y7 A2 c2 t1 ∧ TyV w7 Y7 A3 c3 t2 ∧ TyV w7 Y7 A5 c5 (baseN 2)) := Lib.hid ⟨Fr.new G6.out.1 hf G6.out.2.1, YNew.trans G6.out.2.1 hy G6.out.1.size, hk, G6.out.2.2.2.1.fr hf hy, G6.out.2.2.2.2.1.fr hf hy, G6.out.2.2.2.2.2.1.fr hf hy, G6.out.2.2.2.2.2.2.fr hf hy⟩
        clear G6
        obtain ⟨k0, k1, k2, k3, k4, k6, k7⟩ := G7.out.2.2.2.1.cells
        clear hf hy hk
        have HQ : Hid (WyPost P es env Y r w (.returned (.slice none 0 0)) w7) := Lib.hid (by
          subst hr
          exact ⟨Y7, G7.out.1, G7.out.2.1, G7.out.2.2.1, _, _, _, rfl⟩)
        go_wp2_with fail
        go_ret
        exact HQ.out
      · have HX := Lib.hid (HN.out env (.ok b2) _ Y3 w3 h3 G3.out.2.2.1)
        unfold pk at HX
        go_wp2_with fail
        refine HX.out.mono ?_
        rintro e w4 ⟨Y4, hf, hy, hk, A4, c4, rfl, ht⟩
        clear HX
        clear k0 k1 k2 k3 k4 k6 k7
        have G4 : Hid (Fr Y w w4 ∧ YNew Y Y4 w ∧ WkE P es env (.ok b3) Y4 w4 ∧ PtM w4 Y4 w.heap.size p TA tc UA uc ∧ TyV w4 Y4 A2 c2 t1 ∧ TyV w4 Y4 A3 c3 t2 ∧ TyV w4 Y4 A4 c4 t3) := Lib.hid ⟨Fr.new G3.out.1 hf G3.out.2.1, YNew.trans G3.out.2.1 hy G3.out.1.size, hk, G3.out.2.2.2.1.fr hf hy, G3.out.2.2.2.2.1.fr hf hy, G3.out.2.2.2.2.2.fr hf hy, ht⟩
        clear G3
        obtain ⟨k0, k1, k2, k3, k4, k6, k7⟩ := G4.out.2.2.2.1.cells
        clear hf hy hk ht
        have HX := Lib.hid (base_any 2 w4)
        go_wp2_with fail
        refine HX.out.mono ?_
        rintro e w5 ⟨A5, c5, rfl, hown, hb⟩
        clear HX
        clear k0 k1 k2 k3 k4 k6 k7
        have G5 : Hid (Fr Y w w5 ∧ YNew Y Y4 w ∧ WkE P es env (.ok b3) Y4 w5 ∧ PtM w5 Y4 w.heap.size p TA tc UA uc ∧ TyV w5 Y4 A2 c2 t1 ∧ TyV w5 Y4 A3 c3 t2 ∧ TyV w5 Y4 A4 c4 t3 ∧ TyV w5 Y4 A5 c5 (baseN 2)) := Lib.hid ⟨Fr.new G4.out.1 (Fr.below hb) G4.out.2.1, YNew.trans G4.out.2.1 (YNew.refl _ _) G4.out.1.size, (G4.out.2.2.1.later hb), G4.out.2.2.2.1.fr (Fr.below hb) (YNew.refl _ _), G4.out.2.2.2.2.1.fr (Fr.below hb) (YNew.refl _ _), G4.out.2.2.2.2.2.1.fr (Fr.below hb) (YNew.refl _ _), G4.out.2.2.2.2.2.2.fr (Fr.below hb) (YNew.refl _ _), (TyV.own hown (G4.out.2.2.1.lt))⟩
        clear G4
        obtain ⟨k0, k1, k2, k3, k4, k6, k7⟩ := G5.out.2.2.2.1.cells
        clear hown hb
        have HX := Lib.hid (agree_ok P es env b3 A2 A5 c2 c5 t1 (baseN 2) at0 Y4 w5 G5.out.2.2.1 G5.out.2.2.2.2.1.ty G5.out.2.2.2.2.2.2.2.ty (HD.out _ _ _ _ h1) (gd_base 2 (by decide)))
        unfold pk at HX
        go_wp2_with fail
        refine HX.out.mono ?_
        rintro e w6 ⟨⟨v6, rfl⟩, hf, hk⟩
        clear HX
        clear k0 k1 k2 k3 k4 k6 k7
        have G6 : Hid (Fr Y w w6 ∧ YNew Y Y4 w ∧ WkE P es env (agS t1 (baseN 2) at0 b3) Y4 w6 ∧ PtM w6 Y4 w.heap.size p TA tc UA uc ∧ TyV w6 Y4 A2 c2 t1 ∧ TyV w6 Y4 A3 c3 t2 ∧ TyV w6 Y4 A4 c4 t3 ∧ TyV w6 Y4 A5 c5 (baseN 2)) := Lib.hid ⟨Fr.new G5.out.1 hf G5.out.2.1, YNew.trans G5.out.2.1 (YNew.refl _ _) G5.out.1.size, hk, G5.out.2.2.2.1.fr hf (YNew.refl _ _), G5.out.2.2.2.2.1.fr hf (YNew.refl _ _), G5.out.2.2.2.2.2.1.fr hf (YNew.refl _ _), G5.out.2.2.2.2.2.2.1.fr hf (YNew.refl _ _), G5.out.2.2.2.2.2.2.2.fr hf (YNew.refl _ _)⟩
        clear G5
        obtain ⟨k0, k1, k2, k3, k4, k6, k7⟩ := G6.out.2.2.2.1.cells
        clear hf hk
        cases hag : agB t1 (baseN 2) with
        | true =>
          have hr2 : meetA t2 t3 at0 b3 = some r := by rw [hag, if_pos rfl] at hr; exact hr
          have hk2 : WkE P es env (.ok b3) Y4 w6 := by have hk := G6.out.2.2.1; unfold agS at hk; rw [hag, if_pos rfl] at hk; exact hk
          have HX := Lib.hid (meet_ok P es env b3 A3 A4 c3 c4 t2 t3 at0 r Y4 w6 hk2 G6.out.2.2.2.2.2.1 G6.out.2.2.2.2.2.2.1 (HD.out _ _ _ _ h2) (HD.out _ _ _ _ h3) hr2)
          unfold pk at HX
          clear hk2 hr2
          go_wp2_with fail
          refine HX.out.mono ?_
          intro e w9 hp
          have HQ := Lib.hid (hp.to G6.out.1 G6.out.2.1)
          clear hp
          obtain ⟨v9, hv9⟩ := HQ.out.ret
          subst hv9
          go_wp2_with fail
          go_ret
          exact HQ.out
        | false =>
          have hk2 : WkE P es env (.error (at0, 9)) Y4 w6 := by have hk := G6.out.2.2.1; unfold agS at hk; rw [hag, if_neg (by simp)] at hk; exact hk
          have HX := Lib.hid (meet_bad P es env (at0, 9) (.slice A3 t2.length c3) (.slice A4 t3.length c4) at0 Y4 w6 hk2)
          unfold pk at HX
          go_wp2_with fail
          refine HX.out.mono ?_
          rintro e w7 ⟨Y7, hf, hy, hk, rfl⟩
          clear HX
          clear k0 k1 k2 k3 k4 k6 k7
          have G7 : Hid (Fr Y w w7 ∧ YNew Y Y7 w ∧ WkE P es env (.error (at0, 9)) Y7 w7 ∧ PtM w7 Y7 w.heap.size p TA tc UA uc ∧ TyV w7 Y7 A2 c2 t1 ∧ TyV w7 Y7 A3 c3 t2 ∧ TyV w7 Y7 A4 c4 t3 ∧ TyV w7 Y7 A5 c5 (baseN 2)) := Lib.hid ⟨Fr.new G6.out.1 hf G6.out.2.1, YNew.trans G6.out.2.1 hy G6.out.1.size, hk, G6.out.2.2.2.1.fr hf hy, G6.out.2.2.2.2.1.fr hf hy, G6.out.2.2.2.2.2.1.fr hf hy, G6.out.2.2.2.2.2.2.1.fr hf hy, G6.out.2.2.2.2.2.2.2.fr hf hy⟩
          clear G6
          obtain ⟨k0, k1, k2, k3, k4, k6, k7⟩ := G7.out.2.2.2.1.cells
          clear hf hy hk
          have HQ : Hid (WyPost P es env Y r w (.returned (.slice none 0 0)) w7) := Lib.hid (by
            simp [hag] at hr
            subst hr
            exact ⟨Y7, G7.out.1, G7.out.2.1, G7.out.2.2.1, _, _, _, rfl⟩)
          go_wp2_with fail
          go_ret
          exact HQ.out
set_option maxRecDepth 100000 in
set_option maxHeartbeats 8000000 in
theorem app_any (P : Nat) (es : List Pt) (nx : Nx) (HN : Hid (NextC P es nx)) (env : Env) (p : Pt) (at0 a : Nat) (r : Ans) (Y : Nat → Prop) (w : World) (TA UA : Option Addr) (tc uc : Nat) (h : WkE P es env (.ok a) Y w) (hT : TyV w Y TA tc p.T) (hU : TyV w Y UA uc p.U) (hG : ∀ env a t b, nx env a = some (.ok (t, b)) → Gd t) (hm : appM nx env at0 a = some r) :
    Calls Tryz.prog 67 #[pk P, pv p TA tc UA uc, .int .i64 at0] w (WyPost P es env Y r w) := by
  obtain ⟨w1, hw1⟩ : ∃ w1, w1 = w.alloc (.cells #[.int .i64 p.k, .string p.lb, .string p.nm, .string p.bd, .int .i64 p.mn, .int .i64 p.num, .slice TA p.T.length tc, .slice UA p.U.length uc] 33) := ⟨_, rfl⟩
  have hpm := PtM.new h.lt hT hU
  have hb1 : Below w.heap.size w w1 := by rw [hw1]; exact ext_alloc (Below.refl _ _) _
  rw [← hw1] at hpm
  have G1 : Hid (Fr Y w w1 ∧ YNew Y Y w ∧ WkE P es env (.ok a) Y w1 ∧ PtM w1 Y w.heap.size p TA tc UA uc) := Lib.hid ⟨Fr.below hb1, YNew.refl _ _, h.later hb1, hpm⟩
  have HR := Lib.hid (show appM nx env at0 a = some r from hm)
  have HD := Lib.hid (hG)
  clear h hT hU hm hG hpm hb1
  unfold pk pv
  go_enter Tryz.func67, Tryz.ntmps67
  go_upto_region 1 with fail
  rw [← hw1]
  clear hw1
  obtain ⟨k0, k1, k2, k3, k4, k6, k7⟩ := G1.out.2.2.2.cells
  rcases andA_some HR.out with ⟨x, h1, hr⟩ | ⟨t1, b1, h1, hr⟩
  · have HX := Lib.hid (HN.out env (.ok a) (.error x) Y w1 h1 G1.out.2.2.1)
    unfold pk at HX
    go_wp2_with fail
    refine HX.out.mono ?_
    rintro e w2 ⟨Y2, hf, hy, hk, rfl⟩
    clear HX
    clear k0 k1 k2 k3 k4 k6 k7
    have G2 : Hid (Fr Y w w2 ∧ YNew Y Y2 w ∧ WkE P es env (.error x) Y2 w2 ∧ PtM w2 Y2 w.heap.size p TA tc UA uc) := Lib.hid ⟨Fr.new G1.out.1 hf G1.out.2.1, YNew.trans G1.out.2.1 hy G1.out.1.size, hk, G1.out.2.2.2.fr hf hy⟩
    clear G1
    obtain ⟨k0, k1, k2, k3, k4, k6, k7⟩ := G2.out.2.2.2.cells
    clear hf hy hk
    have HX := Lib.hid (HN.out env (.error x) (.error x) Y2 w2 rfl G2.out.2.2.1)
    unfold pk at HX
    go_wp2_with fail
    refine HX.out.mono ?_
    rintro e w3 ⟨Y3, hf, hy, hk, rfl⟩
    clear HX
    clear k0 k1 k2 k3 k4 k6 k7
    have G3 : Hid (Fr Y w w3 ∧ YNew Y Y3 w ∧ WkE P es env (.error x) Y3 w3 ∧ PtM w3 Y3 w.heap.size p TA tc UA uc) := Lib.hid ⟨Fr.new G2.out.1 hf G2.out.2.1, YNew.trans G2.out.2.1 hy G2.out.1.size, hk, G2.out.2.2.2.fr hf hy⟩
    clear G2
    obtain ⟨k0, k1, k2, k3, k4, k6, k7⟩ := G3.out.2.2.2.cells
    clear hf hy hk
    have HX := Lib.hid (ok_any P es env _ _ _ G3.out.2.2.1)
    simp only [okS] at HX
    unfold pk at HX
    go_wp2_with fail
    refine HX.out.mono ?_
    rintro e w4 ⟨rfl, hb⟩
    clear HX
    clear k0 k1 k2 k3 k4 k6 k7
    have G4 : Hid (Fr Y w w4 ∧ YNew Y Y3 w ∧ WkE P es env (.error x) Y3 w4 ∧ PtM w4 Y3 w.heap.size p TA tc UA uc) := Lib.hid ⟨Fr.new G3.out.1 (Fr.below hb) G3.out.2.1, YNew.trans G3.out.2.1 (YNew.refl _ _) G3.out.1.size, (G3.out.2.2.1.later hb), G3.out.2.2.2.fr (Fr.below hb) (YNew.refl _ _)⟩
    clear G3
    obtain ⟨k0, k1, k2, k3, k4, k6, k7⟩ := G4.out.2.2.2.cells
    clear hb
    have HQ : Hid (WyPost P es env Y r w (.returned (.slice none 0 0)) w4) := Lib.hid (by
      subst hr
      exact ⟨Y3, G4.out.1, G4.out.2.1, G4.out.2.2.1, _, _, _, rfl⟩)
    go_wp2_with fail
    go_ret
    exact HQ.out
  · have HX := Lib.hid (HN.out env (.ok a) _ Y w1 h1 G1.out.2.2.1)
    unfold pk at HX
    go_wp2_with fail
    refine HX.out.mono ?_
    rintro e w2 ⟨Y2, hf, hy, hk, A2, c2, rfl, ht⟩
    clear HX
    clear k0 k1 k2 k3 k4 k6 k7
    have G2 : Hid (Fr Y w w2 ∧ YNew Y Y2 w ∧ WkE P es env (.ok b1) Y2 w2 ∧ PtM w2 Y2 w.heap.size p TA tc UA uc ∧ TyV w2 Y2 A2 c2 t1) := Lib.hid ⟨Fr.new G1.out.1 hf G1.out.2.1, YNew.trans G1.out.2.1 hy G1.out.1.size, hk, G1.out.2.2.2.fr hf hy, ht⟩
    clear G1
    obtain ⟨k0, k1, k2, k3, k4, k6, k7⟩ := G2.out.2.2.2.1.cells
    clear hf hy hk ht
    rcases andA_some hr with ⟨x, h2, hr⟩ | ⟨t2, b2, h2, hr⟩
    · have HX := Lib.hid (HN.out env (.ok b1) (.error x) Y2 w2 h2 G2.out.2.2.1)
      unfold pk at HX
      go_wp2_with fail
      refine HX.out.mono ?_
      rintro e w3 ⟨Y3, hf, hy, hk, rfl⟩
      clear HX
      clear k0 k1 k2 k3 k4 k6 k7
      have G3 : Hid (Fr Y w w3 ∧ YNew Y Y3 w ∧ WkE P es env (.error x) Y3 w3 ∧ PtM w3 Y3 w.heap.size p TA tc UA uc ∧ TyV w3 Y3 A2 c2 t1) := Lib.hid ⟨Fr.new G2.out.1 hf G2.out.2.1, YNew.trans G2.out.2.1 hy G2.out.1.size, hk, G2.out.2.2.2.1.fr hf hy, G2.out.2.2.2.2.fr hf hy⟩
      clear G2
      obtain ⟨k0, k1, k2, k3, k4, k6, k7⟩ := G3.out.2.2.2.1.cells
      clear hf hy hk
      have HX := Lib.hid (ok_any P es env _ _ _ G3.out.2.2.1)
      simp only [okS] at HX
      unfold pk at HX
      go_wp2_with fail
      refine HX.out.mono ?_
      rintro e w4 ⟨rfl, hb⟩
      clear HX
      clear k0 k1 k2 k3 k4 k6 k7
      have G4 : Hid (Fr Y w w4 ∧ YNew Y Y3 w ∧ WkE P es env (.error x) Y3 w4 ∧ PtM w4 Y3 w.heap.size p TA tc UA uc ∧ TyV w4 Y3 A2 c2 t1) := Lib.hid ⟨Fr.new G3.out.1 (Fr.below hb) G3.out.2.1, YNew.trans G3.out.2.1 (YNew.refl _ _) G3.out.1.size, (G3.out.2.2.1.later hb), G3.out.2.2.2.1.fr (Fr.below hb) (YNew.refl _ _), G3.out.2.2.2.2.fr (Fr.below hb) (YNew.refl _ _)⟩
      clear G3
      obtain ⟨k0, k1, k2, k3, k4, k6, k7⟩ := G4.out.2.2.2.1.cells
      clear hb
      have HQ : Hid (WyPost P es env Y r w (.returned (.slice none 0 0)) w4) := Lib.hid (by
        subst hr
        exact ⟨Y3, G4.out.1, G4.out.2.1, G4.out.2.2.1, _, _, _, rfl⟩)
      go_wp2_with fail
      go_ret
      exact HQ.out
    · have HX := Lib.hid (HN.out env (.ok b1) _ Y2 w2 h2 G2.out.2.2.1)
      unfold pk at HX
      go_wp2_with fail
      refine HX.out.mono ?_
      rintro e w3 ⟨Y3, hf, hy, hk, A3, c3, rfl, ht⟩
      clear HX
      clear k0 k1 k2 k3 k4 k6 k7
      have G3 : Hid (Fr Y w w3 ∧ YNew Y Y3 w ∧ WkE P es env (.ok b2) Y3 w3 ∧ PtM w3 Y3 w.heap.size p TA tc UA uc ∧ TyV w3 Y3 A2 c2 t1 ∧ TyV w3 Y3 A3 c3 t2) := Lib.hid ⟨Fr.new G2.out.1 hf G2.out.2.1, YNew.trans G2.out.2.1 hy G2.out.1.size, hk, G2.out.2.2.2.1.fr hf hy, G2.out.2.2.2.2.fr hf hy, ht⟩
      clear G2
      obtain ⟨k0, k1, k2, k3, k4, k6, k7⟩ := G3.out.2.2.2.1.cells
      clear hf hy hk ht
      have HX := Lib.hid (ok_any P es env _ _ _ G3.out.2.2.1)
      simp only [okS] at HX
      unfold pk at HX
      go_wp2_with fail
      refine HX.out.mono ?_
      rintro e w4 ⟨rfl, hb⟩
      clear HX
      clear k0 k1 k2 k3 k4 k6 k7
      have G4 : Hid (Fr Y w w4 ∧ YNew Y Y3 w ∧ WkE P es env (.ok b2) Y3 w4 ∧ PtM w4 Y3 w.heap.size p TA tc UA uc ∧ TyV w4 Y3 A2 c2 t1 ∧ TyV w4 Y3 A3 c3 t2) := Lib.hid ⟨Fr.new G3.out.1 (Fr.below hb) G3.out.2.1, YNew.trans G3.out.2.1 (YNew.refl _ _) G3.out.1.size, (G3.out.2.2.1.later hb), G3.out.2.2.2.1.fr (Fr.below hb) (YNew.refl _ _), G3.out.2.2.2.2.1.fr (Fr.below hb) (YNew.refl _ _), G3.out.2.2.2.2.2.fr (Fr.below hb) (YNew.refl _ _)⟩
      clear G3
      obtain ⟨k0, k1, k2, k3, k4, k6, k7⟩ := G4.out.2.2.2.1.cells
      clear hb
      have HC := Lib.hid (call_any A2 c2 t1 w4 G4.out.2.2.2.2.1.ty.tyA (HD.out _ _ _ _ h1) G4.out.2.2.2.2.1.cap)
      cases hc : callM t1 with
      | none =>
        go_wp2_with fail
        refine HC.out.mono ?_
        rintro e w5 ⟨hb, h9⟩
        rw [hc] at h9
        subst h9
        clear k0 k1 k2 k3 k4 k6 k7
        have G5 : Hid (Fr Y w w5 ∧ YNew Y Y3 w ∧ WkE P es env (.ok b2) Y3 w5 ∧ PtM w5 Y3 w.heap.size p TA tc UA uc ∧ TyV w5 Y3 A2 c2 t1 ∧ TyV w5 Y3 A3 c3 t2) := Lib.hid ⟨Fr.new G4.out.1 (Fr.below hb) G4.out.2.1, YNew.trans G4.out.2.1 (YNew.refl _ _) G4.out.1.size, (G4.out.2.2.1.later hb), G4.out.2.2.2.1.fr (Fr.below hb) (YNew.refl _ _), G4.out.2.2.2.2.1.fr (Fr.below hb) (YNew.refl _ _), G4.out.2.2.2.2.2.fr (Fr.below hb) (YNew.refl _ _)⟩
        clear G4
        obtain ⟨k0, k1, k2, k3, k4, k6, k7⟩ := G5.out.2.2.2.1.cells
        clear hb
        have HX := Lib.hid (must_any P es env (.ok b2) false at0 9 Y3 w5 (.inl (by decide)) G5.out.2.2.1)
        unfold pk at HX
        go_wp2_with fail
        refine HX.out.mono ?_
        rintro e w6 ⟨⟨v6, rfl⟩, hf, hk⟩
        clear HX
        clear k0 k1 k2 k3 k4 k6 k7
        have G6 : Hid (Fr Y w w6 ∧ YNew Y Y3 w ∧ WkE P es env (.error (at0, 9)) Y3 w6 ∧ PtM w6 Y3 w.heap.size p TA tc UA uc ∧ TyV w6 Y3 A2 c2 t1 ∧ TyV w6 Y3 A3 c3 t2) := Lib.hid ⟨Fr.new G5.out.1 hf G5.out.2.1, YNew.trans G5.out.2.1 (YNew.refl _ _) G5.out.1.size, hk, G5.out.2.2.2.1.fr hf (YNew.refl _ _), G5.out.2.2.2.2.1.fr hf (YNew.refl _ _), G5.out.2.2.2.2.2.fr hf (YNew.refl _ _)⟩
        clear G5
        obtain ⟨k0, k1, k2, k3, k4, k6, k7⟩ := G6.out.2.2.2.1.cells
        clear hf hk
        have HX := Lib.hid (agree_bad P es env (at0, 9) (.slice A3 t2.length c3) (.slice none 0 0) at0 Y3 w6 G6.out.2.2.1)
        unfold pk at HX
        go_wp2_with fail
        refine HX.out.mono ?_
        rintro e w7 ⟨⟨v7, rfl⟩, hf, hk⟩
        clear HX
        clear k0 k1 k2 k3 k4 k6 k7
        have G7 : Hid (Fr Y w w7 ∧ YNew Y Y3 w ∧ WkE P es env (.error (at0, 9)) Y3 w7 ∧ PtM w7 Y3 w.heap.size p TA tc UA uc ∧ TyV w7 Y3 A2 c2 t1 ∧ TyV w7 Y3 A3 c3 t2) := Lib.hid ⟨Fr.new G6.out.1 hf G6.out.2.1, YNew.trans G6.out.2.1 (YNew.refl _ _) G6.out.1.size, hk, G6.out.2.2.2.1.fr hf (YNew.refl _ _), G6.out.2.2.2.2.1.fr hf (YNew.refl _ _), G6.out.2.2.2.2.2.fr hf (YNew.refl _ _)⟩
        clear G6
        obtain ⟨k0, k1, k2, k3, k4, k6, k7⟩ := G7.out.2.2.2.1.cells
        clear hf hk
        have HQ : Hid (WyPost P es env Y r w (.returned (.slice none 0 0)) w7) := Lib.hid (by
          rw [hc] at hr
          injection hr with hr
          subst hr
          exact ⟨Y3, G7.out.1, G7.out.2.1, G7.out.2.2.1, _, _, _, rfl⟩)
        go_wp2_with fail
        go_ret
        exact HQ.out
      | some q =>
        obtain ⟨tk, tl⟩ := q
        go_wp2_with fail
        refine HC.out.mono ?_
        rintro e w5 ⟨hb, h9⟩
        rw [hc] at h9
        obtain ⟨B1, d1, B2, d2, rfl, hown1, hown2⟩ := h9
        rw [hc] at hr
        have HRR := Lib.hid hr
        clear hr
        clear k0 k1 k2 k3 k4 k6 k7
        have G5 : Hid (Fr Y w w5 ∧ YNew Y Y3 w ∧ WkE P es env (.ok b2) Y3 w5 ∧ PtM w5 Y3 w.heap.size p TA tc UA uc ∧ TyV w5 Y3 A2 c2 t1 ∧ TyV w5 Y3 A3 c3 t2 ∧ TyV w5 Y3 B1 d1 tk ∧ TyV w5 Y3 B2 d2 tl) := Lib.hid ⟨Fr.new G4.out.1 (Fr.below hb) G4.out.2.1, YNew.trans G4.out.2.1 (YNew.refl _ _) G4.out.1.size, (G4.out.2.2.1.later hb), G4.out.2.2.2.1.fr (Fr.below hb) (YNew.refl _ _), G4.out.2.2.2.2.1.fr (Fr.below hb) (YNew.refl _ _), G4.out.2.2.2.2.2.fr (Fr.below hb) (YNew.refl _ _), (TyV.own hown1 (G4.out.2.2.1.lt)), (TyV.own hown2 (G4.out.2.2.1.lt))⟩
        clear G4
        obtain ⟨k0, k1, k2, k3, k4, k6, k7⟩ := G5.out.2.2.2.1.cells
        clear hb hown1 hown2
        have HX := Lib.hid (must_any P es env (.ok b2) true at0 0 Y3 w5 (.inr rfl) G5.out.2.2.1)
        unfold pk at HX
        go_wp2_with fail
        refine HX.out.mono ?_
        rintro e w6 ⟨⟨v6, rfl⟩, hf, hk⟩
        clear HX
        clear k0 k1 k2 k3 k4 k6 k7
        have G6 : Hid (Fr Y w w6 ∧ YNew Y Y3 w ∧ WkE P es env (.ok b2) Y3 w6 ∧ PtM w6 Y3 w.heap.size p TA tc UA uc ∧ TyV w6 Y3 A2 c2 t1 ∧ TyV w6 Y3 A3 c3 t2 ∧ TyV w6 Y3 B1 d1 tk ∧ TyV w6 Y3 B2 d2 tl) := Lib.hid ⟨Fr.new G5.out.1 hf G5.out.2.1, YNew.trans G5.out.2.1 (YNew.refl _ _) G5.out.1.size, hk, G5.out.2.2.2.1.fr hf (YNew.refl _ _), G5.out.2.2.2.2.1.fr hf (YNew.refl _ _), G5.out.2.2.2.2.2.1.fr hf (YNew.refl _ _), G5.out.2.2.2.2.2.2.1.fr hf (YNew.refl _ _), G5.out.2.2.2.2.2.2.2.fr hf (YNew.refl _ _)⟩
        clear G5
        obtain ⟨k0, k1, k2, k3, k4, k6, k7⟩ := G6.out.2.2.2.1.cells
        clear hf hk
        have HX := Lib.hid (agree_ok P es env b2 A3 B1 c3 d1 t2 tk at0 Y3 w6 G6.out.2.2.1 G6.out.2.2.2.2.2.1.ty G6.out.2.2.2.2.2.2.1.ty (HD.out _ _ _ _ h2) (gd_call (HD.out _ _ _ _ h1) hc).1)
        unfold pk at HX
        go_wp2_with fail
        refine HX.out.mono ?_
        rintro e w7 ⟨⟨v7, rfl⟩, hf, hk⟩
        clear HX
        clear k0 k1 k2 k3 k4 k6 k7
        have G7 : Hid (Fr Y w w7 ∧ YNew Y Y3 w ∧ WkE P es env (agS t2 tk at0 b2) Y3 w7 ∧ PtM w7 Y3 w.heap.size p TA tc UA uc ∧ TyV w7 Y3 A2 c2 t1 ∧ TyV w7 Y3 A3 c3 t2 ∧ TyV w7 Y3 B1 d1 tk ∧ TyV w7 Y3 B2 d2 tl) := Lib.hid ⟨Fr.new G6.out.1 hf G6.out.2.1, YNew.trans G6.out.2.1 (YNew.refl _ _) G6.out.1.size, hk, G6.out.2.2.2.1.fr hf (YNew.refl _ _), G6.out.2.2.2.2.1.fr hf (YNew.refl _ _), G6.out.2.2.2.2.2.1.fr hf (YNew.refl _ _), G6.out.2.2.2.2.2.2.1.fr hf (YNew.refl _ _), G6.out.2.2.2.2.2.2.2.fr hf (YNew.refl _ _)⟩
        clear G6
        obtain ⟨k0, k1, k2, k3, k4, k6, k7⟩ := G7.out.2.2.2.1.cells
        clear hf hk
        cases hag : agB t2 tk with
        | true =>
          have HQ : Hid (WyPost P es env Y r w (.returned (.slice B2 tl.length d2)) w7) := Lib.hid (by
            have hk := G7.out.2.2.1
            have hr := HRR.out
            simp only [hag, agS, if_true] at hr hk
            injection hr with hr
            subst hr
            exact ⟨Y3, G7.out.1, G7.out.2.1, hk, _, _, rfl, G7.out.2.2.2.2.2.2.2⟩)
          go_wp2_with fail
          go_ret
          exact HQ.out
        | false =>
          have HQ : Hid (WyPost P es env Y r w (.returned (.slice B2 tl.length d2)) w7) := Lib.hid (by
            have hk := G7.out.2.2.1
            have hr := HRR.out
            simp [hag, agS] at hr hk
            subst hr
            exact ⟨Y3, G7.out.1, G7.out.2.1, hk, _, _, _, rfl⟩)
          go_wp2_with fail
          go_ret
          exact HQ.out
end Go.Proofs.YtmjdhfbnmmdjiaaGreat
