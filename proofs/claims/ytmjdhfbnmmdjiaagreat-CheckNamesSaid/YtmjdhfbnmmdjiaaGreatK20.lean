/- Laid together by a tool from the texts of this seat: ChC. Conditions: each theorem's own. -/
import Derived.Test.YtmjdhfbnmmdjiaaGreatK15
import Derived.Test.YtmjdhfbnmmdjiaaGreatK18
import Derived.Test.YtmjdhfbnmmdjiaaGreatK19
/- The way of a Case. -/
namespace Go.Proofs.YtmjdhfbnmmdjiaaGreat
open Go.RowKit

theorem casesGo_step {nx : Nx} {es : List Pt} {env : Env} {ot : List Nd} {m a : Nat} {ts : List (List Nd)} {R : Except (Nat × Int) (List (List Nd) × Nat)} (h : casesGo nx es env ot (m + 1) a ts = some R) :
    ∃ x, es[a]? = some x ∧ ((∃ b, nx (env ++ [(x.bd, (fieldM ot x.lb).getD [])]) (a + 1) = some (.error b) ∧ R = .error b) ∨ ∃ t b, nx (env ++ [(x.bd, (fieldM ot x.lb).getD [])]) (a + 1) = some (.ok (t, b)) ∧ casesGo nx es env ot m b (ts ++ [t]) = some R) := by
  unfold casesGo at h
  split at h
  · cases h
  · rename_i x hx
    refine ⟨x, hx, ?_⟩
    split at h
    · cases h
    · rename_i b hb
      injection h with h
      exact .inl ⟨b, hb, h.symm⟩
    · rename_i t b hb
      exact .inr ⟨t, b, hb, h⟩

theorem ReadS.cut {w : World} {B g c : Nat} {v : Option Addr × Nat × Nat} {vs : List (Option Addr × Nat × Nat)} (h : ReadS w B (some ⟨g, 0, none⟩) (v :: vs)) (hc : (v :: vs).length ≤ c) : ReadS w B (if c = 1 then some ⟨g, 0, none⟩ else some ⟨g, 1, none⟩) vs := fun hne => by
  obtain ⟨b, o, e, hb, hr⟩ := h (by simp)
  injection e with e
  injection e with e1 e2 _
  subst e1 e2
  have hc1 : ¬ c = 1 := fun e => by
    cases vs with
    | nil => exact hne rfl
    | cons _ _ => simp at hc; omega
  rw [if_neg hc1]
  refine ⟨g, 1, rfl, hb, fun i x hx j u hu => ?_⟩
  have := hr (i + 1) x (by rw [List.getElem?_cons_succ]; exact hx) j u hu
  rw [show 0 + (i + 1) * 1 + j = 1 + i * 1 + j by omega] at this
  exact this
theorem meetsM_step {at0 : Nat} {m t : List Nd} {ts : List (List Nd)} {R : Except (Nat × Int) (List Nd)} (h : meetsM at0 m (t :: ts) = some R) :
    (met 1 m t = none ∧ R = .error (at0, 9)) ∨ ∃ m2, met 1 m t = some m2 ∧ Gd m2 ∧ meetsM at0 m2 ts = some R := by
  unfold meetsM at h
  split at h
  · rename_i hm
    injection h with h
    exact .inl ⟨hm, h.symm⟩
  · rename_i m2 hm
    split at h
    · rename_i hg
      exact .inr ⟨m2, hm, hg, h⟩
    · cases h

/-- The branches' types, as they grow. -/
structure CasesI (P : Nat) (es : List Pt) (env : Env) (nx : Nx) (p : Pt) (TA : Option Addr) (tc : Nat) (UA : Option Addr) (uc : Nat) (Y : Nat → Prop) (w : World) (n : Nat) (R : Except (Nat × Int) (List (List Nd) × Nat)) (OA : Option Addr) (oc : Nat) (ot : List Nd) (k : Nat) (Yk : Nat → Prop) (a : Nat) (ts : List (List Nd)) (VA : Option Addr) (vc : Nat) (vs : List (Option Addr × Nat × Nat)) (wr : World) : Prop where
  fr : Fr Y w wr
  yn : YNew Y Yk w
  wk : WkE P es env (.ok a) Yk wr
  pm : PtM wr Yk w.heap.size p TA tc UA uc
  vt : OwnS wr w.heap.size VA vc vs
  vl : vs.length = ts.length
  sl : ∀ (i : Nat) (v : Option Addr × Nat × Nat) (t : List Nd), vs[i]? = some v → ts[i]? = some t → v.2.1 = t.length ∧ TyV wr Yk v.1 v.2.2 t
  gd : ∀ t ∈ ts, Gd t
  len : ts.length = k
  oo : TyV wr Yk OA oc ot
  run : casesGo nx es env ot (n - k) a ts = some R

/-- A part is read into a box of its own. -/
theorem field_cases (t : List Nd) (s : ByteArray) (w : World) (e : Ending) (w' : World) (h : FieldPost t s w e w') : ∃ A c er, e = .returned (.tuple #[.slice A ((fieldM t s).getD []).length c, .int .i64 er]) ∧ Below w.heap.size w w' ∧ OwnN w' w.heap.size A c ((fieldM t s).getD []) := by
  obtain ⟨hb, h⟩ := h
  cases hf : fieldM t s with
  | some u =>
    rw [hf] at h
    obtain ⟨A, c, rfl, ho⟩ := h
    exact ⟨A, c, 0, rfl, hb, ho⟩
  | none =>
    rw [hf] at h
    subst h
    exact ⟨none, 0, 9, rfl, hb, OwnL.nil⟩

/-- The meets, so far. -/
def CM (P : Nat) (es : List Pt) (env : Env) (at0 : Nat) (r : Ans) (_p : Pt) (_TA : Option Addr) (_tc : Nat) (_UA : Option Addr) (_uc : Nat) (Y : Nat → Prop) (w : World) (VA : Option Addr) (vc : Nat) (v0 : Option Addr × Nat × Nat) (vr : List (Option Addr × Nat × Nat)) (tr : List (List Nd)) (ak : Nat) (Yj : Nat → Prop) (m : List Nd) (MA : Option Addr) (mc : Nat) (j : Nat) (wr : World) : Prop :=
  Fr Y w wr ∧ YNew Y Yj w ∧ WkE P es env (.ok ak) Yj wr ∧ OwnS wr w.heap.size VA vc (v0 :: vr) ∧ (∀ (i : Nat) (v : Option Addr × Nat × Nat) (t : List Nd), vr[i]? = some v → tr[i]? = some t → v.2.1 = t.length ∧ TyV wr Yj v.1 v.2.2 t) ∧ TyV wr Yj MA mc m ∧ Gd m ∧ vr.length = tr.length ∧ (∀ t ∈ tr, Gd t) ∧ ∃ RR, meetsM at0 m (tr.drop j) = some RR ∧ (∀ x, RR = .error x → r = .error x) ∧ (∀ m, RR = .ok m → r = .ok (m, ak))
def CE (P : Nat) (es : List Pt) (env : Env) (r : Ans) (_p : Pt) (_TA : Option Addr) (_tc : Nat) (_UA : Option Addr) (_uc : Nat) (Y : Nat → Prop) (w : World) (VA : Option Addr) (vc : Nat) (v0 : Option Addr × Nat × Nat) (vr : List (Option Addr × Nat × Nat)) (x : Nat × Int) (Yj : Nat → Prop) (wr : World) : Prop :=
  r = .error x ∧ Fr Y w wr ∧ YNew Y Yj w ∧ WkE P es env (.error x) Yj wr ∧ OwnS wr w.heap.size VA vc (v0 :: vr)

set_option maxRecDepth 100000 in
set_option maxHeartbeats 16000000 in
theorem cases_any (P : Nat) (es : List Pt) (nx : Nx) (HN : Hid (NextC P es nx)) (env : Env) (p : Pt) (at0 a : Nat) (r : Ans) (Y : Nat → Prop) (w : World) (TA UA : Option Addr) (tc uc : Nat) (hes : PsOk es) (h : WkE P es env (.ok a) Y w) (hT : TyV w Y TA tc p.T) (hU : TyV w Y UA uc p.U) (hG : ∀ env a t b, nx env a = some (.ok (t, b)) → Gd t) (hm : casesM nx es env p at0 a = some r) :
    Calls Tryz.prog 71 #[pk P, pv p TA tc UA uc, .int .i64 at0] w (WyPost P es env Y r w) := by
  have HPw : Hid (P < w.heap.size) := Lib.hid (h.lt P h.yP)
  obtain ⟨w1, hw1⟩ : ∃ w1, w1 = w.alloc (.cells #[.int .i64 p.k, .string p.lb, .string p.nm, .string p.bd, .int .i64 p.mn, .int .i64 p.num, .slice TA p.T.length tc, .slice UA p.U.length uc] 33) := ⟨_, rfl⟩
  have hpm := PtM.new h.lt hT hU
  have hb1 : Below w.heap.size w w1 := by rw [hw1]; exact ext_alloc (Below.refl _ _) _
  rw [← hw1] at hpm
  unfold casesM at hm
  split at hm
  · rename_i hmn
    obtain ⟨n, hn⟩ : ∃ n : Nat, p.mn = (n : Int) := ⟨p.mn.toNat, by omega⟩
    have hn50 : n ≤ 50 := by omega
    have hn1 : 1 ≤ n := by omega
    have hvl := hmn.2.2
    rw [show p.mn.toNat = n by omega] at hm
    have HPM : Hid (∀ v Y', PtM v Y' w.heap.size p TA tc UA uc → v.cell? ⟨w.heap.size, 4, none⟩ = some (.int .i64 (n : Int))) := Lib.hid fun v Y' hv => by rw [← hn]; exact hv.cells.2.2.2.2.1
    have H1 : Hid (Fr Y w w1 ∧ YNew Y Y w ∧ WkE P es env (.ok a) Y w1 ∧ PtM w1 Y w.heap.size p TA tc UA uc) := Lib.hid ⟨Fr.below hb1, YNew.refl _ _, h.later hb1, hpm⟩
    have HR := Lib.hid (andA_some hm)
    have HD := Lib.hid (And.intro hG (And.intro hes hvl))
    clear h hT hU hm hG hpm hb1 hmn hn hes
    unfold pk pv
    go_enter Tryz.func71, Tryz.ntmps71
    go_upto_region 1 with fail
    rw [← hw1]
    clear hw1
    rcases HR.out with ⟨x, h1, hr⟩ | ⟨ot, b, h1, hr⟩
    · have HX := Lib.hid (HN.out env (.ok a) _ Y w1 h1 H1.out.2.2.1)
      unfold pk at HX
      go_wp2_with fail
      refine HX.out.mono ?_
      rintro e w2 ⟨Y2, hf2, hy2, hk2, rfl⟩
      have H2 : Hid (Fr Y w w2 ∧ YNew Y Y2 w ∧ WkE P es env (.error x) Y2 w2 ∧ PtM w2 Y2 w.heap.size p TA tc UA uc) := Lib.hid ⟨Fr.new H1.out.1 hf2 H1.out.2.1, YNew.trans H1.out.2.1 hy2 H1.out.1.size, hk2, H1.out.2.2.2.fr hf2 hy2⟩
      clear hf2 hy2 hk2 HX
      have HO := Lib.hid (ok_any P es env _ _ _ H2.out.2.2.1)
      simp only [okS] at HO
      unfold pk at HO
      go_wp2_with fail
      refine HO.out.mono ?_
      rintro e w3 ⟨rfl, hb3⟩
      have H3 : Hid (Fr Y w w3 ∧ WkE P es env (.error x) Y2 w3) := Lib.hid ⟨H2.out.1.trans (Fr.below hb3), H2.out.2.2.1.later hb3⟩
      have k4 := HPM.out w3 _ (H2.out.2.2.2.later hb3)
      clear hb3 HO
      go_upto_region 6 with fail
      clear k4
      go_loopw [25] (fun s25 wr => s25 = .int .i64 0 ∧ wr = w3) (fun _ _ => 0)
      case atStart => exact ⟨rfl, rfl⟩
      case round =>
        obtain ⟨rfl, rfl⟩ := hrel
        have HO2 := Lib.hid (ok_any P es env _ _ _ H3.out.2)
        simp only [okS] at HO2
        unfold pk at HO2
        go_wp2_with fail
        refine HO2.out.mono ?_
        rintro e w4 ⟨rfl, hb4⟩
        have HQ : Hid (WyPost P es env Y r w (.returned (.slice none 0 0)) w4) := Lib.hid (by
          rw [hr]
          exact ⟨Y2, H3.out.1.trans (Fr.below hb4), H2.out.2.1, H3.out.2.later hb4, _, _, _, rfl⟩)
        clear hb4
        go_wp2_with fail
        go_ret
        exact HQ.out
    · have HX := Lib.hid (HN.out env (.ok a) _ Y w1 h1 H1.out.2.2.1)
      unfold pk at HX
      go_wp2_with fail
      refine HX.out.mono ?_
      rintro e w2 ⟨Y2, hf2, hy2, hk2, OA, oc, rfl, ht2⟩
      have H2 : Hid (Fr Y w w2 ∧ YNew Y Y2 w ∧ WkE P es env (.ok b) Y2 w2 ∧ PtM w2 Y2 w.heap.size p TA tc UA uc ∧ TyV w2 Y2 OA oc ot) := Lib.hid ⟨Fr.new H1.out.1 hf2 H1.out.2.1, YNew.trans H1.out.2.1 hy2 H1.out.1.size, hk2, H1.out.2.2.2.fr hf2 hy2, ht2⟩
      have HGo := Lib.hid (HD.out.1 _ _ _ _ h1)
      clear hf2 hy2 hk2 HX ht2 h1
      have HO := Lib.hid (ok_any P es env _ _ _ H2.out.2.2.1)
      simp only [okS] at HO
      unfold pk at HO
      go_wp2_with fail
      refine HO.out.mono ?_
      rintro e w3 ⟨rfl, hb3⟩
      have H3 : Hid (Fr Y w w3 ∧ WkE P es env (.ok b) Y2 w3 ∧ PtM w3 Y2 w.heap.size p TA tc UA uc ∧ TyV w3 Y2 OA oc ot) := Lib.hid ⟨H2.out.1.trans (Fr.below hb3), H2.out.2.2.1.later hb3, H2.out.2.2.2.1.later hb3, H2.out.2.2.2.2.later hb3⟩
      clear hb3 HO
      obtain ⟨bb, htk⟩ : ∃ bb, tagsOk es ot at0 = some bb := by
        cases htk : tagsOk es ot at0 with
        | none => rw [htk] at hr; cases hr
        | some bb => exact ⟨bb, rfl⟩
      have HTg := Lib.hid (ctags_any P es env b OA oc ot at0 bb Y2 w3 HD.out.2.1 H3.out.2.1 H3.out.2.2.2 HGo.out htk)
      unfold pk at HTg
      rw [htk] at hr
      go_wp2_with fail
      refine HTg.out.mono ?_
      rintro e w4 ⟨⟨v4, rfl⟩, hf4, hk4⟩
      have H4 : Hid (Fr Y w w4 ∧ WkE P es env (mustS bb at0 9 (.ok b)) Y2 w4 ∧ PtM w4 Y2 w.heap.size p TA tc UA uc ∧ TyV w4 Y2 OA oc ot) := Lib.hid ⟨Fr.new H3.out.1 hf4 H2.out.2.1, hk4, H3.out.2.2.1.fr hf4 (YNew.refl _ _), H3.out.2.2.2.fr hf4 (YNew.refl _ _)⟩
      have k4 := HPM.out w4 _ H4.out.2.2.1
      clear hf4 hk4 HTg htk
      go_upto_region 6 with fail
      clear k4
      cases bb with
      | false =>
        have HR9 : Hid (r = .error (at0, 9)) := Lib.hid (by injection hr with hr; exact hr.symm)
        clear hr
        go_loopw [25] (fun s25 wr => s25 = .int .i64 0 ∧ wr = w4) (fun _ _ => 0)
        case atStart => exact ⟨rfl, rfl⟩
        case round =>
          obtain ⟨rfl, rfl⟩ := hrel
          have HO2 := Lib.hid (ok_any P es env (.error (at0, 9)) _ _ H4.out.2.1)
          simp only [okS] at HO2
          unfold pk at HO2
          go_wp2_with fail
          refine HO2.out.mono ?_
          rintro e w5 ⟨rfl, hb5⟩
          have HQ : Hid (WyPost P es env Y r w (.returned (.slice none 0 0)) w5) := Lib.hid (by
            rw [HR9.out]
            exact ⟨Y2, H4.out.1.trans (Fr.below hb5), H2.out.2.1, H4.out.2.1.later hb5, _, _, _, rfl⟩)
          clear hb5
          go_wp2_with fail
          go_ret
          exact HQ.out
      | true =>
        obtain ⟨R, hR⟩ : ∃ R, casesGo nx es env ot n b [] = some R := by
          cases h9 : casesGo nx es env ot n b [] with
          | none => simp only [h9] at hr; cases hr
          | some R => exact ⟨R, rfl⟩
        simp only [hR] at hr
        have HRR := Lib.hid hr
        have HI0 : Hid (CasesI P es env nx p TA tc UA uc Y w n R OA oc ot 0 Y2 b [] none 0 [] w4) := Lib.hid ⟨H4.out.1, H2.out.2.1, H4.out.2.1, H4.out.2.2.1, OwnL.nil, rfl, fun i v t hv => by simp at hv, fun t ht => by simp at ht, rfl, H4.out.2.2.2, hR⟩
        clear hr hR
        go_loopw [8, 25] (fun s8 s25 wr => ∃ (k : Nat) (VA : Option Addr) (vc : Nat) (vs : List (Option Addr × Nat × Nat)), k ≤ n ∧ s8 = .slice VA k vc ∧ s25 = .int .i64 k ∧ ((∃ (Yk : Nat → Prop) (ak : Nat) (ts : List (List Nd)), Hid (CasesI P es env nx p TA tc UA uc Y w n R OA oc ot k Yk ak ts VA vc vs wr)) ∨ (∃ (x : Nat × Int) (Yk : Nat → Prop), R = .error x ∧ 1 ≤ k ∧ Hid (RowsE P es env p TA tc UA uc Y w x Yk wr ∧ OwnS wr w.heap.size VA vc vs ∧ vs.length = k)))) (fun _ s25 _ => n - (Lib.intOf s25).toNat)
        case atStart => exact ⟨0, none, 0, [], Nat.zero_le _, rfl, rfl, .inl ⟨Y2, b, [], HI0⟩⟩
        case round =>
          clear HI0
          obtain ⟨k, VA, vc, vs, hk, rfl, rfl, hmode⟩ := hrel
          by_cases hlt : k < n
          · rcases hmode with ⟨Yk, ak, ts, HI⟩ | ⟨x, Yk, hRx, hk1, HE⟩
            · have HOk := Lib.hid (ok_any P es env _ _ _ HI.out.wk)
              simp only [okS] at HOk
              unfold pk at HOk
              go_wp2_with fail
              refine HOk.out.mono ?_
              rintro e w5 ⟨rfl, hb5⟩
              obtain ⟨x, hx, hst⟩ := casesGo_step (m := n - k - 1) (by rw [show n - k - 1 + 1 = n - k by omega]; exact HI.out.run)
              obtain ⟨a', p', e', ⟨EA, ec, VA', vc', bs, hm5⟩, ha, hp, he⟩ := HI.out.wk.later hb5
              subst ha hp he
              obtain ⟨eb, eo, eA, hel, hey, hpt, _⟩ := hm5.ex _ _ hx
              subst eA
              obtain ⟨XA, xc, WA, wc, hxT, hxU, q0, q1, q2, q3, q4, q5, q6, q7⟩ := hpt
              obtain ⟨c0, c1, _, _, _⟩ := hm5.cells
              have hal := getq_lt hx
              have hel6 := hm5.el
              have hPl := hm5.lt P ((hm5.y P).2 (.inl rfl))
              have hPY := (hm5.y P).2 (.inl rfl)
              have HXs := Lib.hid hst
              have HM5 := Lib.hid hm5
              have HI2 : Hid (Fr Y w w5 ∧ PtM w5 Yk w.heap.size p TA tc UA uc ∧ OwnS w5 w.heap.size VA vc vs ∧ TyV w5 Yk OA oc ot ∧ (∀ (i : Nat) (v : Option Addr × Nat × Nat) (t : List Nd), vs[i]? = some v → ts[i]? = some t → v.2.1 = t.length ∧ TyV w5 Yk v.1 v.2.2 t) ∧ TyV w5 Yk XA xc x.T ∧ TyV w5 Yk WA wc x.U) := Lib.hid ⟨HI.out.fr.trans (Fr.below hb5), HI.out.pm.later hb5, HI.out.vt.below hb5 (Nat.le_refl _), HI.out.oo.later hb5, fun i v t hv ht => ⟨(HI.out.sl i v t hv ht).1, (HI.out.sl i v t hv ht).2.later hb5⟩, hxT, hxU⟩
              clear hb5 hm5 hst hx hxT hxU
              go_upto_region 9 with fail
              obtain ⟨SS, hSS⟩ : ∃ SS : World → Prop, SS = fun v => v.cell? ⟨P, 0, none⟩ = some (.slice (some ⟨eb, eo, none⟩) es.length ec) ∧ v.cell? ⟨P, 1, none⟩ = some (.int .i64 (a' : Int)) ∧ v.cell? ⟨eb, eo + a' * 8, none⟩ = some (.int .i64 x.k) ∧ v.cell? ⟨eb, eo + a' * 8 + 1, none⟩ = some (.string x.lb) ∧ v.cell? ⟨eb, eo + a' * 8 + 2, none⟩ = some (.string x.nm) ∧ v.cell? ⟨eb, eo + a' * 8 + 3, none⟩ = some (.string x.bd) ∧ v.cell? ⟨eb, eo + a' * 8 + 4, none⟩ = some (.int .i64 x.mn) ∧ v.cell? ⟨eb, eo + a' * 8 + 5, none⟩ = some (.int .i64 x.num) ∧ v.cell? ⟨eb, eo + a' * 8 + 6, none⟩ = some (.slice XA x.T.length xc) ∧ v.cell? ⟨eb, eo + a' * 8 + 7, none⟩ = some (.slice WA x.U.length wc) := ⟨_, rfl⟩
              have HS : Hid (∀ v, Below w5.heap.size w5 v → SS v) := Lib.hid fun v hv => by
                rw [hSS]
                exact ⟨(hv.cell hPl).trans c0, (hv.cell hPl).trans c1, (hv.cell hel).trans q0, (hv.cell hel).trans q1, (hv.cell hel).trans q2, (hv.cell hel).trans q3, (hv.cell hel).trans q4, (hv.cell hel).trans q5, (hv.cell hel).trans q6, (hv.cell hel).trans q7⟩
              obtain ⟨wd, hwd⟩ : ∃ wd, wd = w5.drew := ⟨_, rfl⟩
              have HBd : Hid (Below w5.heap.size w5 wd) := Lib.hid (by rw [hwd]; exact (Below.refl _ _).drew)
              have hsd : SS wd := HS.out _ HBd.out
              refine wp_region_L_drew (S := SS) [11] (by kernel_rfl) (by rw [← hwd]; exact hsd) (fun hHeld => ?_)
              rw [← hwd] at hHeld ⊢
              clear hwd c0 c1 q0 q1 q2 q3 q4 q5 q6 q7
              refine onA 0 [1, 2, 3, 8, 9, 11] (some 30) rfl rfl ?_
              refine onA 1 [2, 3, 8, 9, 11] (some 31) rfl rfl ?_
              refine onA 2 [3, 8, 9, 11] (some 32) rfl rfl ?_
              refine onA 3 [8, 9, 11] (some 33) rfl rfl ?_
              refine onA 4 [5, 6, 7, 8, 9, 11] (some 34) rfl rfl ?_
              refine onA 5 [6, 7, 8, 9, 11] (some 35) rfl rfl ?_
              refine onA 6 [7, 8, 9, 11] (some 36) rfl rfl ?_
              refine onA 7 [8, 9, 11] (some 37) rfl rfl ?_
              refine onA 8 [9, 11] (some 38) rfl rfl ?_
              refine onA 9 [11] (some 39) rfl rfl ?_
              refine valL 10 (some 9) (v := ?_) (w' := ?_) rfl rfl (by kernel_rfl) (by rfl) ?_ (fun _ => ?_) ?_
              rotate_left
              rotate_left
              · (go_simp; first | with_reducible rfl | (constructor <;> with_reducible rfl))
              · exact HS.out _ (ext_alloc HBd.out _)
              refine putA ?_
              refine skipL 11 none (w' := ?_) rfl rfl (by kernel_rfl) (by rfl) ?_ (zL (by kernel_rfl)) ?_
              rotate_left
              · (go_simp; try with_reducible rfl)
              refine putA ?_
              refine doneL (by kernel_rfl) ?_ _
              obtain ⟨we, hwe⟩ : ∃ we, we = wd.alloc (.cells #[.int .i64 x.k, .string x.lb, .string x.nm, .string x.bd, .int .i64 x.mn, .int .i64 x.num, .slice XA x.T.length xc, .slice WA x.U.length wc] 33) := ⟨_, rfl⟩
              have HBe : Hid (Below w5.heap.size w5 we) := Lib.hid (by rw [hwe]; exact ext_alloc HBd.out _)
              obtain ⟨gx, hgx⟩ : ∃ gx, gx = wd.heap.size := ⟨_, rfl⟩
              have HPX : Hid (PtM we Yk gx x XA xc WA wc) := Lib.hid (by
                rw [hwe, hgx]
                exact PtM.new (fun q hq => Nat.lt_of_lt_of_le (HM5.out.lt q hq) HBd.out.size) (HI2.out.2.2.2.2.2.1.later HBd.out) (HI2.out.2.2.2.2.2.2.later HBd.out))
              have HM6 := Lib.hid (HM5.out.later HBe.out)
              rw [← hwe, ← hgx]
              clear hwe hgx hHeld hsd HS hSS
              obtain ⟨_, c1, _, _, _⟩ := HM6.out.cells
              have f1 := HM6.out.frozen 1 (by omega)
              go_upto_region 11 with fail
              obtain ⟨w6, hw6⟩ : ∃ w6, w6 = we.setCell ⟨P, 1, none⟩ (.int .i64 ((a' : Int) + 1)) := ⟨_, rfl⟩
              have H6 : Hid (Fr Y w w6 ∧ WkE P es env (.ok (a' + 1)) Yk w6 ∧ PtM w6 Yk w.heap.size p TA tc UA uc ∧ OwnS w6 w.heap.size VA vc vs ∧ TyV w6 Yk OA oc ot ∧ (∀ (i : Nat) (v : Option Addr × Nat × Nat) (t : List Nd), vs[i]? = some v → ts[i]? = some t → v.2.1 = t.length ∧ TyV w6 Yk v.1 v.2.2 t) ∧ PtM w6 Yk gx x XA xc WA wc) := Lib.hid (by
                have hb : w6.heap[P]? = some (.cells #[.slice (some ⟨eb, eo, none⟩) es.length ec, .int .i64 ((a' + 1 : Nat) : Int), .slice VA' bs.length vc', .int .i64 0, .int .i64 0] 60 (0, 0)) := by
                  rw [hw6, heap_set HM6.out.blk 1]
                  rfl
                have hf : Fr (fun q => q = P) we w6 := by rw [hw6]; exact fr_set _ _ _ _
                have hp := HM6.out.put hb hf
                have hfy : Fr Yk w5 w6 := (Fr.below HBe.out).trans hp.2
                exact ⟨Fr.new HI2.out.1 hfy HI.out.yn, ⟨_, _, _, ⟨_, _, _, _, _, hp.1⟩, rfl, rfl, rfl⟩, HI2.out.2.1.fr hfy (YNew.refl _ _), OwnL.step HI2.out.2.2.1 (show WkE P es env (.ok a') Yk w5 from ⟨_, _, _, ⟨_, _, _, _, _, HM5.out⟩, rfl, rfl, rfl⟩) hfy (by decide) (by decide), HI2.out.2.2.2.1.fr hfy (YNew.refl _ _), fun i v t hv ht => ⟨(HI2.out.2.2.2.2.1 i v t hv ht).1, (HI2.out.2.2.2.2.1 i v t hv ht).2.fr hfy (YNew.refl _ _)⟩, HPX.out.fr hp.2 (YNew.refl _ _)⟩)
              rw [← hw6]
              clear hw6 c1 f1
              have HFl := Lib.hid (field_any OA oc ot x.lb w6 H6.out.2.2.2.2.1.ty.tyA HGo.out H6.out.2.2.2.2.1.cap)
              obtain ⟨m0, m1, m2, m3, m4, m6, m7⟩ := H6.out.2.2.2.2.2.2.cells
              go_wp2_with fail
              refine HFl.out.mono ?_
              intro e w7 hp7
              obtain ⟨A10, c10, er, rfl, hb7, ho7⟩ := field_cases _ _ _ _ _ hp7
              clear hp7 m0 m1 m2 m3 m4 m6 m7
              obtain ⟨u, hu⟩ : ∃ u, u = (fieldM ot x.lb).getD [] := ⟨_, rfl⟩
              rw [← hu] at ho7 ⊢
              have HXs2 := HXs
              rw [← hu] at HXs2
              have H7 : Hid (Fr Y w w7 ∧ WkE P es env (.ok (a' + 1)) Yk w7 ∧ PtM w7 Yk w.heap.size p TA tc UA uc ∧ OwnS w7 w.heap.size VA vc vs ∧ TyV w7 Yk OA oc ot ∧ (∀ (i : Nat) (v : Option Addr × Nat × Nat) (t : List Nd), vs[i]? = some v → ts[i]? = some t → v.2.1 = t.length ∧ TyV w7 Yk v.1 v.2.2 t) ∧ PtM w7 Yk gx x XA xc WA wc ∧ TyV w7 Yk A10 c10 u) := Lib.hid ⟨H6.out.1.trans (Fr.below hb7), H6.out.2.1.later hb7, H6.out.2.2.1.later hb7, H6.out.2.2.2.1.below hb7 (Nat.le_refl _), H6.out.2.2.2.2.1.later hb7, fun i v t hv ht => ⟨(H6.out.2.2.2.2.2.1 i v t hv ht).1, (H6.out.2.2.2.2.2.1 i v t hv ht).2.later hb7⟩, H6.out.2.2.2.2.2.2.later hb7, TyV.own ho7 H6.out.2.1.lt⟩
              clear hb7 ho7 hu HXs HFl H6 HM6 HM5
              obtain ⟨m0, m1, m2, m3, m4, m6, m7⟩ := H7.out.2.2.2.2.2.2.1.cells
              have hvk : vs.length = k := by rw [HI.out.vl, HI.out.len]
              have HVk := Lib.hid hvk
              have HW := Lib.hid (fun r1 (h1 : nx (env ++ [(x.bd, u)]) (a' + 1) = some r1) => with_any P es nx HN env [(x.bd, u)] (.ok (a' + 1)) r1 (some ⟨w7.heap.size, 0, none⟩) 1 [⟨x.bd, A10, u.length, c10⟩] Yk (w7.alloc (.cells #[.string x.bd, .slice A10 u.length c10] 36)) (H7.out.2.1.later (ext_alloc (Below.refl _ _) _)) (by rw [World.size_alloc]; exact readB_new w7 ⟨x.bd, A10, u.length, c10⟩) (EnvM.one (H7.out.2.2.2.2.2.2.2.later (ext_alloc (Below.refl _ _) _)) rfl) (by simp) HD.out.2.2 h1)
              have HBw : Hid (Below w7.heap.size w7 (w7.alloc (.cells #[.string x.bd, .slice A10 u.length c10] 36))) := Lib.hid (ext_alloc (Below.refl _ _) _)
              have HKw : Hid (WkE P es env (.ok (a' + 1)) Yk (w7.alloc (.cells #[.string x.bd, .slice A10 u.length c10] 36))) := Lib.hid (H7.out.2.1.later HBw.out)
              unfold pk at HW
              clear hvk
              rcases HXs2.out with ⟨x2, h1, hr2⟩ | ⟨t, b2, h1, hr2⟩
              · have HN2 := Lib.hid (HW.out _ h1)
                clear HW
                go_wp2_with fail
                refine HN2.out.mono ?_
                rintro e w8 ⟨Y6, hf6, hy6, hk6, rfl⟩
                have H8 : Hid (Fr Y w w8 ∧ YNew Y Y6 w ∧ WkE P es env (.error x2) Y6 w8 ∧ PtM w8 Y6 w.heap.size p TA tc UA uc ∧ OwnS w8 w.heap.size VA vc vs) := Lib.hid (by
                  have f0 := H7.out.1.trans (Fr.below HBw.out)
                  exact ⟨Fr.new f0 hf6 HI.out.yn, YNew.trans HI.out.yn hy6 f0.size, hk6, (H7.out.2.2.1.later HBw.out).fr hf6 hy6, OwnL.step (H7.out.2.2.2.1.below HBw.out (Nat.le_refl _)) HKw.out hf6 (by decide) (by decide)⟩)
                clear hf6 hy6 hk6 h1 m0 m1 m2 m3 m4 m6 m7
                go_wp2_with (at_builtin; refine wpList_appV rfl (.tmp 54) (.tmp 62) rfl w.heap.size (m := k) (n := 1) HVk.out rfl (OwnL.alloc H8.out.2.2.2.2 _) (l2 := [(none, 0, 0)]) rfl rfl (readS_new w8 (none, 0, 0)) (by omega) (by have := H8.out.1.size; simp; omega) ?_; intro VA7 vc7 w9 hown7 hg7)
                have HO7 : Hid (Oth (w8.alloc (.cells #[.slice none 0 0] 28)) w9 28 Y6) := Lib.hid (Oth.grown (OwnL.alloc H8.out.2.2.2.2 _) rfl hg7 H8.out.2.2.1.yP (Nat.le_of_lt HPw.out))
                have HB9 : Hid (Below w8.heap.size w8 (w8.alloc (.cells #[.slice none 0 0] 28))) := Lib.hid (ext_alloc (Below.refl _ _) _)
                have HE9 : Hid (RowsE P es env p TA tc UA uc Y w x2 Y6 w9 ∧ OwnS w9 w.heap.size VA7 vc7 (vs ++ [(none, 0, 0)]) ∧ (vs ++ [((none : Option Addr), 0, 0)]).length = k + 1) := Lib.hid ⟨⟨Fr.new (H8.out.1.trans (Fr.below HB9.out)) (Fr.grown hg7 fun q e => e) (fun q e => .inr (OwnL.block H8.out.2.2.2.2 q e).1), H8.out.2.1, (H8.out.2.2.1.later HB9.out).oth HO7.out (by decide) (by decide) (by decide) (by decide), (H8.out.2.2.2.1.later HB9.out).oth HO7.out (by decide) (by decide)⟩, hown7, by rw [List.length_append, HVk.out]; rfl⟩
                clear hown7 hg7
                go_wp2_with fail
                go_roundw
                case rel => exact ⟨k + 1, VA7, vc7, _, by omega, by go_num, by go_num, .inr ⟨x2, Y6, hr2, by omega, HE9⟩⟩
                case measure => simp [Lib.intOf]; omega
              · have HN2 := Lib.hid (HW.out _ h1)
                clear HW
                go_wp2_with fail
                refine HN2.out.mono ?_
                rintro e w8 ⟨Y6, hf6, hy6, hk6, A6, c6, rfl, ht6⟩
                have H8 : Hid (Fr Y w w8 ∧ YNew Y Y6 w ∧ WkE P es env (.ok b2) Y6 w8 ∧ PtM w8 Y6 w.heap.size p TA tc UA uc ∧ OwnS w8 w.heap.size VA vc vs ∧ TyV w8 Y6 OA oc ot ∧ TyV w8 Y6 A6 c6 t ∧ ∀ (i : Nat) (v : Option Addr × Nat × Nat) (t : List Nd), vs[i]? = some v → ts[i]? = some t → v.2.1 = t.length ∧ TyV w8 Y6 v.1 v.2.2 t) := Lib.hid (by
                  have f0 := H7.out.1.trans (Fr.below HBw.out)
                  exact ⟨Fr.new f0 hf6 HI.out.yn, YNew.trans HI.out.yn hy6 f0.size, hk6, (H7.out.2.2.1.later HBw.out).fr hf6 hy6, OwnL.step (H7.out.2.2.2.1.below HBw.out (Nat.le_refl _)) HKw.out hf6 (by decide) (by decide), (H7.out.2.2.2.2.1.later HBw.out).fr hf6 hy6, ht6, fun i v t hv ht => ⟨(H7.out.2.2.2.2.2.1 i v t hv ht).1, ((H7.out.2.2.2.2.2.1 i v t hv ht).2.later HBw.out).fr hf6 hy6⟩⟩)
                have HGt := Lib.hid (HD.out.1 _ _ _ _ h1)
                have HRun := Lib.hid hr2
                clear hf6 hy6 hk6 ht6 h1 hr2 m0 m1 m2 m3 m4 m6 m7
                go_wp2_with (at_builtin; refine wpList_appV rfl (.tmp 54) (.tmp 62) rfl w.heap.size (m := k) (n := 1) HVk.out rfl (OwnL.alloc H8.out.2.2.2.2.1 _) (l2 := [(A6, t.length, c6)]) rfl rfl (readS_new w8 (A6, t.length, c6)) (by omega) (by have := H8.out.1.size; simp; omega) ?_; intro VA7 vc7 w9 hown7 hg7)
                have HO7 : Hid (Oth (w8.alloc (.cells #[.slice A6 t.length c6] 28)) w9 28 Y6) := Lib.hid (Oth.grown (OwnL.alloc H8.out.2.2.2.2.1 _) rfl hg7 H8.out.2.2.1.yP (Nat.le_of_lt HPw.out))
                have HB9 : Hid (Below w8.heap.size w8 (w8.alloc (.cells #[.slice A6 t.length c6] 28))) := Lib.hid (ext_alloc (Below.refl _ _) _)
                have HI9 : Hid (CasesI P es env nx p TA tc UA uc Y w n R OA oc ot (k + 1) Y6 b2 (ts ++ [t]) VA7 vc7 (vs ++ [(A6, t.length, c6)]) w9) := Lib.hid (by
                  refine ⟨Fr.new (H8.out.1.trans (Fr.below HB9.out)) (Fr.grown hg7 fun q e => e) (fun q e => .inr (OwnL.block H8.out.2.2.2.2.1 q e).1), H8.out.2.1, (H8.out.2.2.1.later HB9.out).oth HO7.out (by decide) (by decide) (by decide) (by decide), (H8.out.2.2.2.1.later HB9.out).oth HO7.out (by decide) (by decide), hown7, ?_, ?_, ?_, ?_, (H8.out.2.2.2.2.2.1.later HB9.out).oth HO7.out (by decide), ?_⟩
                  · rw [List.length_append, List.length_append, HI.out.vl]
                    rfl
                  · intro i v t2 hv hf
                    rcases Nat.lt_or_ge i vs.length with hi | hi
                    · rw [List.getElem?_append_left hi] at hv
                      rw [List.getElem?_append_left (by rw [← HI.out.vl]; exact hi)] at hf
                      exact ⟨(H8.out.2.2.2.2.2.2.2 i v t2 hv hf).1, ((H8.out.2.2.2.2.2.2.2 i v t2 hv hf).2.later HB9.out).oth HO7.out (by decide)⟩
                    · rw [List.getElem?_append_right hi] at hv
                      rw [List.getElem?_append_right (by rw [← HI.out.vl]; exact hi), ← HI.out.vl] at hf
                      cases hj : i - vs.length with
                      | zero =>
                        rw [hj] at hv hf
                        simp at hv hf
                        subst hv hf
                        exact ⟨rfl, (H8.out.2.2.2.2.2.2.1.later HB9.out).oth HO7.out (by decide)⟩
                      | succ j => rw [hj] at hv; simp at hv
                  · intro f hf
                    rcases List.mem_append.1 hf with hf | hf
                    · exact HI.out.gd f hf
                    · simp at hf
                      subst hf
                      exact HGt.out
                  · rw [List.length_append, HI.out.len]
                    rfl
                  · rw [show n - (k + 1) = n - k - 1 by omega]
                    exact HRun.out)
                clear hown7 hg7
                go_wp2_with fail
                go_roundw
                case rel => exact ⟨k + 1, VA7, vc7, vs ++ [(A6, t.length, c6)], by omega, by go_num, by go_num, .inl ⟨Y6, b2, ts ++ [t], HI9⟩⟩
                case measure => simp [Lib.intOf]; omega
            · have HOk := Lib.hid (ok_any P es env _ _ _ HE.out.1.wk)
              simp only [okS] at HOk
              unfold pk at HOk
              go_wp2_with fail
              refine HOk.out.mono ?_
              rintro e w5 ⟨rfl, hb5⟩
              have HQ : Hid (WyPost P es env Y r w (.returned (.slice none 0 0)) w5) := Lib.hid (by
                have hr9 : r = .error x := by
                  have := HRR.out
                  rw [hRx] at this
                  injection this with this
                  exact this.symm
                rw [hr9]
                exact ⟨Yk, HE.out.1.fr.trans (Fr.below hb5), HE.out.1.yn, HE.out.1.wk.later hb5, _, _, _, rfl⟩)
              clear hb5 hRx
              go_wp2_with fail
              go_ret
              exact HQ.out
          · have hkn : k = n := by omega
            subst hkn
            have hex : ∃ (v0 : Option Addr × Nat × Nat) (vr : List (Option Addr × Nat × Nat)), vs = v0 :: vr ∧ vr.length + 1 = k ∧ OwnS wr w.heap.size VA vc vs ∧ ((∃ (Yj : Nat → Prop) (ak : Nat) (m : List Nd) (tr : List (List Nd)), v0.2.1 = m.length ∧ CM P es env at0 r p TA tc UA uc Y w VA vc v0 vr tr ak Yj m v0.1 v0.2.2 0 wr) ∨ (∃ (x : Nat × Int) (Yj : Nat → Prop), CE P es env r p TA tc UA uc Y w VA vc v0 vr x Yj wr)) := by
              rcases hmode with ⟨Yk, ak, ts, HI⟩ | ⟨x, Yk, hRx, hk1, HE⟩
              · have HI := HI.out
                have hR2 : R = .ok (ts, ak) := by
                  have := HI.run
                  rw [Nat.sub_self] at this
                  unfold casesGo at this
                  injection this with this
                  exact this.symm
                obtain ⟨t0, tr, rfl⟩ : ∃ t0 tr, ts = t0 :: tr := by
                  cases ts with
                  | nil => have := HI.len; simp at this; omega
                  | cons t0 tr => exact ⟨t0, tr, rfl⟩
                obtain ⟨v0, vr, rfl⟩ : ∃ v0 vr, vs = v0 :: vr := by
                  cases vs with
                  | nil => have := HI.vl; simp at this
                  | cons v0 vr => exact ⟨v0, vr, rfl⟩
                have hv0 := HI.sl 0 v0 t0 rfl rfl
                refine ⟨v0, vr, rfl, by have := HI.vl; have h2 := HI.len; rw [← this] at h2; simpa using h2, HI.vt, .inl ⟨Yk, ak, t0, tr, hv0.1, HI.fr, HI.yn, HI.wk, HI.vt, fun i v t hv ht => HI.sl (i + 1) v t (by rw [List.getElem?_cons_succ]; exact hv) (by rw [List.getElem?_cons_succ]; exact ht), hv0.2, HI.gd t0 (by simp), by have := HI.vl; simpa using this, fun t ht => HI.gd t (by simp [ht]), ?_⟩⟩
                have := HRR.out
                rw [hR2] at this
                simp only [List.drop_zero] at this ⊢
                cases h9 : meetsM at0 t0 tr with
                | none => rw [h9] at this; cases this
                | some RR =>
                  rw [h9] at this
                  refine ⟨RR, rfl, fun x hx => ?_, fun m hx => ?_⟩
                  · rw [hx] at this
                    injection this with this
                    exact this.symm
                  · rw [hx] at this
                    injection this with this
                    exact this.symm
              · obtain ⟨v0, vr, rfl⟩ : ∃ v0 vr, vs = v0 :: vr := by
                  cases vs with
                  | nil => have := HE.out.2.2; simp at this; omega
                  | cons v0 vr => exact ⟨v0, vr, rfl⟩
                have hr9 : r = .error x := by
                  have := HRR.out
                  rw [hRx] at this
                  injection this with this
                  exact this.symm
                exact ⟨v0, vr, rfl, by have := HE.out.2.2; simpa using this, HE.out.2.1, .inr ⟨x, Yk, hr9, HE.out.1.fr, HE.out.1.yn, HE.out.1.wk, HE.out.2.1⟩⟩
            obtain ⟨v0, vr, rfl, hvn, hown, hmd⟩ := hex
            have HVn := Lib.hid hvn
            have HOwn := Lib.hid hown
            have HMode := Lib.hid hmd
            obtain ⟨g, rfl, hg0, hgl, hg1, hg2⟩ := OwnL.form hown (by simp)
            have hcap := OwnL.le_cap hown
            rw [List.length_cons, hvn] at hcap
            obtain ⟨_, _, eg, _, hz0⟩ := ReadL.slice (OwnL.read encS_len hown) (i := 0) (v := v0) rfl
            injection eg with eg
            injection eg with eg1 eg2 _
            subst eg1 eg2
            rw [Nat.add_zero] at hz0
            clear hg0 hgl hg1 hg2 hvn hown hmd hmode hk hlt
            by_cases hc1 : vc = 1
            · have HR3 : Hid (∀ v, OwnS v w.heap.size (some ⟨g, 0, none⟩) vc (v0 :: vr) → ReadS v v.heap.size (some ⟨g, 0, none⟩) vr) := Lib.hid (fun v hv => by have := ReadS.cut (OwnL.read encS_len hv) (OwnL.le_cap hv); rwa [if_pos hc1] at this)
              go_wp2_with fail
              clear hz0 hcap hc1
              go_loopw [12, 71] (fun s12 s71 wr => ∃ j : Nat, j ≤ k - 1 ∧ s71 = .int .i64 j ∧ ((∃ (Yj : Nat → Prop) (ak : Nat) (m : List Nd) (tr : List (List Nd)) (MA : Option Addr) (mc : Nat), s12 = .slice MA m.length mc ∧ Hid (CM P es env at0 r p TA tc UA uc Y w (some ⟨g, 0, none⟩) vc v0 vr tr ak Yj m MA mc j wr)) ∨ (∃ (x : Nat × Int) (Yj : Nat → Prop) (MA : Option Addr) (mn mc : Nat), s12 = .slice MA mn mc ∧ Hid (CE P es env r p TA tc UA uc Y w (some ⟨g, 0, none⟩) vc v0 vr x Yj wr)))) (fun _ s71 _ => (k - 1) - (Lib.intOf s71).toNat)
              case atStart =>
                refine ⟨0, Nat.zero_le _, rfl, ?_⟩
                rcases HMode.out with ⟨Yj, ak, m, tr, hm0, h⟩ | ⟨x, Yj, h⟩
                · exact .inl ⟨Yj, ak, m, tr, v0.1, v0.2.2, by rw [← hm0], Lib.hid h⟩
                · exact .inr ⟨x, Yj, v0.1, v0.2.1, v0.2.2, rfl, Lib.hid h⟩
              case round =>
                obtain ⟨j, hj, rfl, hmode2⟩ := hrel
                rcases hmode2 with ⟨Yj, ak, m, tr, MA, mc, rfl, HC⟩ | ⟨x, Yj, MA, mn, mc, rfl, HC⟩
                · by_cases hlt2 : j < k - 1
                  · obtain ⟨v, hv⟩ := getq_ex (l := vr) (i := j) (by have := HVn.out; omega)
                    obtain ⟨t, ht⟩ := getq_ex (l := tr) (i := j) (by have := HVn.out; have := HC.out.2.2.2.2.2.2.2.1; omega)
                    obtain ⟨e1, e2⟩ := HC.out.2.2.2.2.1 j v t hv ht
                    obtain ⟨_, _, eg, _, hz⟩ := ReadL.slice (HR3.out _ HC.out.2.2.2.1) hv
                    injection eg with eg
                    injection eg with eg1 eg2 _
                    subst eg1 eg2
                    rw [e1] at hz
                    rw [Nat.zero_add] at hz
                    obtain ⟨RR, hrun, hx1, hx2⟩ := HC.out.2.2.2.2.2.2.2.2.2
                    have hdr : tr.drop j = t :: tr.drop (j + 1) := by
                      obtain ⟨_, h2⟩ := List.getElem?_eq_some_iff.1 ht
                      rw [List.drop_eq_getElem_cons (getq_lt ht), h2]
                    rw [hdr] at hrun
                    have hgt := HC.out.2.2.2.2.2.2.2.2.1 t (List.mem_of_getElem? ht)
                    have HC2 := Lib.hid (And.intro hx1 hx2)
                    rcases meetsM_step hrun with ⟨hm9, hr9⟩ | ⟨m2, hm9, hg9, hr9⟩
                    · have HX := Lib.hid (meet_ok P es env ak MA v.1 mc v.2.2 m t at0 (.error (at0, 9)) Yj wr HC.out.2.2.1 HC.out.2.2.2.2.2.1 e2 HC.out.2.2.2.2.2.2.1 hgt (by unfold meetA; rw [hm9]))
                      unfold pk at HX
                      have Hr9 := Lib.hid hr9
                      clear hrun hx1 hx2 hdr hgt hv ht e1 e2 hm9 hr9
                      go_wp2_with fail
                      refine HX.out.mono ?_
                      rintro e w6 ⟨Y6, hf6, hy6, hk6, rfl⟩
                      have H6 : Hid (CE P es env r p TA tc UA uc Y w (some ⟨g, 0, none⟩) vc v0 vr (at0, 9) Y6 w6) := Lib.hid ⟨HC2.out.1 _ Hr9.out, Fr.new HC.out.1 hf6 HC.out.2.1, YNew.trans HC.out.2.1 hy6 HC.out.1.size, hk6, OwnL.step HC.out.2.2.2.1 HC.out.2.2.1 hf6 (by decide) (by decide)⟩
                      clear hf6 hy6 hk6 hz
                      go_wp2_with fail
                      go_roundw
                      case rel => exact ⟨j + 1, by omega, by go_num, .inr ⟨_, Y6, none, 0, 0, rfl, H6⟩⟩
                      case measure => simp [Lib.intOf]; omega
                    · have HX := Lib.hid (meet_ok P es env ak MA v.1 mc v.2.2 m t at0 (.ok (m2, ak)) Yj wr HC.out.2.2.1 HC.out.2.2.2.2.2.1 e2 HC.out.2.2.2.2.2.2.1 hgt (by unfold meetA; rw [hm9]))
                      unfold pk at HX
                      have Hr9 := Lib.hid (And.intro hr9 hg9)
                      clear hrun hx1 hx2 hdr hgt hv ht e1 e2 hm9 hr9 hg9
                      go_wp2_with fail
                      refine HX.out.mono ?_
                      rintro e w6 ⟨Y6, hf6, hy6, hk6, A6, c6, rfl, ht6⟩
                      have H6 : Hid (CM P es env at0 r p TA tc UA uc Y w (some ⟨g, 0, none⟩) vc v0 vr tr ak Y6 m2 A6 c6 (j + 1) w6) := Lib.hid ⟨Fr.new HC.out.1 hf6 HC.out.2.1, YNew.trans HC.out.2.1 hy6 HC.out.1.size, hk6, OwnL.step HC.out.2.2.2.1 HC.out.2.2.1 hf6 (by decide) (by decide), fun i v t hv ht => ⟨(HC.out.2.2.2.2.1 i v t hv ht).1, (HC.out.2.2.2.2.1 i v t hv ht).2.fr hf6 hy6⟩, ht6, Hr9.out.2, HC.out.2.2.2.2.2.2.2.1, HC.out.2.2.2.2.2.2.2.2.1, RR, Hr9.out.1, HC2.out.1, HC2.out.2⟩
                      clear hf6 hy6 hk6 hz ht6
                      go_wp2_with fail
                      go_roundw
                      case rel => exact ⟨j + 1, by omega, by go_num, .inl ⟨Y6, ak, m2, tr, A6, c6, rfl, H6⟩⟩
                      case measure => simp [Lib.intOf]; omega
                  · have HQ : Hid (WyPost P es env Y r w (.returned (.slice MA m.length mc)) wr) := Lib.hid (by
                      obtain ⟨RR, hrun, hx1, hx2⟩ := HC.out.2.2.2.2.2.2.2.2.2
                      have hdr : tr.drop j = [] := List.drop_eq_nil_of_le (by have := HVn.out; have := HC.out.2.2.2.2.2.2.2.1; omega)
                      rw [hdr] at hrun
                      unfold meetsM at hrun
                      injection hrun with hrun
                      rw [hx2 m hrun.symm]
                      exact ⟨Yj, HC.out.1, HC.out.2.1, HC.out.2.2.1, MA, mc, rfl, HC.out.2.2.2.2.2.1⟩)
                    go_wp2_with fail
                    go_ret
                    exact HQ.out
                · by_cases hlt2 : j < k - 1
                  · obtain ⟨v, hv⟩ := getq_ex (l := vr) (i := j) (by have := HVn.out; omega)
                    obtain ⟨_, _, eg, _, hz⟩ := ReadL.slice (HR3.out _ HC.out.2.2.2.2) hv
                    injection eg with eg
                    injection eg with eg1 eg2 _
                    subst eg1 eg2
                    rw [Nat.zero_add] at hz
                    have HX := Lib.hid (meet_bad P es env x (.slice MA mn mc) (.slice v.1 v.2.1 v.2.2) at0 Yj wr HC.out.2.2.2.1)
                    unfold pk at HX
                    clear hv
                    go_wp2_with fail
                    refine HX.out.mono ?_
                    rintro e w6 ⟨Y6, hf6, hy6, hk6, rfl⟩
                    have H6 : Hid (CE P es env r p TA tc UA uc Y w (some ⟨g, 0, none⟩) vc v0 vr x Y6 w6) := Lib.hid ⟨HC.out.1, Fr.new HC.out.2.1 hf6 HC.out.2.2.1, YNew.trans HC.out.2.2.1 hy6 HC.out.2.1.size, hk6, OwnL.step HC.out.2.2.2.2 HC.out.2.2.2.1 hf6 (by decide) (by decide)⟩
                    clear hf6 hy6 hk6 hz
                    go_wp2_with fail
                    go_roundw
                    case rel => exact ⟨j + 1, by omega, by go_num, .inr ⟨_, Y6, none, 0, 0, rfl, H6⟩⟩
                    case measure => simp [Lib.intOf]; omega
                  · have HQ : Hid (WyPost P es env Y r w (.returned (.slice MA mn mc)) wr) := Lib.hid (by
                      rw [HC.out.1]
                      exact ⟨Yj, HC.out.2.1, HC.out.2.2.1, HC.out.2.2.2.1, _, _, _, rfl⟩)
                    go_wp2_with fail
                    go_ret
                    exact HQ.out
            · have HR3 : Hid (∀ v, OwnS v w.heap.size (some ⟨g, 0, none⟩) vc (v0 :: vr) → ReadS v v.heap.size (some ⟨g, 1, none⟩) vr) := Lib.hid (fun v hv => by have := ReadS.cut (OwnL.read encS_len hv) (OwnL.le_cap hv); rwa [if_neg hc1] at this)
              go_wp2_with fail
              clear hz0 hcap hc1
              go_loopw [12, 71] (fun s12 s71 wr => ∃ j : Nat, j ≤ k - 1 ∧ s71 = .int .i64 j ∧ ((∃ (Yj : Nat → Prop) (ak : Nat) (m : List Nd) (tr : List (List Nd)) (MA : Option Addr) (mc : Nat), s12 = .slice MA m.length mc ∧ Hid (CM P es env at0 r p TA tc UA uc Y w (some ⟨g, 0, none⟩) vc v0 vr tr ak Yj m MA mc j wr)) ∨ (∃ (x : Nat × Int) (Yj : Nat → Prop) (MA : Option Addr) (mn mc : Nat), s12 = .slice MA mn mc ∧ Hid (CE P es env r p TA tc UA uc Y w (some ⟨g, 0, none⟩) vc v0 vr x Yj wr)))) (fun _ s71 _ => (k - 1) - (Lib.intOf s71).toNat)
              case atStart =>
                refine ⟨0, Nat.zero_le _, rfl, ?_⟩
                rcases HMode.out with ⟨Yj, ak, m, tr, hm0, h⟩ | ⟨x, Yj, h⟩
                · exact .inl ⟨Yj, ak, m, tr, v0.1, v0.2.2, by rw [← hm0], Lib.hid h⟩
                · exact .inr ⟨x, Yj, v0.1, v0.2.1, v0.2.2, rfl, Lib.hid h⟩
              case round =>
                obtain ⟨j, hj, rfl, hmode2⟩ := hrel
                rcases hmode2 with ⟨Yj, ak, m, tr, MA, mc, rfl, HC⟩ | ⟨x, Yj, MA, mn, mc, rfl, HC⟩
                · by_cases hlt2 : j < k - 1
                  · obtain ⟨v, hv⟩ := getq_ex (l := vr) (i := j) (by have := HVn.out; omega)
                    obtain ⟨t, ht⟩ := getq_ex (l := tr) (i := j) (by have := HVn.out; have := HC.out.2.2.2.2.2.2.2.1; omega)
                    obtain ⟨e1, e2⟩ := HC.out.2.2.2.2.1 j v t hv ht
                    obtain ⟨_, _, eg, _, hz⟩ := ReadL.slice (HR3.out _ HC.out.2.2.2.1) hv
                    injection eg with eg
                    injection eg with eg1 eg2 _
                    subst eg1 eg2
                    rw [e1] at hz
                    obtain ⟨RR, hrun, hx1, hx2⟩ := HC.out.2.2.2.2.2.2.2.2.2
                    have hdr : tr.drop j = t :: tr.drop (j + 1) := by
                      obtain ⟨_, h2⟩ := List.getElem?_eq_some_iff.1 ht
                      rw [List.drop_eq_getElem_cons (getq_lt ht), h2]
                    rw [hdr] at hrun
                    have hgt := HC.out.2.2.2.2.2.2.2.2.1 t (List.mem_of_getElem? ht)
                    have HC2 := Lib.hid (And.intro hx1 hx2)
                    rcases meetsM_step hrun with ⟨hm9, hr9⟩ | ⟨m2, hm9, hg9, hr9⟩
                    · have HX := Lib.hid (meet_ok P es env ak MA v.1 mc v.2.2 m t at0 (.error (at0, 9)) Yj wr HC.out.2.2.1 HC.out.2.2.2.2.2.1 e2 HC.out.2.2.2.2.2.2.1 hgt (by unfold meetA; rw [hm9]))
                      unfold pk at HX
                      have Hr9 := Lib.hid hr9
                      clear hrun hx1 hx2 hdr hgt hv ht e1 e2 hm9 hr9
                      go_wp2_with fail
                      refine HX.out.mono ?_
                      rintro e w6 ⟨Y6, hf6, hy6, hk6, rfl⟩
                      have H6 : Hid (CE P es env r p TA tc UA uc Y w (some ⟨g, 0, none⟩) vc v0 vr (at0, 9) Y6 w6) := Lib.hid ⟨HC2.out.1 _ Hr9.out, Fr.new HC.out.1 hf6 HC.out.2.1, YNew.trans HC.out.2.1 hy6 HC.out.1.size, hk6, OwnL.step HC.out.2.2.2.1 HC.out.2.2.1 hf6 (by decide) (by decide)⟩
                      clear hf6 hy6 hk6 hz
                      go_wp2_with fail
                      go_roundw
                      case rel => exact ⟨j + 1, by omega, by go_num, .inr ⟨_, Y6, none, 0, 0, rfl, H6⟩⟩
                      case measure => simp [Lib.intOf]; omega
                    · have HX := Lib.hid (meet_ok P es env ak MA v.1 mc v.2.2 m t at0 (.ok (m2, ak)) Yj wr HC.out.2.2.1 HC.out.2.2.2.2.2.1 e2 HC.out.2.2.2.2.2.2.1 hgt (by unfold meetA; rw [hm9]))
                      unfold pk at HX
                      have Hr9 := Lib.hid (And.intro hr9 hg9)
                      clear hrun hx1 hx2 hdr hgt hv ht e1 e2 hm9 hr9 hg9
                      go_wp2_with fail
                      refine HX.out.mono ?_
                      rintro e w6 ⟨Y6, hf6, hy6, hk6, A6, c6, rfl, ht6⟩
                      have H6 : Hid (CM P es env at0 r p TA tc UA uc Y w (some ⟨g, 0, none⟩) vc v0 vr tr ak Y6 m2 A6 c6 (j + 1) w6) := Lib.hid ⟨Fr.new HC.out.1 hf6 HC.out.2.1, YNew.trans HC.out.2.1 hy6 HC.out.1.size, hk6, OwnL.step HC.out.2.2.2.1 HC.out.2.2.1 hf6 (by decide) (by decide), fun i v t hv ht => ⟨(HC.out.2.2.2.2.1 i v t hv ht).1, (HC.out.2.2.2.2.1 i v t hv ht).2.fr hf6 hy6⟩, ht6, Hr9.out.2, HC.out.2.2.2.2.2.2.2.1, HC.out.2.2.2.2.2.2.2.2.1, RR, Hr9.out.1, HC2.out.1, HC2.out.2⟩
                      clear hf6 hy6 hk6 hz ht6
                      go_wp2_with fail
                      go_roundw
                      case rel => exact ⟨j + 1, by omega, by go_num, .inl ⟨Y6, ak, m2, tr, A6, c6, rfl, H6⟩⟩
                      case measure => simp [Lib.intOf]; omega
                  · have HQ : Hid (WyPost P es env Y r w (.returned (.slice MA m.length mc)) wr) := Lib.hid (by
                      obtain ⟨RR, hrun, hx1, hx2⟩ := HC.out.2.2.2.2.2.2.2.2.2
                      have hdr : tr.drop j = [] := List.drop_eq_nil_of_le (by have := HVn.out; have := HC.out.2.2.2.2.2.2.2.1; omega)
                      rw [hdr] at hrun
                      unfold meetsM at hrun
                      injection hrun with hrun
                      rw [hx2 m hrun.symm]
                      exact ⟨Yj, HC.out.1, HC.out.2.1, HC.out.2.2.1, MA, mc, rfl, HC.out.2.2.2.2.2.1⟩)
                    go_wp2_with fail
                    go_ret
                    exact HQ.out
                · by_cases hlt2 : j < k - 1
                  · obtain ⟨v, hv⟩ := getq_ex (l := vr) (i := j) (by have := HVn.out; omega)
                    obtain ⟨_, _, eg, _, hz⟩ := ReadL.slice (HR3.out _ HC.out.2.2.2.2) hv
                    injection eg with eg
                    injection eg with eg1 eg2 _
                    subst eg1 eg2
                    have HX := Lib.hid (meet_bad P es env x (.slice MA mn mc) (.slice v.1 v.2.1 v.2.2) at0 Yj wr HC.out.2.2.2.1)
                    unfold pk at HX
                    clear hv
                    go_wp2_with fail
                    refine HX.out.mono ?_
                    rintro e w6 ⟨Y6, hf6, hy6, hk6, rfl⟩
                    have H6 : Hid (CE P es env r p TA tc UA uc Y w (some ⟨g, 0, none⟩) vc v0 vr x Y6 w6) := Lib.hid ⟨HC.out.1, Fr.new HC.out.2.1 hf6 HC.out.2.2.1, YNew.trans HC.out.2.2.1 hy6 HC.out.2.1.size, hk6, OwnL.step HC.out.2.2.2.2 HC.out.2.2.2.1 hf6 (by decide) (by decide)⟩
                    clear hf6 hy6 hk6 hz
                    go_wp2_with fail
                    go_roundw
                    case rel => exact ⟨j + 1, by omega, by go_num, .inr ⟨_, Y6, none, 0, 0, rfl, H6⟩⟩
                    case measure => simp [Lib.intOf]; omega
                  · have HQ : Hid (WyPost P es env Y r w (.returned (.slice MA mn mc)) wr) := Lib.hid (by
                      rw [HC.out.1]
                      exact ⟨Yj, HC.out.2.1, HC.out.2.2.1, HC.out.2.2.2.1, _, _, _, rfl⟩)
                    go_wp2_with fail
                    go_ret
                    exact HQ.out
  · cases hm
end Go.Proofs.YtmjdhfbnmmdjiaaGreat
