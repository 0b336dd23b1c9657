/- Laid together by a tool from the texts of this seat: ChY ChU. Conditions: each theorem's own. -/
import Derived.Test.YtmjdhfbnmmdjiaaGreatK14
import Derived.Test.YtmjdhfbnmmdjiaaGreatK11
import Derived.Test.YtmjdhfbnmmdjiaaGreatK09
/- Ways of check's walk whose regions draw their order (written by gen_ways2.py). -/
namespace Go.Proofs.YtmjdhfbnmmdjiaaGreat
open Go.RowKit

set_option maxRecDepth 100000 in
set_option maxHeartbeats 8000000 in
theorem get_any (P : Nat) (es : List Pt) (nx : Nx) (HN : Hid (NextC P es nx)) (env : Env) (p : Pt) (at0 a : Nat) (r : Ans) (Y : Nat → Prop) (w : World) (TA UA : Option Addr) (tc uc : Nat) (h : WkE P es env (.ok a) Y w) (hT : TyV w Y TA tc p.T) (hU : TyV w Y UA uc p.U) (hG : ∀ env a t b, nx env a = some (.ok (t, b)) → Gd t) (hm : getM nx env p at0 a = some r) :
    Calls Tryz.prog 74 #[pk P, pv p TA tc UA uc, .int .i64 at0] w (WyPost P es env Y r w) := by
  obtain ⟨w1, hw1⟩ : ∃ w1, w1 = w.alloc (.cells #[.int .i64 p.k, .string p.lb, .string p.nm, .string p.bd, .int .i64 p.mn, .int .i64 p.num, .slice TA p.T.length tc, .slice UA p.U.length uc] 33) := ⟨_, rfl⟩
  have hpm := PtM.new h.lt hT hU
  have hb1 : Below w.heap.size w w1 := by rw [hw1]; exact ext_alloc (Below.refl _ _) _
  rw [← hw1] at hpm
  have HPM := Lib.hid hpm
  have HB := Lib.hid hb1
  have H := Lib.hid (h.later hb1)
  have HR := Lib.hid (andA_some hm)
  have HD := Lib.hid (hG)
  have HL := Lib.hid h.lt
  clear h hT hU hm hG hpm hb1
  unfold pk pv
  go_enter Tryz.func74, Tryz.ntmps74
  go_upto_region 1 with fail
  rw [← hw1]
  clear hw1
  obtain ⟨SS, hSS⟩ : ∃ SS : World → Prop, SS = fun v => v.cell? ⟨w.heap.size, 2, none⟩ = some (.string p.nm) ∧ v.cell? ⟨w.heap.size, 3, none⟩ = some (.string p.bd) ∧ v.cell? ⟨w.heap.size, 6, none⟩ = some (.slice TA p.T.length tc) ∧ v.cell? ⟨w.heap.size, 7, none⟩ = some (.slice UA p.U.length uc) := ⟨_, rfl⟩
  have HS : Hid (∀ v Y', PtM v Y' w.heap.size p TA tc UA uc → SS v) := Lib.hid fun v Y' hv => by rw [hSS]; exact ⟨hv.cells.2.2.1, hv.cells.2.2.2.1, hv.cells.2.2.2.2.2.1, hv.cells.2.2.2.2.2.2⟩
  obtain ⟨wd, hwd⟩ : ∃ wd, wd = w1.drew := ⟨_, rfl⟩
  have HBd : Hid (Below w1.heap.size w1 wd) := Lib.hid (by rw [hwd]; exact (Below.refl _ _).drew)
  have HMd := Lib.hid (HPM.out.later HBd.out)
  have HWd := Lib.hid (H.out.later HBd.out)
  have HFd : Hid (Fr Y w wd ∧ YNew Y Y w) := Lib.hid ⟨Fr.below (ext_trans HB.out HBd.out), YNew.refl _ _⟩
  have hsd : SS wd := HS.out _ _ HMd.out
  refine wp_region_L_drew (S := SS) [6] (by kernel_rfl) (by rw [← hwd]; exact hsd) (fun hHeld => ?_)
  rw [← hwd] at hHeld ⊢
  clear hwd
  refine onA 0 [6] (some 7) rfl rfl ?_
  refine onA 1 [2, 6] (some 8) rfl rfl ?_
  refine onA 3 [4, 6] (some 10) rfl rfl ?_
  refine onA 4 [6] (some 11) rfl rfl ?_
  refine onA 5 [6] (some 12) rfl rfl ?_
  rcases HR.out with ⟨x, h1, hr⟩ | ⟨t, b, h1, hr⟩
  · have HX := Lib.hid (HN.out env (.ok a) _ Y wd h1 HWd.out)
    unfold pk at HX
    refine callL 2 (some 9) rfl rfl (by kernel_rfl) (by rfl) (by kernel_rfl) HX.out ?_
    rintro e w2 ⟨Y2, hf2, hy2, hk2, rfl⟩
    have HM2 := Lib.hid (HMd.out.fr hf2 hy2)
    have hs2 : SS w2 := HS.out _ _ HM2.out
    refine ⟨_, rfl, hs2, ?_⟩
    refine putA ?_
    have HF2 : Hid (Fr Y w w2 ∧ YNew Y Y2 w) := Lib.hid ⟨Fr.new HFd.out.1 hf2 HFd.out.2, YNew.trans HFd.out.2 hy2 HFd.out.1.size⟩
    have HX2 := Lib.hid (field_bad P es env x (.slice none 0 0) (.string p.nm) at0 Y2 w2 hk2)
    rw [← hr] at HX2
    unfold pk at HX2
    refine callL 6 (some 13) rfl rfl (by kernel_rfl) (by rfl) (by kernel_rfl) HX2.out ?_
    intro e w3 hp
    have HQ := Lib.hid (hp.to HF2.out.1 HF2.out.2)
    have HM3 : Hid (∃ Y3, PtM w3 Y3 w.heap.size p TA tc UA uc) := Lib.hid (by
      obtain ⟨Y3, hf3, hy3, _⟩ := hp
      exact ⟨Y3, HM2.out.fr hf3 hy3⟩)
    clear hp
    obtain ⟨v9, hv9⟩ := HQ.out.ret
    subst hv9
    refine ⟨_, rfl, by obtain ⟨Y3, h3⟩ := HM3.out; exact HS.out _ _ h3, ?_⟩
    refine putA ?_
    refine valL 7 (some 6) rfl rfl (by kernel_rfl) (by rfl) (by go_simp; first | with_reducible rfl | (constructor <;> with_reducible rfl)) (zL (by kernel_rfl)) ?_
    refine putA ?_
    refine doneL (by kernel_rfl) ?_ _
    clear hf2 hy2 hk2 hs2 hHeld hsd h1 hr
    go_wp2_with fail
    go_ret
    exact HQ.out
  · have HX := Lib.hid (HN.out env (.ok a) _ Y wd h1 HWd.out)
    unfold pk at HX
    refine callL 2 (some 9) rfl rfl (by kernel_rfl) (by rfl) (by kernel_rfl) HX.out ?_
    rintro e w2 ⟨Y2, hf2, hy2, hk2, A2, c2, rfl, ht2⟩
    have HM2 := Lib.hid (HMd.out.fr hf2 hy2)
    have hs2 : SS w2 := HS.out _ _ HM2.out
    refine ⟨_, rfl, hs2, ?_⟩
    refine putA ?_
    have HF2 : Hid (Fr Y w w2 ∧ YNew Y Y2 w) := Lib.hid ⟨Fr.new HFd.out.1 hf2 HFd.out.2, YNew.trans HFd.out.2 hy2 HFd.out.1.size⟩
    have HX2 := Lib.hid (field_ok P es env b A2 c2 t p.nm at0 r Y2 w2 hk2 ht2 (HD.out _ _ _ _ h1) hr)
    unfold pk at HX2
    refine callL 6 (some 13) rfl rfl (by kernel_rfl) (by rfl) (by kernel_rfl) HX2.out ?_
    intro e w3 hp
    have HQ := Lib.hid (hp.to HF2.out.1 HF2.out.2)
    have HM3 : Hid (∃ Y3, PtM w3 Y3 w.heap.size p TA tc UA uc) := Lib.hid (by
      obtain ⟨Y3, hf3, hy3, _⟩ := hp
      exact ⟨Y3, HM2.out.fr hf3 hy3⟩)
    clear hp
    obtain ⟨v9, hv9⟩ := HQ.out.ret
    subst hv9
    refine ⟨_, rfl, by obtain ⟨Y3, h3⟩ := HM3.out; exact HS.out _ _ h3, ?_⟩
    refine putA ?_
    refine valL 7 (some 6) rfl rfl (by kernel_rfl) (by rfl) (by go_simp; first | with_reducible rfl | (constructor <;> with_reducible rfl)) (zL (by kernel_rfl)) ?_
    refine putA ?_
    refine doneL (by kernel_rfl) ?_ _
    clear hf2 hy2 hk2 hs2 hHeld hsd h1 hr ht2
    go_wp2_with fail
    go_ret
    exact HQ.out

theorem readB_new (w : World) (b : Bn) : ReadB (w.alloc (.cells #[.string b.s, .slice b.A b.n b.c] 36)) (w.heap.size + 1) (some ⟨w.heap.size, 0, none⟩) [b] := fun _ => by
  refine ⟨w.heap.size, 0, rfl, by omega, fun i x hx j u hu => ?_⟩
  match i, hx with
  | 0, hx =>
    simp at hx
    subst hx
    match j, hu with
    | 0, hu => simp [encB] at hu; subst hu; simp
    | 1, hu => simp [encB] at hu; subst hu; simp
    | j + 2, hu => simp [encB] at hu
  | i + 1, hx => simp at hx

set_option maxRecDepth 100000 in
set_option maxHeartbeats 8000000 in
theorem let_any (P : Nat) (es : List Pt) (nx : Nx) (HN : Hid (NextC P es nx)) (env : Env) (p : Pt) (at0 a : Nat) (r : Ans) (Y : Nat → Prop) (w : World) (TA UA : Option Addr) (tc uc : Nat) (h : WkE P es env (.ok a) Y w) (hT : TyV w Y TA tc p.T) (hU : TyV w Y UA uc p.U) (gT : Gd p.T) (hvl : env.length ≤ 900000) (hG : ∀ env a t b, nx env a = some (.ok (t, b)) → Gd t) (hm : letM nx env p at0 a = some r) :
    Calls Tryz.prog 68 #[pk P, pv p TA tc UA uc, .int .i64 at0] w (WyPost P es env Y r w) := by
  obtain ⟨w1, hw1⟩ : ∃ w1, w1 = w.alloc (.cells #[.int .i64 p.k, .string p.lb, .string p.nm, .string p.bd, .int .i64 p.mn, .int .i64 p.num, .slice TA p.T.length tc, .slice UA p.U.length uc] 33) := ⟨_, rfl⟩
  have hpm := PtM.new h.lt hT hU
  have hb1 : Below w.heap.size w w1 := by rw [hw1]; exact ext_alloc (Below.refl _ _) _
  rw [← hw1] at hpm
  have HPM := Lib.hid hpm
  have HB := Lib.hid hb1
  have H := Lib.hid (h.later hb1)
  have HR := Lib.hid (andA_some hm)
  have HD := Lib.hid (And.intro gT (And.intro hG hvl))
  have HL := Lib.hid h.lt
  clear h hT hU hm hG hpm hb1
  unfold pk pv
  go_enter Tryz.func68, Tryz.ntmps68
  go_upto_region 1 with fail
  rw [← hw1]
  clear hw1
  obtain ⟨SS, hSS⟩ : ∃ SS : World → Prop, SS = fun v => v.cell? ⟨w.heap.size, 2, none⟩ = some (.string p.nm) ∧ v.cell? ⟨w.heap.size, 3, none⟩ = some (.string p.bd) ∧ v.cell? ⟨w.heap.size, 6, none⟩ = some (.slice TA p.T.length tc) ∧ v.cell? ⟨w.heap.size, 7, none⟩ = some (.slice UA p.U.length uc) := ⟨_, rfl⟩
  have HS : Hid (∀ v Y', PtM v Y' w.heap.size p TA tc UA uc → SS v) := Lib.hid fun v Y' hv => by rw [hSS]; exact ⟨hv.cells.2.2.1, hv.cells.2.2.2.1, hv.cells.2.2.2.2.2.1, hv.cells.2.2.2.2.2.2⟩
  obtain ⟨wd, hwd⟩ : ∃ wd, wd = w1.drew := ⟨_, rfl⟩
  have HBd : Hid (Below w1.heap.size w1 wd) := Lib.hid (by rw [hwd]; exact (Below.refl _ _).drew)
  have HMd := Lib.hid (HPM.out.later HBd.out)
  have HWd := Lib.hid (H.out.later HBd.out)
  have HFd : Hid (Fr Y w wd ∧ YNew Y Y w) := Lib.hid ⟨Fr.below (ext_trans HB.out HBd.out), YNew.refl _ _⟩
  have hsd : SS wd := HS.out _ _ HMd.out
  refine wp_region_L_drew (S := SS) [6] (by kernel_rfl) (by rw [← hwd]; exact hsd) (fun hHeld => ?_)
  rw [← hwd] at hHeld ⊢
  clear hwd
  refine onA 0 [6] (some 7) rfl rfl ?_
  refine onA 1 [2, 6] (some 8) rfl rfl ?_
  refine onA 3 [4, 6] (some 10) rfl rfl ?_
  refine onA 4 [6] (some 11) rfl rfl ?_
  refine onA 5 [6] (some 12) rfl rfl ?_
  rcases HR.out with ⟨x, h1, hr⟩ | ⟨t, b, h1, hr⟩
  · have HX := Lib.hid (HN.out env (.ok a) _ Y wd h1 HWd.out)
    unfold pk at HX
    refine callL 2 (some 9) rfl rfl (by kernel_rfl) (by rfl) (by kernel_rfl) HX.out ?_
    rintro e w2 ⟨Y2, hf2, hy2, hk2, rfl⟩
    have HM2 := Lib.hid (HMd.out.fr hf2 hy2)
    have hs2 : SS w2 := HS.out _ _ HM2.out
    refine ⟨_, rfl, hs2, ?_⟩
    refine putA ?_
    have HF2 : Hid (Fr Y w w2 ∧ YNew Y Y2 w) := Lib.hid ⟨Fr.new HFd.out.1 hf2 HFd.out.2, YNew.trans HFd.out.2 hy2 HFd.out.1.size⟩
    have HX2 := Lib.hid (agree_bad P es env x (.slice none 0 0) (.slice TA p.T.length tc) at0 Y2 w2 hk2)
    unfold pk at HX2
    refine callL 6 (some 13) rfl rfl (by kernel_rfl) (by rfl) (by kernel_rfl) HX2.out ?_
    rintro e w3 ⟨⟨v3, rfl⟩, hf3, hk3⟩
    have HM3 := Lib.hid (HM2.out.fr hf3 (YNew.refl _ _))
    refine ⟨_, rfl, HS.out _ _ HM3.out, ?_⟩
    refine putA ?_
    refine doneL (by kernel_rfl) ?_ _
    go_upto_region 2 with fail
    have HX3 := Lib.hid (with_any P es nx HN env [(p.bd, p.T)] (.error x) r (some ⟨w3.heap.size, 0, none⟩) 1 [⟨p.bd, TA, p.T.length, tc⟩] Y2 (w3.alloc (.cells #[.string p.bd, .slice TA p.T.length tc] 36)) (hk3.later (ext_alloc (Below.refl _ _) _)) (by rw [World.size_alloc]; exact readB_new w3 ⟨p.bd, TA, p.T.length, tc⟩) (EnvM.one (HM3.out.T.later (ext_alloc (Below.refl _ _) _)) rfl) (by simp) HD.out.2.2 (by rw [hr]; rfl))
    have HF3 : Hid (Fr Y w (w3.alloc (.cells #[.string p.bd, .slice TA p.T.length tc] 36)) ∧ YNew Y Y2 w) := Lib.hid ⟨(Fr.new HF2.out.1 hf3 HF2.out.2).alloc _, HF2.out.2⟩
    obtain ⟨k0, k1, k2, k3, k4, k6, k7⟩ := HM3.out.cells
    unfold pk at HX3
    clear hf2 hy2 hk2 hf3 hk3 hs2 hHeld hsd h1 hr
    go_wp2_with fail
    refine HX3.out.mono ?_
    intro e w4 hp
    have HQ := Lib.hid (hp.to HF3.out.1 HF3.out.2)
    clear hp
    obtain ⟨v9, hv9⟩ := HQ.out.ret
    subst hv9
    clear k0 k1 k2 k3 k4 k6 k7
    go_wp2_with fail
    go_ret
    exact HQ.out
  · have HX := Lib.hid (HN.out env (.ok a) _ Y wd h1 HWd.out)
    unfold pk at HX
    refine callL 2 (some 9) rfl rfl (by kernel_rfl) (by rfl) (by kernel_rfl) HX.out ?_
    rintro e w2 ⟨Y2, hf2, hy2, hk2, A2, c2, rfl, ht2⟩
    have HM2 := Lib.hid (HMd.out.fr hf2 hy2)
    have hs2 : SS w2 := HS.out _ _ HM2.out
    refine ⟨_, rfl, hs2, ?_⟩
    refine putA ?_
    have HF2 : Hid (Fr Y w w2 ∧ YNew Y Y2 w) := Lib.hid ⟨Fr.new HFd.out.1 hf2 HFd.out.2, YNew.trans HFd.out.2 hy2 HFd.out.1.size⟩
    have HX2 := Lib.hid (agree_ok P es env b A2 TA c2 tc t p.T at0 Y2 w2 hk2 ht2.ty HM2.out.T.ty (HD.out.2.1 _ _ _ _ h1) HD.out.1)
    unfold pk at HX2
    refine callL 6 (some 13) rfl rfl (by kernel_rfl) (by rfl) (by kernel_rfl) HX2.out ?_
    rintro e w3 ⟨⟨v3, rfl⟩, hf3, hk3⟩
    have HM3 := Lib.hid (HM2.out.fr hf3 (YNew.refl _ _))
    refine ⟨_, rfl, HS.out _ _ HM3.out, ?_⟩
    refine putA ?_
    refine doneL (by kernel_rfl) ?_ _
    go_upto_region 2 with fail
    have HX3 := Lib.hid (with_any P es nx HN env [(p.bd, p.T)] (agS t p.T at0 b) r (some ⟨w3.heap.size, 0, none⟩) 1 [⟨p.bd, TA, p.T.length, tc⟩] Y2 (w3.alloc (.cells #[.string p.bd, .slice TA p.T.length tc] 36)) (hk3.later (ext_alloc (Below.refl _ _) _)) (by rw [World.size_alloc]; exact readB_new w3 ⟨p.bd, TA, p.T.length, tc⟩) (EnvM.one (HM3.out.T.later (ext_alloc (Below.refl _ _) _)) rfl) (by simp) HD.out.2.2 hr)
    have HF3 : Hid (Fr Y w (w3.alloc (.cells #[.string p.bd, .slice TA p.T.length tc] 36)) ∧ YNew Y Y2 w) := Lib.hid ⟨(Fr.new HF2.out.1 hf3 HF2.out.2).alloc _, HF2.out.2⟩
    obtain ⟨k0, k1, k2, k3, k4, k6, k7⟩ := HM3.out.cells
    unfold pk at HX3
    clear hf2 hy2 hk2 hf3 hk3 hs2 hHeld hsd h1 hr ht2
    go_wp2_with fail
    refine HX3.out.mono ?_
    intro e w4 hp
    have HQ := Lib.hid (hp.to HF3.out.1 HF3.out.2)
    clear hp
    obtain ⟨v9, hv9⟩ := HQ.out.ret
    subst hv9
    clear k0 k1 k2 k3 k4 k6 k7
    go_wp2_with fail
    go_ret
    exact HQ.out

set_option maxRecDepth 100000 in
set_option maxHeartbeats 8000000 in
theorem fun_any (P : Nat) (es : List Pt) (nx : Nx) (HN : Hid (NextC P es nx)) (env : Env) (p : Pt) (at0 a : Nat) (r : Ans) (Y : Nat → Prop) (w : World) (TA UA : Option Addr) (tc uc : Nat) (h : WkE P es env (.ok a) Y w) (hT : TyV w Y TA tc p.T) (hU : TyV w Y UA uc p.U) (gT : Gd p.T) (hvl : env.length ≤ 900000) (hG : ∀ env a t b, nx env a = some (.ok (t, b)) → Gd t) (hm : funM nx env p a = some r) :
    Calls Tryz.prog 66 #[pk P, pv p TA tc UA uc, .int .i64 at0] w (WyPost P es env Y r w) := by
  obtain ⟨w1, hw1⟩ : ∃ w1, w1 = w.alloc (.cells #[.int .i64 p.k, .string p.lb, .string p.nm, .string p.bd, .int .i64 p.mn, .int .i64 p.num, .slice TA p.T.length tc, .slice UA p.U.length uc] 33) := ⟨_, rfl⟩
  have hpm := PtM.new h.lt hT hU
  have hb1 : Below w.heap.size w w1 := by rw [hw1]; exact ext_alloc (Below.refl _ _) _
  rw [← hw1] at hpm
  have HPM := Lib.hid hpm
  have HB := Lib.hid hb1
  have H := Lib.hid (h.later hb1)
  have HR := Lib.hid (andA_some hm)
  have HD := Lib.hid (And.intro gT (And.intro hG hvl))
  have HL := Lib.hid h.lt
  clear h hT hU hm hG hpm hb1
  unfold pk pv
  go_enter Tryz.func66, Tryz.ntmps66
  go_upto_region 1 with fail
  rw [← hw1]
  clear hw1
  obtain ⟨SS, hSS⟩ : ∃ SS : World → Prop, SS = fun v => v.cell? ⟨w.heap.size, 2, none⟩ = some (.string p.nm) ∧ v.cell? ⟨w.heap.size, 3, none⟩ = some (.string p.bd) ∧ v.cell? ⟨w.heap.size, 6, none⟩ = some (.slice TA p.T.length tc) ∧ v.cell? ⟨w.heap.size, 7, none⟩ = some (.slice UA p.U.length uc) := ⟨_, rfl⟩
  have HS : Hid (∀ v Y', PtM v Y' w.heap.size p TA tc UA uc → SS v) := Lib.hid fun v Y' hv => by rw [hSS]; exact ⟨hv.cells.2.2.1, hv.cells.2.2.2.1, hv.cells.2.2.2.2.2.1, hv.cells.2.2.2.2.2.2⟩
  obtain ⟨wd, hwd⟩ : ∃ wd, wd = w1.drew := ⟨_, rfl⟩
  have HBd : Hid (Below w1.heap.size w1 wd) := Lib.hid (by rw [hwd]; exact (Below.refl _ _).drew)
  have HMd := Lib.hid (HPM.out.later HBd.out)
  have HWd := Lib.hid (H.out.later HBd.out)
  have HFd : Hid (Fr Y w wd ∧ YNew Y Y w) := Lib.hid ⟨Fr.below (ext_trans HB.out HBd.out), YNew.refl _ _⟩
  have hsd : SS wd := HS.out _ _ HMd.out
  refine wp_region_L_drew (S := SS) [10] (by kernel_rfl) (by rw [← hwd]; exact hsd) (fun hHeld => ?_)
  rw [← hwd] at hHeld ⊢
  clear hwd
  refine onA 0 [1, 10] (some 7) rfl rfl ?_
  refine onA 1 [10] (some 8) rfl rfl ?_
  refine onA 2 [9, 10] (some 9) rfl rfl ?_
  refine onA 3 [4, 7, 8, 9, 10] (some 10) rfl rfl ?_
  refine onA 4 [7, 8, 9, 10] (some 11) rfl rfl ?_
  refine onA 5 [6, 7, 8, 9, 10] (some 12) rfl rfl ?_
  refine onA 6 [7, 8, 9, 10] (some 13) rfl rfl ?_
  refine onA 7 [8, 9, 10] (some 14) rfl rfl ?_
  refine valL 8 (some 15) (v := ?_) (w' := ?_) rfl rfl (by kernel_rfl) (by rfl) ?_ (fun _ => ?_) ?_
  rotate_left
  rotate_left
  · (go_simp; first | with_reducible rfl | (constructor <;> with_reducible rfl))
  · exact HS.out _ _ (HMd.out.later (ext_alloc (Below.refl _ _) _))
  refine putA ?_
  have HX := Lib.hid (fun r1 (h1 : nx (env ++ [(p.bd, p.T)]) a = some r1) => with_any P es nx HN env [(p.bd, p.T)] (.ok a) r1 (some ⟨wd.heap.size, 0, none⟩) 1 [⟨p.bd, TA, p.T.length, tc⟩] Y (wd.alloc (.cells #[.string p.bd, .slice TA p.T.length tc] 36)) (HWd.out.later (ext_alloc (Below.refl _ _) _)) (by rw [World.size_alloc]; exact readB_new wd ⟨p.bd, TA, p.T.length, tc⟩) (EnvM.one (HMd.out.T.later (ext_alloc (Below.refl _ _) _)) rfl) (by simp) HD.out.2.2 h1)
  unfold pk at HX
  have HF1 : Hid (Fr Y w (wd.alloc (.cells #[.string p.bd, .slice TA p.T.length tc] 36)) ∧ PtM (wd.alloc (.cells #[.string p.bd, .slice TA p.T.length tc] 36)) Y w.heap.size p TA tc UA uc) := Lib.hid ⟨HFd.out.1.alloc _, HMd.out.later (ext_alloc (Below.refl _ _) _)⟩
  rcases HR.out with ⟨x, h1, hr⟩ | ⟨t, b, h1, hr⟩
  · refine callL 9 (some 16) rfl rfl (by kernel_rfl) (by rfl) (by kernel_rfl) (HX.out _ h1) ?_
    rintro e w2 ⟨Y2, hf2, hy2, hk2, rfl⟩
    have HM2 := Lib.hid (HF1.out.2.fr hf2 hy2)
    refine ⟨_, rfl, HS.out _ _ HM2.out, ?_⟩
    refine putA ?_
    have HF2 : Hid (Fr Y w w2 ∧ YNew Y Y2 w) := Lib.hid ⟨Fr.new HF1.out.1 hf2 (YNew.refl _ _), YNew.trans (YNew.refl _ _) hy2 HF1.out.1.size⟩
    have HX2 := Lib.hid (pArrow_any TA none tc 0 p.T [] w2 HM2.out.T.ty.tyA TyA.nil (by have := HD.out.1.len; simp; omega))
    refine callL 10 (some 17) rfl rfl (by kernel_rfl) (by rfl) (by kernel_rfl) HX2.out ?_
    rintro e w3 ⟨A3, c3, rfl, hown3, hb3⟩
    have HQ : Hid (WyPost P es env Y r w (.returned (.slice A3 (arrowN p.T []).length c3)) w3) := Lib.hid (by
      have hf3 := Fr.new HF2.out.1 (Fr.below hb3 : Fr Y2 w2 w3) HF2.out.2
      subst hr
      exact ⟨Y2, hf3, HF2.out.2, hk2.later hb3, _, _, _, rfl⟩)
    have HM3 := Lib.hid (HM2.out.later hb3)
    refine ⟨_, rfl, HS.out _ _ HM3.out, ?_⟩
    refine putA ?_
    refine valL 11 (some 6) rfl rfl (by kernel_rfl) (by rfl) (by go_simp; first | with_reducible rfl | (constructor <;> with_reducible rfl)) (zL (by kernel_rfl)) ?_
    refine putA ?_
    refine doneL (by kernel_rfl) ?_ _
    clear hf2 hy2 hk2 hHeld hsd h1 hr hown3 hb3
    go_wp2_with fail
    go_ret
    exact HQ.out
  · refine callL 9 (some 16) rfl rfl (by kernel_rfl) (by rfl) (by kernel_rfl) (HX.out _ h1) ?_
    rintro e w2 ⟨Y2, hf2, hy2, hk2, A2, c2, rfl, ht2⟩
    have HM2 := Lib.hid (HF1.out.2.fr hf2 hy2)
    refine ⟨_, rfl, HS.out _ _ HM2.out, ?_⟩
    refine putA ?_
    have HF2 : Hid (Fr Y w w2 ∧ YNew Y Y2 w) := Lib.hid ⟨Fr.new HF1.out.1 hf2 (YNew.refl _ _), YNew.trans (YNew.refl _ _) hy2 HF1.out.1.size⟩
    have HX2 := Lib.hid (pArrow_any TA A2 tc c2 p.T t w2 HM2.out.T.ty.tyA ht2.ty.tyA (by have := HD.out.1.len; have := (HD.out.2.1 _ _ _ _ h1).len; omega))
    refine callL 10 (some 17) rfl rfl (by kernel_rfl) (by rfl) (by kernel_rfl) HX2.out ?_
    rintro e w3 ⟨A3, c3, rfl, hown3, hb3⟩
    have HQ : Hid (WyPost P es env Y r w (.returned (.slice A3 (arrowN p.T t).length c3)) w3) := Lib.hid (by
      have hf3 := Fr.new HF2.out.1 (Fr.below hb3 : Fr Y2 w2 w3) HF2.out.2
      injection hr with hr
      subst hr
      exact ⟨Y2, hf3, HF2.out.2, hk2.later hb3, A3, c3, rfl, TyV.own hown3 hk2.lt⟩)
    have HM3 := Lib.hid (HM2.out.later hb3)
    refine ⟨_, rfl, HS.out _ _ HM3.out, ?_⟩
    refine putA ?_
    refine valL 11 (some 6) rfl rfl (by kernel_rfl) (by rfl) (by go_simp; first | with_reducible rfl | (constructor <;> with_reducible rfl)) (zL (by kernel_rfl)) ?_
    refine putA ?_
    refine doneL (by kernel_rfl) ?_ _
    clear hf2 hy2 hk2 hHeld hsd h1 hr hown3 hb3 ht2
    go_wp2_with fail
    go_ret
    exact HQ.out

end Go.Proofs.YtmjdhfbnmmdjiaaGreat

/- Texts sorted, and compared; a Case's tags. -/
namespace Go.Proofs.YtmjdhfbnmmdjiaaGreat
open Go.RowKit Go.Sort

theorem bytes_back (s : ByteArray) : (⟨s.toList.toArray⟩ : ByteArray) = s := by
  rw [ByteArray.toList_eq]
theorem srtS_len (l : List ByteArray) : (srtS l).length = l.length := by
  unfold srtS
  rw [List.length_map, List.length_mergeSort, List.length_map]

theorem OwnL.sortedT {w : World} {base g cap : Nat} {L : List ByteArray} (h : OwnT w base (some ⟨g, 0, none⟩) cap L) (m : Nat) (os : Array Obj) :
    OwnT (sortWorld encStr w g 0 m ((L.map ByteArray.toList).mergeSort fun x y => decide (x ≤ y)).toArray os) base (some ⟨g, 0, none⟩) cap (srtS L) := by
  obtain ⟨d, hd⟩ : ∃ d, d = ((L.map ByteArray.toList).mergeSort fun x y => decide (x ≤ y)) := ⟨_, rfl⟩
  have hdl : d.length = L.length := by rw [hd, List.length_mergeSort, List.length_map]
  have hS : srtS L = d.map fun b => ⟨b.toArray⟩ := by rw [hd]; rfl
  rw [← hd, hS]
  have hl2 : (d.map fun b : List UInt8 => (⟨b.toArray⟩ : ByteArray)).length = L.length := by rw [List.length_map, hdl]
  have h' : w.ownsRow base 9 1 (.slice (some ⟨g, 0, none⟩) L.length cap) L.length (L.flatMap encT) := h
  show (sortWorld encStr w g 0 m d.toArray os).ownsRow base 9 1 (.slice (some ⟨g, 0, none⟩) (d.map fun b : List UInt8 => (⟨b.toArray⟩ : ByteArray)).length cap) (d.map fun b : List UInt8 => (⟨b.toArray⟩ : ByteArray)).length ((d.map fun b : List UInt8 => (⟨b.toArray⟩ : ByteArray)).flatMap encT)
  rw [hl2]
  rcases h'.2 with ⟨hv, hn⟩ | ⟨g', cap', cur, hv, hbg, hg, hnc, hcm, hcs, htake⟩
  · cases hv
  · injection hv with hA' hl hc'
    injection hA' with hA'
    injection hA' with hA1
    subst hA1 hc'
    refine ⟨by rw [flatMap_len encT_len, hl2], .inr ⟨g, cap, _, rfl, hbg, sortWorld_block encStr w g m d.toArray os hg, hnc, hcm, by simp [Go.Sort.putCells]; omega, ?_⟩⟩
    have hfm : (d.map fun b : List UInt8 => (⟨b.toArray⟩ : ByteArray)).flatMap encT = d.map encStr := by
      rw [List.flatMap_map]
      clear hl2 hS hdl hd htake
      induction d with
      | nil => rfl
      | cons b d ih => rw [List.flatMap_cons, List.map_cons, ih]; rfl
    rw [hfm]
    apply List.ext_getElem?
    intro k
    by_cases hk : k < L.length
    · rw [List.getElem?_take_of_lt (by omega)]
      have hkc : k < cur.size := by omega
      have hkd : k < d.length := by omega
      simp only [Go.Sort.putCells, Array.getElem?_toList, Array.getElem?_mapIdx, Array.getElem?_eq_getElem hkc, Option.map_some, List.getElem?_map, List.getElem?_eq_getElem hkd]
      rw [if_pos ⟨Nat.zero_le _, by simp; omega⟩, Nat.sub_zero, getElem!_pos d.toArray k (by simpa using hkd)]
      rfl
    · rw [List.getElem?_eq_none (by rw [List.length_take]; omega), List.getElem?_eq_none (by rw [List.length_map]; omega)]

theorem sortT_any (A : Option Addr) (cap base : Nat) (L : List ByteArray) (w : World) (h : OwnT w base A cap L) (hl : L.length ≤ 1000000) :
    Calls Tryz.prog 123 #[.slice A L.length cap] w fun e w' => (∃ v, e = .returned v) ∧ OwnT w' base A cap (srtS L) ∧ w.grownBy w' ((Value.slice A L.length cap).ownBlock) := by
  by_cases h0 : L.length = 0
  · have hL : L = [] := List.eq_nil_of_length_eq_zero h0
    subst hL
    refine (Tryz.slices_Sort_string_none A cap w).mono ?_
    rintro e w' ⟨rfl, rfl⟩
    exact ⟨⟨_, rfl⟩, by rw [show srtS [] = [] by simp [srtS]]; exact h, ⟨rfl, rfl, rfl, Nat.le_refl _, fun _ _ _ => rfl⟩⟩
  · obtain ⟨g, rfl, hbg, hgl, _, _⟩ := OwnL.form h (by omega)
    have hH : Holds encStr w g 0 (L.map ByteArray.toList).toArray := fun j hj => by
      simp at hj
      have hx : L[j]? = some L[j] := List.getElem?_eq_getElem hj
      obtain ⟨b, o, e, _, hc⟩ := (OwnL.read encT_len h) (fun e => by rw [e] at h0; simp at h0)
      injection e with e
      injection e with e1 e2 _
      subst e1 e2
      have h1 := hc j _ hx 0 _ rfl
      refine ⟨?_, by rw [Nat.zero_add]; exact World.ownsRow.frozenAt h j⟩
      rw [show 0 + j * 1 + 0 = 0 + j by omega] at h1
      rw [h1, getElem!_pos _ j (by simpa using hj)]
      simp only [List.getElem_toArray, List.getElem_map]
      show _ = some (Value.string ⟨(L[j]).toList.toArray⟩)
      rw [bytes_back]
    have H := Tryz.slices_Sort_string g 0 cap (L.map ByteArray.toList) w hH hgl (by rw [List.length_map]; omega)
    rw [List.length_map] at H
    refine H.mono ?_
    rintro e w' ⟨rfl, n, os, rfl⟩
    exact ⟨⟨_, rfl⟩, OwnL.sortedT h n os, sortWorld_grown _ _ _ _ _ _⟩

theorem eqT_any (A B : Option Addr) (c d ba bb : Nat) (xs ys : List ByteArray) (w : World) (hx : OwnT w ba A c xs) (hy : OwnT w bb B d ys) (hl : xs.length ≤ 1000000) (hm : ys.length ≤ 1000000) :
    Calls Tryz.prog 125 #[.slice A xs.length c, .slice B ys.length d] w fun e w' => e = .returned (.bool (decide (xs = ys))) ∧ Below w.heap.size w w' := by
  by_cases h0 : xs.length = 0
  · have hL : xs = [] := List.eq_nil_of_length_eq_zero h0
    subst hL
    refine (Tryz.slices_Equal_string_empty A B c ys.length d w (by omega)).mono ?_
    rintro e w' ⟨rfl, rfl⟩
    refine ⟨?_, Below.refl _ _⟩
    cases ys <;> simp
  · by_cases hne : xs.length = ys.length
    · obtain ⟨g, rfl, _, hgl, _, _⟩ := OwnL.form hx (by omega)
      obtain ⟨g2, rfl, _, hgl2, _, _⟩ := OwnL.form hy (by omega)
      have cells : ∀ (g b c2 : Nat) (l : List ByteArray), OwnT w b (some ⟨g, 0, none⟩) c2 l → ∀ j, j < l.length → w.cell? ⟨g, 0 + j, none⟩ = some (.string (l.getD j ByteArray.empty)) := by
        intro g b c2 l h j hj
        have hx : l[j]? = some l[j] := List.getElem?_eq_getElem hj
        obtain ⟨b, o, e, _, hc⟩ := (OwnL.read encT_len h) (fun e => by rw [e] at hj; simp at hj)
        injection e with e
        injection e with e1 e2 _
        subst e1 e2
        have h1 := hc j _ hx 0 _ rfl
        rw [show 0 + j * 1 + 0 = 0 + j by omega] at h1
        rw [h1, List.getD_eq_getElem?_getD, hx]
        rfl
      refine (Tryz.slices_Equal_string g 0 xs.length c g2 0 ys.length d xs ys w (Nat.le_refl _) (Nat.le_refl _) (by omega) (by omega) (cells g ba c xs hx) (cells g2 bb d ys hy)).mono ?_
      rintro e w' ⟨rfl, q, rfl⟩
      rw [List.take_length, List.take_length]
      exact ⟨rfl, below_drewN (Below.refl _ _) _⟩
    · refine (Tryz.slices_Equal_string_lens A B xs.length c ys.length d w hne).mono ?_
      rintro e w' ⟨rfl, rfl⟩
      have : ¬ xs = ys := fun h => hne (by rw [h])
      exact ⟨by rw [decide_eq_false this], Below.refl _ _⟩
theorem ReadI.tail {w : World} {B b o : Nat} {x : Int} {xs : List Int} (h : ReadI w B (some ⟨b, o, none⟩) (x :: xs)) : ReadI w B (some ⟨b, o + 1, none⟩) xs := by
  intro hne
  obtain ⟨b', o', e, hb, hc⟩ := h (by simp)
  injection e with e
  injection e with e1 e2
  subst e1 e2
  refine ⟨b, o + 1, rfl, hb, fun i y hy j u hu => ?_⟩
  have := hc (i + 1) y (by simpa using hy) j u hu
  rw [show o + 1 + i * 1 + j = o + (i + 1) * 1 + j by omega]
  exact this
/-- A set without its first number. -/
theorem ReadI.cut {w : World} {B b o c : Nat} {x : Int} {xs : List Int} (h : ReadI w B (some ⟨b, o, none⟩) (x :: xs)) (hc : (x :: xs).length ≤ c) : ReadI w B (if c = 1 then some ⟨b, o, none⟩ else some ⟨b, o + 1, none⟩) xs := by
  by_cases e : c = 1
  · rw [if_pos e]
    have : xs = [] := List.eq_nil_of_length_eq_zero (by simp at hc; omega)
    rw [this]
    exact fun hne => absurd rfl hne
  · rw [if_neg e]
    exact h.tail

theorem tagsM_len {t : List Nd} {l : List ByteArray} (g : Gd t) (h : tagsM t = some l) : l.length ≤ 50 := by
  rcases t with _ | ⟨x, xt⟩
  · exact absurd g.fo.pos (by simp)
  unfold tagsM at h
  split at h
  · injection h with h
    rw [← h]
    simp
  · split at h
    · injection h with h
      rw [← h, List.length_map]
      show (splitF (manyN x) xt).length ≤ 50
      rw [splitF_len]
      exact manyN_le (g.ok x (by simp))
    · cases h

set_option maxRecDepth 100000 in
set_option maxHeartbeats 8000000 in
theorem ctags_any (P : Nat) (es : List Pt) (env : Env) (a : Nat) (A : Option Addr) (c : Nat) (t : List Nd) (at0 : Nat) (bb : Bool) (Y : Nat → Prop) (w : World) (hes : PsOk es) (h : WkE P es env (.ok a) Y w) (ht : TyV w Y A c t) (g : Gd t) (hm : tagsOk es t at0 = some bb) :
    Calls Tryz.prog 102 #[pk P, .slice A t.length c, .int .i64 at0] w (SPost P es env Y (mustS bb at0 9 (.ok a)) w) := by
  unfold tagsOk at hm
  split at hm
  · cases hm
  rename_i p hp
  split at hm
  · cases hm
  · cases hm
  rename_i l0 l hk
  obtain ⟨x, xt, rfl⟩ : ∃ x xt, t = x :: xt := by
    cases t with
    | nil => exact absurd g.fo.pos (by simp)
    | cons x xt => exact ⟨x, xt, rfl⟩
  obtain ⟨tb, tof, rfl, htb, ct, _, _⟩ := ht.ty.tyA.at_ (i := 0) (x := x) rfl
  rw [show tof + 0 * 3 = tof by omega] at ct
  obtain ⟨a', p', e', ⟨EA, ec, VA', vc', bs, hmk⟩, ha, hpp, he⟩ := h
  have h : WkE P es env (.ok a) Y w := ⟨a', p', e', ⟨EA, ec, VA', vc', bs, hmk⟩, ha, hpp, he⟩
  obtain ⟨c0, _, _, _, _⟩ := hmk.cells
  have hkl := kidsO_len _ _ _ hk
  have Hk := Lib.hid (kidsE_any2 Y EA ec es at0 p _ w hmk.ex hmk.el hes hp hk)
  obtain ⟨M, hM⟩ : ∃ M, M = manyE p := ⟨_, rfl⟩
  have hm51 := manyE_le (hes p (List.mem_of_getElem? hp)).2
  rw [← hM] at Hk hkl hm51
  have hMl : M = l.length + 1 := by rw [← hkl.1]; rfl
  have HW := Lib.hid (And.intro h (And.intro ht g))
  have HX := Lib.hid (And.intro hmk.ex hm)
  have HL := Lib.hid hkl
  have hP : P < w.heap.size := h.lt P ((hmk.y P).2 (.inl rfl))
  clear hM hk hp hkl hm hmk ha hpp he h ht g
  obtain ⟨n, hn⟩ : ∃ n, n = l.length := ⟨_, rfl⟩
  have Hn := Lib.hid hn
  rw [← hn] at hMl
  subst hMl
  clear hn
  simp only [List.length_cons]
  unfold pk
  go_enter Tryz.func102, Tryz.ntmps102
  go_wp2_with fail
  refine Hk.out.mono ?_
  rintro e w2 ⟨A2, cap2, rfl, hown2, hb2⟩
  have hcap := OwnL.le_cap hown2
  rw [asI_len, List.length_cons, ← Hn.out] at hcap
  obtain ⟨g2, rfl, _, hg2, _, _⟩ := OwnL.form hown2 (by rw [asI_len]; simp)
  have HR2 : Hid (ReadI w2 w2.heap.size (if cap2 = 1 then some ⟨g2, 0, none⟩ else some ⟨g2, 0 + 1, none⟩) (asI l)) := Lib.hid (ReadI.cut (OwnL.read encI_len hown2) (by show (asI l).length + 1 ≤ cap2; rw [asI_len, ← Hn.out]; exact hcap))
  have HB2 := Lib.hid hb2
  have c02 := (hb2.cell (p := ⟨P, 0, none⟩) hP).trans c0
  have ct2 := (hb2.cell (p := ⟨tb, tof, none⟩) htb).trans ct
  clear hown2 hb2 c0 ct hg2
  apply share
  case h =>
    intro HT
    by_cases hc1 : cap2 = 1
    · have HR3 : Hid (ReadI w2 w2.heap.size (some ⟨g2, 0, none⟩) (asI l)) := Lib.hid (by have := HR2.out; rwa [if_pos hc1] at this)
      go_upto_region 2 with fail
      obtain ⟨v16, hv16⟩ : ∃ v16, v16 = Value.slice (some ⟨g2, 0, none⟩) (n + 1) 1 := ⟨_, rfl⟩
      rw [← hv16]
      obtain ⟨A17, c17, hA, hv⟩ : ∃ (A17 : Option Addr) (c17 : Nat), A17 = some ⟨g2, 0, none⟩ ∧ Value.slice A17 n c17 = Value.slice (some ⟨g2, 0, none⟩) n 0 := ⟨_, _, rfl, rfl⟩
      rw [← hv]
      have HR4 : Hid (ReadI w2 w2.heap.size A17 (asI l)) := Lib.hid (by rw [hA]; exact HR3.out)
      clear hv hA hv16 HR3
      revert HR4
      revert v16 A17 c17
      exact HT.out
    · have HR3 : Hid (ReadI w2 w2.heap.size (some ⟨g2, 1, none⟩) (asI l)) := Lib.hid (by have := HR2.out; rwa [if_neg hc1] at this)
      go_upto_region 2 with fail
      obtain ⟨v16, hv16⟩ : ∃ v16, v16 = Value.slice (some ⟨g2, 0, none⟩) (n + 1) cap2 := ⟨_, rfl⟩
      rw [← hv16]
      obtain ⟨A17, c17, hA, hv⟩ : ∃ (A17 : Option Addr) (c17 : Nat), A17 = some ⟨g2, 1, none⟩ ∧ Value.slice A17 n c17 = Value.slice (some ⟨g2, 1, none⟩) n (cap2 - 1) := ⟨_, _, rfl, rfl⟩
      rw [← hv]
      have HR4 : Hid (ReadI w2 w2.heap.size A17 (asI l)) := Lib.hid (by rw [hA]; exact HR3.out)
      clear hv hA hv16 HR3
      revert HR4
      revert v16 A17 c17
      exact HT.out
  case t =>
    intro v16 A17 c17 HR4
    clear Hk HR2
    have hl50 : n ≤ 50 := by omega
    obtain ⟨lb, hlb⟩ : ∃ lb : List ByteArray, lb = l.map fun i => ((es[i]?).getD default).lb := ⟨_, rfl⟩
    have HLb : Hid (lb.length = n ∧ lb = l.map fun i => ((es[i]?).getD default).lb) := Lib.hid ⟨by rw [hlb, List.length_map, Hn.out], hlb⟩
    have HT3 : Hid (∀ i ∈ l, i < es.length) := Lib.hid fun i hi => HL.out.2 i (List.mem_cons_of_mem _ hi)
    clear hlb
    go_loopw [6, 19] (fun s6 s19 wr => ∃ (k : Nat) (LA : Option Addr) (lc : Nat), k ≤ n ∧ s6 = .slice LA k lc ∧ s19 = .int .i64 k ∧ Hid (OwnT wr w2.heap.size LA lc (lb.take k) ∧ Below w2.heap.size w2 wr)) (fun _ s19 _ => n - (Lib.intOf s19).toNat)
    case atStart => exact ⟨0, none, 0, Nat.zero_le _, rfl, rfl, Lib.hid ⟨OwnL.nil, Below.refl _ _⟩⟩
    case round =>
      obtain ⟨k, LA, lc, hk, rfl, rfl, HI⟩ := hrel
      have c0r := (HI.out.2.cell (p := ⟨P, 0, none⟩) (World.block_lt_of_cell? _ _ c02)).trans c02
      by_cases hlt : k < n
      · obtain ⟨i, hi⟩ := getq_ex (l := l) (i := k) (by rw [← Hn.out]; exact hlt)
        have hil := HT3.out i (List.mem_of_getElem? hi)
        obtain ⟨y, hy⟩ := getq_ex hil
        have hLk : lb[k]? = some y.lb := by
          rw [HLb.out.2, List.getElem?_map, hi]
          show some ((es[i]?).getD default).lb = _
          rw [hy]
          rfl
        obtain ⟨qb, qo, rfl, hqb, hqc⟩ := ReadL.int (ReadL.below HR4.out HI.out.2) (asI_get hi)
        have hexr := (HX.out.1.fr (Fr.below HB2.out : Fr Y w w2) fun q hq => .inl hq).fr (Fr.below HI.out.2 : Fr Y w2 wr) fun q hq => .inl hq
        obtain ⟨eb, eo, rfl, heb, _, ⟨_, _, _, _, _, _, _, hel, _⟩, _⟩ := hexr i y hy
        have HC := Lib.hid (And.intro hLk hlt)
        have htl : (lb.take k).length = k := by rw [List.length_take, HLb.out.1]; omega
        have HTl := Lib.hid htl
        clear hi hy hLk htl hexr
        go_wp2_with (at_builtin; refine wpList_appT rfl (.tmp 23) (.tmp 32) rfl w2.heap.size (m := k) (n := 1) HTl.out rfl (OwnL.alloc HI.out.1 _) (l2 := [y.lb]) rfl rfl (readT_new _ _) (by omega) (by have := HI.out.2.size; simp; omega) ?_; intro A5 c5 w5 hown5 hg5 _)
        have HI5 : Hid (OwnT w5 w2.heap.size A5 c5 (lb.take (k + 1)) ∧ Below w2.heap.size w2 w5) := Lib.hid (by
          refine ⟨?_, ext_app (ext_alloc HI.out.2 _) hg5 fun q hq => (OwnL.block HI.out.1 q hq).1⟩
          rw [List.take_add_one, HC.out.1]
          exact hown5)
        clear hown5 hg5
        go_wp2_with fail
        go_roundw
        case rel => exact ⟨k + 1, A5, c5, HC.out.2, by go_num, by go_num, HI5⟩
        case measure => simp [Lib.intOf]; omega
      · have hkn : k = n := by omega
        have HQ : Hid (OwnT wr w2.heap.size LA lc lb ∧ Below w2.heap.size w2 wr ∧ lb.length = k) := Lib.hid (by
          refine ⟨?_, HI.out.2, by rw [HLb.out.1, hkn]⟩
          have := HI.out.1
          rwa [List.take_of_length_le (by rw [HLb.out.1]; omega)] at this)
        have HS := sortT_any LA lc w2.heap.size lb wr HQ.out.1 (by rw [HLb.out.1]; omega)
        rw [HQ.out.2.2] at HS
        have HS := Lib.hid HS
        clear hkn c0r
        go_wp2_with fail
        refine HS.out.mono ?_
        rintro e w3 ⟨⟨v3, rfl⟩, hown3, hg3⟩
        have H3 : Hid (OwnT w3 w2.heap.size LA lc (srtS lb) ∧ Below w.heap.size w w3) := Lib.hid ⟨hown3, ext_trans HB2.out (ext_app HQ.out.2.1 hg3 fun q hq => (OwnL.block HQ.out.1 q (by rw [HQ.out.2.2]; exact hq)).1)⟩
        have ct3 := (H3.out.2.cell (p := ⟨tb, tof, none⟩) htb).trans ((HB2.out.cell (p := ⟨tb, tof, none⟩) htb).symm.trans ct2)
        have HTg := Lib.hid (tags_any (some ⟨tb, tof, none⟩) c (x :: xt) w3 (HW.out.2.1.later H3.out.2).ty.tyA HW.out.2.2 HW.out.2.1.cap)
        clear hown3 hg3
        go_wp2_with fail
        refine HTg.out.mono ?_
        rintro e w4 ⟨hb4, h4⟩
        have HB4 := Lib.hid (ext_trans H3.out.2 hb4)
        have ct4 := (HB4.out.cell (p := ⟨tb, tof, none⟩) htb).trans ((HB2.out.cell (p := ⟨tb, tof, none⟩) htb).symm.trans ct2)
        have HX2 := Lib.hid HX.out.2
        cases htg : tagsM (x :: xt) with
        | none =>
          rw [htg] at h4
          subst h4
          have HBb : Hid (bb = false) := Lib.hid (by have := HX2.out; rw [htg] at this; injection this with this; exact this.symm)
          have HBW := HB4
          clear htg hb4 ct3
          have HMu := Lib.hid (must_any P es env (.ok a) false at0 9 Y w4 (.inl (by decide)) (HW.out.1.later HBW.out))
          unfold pk at HMu
          go_wp2_with fail
          refine HMu.out.mono ?_
          rintro e w5 ⟨⟨v5, rfl⟩, hf5, hk5⟩
          have HP : Hid (SPost P es env Y (mustS bb at0 9 (.ok a)) w (.returned v5) w5) := Lib.hid (by
            rw [HBb.out]
            exact ⟨⟨_, rfl⟩, (Fr.below HBW.out).trans hf5, hk5⟩)
          clear hf5 hk5
          go_wp2_with fail
          go_end0
          exact ⟨⟨_, rfl⟩, HP.out.2⟩
        | some tags =>
          rw [htg] at h4
          obtain ⟨A6, c6, rfl, hown6⟩ := h4
          have HO6 := Lib.hid hown6
          have hSl : (srtS lb).length = k := by rw [srtS_len]; exact HQ.out.2.2
          have HO7 : Hid (OwnT w4 w2.heap.size LA lc (srtS lb)) := Lib.hid (H3.out.1.below hb4 (Nat.le_refl _))
          have HBe : Hid (bb = (decide (x.k = 0) || decide (tags = srtS lb))) := Lib.hid (by
            have := HX2.out
            rw [htg] at this
            injection this with this
            rw [HLb.out.2]
            exact this.symm)
          have ht50 := tagsM_len HW.out.2.2 htg
          clear htg hb4 ct3 hown6
          by_cases h0 : x.k = 0
          · have b0 : (x.k == 0) = true := by simp [h0]
            have HBb : Hid (bb = true) := Lib.hid (by rw [HBe.out]; simp [h0])
            have HBW := HB4
            clear h0 hSl
            have HMu := Lib.hid (must_any P es env (.ok a) true at0 9 Y w4 (.inl (by decide)) (HW.out.1.later HBW.out))
            unfold pk at HMu
            go_wp2_with fail
            refine HMu.out.mono ?_
            rintro e w5 ⟨⟨v5, rfl⟩, hf5, hk5⟩
            have HP : Hid (SPost P es env Y (mustS bb at0 9 (.ok a)) w (.returned v5) w5) := Lib.hid (by
              rw [HBb.out]
              exact ⟨⟨_, rfl⟩, (Fr.below HBW.out).trans hf5, hk5⟩)
            clear hf5 hk5
            go_wp2_with fail
            go_end0
            exact ⟨⟨_, rfl⟩, HP.out.2⟩
          · have b0 : (x.k == 0) = false := by simp [h0]
            have HEq := eqT_any A6 LA c6 lc w3.heap.size w2.heap.size tags (srtS lb) w4 HO6.out HO7.out (by omega) (by rw [hSl]; omega)
            rw [hSl] at HEq
            have HEq := Lib.hid HEq
            obtain ⟨bq, hbq⟩ : ∃ bq, bq = decide (tags = srtS lb) := ⟨_, rfl⟩
            have HBb : Hid (bb = bq) := Lib.hid (by rw [HBe.out, hbq]; simp [h0])
            rw [← hbq] at HEq
            clear h0 hSl hbq
            go_wp2_with fail
            refine HEq.out.mono ?_
            rintro e w4b ⟨rfl, hb5⟩
            have HBW := Lib.hid (ext_trans HB4.out hb5)
            clear hb5 ct4
            have HMu := Lib.hid (must_any P es env (.ok a) bq at0 9 Y w4b (.inl (by decide)) (HW.out.1.later HBW.out))
            unfold pk at HMu
            go_wp2_with fail
            refine HMu.out.mono ?_
            rintro e w5 ⟨⟨v5, rfl⟩, hf5, hk5⟩
            have HP : Hid (SPost P es env Y (mustS bb at0 9 (.ok a)) w (.returned v5) w5) := Lib.hid (by
              rw [HBb.out]
              exact ⟨⟨_, rfl⟩, (Fr.below HBW.out).trans hf5, hk5⟩)
            clear hf5 hk5
            go_wp2_with fail
            go_end0
            exact ⟨⟨_, rfl⟩, HP.out.2⟩
end Go.Proofs.YtmjdhfbnmmdjiaaGreat
