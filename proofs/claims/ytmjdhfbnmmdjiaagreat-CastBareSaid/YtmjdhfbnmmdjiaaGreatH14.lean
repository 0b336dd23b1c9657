/- Laid together by a tool from the texts of this seat: ChY ChU RdB RegTwo. Conditions: each theorem's own. -/
import Derived.Test.YtmjdhfbnmmdjiaaGreatH13
import Derived.Test.YtmjdhfbnmmdjiaaGreatH10
import Derived.Test.YtmjdhfbnmmdjiaaGreatH08
import Derived.Test.YtmjdhfbnmmdjiaaGreatH11
import Derived.Test.YtmjdhfbnmmdjiaaGreatH05
set_option maxHeartbeats 8000000
set_option maxRecDepth 100000
namespace Go.Proofs.YtmjdhfbnmmdjiaaGreat
open Go.Lib renaming hid->aB
open Go.RowKit.Below renaming refl->aI
open _root_.List renaming length_map->OX,getElem?_eq_getElem->bS,eq_nil_of_length_eq_zero->fD,getElem?_map->Tz,getElem?_eq_none->VQ,length_take->jm,take_length->wH,mem_of_getElem?->O8,length_cons->oG
open _root_.And renaming intro->DF
open Go.Value renaming slice->gq
open _root_.Nat renaming le_refl->aK
open _root_.ByteArray renaming empty->dQ
open Go.World renaming cell?->DI,size_alloc->FT
open Go.RowKit
theorem ZC (P:Nat) (es:List Pt) (nx:Nx) (HN:Hid (nR P es nx)) (env:Env) (p:Pt) (aN a:Nat) (r:fF) (Y:Nat->Prop) (w:World) (TA UA:Option Addr) (tc uc:Nat) (h:bf P es env (.ok a) Y w) (hT:aF w Y TA tc p.T) (hU:aF w Y UA uc p.U) (hG:∀env a t b,nx env a=some (.ok (t,b))->Gd t) (hm:getM nx env p aN a=some r):
  Calls Tryz.prog 74 #[pk P,pv p TA tc UA uc,.int .i64 aN] w (bI P es env Y r w):=by
 obtain ⟨w1,hw1⟩:∃w1,w1=w.alloc (.cells #[.int .i64 p.k,.string p.lb,.string p.nm,.string p.bd,.int .i64 p.mn,.int .i64 p.num,.slice TA p.T.length tc,.slice UA p.U.length uc] 33):=⟨_,rfl⟩;have hpm:=aZ.new h.lt hT hU;have hb1:Below w.heap.size w w1:=by rw [hw1];exact au (aI _ _) _
 rw [<-hw1] at hpm;have Eb:=aB hpm;have HB:=aB hb1;have H:=aB (h.later hb1);have HR:=aB (fP hm);have HD:=aB (hG);have HL:=aB h.lt;clear h hT hU hm hG hpm hb1;unfold pk pv;go_enter Tryz.func74,Tryz.ntmps74;go_upto_region 1 with fail
 rw [<-hw1];clear hw1;obtain ⟨SS,hSS⟩:∃SS:World->Prop,SS=fun v=>v.cell? ⟨w.heap.size,2,none⟩=some (.string p.nm)/\v.cell? ⟨w.heap.size,3,none⟩=some (.string p.bd)/\v.cell? ⟨w.heap.size,6,none⟩=some (.slice TA p.T.length tc)/\v.cell? ⟨w.heap.size,7,none⟩=some (.slice UA p.U.length uc):=⟨_,rfl⟩;have HS:Hid (∀v Y',aZ v Y' w.heap.size p TA tc UA uc->SS v):=aB fun v Y' hv=>by rw [hSS];exact ⟨hv.cells.2.2.1,hv.cells.2.2.2.1,hv.cells.2.2.2.2.2.1,hv.cells.2.2.2.2.2.2⟩
 obtain ⟨wd,hwd⟩:∃wd,wd=w1.drew:=⟨_,rfl⟩;have bM:Hid (Below w1.heap.size w1 wd):=aB (by rw [hwd];exact (aI _ _).drew);have mY:=aB (Eb.out.later bM.out);have xD:=aB (H.out.later bM.out);have qO:Hid (Fr Y w wd/\aj Y Y w):=aB ⟨Fr.below (ah HB.out bM.out),aj.refl _ _⟩;have hsd:SS wd:=HS.out _ _ mY.out;refine aG (S:=SS) [6] (by kernel_rfl) (by rw [<-hwd];exact hsd) (fun hHeld=>?_);rw [<-hwd] at hHeld ⊢;clear hwd;refine aM 0 [6] (some 7) rfl rfl ?_;refine aM 1 [2,6] (some 8) rfl rfl ?_;refine aM 3 [4,6] (some 10) rfl rfl ?_;refine aM 4 [6] (some 11) rfl rfl ?_;refine aM 5 [6] (some 12) rfl rfl ?_;rcases HR.out with ⟨x,h1,hr⟩|⟨t,b,h1,hr⟩
 ·have HX:=aB (HN.out env (.ok a) _ Y wd h1 xD.out)
  unfold pk at HX;refine aY 2 (some 9) rfl rfl (by kernel_rfl) (by rfl) (by kernel_rfl) HX.out ?_;rintro e w2 ⟨Y2,hf2,hy2,hk2,rfl⟩;have mo:=aB (mY.out.fr hf2 hy2);have hs2:SS w2:=HS.out _ _ mo.out;refine ⟨_,rfl,hs2,?_⟩;refine aA ?_;have lV:Hid (Fr Y w w2/\aj Y Y2 w):=aB ⟨Fr.new qO.out.1 hf2 qO.out.2,aj.trans qO.out.2 hy2 qO.out.1.size⟩;have nV:=aB (H_ P es env x (.slice none 0 0) (.string p.nm) aN Y2 w2 hk2);rw [<-hr] at nV;unfold pk at nV;refine aY 6 (some 13) rfl rfl (by kernel_rfl) (by rfl) (by kernel_rfl) nV.out ?_;intro e w3 hp;have HQ:=aB (hp.to lV.out.1 lV.out.2)
  have m_:Hid (∃Y3,aZ w3 Y3 w.heap.size p TA tc UA uc):=aB (by
   obtain ⟨Y3,hf3,hy3,_⟩:=hp;exact ⟨Y3,mo.out.fr hf3 hy3⟩)
  clear hp;obtain ⟨v9,vI⟩:=HQ.out.ret;subst vI;refine ⟨_,rfl,by obtain ⟨Y3,h3⟩:=m_.out;exact HS.out _ _ h3,?_⟩;refine aA ?_;refine aX 7 (some 6) rfl rfl (by kernel_rfl) (by rfl) (by go_simp;first|with_reducible rfl|(constructor<;>with_reducible rfl)) (zL (by kernel_rfl)) ?_;refine aA ?_;refine bB (by kernel_rfl) ?_ _;clear hf2 hy2 hk2 hs2 hHeld hsd h1 hr;go_wp2_with fail;go_ret;exact HQ.out
 ·have HX:=aB (HN.out env (.ok a) _ Y wd h1 xD.out)
  unfold pk at HX;refine aY 2 (some 9) rfl rfl (by kernel_rfl) (by rfl) (by kernel_rfl) HX.out ?_;rintro e w2 ⟨Y2,hf2,hy2,hk2,A2,c2,rfl,ht2⟩;have mo:=aB (mY.out.fr hf2 hy2);have hs2:SS w2:=HS.out _ _ mo.out;refine ⟨_,rfl,hs2,?_⟩;refine aA ?_;have lV:Hid (Fr Y w w2/\aj Y Y2 w):=aB ⟨Fr.new qO.out.1 hf2 qO.out.2,aj.trans qO.out.2 hy2 qO.out.1.size⟩;have nV:=aB (Ec P es env b A2 c2 t p.nm aN r Y2 w2 hk2 ht2 (HD.out _ _ _ _ h1) hr);unfold pk at nV;refine aY 6 (some 13) rfl rfl (by kernel_rfl) (by rfl) (by kernel_rfl) nV.out ?_;intro e w3 hp;have HQ:=aB (hp.to lV.out.1 lV.out.2)
  have m_:Hid (∃Y3,aZ w3 Y3 w.heap.size p TA tc UA uc):=aB (by
   obtain ⟨Y3,hf3,hy3,_⟩:=hp;exact ⟨Y3,mo.out.fr hf3 hy3⟩)
  clear hp;obtain ⟨v9,vI⟩:=HQ.out.ret;subst vI;refine ⟨_,rfl,by obtain ⟨Y3,h3⟩:=m_.out;exact HS.out _ _ h3,?_⟩;refine aA ?_;refine aX 7 (some 6) rfl rfl (by kernel_rfl) (by rfl) (by go_simp;first|with_reducible rfl|(constructor<;>with_reducible rfl)) (zL (by kernel_rfl)) ?_;refine aA ?_;refine bB (by kernel_rfl) ?_ _;clear hf2 hy2 hk2 hs2 hHeld hsd h1 hr ht2;go_wp2_with fail;go_ret;exact HQ.out
theorem kP (w:World) (b:Bn):mZ (w.alloc (.cells #[.string b.s,.slice b.A b.n b.c] 36)) (w.heap.size+1) (some ⟨w.heap.size,0,none⟩) [b]:=fun _=>by
 refine ⟨w.heap.size,0,rfl,by omega,fun i x hx j u hu=>?_⟩
 match i,hx with
 |0,hx=>
  simp at hx;subst hx
  match j,hu with
  |0,hu=>simp [qG] at hu;subst hu;simp
  |1,hu=>simp [qG] at hu;subst hu;simp
  |j+2,hu=>simp [qG] at hu
 |i+1,hx=>simp at hx
theorem ZE (P:Nat) (es:List Pt) (nx:Nx) (HN:Hid (nR P es nx)) (env:Env) (p:Pt) (aN a:Nat) (r:fF) (Y:Nat->Prop) (w:World) (TA UA:Option Addr) (tc uc:Nat) (h:bf P es env (.ok a) Y w) (hT:aF w Y TA tc p.T) (hU:aF w Y UA uc p.U) (gT:Gd p.T) (hvl:env.length<=900000) (hG:∀env a t b,nx env a=some (.ok (t,b))->Gd t) (hm:KZ nx env p aN a=some r):
  Calls Tryz.prog 68 #[pk P,pv p TA tc UA uc,.int .i64 aN] w (bI P es env Y r w):=by
 obtain ⟨w1,hw1⟩:∃w1,w1=w.alloc (.cells #[.int .i64 p.k,.string p.lb,.string p.nm,.string p.bd,.int .i64 p.mn,.int .i64 p.num,.slice TA p.T.length tc,.slice UA p.U.length uc] 33):=⟨_,rfl⟩;have hpm:=aZ.new h.lt hT hU;have hb1:Below w.heap.size w w1:=by rw [hw1];exact au (aI _ _) _
 rw [<-hw1] at hpm;have Eb:=aB hpm;have HB:=aB hb1;have H:=aB (h.later hb1);have HR:=aB (fP hm);have HD:=aB (DF gT (DF hG hvl));have HL:=aB h.lt;clear h hT hU hm hG hpm hb1;unfold pk pv;go_enter Tryz.func68,Tryz.ntmps68;go_upto_region 1 with fail
 rw [<-hw1];clear hw1;obtain ⟨SS,hSS⟩:∃SS:World->Prop,SS=fun v=>v.cell? ⟨w.heap.size,2,none⟩=some (.string p.nm)/\v.cell? ⟨w.heap.size,3,none⟩=some (.string p.bd)/\v.cell? ⟨w.heap.size,6,none⟩=some (.slice TA p.T.length tc)/\v.cell? ⟨w.heap.size,7,none⟩=some (.slice UA p.U.length uc):=⟨_,rfl⟩;have HS:Hid (∀v Y',aZ v Y' w.heap.size p TA tc UA uc->SS v):=aB fun v Y' hv=>by rw [hSS];exact ⟨hv.cells.2.2.1,hv.cells.2.2.2.1,hv.cells.2.2.2.2.2.1,hv.cells.2.2.2.2.2.2⟩
 obtain ⟨wd,hwd⟩:∃wd,wd=w1.drew:=⟨_,rfl⟩;have bM:Hid (Below w1.heap.size w1 wd):=aB (by rw [hwd];exact (aI _ _).drew);have mY:=aB (Eb.out.later bM.out);have xD:=aB (H.out.later bM.out);have qO:Hid (Fr Y w wd/\aj Y Y w):=aB ⟨Fr.below (ah HB.out bM.out),aj.refl _ _⟩;have hsd:SS wd:=HS.out _ _ mY.out;refine aG (S:=SS) [6] (by kernel_rfl) (by rw [<-hwd];exact hsd) (fun hHeld=>?_);rw [<-hwd] at hHeld ⊢;clear hwd;refine aM 0 [6] (some 7) rfl rfl ?_;refine aM 1 [2,6] (some 8) rfl rfl ?_;refine aM 3 [4,6] (some 10) rfl rfl ?_;refine aM 4 [6] (some 11) rfl rfl ?_;refine aM 5 [6] (some 12) rfl rfl ?_;rcases HR.out with ⟨x,h1,hr⟩|⟨t,b,h1,hr⟩
 ·have HX:=aB (HN.out env (.ok a) _ Y wd h1 xD.out)
  unfold pk at HX;refine aY 2 (some 9) rfl rfl (by kernel_rfl) (by rfl) (by kernel_rfl) HX.out ?_;rintro e w2 ⟨Y2,hf2,hy2,hk2,rfl⟩;have mo:=aB (mY.out.fr hf2 hy2);have hs2:SS w2:=HS.out _ _ mo.out;refine ⟨_,rfl,hs2,?_⟩;refine aA ?_;have lV:Hid (Fr Y w w2/\aj Y Y2 w):=aB ⟨Fr.new qO.out.1 hf2 qO.out.2,aj.trans qO.out.2 hy2 qO.out.1.size⟩;have nV:=aB (gy P es env x (.slice none 0 0) (.slice TA p.T.length tc) aN Y2 w2 hk2);unfold pk at nV;refine aY 6 (some 13) rfl rfl (by kernel_rfl) (by rfl) (by kernel_rfl) nV.out ?_;rintro e w3 ⟨⟨v3,rfl⟩,hf3,hk3⟩;have m_:=aB (mo.out.fr hf3 (aj.refl _ _));refine ⟨_,rfl,HS.out _ _ m_.out,?_⟩;refine aA ?_;refine bB (by kernel_rfl) ?_ _;go_upto_region 2 with fail
  have CS:=aB (qM P es nx HN env [(p.bd,p.T)] (.error x) r (some ⟨w3.heap.size,0,none⟩) 1 [⟨p.bd,TA,p.T.length,tc⟩] Y2 (w3.alloc (.cells #[.string p.bd,.slice TA p.T.length tc] 36)) (hk3.later (au (aI _ _) _)) (by rw [FT];exact kP w3 ⟨p.bd,TA,p.T.length,tc⟩) (dY.one (m_.out.T.later (au (aI _ _) _)) rfl) (by simp) HD.out.2.2 (by rw [hr];rfl));have Ia:Hid (Fr Y w (w3.alloc (.cells #[.string p.bd,.slice TA p.T.length tc] 36))/\aj Y Y2 w):=aB ⟨(Fr.new lV.out.1 hf3 lV.out.2).alloc _,lV.out.2⟩;obtain ⟨k0,k1,k2,k3,k4,k6,k7⟩:=m_.out.cells;unfold pk at CS;clear hf2 hy2 hk2 hf3 hk3 hs2 hHeld hsd h1 hr;go_wp2_with fail;refine CS.out.mono ?_;intro e w4 hp;have HQ:=aB (hp.to Ia.out.1 Ia.out.2);clear hp;obtain ⟨v9,vI⟩:=HQ.out.ret;subst vI;clear k0 k1 k2 k3 k4 k6 k7;go_wp2_with fail;go_ret;exact HQ.out
 ·have HX:=aB (HN.out env (.ok a) _ Y wd h1 xD.out)
  unfold pk at HX;refine aY 2 (some 9) rfl rfl (by kernel_rfl) (by rfl) (by kernel_rfl) HX.out ?_;rintro e w2 ⟨Y2,hf2,hy2,hk2,A2,c2,rfl,ht2⟩;have mo:=aB (mY.out.fr hf2 hy2);have hs2:SS w2:=HS.out _ _ mo.out;refine ⟨_,rfl,hs2,?_⟩;refine aA ?_;have lV:Hid (Fr Y w w2/\aj Y Y2 w):=aB ⟨Fr.new qO.out.1 hf2 qO.out.2,aj.trans qO.out.2 hy2 qO.out.1.size⟩;have nV:=aB (nK P es env b A2 TA c2 tc t p.T aN Y2 w2 hk2 ht2.ty mo.out.T.ty (HD.out.2.1 _ _ _ _ h1) HD.out.1);unfold pk at nV;refine aY 6 (some 13) rfl rfl (by kernel_rfl) (by rfl) (by kernel_rfl) nV.out ?_;rintro e w3 ⟨⟨v3,rfl⟩,hf3,hk3⟩;have m_:=aB (mo.out.fr hf3 (aj.refl _ _));refine ⟨_,rfl,HS.out _ _ m_.out,?_⟩;refine aA ?_;refine bB (by kernel_rfl) ?_ _;go_upto_region 2 with fail
  have CS:=aB (qM P es nx HN env [(p.bd,p.T)] (og t p.T aN b) r (some ⟨w3.heap.size,0,none⟩) 1 [⟨p.bd,TA,p.T.length,tc⟩] Y2 (w3.alloc (.cells #[.string p.bd,.slice TA p.T.length tc] 36)) (hk3.later (au (aI _ _) _)) (by rw [FT];exact kP w3 ⟨p.bd,TA,p.T.length,tc⟩) (dY.one (m_.out.T.later (au (aI _ _) _)) rfl) (by simp) HD.out.2.2 hr);have Ia:Hid (Fr Y w (w3.alloc (.cells #[.string p.bd,.slice TA p.T.length tc] 36))/\aj Y Y2 w):=aB ⟨(Fr.new lV.out.1 hf3 lV.out.2).alloc _,lV.out.2⟩;obtain ⟨k0,k1,k2,k3,k4,k6,k7⟩:=m_.out.cells;unfold pk at CS;clear hf2 hy2 hk2 hf3 hk3 hs2 hHeld hsd h1 hr ht2;go_wp2_with fail;refine CS.out.mono ?_;intro e w4 hp;have HQ:=aB (hp.to Ia.out.1 Ia.out.2);clear hp;obtain ⟨v9,vI⟩:=HQ.out.ret;subst vI;clear k0 k1 k2 k3 k4 k6 k7;go_wp2_with fail;go_ret;exact HQ.out
theorem ZF (P:Nat) (es:List Pt) (nx:Nx) (HN:Hid (nR P es nx)) (env:Env) (p:Pt) (aN a:Nat) (r:fF) (Y:Nat->Prop) (w:World) (TA UA:Option Addr) (tc uc:Nat) (h:bf P es env (.ok a) Y w) (hT:aF w Y TA tc p.T) (hU:aF w Y UA uc p.U) (gT:Gd p.T) (hvl:env.length<=900000) (hG:∀env a t b,nx env a=some (.ok (t,b))->Gd t) (hm:KY nx env p a=some r):
  Calls Tryz.prog 66 #[pk P,pv p TA tc UA uc,.int .i64 aN] w (bI P es env Y r w):=by
 obtain ⟨w1,hw1⟩:∃w1,w1=w.alloc (.cells #[.int .i64 p.k,.string p.lb,.string p.nm,.string p.bd,.int .i64 p.mn,.int .i64 p.num,.slice TA p.T.length tc,.slice UA p.U.length uc] 33):=⟨_,rfl⟩;have hpm:=aZ.new h.lt hT hU;have hb1:Below w.heap.size w w1:=by rw [hw1];exact au (aI _ _) _
 rw [<-hw1] at hpm;have Eb:=aB hpm;have HB:=aB hb1;have H:=aB (h.later hb1);have HR:=aB (fP hm);have HD:=aB (DF gT (DF hG hvl));have HL:=aB h.lt;clear h hT hU hm hG hpm hb1;unfold pk pv;go_enter Tryz.func66,Tryz.ntmps66;go_upto_region 1 with fail
 rw [<-hw1];clear hw1;obtain ⟨SS,hSS⟩:∃SS:World->Prop,SS=fun v=>v.cell? ⟨w.heap.size,2,none⟩=some (.string p.nm)/\v.cell? ⟨w.heap.size,3,none⟩=some (.string p.bd)/\v.cell? ⟨w.heap.size,6,none⟩=some (.slice TA p.T.length tc)/\v.cell? ⟨w.heap.size,7,none⟩=some (.slice UA p.U.length uc):=⟨_,rfl⟩;have HS:Hid (∀v Y',aZ v Y' w.heap.size p TA tc UA uc->SS v):=aB fun v Y' hv=>by rw [hSS];exact ⟨hv.cells.2.2.1,hv.cells.2.2.2.1,hv.cells.2.2.2.2.2.1,hv.cells.2.2.2.2.2.2⟩
 obtain ⟨wd,hwd⟩:∃wd,wd=w1.drew:=⟨_,rfl⟩;have bM:Hid (Below w1.heap.size w1 wd):=aB (by rw [hwd];exact (aI _ _).drew);have mY:=aB (Eb.out.later bM.out);have xD:=aB (H.out.later bM.out);have qO:Hid (Fr Y w wd/\aj Y Y w):=aB ⟨Fr.below (ah HB.out bM.out),aj.refl _ _⟩;have hsd:SS wd:=HS.out _ _ mY.out;refine aG (S:=SS) [10] (by kernel_rfl) (by rw [<-hwd];exact hsd) (fun hHeld=>?_);rw [<-hwd] at hHeld ⊢;clear hwd;refine aM 0 [1,10] (some 7) rfl rfl ?_;refine aM 1 [10] (some 8) rfl rfl ?_;refine aM 2 [9,10] (some 9) rfl rfl ?_;refine aM 3 [4,7,8,9,10] (some 10) rfl rfl ?_;refine aM 4 [7,8,9,10] (some 11) rfl rfl ?_;refine aM 5 [6,7,8,9,10] (some 12) rfl rfl ?_;refine aM 6 [7,8,9,10] (some 13) rfl rfl ?_;refine aM 7 [8,9,10] (some 14) rfl rfl ?_;refine aX 8 (some 15) (v:=?_) (w':=?_) rfl rfl (by kernel_rfl) (by rfl) ?_ (fun _=>?_) ?_
 rotate_left
 rotate_left
 ·(go_simp;first|with_reducible rfl|(constructor<;>with_reducible rfl))
 ·exact HS.out _ _ (mY.out.later (au (aI _ _) _))
 refine aA ?_;have HX:=aB (fun r1 (h1:nx (env++[(p.bd,p.T)]) a=some r1)=>qM P es nx HN env [(p.bd,p.T)] (.ok a) r1 (some ⟨wd.heap.size,0,none⟩) 1 [⟨p.bd,TA,p.T.length,tc⟩] Y (wd.alloc (.cells #[.string p.bd,.slice TA p.T.length tc] 36)) (xD.out.later (au (aI _ _) _)) (by rw [FT];exact kP wd ⟨p.bd,TA,p.T.length,tc⟩) (dY.one (mY.out.T.later (au (aI _ _) _)) rfl) (by simp) HD.out.2.2 h1);unfold pk at HX;have BK:Hid (Fr Y w (wd.alloc (.cells #[.string p.bd,.slice TA p.T.length tc] 36))/\aZ (wd.alloc (.cells #[.string p.bd,.slice TA p.T.length tc] 36)) Y w.heap.size p TA tc UA uc):=aB ⟨qO.out.1.alloc _,mY.out.later (au (aI _ _) _)⟩;rcases HR.out with ⟨x,h1,hr⟩|⟨t,b,h1,hr⟩
 ·refine aY 9 (some 16) rfl rfl (by kernel_rfl) (by rfl) (by kernel_rfl) (HX.out _ h1) ?_
  rintro e w2 ⟨Y2,hf2,hy2,hk2,rfl⟩;have mo:=aB (BK.out.2.fr hf2 hy2);refine ⟨_,rfl,HS.out _ _ mo.out,?_⟩;refine aA ?_;have lV:Hid (Fr Y w w2/\aj Y Y2 w):=aB ⟨Fr.new BK.out.1 hf2 (aj.refl _ _),aj.trans (aj.refl _ _) hy2 BK.out.1.size⟩;have nV:=aB (o_ TA none tc 0 p.T [] w2 mo.out.T.ty.eY bJ.nil (by have:=HD.out.1.len;simp;omega));refine aY 10 (some 17) rfl rfl (by kernel_rfl) (by rfl) (by kernel_rfl) nV.out ?_;rintro e w3 ⟨A3,c3,rfl,hown3,hb3⟩
  have HQ:Hid (bI P es env Y r w (.returned (.slice A3 (aR p.T []).length c3)) w3):=aB (by
   have hf3:=Fr.new lV.out.1 (Fr.below hb3:Fr Y2 w2 w3) lV.out.2;subst hr;exact ⟨Y2,hf3,lV.out.2,hk2.later hb3,_,_,_,rfl⟩)
  have m_:=aB (mo.out.later hb3);refine ⟨_,rfl,HS.out _ _ m_.out,?_⟩;refine aA ?_;refine aX 11 (some 6) rfl rfl (by kernel_rfl) (by rfl) (by go_simp;first|with_reducible rfl|(constructor<;>with_reducible rfl)) (zL (by kernel_rfl)) ?_;refine aA ?_;refine bB (by kernel_rfl) ?_ _;clear hf2 hy2 hk2 hHeld hsd h1 hr hown3 hb3;go_wp2_with fail;go_ret;exact HQ.out
 ·refine aY 9 (some 16) rfl rfl (by kernel_rfl) (by rfl) (by kernel_rfl) (HX.out _ h1) ?_
  rintro e w2 ⟨Y2,hf2,hy2,hk2,A2,c2,rfl,ht2⟩;have mo:=aB (BK.out.2.fr hf2 hy2);refine ⟨_,rfl,HS.out _ _ mo.out,?_⟩;refine aA ?_;have lV:Hid (Fr Y w w2/\aj Y Y2 w):=aB ⟨Fr.new BK.out.1 hf2 (aj.refl _ _),aj.trans (aj.refl _ _) hy2 BK.out.1.size⟩;have nV:=aB (o_ TA A2 tc c2 p.T t w2 mo.out.T.ty.eY ht2.ty.eY (by have:=HD.out.1.len;have:=(HD.out.2.1 _ _ _ _ h1).len;omega));refine aY 10 (some 17) rfl rfl (by kernel_rfl) (by rfl) (by kernel_rfl) nV.out ?_;rintro e w3 ⟨A3,c3,rfl,hown3,hb3⟩
  have HQ:Hid (bI P es env Y r w (.returned (.slice A3 (aR p.T t).length c3)) w3):=aB (by
   have hf3:=Fr.new lV.out.1 (Fr.below hb3:Fr Y2 w2 w3) lV.out.2;injection hr with hr
   subst hr;exact ⟨Y2,hf3,lV.out.2,hk2.later hb3,A3,c3,rfl,aF.own hown3 hk2.lt⟩)
  have m_:=aB (mo.out.later hb3);refine ⟨_,rfl,HS.out _ _ m_.out,?_⟩;refine aA ?_;refine aX 11 (some 6) rfl rfl (by kernel_rfl) (by rfl) (by go_simp;first|with_reducible rfl|(constructor<;>with_reducible rfl)) (zL (by kernel_rfl)) ?_;refine aA ?_;refine bB (by kernel_rfl) ?_ _;clear hf2 hy2 hk2 hHeld hsd h1 hr hown3 hb3 ht2;go_wp2_with fail;go_ret;exact HQ.out
open Go.RowKit Go.Sort
theorem PS (s:ByteArray):(⟨s.toList.toArray⟩:ByteArray)=s:=by
 rw [ByteArray.toList_eq]
theorem WV (l:List ByteArray):(lH l).length=l.length:=by
 unfold lH;rw [OX,List.length_mergeSort,OX]
theorem ay.ZG {w:World} {base g cap:Nat} {L:List ByteArray} (h:dG w base (some ⟨g,0,none⟩) cap L) (m:Nat) (os:Array Obj):
  dG (sortWorld encStr w g 0 m ((L.map ByteArray.toList).mergeSort fun x y=>decide (x<=y)).toArray os) base (some ⟨g,0,none⟩) cap (lH L):=by
 obtain ⟨d,hd⟩:∃d,d=((L.map ByteArray.toList).mergeSort fun x y=>decide (x<=y)):=⟨_,rfl⟩;have hdl:d.length=L.length:=by rw [hd,List.length_mergeSort,OX]
 have hS:lH L=d.map fun b=>⟨b.toArray⟩:=by rw [hd];rfl
 rw [<-hd,hS];have hl2:(d.map fun b:List UInt8=>(⟨b.toArray⟩:ByteArray)).length=L.length:=by rw [OX,hdl]
 have h':w.ownsRow base 9 1 (.slice (some ⟨g,0,none⟩) L.length cap) L.length (L.flatMap tZ):=h;show (sortWorld encStr w g 0 m d.toArray os).ownsRow base 9 1 (.slice (some ⟨g,0,none⟩) (d.map fun b:List UInt8=>(⟨b.toArray⟩:ByteArray)).length cap) (d.map fun b:List UInt8=>(⟨b.toArray⟩:ByteArray)).length ((d.map fun b:List UInt8=>(⟨b.toArray⟩:ByteArray)).flatMap tZ);rw [hl2];rcases h'.2 with ⟨hv,hn⟩|⟨g',cap',cur,hv,hbg,hg,hnc,hcm,hcs,htake⟩
 ·cases hv
 ·injection hv with hA' hl hc'
  injection hA' with hA'
  injection hA' with hA1
  subst hA1 hc';refine ⟨by rw [jJ jA,hl2],.inr ⟨g,cap,_,rfl,hbg,wG encStr w g m d.toArray os hg,hnc,hcm,by simp [Go.Sort.putCells];omega,?_⟩⟩
  have hfm:(d.map fun b:List UInt8=>(⟨b.toArray⟩:ByteArray)).flatMap tZ=d.map encStr:=by
   rw [List.flatMap_map];clear hl2 hS hdl hd htake
   induction d with
   |nil=>rfl
   |cons b d ih=>rw [List.flatMap_cons,List.map_cons,ih];rfl
  rw [hfm];apply List.ext_getElem?;intro k;by_cases hk:k<L.length
  ·rw [List.getElem?_take_of_lt (by omega)]
   have hkc:k<cur.size:=by omega
   have hkd:k<d.length:=by omega
   simp only [Go.Sort.putCells,Array.getElem?_toList,Array.getElem?_mapIdx,Array.getElem?_eq_getElem hkc,Option.map_some,Tz,bS hkd];rw [if_pos ⟨Nat.zero_le _,by simp;omega⟩,Nat.sub_zero,getElem!_pos d.toArray k (by simpa using hkd)];rfl
  ·rw [VQ (by rw [jm];omega),VQ (by rw [OX];omega)]
theorem Sq (A:Option Addr) (cap base:Nat) (L:List ByteArray) (w:World) (h:dG w base A cap L) (hl:L.length<=1000000):
  Calls Tryz.prog 123 #[.slice A L.length cap] w fun e w'=>(∃v,e= .returned v)/\dG w' base A cap (lH L)/\w.grownBy w' ((gq A L.length cap).ownBlock):=by
 by_cases h0:L.length=0
 ·have hL:L=[]:=fD h0
  subst hL;refine (Tryz.slices_Sort_string_none A cap w).mono ?_;rintro e w' ⟨rfl,rfl⟩;exact ⟨⟨_,rfl⟩,by rw [show lH []=[] by simp [lH]];exact h,⟨rfl,rfl,rfl,aK _,fun _ _ _=>rfl⟩⟩
 ·obtain ⟨g,rfl,hbg,hgl,_,_⟩:=ay.form h (by omega)
  have hH:Holds encStr w g 0 (L.map ByteArray.toList).toArray:=fun j hj=>by
   simp at hj;have hx:L[j]?=some L[j]:=bS hj;obtain ⟨b,o,e,_,hc⟩:=(ay.read jA h) (fun e=>by rw [e] at h0;simp at h0);injection e with e
   injection e with e1 e2 _
   subst e1 e2;have h1:=hc j _ hx 0 _ rfl;refine ⟨?_,by rw [Nat.zero_add];exact World.ownsRow.frozenAt h j⟩;rw [show 0+j*1+0=0+j by omega] at h1;rw [h1,getElem!_pos _ j (by simpa using hj)];simp only [List.getElem_toArray,List.getElem_map];show _=some (Value.string ⟨(L[j]).toList.toArray⟩);rw [PS]
  have H:=Tryz.slices_Sort_string g 0 cap (L.map ByteArray.toList) w hH hgl (by rw [OX];omega);rw [OX] at H;refine H.mono ?_;rintro e w' ⟨rfl,n,os,rfl⟩;exact ⟨⟨_,rfl⟩,ay.ZG h n os,qL _ _ _ _ _ _⟩
theorem ZH (A B:Option Addr) (c d ba bb:Nat) (xs ys:List ByteArray) (w:World) (hx:dG w ba A c xs) (hy:dG w bb B d ys) (hl:xs.length<=1000000) (hm:ys.length<=1000000):
  Calls Tryz.prog 125 #[.slice A xs.length c,.slice B ys.length d] w fun e w'=>e= .returned (.bool (decide (xs=ys)))/\Below w.heap.size w w':=by
 by_cases h0:xs.length=0
 ·have hL:xs=[]:=fD h0
  subst hL;refine (Tryz.slices_Equal_string_empty A B c ys.length d w (by omega)).mono ?_;rintro e w' ⟨rfl,rfl⟩;refine ⟨?_,aI _ _⟩
  cases ys<;>simp
 ·by_cases hne:xs.length=ys.length
  ·obtain ⟨g,rfl,_,hgl,_,_⟩:=ay.form hx (by omega)
   obtain ⟨g2,rfl,_,akS,_,_⟩:=ay.form hy (by omega)
   have cells:∀(g b c2:Nat) (l:List ByteArray),dG w b (some ⟨g,0,none⟩) c2 l->∀j,j<l.length->w.cell? ⟨g,0+j,none⟩=some (.string (l.getD j dQ)):=by
    intro g b c2 l h j hj;have hx:l[j]?=some l[j]:=bS hj;obtain ⟨b,o,e,_,hc⟩:=(ay.read jA h) (fun e=>by rw [e] at hj;simp at hj);injection e with e
    injection e with e1 e2 _
    subst e1 e2;have h1:=hc j _ hx 0 _ rfl;rw [show 0+j*1+0=0+j by omega] at h1;rw [h1,List.getD_eq_getElem?_getD,hx];rfl
   refine (Tryz.slices_Equal_string g 0 xs.length c g2 0 ys.length d xs ys w (aK _) (aK _) (by omega) (by omega) (cells g ba c xs hx) (cells g2 bb d ys hy)).mono ?_;rintro e w' ⟨rfl,q,rfl⟩;rw [wH,wH];exact ⟨rfl,below_drewN (aI _ _) _⟩
  ·refine (Tryz.slices_Equal_string_lens A B xs.length c ys.length d w hne).mono ?_
   rintro e w' ⟨rfl,rfl⟩;have:¬xs=ys:=fun h=>hne (by rw [h]);exact ⟨by rw [decide_eq_false this],aI _ _⟩
theorem mW.tail {w:World} {B b o:Nat} {x:Int} {xs:List Int} (h:mW w B (some ⟨b,o,none⟩) (x::xs)):mW w B (some ⟨b,o+1,none⟩) xs:=by
 intro hne;obtain ⟨b',o',e,hb,hc⟩:=h (by simp);injection e with e
 injection e with e1 e2
 subst e1 e2;refine ⟨b,o+1,rfl,hb,fun i y hy j u hu=>?_⟩;have:=hc (i+1) y (by simpa using hy) j u hu;rw [show o+1+i*1+j=o+(i+1)*1+j by omega];exact this
theorem mW.cut {w:World} {B b o c:Nat} {x:Int} {xs:List Int} (h:mW w B (some ⟨b,o,none⟩) (x::xs)) (hc:(x::xs).length<=c):mW w B (if c=1 then some ⟨b,o,none⟩ else some ⟨b,o+1,none⟩) xs:=by
 by_cases e:c=1
 ·rw [if_pos e]
  have:xs=[]:=fD (by simp at hc;omega);rw [this];exact fun hne=>absurd rfl hne
 ·rw [if_neg e]
  exact h.tail
theorem Sr {t:List Nd} {l:List ByteArray} (g:Gd t) (h:kN t=some l):l.length<=50:=by
 rcases t with _|⟨x,xt⟩
 ·exact absurd g.fo.pos (by simp)
 unfold kN at h;split at h
 ·injection h with h
  rw [<-h];simp
 ·split at h
  ·injection h with h
   rw [<-h,OX];show (bA (manyN x) xt).length<=50;rw [yS];exact oZ (g.ok x (by simp))
  ·cases h
theorem Sv (P:Nat) (es:List Pt) (env:Env) (a:Nat) (A:Option Addr) (c:Nat) (t:List Nd) (aN:Nat) (bb:Bool) (Y:Nat->Prop) (w:World) (hes:dN es) (h:bf P es env (.ok a) Y w) (ht:aF w Y A c t) (g:Gd t) (hm:nI es t aN=some bb):
  Calls Tryz.prog 102 #[pk P,.slice A t.length c,.int .i64 aN] w (BH P es env Y (D9 bb aN 9 (.ok a)) w):=by
 unfold nI at hm;split at hm
 ·cases hm
 rename_i p hp;split at hm
 ·cases hm
 ·cases hm
 rename_i l0 l hk
 obtain ⟨x,xt,rfl⟩:∃x xt,t=x::xt:=by
  cases t with
  |nil=>exact absurd g.fo.pos (by simp)
  |cons x xt=>exact ⟨x,xt,rfl⟩
 obtain ⟨tb,PU,rfl,htb,ct,_,_⟩:=ht.ty.eY.at_ (i:=0) (x:=x) rfl;rw [show PU+0*3=PU by omega] at ct;obtain ⟨a',p',e',⟨EA,ec,Ar,Au,bs,hmk⟩,ha,hpp,he⟩:=h;have h:bf P es env (.ok a) Y w:=⟨a',p',e',⟨EA,ec,Ar,Au,bs,hmk⟩,ha,hpp,he⟩;obtain ⟨c0,_,_,_,_⟩:=hmk.cells;have hkl:=BF _ _ _ hk;have Hk:=aB (PE Y EA ec es aN p _ w hmk.ex hmk.el hes hp hk);obtain ⟨M,hM⟩:∃M,M=aL p:=⟨_,rfl⟩;have uf:=nJ (hes p (O8 hp)).2;rw [<-hM] at Hk hkl uf;have WK:M=l.length+1:=by rw [<-hkl.1];rfl
 have HW:=aB (DF h (DF ht g));have HX:=aB (DF hmk.ex hm);have HL:=aB hkl;have hP:P<w.heap.size:=h.lt P ((hmk.y P).2 (.inl rfl));clear hM hk hp hkl hm hmk ha hpp he h ht g;obtain ⟨n,hn⟩:∃n,n=l.length:=⟨_,rfl⟩;have Hn:=aB hn;rw [<-hn] at WK;subst WK;clear hn;simp only [oG];unfold pk;go_enter Tryz.func102,Tryz.ntmps102;go_wp2_with fail;refine Hk.out.mono ?_;rintro e w2 ⟨A2,cap2,rfl,hown2,hb2⟩;have hcap:=ay.l5 hown2;rw [mh,oG,<-Hn.out] at hcap;obtain ⟨g2,rfl,_,hg2,_,_⟩:=ay.form hown2 (by rw [mh];simp);have HR2:Hid (mW w2 w2.heap.size (if cap2=1 then some ⟨g2,0,none⟩ else some ⟨g2,0+1,none⟩) (cB l)):=aB (mW.cut (ay.read dK hown2) (by show (cB l).length+1<=cap2;rw [mh,<-Hn.out];exact hcap));have HB2:=aB hb2;have c02:=(hb2.cell (p:=⟨P,0,none⟩) hP).trans c0;have ct2:=(hb2.cell (p:=⟨tb,PU,none⟩) htb).trans ct;clear hown2 hb2 c0 ct hg2;apply share
 case h=>
  intro HT;by_cases hc1:cap2=1
  ·have HR3:Hid (mW w2 w2.heap.size (some ⟨g2,0,none⟩) (cB l)):=aB (by have:=HR2.out;rwa [if_pos hc1] at this)
   go_upto_region 2 with fail
   obtain ⟨v16,PW⟩:∃v16,v16=gq (some ⟨g2,0,none⟩) (n+1) 1:=⟨_,rfl⟩;rw [<-PW];obtain ⟨FX,c17,hA,hv⟩:∃(FX:Option Addr) (c17:Nat),FX=some ⟨g2,0,none⟩/\gq FX n c17=gq (some ⟨g2,0,none⟩) n 0:=⟨_,_,rfl,rfl⟩;rw [<-hv];have HR4:Hid (mW w2 w2.heap.size FX (cB l)):=aB (by rw [hA];exact HR3.out);clear hv hA PW HR3;revert HR4;revert v16 FX c17;exact HT.out
  ·have HR3:Hid (mW w2 w2.heap.size (some ⟨g2,1,none⟩) (cB l)):=aB (by have:=HR2.out;rwa [if_neg hc1] at this)
   go_upto_region 2 with fail
   obtain ⟨v16,PW⟩:∃v16,v16=gq (some ⟨g2,0,none⟩) (n+1) cap2:=⟨_,rfl⟩;rw [<-PW];obtain ⟨FX,c17,hA,hv⟩:∃(FX:Option Addr) (c17:Nat),FX=some ⟨g2,1,none⟩/\gq FX n c17=gq (some ⟨g2,1,none⟩) n (cap2-1):=⟨_,_,rfl,rfl⟩;rw [<-hv];have HR4:Hid (mW w2 w2.heap.size FX (cB l)):=aB (by rw [hA];exact HR3.out);clear hv hA PW HR3;revert HR4;revert v16 FX c17;exact HT.out
 case t=>
  intro v16 FX c17 HR4;clear Hk HR2;have aqp:n<=50:=by omega
  obtain ⟨lb,hlb⟩:∃lb:List ByteArray,lb=l.map fun i=>((es[i]?).getD default).lb:=⟨_,rfl⟩;have PX:Hid (lb.length=n/\lb=l.map fun i=>((es[i]?).getD default).lb):=aB ⟨by rw [hlb,OX,Hn.out],hlb⟩;have HT3:Hid (∀i∈l,i<es.length):=aB fun i hi=>HL.out.2 i (List.mem_cons_of_mem _ hi);clear hlb;go_loopw [6,19] (fun s6 s19 wr=>∃(k:Nat) (LA:Option Addr) (lc:Nat),k<=n/\s6= .slice LA k lc/\s19= .int .i64 k/\Hid (dG wr w2.heap.size LA lc (lb.take k)/\Below w2.heap.size w2 wr)) (fun _ s19 _=>n-(Lib.intOf s19).toNat)
  case atStart=>exact ⟨0,none,0,Nat.zero_le _,rfl,rfl,aB ⟨ay.nil,aI _ _⟩⟩
  case round=>
   obtain ⟨k,LA,lc,hk,rfl,rfl,HI⟩:=hrel;have c0r:=(HI.out.2.cell (p:=⟨P,0,none⟩) (World.block_lt_of_cell? _ _ c02)).trans c02;by_cases hlt:k<n
   ·obtain ⟨i,hi⟩:=aJ (l:=l) (i:=k) (by rw [<-Hn.out];exact hlt)
    have hil:=HT3.out i (O8 hi);obtain ⟨y,hy⟩:=aJ hil
    have hLk:lb[k]?=some y.lb:=by
     rw [PX.out.2,Tz,hi];show some ((es[i]?).getD default).lb=_;rw [hy];rfl
    obtain ⟨qb,qo,rfl,hqb,hqc⟩:=aS.int (aS.below HR4.out HI.out.2) (p8 hi);have ad4:=(HX.out.1.fr (Fr.below HB2.out:Fr Y w w2) fun q hq=>.inl hq).fr (Fr.below HI.out.2:Fr Y w2 wr) fun q hq=>.inl hq;obtain ⟨eb,eo,rfl,pO,_,⟨_,_,_,_,_,_,_,hel,_⟩,_⟩:=ad4 i y hy;have HC:=aB (DF hLk hlt);have htl:(lb.take k).length=k:=by rw [jm,PX.out.1];omega
    have J9:=aB htl;clear hi hy hLk htl ad4;go_wp2_with (at_builtin;refine nG rfl (.tmp 23) (.tmp 32) rfl w2.heap.size (m:=k) (n:=1) J9.out rfl (ay.alloc HI.out.1 _) (l2:=[y.lb]) rfl rfl (l6 _ _) (by omega) (by have:=HI.out.2.size;simp;omega) ?_;intro A5 c5 w5 hown5 hg5 _)
    have wF:Hid (dG w5 w2.heap.size A5 c5 (lb.take (k+1))/\Below w2.heap.size w2 w5):=aB (by
     refine ⟨?_,iB (au HI.out.2 _) hg5 fun q hq=>(ay.block HI.out.1 q hq).1⟩;rw [List.take_add_one,HC.out.1];exact hown5)
    clear hown5 hg5;go_wp2_with fail;go_roundw
    case rel=>exact ⟨k+1,A5,c5,HC.out.2,by go_num,by go_num,wF⟩
    case measure=>simp [Lib.intOf];omega
   ·have hkn:k=n:=by omega
    have HQ:Hid (dG wr w2.heap.size LA lc lb/\Below w2.heap.size w2 wr/\lb.length=k):=aB (by
     refine ⟨?_,HI.out.2,by rw [PX.out.1,hkn]⟩;have:=HI.out.1
     rwa [List.take_of_length_le (by rw [PX.out.1];omega)] at this)
    have HS:=Sq LA lc w2.heap.size lb wr HQ.out.1 (by rw [PX.out.1];omega);rw [HQ.out.2.2] at HS;have HS:=aB HS;clear hkn c0r;go_wp2_with fail;refine HS.out.mono ?_;rintro e w3 ⟨⟨v3,rfl⟩,hown3,hg3⟩;have H3:Hid (dG w3 w2.heap.size LA lc (lH lb)/\Below w.heap.size w w3):=aB ⟨hown3,ah HB2.out (iB HQ.out.2.1 hg3 fun q hq=>(ay.block HQ.out.1 q (by rw [HQ.out.2.2];exact hq)).1)⟩;have ct3:=(H3.out.2.cell (p:=⟨tb,PU,none⟩) htb).trans ((HB2.out.cell (p:=⟨tb,PU,none⟩) htb).symm.trans ct2);have ZI:=aB (WE (some ⟨tb,PU,none⟩) c (x::xt) w3 (HW.out.2.1.later H3.out.2).ty.eY HW.out.2.2 HW.out.2.1.cap);clear hown3 hg3;go_wp2_with fail;refine ZI.out.mono ?_;rintro e w4 ⟨hb4,h4⟩;have jS:=aB (ah H3.out.2 hb4);have ct4:=(jS.out.cell (p:=⟨tb,PU,none⟩) htb).trans ((HB2.out.cell (p:=⟨tb,PU,none⟩) htb).symm.trans ct2);have nV:=aB HX.out.2
    cases FY:kN (x::xt) with
    |none=>
     rw [FY] at h4;subst h4;have PY:Hid (bb=false):=aB (by have:=nV.out;rw [FY] at this;injection this with this;exact this.symm);have PZ:=jS;clear FY hb4 ct3;have Ib:=aB (jB P es env (.ok a) false aN 9 Y w4 (.inl (by decide)) (HW.out.1.later PZ.out));unfold pk at Ib;go_wp2_with fail;refine Ib.out.mono ?_;rintro e w5 ⟨⟨v5,rfl⟩,uL,hk5⟩
     have HP:Hid (BH P es env Y (D9 bb aN 9 (.ok a)) w (.returned v5) w5):=aB (by
      rw [PY.out];exact ⟨⟨_,rfl⟩,(Fr.below PZ.out).trans uL,hk5⟩)
     clear uL hk5;go_wp2_with fail;go_end0
     exact ⟨⟨_,rfl⟩,HP.out.2⟩
    |some tags=>
     rw [FY] at h4;obtain ⟨A6,c6,rfl,hown6⟩:=h4;have HO6:=aB hown6;have JY:(lH lb).length=k:=by rw [WV];exact HQ.out.2.2
     have ug:Hid (dG w4 w2.heap.size LA lc (lH lb)):=aB (H3.out.1.below hb4 (aK _))
     have jF:Hid (bb=(decide (x.k=0)||decide (tags=lH lb))):=aB (by
      have:=nV.out;rw [FY] at this;injection this with this
      rw [PX.out.2];exact this.symm)
     have aqr:=Sr HW.out.2.2 FY;clear FY hb4 ct3 hown6;by_cases h0:x.k=0
     ·have b0:(x.k==0)=true:=by simp [h0]
      have PY:Hid (bb=true):=aB (by rw [jF.out];simp [h0]);have PZ:=jS;clear h0 JY;have Ib:=aB (jB P es env (.ok a) true aN 9 Y w4 (.inl (by decide)) (HW.out.1.later PZ.out));unfold pk at Ib;go_wp2_with fail;refine Ib.out.mono ?_;rintro e w5 ⟨⟨v5,rfl⟩,uL,hk5⟩
      have HP:Hid (BH P es env Y (D9 bb aN 9 (.ok a)) w (.returned v5) w5):=aB (by
       rw [PY.out];exact ⟨⟨_,rfl⟩,(Fr.below PZ.out).trans uL,hk5⟩)
      clear uL hk5;go_wp2_with fail;go_end0;exact ⟨⟨_,rfl⟩,HP.out.2⟩
     ·have b0:(x.k==0)=false:=by simp [h0]
      have HEq:=ZH A6 LA c6 lc w3.heap.size w2.heap.size tags (lH lb) w4 HO6.out ug.out (by omega) (by rw [JY];omega);rw [JY] at HEq;have HEq:=aB HEq;obtain ⟨bq,hbq⟩:∃bq,bq=decide (tags=lH lb):=⟨_,rfl⟩;have PY:Hid (bb=bq):=aB (by rw [jF.out,hbq];simp [h0]);rw [<-hbq] at HEq;clear h0 JY hbq;go_wp2_with fail;refine HEq.out.mono ?_;rintro e w4b ⟨rfl,hb5⟩;have PZ:=aB (ah jS.out hb5);clear hb5 ct4;have Ib:=aB (jB P es env (.ok a) bq aN 9 Y w4b (.inl (by decide)) (HW.out.1.later PZ.out));unfold pk at Ib;go_wp2_with fail;refine Ib.out.mono ?_;rintro e w5 ⟨⟨v5,rfl⟩,uL,hk5⟩
      have HP:Hid (BH P es env Y (D9 bb aN 9 (.ok a)) w (.returned v5) w5):=aB (by
       rw [PY.out];exact ⟨⟨_,rfl⟩,(Fr.below PZ.out).trans uL,hk5⟩)
      clear uL hk5;go_wp2_with fail;go_end0;exact ⟨⟨_,rfl⟩,HP.out.2⟩
def Shows (Q:Prop) (w:World) (e:Ending) (w':World):Prop:=∃b:Bool,e= .returned (.bool b)/\(b=true->Q)/\Below w.heap.size w w'
theorem Shows.no {Q:Prop} {w w':World} (h:Below w.heap.size w w'):Shows Q w (.returned (.bool false)) w':=⟨false,rfl,(fun h2=>nomatch h2),h⟩
theorem Shows.yes {Q:Prop} {w w':World} {b:Bool} (q:b=true->Q) (h:Below w.heap.size w w'):Shows Q w (.returned (.bool b)) w':=⟨b,rfl,q,h⟩
theorem CU (A:Option Addr) (c:Nat) (xs:List Nd) (w:World) (ha:bJ w w.heap.size A xs) (hl:xs.length<=1000000) (hs:∀x∈xs,x.s.size<=1000000):
  Calls Tryz.prog 59 #[.slice A xs.length c] w (Shows (iC xs=true/\pW xs=true) w):=by
 have HR:=aB (EW A c xs w ha (by omega) fun x hx=>by have:=hs x hx;omega);have HP:=aB (fun v (hv:Below w.heap.size w v)=>ER A c v.heap.size xs v ((ha.below hv).more hv.size) (by omega));clear ha hl hs;go_enter Tryz.func59,Tryz.ntmps59;go_wp2_with fail;refine HR.out.mono ?_;rintro e w1 ⟨rfl,hb⟩
 cases hr:iC xs
 ·go_wp2_with fail
  go_ret;exact Shows.no hb
 ·go_wp2_with fail
  refine (HP.out _ hb).mono ?_;rintro e w2 ⟨rfl,rfl⟩;go_wp2_with fail;go_ret;exact Shows.yes (fun h=>⟨hr,h⟩) hb
theorem P5 (s:ByteArray) (w:World) (hs:s.size<=1000000):
  Calls Tryz.prog 61 #[.string s] w (Shows True w):=by
 go_enter Tryz.func61,Tryz.ntmps61;go_wp2_with fail;go_loopw [3] (fun i3 wr=>∃k:Nat,i3= .int .i64 k/\k<=s.size/\wr=w) (fun i3 _=>s.size-(Lib.intOf i3).toNat)
 case atStart=>exact ⟨0,rfl,by omega,rfl⟩
 case round=>
  obtain ⟨k,rfl,hk,rfl⟩:=hrel;by_cases hlt:k<s.size
  ·cases h33:((((s[k]'hlt).toNat:Nat):Int)==33)
   rotate_left
   ·go_wp2_with fail
    refine (iw _ _ ?_).mono ?_
    ·rw [ByteArray.size_extract];omega
    rintro e w2 ⟨rfl,rfl⟩
    cases hw:oJ (s.extract 0 k)
    ·go_wp2_with fail
     go_ret;exact Shows.no (aI _ _)
    ·go_wp2_with fail
     refine (iw _ _ ?_).mono ?_
     ·rw [ByteArray.size_extract];omega
     rintro e w2 ⟨rfl,rfl⟩;go_wp2_with fail;go_ret;exact Shows.yes (fun _=>trivial) (aI _ _)
   ·go_wp2_with fail
    go_roundw
    case rel=>exact ⟨k+1,by go_num,by omega,trivial⟩
    case measure=>simp [Lib.intOf];omega
  ·go_wp2_with fail
   refine (iw _ _ (by omega)).mono ?_;rintro e w2 ⟨rfl,rfl⟩;go_wp2_with fail;go_ret;exact Shows.yes (fun _=>trivial) (aI _ _)
theorem WW (s:ByteArray) (w:World):
  Calls Tryz.prog 62 #[.string s] w (Shows True w):=by
 go_enter Tryz.func62,Tryz.ntmps62;go_upto_region 2 with fail
 obtain ⟨w1,hw1⟩:∃w1,w1=w.alloc (.cells #[.string ⟨#[43]⟩,.string ⟨#[45]⟩,.string ⟨#[42]⟩,.string ⟨#[47]⟩,.string ⟨#[60]⟩,.string ⟨#[61,61]⟩,.string ⟨#[38,38]⟩,.string ⟨#[124,124]⟩,.string ⟨#[43,43]⟩] 9):=⟨_,rfl⟩;have hb1:Below w.heap.size w w1:=by rw [hw1];exact au (aI _ _) _
 have hbl:w1.heap[w.heap.size]?=some (.cells #[.string ⟨#[43]⟩,.string ⟨#[45]⟩,.string ⟨#[42]⟩,.string ⟨#[47]⟩,.string ⟨#[60]⟩,.string ⟨#[61,61]⟩,.string ⟨#[38,38]⟩,.string ⟨#[124,124]⟩,.string ⟨#[43,43]⟩] 9 (0,0)):=by rw [hw1];exact heap_alloc_new _ _
 rw [<-hw1];clear hw1
 have HC:Hid (∀k:Nat,k<9->∃t,w1.cell? ⟨w.heap.size,k,none⟩=some (.string t)):=aB fun k hk=>by
  simp only [DI,hbl]
  match k,hk with
  |0,_|1,_|2,_|3,_|4,_|5,_|6,_|7,_|8,_=>exact ⟨_,rfl⟩
 have HB:=aB hb1;clear hb1 hbl;obtain ⟨g,hg⟩:∃g,g=w.heap.size:=⟨_,rfl⟩;rw [<-hg] at HC ⊢;clear hg;go_wp2_with fail;go_loopw [4] (fun i4 wr=>∃k:Nat,i4= .int .i64 k/\k<=9/\wr=w1) (fun i4 _=>9-(Lib.intOf i4).toNat)
 case atStart=>exact ⟨0,rfl,by omega,rfl⟩
 case round=>
  obtain ⟨k,rfl,hk,rfl⟩:=hrel;by_cases hlt:k<9
  ·obtain ⟨t,ht⟩:=HC.out k hlt
   have akW:(k:Int)<9:=by omega
   cases hq:(t.toList==s.toList)
   ·go_wp2_with fail
    go_roundw
    case rel=>exact ⟨k+1,by go_num,by omega,trivial⟩
    case measure=>simp [Lib.intOf];omega
   ·go_wp2_with fail
    go_ret;exact Shows.yes (fun _=>trivial) HB.out
  ·have akW:¬(k:Int)<9:=by omega
   go_wp2_with fail;go_ret;exact Shows.no HB.out
theorem J_ (p:Pt) (TA:Option Addr) (tn tc:Nat) (UA:Option Addr) (un uc:Nat) (w:World) (hT:bJ w w.heap.size TA p.T) (htn:Hid (tn=p.T.length)):
  Calls Tryz.prog 60 #[yT p TA tn tc UA un uc] w (Shows (∃k,1<=k/\k<=4/\p.T=[⟨k,dQ,0⟩]) w):=by
 by_cases h1:tn=1
 ·obtain ⟨x,hx⟩:∃x,p.T=[x]:=by
   have:=htn.out;rw [h1] at this;exact List.length_eq_one_iff.1 this.symm
  subst h1;obtain ⟨b,o,rfl,hb,c0,c1,c2⟩:=hT.at_ (i:=0) (x:=x) (by rw [hx];rfl);simp only [Nat.zero_mul,Nat.add_zero] at c0 c1 c2;have HX:=aB hx;obtain ⟨w1,hw1⟩:∃w1,w1=w.alloc (.cells #[.int .i64 p.k,.string p.lb,.string p.nm,.string p.bd,.int .i64 p.mn,.int .i64 p.num,.slice (some ⟨b,o,none⟩) 1 tc,.slice UA un uc] 33):=⟨_,rfl⟩;have hb1:Below w.heap.size w w1:=by rw [hw1];exact au (aI _ _) _
  have hbl:w1.heap[w.heap.size]?=some (.cells #[.int .i64 p.k,.string p.lb,.string p.nm,.string p.bd,.int .i64 p.mn,.int .i64 p.num,.slice (some ⟨b,o,none⟩) 1 tc,.slice UA un uc] 33 (0,0)):=by rw [hw1];exact heap_alloc_new _ _
  have d2:w1.cell? ⟨w.heap.size,2,none⟩=some (.string p.nm):=by simp [DI,hbl]
  have d5:w1.cell? ⟨w.heap.size,5,none⟩=some (.int .i64 p.num):=by simp [DI,hbl]
  have d6:w1.cell? ⟨w.heap.size,6,none⟩=some (.slice (some ⟨b,o,none⟩) 1 tc):=by simp [DI,hbl]
  have e0:w1.cell? ⟨b,o,none⟩=some (.int .i64 x.k):=(hb1.cell (p:=⟨b,o,none⟩) hb).trans c0;have e1:w1.cell? ⟨b,o+1,none⟩=some (.string x.s):=(hb1.cell (p:=⟨b,o+1,none⟩) hb).trans c1;have e2:w1.cell? ⟨b,o+2,none⟩=some (.int .i64 x.n):=(hb1.cell (p:=⟨b,o+2,none⟩) hb).trans c2;have HB:=aB hb1;clear hT htn hx c0 c1 c2 hb1 hbl hb;unfold yT;go_enter Tryz.func60,Tryz.ntmps60;go_upto_region 1 with fail
  rw [<-hw1];clear hw1;obtain ⟨g,hg⟩:∃g,g=w.heap.size:=⟨_,rfl⟩;rw [<-hg] at d2 d5 d6 ⊢;clear hg
  cases he:x.s.toList.isEmpty
  ·go_wp2_with fail
   go_ret;exact Shows.no HB.out
  cases hn:(x.n !=0)
  rotate_left
  ·go_wp2_with fail
   go_ret;exact Shows.no HB.out
  cases h3:decide (p.num<0)
  rotate_left
  ·go_wp2_with fail
   go_ret;exact Shows.no HB.out
  cases h4:decide (999999999999999999<p.num)
  rotate_left
  ·go_wp2_with fail
   go_ret;exact Shows.no HB.out
  have HQ:Hid (∀k:Int,x.k=k->1<=k->k<=4->∃k,1<=k/\k<=4/\p.T=[⟨k,dQ,0⟩]):=aB fun k hk h1 h2=>by
   refine ⟨k,h1,h2,?_⟩;have hs:x.s=dQ:=ByteArray.size_eq_zero_iff.1 (by rw [gD] at he;simpa using he);have hn0:x.n=0:=by simpa using hn
   rw [HX.out,<-hk,<-hs,<-hn0]
  go_upto_region 3 with fail
  cases k1:(x.k==1)
  rotate_left
  ·go_wp2_with fail
   go_ret;exact Shows.yes (fun _=>HQ.out 1 (by simpa using k1) (by omega) (by omega)) HB.out
  cases k2:(x.k==2)
  rotate_left
  ·cases hm:p.nm.toList.isEmpty
   all_goals
    go_wp2_with fail;go_ret;exact Shows.yes (fun _=>HQ.out 2 (by simpa using k2) (by omega) (by omega)) HB.out
  cases k3:(x.k==3)
  rotate_left
  ·go_wp2_with fail
   go_ret;exact Shows.yes (fun _=>HQ.out 3 (by simpa using k3) (by omega) (by omega)) HB.out
  cases k4:(x.k==4)
  rotate_left
  ·cases hm:p.nm.toList.isEmpty
   all_goals
    go_wp2_with fail;go_ret;exact Shows.yes (fun _=>HQ.out 4 (by simpa using k4) (by omega) (by omega)) HB.out
  go_wp2_with fail;go_ret;exact Shows.no HB.out
 ·unfold yT
  have h1b:((tn:Int) !=1)=true:=by simp;omega
  clear h1;go_enter Tryz.func60,Tryz.ntmps60;go_wp2_with fail;go_ret;exact Shows.no (au (aI _ _) _)
open Go Go.RowKit
section
variable {P:Program} {ops:Array Oper} {Q:Exit->Act->World->Prop} {md:Region.Mode} {S:World->Prop} {Z:List Nat}
theorem pF (i j:Nat) {fuel:Nat} {listed:Array Bool} {a:Act} {w:World} {oi oj:Oper} (hr:Region.ready md ops listed=[i,j]) (hi:ops[i]?=some oi) (hj:ops[j]?=some oj) (hwi:Region.wanted oi (yielded ops a.tmps)=true) (P6:Region.wanted oj (yielded ops a.tmps)=true)
  (h1:oi.wp P a w (fun a' w'=>((∀z∈Z,(listed.setIfInBounds i true).getD z true=false)->S w')/\wpAnyL P md ops Q S Z fuel (listed.setIfInBounds i true) a' w') Q)
  (h2:oj.wp P a w (fun a' w'=>((∀z∈Z,(listed.setIfInBounds j true).getD z true=false)->S w')/\wpAnyL P md ops Q S Z fuel (listed.setIfInBounds j true) a' w') Q):wpAnyL P md ops Q S Z (fuel+1) listed a w:=by
 refine yO hr (by simp) fun m hm=>?_;simp only [List.mem_cons,List.not_mem_nil,or_false] at hm;rcases hm with rfl|rfl
 ·unfold wpOp
  rw [hi];simp only [hwi,if_true];exact .inl h1
 ·unfold wpOp
  rw [hj];simp only [P6,if_true];exact .inl h2
theorem qh (d:Option Tmp) {a:Act} {w:World} {oi:Oper} {K:Act->World->Prop} {f:FuncId} {args:Array Value} {post:Ending->World->Prop} (hd:oi.dst=d) (hop:(execOp a.eval oi).run P w= .ok (.enter f args) w) (hc:Calls P f args w post)
  (h:∀e w',post e w'->∃u,e= .returned u/\K (a.put d u) w'):oi.wp P a w K Q:=by
 subst hd;unfold Oper.wp;rw [hop];simp only [Oper.upon];refine hc.mono fun e w' he=>?_;obtain ⟨u,rfl,h1⟩:=h e w' he;exact h1
theorem fC (d:Option Tmp) {a:Act} {w w':World} {oi:Oper} {K:Act->World->Prop} {v:Value} (hd:oi.dst=d) (hop:(execOp a.eval oi).run P w= .ok (.value v) w') (h:K (a.put d v) w'):oi.wp P a w K Q:=by
 subst hd;unfold Oper.wp;rw [hop];exact h
end
end Go.Proofs.YtmjdhfbnmmdjiaaGreat
