/- Laid together by a tool from the texts of this seat: ChY ChU RdB RegTwo. Conditions: each theorem's own. -/
import Derived.Test.YtmjdhfbnmmdjiaaGreatJ12
import Derived.Test.YtmjdhfbnmmdjiaaGreatJ10
import Derived.Test.YtmjdhfbnmmdjiaaGreatJ08
import Derived.Test.YtmjdhfbnmmdjiaaGreatJ11
import Derived.Test.YtmjdhfbnmmdjiaaGreatJ05
set_option maxHeartbeats 8000000
set_option maxRecDepth 100000
namespace Go.Proofs.YtmjdhfbnmmdjiaaGreat
open Go.Lib renaming hid->aD
open Go.RowKit.Below renaming refl->aF
open _root_.List renaming length_map->Qx,getElem?_eq_getElem->bA,eq_nil_of_length_eq_zero->dz,getElem?_map->TW,getElem?_eq_none->Wi,length_take->iW,take_length->pq,mem_of_getElem?->Ox,length_cons->mX
open _root_.And renaming intro->Cj
open Go.Value renaming slice->fq
open _root_.Nat renaming le_refl->aG
open _root_.ByteArray renaming empty->bZ
open Go.World renaming cell?->Ck,size_alloc->Er
open Go.RowKit
theorem Xr (P:Nat) (es:List Pt) (nx:Nx) (HN:Hid (nC P es nx)) (env:Env) (p:Pt) (aK a:Nat) (r:fC) (Y:Nat->Prop) (w:World) (TA UA:Option Addr) (tc uc:Nat) (h:aM P es env (.ok a) Y w) (hT:aA w Y TA tc p.T) (hU:aA w Y UA uc p.U) (hG:∀env a t b,nx env a=some (.ok (t,b))->Gd t) (hm:getM nx env p aK a=some r):
  Calls Tryz.prog 74 #[pk P,pv p TA tc UA uc,.int .i64 aK] w (aY P es env Y r w):=by
 obtain ⟨w1,hw1⟩:∃w1,w1=w.alloc (.cells #[.int .i64 p.k,.string p.lb,.string p.nm,.string p.bd,.int .i64 p.mn,.int .i64 p.num,.slice TA p.T.length tc,.slice UA p.U.length uc] 33):=⟨_,rfl⟩;have hpm:=aO.new h.lt hT hU;have hb1:Below w.heap.size w w1:=by rw [hw1];exact aj (aF _ _) _
 rw [<-hw1] at hpm;have CQ:=aD hpm;have HB:=aD hb1;have H:=aD (h.later hb1);have HR:=aD (b_ hm);have HD:=aD (hG);have HL:=aD h.lt;clear h hT hU hm hG hpm hb1;unfold pk pv;go_enter Tryz.func74,Tryz.ntmps74;go_upto_region 1 with fail
 rw [<-hw1];clear hw1;obtain ⟨SS,hSS⟩:∃SS:World->Prop,SS=fun v=>v.cell? ⟨w.heap.size,2,none⟩=some (.string p.nm)/\v.cell? ⟨w.heap.size,3,none⟩=some (.string p.bd)/\v.cell? ⟨w.heap.size,6,none⟩=some (.slice TA p.T.length tc)/\v.cell? ⟨w.heap.size,7,none⟩=some (.slice UA p.U.length uc):=⟨_,rfl⟩;have HS:Hid (∀v Y',aO v Y' w.heap.size p TA tc UA uc->SS v):=aD fun v Y' hv=>by rw [hSS];exact ⟨hv.cells.2.2.1,hv.cells.2.2.2.1,hv.cells.2.2.2.2.2.1,hv.cells.2.2.2.2.2.2⟩
 obtain ⟨wd,hwd⟩:∃wd,wd=w1.drew:=⟨_,rfl⟩;have bM:Hid (Below w1.heap.size w1 wd):=aD (by rw [hwd];exact (aF _ _).drew);have mI:=aD (CQ.out.later bM.out);have vZ:=aD (H.out.later bM.out);have rP:Hid (Fr Y w wd/\ah Y Y w):=aD ⟨Fr.below (au HB.out bM.out),ah.refl _ _⟩;have hsd:SS wd:=HS.out _ _ mI.out;refine aI (S:=SS) [6] (by kernel_rfl) (by rw [<-hwd];exact hsd) (fun hHeld=>?_);rw [<-hwd] at hHeld ⊢;clear hwd;refine aL 0 [6] (some 7) rfl rfl ?_;refine aL 1 [2,6] (some 8) rfl rfl ?_;refine aL 3 [4,6] (some 10) rfl rfl ?_;refine aL 4 [6] (some 11) rfl rfl ?_;refine aL 5 [6] (some 12) rfl rfl ?_;rcases HR.out with ⟨x,h1,hr⟩|⟨t,b,h1,hr⟩
 ·have HX:=aD (HN.out env (.ok a) _ Y wd h1 vZ.out)
  unfold pk at HX;refine bD 2 (some 9) rfl rfl (by kernel_rfl) (by rfl) (by kernel_rfl) HX.out ?_;rintro e w2 ⟨Y2,hf2,hy2,hk2,rfl⟩;have lG:=aD (mI.out.fr hf2 hy2);have hs2:SS w2:=HS.out _ _ lG.out;refine ⟨_,rfl,hs2,?_⟩;refine aC ?_;have lH:Hid (Fr Y w w2/\ah Y Y2 w):=aD ⟨Fr.new rP.out.1 hf2 rP.out.2,ah.trans rP.out.2 hy2 rP.out.1.size⟩;have mh:=aD (FU P es env x (.slice none 0 0) (.string p.nm) aK Y2 w2 hk2);rw [<-hr] at mh;unfold pk at mh;refine bD 6 (some 13) rfl rfl (by kernel_rfl) (by rfl) (by kernel_rfl) mh.out ?_;intro e w3 hp;have HQ:=aD (hp.to lH.out.1 lH.out.2)
  have lZ:Hid (∃Y3,aO w3 Y3 w.heap.size p TA tc UA uc):=aD (by
   obtain ⟨Y3,hf3,hy3,_⟩:=hp;exact ⟨Y3,lG.out.fr hf3 hy3⟩)
  clear hp;obtain ⟨v9,uG⟩:=HQ.out.ret;subst uG;refine ⟨_,rfl,by obtain ⟨Y3,h3⟩:=lZ.out;exact HS.out _ _ h3,?_⟩;refine aC ?_;refine bB 7 (some 6) rfl rfl (by kernel_rfl) (by rfl) (by go_simp;first|with_reducible rfl|(constructor<;>with_reducible rfl)) (zL (by kernel_rfl)) ?_;refine aC ?_;refine bG (by kernel_rfl) ?_ _;clear hf2 hy2 hk2 hs2 hHeld hsd h1 hr;go_wp2_with fail;go_ret;exact HQ.out
 ·have HX:=aD (HN.out env (.ok a) _ Y wd h1 vZ.out)
  unfold pk at HX;refine bD 2 (some 9) rfl rfl (by kernel_rfl) (by rfl) (by kernel_rfl) HX.out ?_;rintro e w2 ⟨Y2,hf2,hy2,hk2,A2,c2,rfl,ht2⟩;have lG:=aD (mI.out.fr hf2 hy2);have hs2:SS w2:=HS.out _ _ lG.out;refine ⟨_,rfl,hs2,?_⟩;refine aC ?_;have lH:Hid (Fr Y w w2/\ah Y Y2 w):=aD ⟨Fr.new rP.out.1 hf2 rP.out.2,ah.trans rP.out.2 hy2 rP.out.1.size⟩;have mh:=aD (CS P es env b A2 c2 t p.nm aK r Y2 w2 hk2 ht2 (HD.out _ _ _ _ h1) hr);unfold pk at mh;refine bD 6 (some 13) rfl rfl (by kernel_rfl) (by rfl) (by kernel_rfl) mh.out ?_;intro e w3 hp;have HQ:=aD (hp.to lH.out.1 lH.out.2)
  have lZ:Hid (∃Y3,aO w3 Y3 w.heap.size p TA tc UA uc):=aD (by
   obtain ⟨Y3,hf3,hy3,_⟩:=hp;exact ⟨Y3,lG.out.fr hf3 hy3⟩)
  clear hp;obtain ⟨v9,uG⟩:=HQ.out.ret;subst uG;refine ⟨_,rfl,by obtain ⟨Y3,h3⟩:=lZ.out;exact HS.out _ _ h3,?_⟩;refine aC ?_;refine bB 7 (some 6) rfl rfl (by kernel_rfl) (by rfl) (by go_simp;first|with_reducible rfl|(constructor<;>with_reducible rfl)) (zL (by kernel_rfl)) ?_;refine aC ?_;refine bG (by kernel_rfl) ?_ _;clear hf2 hy2 hk2 hs2 hHeld hsd h1 hr ht2;go_wp2_with fail;go_ret;exact HQ.out
theorem kJ (w:World) (b:Bn):mK (w.alloc (.cells #[.string b.s,.slice b.A b.n b.c] 36)) (w.heap.size+1) (some ⟨w.heap.size,0,none⟩) [b]:=fun _=>by
 refine ⟨w.heap.size,0,rfl,by omega,fun i x hx j u hu=>?_⟩
 match i,hx with
 |0,hx=>
  simp at hx;subst hx
  match j,hu with
  |0,hu=>simp [pO] at hu;subst hu;simp
  |1,hu=>simp [pO] at hu;subst hu;simp
  |j+2,hu=>simp [pO] at hu
 |i+1,hx=>simp at hx
theorem Xt (P:Nat) (es:List Pt) (nx:Nx) (HN:Hid (nC P es nx)) (env:Env) (p:Pt) (aK a:Nat) (r:fC) (Y:Nat->Prop) (w:World) (TA UA:Option Addr) (tc uc:Nat) (h:aM P es env (.ok a) Y w) (hT:aA w Y TA tc p.T) (hU:aA w Y UA uc p.U) (gT:Gd p.T) (hvl:env.length<=900000) (hG:∀env a t b,nx env a=some (.ok (t,b))->Gd t) (hm:FC nx env p aK a=some r):
  Calls Tryz.prog 68 #[pk P,pv p TA tc UA uc,.int .i64 aK] w (aY P es env Y r w):=by
 obtain ⟨w1,hw1⟩:∃w1,w1=w.alloc (.cells #[.int .i64 p.k,.string p.lb,.string p.nm,.string p.bd,.int .i64 p.mn,.int .i64 p.num,.slice TA p.T.length tc,.slice UA p.U.length uc] 33):=⟨_,rfl⟩;have hpm:=aO.new h.lt hT hU;have hb1:Below w.heap.size w w1:=by rw [hw1];exact aj (aF _ _) _
 rw [<-hw1] at hpm;have CQ:=aD hpm;have HB:=aD hb1;have H:=aD (h.later hb1);have HR:=aD (b_ hm);have HD:=aD (Cj gT (Cj hG hvl));have HL:=aD h.lt;clear h hT hU hm hG hpm hb1;unfold pk pv;go_enter Tryz.func68,Tryz.ntmps68;go_upto_region 1 with fail
 rw [<-hw1];clear hw1;obtain ⟨SS,hSS⟩:∃SS:World->Prop,SS=fun v=>v.cell? ⟨w.heap.size,2,none⟩=some (.string p.nm)/\v.cell? ⟨w.heap.size,3,none⟩=some (.string p.bd)/\v.cell? ⟨w.heap.size,6,none⟩=some (.slice TA p.T.length tc)/\v.cell? ⟨w.heap.size,7,none⟩=some (.slice UA p.U.length uc):=⟨_,rfl⟩;have HS:Hid (∀v Y',aO v Y' w.heap.size p TA tc UA uc->SS v):=aD fun v Y' hv=>by rw [hSS];exact ⟨hv.cells.2.2.1,hv.cells.2.2.2.1,hv.cells.2.2.2.2.2.1,hv.cells.2.2.2.2.2.2⟩
 obtain ⟨wd,hwd⟩:∃wd,wd=w1.drew:=⟨_,rfl⟩;have bM:Hid (Below w1.heap.size w1 wd):=aD (by rw [hwd];exact (aF _ _).drew);have mI:=aD (CQ.out.later bM.out);have vZ:=aD (H.out.later bM.out);have rP:Hid (Fr Y w wd/\ah Y Y w):=aD ⟨Fr.below (au HB.out bM.out),ah.refl _ _⟩;have hsd:SS wd:=HS.out _ _ mI.out;refine aI (S:=SS) [6] (by kernel_rfl) (by rw [<-hwd];exact hsd) (fun hHeld=>?_);rw [<-hwd] at hHeld ⊢;clear hwd;refine aL 0 [6] (some 7) rfl rfl ?_;refine aL 1 [2,6] (some 8) rfl rfl ?_;refine aL 3 [4,6] (some 10) rfl rfl ?_;refine aL 4 [6] (some 11) rfl rfl ?_;refine aL 5 [6] (some 12) rfl rfl ?_;rcases HR.out with ⟨x,h1,hr⟩|⟨t,b,h1,hr⟩
 ·have HX:=aD (HN.out env (.ok a) _ Y wd h1 vZ.out)
  unfold pk at HX;refine bD 2 (some 9) rfl rfl (by kernel_rfl) (by rfl) (by kernel_rfl) HX.out ?_;rintro e w2 ⟨Y2,hf2,hy2,hk2,rfl⟩;have lG:=aD (mI.out.fr hf2 hy2);have hs2:SS w2:=HS.out _ _ lG.out;refine ⟨_,rfl,hs2,?_⟩;refine aC ?_;have lH:Hid (Fr Y w w2/\ah Y Y2 w):=aD ⟨Fr.new rP.out.1 hf2 rP.out.2,ah.trans rP.out.2 hy2 rP.out.1.size⟩;have mh:=aD (bF P es env x (.slice none 0 0) (.slice TA p.T.length tc) aK Y2 w2 hk2);unfold pk at mh;refine bD 6 (some 13) rfl rfl (by kernel_rfl) (by rfl) (by kernel_rfl) mh.out ?_;rintro e w3 ⟨⟨v3,rfl⟩,hf3,hk3⟩;have lZ:=aD (lG.out.fr hf3 (ah.refl _ _));refine ⟨_,rfl,HS.out _ _ lZ.out,?_⟩;refine aC ?_;refine bG (by kernel_rfl) ?_ _;go_upto_region 2 with fail
  have xU:=aD (p9 P es nx HN env [(p.bd,p.T)] (.error x) r (some ⟨w3.heap.size,0,none⟩) 1 [⟨p.bd,TA,p.T.length,tc⟩] Y2 (w3.alloc (.cells #[.string p.bd,.slice TA p.T.length tc] 36)) (hk3.later (aj (aF _ _) _)) (by rw [Er];exact kJ w3 ⟨p.bd,TA,p.T.length,tc⟩) (dX.one (lZ.out.T.later (aj (aF _ _) _)) rfl) (by simp) HD.out.2.2 (by rw [hr];rfl));have FV:Hid (Fr Y w (w3.alloc (.cells #[.string p.bd,.slice TA p.T.length tc] 36))/\ah Y Y2 w):=aD ⟨(Fr.new lH.out.1 hf3 lH.out.2).alloc _,lH.out.2⟩;obtain ⟨k0,k1,k2,k3,k4,k6,k7⟩:=lZ.out.cells;unfold pk at xU;clear hf2 hy2 hk2 hf3 hk3 hs2 hHeld hsd h1 hr;go_wp2_with fail;refine xU.out.mono ?_;intro e w4 hp;have HQ:=aD (hp.to FV.out.1 FV.out.2);clear hp;obtain ⟨v9,uG⟩:=HQ.out.ret;subst uG;clear k0 k1 k2 k3 k4 k6 k7;go_wp2_with fail;go_ret;exact HQ.out
 ·have HX:=aD (HN.out env (.ok a) _ Y wd h1 vZ.out)
  unfold pk at HX;refine bD 2 (some 9) rfl rfl (by kernel_rfl) (by rfl) (by kernel_rfl) HX.out ?_;rintro e w2 ⟨Y2,hf2,hy2,hk2,A2,c2,rfl,ht2⟩;have lG:=aD (mI.out.fr hf2 hy2);have hs2:SS w2:=HS.out _ _ lG.out;refine ⟨_,rfl,hs2,?_⟩;refine aC ?_;have lH:Hid (Fr Y w w2/\ah Y Y2 w):=aD ⟨Fr.new rP.out.1 hf2 rP.out.2,ah.trans rP.out.2 hy2 rP.out.1.size⟩;have mh:=aD (fQ P es env b A2 TA c2 tc t p.T aK Y2 w2 hk2 ht2.ty lG.out.T.ty (HD.out.2.1 _ _ _ _ h1) HD.out.1);unfold pk at mh;refine bD 6 (some 13) rfl rfl (by kernel_rfl) (by rfl) (by kernel_rfl) mh.out ?_;rintro e w3 ⟨⟨v3,rfl⟩,hf3,hk3⟩;have lZ:=aD (lG.out.fr hf3 (ah.refl _ _));refine ⟨_,rfl,HS.out _ _ lZ.out,?_⟩;refine aC ?_;refine bG (by kernel_rfl) ?_ _;go_upto_region 2 with fail
  have xU:=aD (p9 P es nx HN env [(p.bd,p.T)] (fZ t p.T aK b) r (some ⟨w3.heap.size,0,none⟩) 1 [⟨p.bd,TA,p.T.length,tc⟩] Y2 (w3.alloc (.cells #[.string p.bd,.slice TA p.T.length tc] 36)) (hk3.later (aj (aF _ _) _)) (by rw [Er];exact kJ w3 ⟨p.bd,TA,p.T.length,tc⟩) (dX.one (lZ.out.T.later (aj (aF _ _) _)) rfl) (by simp) HD.out.2.2 hr);have FV:Hid (Fr Y w (w3.alloc (.cells #[.string p.bd,.slice TA p.T.length tc] 36))/\ah Y Y2 w):=aD ⟨(Fr.new lH.out.1 hf3 lH.out.2).alloc _,lH.out.2⟩;obtain ⟨k0,k1,k2,k3,k4,k6,k7⟩:=lZ.out.cells;unfold pk at xU;clear hf2 hy2 hk2 hf3 hk3 hs2 hHeld hsd h1 hr ht2;go_wp2_with fail;refine xU.out.mono ?_;intro e w4 hp;have HQ:=aD (hp.to FV.out.1 FV.out.2);clear hp;obtain ⟨v9,uG⟩:=HQ.out.ret;subst uG;clear k0 k1 k2 k3 k4 k6 k7;go_wp2_with fail;go_ret;exact HQ.out
theorem Xu (P:Nat) (es:List Pt) (nx:Nx) (HN:Hid (nC P es nx)) (env:Env) (p:Pt) (aK a:Nat) (r:fC) (Y:Nat->Prop) (w:World) (TA UA:Option Addr) (tc uc:Nat) (h:aM P es env (.ok a) Y w) (hT:aA w Y TA tc p.T) (hU:aA w Y UA uc p.U) (gT:Gd p.T) (hvl:env.length<=900000) (hG:∀env a t b,nx env a=some (.ok (t,b))->Gd t) (hm:Fz nx env p a=some r):
  Calls Tryz.prog 66 #[pk P,pv p TA tc UA uc,.int .i64 aK] w (aY P es env Y r w):=by
 obtain ⟨w1,hw1⟩:∃w1,w1=w.alloc (.cells #[.int .i64 p.k,.string p.lb,.string p.nm,.string p.bd,.int .i64 p.mn,.int .i64 p.num,.slice TA p.T.length tc,.slice UA p.U.length uc] 33):=⟨_,rfl⟩;have hpm:=aO.new h.lt hT hU;have hb1:Below w.heap.size w w1:=by rw [hw1];exact aj (aF _ _) _
 rw [<-hw1] at hpm;have CQ:=aD hpm;have HB:=aD hb1;have H:=aD (h.later hb1);have HR:=aD (b_ hm);have HD:=aD (Cj gT (Cj hG hvl));have HL:=aD h.lt;clear h hT hU hm hG hpm hb1;unfold pk pv;go_enter Tryz.func66,Tryz.ntmps66;go_upto_region 1 with fail
 rw [<-hw1];clear hw1;obtain ⟨SS,hSS⟩:∃SS:World->Prop,SS=fun v=>v.cell? ⟨w.heap.size,2,none⟩=some (.string p.nm)/\v.cell? ⟨w.heap.size,3,none⟩=some (.string p.bd)/\v.cell? ⟨w.heap.size,6,none⟩=some (.slice TA p.T.length tc)/\v.cell? ⟨w.heap.size,7,none⟩=some (.slice UA p.U.length uc):=⟨_,rfl⟩;have HS:Hid (∀v Y',aO v Y' w.heap.size p TA tc UA uc->SS v):=aD fun v Y' hv=>by rw [hSS];exact ⟨hv.cells.2.2.1,hv.cells.2.2.2.1,hv.cells.2.2.2.2.2.1,hv.cells.2.2.2.2.2.2⟩
 obtain ⟨wd,hwd⟩:∃wd,wd=w1.drew:=⟨_,rfl⟩;have bM:Hid (Below w1.heap.size w1 wd):=aD (by rw [hwd];exact (aF _ _).drew);have mI:=aD (CQ.out.later bM.out);have vZ:=aD (H.out.later bM.out);have rP:Hid (Fr Y w wd/\ah Y Y w):=aD ⟨Fr.below (au HB.out bM.out),ah.refl _ _⟩;have hsd:SS wd:=HS.out _ _ mI.out;refine aI (S:=SS) [10] (by kernel_rfl) (by rw [<-hwd];exact hsd) (fun hHeld=>?_);rw [<-hwd] at hHeld ⊢;clear hwd;refine aL 0 [1,10] (some 7) rfl rfl ?_;refine aL 1 [10] (some 8) rfl rfl ?_;refine aL 2 [9,10] (some 9) rfl rfl ?_;refine aL 3 [4,7,8,9,10] (some 10) rfl rfl ?_;refine aL 4 [7,8,9,10] (some 11) rfl rfl ?_;refine aL 5 [6,7,8,9,10] (some 12) rfl rfl ?_;refine aL 6 [7,8,9,10] (some 13) rfl rfl ?_;refine aL 7 [8,9,10] (some 14) rfl rfl ?_;refine bB 8 (some 15) (v:=?_) (w':=?_) rfl rfl (by kernel_rfl) (by rfl) ?_ (fun _=>?_) ?_
 rotate_left
 rotate_left
 ·(go_simp;first|with_reducible rfl|(constructor<;>with_reducible rfl))
 ·exact HS.out _ _ (mI.out.later (aj (aF _ _) _))
 refine aC ?_;have HX:=aD (fun r1 (h1:nx (env++[(p.bd,p.T)]) a=some r1)=>p9 P es nx HN env [(p.bd,p.T)] (.ok a) r1 (some ⟨wd.heap.size,0,none⟩) 1 [⟨p.bd,TA,p.T.length,tc⟩] Y (wd.alloc (.cells #[.string p.bd,.slice TA p.T.length tc] 36)) (vZ.out.later (aj (aF _ _) _)) (by rw [Er];exact kJ wd ⟨p.bd,TA,p.T.length,tc⟩) (dX.one (mI.out.T.later (aj (aF _ _) _)) rfl) (by simp) HD.out.2.2 h1);unfold pk at HX;have Ak:Hid (Fr Y w (wd.alloc (.cells #[.string p.bd,.slice TA p.T.length tc] 36))/\aO (wd.alloc (.cells #[.string p.bd,.slice TA p.T.length tc] 36)) Y w.heap.size p TA tc UA uc):=aD ⟨rP.out.1.alloc _,mI.out.later (aj (aF _ _) _)⟩;rcases HR.out with ⟨x,h1,hr⟩|⟨t,b,h1,hr⟩
 ·refine bD 9 (some 16) rfl rfl (by kernel_rfl) (by rfl) (by kernel_rfl) (HX.out _ h1) ?_
  rintro e w2 ⟨Y2,hf2,hy2,hk2,rfl⟩;have lG:=aD (Ak.out.2.fr hf2 hy2);refine ⟨_,rfl,HS.out _ _ lG.out,?_⟩;refine aC ?_;have lH:Hid (Fr Y w w2/\ah Y Y2 w):=aD ⟨Fr.new Ak.out.1 hf2 (ah.refl _ _),ah.trans (ah.refl _ _) hy2 Ak.out.1.size⟩;have mh:=aD (oq TA none tc 0 p.T [] w2 lG.out.T.ty.eY bO.nil (by have:=HD.out.1.len;simp;omega));refine bD 10 (some 17) rfl rfl (by kernel_rfl) (by rfl) (by kernel_rfl) mh.out ?_;rintro e w3 ⟨A3,c3,rfl,hown3,hb3⟩
  have HQ:Hid (aY P es env Y r w (.returned (.slice A3 (aW p.T []).length c3)) w3):=aD (by
   have hf3:=Fr.new lH.out.1 (Fr.below hb3:Fr Y2 w2 w3) lH.out.2;subst hr;exact ⟨Y2,hf3,lH.out.2,hk2.later hb3,_,_,_,rfl⟩)
  have lZ:=aD (lG.out.later hb3);refine ⟨_,rfl,HS.out _ _ lZ.out,?_⟩;refine aC ?_;refine bB 11 (some 6) rfl rfl (by kernel_rfl) (by rfl) (by go_simp;first|with_reducible rfl|(constructor<;>with_reducible rfl)) (zL (by kernel_rfl)) ?_;refine aC ?_;refine bG (by kernel_rfl) ?_ _;clear hf2 hy2 hk2 hHeld hsd h1 hr hown3 hb3;go_wp2_with fail;go_ret;exact HQ.out
 ·refine bD 9 (some 16) rfl rfl (by kernel_rfl) (by rfl) (by kernel_rfl) (HX.out _ h1) ?_
  rintro e w2 ⟨Y2,hf2,hy2,hk2,A2,c2,rfl,ht2⟩;have lG:=aD (Ak.out.2.fr hf2 hy2);refine ⟨_,rfl,HS.out _ _ lG.out,?_⟩;refine aC ?_;have lH:Hid (Fr Y w w2/\ah Y Y2 w):=aD ⟨Fr.new Ak.out.1 hf2 (ah.refl _ _),ah.trans (ah.refl _ _) hy2 Ak.out.1.size⟩;have mh:=aD (oq TA A2 tc c2 p.T t w2 lG.out.T.ty.eY ht2.ty.eY (by have:=HD.out.1.len;have:=(HD.out.2.1 _ _ _ _ h1).len;omega));refine bD 10 (some 17) rfl rfl (by kernel_rfl) (by rfl) (by kernel_rfl) mh.out ?_;rintro e w3 ⟨A3,c3,rfl,hown3,hb3⟩
  have HQ:Hid (aY P es env Y r w (.returned (.slice A3 (aW p.T t).length c3)) w3):=aD (by
   have hf3:=Fr.new lH.out.1 (Fr.below hb3:Fr Y2 w2 w3) lH.out.2;injection hr with hr
   subst hr;exact ⟨Y2,hf3,lH.out.2,hk2.later hb3,A3,c3,rfl,aA.own hown3 hk2.lt⟩)
  have lZ:=aD (lG.out.later hb3);refine ⟨_,rfl,HS.out _ _ lZ.out,?_⟩;refine aC ?_;refine bB 11 (some 6) rfl rfl (by kernel_rfl) (by rfl) (by go_simp;first|with_reducible rfl|(constructor<;>with_reducible rfl)) (zL (by kernel_rfl)) ?_;refine aC ?_;refine bG (by kernel_rfl) ?_ _;clear hf2 hy2 hk2 hHeld hsd h1 hr hown3 hb3 ht2;go_wp2_with fail;go_ret;exact HQ.out
open Go.RowKit Go.Sort
theorem Oa (s:ByteArray):(⟨s.toList.toArray⟩:ByteArray)=s:=by
 rw [ByteArray.toList_eq]
theorem UW (l:List ByteArray):(kZ l).length=l.length:=by
 unfold kZ;rw [Qx,List.length_mergeSort,Qx]
theorem aB.Xv {w:World} {base g cap:Nat} {L:List ByteArray} (h:dN w base (some ⟨g,0,none⟩) cap L) (m:Nat) (os:Array Obj):
  dN (sortWorld encStr w g 0 m ((L.map ByteArray.toList).mergeSort fun x y=>decide (x<=y)).toArray os) base (some ⟨g,0,none⟩) cap (kZ L):=by
 obtain ⟨d,hd⟩:∃d,d=((L.map ByteArray.toList).mergeSort fun x y=>decide (x<=y)):=⟨_,rfl⟩;have hdl:d.length=L.length:=by rw [hd,List.length_mergeSort,Qx]
 have hS:kZ L=d.map fun b=>⟨b.toArray⟩:=by rw [hd];rfl
 rw [<-hd,hS];have hl2:(d.map fun b:List UInt8=>(⟨b.toArray⟩:ByteArray)).length=L.length:=by rw [Qx,hdl]
 have h':w.ownsRow base 9 1 (.slice (some ⟨g,0,none⟩) L.length cap) L.length (L.flatMap uh):=h;show (sortWorld encStr w g 0 m d.toArray os).ownsRow base 9 1 (.slice (some ⟨g,0,none⟩) (d.map fun b:List UInt8=>(⟨b.toArray⟩:ByteArray)).length cap) (d.map fun b:List UInt8=>(⟨b.toArray⟩:ByteArray)).length ((d.map fun b:List UInt8=>(⟨b.toArray⟩:ByteArray)).flatMap uh);rw [hl2];rcases h'.2 with ⟨hv,hn⟩|⟨g',cap',cur,hv,hbg,hg,hnc,hcm,hcs,htake⟩
 ·cases hv
 ·injection hv with hA' hl hc'
  injection hA' with hA'
  injection hA' with hA1
  subst hA1 hc';refine ⟨by rw [jB j6,hl2],.inr ⟨g,cap,_,rfl,hbg,vw encStr w g m d.toArray os hg,hnc,hcm,by simp [Go.Sort.putCells];omega,?_⟩⟩
  have hfm:(d.map fun b:List UInt8=>(⟨b.toArray⟩:ByteArray)).flatMap uh=d.map encStr:=by
   rw [List.flatMap_map];clear hl2 hS hdl hd htake
   induction d with
   |nil=>rfl
   |cons b d ih=>rw [List.flatMap_cons,List.map_cons,ih];rfl
  rw [hfm];apply List.ext_getElem?;intro k;by_cases hk:k<L.length
  ·rw [List.getElem?_take_of_lt (by omega)]
   have hkc:k<cur.size:=by omega
   have hkd:k<d.length:=by omega
   simp only [Go.Sort.putCells,Array.getElem?_toList,Array.getElem?_mapIdx,Array.getElem?_eq_getElem hkc,Option.map_some,TW,bA hkd];rw [if_pos ⟨Nat.zero_le _,by simp;omega⟩,Nat.sub_zero,getElem!_pos d.toArray k (by simpa using hkd)];rfl
  ·rw [Wi (by rw [iW];omega),Wi (by rw [Qx];omega)]
theorem Qz (A:Option Addr) (cap base:Nat) (L:List ByteArray) (w:World) (h:dN w base A cap L) (hl:L.length<=1000000):
  Calls Tryz.prog 123 #[.slice A L.length cap] w fun e w'=>(∃v,e= .returned v)/\dN w' base A cap (kZ L)/\w.grownBy w' ((fq A L.length cap).ownBlock):=by
 by_cases h0:L.length=0
 ·have hL:L=[]:=dz h0
  subst hL;refine (Tryz.slices_Sort_string_none A cap w).mono ?_;rintro e w' ⟨rfl,rfl⟩;exact ⟨⟨_,rfl⟩,by rw [show kZ []=[] by simp [kZ]];exact h,⟨rfl,rfl,rfl,aG _,fun _ _ _=>rfl⟩⟩
 ·obtain ⟨g,rfl,hbg,hgl,_,_⟩:=aB.form h (by omega)
  have hH:Holds encStr w g 0 (L.map ByteArray.toList).toArray:=fun j hj=>by
   simp at hj;have hx:L[j]?=some L[j]:=bA hj;obtain ⟨b,o,e,_,hc⟩:=(aB.read j6 h) (fun e=>by rw [e] at h0;simp at h0);injection e with e
   injection e with e1 e2 _
   subst e1 e2;have h1:=hc j _ hx 0 _ rfl;refine ⟨?_,by rw [Nat.zero_add];exact World.ownsRow.frozenAt h j⟩;rw [show 0+j*1+0=0+j by omega] at h1;rw [h1,getElem!_pos _ j (by simpa using hj)];simp only [List.getElem_toArray,List.getElem_map];show _=some (Value.string ⟨(L[j]).toList.toArray⟩);rw [Oa]
  have H:=Tryz.slices_Sort_string g 0 cap (L.map ByteArray.toList) w hH hgl (by rw [Qx];omega);rw [Qx] at H;refine H.mono ?_;rintro e w' ⟨rfl,n,os,rfl⟩;exact ⟨⟨_,rfl⟩,aB.Xv h n os,pY _ _ _ _ _ _⟩
theorem Xw (A B:Option Addr) (c d ba bb:Nat) (xs ys:List ByteArray) (w:World) (hx:dN w ba A c xs) (hy:dN w bb B d ys) (hl:xs.length<=1000000) (hm:ys.length<=1000000):
  Calls Tryz.prog 125 #[.slice A xs.length c,.slice B ys.length d] w fun e w'=>e= .returned (.bool (decide (xs=ys)))/\Below w.heap.size w w':=by
 by_cases h0:xs.length=0
 ·have hL:xs=[]:=dz h0
  subst hL;refine (Tryz.slices_Equal_string_empty A B c ys.length d w (by omega)).mono ?_;rintro e w' ⟨rfl,rfl⟩;refine ⟨?_,aF _ _⟩
  cases ys<;>simp
 ·by_cases hne:xs.length=ys.length
  ·obtain ⟨g,rfl,_,hgl,_,_⟩:=aB.form hx (by omega)
   obtain ⟨g2,rfl,_,aiq,_,_⟩:=aB.form hy (by omega)
   have cells:∀(g b c2:Nat) (l:List ByteArray),dN w b (some ⟨g,0,none⟩) c2 l->∀j,j<l.length->w.cell? ⟨g,0+j,none⟩=some (.string (l.getD j bZ)):=by
    intro g b c2 l h j hj;have hx:l[j]?=some l[j]:=bA hj;obtain ⟨b,o,e,_,hc⟩:=(aB.read j6 h) (fun e=>by rw [e] at hj;simp at hj);injection e with e
    injection e with e1 e2 _
    subst e1 e2;have h1:=hc j _ hx 0 _ rfl;rw [show 0+j*1+0=0+j by omega] at h1;rw [h1,List.getD_eq_getElem?_getD,hx];rfl
   refine (Tryz.slices_Equal_string g 0 xs.length c g2 0 ys.length d xs ys w (aG _) (aG _) (by omega) (by omega) (cells g ba c xs hx) (cells g2 bb d ys hy)).mono ?_;rintro e w' ⟨rfl,q,rfl⟩;rw [pq,pq];exact ⟨rfl,below_drewN (aF _ _) _⟩
  ·refine (Tryz.slices_Equal_string_lens A B xs.length c ys.length d w hne).mono ?_
   rintro e w' ⟨rfl,rfl⟩;have:¬xs=ys:=fun h=>hne (by rw [h]);exact ⟨by rw [decide_eq_false this],aF _ _⟩
theorem mF.tail {w:World} {B b o:Nat} {x:Int} {xs:List Int} (h:mF w B (some ⟨b,o,none⟩) (x::xs)):mF w B (some ⟨b,o+1,none⟩) xs:=by
 intro hne;obtain ⟨b',o',e,hb,hc⟩:=h (by simp);injection e with e
 injection e with e1 e2
 subst e1 e2;refine ⟨b,o+1,rfl,hb,fun i y hy j u hu=>?_⟩;have:=hc (i+1) y (by simpa using hy) j u hu;rw [show o+1+i*1+j=o+(i+1)*1+j by omega];exact this
theorem mF.cut {w:World} {B b o c:Nat} {x:Int} {xs:List Int} (h:mF w B (some ⟨b,o,none⟩) (x::xs)) (hc:(x::xs).length<=c):mF w B (if c=1 then some ⟨b,o,none⟩ else some ⟨b,o+1,none⟩) xs:=by
 by_cases e:c=1
 ·rw [if_pos e]
  have:xs=[]:=dz (by simp at hc;omega);rw [this];exact fun hne=>absurd rfl hne
 ·rw [if_neg e]
  exact h.tail
theorem QB {t:List Nd} {l:List ByteArray} (g:Gd t) (h:kI t=some l):l.length<=50:=by
 rcases t with _|⟨x,xt⟩
 ·exact absurd g.fo.pos (by simp)
 unfold kI at h;split at h
 ·injection h with h
  rw [<-h];simp
 ·split at h
  ·injection h with h
   rw [<-h,Qx];show (dM (manyN x) xt).length<=50;rw [xM];exact rW (g.ok x (by simp))
  ·cases h
theorem QC (P:Nat) (es:List Pt) (env:Env) (a:Nat) (A:Option Addr) (c:Nat) (t:List Nd) (aK:Nat) (bb:Bool) (Y:Nat->Prop) (w:World) (hes:dZ es) (h:aM P es env (.ok a) Y w) (ht:aA w Y A c t) (g:Gd t) (hm:kQ es t aK=some bb):
  Calls Tryz.prog 102 #[pk P,.slice A t.length c,.int .i64 aK] w (Ag P es env Y (CK bb aK 9 (.ok a)) w):=by
 unfold kQ at hm;split at hm
 ·cases hm
 rename_i p hp;split at hm
 ·cases hm
 ·cases hm
 rename_i l0 l hk
 obtain ⟨x,xt,rfl⟩:∃x xt,t=x::xt:=by
  cases t with
  |nil=>exact absurd g.fo.pos (by simp)
  |cons x xt=>exact ⟨x,xt,rfl⟩
 obtain ⟨tb,Ob,rfl,htb,ct,_,_⟩:=ht.ty.eY.at_ (i:=0) (x:=x) rfl;rw [show Ob+0*3=Ob by omega] at ct;obtain ⟨a',p',e',⟨EA,ec,zA,zB,bs,hmk⟩,ha,hpp,he⟩:=h;have h:aM P es env (.ok a) Y w:=⟨a',p',e',⟨EA,ec,zA,zB,bs,hmk⟩,ha,hpp,he⟩;obtain ⟨c0,_,_,_,_⟩:=hmk.cells;have hkl:=Ae _ _ _ hk;have Hk:=aD (NW Y EA ec es aK p _ w hmk.ex hmk.el hes hp hk);obtain ⟨M,hM⟩:∃M,M=aP p:=⟨_,rfl⟩;have vB:=p8 (hes p (Ox hp)).2;rw [<-hM] at Hk hkl vB;have UH:M=l.length+1:=by rw [<-hkl.1];rfl
 have HW:=aD (Cj h (Cj ht g));have HX:=aD (Cj hmk.ex hm);have HL:=aD hkl;have hP:P<w.heap.size:=h.lt P ((hmk.y P).2 (.inl rfl));clear hM hk hp hkl hm hmk ha hpp he h ht g;obtain ⟨n,hn⟩:∃n,n=l.length:=⟨_,rfl⟩;have Hn:=aD hn;rw [<-hn] at UH;subst UH;clear hn;simp only [mX];unfold pk;go_enter Tryz.func102,Tryz.ntmps102;go_wp2_with fail;refine Hk.out.mono ?_;rintro e w2 ⟨A2,cap2,rfl,hown2,hb2⟩;have hcap:=aB.l7 hown2;rw [nK,mX,<-Hn.out] at hcap;obtain ⟨g2,rfl,_,hg2,_,_⟩:=aB.form hown2 (by rw [nK];simp);have HR2:Hid (mF w2 w2.heap.size (if cap2=1 then some ⟨g2,0,none⟩ else some ⟨g2,0+1,none⟩) (dw l)):=aD (mF.cut (aB.read eP hown2) (by show (dw l).length+1<=cap2;rw [nK,<-Hn.out];exact hcap));have HB2:=aD hb2;have c02:=(hb2.cell (p:=⟨P,0,none⟩) hP).trans c0;have ct2:=(hb2.cell (p:=⟨tb,Ob,none⟩) htb).trans ct;clear hown2 hb2 c0 ct hg2;apply share
 case h=>
  intro HT;by_cases hc1:cap2=1
  ·have HR3:Hid (mF w2 w2.heap.size (some ⟨g2,0,none⟩) (dw l)):=aD (by have:=HR2.out;rwa [if_pos hc1] at this)
   go_upto_region 2 with fail
   obtain ⟨v16,Oc⟩:∃v16,v16=fq (some ⟨g2,0,none⟩) (n+1) 1:=⟨_,rfl⟩;rw [<-Oc];obtain ⟨Ey,c17,hA,hv⟩:∃(Ey:Option Addr) (c17:Nat),Ey=some ⟨g2,0,none⟩/\fq Ey n c17=fq (some ⟨g2,0,none⟩) n 0:=⟨_,_,rfl,rfl⟩;rw [<-hv];have HR4:Hid (mF w2 w2.heap.size Ey (dw l)):=aD (by rw [hA];exact HR3.out);clear hv hA Oc HR3;revert HR4;revert v16 Ey c17;exact HT.out
  ·have HR3:Hid (mF w2 w2.heap.size (some ⟨g2,1,none⟩) (dw l)):=aD (by have:=HR2.out;rwa [if_neg hc1] at this)
   go_upto_region 2 with fail
   obtain ⟨v16,Oc⟩:∃v16,v16=fq (some ⟨g2,0,none⟩) (n+1) cap2:=⟨_,rfl⟩;rw [<-Oc];obtain ⟨Ey,c17,hA,hv⟩:∃(Ey:Option Addr) (c17:Nat),Ey=some ⟨g2,1,none⟩/\fq Ey n c17=fq (some ⟨g2,1,none⟩) n (cap2-1):=⟨_,_,rfl,rfl⟩;rw [<-hv];have HR4:Hid (mF w2 w2.heap.size Ey (dw l)):=aD (by rw [hA];exact HR3.out);clear hv hA Oc HR3;revert HR4;revert v16 Ey c17;exact HT.out
 case t=>
  intro v16 Ey c17 HR4;clear Hk HR2;have anE:n<=50:=by omega
  obtain ⟨lb,hlb⟩:∃lb:List ByteArray,lb=l.map fun i=>((es[i]?).getD default).lb:=⟨_,rfl⟩;have Od:Hid (lb.length=n/\lb=l.map fun i=>((es[i]?).getD default).lb):=aD ⟨by rw [hlb,Qx,Hn.out],hlb⟩;have HT3:Hid (∀i∈l,i<es.length):=aD fun i hi=>HL.out.2 i (List.mem_cons_of_mem _ hi);clear hlb;go_loopw [6,19] (fun s6 s19 wr=>∃(k:Nat) (LA:Option Addr) (lc:Nat),k<=n/\s6= .slice LA k lc/\s19= .int .i64 k/\Hid (dN wr w2.heap.size LA lc (lb.take k)/\Below w2.heap.size w2 wr)) (fun _ s19 _=>n-(Lib.intOf s19).toNat)
  case atStart=>exact ⟨0,none,0,Nat.zero_le _,rfl,rfl,aD ⟨aB.nil,aF _ _⟩⟩
  case round=>
   obtain ⟨k,LA,lc,hk,rfl,rfl,HI⟩:=hrel;have c0r:=(HI.out.2.cell (p:=⟨P,0,none⟩) (World.block_lt_of_cell? _ _ c02)).trans c02;by_cases hlt:k<n
   ·obtain ⟨i,hi⟩:=aN (l:=l) (i:=k) (by rw [<-Hn.out];exact hlt)
    have hil:=HT3.out i (Ox hi);obtain ⟨y,hy⟩:=aN hil
    have hLk:lb[k]?=some y.lb:=by
     rw [Od.out.2,TW,hi];show some ((es[i]?).getD default).lb=_;rw [hy];rfl
    obtain ⟨qb,qo,rfl,hqb,hqc⟩:=bf.int (bf.below HR4.out HI.out.2) (sw hi);have abR:=(HX.out.1.fr (Fr.below HB2.out:Fr Y w w2) fun q hq=>.inl hq).fr (Fr.below HI.out.2:Fr Y w2 wr) fun q hq=>.inl hq;obtain ⟨eb,eo,rfl,oG,_,⟨_,_,_,_,_,_,_,hel,_⟩,_⟩:=abR i y hy;have HC:=aD (Cj hLk hlt);have htl:(lb.take k).length=k:=by rw [iW,Od.out.1];omega
    have I6:=aD htl;clear hi hy hLk htl abR;go_wp2_with (at_builtin;refine mU rfl (.tmp 23) (.tmp 32) rfl w2.heap.size (m:=k) (n:=1) I6.out rfl (aB.alloc HI.out.1 _) (l2:=[y.lb]) rfl rfl (mJ _ _) (by omega) (by have:=HI.out.2.size;simp;omega) ?_;intro A5 c5 w5 hown5 hg5 _)
    have vg:Hid (dN w5 w2.heap.size A5 c5 (lb.take (k+1))/\Below w2.heap.size w2 w5):=aD (by
     refine ⟨?_,jw (aj HI.out.2 _) hg5 fun q hq=>(aB.block HI.out.1 q hq).1⟩;rw [List.take_add_one,HC.out.1];exact hown5)
    clear hown5 hg5;go_wp2_with fail;go_roundw
    case rel=>exact ⟨k+1,A5,c5,HC.out.2,by go_num,by go_num,vg⟩
    case measure=>simp [Lib.intOf];omega
   ·have hkn:k=n:=by omega
    have HQ:Hid (dN wr w2.heap.size LA lc lb/\Below w2.heap.size w2 wr/\lb.length=k):=aD (by
     refine ⟨?_,HI.out.2,by rw [Od.out.1,hkn]⟩;have:=HI.out.1
     rwa [List.take_of_length_le (by rw [Od.out.1];omega)] at this)
    have HS:=Qz LA lc w2.heap.size lb wr HQ.out.1 (by rw [Od.out.1];omega);rw [HQ.out.2.2] at HS;have HS:=aD HS;clear hkn c0r;go_wp2_with fail;refine HS.out.mono ?_;rintro e w3 ⟨⟨v3,rfl⟩,hown3,hg3⟩;have H3:Hid (dN w3 w2.heap.size LA lc (kZ lb)/\Below w.heap.size w w3):=aD ⟨hown3,au HB2.out (jw HQ.out.2.1 hg3 fun q hq=>(aB.block HQ.out.1 q (by rw [HQ.out.2.2];exact hq)).1)⟩;have ct3:=(H3.out.2.cell (p:=⟨tb,Ob,none⟩) htb).trans ((HB2.out.cell (p:=⟨tb,Ob,none⟩) htb).symm.trans ct2);have Xx:=aD (UC (some ⟨tb,Ob,none⟩) c (x::xt) w3 (HW.out.2.1.later H3.out.2).ty.eY HW.out.2.2 HW.out.2.1.cap);clear hown3 hg3;go_wp2_with fail;refine Xx.out.mono ?_;rintro e w4 ⟨hb4,h4⟩;have nY:=aD (au H3.out.2 hb4);have ct4:=(nY.out.cell (p:=⟨tb,Ob,none⟩) htb).trans ((HB2.out.cell (p:=⟨tb,Ob,none⟩) htb).symm.trans ct2);have mh:=aD HX.out.2
    cases Ez:kI (x::xt) with
    |none=>
     rw [Ez] at h4;subst h4;have Xy:Hid (bb=false):=aD (by have:=mh.out;rw [Ez] at this;injection this with this;exact this.symm);have Oe:=nY;clear Ez hb4 ct3;have FW:=aD (jl P es env (.ok a) false aK 9 Y w4 (.inl (by decide)) (HW.out.1.later Oe.out));unfold pk at FW;go_wp2_with fail;refine FW.out.mono ?_;rintro e w5 ⟨⟨v5,rfl⟩,tJ,hk5⟩
     have HP:Hid (Ag P es env Y (CK bb aK 9 (.ok a)) w (.returned v5) w5):=aD (by
      rw [Xy.out];exact ⟨⟨_,rfl⟩,(Fr.below Oe.out).trans tJ,hk5⟩)
     clear tJ hk5;go_wp2_with fail;go_end0
     exact ⟨⟨_,rfl⟩,HP.out.2⟩
    |some tags=>
     rw [Ez] at h4;obtain ⟨A6,c6,rfl,hown6⟩:=h4;have HO6:=aD hown6;have IW:(kZ lb).length=k:=by rw [UW];exact HQ.out.2.2
     have sN:Hid (dN w4 w2.heap.size LA lc (kZ lb)):=aD (H3.out.1.below hb4 (aG _))
     have iP:Hid (bb=(decide (x.k=0)||decide (tags=kZ lb))):=aD (by
      have:=mh.out;rw [Ez] at this;injection this with this
      rw [Od.out.2];exact this.symm)
     have anF:=QB HW.out.2.2 Ez;clear Ez hb4 ct3 hown6;by_cases h0:x.k=0
     ·have b0:(x.k==0)=true:=by simp [h0]
      have Xy:Hid (bb=true):=aD (by rw [iP.out];simp [h0]);have Oe:=nY;clear h0 IW;have FW:=aD (jl P es env (.ok a) true aK 9 Y w4 (.inl (by decide)) (HW.out.1.later Oe.out));unfold pk at FW;go_wp2_with fail;refine FW.out.mono ?_;rintro e w5 ⟨⟨v5,rfl⟩,tJ,hk5⟩
      have HP:Hid (Ag P es env Y (CK bb aK 9 (.ok a)) w (.returned v5) w5):=aD (by
       rw [Xy.out];exact ⟨⟨_,rfl⟩,(Fr.below Oe.out).trans tJ,hk5⟩)
      clear tJ hk5;go_wp2_with fail;go_end0;exact ⟨⟨_,rfl⟩,HP.out.2⟩
     ·have b0:(x.k==0)=false:=by simp [h0]
      have HEq:=Xw A6 LA c6 lc w3.heap.size w2.heap.size tags (kZ lb) w4 HO6.out sN.out (by omega) (by rw [IW];omega);rw [IW] at HEq;have HEq:=aD HEq;obtain ⟨bq,hbq⟩:∃bq,bq=decide (tags=kZ lb):=⟨_,rfl⟩;have Xy:Hid (bb=bq):=aD (by rw [iP.out,hbq];simp [h0]);rw [<-hbq] at HEq;clear h0 IW hbq;go_wp2_with fail;refine HEq.out.mono ?_;rintro e w4b ⟨rfl,hb5⟩;have Oe:=aD (au nY.out hb5);clear hb5 ct4;have FW:=aD (jl P es env (.ok a) bq aK 9 Y w4b (.inl (by decide)) (HW.out.1.later Oe.out));unfold pk at FW;go_wp2_with fail;refine FW.out.mono ?_;rintro e w5 ⟨⟨v5,rfl⟩,tJ,hk5⟩
      have HP:Hid (Ag P es env Y (CK bb aK 9 (.ok a)) w (.returned v5) w5):=aD (by
       rw [Xy.out];exact ⟨⟨_,rfl⟩,(Fr.below Oe.out).trans tJ,hk5⟩)
      clear tJ hk5;go_wp2_with fail;go_end0;exact ⟨⟨_,rfl⟩,HP.out.2⟩
def Shows (Q:Prop) (w:World) (e:Ending) (w':World):Prop:=∃b:Bool,e= .returned (.bool b)/\(b=true->Q)/\Below w.heap.size w w'
theorem Shows.no {Q:Prop} {w w':World} (h:Below w.heap.size w w'):Shows Q w (.returned (.bool false)) w':=⟨false,rfl,(fun h2=>nomatch h2),h⟩
theorem Shows.yes {Q:Prop} {w w':World} {b:Bool} (q:b=true->Q) (h:Below w.heap.size w w'):Shows Q w (.returned (.bool b)) w':=⟨b,rfl,q,h⟩
theorem Bq (A:Option Addr) (c:Nat) (xs:List Nd) (w:World) (ha:bO w w.heap.size A xs) (hl:xs.length<=1000000) (hs:∀x∈xs,x.s.size<=1000000):
  Calls Tryz.prog 59 #[.slice A xs.length c] w (Shows (gY xs=true/\oK xs=true) w):=by
 have HR:=aD (DI A c xs w ha (by omega) fun x hx=>by have:=hs x hx;omega);have HP:=aD (fun v (hv:Below w.heap.size w v)=>Dz A c v.heap.size xs v ((ha.below hv).more hv.size) (by omega));clear ha hl hs;go_enter Tryz.func59,Tryz.ntmps59;go_wp2_with fail;refine HR.out.mono ?_;rintro e w1 ⟨rfl,hb⟩
 cases hr:gY xs
 ·go_wp2_with fail
  go_ret;exact Shows.no hb
 ·go_wp2_with fail
  refine (HP.out _ hb).mono ?_;rintro e w2 ⟨rfl,rfl⟩;go_wp2_with fail;go_ret;exact Shows.yes (fun h=>⟨hr,h⟩) hb
theorem Og (s:ByteArray) (w:World) (hs:s.size<=1000000):
  Calls Tryz.prog 61 #[.string s] w (Shows True w):=by
 go_enter Tryz.func61,Tryz.ntmps61;go_wp2_with fail;go_loopw [3] (fun i3 wr=>∃k:Nat,i3= .int .i64 k/\k<=s.size/\wr=w) (fun i3 _=>s.size-(Lib.intOf i3).toNat)
 case atStart=>exact ⟨0,rfl,by omega,rfl⟩
 case round=>
  obtain ⟨k,rfl,hk,rfl⟩:=hrel;by_cases hlt:k<s.size
  ·cases h33:((((s[k]'hlt).toNat:Nat):Int)==33)
   rotate_left
   ·go_wp2_with fail
    refine (gX _ _ ?_).mono ?_
    ·rw [ByteArray.size_extract];omega
    rintro e w2 ⟨rfl,rfl⟩
    cases hw:nX (s.extract 0 k)
    ·go_wp2_with fail
     go_ret;exact Shows.no (aF _ _)
    ·go_wp2_with fail
     refine (gX _ _ ?_).mono ?_
     ·rw [ByteArray.size_extract];omega
     rintro e w2 ⟨rfl,rfl⟩;go_wp2_with fail;go_ret;exact Shows.yes (fun _=>trivial) (aF _ _)
   ·go_wp2_with fail
    go_roundw
    case rel=>exact ⟨k+1,by go_num,by omega,trivial⟩
    case measure=>simp [Lib.intOf];omega
  ·go_wp2_with fail
   refine (gX _ _ (by omega)).mono ?_;rintro e w2 ⟨rfl,rfl⟩;go_wp2_with fail;go_ret;exact Shows.yes (fun _=>trivial) (aF _ _)
theorem UY (s:ByteArray) (w:World):
  Calls Tryz.prog 62 #[.string s] w (Shows True w):=by
 go_enter Tryz.func62,Tryz.ntmps62;go_upto_region 2 with fail
 obtain ⟨w1,hw1⟩:∃w1,w1=w.alloc (.cells #[.string ⟨#[43]⟩,.string ⟨#[45]⟩,.string ⟨#[42]⟩,.string ⟨#[47]⟩,.string ⟨#[60]⟩,.string ⟨#[61,61]⟩,.string ⟨#[38,38]⟩,.string ⟨#[124,124]⟩,.string ⟨#[43,43]⟩] 9):=⟨_,rfl⟩;have hb1:Below w.heap.size w w1:=by rw [hw1];exact aj (aF _ _) _
 have hbl:w1.heap[w.heap.size]?=some (.cells #[.string ⟨#[43]⟩,.string ⟨#[45]⟩,.string ⟨#[42]⟩,.string ⟨#[47]⟩,.string ⟨#[60]⟩,.string ⟨#[61,61]⟩,.string ⟨#[38,38]⟩,.string ⟨#[124,124]⟩,.string ⟨#[43,43]⟩] 9 (0,0)):=by rw [hw1];exact heap_alloc_new _ _
 rw [<-hw1];clear hw1
 have HC:Hid (∀k:Nat,k<9->∃t,w1.cell? ⟨w.heap.size,k,none⟩=some (.string t)):=aD fun k hk=>by
  simp only [Ck,hbl]
  match k,hk with
  |0,_|1,_|2,_|3,_|4,_|5,_|6,_|7,_|8,_=>exact ⟨_,rfl⟩
 have HB:=aD hb1;clear hb1 hbl;obtain ⟨g,hg⟩:∃g,g=w.heap.size:=⟨_,rfl⟩;rw [<-hg] at HC ⊢;clear hg;go_wp2_with fail;go_loopw [4] (fun i4 wr=>∃k:Nat,i4= .int .i64 k/\k<=9/\wr=w1) (fun i4 _=>9-(Lib.intOf i4).toNat)
 case atStart=>exact ⟨0,rfl,by omega,rfl⟩
 case round=>
  obtain ⟨k,rfl,hk,rfl⟩:=hrel;by_cases hlt:k<9
  ·obtain ⟨t,ht⟩:=HC.out k hlt
   have aiu:(k:Int)<9:=by omega
   cases hq:(t.toList==s.toList)
   ·go_wp2_with fail
    go_roundw
    case rel=>exact ⟨k+1,by go_num,by omega,trivial⟩
    case measure=>simp [Lib.intOf];omega
   ·go_wp2_with fail
    go_ret;exact Shows.yes (fun _=>trivial) HB.out
  ·have aiu:¬(k:Int)<9:=by omega
   go_wp2_with fail;go_ret;exact Shows.no HB.out
theorem I7 (p:Pt) (TA:Option Addr) (tn tc:Nat) (UA:Option Addr) (un uc:Nat) (w:World) (hT:bO w w.heap.size TA p.T) (htn:Hid (tn=p.T.length)):
  Calls Tryz.prog 60 #[xQ p TA tn tc UA un uc] w (Shows (∃k,1<=k/\k<=4/\p.T=[⟨k,bZ,0⟩]) w):=by
 by_cases h1:tn=1
 ·obtain ⟨x,hx⟩:∃x,p.T=[x]:=by
   have:=htn.out;rw [h1] at this;exact List.length_eq_one_iff.1 this.symm
  subst h1;obtain ⟨b,o,rfl,hb,c0,c1,c2⟩:=hT.at_ (i:=0) (x:=x) (by rw [hx];rfl);simp only [Nat.zero_mul,Nat.add_zero] at c0 c1 c2;have HX:=aD hx;obtain ⟨w1,hw1⟩:∃w1,w1=w.alloc (.cells #[.int .i64 p.k,.string p.lb,.string p.nm,.string p.bd,.int .i64 p.mn,.int .i64 p.num,.slice (some ⟨b,o,none⟩) 1 tc,.slice UA un uc] 33):=⟨_,rfl⟩;have hb1:Below w.heap.size w w1:=by rw [hw1];exact aj (aF _ _) _
  have hbl:w1.heap[w.heap.size]?=some (.cells #[.int .i64 p.k,.string p.lb,.string p.nm,.string p.bd,.int .i64 p.mn,.int .i64 p.num,.slice (some ⟨b,o,none⟩) 1 tc,.slice UA un uc] 33 (0,0)):=by rw [hw1];exact heap_alloc_new _ _
  have d2:w1.cell? ⟨w.heap.size,2,none⟩=some (.string p.nm):=by simp [Ck,hbl]
  have d5:w1.cell? ⟨w.heap.size,5,none⟩=some (.int .i64 p.num):=by simp [Ck,hbl]
  have d6:w1.cell? ⟨w.heap.size,6,none⟩=some (.slice (some ⟨b,o,none⟩) 1 tc):=by simp [Ck,hbl]
  have e0:w1.cell? ⟨b,o,none⟩=some (.int .i64 x.k):=(hb1.cell (p:=⟨b,o,none⟩) hb).trans c0;have e1:w1.cell? ⟨b,o+1,none⟩=some (.string x.s):=(hb1.cell (p:=⟨b,o+1,none⟩) hb).trans c1;have e2:w1.cell? ⟨b,o+2,none⟩=some (.int .i64 x.n):=(hb1.cell (p:=⟨b,o+2,none⟩) hb).trans c2;have HB:=aD hb1;clear hT htn hx c0 c1 c2 hb1 hbl hb;unfold xQ;go_enter Tryz.func60,Tryz.ntmps60;go_upto_region 1 with fail
  rw [<-hw1];clear hw1;obtain ⟨g,hg⟩:∃g,g=w.heap.size:=⟨_,rfl⟩;rw [<-hg] at d2 d5 d6 ⊢;clear hg
  cases he:x.s.toList.isEmpty
  ·go_wp2_with fail
   go_ret;exact Shows.no HB.out
  cases hn:(x.n !=0)
  rotate_left
  ·go_wp2_with fail
   go_ret;exact Shows.no HB.out
  cases h3:decide (p.num<0)
  rotate_left
  ·go_wp2_with fail
   go_ret;exact Shows.no HB.out
  cases h4:decide (999999999999999999<p.num)
  rotate_left
  ·go_wp2_with fail
   go_ret;exact Shows.no HB.out
  have HQ:Hid (∀k:Int,x.k=k->1<=k->k<=4->∃k,1<=k/\k<=4/\p.T=[⟨k,bZ,0⟩]):=aD fun k hk h1 h2=>by
   refine ⟨k,h1,h2,?_⟩;have hs:x.s=bZ:=ByteArray.size_eq_zero_iff.1 (by rw [gq] at he;simpa using he);have hn0:x.n=0:=by simpa using hn
   rw [HX.out,<-hk,<-hs,<-hn0]
  go_upto_region 3 with fail
  cases k1:(x.k==1)
  rotate_left
  ·go_wp2_with fail
   go_ret;exact Shows.yes (fun _=>HQ.out 1 (by simpa using k1) (by omega) (by omega)) HB.out
  cases k2:(x.k==2)
  rotate_left
  ·cases hm:p.nm.toList.isEmpty
   all_goals
    go_wp2_with fail;go_ret;exact Shows.yes (fun _=>HQ.out 2 (by simpa using k2) (by omega) (by omega)) HB.out
  cases k3:(x.k==3)
  rotate_left
  ·go_wp2_with fail
   go_ret;exact Shows.yes (fun _=>HQ.out 3 (by simpa using k3) (by omega) (by omega)) HB.out
  cases k4:(x.k==4)
  rotate_left
  ·cases hm:p.nm.toList.isEmpty
   all_goals
    go_wp2_with fail;go_ret;exact Shows.yes (fun _=>HQ.out 4 (by simpa using k4) (by omega) (by omega)) HB.out
  go_wp2_with fail;go_ret;exact Shows.no HB.out
 ·unfold xQ
  have h1b:((tn:Int) !=1)=true:=by simp;omega
  clear h1;go_enter Tryz.func60,Tryz.ntmps60;go_wp2_with fail;go_ret;exact Shows.no (aj (aF _ _) _)
open Go Go.RowKit
section
variable {P:Program} {ops:Array Oper} {Q:Exit->Act->World->Prop} {md:Region.Mode} {S:World->Prop} {Z:List Nat}
theorem oC (i j:Nat) {fuel:Nat} {listed:Array Bool} {a:Act} {w:World} {oi oj:Oper} (hr:Region.ready md ops listed=[i,j]) (hi:ops[i]?=some oi) (hj:ops[j]?=some oj) (hwi:Region.wanted oi (yielded ops a.tmps)=true) (Oh:Region.wanted oj (yielded ops a.tmps)=true)
  (h1:oi.wp P a w (fun a' w'=>((∀z∈Z,(listed.setIfInBounds i true).getD z true=false)->S w')/\wpAnyL P md ops Q S Z fuel (listed.setIfInBounds i true) a' w') Q)
  (h2:oj.wp P a w (fun a' w'=>((∀z∈Z,(listed.setIfInBounds j true).getD z true=false)->S w')/\wpAnyL P md ops Q S Z fuel (listed.setIfInBounds j true) a' w') Q):wpAnyL P md ops Q S Z (fuel+1) listed a w:=by
 refine xJ hr (by simp) fun m hm=>?_;simp only [List.mem_cons,List.not_mem_nil,or_false] at hm;rcases hm with rfl|rfl
 ·unfold wpOp
  rw [hi];simp only [hwi,if_true];exact .inl h1
 ·unfold wpOp
  rw [hj];simp only [Oh,if_true];exact .inl h2
theorem oQ (d:Option Tmp) {a:Act} {w:World} {oi:Oper} {K:Act->World->Prop} {f:FuncId} {args:Array Value} {post:Ending->World->Prop} (hd:oi.dst=d) (hop:(execOp a.eval oi).run P w= .ok (.enter f args) w) (hc:Calls P f args w post)
  (h:∀e w',post e w'->∃u,e= .returned u/\K (a.put d u) w'):oi.wp P a w K Q:=by
 subst hd;unfold Oper.wp;rw [hop];simp only [Oper.upon];refine hc.mono fun e w' he=>?_;obtain ⟨u,rfl,h1⟩:=h e w' he;exact h1
theorem eZ (d:Option Tmp) {a:Act} {w w':World} {oi:Oper} {K:Act->World->Prop} {v:Value} (hd:oi.dst=d) (hop:(execOp a.eval oi).run P w= .ok (.value v) w') (h:K (a.put d v) w'):oi.wp P a w K Q:=by
 subst hd;unfold Oper.wp;rw [hop];exact h
end
end Go.Proofs.YtmjdhfbnmmdjiaaGreat
