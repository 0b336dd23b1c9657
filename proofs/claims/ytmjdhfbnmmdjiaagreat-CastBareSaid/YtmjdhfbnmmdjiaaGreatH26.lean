/- Laid together by a tool from the texts of this seat: CxIf CsR CsU CsV. Conditions: each theorem's own. -/
import Derived.Test.YtmjdhfbnmmdjiaaGreatH22
import Derived.Test.YtmjdhfbnmmdjiaaGreatH23
import Derived.Test.YtmjdhfbnmmdjiaaGreatH16
import Derived.Test.YtmjdhfbnmmdjiaaGreatH10
import Derived.Test.YtmjdhfbnmmdjiaaGreatH18
set_option maxHeartbeats 8000000
set_option maxRecDepth 100000
namespace Go.Proofs.YtmjdhfbnmmdjiaaGreat
open Go.Lib renaming hid->aB
open Go.Value renaming slice->gq,ownBlock->gQ
open Go.World renaming cell?->DI,size_alloc->FT
open Go.RowKit.Below renaming refl->aI
open _root_.Nat renaming le_trans->vV,le_refl->aK
open _root_.List renaming length_map->OX,length_append->lS,mem_cons->qm,not_mem_nil->aaC,flatMap_cons->iW,getElem?_map->Tz,mem_map->aaw,mem_of_getElem?->O8
open _root_.And renaming intro->DF
open Go.Region renaming wanted->sH
open _root_.Option renaming map_eq_some_iff->aaE
open Go.RowKit
theorem Xx (P:Nat) (es:List Pt) (nx:kW) (HN:Hid (lJ P es nx)) (env:Env) (a:Nat) (p:Pt) (r:eF) (Y:Nat->Prop) (w:World) (h:iV P es env a Y w) (hp:es[a]?=some p) (hk:p.k=6) (hal:a<=1000000) (hG:∀env a x t b,nx env a=some (x,t,b)->qQ x t) (hm:Eh nx env p (a+1)=some r):
  Calls Tryz.prog 53 #[pk P] w (bU P es env Y r w):=by
 have jW:=aB (DF hm hp);have pR:=aB hk;refine (iR P es env a p r Y w).2 h hp hal ?_;clear h hp hal hm hk;intro eb eo ec TA tc UA uc R B G w4 H4;dsimp only [iR];intro K1 hK1 K2 hK2;obtain ⟨k0,k1,k2,k3,k4,k6,k7⟩:=H4.out.pt.cells;have jr:w4.cell? ⟨B,0,none⟩=some (.int .i64 6):=by rw [k0,pR.out]
 clear k0;obtain ⟨x,t,b,h1,hr⟩:=bD jW.out.1;obtain ⟨y,u,c,h2,hr⟩:=bD hr;obtain ⟨z,vv,d,h3,hr⟩:=bD hr
 obtain ⟨m,hmt,hml,hr2⟩:∃m,bT 0 u [vv]=some (.ok m)/\m.length<=5000000/\(p::(toM x t (aH 2)++(toM y u m++toM z vv m)),m,d)=r:=by
  try dsimp only at hr
  cases hq:bT 0 u [vv] with
  |none=>rw [hq] at hr;cases hr
  |some e=>
   rw [hq] at hr
   match e,hq with
   | .error e,_=>cases hr
   | .ok m,hq=>
    dsimp only at hr;by_cases hl:m.length<=5000000
    ·rw [if_pos hl] at hr
     injection hr with hr
     exact ⟨m,rfl,hl,hr⟩
    ·rw [if_neg hl] at hr
     cases hr
 subst hr2;clear hr;have vP:=aB h1;have Nj:=aB h2;have HH3:=aB h3;have wN:=aB (hG _ _ _ _ _ h1);have Df:=aB (hG _ _ _ _ _ h2);have Ej:=aB (hG _ _ _ _ _ h3);have Iw:=aB (DF hmt (DF hml (mJ (BP _ _ _ Df.out.gd hmt))));clear h1 h2 h3 hmt hml jW;have HX:=aB (HN.out env (a+1) (x,t,b) Y w4 vP.out H4.out.wk);unfold pk at HX;go_wp2_with fail;refine HX.out.mono ?_;rintro e w5 ⟨Y5,hf,hy,hkk,A5,c5,T5,d5,rfl,hx,ht,hA⟩;clear HX;have H5:=aB (H4.out.step hf hy hkk);have vR:Hid (bN w5 Y5 A5 c5 x):=aB hx;have vS:Hid (aF w5 Y5 T5 d5 t):=aB ht;have VA5:Hid (∀a,A5=some a->w.heap.size<=a.block):=aB fun a ha=>vV H4.out.fr.size (hA a ha);clear hf hy hkk hx ht hA
 try clear k0 k1 k2 k3 k4 k6 k7
 try clear jr
 try clear k1 k2 k3 k4 k6 k7
 obtain ⟨k0,k1,k2,k3,k4,k6,k7⟩:=H5.out.pt.cells;have HX:=aB (HN.out env b (y,u,c) Y5 w5 Nj.out H5.out.wk);unfold pk at HX;go_wp2_with fail;refine HX.out.mono ?_;rintro e w6 ⟨Y6,hf,hy,hkk,A6,c6,T6,d6,rfl,hx,ht,hA⟩;clear HX;have H6:=aB (H5.out.step hf hy hkk);replace vR:=aB (vR.out.fr hf hy);replace vS:=aB (vS.out.fr hf hy);have zA:Hid (bN w6 Y6 A6 c6 y):=aB hx;have zB:Hid (aF w6 Y6 T6 d6 u):=aB ht;have VA6:Hid (∀a,A6=some a->w.heap.size<=a.block):=aB fun a ha=>vV H5.out.fr.size (hA a ha);clear hf hy hkk hx ht hA
 try clear k0 k1 k2 k3 k4 k6 k7
 try clear jr
 try clear k1 k2 k3 k4 k6 k7
 obtain ⟨k0,k1,k2,k3,k4,k6,k7⟩:=H6.out.pt.cells;have HX:=aB (HN.out env c (z,vv,d) Y6 w6 HH3.out H6.out.wk);unfold pk at HX;go_wp2_with fail;refine HX.out.mono ?_;rintro e w7 ⟨Y7,hf,hy,hkk,A7,c7,T7,d7,rfl,hx,ht,hA⟩;clear HX;have H7:=aB (H6.out.step hf hy hkk);replace vR:=aB (vR.out.fr hf hy);replace vS:=aB (vS.out.fr hf hy);replace zA:=aB (zA.out.fr hf hy);replace zB:=aB (zB.out.fr hf hy);have QC:Hid (bN w7 Y7 A7 c7 z):=aB hx;have QD:Hid (aF w7 Y7 T7 d7 vv):=aB ht;have uP:Hid (∀a,A7=some a->w.heap.size<=a.block):=aB fun a ha=>vV H6.out.fr.size (hA a ha);clear hf hy hkk hx ht hA
 try clear k0 k1 k2 k3 k4 k6 k7
 try clear jr
 try clear k1 k2 k3 k4 k6 k7
 obtain ⟨k0,k1,k2,k3,k4,k6,k7⟩:=H7.out.pt.cells;go_upto_region 25 with fail
 obtain ⟨w8,hw8⟩:∃w8,w8=w7.alloc (.cells #[.slice A5 (x:List Pt).length c5,.slice T5 (t:List Nd).length d5] 65):=⟨_,rfl⟩;obtain ⟨b8,ni⟩:∃b8,b8=w7.heap.size:=⟨_,rfl⟩;have Nh:w8.heap.size=w7.heap.size+1:=by rw [hw8];exact FT _ _
 have hb:Below w7.heap.size w7 w8:=by rw [hw8];exact au (aI _ _) _
 have H8:=aB (H7.out.later hb);replace vR:=aB (vR.out.fr (Fr.below hb) (aj.refl _ _));replace vS:=aB (vS.out.fr (Fr.below hb) (aj.refl _ _));replace zA:=aB (zA.out.fr (Fr.below hb) (aj.refl _ _));replace zB:=aB (zB.out.fr (Fr.below hb) (aj.refl _ _));replace QC:=aB (QC.out.fr (Fr.below hb) (aj.refl _ _));replace QD:=aB (QD.out.fr (Fr.below hb) (aj.refl _ _));have X8:Hid (jG w b8 A5 c5 x T5 d5 t Y7 w8):=aB ⟨by rw [hw8,ni];exact aQ.new H7.out.wk.lt _ _,vR.out,vS.out,VA5.out⟩;clear hb;obtain ⟨w9,Av⟩:∃w9,w9=w8.alloc (.cells #[.slice A6 (y:List Pt).length c6,.slice T6 (u:List Nd).length d6] 65):=⟨_,rfl⟩;obtain ⟨b9,xg⟩:∃b9,b9=w8.heap.size:=⟨_,rfl⟩;have hz9:w9.heap.size=w8.heap.size+1:=by rw [Av];exact FT _ _
 have hb:Below w8.heap.size w8 w9:=by rw [Av];exact au (aI _ _) _
 have H9:=aB (H8.out.later hb);replace X8:=aB (X8.out.later hb);replace vR:=aB (vR.out.fr (Fr.below hb) (aj.refl _ _));replace vS:=aB (vS.out.fr (Fr.below hb) (aj.refl _ _));replace zA:=aB (zA.out.fr (Fr.below hb) (aj.refl _ _));replace zB:=aB (zB.out.fr (Fr.below hb) (aj.refl _ _));replace QC:=aB (QC.out.fr (Fr.below hb) (aj.refl _ _));replace QD:=aB (QD.out.fr (Fr.below hb) (aj.refl _ _));have X9:Hid (jG w b9 A6 c6 y T6 d6 u Y7 w9):=aB ⟨by rw [Av,xg];exact aQ.new H8.out.wk.lt _ _,zA.out,zB.out,VA6.out⟩;clear hb;obtain ⟨cK,CB⟩:∃cK,cK=w9.alloc (.cells #[.slice A7 (z:List Pt).length c7,.slice T7 (vv:List Nd).length d7] 65):=⟨_,rfl⟩;obtain ⟨b10,zo⟩:∃b10,b10=w9.heap.size:=⟨_,rfl⟩;have alN:cK.heap.size=w9.heap.size+1:=by rw [CB];exact FT _ _
 have hb:Below w9.heap.size w9 cK:=by rw [CB];exact au (aI _ _) _
 have dR:=aB (H9.out.later hb);replace X8:=aB (X8.out.later hb);replace X9:=aB (X9.out.later hb);replace vR:=aB (vR.out.fr (Fr.below hb) (aj.refl _ _));replace vS:=aB (vS.out.fr (Fr.below hb) (aj.refl _ _));replace zA:=aB (zA.out.fr (Fr.below hb) (aj.refl _ _));replace zB:=aB (zB.out.fr (Fr.below hb) (aj.refl _ _));replace QC:=aB (QC.out.fr (Fr.below hb) (aj.refl _ _));replace QD:=aB (QD.out.fr (Fr.below hb) (aj.refl _ _));have mK:Hid (jG w b10 A7 c7 z T7 d7 vv Y7 cK):=aB ⟨by rw [CB,zo];exact aQ.new H9.out.wk.lt _ _,QC.out,QD.out,uP.out⟩;clear hb
 first|rw [<-hw8]|skip
 first|rw [<-Av]|skip
 first|rw [<-CB]|skip
 have hc9:b9=w7.heap.size+1:=by rw [xg,Nh]
 have aec:b10=w7.heap.size+1+1:=by rw [zo,hz9,Nh]
 first|rw [<-aec]|rw [<-zo]|skip
 first|rw [<-hc9]|rw [<-xg]|skip
 first|rw [<-ni]|skip
 try clear k0 k1 k2 k3 k4 k6 k7
 try clear jr
 try clear k1 k2 k3 k4 k6 k7
 try clear zw zx
 try clear Lv Lx
 try clear Np Nq
 clear CB Av hw8 hc9 aec zo alN xg hz9 ni Nh;clear vR vS VA5 zA zB VA6 QC QD uP;obtain ⟨k0,k1,k2,k3,k4,k6,k7⟩:=dR.out.pt.cells;obtain ⟨zw,zx⟩:=X8.out.cells;obtain ⟨Lv,Lx⟩:=X9.out.cells;obtain ⟨Np,Nq⟩:=mK.out.cells;have hbl:Below cK.heap.size cK (cK.alloc (.cells #[.slice T6 (u:List Nd).length d6,.slice T7 (vv:List Nd).length d7] 28)):=au (aI _ _) _;have HL:=aB (dR.out.later hbl);have QE:=aB (Lh (some ⟨cK.heap.size,0,none⟩) 2 [(T6,u.length,d6),(T7,vv.length,d7)] u [vv] m Y7 (cK.alloc (.cells #[.slice T6 (u:List Nd).length d6,.slice T7 (vv:List Nd).length d7] 28)) (by rw [FT];exact Tf cK _ _) (Xm (X9.out.ty.later hbl) (mK.out.ty.later hbl)) HL.out.wk.lt (by simp) (by simp) Df.out.gd (by intro q hq;simp only [List.mem_singleton] at hq;rw [hq];exact Ej.out.gd) Iw.out.1);replace X8:=aB (X8.out.later hbl);replace X9:=aB (X9.out.later hbl);replace mK:=aB (mK.out.later hbl);clear hbl;go_wp2_with fail;refine QE.out.mono ?_;rintro e fJ ⟨hb,A9,c9,rfl,ht9⟩;clear QE;have dD:=aB (HL.out.later hb);replace X8:=aB (X8.out.later hb);replace X9:=aB (X9.out.later hb);replace mK:=aB (mK.out.later hb);have b_:Hid (aF fJ Y7 A9 c9 m):=aB ht9;clear hb ht9
 try clear k0 k1 k2 k3 k4 k6 k7
 try clear jr
 try clear k1 k2 k3 k4 k6 k7
 try clear zw zx
 try clear Lv Lx
 try clear Np Nq
 obtain ⟨k0,k1,k2,k3,k4,k6,k7⟩:=dD.out.pt.cells;obtain ⟨zw,zx⟩:=X8.out.cells;obtain ⟨Lv,Lx⟩:=X9.out.cells;obtain ⟨Np,Nq⟩:=mK.out.cells;go_upto_region 26 with fail
 obtain ⟨SS,hSS⟩:∃SS:World->Prop,SS=fun v=>v.cell? ⟨B,2,none⟩=some (.string p.nm)/\v.cell? ⟨B,3,none⟩=some (.string p.bd)/\v.cell? ⟨B,6,none⟩=some (.slice TA p.T.length tc)/\v.cell? ⟨B,7,none⟩=some (.slice UA p.U.length uc)/\v.cell? ⟨b8,0,none⟩=some (.slice A5 (x:List Pt).length c5)/\v.cell? ⟨b8,1,none⟩=some (.slice T5 (t:List Nd).length d5)/\v.cell? ⟨b9,0,none⟩=some (.slice A6 (y:List Pt).length c6)/\v.cell? ⟨b9,1,none⟩=some (.slice T6 (u:List Nd).length d6)/\v.cell? ⟨b10,0,none⟩=some (.slice A7 (z:List Pt).length c7)/\v.cell? ⟨b10,1,none⟩=some (.slice T7 (vv:List Nd).length d7):=⟨_,rfl⟩;obtain ⟨fU,hwd⟩:∃fU,fU=fJ.drew:=⟨_,rfl⟩;have hb:Below fJ.heap.size fJ fU:=by rw [hwd];exact (aI _ _).drew
 have dS:=aB (dD.out.later hb);replace X8:=aB (X8.out.later hb);replace X9:=aB (X9.out.later hb);replace mK:=aB (mK.out.later hb);replace b_:=aB (b_.out.fr (Fr.below hb) (aj.refl _ _));clear hb
 try clear k0 k1 k2 k3 k4 k6 k7
 try clear jr
 try clear k1 k2 k3 k4 k6 k7
 try clear zw zx
 try clear Lv Lx
 try clear Np Nq
 have rX:SS fU:=by rw [hSS];exact ⟨dS.out.pt.cells.2.2.1,dS.out.pt.cells.2.2.2.1,dS.out.pt.cells.2.2.2.2.2.1,dS.out.pt.cells.2.2.2.2.2.2,X8.out.cells.1,X8.out.cells.2,X9.out.cells.1,X9.out.cells.2,mK.out.cells.1,mK.out.cells.2⟩
 refine aG (S:=SS) [14] (by kernel_rfl) (by rw [<-hwd];exact rX) (fun hHeld=>?_);rw [<-hwd] at hHeld ⊢;clear hwd hHeld;refine aM 0 [14] (some 159) rfl rfl ?_;refine aM 1 [14] (some 160) rfl rfl ?_;refine aM 4 [14] (some 163) rfl rfl ?_;refine aM 5 [14] (some 164) rfl rfl ?_;refine aM 7 [14] (some 166) rfl rfl ?_;refine aM 8 [14] (some 167) rfl rfl ?_;refine aM 12 [14] (some 171) rfl rfl ?_;have HX:=aB (qP 2 fU);refine aY 2 (some 161) rfl rfl (by kernel_rfl) (by rfl) (by go_simp) HX.out ?_;rintro e kI ⟨B9,d9,rfl,hown,hb⟩;clear HX;have dM:=aB (dS.out.later hb);replace X8:=aB (X8.out.later hb);replace X9:=aB (X9.out.later hb);replace mK:=aB (mK.out.later hb);replace b_:=aB (b_.out.fr (Fr.below hb) (aj.refl _ _));have pK:Hid (aF kI Y7 B9 d9 (aH 2)):=aB (aF.own hown fun q hq=>dS.out.wk.lt q hq);clear hown hb;have rY:SS kI:=by rw [hSS];exact ⟨dM.out.pt.cells.2.2.1,dM.out.pt.cells.2.2.2.1,dM.out.pt.cells.2.2.2.2.2.1,dM.out.pt.cells.2.2.2.2.2.2,X8.out.cells.1,X8.out.cells.2,X9.out.cells.1,X9.out.cells.2,mK.out.cells.1,mK.out.cells.2⟩
 refine ⟨_,rfl,rY,?_⟩;refine aA ?_;have HX:=aB (iH A5 c5 x T5 d5 t B9 d9 (aH 2) Y7 kI X8.out.ex wN.out.ne X8.out.ty (pK.out) wN.out.nY (by simp [aH]) dM.out.wk.lt wN.out.len wN.out.tl (by simp [aH]));refine aY 3 (some 162) rfl rfl (by kernel_rfl) (by rfl) (by go_simp) HX.out ?_;rintro e nk ⟨hb,II,e14,rfl,hxe⟩;clear HX;have jO:=aB (dM.out.later hb);replace X8:=aB (X8.out.later hb);replace X9:=aB (X9.out.later hb);replace mK:=aB (mK.out.later hb);replace b_:=aB (b_.out.fr (Fr.below hb) (aj.refl _ _));replace pK:=aB (pK.out.fr (Fr.below hb) (aj.refl _ _));have ow:Hid (bN nk Y7 II e14 (toM x t (aH 2))):=aB hxe;clear hb hxe;have Db:SS nk:=by rw [hSS];exact ⟨jO.out.pt.cells.2.2.1,jO.out.pt.cells.2.2.2.1,jO.out.pt.cells.2.2.2.2.2.1,jO.out.pt.cells.2.2.2.2.2.2,X8.out.cells.1,X8.out.cells.2,X9.out.cells.1,X9.out.cells.2,mK.out.cells.1,mK.out.cells.2⟩
 refine ⟨_,rfl,Db,?_⟩;refine aA ?_;have HX:=aB (iH A6 c6 y T6 d6 u A9 c9 m Y7 nk X9.out.ex Df.out.ne X9.out.ty (b_.out) Df.out.nY (Iw.out.2.2) jO.out.wk.lt Df.out.len Df.out.tl (Iw.out.2.1));refine aY 6 (some 165) rfl rfl (by kernel_rfl) (by rfl) (by go_simp) HX.out ?_;rintro e vQ ⟨hb,E15,e15,rfl,hxe⟩;clear HX;have mR:=aB (jO.out.later hb);replace X8:=aB (X8.out.later hb);replace X9:=aB (X9.out.later hb);replace mK:=aB (mK.out.later hb);replace b_:=aB (b_.out.fr (Fr.below hb) (aj.refl _ _));replace pK:=aB (pK.out.fr (Fr.below hb) (aj.refl _ _));replace ow:=aB (ow.out.fr (Fr.below hb) (aj.refl _ _));have IU:Hid (bN vQ Y7 E15 e15 (toM y u m)):=aB hxe;clear hb hxe;have IJ:SS vQ:=by rw [hSS];exact ⟨mR.out.pt.cells.2.2.1,mR.out.pt.cells.2.2.2.1,mR.out.pt.cells.2.2.2.2.2.1,mR.out.pt.cells.2.2.2.2.2.2,X8.out.cells.1,X8.out.cells.2,X9.out.cells.1,X9.out.cells.2,mK.out.cells.1,mK.out.cells.2⟩
 refine ⟨_,rfl,IJ,?_⟩;refine aA ?_;have HX:=aB (iH A7 c7 z T7 d7 vv A9 c9 m Y7 vQ mK.out.ex Ej.out.ne mK.out.ty (b_.out) Ej.out.nY (Iw.out.2.2) mR.out.wk.lt Ej.out.len Ej.out.tl (Iw.out.2.1));refine aY 9 (some 168) rfl rfl (by kernel_rfl) (by rfl) (by go_simp) HX.out ?_;rintro e w16 ⟨hb,E16,e16,rfl,hxe⟩;clear HX;have lK:=aB (mR.out.later hb);replace X8:=aB (X8.out.later hb);replace X9:=aB (X9.out.later hb);replace mK:=aB (mK.out.later hb);replace b_:=aB (b_.out.fr (Fr.below hb) (aj.refl _ _));replace pK:=aB (pK.out.fr (Fr.below hb) (aj.refl _ _));replace ow:=aB (ow.out.fr (Fr.below hb) (aj.refl _ _));replace IU:=aB (IU.out.fr (Fr.below hb) (aj.refl _ _));have QG:Hid (bN w16 Y7 E16 e16 (toM z vv m)):=aB hxe;clear hb hxe;have IK:SS w16:=by rw [hSS];exact ⟨lK.out.pt.cells.2.2.1,lK.out.pt.cells.2.2.2.1,lK.out.pt.cells.2.2.2.2.2.1,lK.out.pt.cells.2.2.2.2.2.2,X8.out.cells.1,X8.out.cells.2,X9.out.cells.1,X9.out.cells.2,mK.out.cells.1,mK.out.cells.2⟩
 refine ⟨_,rfl,IK,?_⟩;refine aA ?_;obtain ⟨w17,hw⟩:∃w17,w17=w16.alloc (.cells (bO [((some ⟨G,0,none⟩),1,[p]),(II,e14,(toM x t (aH 2))),(E15,e15,(toM y u m)),(E16,e16,(toM z vv m))]) 24):=⟨_,rfl⟩;have hb:Below w16.heap.size w16 w17:=by rw [hw];exact au (aI _ _) _
 have HX:=aB (fG [((some ⟨G,0,none⟩),1,[p]),(II,e14,(toM x t (aH 2))),(E15,e15,(toM y u m)),(E16,e16,(toM z vv m))] Y7 w16 (by intro q hq;simp only [qm,aaC,or_false] at hq;rcases hq with rfl|rfl|rfl|rfl;exact lK.out.ex;exact ow.out;exact IU.out;exact QG.out) lK.out.wk.lt (by simp) (by simp only [iW,List.flatMap_nil,lS,List.length_nil];have h5:=wN.out.len;have h6:=Df.out.len;have FR:=Ej.out.len;have h7:=bR x t (aH 2);have h8:=bR y u m;have h9:=bR z vv m;simp only [List.length_singleton];omega));rw [<-hw] at HX;simp only [iW,List.flatMap_nil,List.append_nil,List.cons_append,List.nil_append] at HX;unfold bO at hw;simp only [List.map_cons,List.map_nil] at hw;have H17:=aB (lK.out.later hb);replace X8:=aB (X8.out.later hb);replace X9:=aB (X9.out.later hb);replace mK:=aB (mK.out.later hb);replace b_:=aB (b_.out.fr (Fr.below hb) (aj.refl _ _));replace pK:=aB (pK.out.fr (Fr.below hb) (aj.refl _ _));replace ow:=aB (ow.out.fr (Fr.below hb) (aj.refl _ _));replace IU:=aB (IU.out.fr (Fr.below hb) (aj.refl _ _));replace QG:=aB (QG.out.fr (Fr.below hb) (aj.refl _ _));clear hb;have alP:SS w17:=by rw [hSS];exact ⟨H17.out.pt.cells.2.2.1,H17.out.pt.cells.2.2.2.1,H17.out.pt.cells.2.2.2.2.2.1,H17.out.pt.cells.2.2.2.2.2.2,X8.out.cells.1,X8.out.cells.2,X9.out.cells.1,X9.out.cells.2,mK.out.cells.1,mK.out.cells.2⟩
 refine aX 10 (some 169) (v:=.slice (some ⟨w16.heap.size,0,none⟩) 4 4) (w':=w17) rfl rfl (by kernel_rfl) (by rfl) (by rw [hw];go_simp;try with_reducible rfl) (fun _=>alP) ?_;refine aA ?_;clear hw;refine aY 11 (some 170) rfl rfl (by kernel_rfl) (by rfl) (by go_simp) HX.out ?_;rintro e w18 ⟨hb,Xy,c18,rfl,hxe,hA⟩;clear HX;have Xz:=aB (H17.out.later hb);replace X8:=aB (X8.out.later hb);replace X9:=aB (X9.out.later hb);replace mK:=aB (mK.out.later hb);replace b_:=aB (b_.out.fr (Fr.below hb) (aj.refl _ _));replace pK:=aB (pK.out.fr (Fr.below hb) (aj.refl _ _));replace ow:=aB (ow.out.fr (Fr.below hb) (aj.refl _ _));replace IU:=aB (IU.out.fr (Fr.below hb) (aj.refl _ _));replace QG:=aB (QG.out.fr (Fr.below hb) (aj.refl _ _));have kQ:Hid (bN w18 Y7 Xy c18 (p::((toM x t (aH 2))++((toM y u m)++(toM z vv m))))/\∀a,Xy=some a->w.heap.size<=a.block):=aB ⟨hxe,fun a ha=>vV lK.out.fr.size (hA a ha)⟩;clear hb hxe hA;have alQ:SS w18:=by rw [hSS];exact ⟨Xz.out.pt.cells.2.2.1,Xz.out.pt.cells.2.2.2.1,Xz.out.pt.cells.2.2.2.2.2.1,Xz.out.pt.cells.2.2.2.2.2.2,X8.out.cells.1,X8.out.cells.2,X9.out.cells.1,X9.out.cells.2,mK.out.cells.1,mK.out.cells.2⟩
 refine ⟨_,rfl,alQ,?_⟩;refine aA ?_;refine aM 13 [14] (some 172) rfl rfl ?_;obtain ⟨r0,r1,rU,rV⟩:=Xz.out.jN;refine jl 14 none (w':=?_) rfl rfl (by kernel_rfl) (by rfl) ?_ (zL (by kernel_rfl)) ?_
 rotate_left
 ·(go_simp;try with_reducible rfl)
 refine aA ?_;refine bB (by kernel_rfl) ?_ _;have HE:=aB (Xz.out.done (r:=((p::((toM x t (aH 2))++((toM y u m)++(toM z vv m)))),m,d)) rfl kQ.out.1 (b_.out) kQ.out.2);go_wp2_with fail;obtain ⟨wy,bK⟩:∃wy,wy=set2 w18 R (.slice Xy ((p::((toM x t (aH 2))++((toM y u m)++(toM z vv m)))):List Pt).length c18) (.slice A9 (m:List Nd).length c9):=⟨_,rfl⟩;have HE2:Hid (bU P es env Y ((p::((toM x t (aH 2))++((toM y u m)++(toM z vv m)))),m,d) w (.returned (.agg #[.slice Xy ((p::((toM x t (aH 2))++((toM y u m)++(toM z vv m)))):List Pt).length c18,.slice A9 (m:List Nd).length c9])) wy/\wy.cell? ⟨R,0,none⟩=some (.slice Xy ((p::((toM x t (aH 2))++((toM y u m)++(toM z vv m)))):List Pt).length c18)/\wy.cell? ⟨R,1,none⟩=some (.slice A9 (m:List Nd).length c9)):=aB (by rw [bK];exact HE.out);unfold set2 at bK
 first|rw [<-bK]|(simp only [List.length_cons,lS] at bK ⊢;rw [<-bK])
 have q0:=HE2.out.2.1;have q1:=HE2.out.2.2;refine bodyPost_ret (v:=.agg #[.slice Xy ((p::((toM x t (aH 2))++((toM y u m)++(toM z vv m)))):List Pt).length c18,.slice A9 (m:List Nd).length c9]) (by simp [results,Tryz.results53,go_sem,q0,q1]) rfl HE2.out.1
section
variable {P a a':Nat} {es:List Pt} {env:Env} {Y0 Y Y':Nat->Prop} {w0 w w':World} {R B:Nat} {p:Pt} {TA UA:Option Addr} {tc uc:Nat}
theorem iV.kind (h:iV P es env a Y w):∀q,Y q->iQ w q 85\/iQ w q 36:=fun q hq=>by
 obtain ⟨EA,ec,VA,vc,bs,h⟩:=h;rcases (h.y q).1 hq with rfl|⟨b,hb,rfl⟩
 ·exact .inl ⟨_,_,h.blk⟩
 ·exact .inr (ay.rO h.own hb)
theorem ay.El {α:Type} {U size base:Nat} {enc:α->List Value} {A:Option Addr} {cap:Nat} {l:List α} (h:ay U size enc w base A cap l) (hk:iV P es env a Y w) (hf:Fr Y w w') (h3:U≠36) (h4:U≠85):ay U size enc w' base A cap l:=
 ay.fr h hf fun a ha hy=>by
  rcases hk.kind _ hy with h5|h5
  ·exact iQ.ne (ay.rO h ha) h5 h4 rfl
  ·exact iQ.ne (ay.rO h ha) h5 h3 rfl
theorem vN.aaG {A:Option Addr} {c base:Nat} {vs:List PV} (h:fq w base A c vs) (hk:iV P es env a Y w):vN w Y A vs:=
 vN.Vb h fun a ha hy=>by
  rcases hk.kind _ hy with h5|h5
  ·exact iQ.ne (ay.rO h ha) h5 (by decide) rfl
  ·exact iQ.ne (ay.rO h ha) h5 (by decide) rfl
theorem bN.aaG {A:Option Addr} {c base:Nat} {vs:List PV} {xs:List Pt} (h:fq w base A c vs) (hk:iV P es env a Y w) (hp:dz w Y vs xs):bN w Y A c xs:=
 ⟨vs,vN.aaG h hk,hp,by rw [<-hp.1];exact ay.l5 h⟩
theorem qE.bW {U:TypeId} {Q:Nat->Prop} (h:qE P es env a Y0 w0 R B p TA tc UA uc Y w) (k:iF w w' U Y) (hf:Fr Q w w') (hQ:∀q,Q q->w0.heap.size<=q) (h1:U≠49) (h2:U≠33) (h3:U≠36) (h4:U≠85) (h5:U≠65):qE P es env a Y0 w0 R B p TA tc UA uc Y w':=
 ⟨Fr.new h.fr hf fun q hq=>.inr (hQ q hq),h.yn,h.wk.bW k h1 h2 h3 h4,h.pt.bW k h1 h2,h.res.fu k h5,h.pr,h.rw⟩
theorem qE.fu {Q:Nat->Prop} (h:qE P es env a Y0 w0 R B p TA tc UA uc Y w) (k:iF w w' 33 Y) (hf:Fr Q w w') (hQ:∀q,Q q->w0.heap.size<=q/\q≠B):qE P es env a Y0 w0 R B p TA tc UA uc Y w':=
 ⟨Fr.new h.fr hf fun q hq=>.inr (hQ q hq).1,h.yn,h.wk.fu k,⟨(hf.block B (Array.getElem?_eq_some_iff.1 h.pt.blk).1 fun hb=>(hQ B hb).2 rfl).trans h.pt.blk,h.pt.off,h.pt.T.bW k (by decide),h.pt.U.bW k (by decide)⟩,h.res.fu k (by decide),h.pr,h.rw⟩
end
def jo (nx:kW) (es:List Pt) (env:Env):Nat->Nat->List Pt->List fB->Option (List Pt×List fB×Nat)
 |0,a,xs,fs=>some (xs,fs,a)
 |n+1,a,xs,fs=>match es[a]? with
  |none=>none
  |some x=>match nx env a with
   |none=>none
   |some (y,t,b)=>jo nx es env n b (xs++y) (fs++[(x.lb,t)])
def xK (nx:kW) (es:List Pt) (env:Env) (p:Pt) (a:Nat):Option eF:=
 if 0<=p.mn/\p.mn<=50 then
  match jo nx es env p.mn.toNat a [p] [] with
  |none=>none
  |some (xs,fs,b)=>if jZ 6 (fs.map (·.1)) fs.length=false/\(fs.map (·.1)).Nodup then some (xs,d_ 6 fs,b) else none
 else none
theorem Bd {nx:kW} {es:List Pt} {env:Env} {n a:Nat} {xs:List Pt} {fs:List fB} {R:List Pt×List fB×Nat} (h:jo nx es env (n+1) a xs fs=some R):
  ∃x y t b,es[a]?=some x/\nx env a=some (y,t,b)/\jo nx es env n b (xs++y) (fs++[(x.lb,t)])=some R:=by
 unfold jo at h;split at h
 ·cases h
 ·rename_i x hx
  split at h
  ·cases h
  ·rename_i y t b hb
   exact ⟨x,y,t,b,hx,hb,h⟩
structure Nr (P:Nat) (es:List Pt) (env:Env) (nx:kW) (p:Pt) (TA:Option Addr) (tc:Nat) (UA:Option Addr) (uc:Nat) (Y:Nat->Prop) (w:World) (R B:Nat) (n:Nat) (S:List Pt×List fB×Nat) (k:Nat) (Yk:Nat->Prop) (a:Nat) (xs:List Pt) (fs:List fB) (OA:Option Addr) (oc:Nat) (os:List PV) (LA:Option Addr) (lc:Nat) (VA:Option Addr) (vc:Nat) (vs:List (Option Addr×Nat×Nat)) (wr:World):Prop where
 md:qE P es env a Y w R B p TA tc UA uc Yk wr
 ot:fq wr w.heap.size OA oc os
 op:dz wr Yk os xs
 ob:∀a,OA=some a->a.block≠B
 lt:dG wr w.heap.size LA lc (fs.map (·.1))
 vt:iA wr w.heap.size VA vc vs
 vl:vs.length=fs.length
 sl:∀(i:Nat) (v:Option Addr×Nat×Nat) (f:fB),vs[i]?=some v->fs[i]?=some f->v.2.1=f.2.length/\aF wr Yk v.1 v.2.2 f.2
 gd:∀f∈fs,Gd f.2
 len:fs.length=k
 xl:xs.length<=1+k*100000
 run:jo nx es env (n-k) a xs fs=some S
def mE (es:List Pt):Nat->Nat->List ByteArray->Option (List ByteArray)
 |0,_,ls=>some ls
 |n+1,a,ls=>match es[a]? with
  |none=>none
  |some x=>match fM (es.drop a) 1 a with
   |none=>none
   |some j=>mE es n j (ls++[x.lb])
theorem Kl {es:List Pt} {n a:Nat} {ls R:List ByteArray} (h:mE es (n+1) a ls=some R):∃x j,es[a]?=some x/\fM (es.drop a) 1 a=some j/\mE es n j (ls++[x.lb])=some R:=by
 unfold mE at h;split at h
 ·cases h
 ·rename_i x hx
  split at h
  ·cases h
  ·rename_i j hj
   exact ⟨x,j,hx,hj,h⟩
structure UnI (es:List Pt) (Y:Nat->Prop) (w:World) (n:Nat) (S:List ByteArray) (k a:Nat) (ls:List ByteArray) (LA:Option Addr) (lc:Nat) (VA:Option Addr) (vc:Nat) (vs:List (Option Addr×Nat×Nat)) (wr:World):Prop where
 b:Below w.heap.size w wr
 lt:dG wr w.heap.size LA lc ls
 vt:iA wr w.heap.size VA vc vs
 ll:ls.length=k
 vl:vs.length=k
 sl:∀(i:Nat) (v:Option Addr×Nat×Nat),vs[i]?=some v->v.2.1=1/\aF wr Y v.1 v.2.2 (aH 0)
 run:mE es (n-k) a ls=some S
theorem IV {α:Type} {U size:Nat} {enc:α->List Value} {w we w5:World} {A:Option Addr} {cap:Nat} {l:List α} (h:Below w.heap.size w we) (ho:ay U size enc we w.heap.size A cap l) (hg:we.grownBy w5 ((gq A l.length cap).ownBlock)):Below w.heap.size w w5:=
 Fr.toBelow (Fr.new (Fr.below h:Fr (fun _=>False) w we) (Fr.grown hg fun _q e=>e) fun q e=>.inr (ay.block ho q e).1) fun _k e=>e.elim
theorem Tw (P:Nat) (es:List Pt) (env:Env) (a n:Nat) (ls:List ByteArray) (Y:Nat->Prop) (w:World) (h:iV P es env a Y w) (hok:dN es) (hn:n<=50) (hm:mE es n a []=some ls) (hg:jZ 7 ls ls.length=false/\ls.Nodup):
  Calls Tryz.prog 112 #[pk P,.int .i64 (n:Int)] w (AQ w (d_ 7 (ls.map fun l=>(l,aH 0)))):=by
 have vL:Hid (P<w.heap.size):=aB (h.lt P h.yP);have HW:Hid (∀v,Below w.heap.size w v->iV P es env a Y v):=aB fun v hv=>h.later hv;have alR:es.length<=1000000:=by obtain ⟨EA,ec,VA,vc,bs,hm1⟩:=h;exact hm1.el
 obtain ⟨EA,ec,VA0,vc0,bs0,hm1⟩:=h;have xI:=aB hm1;obtain ⟨p0,p1,_⟩:=hm1.cells;have HI0:Hid (UnI es Y w n ls 0 a [] none 0 none 0 [] w):=aB ⟨aI _ _,ay.nil,ay.nil,rfl,rfl,fun i v hv=>by simp at hv,hm⟩;have HG:=aB hg;have oh:=aB hok;clear hm1 hm hg hok;unfold pk;go_enter Tryz.func112,Tryz.ntmps112;go_upto_region 4 with fail
 clear p0 p1;go_loopw [5,6,7] (fun s5 s6 s7 wr=>∃(k ak:Nat) (ms:List ByteArray) (LA:Option Addr) (lc:Nat) (VA:Option Addr) (vc:Nat) (vs:List (Option Addr×Nat×Nat)),k<=n/\s5= .slice LA k lc/\s6= .slice VA k vc/\s7= .int .i64 ak/\Hid (UnI es Y w n ls k ak ms LA lc VA vc vs wr)) (fun s5 _ _ _=>n-(match s5 with| .slice _ m _=>m|_=>0))
 case atStart=>exact ⟨0,a,[],none,0,none,0,[],Nat.zero_le _,rfl,rfl,rfl,HI0⟩
 case round=>
  obtain ⟨k,ak,ms,LA,lc,VA,vc,vs,hk,rfl,rfl,rfl,HI⟩:=hrel;by_cases hlt:k<n
  ·obtain ⟨x,j,hx,he,hst⟩:=Kl (n:=n-k-1) (by rw [show n-k-1+1=n-k by omega];exact HI.out.run)
   have hm2:=xI.out.later HI.out.b;obtain ⟨eb,eo,eA,hel,_,⟨_,_,_,_,_,_,_,hlb,_⟩,_⟩:=hm2.ex _ _ hx;subst eA;obtain ⟨c0,c1,_⟩:=hm2.cells;have hal:=aP hx;have J7:=aB HI.out.ll;have Ke:=aB HI.out.vl;have HX:=aB (DF he hst);have U8:k<=50:=by omega
   clear hm2 he hst hx;go_upto_region 7 with (at_builtin;refine nG rfl (.tmp 24) (.tmp 33) rfl w.heap.size (m:=k) (n:=1) J7.out rfl (ay.alloc HI.out.lt _) (l2:=[x.lb]) rfl rfl (l6 _ _) (by omega) (by have:=HI.out.b.size;simp;omega) ?_;intro y8 y9 w5 hown5 hg5 _)
   obtain ⟨we,j_⟩:∃we,we=wr.alloc (.cells #[.string x.lb] 9):=⟨_,rfl⟩;rw [<-j_] at hg5;have jF:Hid (Below wr.heap.size wr we):=aB (by rw [j_];exact au (aI _ _) _);have HOe:Hid (dG we w.heap.size LA lc ms):=aB (HI.out.lt.below jF.out (aK _));have xH:Hid (iF we w5 9 Y):=aB (iF.grown HOe.out rfl hg5 (HW.out w (aI _ _)).yP (Nat.le_of_lt vL.out));have qB:Hid (Below w.heap.size w w5):=aB (IV (ah HI.out.b jF.out) HOe.out hg5);have HV5:Hid (dG w5 w.heap.size y8 y9 (ms++[x.lb])/\iA w5 w.heap.size VA vc vs/\∀(i:Nat) (v:Option Addr×Nat×Nat),vs[i]?=some v->v.2.1=1/\aF w5 Y v.1 v.2.2 (aH 0)):=aB ⟨hown5,(HI.out.vt.below jF.out (aK _)).bW xH.out (by decide),fun i v hv=>⟨(HI.out.sl i v hv).1,((HI.out.sl i v hv).2.later jF.out).bW xH.out (by decide)⟩⟩;clear hown5 hg5 j_ hlb c0 c1;have HX5:=aB (qP 0 w5);go_wp2_with fail;refine HX5.out.mono ?_;rintro e w6 ⟨A6,c6,rfl,hown,hb⟩;have BO:=aB (ah qB.out hb);have BS:Hid (dG w6 w.heap.size y8 y9 (ms++[x.lb])/\iA w6 w.heap.size VA vc vs/\aF w6 Y A6 c6 (aH 0)/\∀(i:Nat) (v:Option Addr×Nat×Nat),vs[i]?=some v->v.2.1=1/\aF w6 Y v.1 v.2.2 (aH 0)):=aB ⟨HV5.out.1.below hb (aK _),HV5.out.2.1.below hb (aK _),aF.own hown fun q hq=>(HW.out w5 qB.out).lt q hq,fun i v hv=>⟨(HV5.out.2.2 i v hv).1,(HV5.out.2.2 i v hv).2.later hb⟩⟩;clear hown hb HX5;have hW6:=xI.out.later BO.out;obtain ⟨c0,c1,_⟩:=hW6.cells;clear hW6
   go_upto_region 5 with (at_builtin;refine nL rfl (.tmp 35) (.tmp 37) rfl w.heap.size (m:=k) (n:=1) Ke.out rfl (ay.alloc BS.out.2.1 _) (l2:=[(A6,1,c6)]) rfl rfl (oK w6 (A6,1,c6)) (by omega) (by have:=BO.out.size;simp;omega) ?_;intro uP xC w7 nQ tY)
   obtain ⟨wf,hwf⟩:∃wf,wf=w6.alloc (.cells #[.slice A6 (aH 0).length c6] 28):=⟨_,rfl⟩
   first|rw [<-hwf] at tY|skip
   have GJ:Hid (Below w6.heap.size w6 wf):=aB (by rw [hwf];exact au (aI _ _) _);have HOf:Hid (iA wf w.heap.size VA vc vs):=aB (BS.out.2.1.below GJ.out (aK _));have ug:Hid (iF wf w7 28 Y):=aB (iF.grown HOf.out rfl tY (HW.out w (aI _ _)).yP (Nat.le_of_lt vL.out));have gI:Hid (Below w.heap.size w w7):=aB (IV (ah BO.out GJ.out) HOf.out tY)
   have Kc:Hid (UnI es Y w n ls (k+1) j (ms++[x.lb]) y8 y9 uP xC (vs++[(A6,1,c6)]) w7):=aB (by
    refine ⟨gI.out,(BS.out.1.below GJ.out (aK _)).bW ug.out (by decide),nQ,by rw [lS,J7.out];rfl,by rw [lS,Ke.out];rfl,?_,by rw [show n-(k+1)=n-k-1 by omega];exact HX.out.2⟩;intro i v hv;rcases Nat.lt_or_ge i vs.length with hi|hi
    ·rw [List.getElem?_append_left hi] at hv
     exact ⟨(BS.out.2.2.2 i v hv).1,((BS.out.2.2.2 i v hv).2.later GJ.out).bW ug.out (by decide)⟩
    ·rw [List.getElem?_append_right hi] at hv
     cases hj:i-vs.length with
     |zero=>
      rw [hj] at hv;simp at hv;subst hv
      exact ⟨rfl,(BS.out.2.2.1.later GJ.out).bW ug.out (by decide)⟩
     |succ j=>rw [hj] at hv;simp at hv)
   clear nQ tY hwf c0 c1;have D_:=xI.out.later gI.out;obtain ⟨c0,c1,_⟩:=D_.cells;have HXe:=aB (K4 Y _ ec es ak j w7 D_.ex alR oh.out HX.out.1);clear D_;go_wp2_with fail;refine HXe.out.mono ?_;rintro e w8 ⟨rfl,ni⟩;have HI8:Hid (UnI es Y w n ls (k+1) j (ms++[x.lb]) y8 y9 uP xC (vs++[(A6,1,c6)]) w8):=aB ⟨ah Kc.out.b ni,Kc.out.lt.below ni (aK _),Kc.out.vt.below ni (aK _),Kc.out.ll,Kc.out.vl,fun i v hv=>⟨(Kc.out.sl i v hv).1,(Kc.out.sl i v hv).2.later ni⟩,Kc.out.run⟩;clear ni HXe;go_wp2_with fail;go_roundw
   case rel=>exact ⟨k+1,j,ms++[x.lb],y8,y9,uP,xC,vs++[(A6,1,c6)],by omega,by go_num,by go_num,by go_num,HI8⟩
   case measure=>dsimp only;omega
  ·have hkn:k=n:=by omega
   have yZ:Hid (ls=ms):=aB (by
    have:=HI.out.run;rw [hkn,Nat.sub_self] at this;unfold mE at this;injection this with this
    exact this.symm)
   have J7:=aB HI.out.ll;have Ke:=aB HI.out.vl;obtain ⟨fs,hf0⟩:∃fs:List fB,fs=ms.map fun l=>(l,aH 0):=⟨_,rfl⟩;have hfs:fs.map (·.1)=ms:=by rw [hf0,List.map_map];exact List.map_id ms
   have QH:Hid (fs.map (·.1)=ms/\fs=ls.map (fun l=>(l,aH 0))/\fs.length=k):=aB ⟨hfs,by rw [hf0,yZ.out],by rw [hf0,OX,J7.out]⟩;have hfk:(fs.map (·.1)).length=k:=by rw [OX,QH.out.2.2]
   have HX:=xq LA VA lc vc 7 (fs.map (·.1)) vs (fs.map (·.2)) wr (by rw [hfs];exact ay.read jA HI.out.lt) (ay.read jv HI.out.vt) (by
    refine ⟨by rw [OX,HI.out.vl,QH.out.2.2],fun i v xs hv hxs=>?_⟩;rw [Tz,aaE,hf0] at hxs;obtain ⟨f,hf,rfl⟩:=hxs;rw [Tz,aaE] at hf;obtain ⟨g,hg,rfl⟩:=hf;obtain ⟨e1,e2⟩:=HI.out.sl i v hv;exact ⟨e1,e2.ty.eY⟩) (by
    intro xs hxs;obtain ⟨f,hf,rfl⟩:=aaw.1 hxs;rw [hf0] at hf;obtain ⟨g,hg,rfl⟩:=aaw.1 hf;exact ⟨by simp [aH],by simp [aH]⟩) (by rw [hfs,OX,QH.out.2.2,<-J7.out,<-yZ.out];exact HG.out.1)
   rw [hfk,Ke.out] at HX;have HX:=aB HX;clear hkn hfs hfk hf0;go_wp2_with fail;refine HX.out.mono ?_;rintro e w3 ⟨hb3,hpost⟩
   have HPo:Hid (∃A' cap',e= .returned (.tuple #[.slice A' (d_ 7 (ls.map fun l=>(l,aH 0))).length cap',.int .i64 0])/\dF w3 wr.heap.size A' cap' (d_ 7 (ls.map fun l=>(l,aH 0)))):=aB (by
    rcases hpost with ⟨h1,_⟩|⟨_,h1,_⟩|⟨_,os,A',cap',hp,ho,h1,h2⟩
    ·rw [QH.out.1,OX,QH.out.2.2,<-J7.out,<-yZ.out,HG.out.1] at h1
     cases h1
    ·rw [QH.out.1,<-yZ.out] at h1
     exact absurd HG.out.2 h1
    ·rw [D8 7 fs (by rw [QH.out.1,<-yZ.out];exact HG.out.2) os hp ho] at h1 h2
     rw [<-QH.out.2.1];exact ⟨A',cap',h1,h2⟩)
   clear hpost;obtain ⟨A',cap',hv,hown⟩:=HPo.out;subst hv;have HE:Hid (AQ w (d_ 7 (ls.map fun l=>(l,aH 0))) (.returned (.slice A' (d_ 7 (ls.map fun l=>(l,aH 0))).length cap')) w3):=aB ⟨A',cap',rfl,ay.lower hown HI.out.b.size,ah HI.out.b hb3⟩;clear hb3 hown;go_wp2_with fail;go_ret;exact HE.out
open Go Go.RowKit
structure XV where
 A:Option Addr
 n:Nat
 c:Nat
 TA:Option Addr
 tn:Nat
 tc:Nat
def Fy (v:XV):List Value:=[.slice v.A v.n v.c,.slice v.TA v.tn v.tc]
theorem Em (v:XV):(Fy v).length=2:=rfl
theorem XB (v:XV):∀u∈Fy v,u.oneCell'=true:=by
 intro u hu;simp only [Fy,qm,aaC,or_false] at hu;rcases hu with rfl|rfl<;>rfl
def XV.ty (v:XV):Option Addr×Nat×Nat:=(v.TA,v.tn,v.tc)
abbrev IW (w:World) (base:Nat) (A:Option Addr) (cap:Nat) (l:List XV):Prop:=ay 65 2 Fy w base A cap l
abbrev aaI (w:World) (B:Nat) (A:Option Addr) (l:List XV):Prop:=aS 2 Fy w B A l
theorem agl:(Tryz.prog.info? 65).map (fun i=>(i.zero,i.size,i.bytes))=some (some (.agg #[.slice none 0 0,.slice none 0 0]),2,48):=by kernel_rfl
section
variable {w:World} {o:Oper} {a:Act} {K:Act->World->Prop} {Q:Exit->Act->World->Prop}
theorem jX (s x:Operand) (ho:o.op= .call {callee:=.builtin .append,args:=#[s,x],argTypes:=#[127,127]})
  (base:Nat) {A:Option Addr} {cap m n:Nat} {l:List XV} (hm:l.length=m) (hs:a.eval s= .slice A m cap) (hown:IW w base A cap l) {B:Nat} {A2:Option Addr} {c:Nat} {l2:List XV} (hn:l2.length=n) (hx:a.eval x= .slice A2 n c) (hr:aaI w B A2 l2)
  (hlen:m+n<=1000000) (hbase:base<=w.heap.size) (dst:Option Tmp) (hdst:o.dst=dst)
  (h:∀A' cap' w',IW w' base A' cap' (l++l2)->w.grownBy w' ((gq A l.length cap).ownBlock)->
   ((gq A' (l.length+l2.length) cap').ownBlock=(gq A l.length cap).ownBlock\/(gq A' (l.length+l2.length) cap').ownBlock=some w.heap.size)->K (a.put dst (.slice A' (m+n) cap')) w'):o.wp Tryz.prog a w K Q:=by
 subst hm hn hdst;obtain ⟨i0,hi,hz0,hz1,hz2⟩:=info_parts agl;exact uV w Em XB s x 127 ho base 65 i0 _ 48 Tryz.underlying127 hi hz0 hz1 hz2 rfl (by decide) hs hown hx hr (by unfold maxLen;omega) (by omega) hbase h
theorem lM (s x:Operand) (ho:o.op= .call {callee:=.builtin .append,args:=#[s,x],argTypes:=#[23,23]})
  (base:Nat) {A:Option Addr} {cap m n:Nat} {l:List PV} (hm:l.length=m) (hs:a.eval s= .slice A m cap) (hown:fq w base A cap l) {B:Nat} {A2:Option Addr} {c:Nat} {l2:List PV} (hn:l2.length=n) (hx:a.eval x= .slice A2 n c) (hr:vM w B A2 l2)
  (hlen:m+n<=1000000) (hbase:base<=w.heap.size) (dst:Option Tmp) (hdst:o.dst=dst)
  (h:∀A' cap' w',fq w' base A' cap' (l++l2)->w.grownBy w' ((gq A l.length cap).ownBlock)->
   ((gq A' (l.length+l2.length) cap').ownBlock=(gq A l.length cap).ownBlock\/(gq A' (l.length+l2.length) cap').ownBlock=some w.heap.size)->K (a.put dst (.slice A' (m+n) cap')) w'):o.wp Tryz.prog a w K Q:=by
 subst hm hn hdst;obtain ⟨i0,hi,hz0,hz1,hz2⟩:=info_parts infoP;exact uV w fH z8 s x 23 ho base 33 i0 _ 120 Tryz.underlying23 hi hz0 hz1 hz2 rfl (by decide) hs hown hx hr (by unfold maxLen;omega) (by omega) hbase h
theorem jc (s x:Operand) (ho:o.op= .call {callee:=.builtin .append,args:=#[s,x],argTypes:=#[71,71]})
  (base:Nat) {A:Option Addr} {cap m n:Nat} {l:List (Option Addr×Nat×Nat)} (hm:l.length=m) (hs:a.eval s= .slice A m cap) (hown:iA w base A cap l) {B:Nat} {A2:Option Addr} {c:Nat} {l2:List (Option Addr×Nat×Nat)} (hn:l2.length=n) (hx:a.eval x= .slice A2 n c) (hr:jV w B A2 l2)
  (hlen:m+n<=1000000) (hbase:base<=w.heap.size) (dst:Option Tmp) (hdst:o.dst=dst)
  (h:∀A' cap' w',iA w' base A' cap' (l++l2)->w.grownBy w' ((gq A l.length cap).ownBlock)->
   ((gq A' (l.length+l2.length) cap').ownBlock=(gq A l.length cap).ownBlock\/(gq A' (l.length+l2.length) cap').ownBlock=some w.heap.size)->K (a.put dst (.slice A' (m+n) cap')) w'):o.wp Tryz.prog a w K Q:=by
 subst hm hn hdst;obtain ⟨i0,hi,hz0,hz1,hz2⟩:=info_parts YF;exact uV w jv KO s x 71 ho base 28 i0 _ 24 Tryz.underlying71 hi hz0 hz1 hz2 rfl (by decide) hs hown hx hr (by unfold maxLen;omega) (by omega) hbase h
end
section
variable {P:Program} {ops:Array Oper} {Q:Exit->Act->World->Prop} {md:Region.Mode} {S:World->Prop} {Z:List Nat}
theorem Vf (i j k:Nat) {fuel:Nat} {listed:Array Bool} {a:Act} {w:World} {oi oj ok:Oper} (hr:Region.ready md ops listed=[i,j,k]) (hi:ops[i]?=some oi) (hj:ops[j]?=some oj) (hk:ops[k]?=some ok) (hwi:sH oi (yielded ops a.tmps)=true) (P6:sH oj (yielded ops a.tmps)=true) (hwk:sH ok (yielded ops a.tmps)=true)
  (h1:oi.wp P a w (fun a' w'=>((∀z∈Z,(listed.setIfInBounds i true).getD z true=false)->S w')/\wpAnyL P md ops Q S Z fuel (listed.setIfInBounds i true) a' w') Q)
  (h2:oj.wp P a w (fun a' w'=>((∀z∈Z,(listed.setIfInBounds j true).getD z true=false)->S w')/\wpAnyL P md ops Q S Z fuel (listed.setIfInBounds j true) a' w') Q)
  (h3:ok.wp P a w (fun a' w'=>((∀z∈Z,(listed.setIfInBounds k true).getD z true=false)->S w')/\wpAnyL P md ops Q S Z fuel (listed.setIfInBounds k true) a' w') Q):wpAnyL P md ops Q S Z (fuel+1) listed a w:=by
 refine yO hr (by simp) fun m hm=>?_;simp only [qm,aaC,or_false] at hm;rcases hm with rfl|rfl|rfl
 ·unfold wpOp
  rw [hi];simp only [hwi,if_true];exact .inl h1
 ·unfold wpOp
  rw [hj];simp only [P6,if_true];exact .inl h2
 ·unfold wpOp
  rw [hk];simp only [hwk,if_true];exact .inl h3
end
section
variable {w w':World} {Y Y':Nat->Prop} {U:TypeId} {Q:Nat->Prop}
theorem bN.aed {A:Option Addr} {c:Nat} {xs:List Pt} (h:bN w Y A c xs) (k:iF w w' U Y) (h1:U≠49) (hf:Fr Q w w') (hQ:∀a,A=some a->¬Q a.block):bN w' Y A c xs:=by
 obtain ⟨vs,h3,h4,h5⟩:=h;refine ⟨vs,fun hne=>?_,h4.bW k h1,h5⟩;obtain ⟨b,o,hA,hb,hy,ho,hc⟩:=h3 hne;have hbk:=hf.block b hb (hQ _ hA);refine ⟨b,o,hA,Nat.lt_of_lt_of_le hb hf.size,hy,lG hbk ho,fun i v hv j u hu=>?_⟩;have:=hc i v hv j u hu;simp only [DI,hbk] at this ⊢;exact this
theorem bN.blk {A:Option Addr} {c:Nat} {xs:List Pt} (h:bN w Y A c xs) (hne:xs≠[]):∀a,A=some a->a.block<w.heap.size:=fun a ha=>by
 obtain ⟨vs,h3,h4,_⟩:=h
 obtain ⟨b,o,hA,hb,_⟩:=h3 fun e=>by
  have:=h4.1;rw [e] at this;exact hne (List.eq_nil_of_length_eq_zero this.symm)
 rw [ha] at hA;injection hA with hA
 rw [hA];exact hb
theorem aQ.frQ {b:Nat} {cs:Array Value} {T:TypeId} (h:aQ w Y b cs T) (hf:Fr Q w w') (hQ:¬Q b):aQ w' Y b cs T:=⟨(hf.block b h.lt hQ).trans h.blk,h.ny⟩
theorem jd {b:Nat} {v:XV} (h:aQ w Y b #[.slice v.A v.n v.c,.slice v.TA v.tn v.tc] 65):aaI w (b+1) (some ⟨b,0,none⟩) [v]:=fun _=>by
 refine ⟨b,0,rfl,by omega,fun i x hx j u hu=>?_⟩
 match i,hx with
 |i+1,hx=>simp at hx
 |0,hx=>
  simp at hx;subst hx
  match j,hu with
  |0,hu=>simp [Fy] at hu;subst hu;simp [DI,h.blk]
  |1,hu=>simp [Fy] at hu;subst hu;simp [DI,h.blk]
  |j+2,hu=>simp [Fy] at hu
theorem gP {b:Nat} {v:Option Addr×Nat×Nat} (h:aQ w Y b #[.slice v.1 v.2.1 v.2.2] 28):jV w (b+1) (some ⟨b,0,none⟩) [v]:=fun _=>by
 refine ⟨b,0,rfl,by omega,fun i x hx j u hu=>?_⟩
 match i,hx with
 |i+1,hx=>simp at hx
 |0,hx=>
  simp at hx;subst hx
  match j,hu with
  |0,hu=>simp [encS] at hu;subst hu;simp [DI,h.blk]
  |j+1,hu=>simp [encS] at hu
theorem jY {b:Nat} {v:PV} (h:aQ w Y b #[.int .i64 v.k,.string v.lb,.string v.nm,.string v.bd,.int .i64 v.mn,.int .i64 v.num,.slice v.TA v.tn v.tc,.slice v.UA v.un v.uc] 33):vM w (b+1) (some ⟨b,0,none⟩) [v]:=fun _=>by
 refine ⟨b,0,rfl,by omega,fun i x hx j u hu=>?_⟩
 match i,hx with
 |i+1,hx=>simp at hx
 |0,hx=>
  simp at hx;subst hx
  match j,hu with
  |0,hu=>simp [ng] at hu;subst hu;simp [DI,h.blk]
  |1,hu=>simp [ng] at hu;subst hu;simp [DI,h.blk]
  |2,hu=>simp [ng] at hu;subst hu;simp [DI,h.blk]
  |3,hu=>simp [ng] at hu;subst hu;simp [DI,h.blk]
  |4,hu=>simp [ng] at hu;subst hu;simp [DI,h.blk]
  |5,hu=>simp [ng] at hu;subst hu;simp [DI,h.blk]
  |6,hu=>simp [ng] at hu;subst hu;simp [DI,h.blk]
  |7,hu=>simp [ng] at hu;subst hu;simp [DI,h.blk]
  |j+8,hu=>simp [ng] at hu
end
structure uS (P:Nat) (es:List Pt) (env:Env) (a:Nat) (Y0:Nat->Prop) (w0:World) (R B:Nat) (p:Pt) (TA:Option Addr) (tc:Nat) (UA:Option Addr) (uc:Nat) (N:Nat) (OA:Option Addr) (oc:Nat) (out:List Pt) (MA:Option Addr) (mc:Nat) (u:List Nd) (hall:List PV) (hs:List Pt) (cs:List XV) (bl:List (List Pt×List Nd)) (HA:Option Addr) (Y:Nat->Prop) (w:World):Prop where
 md:qE P es env a Y0 w0 R B p TA tc UA uc Y w
 nn:N<=w.heap.size
 n0:w0.heap.size<=N
 rn:R<N
 bn:B<N
 out:bN w Y OA oc out
 ob:∀a,OA=some a->a.block<N
 u:aF w Y MA mc u
 hp:dz w Y hall hs
 cl:cs.length=bl.length
 sl:∀(i:Nat) (q:XV) (e:List Pt×List Nd),cs[i]?=some q->bl[i]?=some e->q.n=e.1.length/\q.tn=e.2.length/\bN w Y q.A q.c e.1/\aF w Y q.TA q.tc e.2
 ne:∀e∈bl,e.1≠[]
 ds:∀q∈cs,∀a g,q.A=some a->HA=some g->a.block≠g.block
section
variable {P a a':Nat} {es:List Pt} {env:Env} {Y0 Y Y':Nat->Prop} {w0 w w':World} {R B:Nat} {p:Pt} {TA UA:Option Addr} {tc uc:Nat} {N:Nat} {OA MA HA:Option Addr} {oc mc:Nat} {out:List Pt} {u:List Nd} {hall:List PV} {hs:List Pt} {cs:List XV} {bl:List (List Pt×List Nd)}
theorem uS.step (h:uS P es env a Y0 w0 R B p TA tc UA uc N OA oc out MA mc u hall hs cs bl HA Y w) (hf:Fr Y w w') (hy:aj Y Y' w) (hk:iV P es env a' Y' w'):uS P es env a' Y0 w0 R B p TA tc UA uc N OA oc out MA mc u hall hs cs bl HA Y' w':=
 ⟨h.md.step hf hy hk,vV h.nn hf.size,h.n0,h.rn,h.bn,h.out.fr hf hy,h.ob,h.u.fr hf hy,h.hp.fr hf hy,h.cl,fun i q e hq he=>⟨(h.sl i q e hq he).1,(h.sl i q e hq he).2.1,(h.sl i q e hq he).2.2.1.fr hf hy,(h.sl i q e hq he).2.2.2.fr hf hy⟩,h.ne,h.ds⟩
theorem uS.later (h:uS P es env a Y0 w0 R B p TA tc UA uc N OA oc out MA mc u hall hs cs bl HA Y w) (hb:Below w.heap.size w w'):uS P es env a Y0 w0 R B p TA tc UA uc N OA oc out MA mc u hall hs cs bl HA Y w':=h.step (Fr.below hb) (aj.refl _ _) (h.md.wk.later hb)
theorem uS.lt (h:uS P es env a Y0 w0 R B p TA tc UA uc N OA oc out MA mc u hall hs cs bl HA Y w):∀q∈cs,∀a,q.A=some a->a.block<w.heap.size:=fun q hq a ha=>by
 obtain ⟨i,hi⟩:=List.getElem?_of_mem hq;have hl:=aP hi;obtain ⟨e,he⟩:=aJ (l:=bl) (i:=i) (by rw [<-h.cl];exact hl);exact (h.sl i q e hi he).2.2.1.blk (h.ne e (O8 he)) a ha
theorem uS.qU {hc hc':Nat} {Di:Option Addr} {hvs l2:List PV} (h:uS P es env a Y0 w0 R B p TA tc UA uc N OA oc out MA mc u hall hs cs bl HA Y w) (ho:fq w N HA hc hvs) (hg:w.grownBy w' ((gq HA hvs.length hc).ownBlock))
  (hd:(gq Di (hvs.length+l2.length) hc').ownBlock=(gq HA hvs.length hc).ownBlock\/(gq Di (hvs.length+l2.length) hc').ownBlock=some w.heap.size):
  uS P es env a Y0 w0 R B p TA tc UA uc N OA oc out MA mc u hall hs cs bl Di Y w'/\iF w w' 33 Y/\Fr (fun q=>∃g,HA=some g/\g.block=q) w w'/\∀g,Di=some g->(∃g2,HA=some g2/\g2.block=g.block)\/g.block=w.heap.size:=by
 have k:iF w w' 33 Y:=iF.grown ho rfl hg h.md.wk.yP (by have:=h.md.pr;have:=h.n0;omega)
 have hf:Fr (fun q=>∃g,HA=some g/\g.block=q) w w':=Fr.grown hg fun q e=>by
  obtain ⟨g,h1,h2⟩:=bL e;exact ⟨g,h1,h2⟩
 have hN:∀q,(∃g,HA=some g/\g.block=q)->N<=q:=fun q ⟨g,hg1,hg2⟩=>by rw [<-hg2];exact (ay.lt ho g hg1).1
 have hnew:∀g,Di=some g->(∃g2,HA=some g2/\g2.block=g.block)\/g.block=w.heap.size:=fun g hgg=>by
  subst hgg;simp only [gQ] at hd;rcases hd with e|e
  ·obtain ⟨g2,e1,e2⟩:=bL e.symm
   exact .inl ⟨g2,e1,e2⟩
  ·injection e with e
   exact .inr e
 refine ⟨⟨h.md.fu k hf fun q hq=>⟨by have:=hN q hq;have:=h.n0;omega,by have:=hN q hq;have:=h.bn;omega⟩,vV h.nn hf.size,h.n0,h.rn,h.bn,h.out.aed k (by decide) hf (fun a2 ha hq=>by have:=hN _ hq;have:=h.ob a2 ha;omega),h.ob,h.u.bW k (by decide),h.hp.bW k (by decide),h.cl,fun i q e hq he=>⟨(h.sl i q e hq he).1,(h.sl i q e hq he).2.1,(h.sl i q e hq he).2.2.1.aed k (by decide) hf (fun a2 ha ⟨g,hg1,hg2⟩=>h.ds q (O8 hq) a2 g ha hg1 hg2.symm),(h.sl i q e hq he).2.2.2.bW k (by decide)⟩,h.ne,fun q hq a2 g ha hgg=>?_⟩,k,hf,hnew⟩;rcases hnew g hgg with ⟨g2,h1,h2⟩|h1
 ·rw [<-h2]
  exact h.ds q hq a2 g2 ha h1
 ·have:=h.lt q hq a2 ha
  omega
theorem uS.nu {bc bc':Nat} {BA En:Option Addr} {bvs l2:List XV} (h:uS P es env a Y0 w0 R B p TA tc UA uc N OA oc out MA mc u hall hs cs bl HA Y w) (ho:IW w N BA bc bvs) (hg:w.grownBy w' ((gq BA bvs.length bc).ownBlock))
  (hd:(gq En (bvs.length+l2.length) bc').ownBlock=(gq BA bvs.length bc).ownBlock\/(gq En (bvs.length+l2.length) bc').ownBlock=some w.heap.size):
  uS P es env a Y0 w0 R B p TA tc UA uc N OA oc out MA mc u hall hs cs bl HA Y w'/\iF w w' 65 Y/\Fr (fun q=>∃g,BA=some g/\g.block=q) w w'/\∀g,En=some g->(∃g2,BA=some g2/\g2.block=g.block)\/g.block=w.heap.size:=by
 have k:iF w w' 65 Y:=iF.grown ho rfl hg h.md.wk.yP (by have:=h.md.pr;have:=h.n0;omega)
 have hf:Fr (fun q=>∃g,BA=some g/\g.block=q) w w':=Fr.grown hg fun q e=>by
  obtain ⟨g,h1,h2⟩:=bL e;exact ⟨g,h1,h2⟩
 have hN:∀q,(∃g,BA=some g/\g.block=q)->N<=q:=fun q ⟨g,hg1,hg2⟩=>by rw [<-hg2];exact (ay.lt ho g hg1).1
 have hnew:∀g,En=some g->(∃g2,BA=some g2/\g2.block=g.block)\/g.block=w.heap.size:=fun g hgg=>by
  subst hgg;simp only [gQ] at hd;rcases hd with e|e
  ·obtain ⟨g2,e1,e2⟩:=bL e.symm
   exact .inl ⟨g2,e1,e2⟩
  ·injection e with e
   exact .inr e
 refine ⟨⟨⟨Fr.new h.md.fr hf fun q hq=>.inr (by have:=hN q hq;have:=h.n0;omega),h.md.yn,h.md.wk.bW k (by decide) (by decide) (by decide) (by decide),h.md.pt.bW k (by decide) (by decide),h.md.res.frQ hf (fun hq=>by have:=hN _ hq;have:=h.rn;omega),h.md.pr,h.md.rw⟩,vV h.nn hf.size,h.n0,h.rn,h.bn,h.out.bW k (by decide) (by decide),h.ob,h.u.bW k (by decide),h.hp.bW k (by decide),h.cl,fun i q e hq he=>⟨(h.sl i q e hq he).1,(h.sl i q e hq he).2.1,(h.sl i q e hq he).2.2.1.bW k (by decide) (by decide),(h.sl i q e hq he).2.2.2.bW k (by decide)⟩,h.ne,h.ds⟩,k,hf,hnew⟩
theorem uS.nA {vc:Nat} {VA:Option Addr} {vs:List (Option Addr×Nat×Nat)} (h:uS P es env a Y0 w0 R B p TA tc UA uc N OA oc out MA mc u hall hs cs bl HA Y w) (ho:iA w N VA vc vs) (hg:w.grownBy w' ((gq VA vs.length vc).ownBlock)):
  uS P es env a Y0 w0 R B p TA tc UA uc N OA oc out MA mc u hall hs cs bl HA Y w'/\iF w w' 28 Y:=by
 have k:iF w w' 28 Y:=iF.grown ho rfl hg h.md.wk.yP (by have:=h.md.pr;have:=h.n0;omega);have hf:=Fr.grown hg fun q e=>e;refine ⟨⟨h.md.bW k hf (fun q hq=>by have:=(ay.block ho q hq).1;have:=h.n0;omega) (by decide) (by decide) (by decide) (by decide) (by decide),vV h.nn hf.size,h.n0,h.rn,h.bn,h.out.bW k (by decide) (by decide),h.ob,h.u.bW k (by decide),h.hp.bW k (by decide),h.cl,fun i q e hq he=>⟨(h.sl i q e hq he).1,(h.sl i q e hq he).2.1,(h.sl i q e hq he).2.2.1.bW k (by decide) (by decide),(h.sl i q e hq he).2.2.2.bW k (by decide)⟩,h.ne,h.ds⟩,k⟩
end
end Go.Proofs.YtmjdhfbnmmdjiaaGreat
