/- Laid together by a tool from the texts of this seat: CxCase CxOp CxRws CxRows CxGet CxInj. Conditions: each theorem's own. -/
import Derived.Test.YtmjdhfbnmmdjiaaGreatJ20
import Derived.Test.YtmjdhfbnmmdjiaaGreatJ25
import Derived.Test.YtmjdhfbnmmdjiaaGreatJ24
set_option maxHeartbeats 8000000
set_option maxRecDepth 100000
namespace Go.Proofs.YtmjdhfbnmmdjiaaGreat
open Go.Lib renaming hid->aD
open _root_.And renaming intro->Cj
open Go.RowKit.Below renaming refl->aF
open _root_.Nat renaming le_refl->aG,le_trans->Ed,le_of_lt->aao
open _root_.List renaming length_append->jX,length_map->Qx,length_cons->mX,length_singleton->aaB,flatMap_cons->iJ,getElem?_append_left->aaf,getElem?_append_right->jd
open Go.World renaming cell?->Ck,frozen?->EJ,size_alloc->Er,block_lt_of_cell?->Db
open _root_.Array renaming getElem?_eq_some_iff->aaj
open Go.RowKit
theorem Pb (P:Nat) (es:List Pt) (nx:kP) (HN:Hid (lg P es nx)) (env:Env) (a:Nat) (p:Pt) (r:dV) (Y:Nat->Prop) (w:World) (h:iI P es env a Y w) (hp:es[a]?=some p) (hk:p.k=7) (hal:a<=1000000) (hvl:env.length<=900000) (hok:dZ es) (hG:∀env a x t b,nx env a=some (x,t,b)->pI x t) (hm:uQ nx es env p (a+1)=some r):
  Calls Tryz.prog 53 #[pk P] w (bU P es env Y r w):=by
 have jM:=aD (Cj hm hp);have oI:=aD hk;refine (iG P es env a p r Y w).2 h hp hal ?_;clear h hp hal hm hk;intro eb eo ec TA tc UA uc R B G w4 H4;dsimp only [iG];intro K1 hK1 K2 hK2;obtain ⟨k0,k1,k2,k3,k4,k6,k7⟩:=H4.out.pt.cells;have ji:w4.cell? ⟨B,0,none⟩=some (.int .i64 7):=by rw [k0,oI.out]
 clear k0
 skip
 have HX:=aD (Rp P es nx HN env (a+1) p r Y w4 TA UA tc uc H4.out.wk H4.out.pt.T H4.out.pt.U hvl hok hG jM.out.1);unfold pk pv at HX;have k5:w4.cell? ⟨B,5,none⟩=some (.int .i64 p.num):=by simp [Ck,H4.out.pt.blk]
 obtain ⟨k0,_⟩:=H4.out.pt.cells;rw [oI.out] at HX k0;go_wp2_with fail;refine HX.out.mono ?_;rintro e w5 ⟨Y5,hf,hy,hkk,A5,c5,T5,d5,rfl,hx,ht,hA⟩;clear HX;have H5:=aD (H4.out.step hf hy hkk);have VX:Hid (bP w5 Y5 A5 c5 r.1):=aD hx;have VT:Hid (aA w5 Y5 T5 d5 r.2.1):=aD ht;have VA:Hid (∀a,A5=some a->w.heap.size<=a.block):=aD fun a ha=>Ed H4.out.fr.size (hA a ha);clear hf hy hkk hx ht hA
 try clear k0 k1 k2 k3 k4 k6 k7
 try clear ji
 try clear k1 k2 k3 k4 k6 k7
 try clear k5
 skip
 skip
 have HE:=aD (H5.out.done (r:=(r.1,r.2.1,r.2.2)) rfl (VX.out) (VT.out) (VA.out));obtain ⟨r0,r1,qQ,qR⟩:=H5.out.jF;go_wp2_with fail;obtain ⟨wy,bN⟩:∃wy,wy=set2 w5 R (.slice A5 (r.1:List Pt).length c5) (.slice T5 (r.2.1:List Nd).length d5):=⟨_,rfl⟩;have HE2:Hid (bU P es env Y (r.1,r.2.1,r.2.2) w (.returned (.agg #[.slice A5 (r.1:List Pt).length c5,.slice T5 (r.2.1:List Nd).length d5])) wy/\wy.cell? ⟨R,0,none⟩=some (.slice A5 (r.1:List Pt).length c5)/\wy.cell? ⟨R,1,none⟩=some (.slice T5 (r.2.1:List Nd).length d5)):=aD (by rw [bN];exact HE.out);unfold set2 at bN
 first|rw [<-bN]|(simp only [aaB] at bN;rw [<-bN])
 have q0:=HE2.out.2.1;have q1:=HE2.out.2.2;refine bodyPost_ret (v:=.agg #[.slice A5 (r.1:List Pt).length c5,.slice T5 (r.2.1:List Nd).length d5]) (by simp [results,Tryz.results53,go_sem,q0,q1]) rfl HE2.out.1
theorem Vu (P:Nat) (es:List Pt) (nx:kP) (HN:Hid (lg P es nx)) (env:Env) (a:Nat) (p:Pt) (r:dV) (Y:Nat->Prop) (w:World) (h:iI P es env a Y w) (hp:es[a]?=some p) (hk:p.k=9) (hal:a<=1000000) (hG:∀env a x t b,nx env a=some (x,t,b)->pI x t) (hm:Q7 nx env p (a+1)=some r):
  Calls Tryz.prog 53 #[pk P] w (bU P es env Y r w):=by
 have jM:=aD (Cj hm hp);have oI:=aD hk;refine (iG P es env a p r Y w).2 h hp hal ?_;clear h hp hal hm hk;intro eb eo ec TA tc UA uc R B G w4 H4;dsimp only [iG];intro K1 hK1 K2 hK2;obtain ⟨k0,k1,k2,k3,k4,k6,k7⟩:=H4.out.pt.cells;have ji:w4.cell? ⟨B,0,none⟩=some (.int .i64 9):=by rw [k0,oI.out]
 clear k0;obtain ⟨x,t,b,h1,hr⟩:=bH jM.out.1;obtain ⟨y,u,c,h2,hr⟩:=bH hr;injection hr with hr
 subst hr;have uL:=aD h1;have Lx:=aD h2;have yE:=aD (hG _ _ _ _ _ h1);have vH:=aD (hG _ _ _ _ _ h2);clear h1 h2 jM;have HX:=aD (HN.out env (a+1) (x,t,b) Y w4 uL.out H4.out.wk);unfold pk at HX;go_wp2_with fail;refine HX.out.mono ?_;rintro e w5 ⟨Y5,hf,hy,hkk,A5,c5,T5,d5,rfl,hx,ht,hA⟩;clear HX;have H5:=aD (H4.out.step hf hy hkk);have uN:Hid (bP w5 Y5 A5 c5 x):=aD hx;have uO:Hid (aA w5 Y5 T5 d5 t):=aD ht;have Yz:Hid (∀a,A5=some a->w.heap.size<=a.block):=aD fun a ha=>Ed H4.out.fr.size (hA a ha);clear hf hy hkk hx ht hA
 try clear k0 k1 k2 k3 k4 k6 k7
 try clear ji
 try clear k1 k2 k3 k4 k6 k7
 obtain ⟨k0,k1,k2,k3,k4,k6,k7⟩:=H5.out.pt.cells;have HX:=aD (HN.out env b (y,u,c) Y5 w5 Lx.out H5.out.wk);unfold pk at HX;go_wp2_with fail;refine HX.out.mono ?_;rintro e w6 ⟨Y6,hf,hy,hkk,A6,c6,T6,d6,rfl,hx,ht,hA⟩;clear HX;have H6:=aD (H5.out.step hf hy hkk);replace uN:=aD (uN.out.fr hf hy);replace uO:=aD (uO.out.fr hf hy);have yF:Hid (bP w6 Y6 A6 c6 y):=aD hx;have yG:Hid (aA w6 Y6 T6 d6 u):=aD ht;have YB:Hid (∀a,A6=some a->w.heap.size<=a.block):=aD fun a ha=>Ed H5.out.fr.size (hA a ha);clear hf hy hkk hx ht hA
 try clear k0 k1 k2 k3 k4 k6 k7
 try clear ji
 try clear k1 k2 k3 k4 k6 k7
 obtain ⟨k0,k1,k2,k3,k4,k6,k7⟩:=H6.out.pt.cells;go_upto_region 31 with fail
 obtain ⟨w7,hw7⟩:∃w7,w7=w6.alloc (.cells #[.slice A5 (x:List Pt).length c5,.slice T5 (t:List Nd).length d5] 65):=⟨_,rfl⟩;obtain ⟨b7,pE⟩:∃b7,b7=w6.heap.size:=⟨_,rfl⟩;have hz7:w7.heap.size=w6.heap.size+1:=by rw [hw7];exact Er _ _
 have hb:Below w6.heap.size w6 w7:=by rw [hw7];exact aj (aF _ _) _
 have H7:=aD (H6.out.later hb);replace uN:=aD (uN.out.fr (Fr.below hb) (ah.refl _ _));replace uO:=aD (uO.out.fr (Fr.below hb) (ah.refl _ _));replace yF:=aD (yF.out.fr (Fr.below hb) (ah.refl _ _));replace yG:=aD (yG.out.fr (Fr.below hb) (ah.refl _ _));have X7:Hid (jr w b7 A5 c5 x T5 d5 t Y6 w7):=aD ⟨by rw [hw7,pE];exact aS.new H6.out.wk.lt _ _,uN.out,uO.out,Yz.out⟩;clear hb;obtain ⟨w8,hw8⟩:∃w8,w8=w7.alloc (.cells #[.slice A6 (y:List Pt).length c6,.slice T6 (u:List Nd).length d6] 65):=⟨_,rfl⟩;obtain ⟨b8,sQ⟩:∃b8,b8=w7.heap.size:=⟨_,rfl⟩;have Lu:w8.heap.size=w7.heap.size+1:=by rw [hw8];exact Er _ _
 have hb:Below w7.heap.size w7 w8:=by rw [hw8];exact aj (aF _ _) _
 have H8:=aD (H7.out.later hb);replace X7:=aD (X7.out.later hb);replace uN:=aD (uN.out.fr (Fr.below hb) (ah.refl _ _));replace uO:=aD (uO.out.fr (Fr.below hb) (ah.refl _ _));replace yF:=aD (yF.out.fr (Fr.below hb) (ah.refl _ _));replace yG:=aD (yG.out.fr (Fr.below hb) (ah.refl _ _));have X8:Hid (jr w b8 A6 c6 y T6 d6 u Y6 w8):=aD ⟨by rw [hw8,sQ];exact aS.new H7.out.wk.lt _ _,yF.out,yG.out,YB.out⟩;clear hb
 first|rw [<-hw7]|skip
 first|rw [<-hw8]|skip
 have hc8:b8=w6.heap.size+1:=by rw [sQ,hz7]
 first|rw [<-hc8]|rw [<-sQ]|skip
 first|rw [<-pE]|skip
 try clear k0 k1 k2 k3 k4 k6 k7
 try clear ji
 try clear k1 k2 k3 k4 k6 k7
 try clear BM BN
 try clear yC yD
 clear hw8 hw7 hc8 sQ Lu pE hz7;clear uN uO Yz yF yG YB;obtain ⟨k0,k1,k2,k3,k4,k6,k7⟩:=H8.out.pt.cells;obtain ⟨BM,BN⟩:=X7.out.cells;obtain ⟨yC,yD⟩:=X8.out.cells;have HX:=aD (Q6 p.nm w8);go_wp2_with fail;refine HX.out.mono ?_;rintro e w9 ⟨A9,c9,B9,d9,rfl,hown,hown2,hb⟩;clear HX;have H9:=aD (H8.out.later hb);replace X7:=aD (X7.out.later hb);replace X8:=aD (X8.out.later hb);have cu:Hid (aA w9 Y6 A9 c9 (ay (dD p.nm))):=aD (aA.own hown fun q hq=>H8.out.wk.lt q hq);have eF:Hid (aA w9 Y6 B9 d9 (ay (fM p.nm))):=aD (aA.own hown2 fun q hq=>H8.out.wk.lt q hq);clear hown hown2 hb
 try clear k0 k1 k2 k3 k4 k6 k7
 try clear ji
 try clear k1 k2 k3 k4 k6 k7
 try clear BM BN
 try clear yC yD
 obtain ⟨k0,k1,k2,k3,k4,k6,k7⟩:=H9.out.pt.cells;obtain ⟨BM,BN⟩:=X7.out.cells;obtain ⟨yC,yD⟩:=X8.out.cells;go_upto_region 32 with fail
 obtain ⟨SS,hSS⟩:∃SS:World->Prop,SS=fun v=>v.cell? ⟨B,2,none⟩=some (.string p.nm)/\v.cell? ⟨B,3,none⟩=some (.string p.bd)/\v.cell? ⟨B,6,none⟩=some (.slice TA p.T.length tc)/\v.cell? ⟨B,7,none⟩=some (.slice UA p.U.length uc)/\v.cell? ⟨b7,0,none⟩=some (.slice A5 (x:List Pt).length c5)/\v.cell? ⟨b7,1,none⟩=some (.slice T5 (t:List Nd).length d5)/\v.cell? ⟨b8,0,none⟩=some (.slice A6 (y:List Pt).length c6)/\v.cell? ⟨b8,1,none⟩=some (.slice T6 (u:List Nd).length d6):=⟨_,rfl⟩;obtain ⟨dA,hwd⟩:∃dA,dA=w9.drew:=⟨_,rfl⟩;have hb:Below w9.heap.size w9 dA:=by rw [hwd];exact (aF _ _).drew
 have dS:=aD (H9.out.later hb);replace X7:=aD (X7.out.later hb);replace X8:=aD (X8.out.later hb);replace cu:=aD (cu.out.fr (Fr.below hb) (ah.refl _ _));replace eF:=aD (eF.out.fr (Fr.below hb) (ah.refl _ _));clear hb
 try clear k0 k1 k2 k3 k4 k6 k7
 try clear ji
 try clear k1 k2 k3 k4 k6 k7
 try clear BM BN
 try clear yC yD
 have qX:SS dA:=by rw [hSS];exact ⟨dS.out.pt.cells.2.2.1,dS.out.pt.cells.2.2.2.1,dS.out.pt.cells.2.2.2.2.2.1,dS.out.pt.cells.2.2.2.2.2.2,X7.out.cells.1,X7.out.cells.2,X8.out.cells.1,X8.out.cells.2⟩
 refine aI (S:=SS) [11] (by kernel_rfl) (by rw [<-hwd];exact qX) (fun hHeld=>?_);rw [<-hwd] at hHeld ⊢;clear hwd hHeld;refine aL 0 [11] (some 190) rfl rfl ?_;refine aL 1 [11] (some 191) rfl rfl ?_;refine aL 2 [11] (some 192) rfl rfl ?_;refine aL 4 [11] (some 194) rfl rfl ?_;refine aL 5 [11] (some 195) rfl rfl ?_;refine aL 9 [11] (some 199) rfl rfl ?_;have HX:=aD (iq A5 c5 x T5 d5 t A9 c9 (ay (dD p.nm)) Y6 dA X7.out.ex yE.out.ne X7.out.ty (cu.out) yE.out.pJ (by simp [ay]) dS.out.wk.lt yE.out.len yE.out.tl (by simp [ay]));refine bD 3 (some 193) rfl rfl (by kernel_rfl) (by rfl) (by go_simp) HX.out ?_;rintro e fJ ⟨hb,Au,e11,rfl,hxe⟩;clear HX;have dI:=aD (dS.out.later hb);replace X7:=aD (X7.out.later hb);replace X8:=aD (X8.out.later hb);replace cu:=aD (cu.out.fr (Fr.below hb) (ah.refl _ _));replace eF:=aD (eF.out.fr (Fr.below hb) (ah.refl _ _));have lQ:Hid (bP fJ Y6 Au e11 (toM x t (ay (dD p.nm)))):=aD hxe;clear hb hxe;have qU:SS fJ:=by rw [hSS];exact ⟨dI.out.pt.cells.2.2.1,dI.out.pt.cells.2.2.2.1,dI.out.pt.cells.2.2.2.2.2.1,dI.out.pt.cells.2.2.2.2.2.2,X7.out.cells.1,X7.out.cells.2,X8.out.cells.1,X8.out.cells.2⟩
 refine ⟨_,rfl,qU,?_⟩;refine aC ?_;have HX:=aD (iq A6 c6 y T6 d6 u A9 c9 (ay (dD p.nm)) Y6 fJ X8.out.ex vH.out.ne X8.out.ty (cu.out) vH.out.pJ (by simp [ay]) dI.out.wk.lt vH.out.len vH.out.tl (by simp [ay]));refine bD 6 (some 196) rfl rfl (by kernel_rfl) (by rfl) (by go_simp) HX.out ?_;rintro e fP ⟨hb,LD,e12,rfl,hxe⟩;clear HX;have dU:=aD (dI.out.later hb);replace X7:=aD (X7.out.later hb);replace X8:=aD (X8.out.later hb);replace cu:=aD (cu.out.fr (Fr.below hb) (ah.refl _ _));replace eF:=aD (eF.out.fr (Fr.below hb) (ah.refl _ _));replace lQ:=aD (lQ.out.fr (Fr.below hb) (ah.refl _ _));have l9:Hid (bP fP Y6 LD e12 (toM y u (ay (dD p.nm)))):=aD hxe;clear hb hxe;have qV:SS fP:=by rw [hSS];exact ⟨dU.out.pt.cells.2.2.1,dU.out.pt.cells.2.2.2.1,dU.out.pt.cells.2.2.2.2.2.1,dU.out.pt.cells.2.2.2.2.2.2,X7.out.cells.1,X7.out.cells.2,X8.out.cells.1,X8.out.cells.2⟩
 refine ⟨_,rfl,qV,?_⟩;refine aC ?_;obtain ⟨kD,hw⟩:∃kD,kD=fP.alloc (.cells (bQ [((some ⟨G,0,none⟩),1,[p]),(Au,e11,(toM x t (ay (dD p.nm)))),(LD,e12,(toM y u (ay (dD p.nm))))]) 24):=⟨_,rfl⟩;have hb:Below fP.heap.size fP kD:=by rw [hw];exact aj (aF _ _) _
 have HX:=aD (fD [((some ⟨G,0,none⟩),1,[p]),(Au,e11,(toM x t (ay (dD p.nm)))),(LD,e12,(toM y u (ay (dD p.nm))))] Y6 fP (by intro q hq;simp only [List.mem_cons,List.not_mem_nil,or_false] at hq;rcases hq with rfl|rfl|rfl;exact dU.out.ex;exact lQ.out;exact l9.out) dU.out.wk.lt (by simp) (by simp only [iJ,List.flatMap_nil,jX,List.length_nil];have h5:=yE.out.len;have h6:=vH.out.len;have h7:=bS x t (ay (dD p.nm));have h8:=bS y u (ay (dD p.nm));simp only [aaB];omega));rw [<-hw] at HX;simp only [iJ,List.flatMap_nil,List.append_nil,List.cons_append,List.nil_append] at HX;unfold bQ at hw;simp only [List.map_cons,List.map_nil] at hw;have dL:=aD (dU.out.later hb);replace X7:=aD (X7.out.later hb);replace X8:=aD (X8.out.later hb);replace cu:=aD (cu.out.fr (Fr.below hb) (ah.refl _ _));replace eF:=aD (eF.out.fr (Fr.below hb) (ah.refl _ _));replace lQ:=aD (lQ.out.fr (Fr.below hb) (ah.refl _ _));replace l9:=aD (l9.out.fr (Fr.below hb) (ah.refl _ _));clear hb;have qW:SS kD:=by rw [hSS];exact ⟨dL.out.pt.cells.2.2.1,dL.out.pt.cells.2.2.2.1,dL.out.pt.cells.2.2.2.2.2.1,dL.out.pt.cells.2.2.2.2.2.2,X7.out.cells.1,X7.out.cells.2,X8.out.cells.1,X8.out.cells.2⟩
 refine bB 7 (some 197) (v:=.slice (some ⟨fP.heap.size,0,none⟩) 3 3) (w':=kD) rfl rfl (by kernel_rfl) (by rfl) (by rw [hw];go_simp;try with_reducible rfl) (fun _=>qW) ?_;refine aC ?_;clear hw;refine bD 8 (some 198) rfl rfl (by kernel_rfl) (by rfl) (by go_simp) HX.out ?_;rintro e mO ⟨hb,Vv,c14,rfl,hxe,hA⟩;clear HX;have jG:=aD (dL.out.later hb);replace X7:=aD (X7.out.later hb);replace X8:=aD (X8.out.later hb);replace cu:=aD (cu.out.fr (Fr.below hb) (ah.refl _ _));replace eF:=aD (eF.out.fr (Fr.below hb) (ah.refl _ _));replace lQ:=aD (lQ.out.fr (Fr.below hb) (ah.refl _ _));replace l9:=aD (l9.out.fr (Fr.below hb) (ah.refl _ _));have kK:Hid (bP mO Y6 Vv c14 (p::((toM x t (ay (dD p.nm)))++(toM y u (ay (dD p.nm)))))/\∀a,Vv=some a->w.heap.size<=a.block):=aD ⟨hxe,fun a ha=>Ed dU.out.fr.size (hA a ha)⟩;clear hb hxe hA;have BJ:SS mO:=by rw [hSS];exact ⟨jG.out.pt.cells.2.2.1,jG.out.pt.cells.2.2.2.1,jG.out.pt.cells.2.2.2.2.2.1,jG.out.pt.cells.2.2.2.2.2.2,X7.out.cells.1,X7.out.cells.2,X8.out.cells.1,X8.out.cells.2⟩
 refine ⟨_,rfl,BJ,?_⟩;refine aC ?_;refine aL 10 [11] (some 200) rfl rfl ?_;obtain ⟨r0,r1,qQ,qR⟩:=jG.out.jF;refine je 11 none (w':=?_) rfl rfl (by kernel_rfl) (by rfl) ?_ (zL (by kernel_rfl)) ?_
 rotate_left
 ·(go_simp;try with_reducible rfl)
 refine aC ?_;refine bG (by kernel_rfl) ?_ _;have HE:=aD (jG.out.done (r:=((p::((toM x t (ay (dD p.nm)))++(toM y u (ay (dD p.nm))))),(ay (fM p.nm)),c)) rfl kK.out.1 (eF.out) kK.out.2);go_wp2_with fail;obtain ⟨wy,bN⟩:∃wy,wy=set2 mO R (.slice Vv ((p::((toM x t (ay (dD p.nm)))++(toM y u (ay (dD p.nm))))):List Pt).length c14) (.slice B9 ((ay (fM p.nm)):List Nd).length d9):=⟨_,rfl⟩;have HE2:Hid (bU P es env Y ((p::((toM x t (ay (dD p.nm)))++(toM y u (ay (dD p.nm))))),(ay (fM p.nm)),c) w (.returned (.agg #[.slice Vv ((p::((toM x t (ay (dD p.nm)))++(toM y u (ay (dD p.nm))))):List Pt).length c14,.slice B9 ((ay (fM p.nm)):List Nd).length d9])) wy/\wy.cell? ⟨R,0,none⟩=some (.slice Vv ((p::((toM x t (ay (dD p.nm)))++(toM y u (ay (dD p.nm))))):List Pt).length c14)/\wy.cell? ⟨R,1,none⟩=some (.slice B9 ((ay (fM p.nm)):List Nd).length d9)):=aD (by rw [bN];exact HE.out);unfold set2 at bN
 first|rw [<-bN]|(simp only [mX,jX] at bN ⊢;rw [<-bN])
 have q0:=HE2.out.2.1;have q1:=HE2.out.2.2;refine bodyPost_ret (v:=.agg #[.slice Vv ((p::((toM x t (ay (dD p.nm)))++(toM y u (ay (dD p.nm))))):List Pt).length c14,.slice B9 ((ay (fM p.nm)):List Nd).length d9]) (by simp [results,Tryz.results53,go_sem,q0,q1]) rfl HE2.out.1
theorem RV (P:Nat) (es:List Pt) (nx:kP) (HN:Hid (lg P es nx)) (env:Env) (a:Nat) (p:Pt) (r:dV) (Y:Nat->Prop) (w:World) (TA UA:Option Addr) (tc uc:Nat) (h:iI P es env a Y w) (hT:aA w Y TA tc p.T) (hU:aA w Y UA uc p.U) (hG:∀env a x t b,nx env a=some (x,t,b)->pI x t) (hm:uP nx es env p a=some r):
  Calls Tryz.prog 90 #[pk P,pv p TA tc UA uc] w (bU P es env Y r w):=by
 obtain ⟨w1,hw1⟩:∃w1,w1=w.alloc (.cells #[.int .i64 p.k,.string p.lb,.string p.nm,.string p.bd,.int .i64 p.mn,.int .i64 p.num,.slice TA p.T.length tc,.slice UA p.U.length uc] 33):=⟨_,rfl⟩;obtain ⟨w2,hw2⟩:∃w2,w2=w1.alloc (.cells #[.slice none 0 0,.slice none 0 0] 65):=⟨_,rfl⟩;have hm2:=pK.new h hT hU hw1 hw2;obtain ⟨R,hR⟩:∃R,R=w.heap.size+1:=⟨_,rfl⟩;obtain ⟨B,hB⟩:∃B,B=w.heap.size:=⟨_,rfl⟩;rw [<-hR,<-hB] at hm2;have H2:=aD hm2;have jM:=aD hm;clear h hT hU hm hm2;have xW:Hid (P<w.heap.size):=aD H2.out.pr;have hm:=jM.out;clear jM;unfold uP at hm;split at hm
 rotate_left
 ·cases hm
 rename_i hmn;obtain ⟨n,hn⟩:∃n:Nat,p.mn=(n:Int):=⟨p.mn.toNat,by omega⟩;have W_:n<=50:=by omega
 rw [show p.mn.toNat=n by omega] at hm
 obtain ⟨S,hS⟩:∃S,gy nx es env n a [p] []=some S:=by
  cases h9:gy nx es env n a [p] [] with
  |none=>rw [h9] at hm;cases hm
  |some S=>exact ⟨S,rfl⟩
 rw [hS] at hm;have HR:=aD hm;have HD:=aD hG;have ag8:=aD hS;have Vr:=aD hn;have Bd:Hid (B<w2.heap.size/\w.heap.size<=B):=aD ⟨(aaj.1 H2.out.pt.blk).1,by omega⟩;clear hm hG hS hmn hn;unfold pk pv;go_enter Tryz.func90,Tryz.ntmps90;go_upto_region 1 with fail
 rw [<-hw1,<-hw2]
 try rw [<-hR]
 rw [<-hB];clear hw1 hw2 hR hB;obtain ⟨k0,k1,k2,k3,k4,k5,k6,k7⟩:=H2.out.pt.av;go_upto_region 2 with fail
 obtain ⟨w3,hw⟩:∃w3,w3=w2.alloc (.cells #[.int .i64 p.k,.string p.lb,.string p.nm,.string p.bd,.int .i64 p.mn,.int .i64 p.num,.slice TA p.T.length tc,.slice UA p.U.length uc] 33):=⟨_,rfl⟩;obtain ⟨G,hg⟩:∃G,G=w2.heap.size:=⟨_,rfl⟩;have hb:Below w2.heap.size w2 w3:=by rw [hw];exact aj (aF _ _) _
 have H3:=aD (H2.out.later hb);have HI0:Hid (LJ P es env nx p TA tc UA uc Y w R B n S 0 Y a [p] [] (some ⟨G,0,none⟩) 1 [⟨p.k,p.lb,p.nm,p.bd,p.mn,p.num,TA,p.T.length,tc,UA,p.U.length,uc⟩] none 0 none 0 [] w3):=aD ⟨H3.out,by rw [hw,hg];exact aB.lower (JY w2 p TA UA tc uc) H2.out.fr.size,JZ H3.out.pt.T H3.out.pt.U,fun q hq=>by injection hq with hq;rw [<-hq,hg];exact fun e=>by have:=Bd.out.1;dsimp only at e;omega,aB.nil,aB.nil,rfl,fun i v f hv=>by simp at hv,fun f hf=>by simp at hf,rfl,by simp,ag8.out⟩;rw [<-hw,<-hg];clear hw hg hb k0 k1 k2 k3 k4 k5 k6 k7;obtain ⟨k0,k1,k2,k3,k4,k5,k6,k7⟩:=H3.out.pt.av;rw [Vr.out] at k4;go_upto_region 5 with fail
 clear k0 k1 k2 k3 k4 k5 k6 k7;go_loopw [5,6,7,15] (fun s5 s6 s7 s15 wr=>∃(k:Nat) (Yk:Nat->Prop) (ak:Nat) (xs:List Pt) (fs:List eT) (OA:Option Addr) (oc:Nat) (os:List PV) (LA:Option Addr) (lc:Nat) (VA:Option Addr) (vc:Nat) (vs:List (Option Addr×Nat×Nat)),k<=n/\s15= .int .i64 k/\s5= .slice OA xs.length oc/\s6= .slice LA k lc/\s7= .slice VA k vc/\Hid (LJ P es env nx p TA tc UA uc Y w R B n S k Yk ak xs fs OA oc os LA lc VA vc vs wr)) (fun _ _ _ s15 _=>n-(Lib.intOf s15).toNat)
 case atStart=>exact ⟨0,Y,a,[p],[],_,1,_,none,0,none,0,[],Nat.zero_le _,rfl,rfl,rfl,rfl,HI0⟩
 case round=>
  obtain ⟨k,Yk,ak,xs,fs,OA,oc,os,LA,lc,VA,vc,vs,hk,rfl,rfl,rfl,rfl,HI⟩:=hrel;by_cases hlt:k<n
  ·obtain ⟨x,y,t,b,hx,hnx,hst⟩:=zT (n:=n-k-1) (by rw [show n-k-1+1=n-k by omega];exact HI.out.run)
   obtain ⟨EA,ec,zA,zB,bs,hm2⟩:=HI.out.md.wk;obtain ⟨eb,eo,eA,hel,_,⟨_,_,_,_,_,_,_,hlb,_⟩,_⟩:=hm2.ex _ _ hx;subst eA;obtain ⟨c0,c1,_⟩:=hm2.cells;have hal:=aU hx;have XK:=hm2.el;have HX:=aD (Cj hnx hst);clear hm2 hst hx hnx;go_upto_region 6 with fail
   obtain ⟨SS,hSS⟩:∃SS:World->Prop,SS=fun v=>v.cell? ⟨P,0,none⟩=some (.slice (some ⟨eb,eo,none⟩) es.length ec)/\v.cell? ⟨P,1,none⟩=some (.int .i64 (ak:Int))/\v.cell? ⟨eb,eo+ak*8+1,none⟩=some (.string x.lb):=⟨_,rfl⟩
   have HS:Hid (∀v,Below wr.heap.size wr v->SS v):=aD fun v hv=>by
    rw [hSS];exact ⟨(hv.cell (Db _ _ c0)).trans c0,(hv.cell (Db _ _ c1)).trans c1,(hv.cell hel).trans hlb⟩
   obtain ⟨wd,hwd⟩:∃wd,wd=wr.drew:=⟨_,rfl⟩;have bM:Hid (Below wr.heap.size wr wd):=aD (by rw [hwd];exact (aF _ _).drew);have hsd:SS wd:=HS.out _ bM.out;refine aI (S:=SS) [13] (by kernel_rfl) (by rw [<-hwd];exact hsd) (fun hHeld=>?_);rw [<-hwd] at hHeld ⊢;clear hwd c0 c1 hlb;refine aL 0 [13,14] (some 17) rfl rfl ?_;refine aL 1 [2,3,4,9,10,11,12,13,14] (some 18) rfl rfl ?_;refine aL 2 [3,4,9,10,11,12,13,14] (some 19) rfl rfl ?_;refine aL 3 [4,9,10,11,12,13,14] (some 20) rfl rfl ?_;refine aL 4 [9,10,11,12,13,14] (some 21) rfl rfl ?_;refine aL 5 [6,7,8,9,10,11,12,13,14] (some 22) rfl rfl ?_;refine aL 6 [7,8,9,10,11,12,13,14] (some 23) rfl rfl ?_;refine aL 7 [8,9,10,11,12,13,14] (some 24) rfl rfl ?_;refine aL 8 [9,10,11,12,13,14] (some 25) rfl rfl ?_;refine aL 9 [10,11,12,13,14] (some 26) rfl rfl ?_;refine aL 10 [11,12,13,14] (some 27) rfl rfl ?_;refine aL 11 [12,13,14] (some 28) rfl rfl ?_;refine bB 12 (some 29) (v:=?_) (w':=?_) rfl rfl (by kernel_rfl) (by rfl) ?_ (fun _=>?_) ?_
   rotate_left
   rotate_left
   ·(go_simp;first|with_reducible rfl|(constructor<;>with_reducible rfl))
   ·exact HS.out _ (aj bM.out _)
   refine aC ?_;obtain ⟨we,jV⟩:∃we,we=wd.alloc (.cells #[.string x.lb] 9):=⟨_,rfl⟩;have iP:Hid (Below wr.heap.size wr we):=aD (by rw [jV];exact aj bM.out _);have HRe:Hid (q9 we (wd.heap.size+1) (some ⟨wd.heap.size,0,none⟩) [x.lb]):=aD (by rw [jV];exact mJ wd x.lb);rw [<-jV];clear jV;have wu:Hid ((fs.map (·.1)).length=k):=aD (by rw [Qx];exact HI.out.len);have SX:k<=50:=by omega
   refine dQ 13 rfl (by kernel_rfl) (by rfl) ?_;refine Ot (.tmp 17) (.tmp 29) (by rfl) w.heap.size (m:=k) (n:=1) wu.out (by rfl) (HI.out.lt.below iP.out (aG _)) (l2:=[x.lb]) rfl (by rfl) HRe.out (by omega) (Ed HI.out.md.fr.size iP.out.size) (some 30) rfl ?_;intro xX xY w5 hown5 hg5;have wB:Hid (g_ we w5 9 Yk):=aD (g_.grown (HI.out.lt.below iP.out (aG _)) rfl hg5 HI.out.md.wk.yP (aao xW.out))
   have F9:Hid (pK P es env ak Y w R B p TA tc UA uc Yk w5):=aD ((HI.out.md.later iP.out).bW wB.out (Fr.grown hg5 fun q e=>e) (fun q e=>by
    have:=(aB.block (HI.out.lt.below iP.out (aG _)) q (by rw [wu.out];rw [wu.out] at e;exact e)).1;exact this) (by decide) (by decide) (by decide) (by decide) (by decide))
   have HV5:Hid (gV w5 w.heap.size OA oc os/\dO w5 Yk os xs/\dN w5 w.heap.size xX xY (fs.map (·.1)++[x.lb])/\iH w5 w.heap.size VA vc vs/\∀(i:Nat) (v:Option Addr×Nat×Nat) (f:eT),vs[i]?=some v->fs[i]?=some f->v.2.1=f.2.length/\aA w5 Yk v.1 v.2.2 f.2):=aD ⟨(HI.out.ot.below iP.out (aG _)).bW wB.out (by decide),(HI.out.op.fr (Fr.below iP.out) (ah.refl _ _)).bW wB.out (by decide),hown5,(HI.out.vt.below iP.out (aG _)).bW wB.out (by decide),fun i v f hv hf=>⟨(HI.out.sl i v f hv hf).1,((HI.out.sl i v f hv hf).2.later iP.out).bW wB.out (by decide)⟩⟩;clear hown5 hg5;refine ⟨zL (by kernel_rfl),?_⟩;refine aC ?_;refine bB 14 (some 6) rfl rfl (by kernel_rfl) (by rfl) (by go_simp;first|with_reducible rfl|(constructor<;>with_reducible rfl)) (zL (by kernel_rfl)) ?_;refine aC ?_;refine bG (by kernel_rfl) ?_ _;clear hHeld hsd hal hel XK;have CU:=aD (HN.out env ak (y,t,b) Yk w5 HX.out.1 F9.out.wk);unfold pk at CU;have Ld:Hid (vs.length=k):=aD (by rw [HI.out.vl,HI.out.len]);go_wp2_with fail;refine CU.out.mono ?_;rintro e w6 ⟨Y6,gM,jR,nN,A6,c6,T6,d6,rfl,hx6,Bt,hA6⟩;have Oy:=aD (F9.out.step gM jR nN)
   have Av:Hid (gV w6 w.heap.size OA oc os/\dO w6 Y6 os xs/\dN w6 w.heap.size xX xY (fs.map (·.1)++[x.lb])/\iH w6 w.heap.size VA vc vs/\bP w6 Y6 A6 c6 y/\aA w6 Y6 T6 d6 t/\∀(i:Nat) (v:Option Addr×Nat×Nat) (f:eT),vs[i]?=some v->fs[i]?=some f->v.2.1=f.2.length/\aA w6 Y6 v.1 v.2.2 f.2):=aD ⟨aB.C9 HV5.out.1 F9.out.wk gM (by decide) (by decide),HV5.out.2.1.fr gM jR,aB.C9 HV5.out.2.2.1 F9.out.wk gM (by decide) (by decide),aB.C9 HV5.out.2.2.2.1 F9.out.wk gM (by decide) (by decide),hx6,Bt,fun i v f hv hf=>⟨(HV5.out.2.2.2.2 i v f hv hf).1,(HV5.out.2.2.2.2 i v f hv hf).2.fr gM jR⟩⟩;have QJ:=aD (HD.out _ _ _ _ _ HX.out.1);have HA6:Hid (∀a,A6=some a->w.heap.size<=a.block):=aD fun a ha=>Ed F9.out.fr.size (hA6 a ha);clear gM jR nN hx6 Bt hA6 CU;go_upto_region 8 with fail
   obtain ⟨w7,hw⟩:∃w7,w7=w6.alloc (.cells #[.slice A6 (y:List Pt).length c6,.slice T6 (t:List Nd).length d6] 65):=⟨_,rfl⟩;obtain ⟨b7,pE⟩:∃b7,b7=w6.heap.size:=⟨_,rfl⟩;have hb:Below w6.heap.size w6 w7:=by rw [hw];exact aj (aF _ _) _
   have OP:=aD (Oy.out.later hb);have X7:Hid (jr w b7 A6 c6 y T6 d6 t Y6 w7):=aD ⟨by rw [hw,pE];exact aS.new Oy.out.wk.lt _ _,Av.out.2.2.2.2.1.fr (Fr.below hb) (ah.refl _ _),Av.out.2.2.2.2.2.1.later hb,HA6.out⟩;have Aj:Hid (gV w7 w.heap.size OA oc os/\dO w7 Y6 os xs/\dN w7 w.heap.size xX xY (fs.map (·.1)++[x.lb])/\iH w7 w.heap.size VA vc vs/\∀(i:Nat) (v:Option Addr×Nat×Nat) (f:eT),vs[i]?=some v->fs[i]?=some f->v.2.1=f.2.length/\aA w7 Y6 v.1 v.2.2 f.2):=aD ⟨Av.out.1.below hb (aG _),Av.out.2.1.fr (Fr.below hb) (ah.refl _ _),Av.out.2.2.1.below hb (aG _),Av.out.2.2.2.1.below hb (aG _),fun i v f hv hf=>⟨(Av.out.2.2.2.2.2.2 i v f hv hf).1,(Av.out.2.2.2.2.2.2 i v f hv hf).2.later hb⟩⟩;rw [<-hw,<-pE];clear hw pE hb;obtain ⟨BM,BN⟩:=X7.out.cells
   go_upto_region 9 with (at_builtin;refine mW rfl (.tmp 33) (.tmp 36) rfl w.heap.size (m:=k) (n:=1) Ld.out rfl (aB.alloc Aj.out.2.2.2.1 _) (l2:=[(T6,t.length,d6)]) rfl rfl (pR w7 (T6,t.length,d6)) (by omega) (by have:=OP.out.fr.size;simp;omega) ?_;intro VA8 vc8 w8 Zv hg8;have u_:Hid (g_ (w7.alloc (.cells #[.slice T6 t.length d6] 28)) w8 28 Y6):=aD (g_.grown (aB.alloc Aj.out.2.2.2.1 _) rfl hg8 OP.out.wk.yP (aao xW.out));have fE:Hid (Below w7.heap.size w7 (w7.alloc (.cells #[.slice T6 t.length d6] 28))):=aD (aj (aF _ _) _);have vU:Hid (pK P es env b Y w R B p TA tc UA uc Y6 w8):=aD ((OP.out.later fE.out).bW u_.out (Fr.grown hg8 fun q e=>e) (fun q e=>(aB.block Aj.out.2.2.2.1 q e).1) (by decide) (by decide) (by decide) (by decide) (by decide));have X8:Hid (aS w8 Y6 b7 #[.slice A6 (y:List Pt).length c6,.slice T6 (t:List Nd).length d6] 65/\bP w8 Y6 A6 c6 y/\aA w8 Y6 T6 d6 t):=aD ⟨(X7.out.box.below fE.out).eX u_.out (by decide),(X7.out.ex.fr (Fr.below fE.out) (ah.refl _ _)).bW u_.out (by decide) (by decide),(X7.out.ty.later fE.out).bW u_.out (by decide)⟩;have MI:Hid (gV w8 w.heap.size OA oc os/\dO w8 Y6 os xs/\dN w8 w.heap.size xX xY (fs.map (·.1)++[x.lb])/\iH w8 w.heap.size VA8 vc8 (vs++[(T6,t.length,d6)])/\∀(i:Nat) (v:Option Addr×Nat×Nat) (f:eT),vs[i]?=some v->fs[i]?=some f->v.2.1=f.2.length/\aA w8 Y6 v.1 v.2.2 f.2):=aD ⟨(Aj.out.1.below fE.out (aG _)).bW u_.out (by decide),(Aj.out.2.1.fr (Fr.below fE.out) (ah.refl _ _)).bW u_.out (by decide),(Aj.out.2.2.1.below fE.out (aG _)).bW u_.out (by decide),Zv,fun i v f hv hf=>⟨(Aj.out.2.2.2.2 i v f hv hf).1,((Aj.out.2.2.2.2 i v f hv hf).2.later fE.out).bW u_.out (by decide)⟩⟩;obtain ⟨BM,BN⟩:=X8.out.1.kR;clear Zv hg8)
   obtain ⟨ys,hrd,hpm,hcp⟩:=X8.out.2.1;have HYl:=aD hpm.1;have HYs:=aD (Cj hrd.read hpm);have HOl:Hid (os.length=xs.length):=aD MI.out.2.1.1;clear hrd hpm hcp;go_wp2_with (at_builtin;refine rR rfl (.tmp 38) (.tmp 40) rfl w.heap.size (m:=xs.length) (n:=(y:List Pt).length) HOl.out rfl MI.out.1 (l2:=ys) HYl.out rfl HYs.out.1 (by have:=QJ.out.len;have:=HI.out.xl;have:k*100000<=50*100000:=Nat.mul_le_mul_right _ SX;omega) vU.out.fr.size ?_;intro OA9 wV w9 nA sJ hd9);have Ji:Hid (g_ w8 w9 33 Y6):=aD (g_.grown MI.out.1 rfl sJ vU.out.wk.yP (aao xW.out))
   have WU:Hid (pK P es env b Y w R B p TA tc UA uc Y6 w9):=aD (vU.out.eX Ji.out (Fr.grown sJ fun q e=>e) (fun q e=>⟨(aB.block MI.out.1 q e).1,by
    obtain ⟨a2,ha2,e2⟩:=cK e;rw [<-e2];exact HI.out.ob a2 ha2⟩))
   have nE:Hid (LJ P es env nx p TA tc UA uc Y w R B n S (k+1) Y6 b (xs++y) (fs++[(x.lb,t)]) OA9 wV (os++ys) xX xY VA8 vc8 (vs++[(T6,t.length,d6)]) w9):=aD (by
    refine ⟨WU.out,nA,(MI.out.2.1.bW Ji.out (by decide)).app (HYs.out.2.bW Ji.out (by decide)),?_,?_,MI.out.2.2.2.1.bW Ji.out (by decide),?_,?_,?_,?_,?_,?_⟩
    ·rintro a2 rfl
     simp only [Value.ownBlock] at hd9;rcases hd9 with e|e
     ·obtain ⟨a3,ha3,e3⟩:=cK e.symm
      rw [<-e3];exact HI.out.ob a3 ha3
     ·injection e with e
      rw [e];have:=(aaj.1 vU.out.pt.blk).1;omega
    ·rw [List.map_append]
     exact MI.out.2.2.1.bW Ji.out (by decide)
    ·rw [jX,jX,HI.out.vl]
     rfl
    ·intro i v f hv hf
     rcases Nat.lt_or_ge i vs.length with hi|hi
     ·rw [aaf hi] at hv
      rw [aaf (by rw [<-HI.out.vl];exact hi)] at hf;exact ⟨(MI.out.2.2.2.2 i v f hv hf).1,(MI.out.2.2.2.2 i v f hv hf).2.bW Ji.out (by decide)⟩
     ·rw [jd hi] at hv
      rw [jd (by rw [<-HI.out.vl];exact hi),<-HI.out.vl] at hf
      cases hj:i-vs.length with
      |zero=>
       rw [hj] at hv hf;simp at hv hf;subst hv hf
       exact ⟨rfl,X8.out.2.2.bW Ji.out (by decide)⟩
      |succ j=>rw [hj] at hv;simp at hv
    ·intro f hf
     rcases List.mem_append.1 hf with hf|hf
     ·exact HI.out.gd f hf
     ·simp at hf
      subst hf;exact QJ.out.gd
    ·rw [jX,HI.out.len]
     rfl
    ·have h5:=HI.out.xl
     have h6:=QJ.out.len;rw [jX,Nat.add_mul];omega
    ·rw [show n-(k+1)=n-k-1 by omega]
     exact HX.out.2)
   clear nA sJ hd9;go_wp2_with fail;go_roundw
   case rel=>exact ⟨k+1,Y6,b,xs++y,fs++[(x.lb,t)],OA9,wV,os++ys,xX,xY,VA8,vc8,vs++[(T6,t.length,d6)],by omega,by go_num,by rw [jX],by go_num,by go_num,nE⟩
   case measure=>simp [Lib.intOf];omega
  ·have hkn:k=n:=by omega
   have xV:Hid (S=(xs,fs,ak)):=aD (by
    have:=HI.out.run;rw [hkn,Nat.sub_self] at this;unfold gy at this;injection this with this
    exact this.symm)
   have sO:Hid (jQ 6 (fs.map (·.1)) fs.length=false/\(fs.map (·.1)).Nodup/\r=(xs,eG 6 fs,ak)):=aD (by
    have:=HR.out;rw [xV.out] at this;dsimp only at this;split at this
    ·rename_i h9
     injection this with this
     exact ⟨h9.1,h9.2,this.symm⟩
    ·cases this)
   have hfl:(fs.map (·.1)).length=k:=by rw [Qx];exact HI.out.len
   have wu:=aD hfl;have I_:Hid (vs.length=k):=aD (by rw [HI.out.vl,HI.out.len]);clear hkn hfl
   have HX:=vV LA VA lc vc 6 (fs.map (·.1)) vs (fs.map (·.2)) wr (aB.read j6 HI.out.lt) (aB.read jI HI.out.vt) (by
    refine ⟨by rw [Qx,HI.out.vl],fun i v xs hv hxs=>?_⟩;rw [List.getElem?_map,Option.map_eq_some_iff] at hxs;obtain ⟨f,hf,rfl⟩:=hxs;obtain ⟨e1,e2⟩:=HI.out.sl i v f hv hf;exact ⟨e1,e2.ty.eY⟩) (by
    intro xs hxs;obtain ⟨f,hf,rfl⟩:=List.mem_map.1 hxs;have g:=HI.out.gd f hf;exact ⟨fun h=>by have:=g.fo.pos;rw [h] at this;simp at this,g.len⟩) (by rw [Qx];exact sO.out.1)
   rw [wu.out,I_.out] at HX;have HX:=aD HX;go_wp2_with fail;refine HX.out.mono ?_;rintro e w3 ⟨hb3,hpost⟩
   have HPo:Hid (∃A' cap',e= .returned (.tuple #[.slice A' (eG 6 fs).length cap',.int .i64 0])/\dK w3 wr.heap.size A' cap' (eG 6 fs)):=aD (by
    rcases hpost with ⟨h1,_⟩|⟨_,h1,_⟩|⟨_,os,A',cap',hp,ho,h1,h2⟩
    ·rw [Qx,sO.out.1] at h1
     cases h1
    ·exact absurd sO.out.2.1 h1
    ·rw [CJ 6 fs sO.out.2.1 os hp ho] at h1 h2
     exact ⟨A',cap',h1,h2⟩)
   clear hpost;obtain ⟨A',cap',hv,hown⟩:=HPo.out;subst hv;have lZ:=aD (HI.out.md.later hb3);have HT3:Hid (aA w3 Yk A' cap' (eG 6 fs)):=aD (aA.own hown fun q hq=>HI.out.md.wk.lt q hq);have xU:Hid (bP w3 Yk OA oc xs/\∀a,OA=some a->w.heap.size<=a.block):=aD ⟨(bP.YE HI.out.ot HI.out.md.wk HI.out.op).fr (Fr.below hb3) (ah.refl _ _),fun a ha=>(aB.lt HI.out.ot a ha).1⟩;clear hb3 hown;obtain ⟨r0,r1,qQ,qR⟩:=lZ.out.jF;have HE:=aD (lZ.out.done (r:=(xs,eG 6 fs,ak)) rfl xU.out.1 HT3.out xU.out.2);go_wp2_with fail;obtain ⟨wy,bN⟩:∃wy,wy=set2 w3 R (.slice OA (xs:List Pt).length oc) (.slice A' (eG 6 fs).length cap'):=⟨_,rfl⟩;have HE2:Hid (bU P es env Y r w (.returned (.agg #[.slice OA (xs:List Pt).length oc,.slice A' (eG 6 fs).length cap'])) wy/\wy.cell? ⟨R,0,none⟩=some (.slice OA (xs:List Pt).length oc)/\wy.cell? ⟨R,1,none⟩=some (.slice A' (eG 6 fs).length cap')):=aD (by rw [bN,sO.out.2.2];exact HE.out);unfold set2 at bN;rw [<-bN];have q0:=HE2.out.2.1;have q1:=HE2.out.2.2;refine bodyPost_ret (v:=.agg #[.slice OA (xs:List Pt).length oc,.slice A' (eG 6 fs).length cap']) (by simp [results,Tryz.results90,go_sem,q0,q1]) rfl HE2.out.1
theorem Pd (P:Nat) (es:List Pt) (nx:kP) (HN:Hid (lg P es nx)) (env:Env) (a:Nat) (p:Pt) (r:dV) (Y:Nat->Prop) (w:World) (h:iI P es env a Y w) (hp:es[a]?=some p) (hk:p.k=10) (hal:a<=1000000) (hG:∀env a x t b,nx env a=some (x,t,b)->pI x t) (hm:uP nx es env p (a+1)=some r):
  Calls Tryz.prog 53 #[pk P] w (bU P es env Y r w):=by
 have jM:=aD (Cj hm hp);have oI:=aD hk;refine (iG P es env a p r Y w).2 h hp hal ?_;clear h hp hal hm hk;intro eb eo ec TA tc UA uc R B G w4 H4;dsimp only [iG];intro K1 hK1 K2 hK2;obtain ⟨k0,k1,k2,k3,k4,k6,k7⟩:=H4.out.pt.cells;have ji:w4.cell? ⟨B,0,none⟩=some (.int .i64 10):=by rw [k0,oI.out]
 clear k0
 skip
 have HX:=aD (RV P es nx HN env (a+1) p r Y w4 TA UA tc uc H4.out.wk H4.out.pt.T H4.out.pt.U hG jM.out.1);unfold pk pv at HX;have k5:w4.cell? ⟨B,5,none⟩=some (.int .i64 p.num):=by simp [Ck,H4.out.pt.blk]
 obtain ⟨k0,_⟩:=H4.out.pt.cells;rw [oI.out] at HX k0;go_wp2_with fail;refine HX.out.mono ?_;rintro e w5 ⟨Y5,hf,hy,hkk,A5,c5,T5,d5,rfl,hx,ht,hA⟩;clear HX;have H5:=aD (H4.out.step hf hy hkk);have VX:Hid (bP w5 Y5 A5 c5 r.1):=aD hx;have VT:Hid (aA w5 Y5 T5 d5 r.2.1):=aD ht;have VA:Hid (∀a,A5=some a->w.heap.size<=a.block):=aD fun a ha=>Ed H4.out.fr.size (hA a ha);clear hf hy hkk hx ht hA
 try clear k0 k1 k2 k3 k4 k6 k7
 try clear ji
 try clear k1 k2 k3 k4 k6 k7
 try clear k5
 skip
 skip
 have HE:=aD (H5.out.done (r:=(r.1,r.2.1,r.2.2)) rfl (VX.out) (VT.out) (VA.out));obtain ⟨r0,r1,qQ,qR⟩:=H5.out.jF;go_wp2_with fail;obtain ⟨wy,bN⟩:∃wy,wy=set2 w5 R (.slice A5 (r.1:List Pt).length c5) (.slice T5 (r.2.1:List Nd).length d5):=⟨_,rfl⟩;have HE2:Hid (bU P es env Y (r.1,r.2.1,r.2.2) w (.returned (.agg #[.slice A5 (r.1:List Pt).length c5,.slice T5 (r.2.1:List Nd).length d5])) wy/\wy.cell? ⟨R,0,none⟩=some (.slice A5 (r.1:List Pt).length c5)/\wy.cell? ⟨R,1,none⟩=some (.slice T5 (r.2.1:List Nd).length d5)):=aD (by rw [bN];exact HE.out);unfold set2 at bN
 first|rw [<-bN]|(simp only [aaB] at bN;rw [<-bN])
 have q0:=HE2.out.2.1;have q1:=HE2.out.2.2;refine bodyPost_ret (v:=.agg #[.slice A5 (r.1:List Pt).length c5,.slice T5 (r.2.1:List Nd).length d5]) (by simp [results,Tryz.results53,go_sem,q0,q1]) rfl HE2.out.1
theorem RX (P:Nat) (es:List Pt) (nx:kP) (HN:Hid (lg P es nx)) (env:Env) (a:Nat) (p:Pt) (r:dV) (Y:Nat->Prop) (w:World) (h:iI P es env a Y w) (hp:es[a]?=some p) (hk:p.k=11) (hal:a<=1000000) (hG:∀env a x t b,nx env a=some (x,t,b)->pI x t) (hm:Gn nx env p (a+1)=some r):
  Calls Tryz.prog 53 #[pk P] w (bU P es env Y r w):=by
 have jM:=aD (Cj hm hp);have oI:=aD hk;refine (iG P es env a p r Y w).2 h hp hal ?_;clear h hp hal hm hk;intro eb eo ec TA tc UA uc R B G w4 H4;dsimp only [iG];intro K1 hK1 K2 hK2;obtain ⟨k0,k1,k2,k3,k4,k6,k7⟩:=H4.out.pt.cells;have ji:w4.cell? ⟨B,0,none⟩=some (.int .i64 11):=by rw [k0,oI.out]
 clear k0;obtain ⟨x,t,b,h1,hr⟩:=bH jM.out.1;have hgx:=hG _ _ _ _ _ h1
 obtain ⟨u,hfu,hr2⟩:∃u,bJ t p.nm=some u/\(p::x,u,b)=r:=by
  cases hfm:bJ t p.nm with
  |none=>rw [hfm] at hr;cases hr
  |some u=>rw [hfm] at hr;injection hr with hr;exact ⟨u,rfl,hr⟩
 subst hr2;have uL:=aD h1;have Zw:=aD hfu;have fH:=aD hgx;clear hr h1 hfu hgx jM;have HX:=aD (HN.out env (a+1) (x,t,b) Y w4 uL.out H4.out.wk);unfold pk at HX;go_wp2_with fail;refine HX.out.mono ?_;rintro e w5 ⟨Y5,hf,hy,hkk,A5,c5,T5,d5,rfl,hx,ht,hA⟩;clear HX;have H5:=aD (H4.out.step hf hy hkk);have hV:Hid (bP w5 Y5 A5 c5 x/\aA w5 Y5 T5 d5 t/\∀a,A5=some a->w.heap.size<=a.block):=aD ⟨hx,ht,fun a ha=>Ed H4.out.fr.size (hA a ha)⟩;clear hf hy hkk hx ht hA
 try clear k0 k1 k2 k3 k4 k6 k7
 try clear ji
 try clear k1 k2 k3 k4 k6 k7
 go_upto_region 37 with fail
 obtain ⟨w6,hw⟩:∃w6,w6=w5.alloc (.cells #[.slice A5 (x:List Pt).length c5,.slice T5 (t:List Nd).length d5] 65):=⟨_,rfl⟩;obtain ⟨b6,hb⟩:∃b6,b6=w5.heap.size:=⟨_,rfl⟩;have hbb:Below w5.heap.size w5 w6:=by rw [hw];exact aj (aF _ _) _
 have H6:=aD (H5.out.later hbb);have X6:Hid (jr w b6 A5 c5 x T5 d5 t Y5 w6):=aD ⟨by rw [hw,hb];exact aS.new H5.out.wk.lt _ _,hV.out.1.fr (Fr.below hbb) (ah.refl _ _),hV.out.2.1.later hbb,hV.out.2.2⟩;rw [<-hw,<-hb];clear hw hb hbb hV;obtain ⟨k0,k1,k2,k3,k4,k6,k7⟩:=H6.out.pt.cells;obtain ⟨kL,kM⟩:=X6.out.cells;have HX:=aD (sK T5 d5 t p.nm w6 X6.out.ty.ty.eY fH.out.gd X6.out.ty.cap);go_wp2_with fail;refine HX.out.mono ?_;rintro e w7 ⟨hb,hq⟩;clear HX;rw [Zw.out] at hq;obtain ⟨A9,c9,rfl,hown⟩:=hq;have H7:=aD (H6.out.later hb);replace X6:=aD (X6.out.later hb);have cu:Hid (aA w7 Y5 A9 c9 u):=aD (aA.own hown fun q hq=>H6.out.wk.lt q hq);clear hown hb
 try clear k0 k1 k2 k3 k4 k6 k7
 try clear ji
 try clear k1 k2 k3 k4 k6 k7
 clear kL kM;obtain ⟨k0,k1,k2,k3,k4,k6,k7⟩:=H7.out.pt.cells;obtain ⟨kL,kM⟩:=X6.out.cells;obtain ⟨vs,hrd,hpm,hcp⟩:=X6.out.ex;have hvl:=hpm.1;have BI:=aD (Cj hrd.read hpm);have Je:=aD hvl;clear hrd hpm hcp hvl;obtain ⟨r0,r1,qQ,qR⟩:=H7.out.jF;go_wp2_with (at_builtin;refine rR rfl (.tmp 218) (.tmp 220) rfl w.heap.size (m:=1) (n:=(x:List Pt).length) (l:=[⟨p.k,p.lb,p.nm,p.bd,p.mn,p.num,TA,p.T.length,tc,UA,p.U.length,uc⟩]) rfl rfl H7.out.own (l2:=vs) Je.out rfl BI.out.1 (by have:=fH.out.len;omega) H7.out.fr.size ?_;intro A8 c8 w8 hown hg hd;have jv:=aD (H7.out.app BI.out.2 hown hg hd);have hlx:1+(x:List Pt).length=(p::x).length:=(by rw [mX];omega);have hR:=jv.out.2.2.2.1;have r0:w8.cell? ⟨R,0,none⟩=some (.slice none 0 0):=(by simp [Ck,hR.blk]);have r1:w8.cell? ⟨R,1,none⟩=some (.slice none 0 0):=(by simp [Ck,hR.blk]);have qQ:w8.frozen? ⟨R,0,none⟩=false:=(by simp [EJ,hR.blk]);have qR:w8.frozen? ⟨R,1,none⟩=false:=(by simp [EJ,hR.blk]);obtain ⟨k0,k1,k2,k3,k4,k6,k7⟩:=jv.out.2.2.2.2.1.cells;clear hown hg hd hR);have HE:=aD (yA (r:=(p::x,u,b)) (TX:=A9) (tx:=c9) jv.out.2.2.2.2.2.1 H7.out.yn jv.out.2.2.1 jv.out.2.2.2.1 H7.out.pr H7.out.rw jv.out.2.2.2.2.2.2.1 (cu.out.bW jv.out.1 (by decide)) jv.out.2.2.2.2.2.2.2);obtain ⟨wy,bN⟩:∃wy,wy=set2 w8 R (.slice A8 ((p::x):List Pt).length c8) (.slice A9 (u:List Nd).length c9):=⟨_,rfl⟩
 have HE2:Hid (bU P es env Y ((p::x),u,b) w (.returned (.agg #[.slice A8 ((p::x):List Pt).length c8,.slice A9 (u:List Nd).length c9])) wy/\wy.cell? ⟨R,0,none⟩=some (.slice A8 ((p::x):List Pt).length c8)/\wy.cell? ⟨R,1,none⟩=some (.slice A9 (u:List Nd).length c9)):=aD (by rw [bN];exact HE.out);unfold set2 at bN
 first|(rw [mX] at bN;rw [<-bN])|(rw [hlx];rw [<-bN])
 have q0:=HE2.out.2.1;have q1:=HE2.out.2.2;refine bodyPost_ret (v:=.agg #[.slice A8 ((p::x):List Pt).length c8,.slice A9 (u:List Nd).length c9]) (by simp [results,Tryz.results53,go_sem,q0,q1]) rfl HE2.out.1
theorem RY (P:Nat) (es:List Pt) (nx:kP) (HN:Hid (lg P es nx)) (env:Env) (a:Nat) (p:Pt) (r:dV) (Y:Nat->Prop) (w:World) (h:iI P es env a Y w) (hp:es[a]?=some p) (hk:p.k=12) (hal:a<=1000000) (BG:Gd p.T) (BH:p.T.length<=5000000) (hG:∀env a x t b,nx env a=some (x,t,b)->pI x t) (hm:Gp nx env p (a+1)=some r):
  Calls Tryz.prog 53 #[pk P] w (bU P es env Y r w):=by
 have jM:=aD (Cj hm hp);have oI:=aD hk;refine (iG P es env a p r Y w).2 h hp hal ?_;clear h hp hal hm hk;intro eb eo ec TA tc UA uc R B G w4 H4;dsimp only [iG];intro K1 hK1 K2 hK2;obtain ⟨k0,k1,k2,k3,k4,k6,k7⟩:=H4.out.pt.cells;have ji:w4.cell? ⟨B,0,none⟩=some (.int .i64 12):=by rw [k0,oI.out]
 clear k0;obtain ⟨x,t,b,h1,hr⟩:=bH jM.out.1
 obtain ⟨u,hfu,hfl,hr2⟩:∃u,bJ p.T p.nm=some u/\(u≠[]/\u.length<=5000000)/\(p::toM x t u,p.T,b)=r:=by
  try dsimp only at hr
  cases hfm:bJ p.T p.nm with
  |none=>rw [hfm] at hr;cases hr
  |some u=>
   rw [hfm] at hr;dsimp only at hr;by_cases hl:u≠[]/\u.length<=5000000
   ·rw [if_pos hl] at hr
    injection hr with hr
    exact ⟨u,rfl,hl,hr⟩
   ·rw [if_neg hl] at hr
    cases hr
 subst hr2;have uL:=aD h1;have Zw:=aD (Cj hfu hfl);have fH:=aD (hG _ _ _ _ _ h1);have Gs:=aD (Cj BG BH);clear hr h1 hfu hfl BG BH jM;have HX:=aD (HN.out env (a+1) (x,t,b) Y w4 uL.out H4.out.wk);unfold pk at HX;go_wp2_with fail;refine HX.out.mono ?_;rintro e w5 ⟨Y5,hf,hy,hkk,A5,c5,T5,d5,rfl,hx,ht,hA⟩;clear HX;have H5:=aD (H4.out.step hf hy hkk);have hV:Hid (bP w5 Y5 A5 c5 x/\aA w5 Y5 T5 d5 t/\∀a,A5=some a->w.heap.size<=a.block):=aD ⟨hx,ht,fun a ha=>Ed H4.out.fr.size (hA a ha)⟩;clear hf hy hkk hx ht hA
 try clear k0 k1 k2 k3 k4 k6 k7
 try clear ji
 try clear k1 k2 k3 k4 k6 k7
 go_upto_region 41 with fail
 obtain ⟨w6,hw⟩:∃w6,w6=w5.alloc (.cells #[.slice A5 (x:List Pt).length c5,.slice T5 (t:List Nd).length d5] 65):=⟨_,rfl⟩;obtain ⟨b6,hb⟩:∃b6,b6=w5.heap.size:=⟨_,rfl⟩;have hbb:Below w5.heap.size w5 w6:=by rw [hw];exact aj (aF _ _) _
 have H6:=aD (H5.out.later hbb);have X6:Hid (jr w b6 A5 c5 x T5 d5 t Y5 w6):=aD ⟨by rw [hw,hb];exact aS.new H5.out.wk.lt _ _,hV.out.1.fr (Fr.below hbb) (ah.refl _ _),hV.out.2.1.later hbb,hV.out.2.2⟩;rw [<-hw,<-hb];clear hw hb hbb hV;obtain ⟨k0,k1,k2,k3,k4,k6,k7⟩:=H6.out.pt.cells;obtain ⟨kL,kM⟩:=X6.out.cells;have HX:=aD (sK TA tc p.T p.nm w6 H6.out.pt.T.ty.eY Gs.out.1 H6.out.pt.T.cap);go_wp2_with fail;refine HX.out.mono ?_;rintro e w7 ⟨hb,hq⟩;clear HX;rw [Zw.out.1] at hq;obtain ⟨A9,c9,rfl,hown⟩:=hq;have H7:=aD (H6.out.later hb);replace X6:=aD (X6.out.later hb);have cu:Hid (aA w7 Y5 A9 c9 u):=aD (aA.own hown fun q hq=>H6.out.wk.lt q hq);clear hown hb
 try clear k0 k1 k2 k3 k4 k6 k7
 try clear ji
 try clear k1 k2 k3 k4 k6 k7
 try clear kL kM
 obtain ⟨k0,k1,k2,k3,k4,k6,k7⟩:=H7.out.pt.cells;obtain ⟨kL,kM⟩:=X6.out.cells;go_upto_region 42 with fail
 obtain ⟨SS,hSS⟩:∃SS:World->Prop,SS=fun v=>v.cell? ⟨B,2,none⟩=some (.string p.nm)/\v.cell? ⟨B,3,none⟩=some (.string p.bd)/\v.cell? ⟨B,6,none⟩=some (.slice TA p.T.length tc)/\v.cell? ⟨B,7,none⟩=some (.slice UA p.U.length uc)/\v.cell? ⟨b6,0,none⟩=some (.slice A5 (x:List Pt).length c5)/\v.cell? ⟨b6,1,none⟩=some (.slice T5 (t:List Nd).length d5):=⟨_,rfl⟩;obtain ⟨w8,hwd⟩:∃w8,w8=w7.drew:=⟨_,rfl⟩;have hb:Below w7.heap.size w7 w8:=by rw [hwd];exact (aF _ _).drew
 have H8:=aD (H7.out.later hb);replace X6:=aD (X6.out.later hb);replace cu:=aD (cu.out.fr (Fr.below hb) (ah.refl _ _));clear hb
 try clear k0 k1 k2 k3 k4 k6 k7
 try clear ji
 try clear k1 k2 k3 k4 k6 k7
 try clear kL kM
 have Gu:SS w8:=by rw [hSS];exact ⟨H8.out.pt.cells.2.2.1,H8.out.pt.cells.2.2.2.1,H8.out.pt.cells.2.2.2.2.2.1,H8.out.pt.cells.2.2.2.2.2.2,X6.out.cells.1,X6.out.cells.2⟩
 refine aI (S:=SS) [8] (by kernel_rfl) (by rw [<-hwd];exact Gu) (fun hHeld=>?_);rw [<-hwd] at hHeld ⊢;clear hwd hHeld;refine aL 0 [8] (some 236) rfl rfl ?_;refine aL 1 [8] (some 237) rfl rfl ?_;refine aL 2 [8] (some 238) rfl rfl ?_;refine aL 5 [8] (some 241) rfl rfl ?_;refine aL 6 [8] (some 242) rfl rfl ?_;have HX:=aD (iq A5 c5 x T5 d5 t A9 c9 u Y5 w8 X6.out.ex fH.out.ne X6.out.ty (cu.out) fH.out.pJ (Zw.out.2.1) H8.out.wk.lt fH.out.len fH.out.tl (Zw.out.2.2));refine bD 3 (some 239) rfl rfl (by kernel_rfl) (by rfl) (by go_simp) HX.out ?_;rintro e w9 ⟨hb,E9,e9,rfl,hxe⟩;clear HX;have H9:=aD (H8.out.later hb);replace X6:=aD (X6.out.later hb);replace cu:=aD (cu.out.fr (Fr.below hb) (ah.refl _ _));have pF:Hid (bP w9 Y5 E9 e9 (toM x t u)):=aD hxe;clear hb hxe;have CZ:SS w9:=by rw [hSS];exact ⟨H9.out.pt.cells.2.2.1,H9.out.pt.cells.2.2.2.1,H9.out.pt.cells.2.2.2.2.2.1,H9.out.pt.cells.2.2.2.2.2.2,X6.out.cells.1,X6.out.cells.2⟩
 refine ⟨_,rfl,CZ,?_⟩;refine aC ?_;obtain ⟨vs,hrd,hpm,hcp⟩:=pF.out;have Je:=aD hpm.1;have BI:=aD (Cj hrd.read hpm);clear hrd hpm hcp;refine dQ 4 rfl (by kernel_rfl) (by rfl) ?_;refine Gq (.tmp 236) (.tmp 239) rfl w.heap.size (m:=1) (n:=((toM x t u):List Pt).length) (l:=[⟨p.k,p.lb,p.nm,p.bd,p.mn,p.num,TA,p.T.length,tc,UA,p.U.length,uc⟩]) rfl rfl H9.out.own (l2:=vs) Je.out rfl BI.out.1 (k:=((toM x t u):List Pt).length+1) (by omega) (by have h5:=fH.out.len;have h6:=bS x t u;omega) H9.out.fr.size ?_;intro Bv c10 dA hown hg hd;have jv:=aD (H9.out.app BI.out.2 hown hg hd);clear hown hg hd;have qX:SS dA:=by rw [hSS];exact ⟨jv.out.2.2.2.2.1.cells.2.2.1,jv.out.2.2.2.2.1.cells.2.2.2.1,jv.out.2.2.2.2.1.cells.2.2.2.2.2.1,jv.out.2.2.2.2.1.cells.2.2.2.2.2.2,(X6.out.box.eX jv.out.1 (by decide)).kR.1,(X6.out.box.eX jv.out.1 (by decide)).kR.2⟩
 have Yt:Hid (aA dA Y5 TA tc p.T):=aD ((H9.out.pt.T).bW jv.out.1 (by decide));refine ⟨fun _=>qX,?_⟩;refine aC ?_;refine aL 7 [8] (some 243) rfl rfl ?_;have hR:=jv.out.2.2.2.1;have r0:dA.cell? ⟨R,0,none⟩=some (.slice none 0 0):=by simp [Ck,hR.blk]
 have r1:dA.cell? ⟨R,1,none⟩=some (.slice none 0 0):=by simp [Ck,hR.blk]
 have qQ:dA.frozen? ⟨R,0,none⟩=false:=by simp [EJ,hR.blk]
 have qR:dA.frozen? ⟨R,1,none⟩=false:=by simp [EJ,hR.blk]
 clear hR;refine je 8 none (w':=?_) rfl rfl (by kernel_rfl) (by rfl) ?_ (zL (by kernel_rfl)) ?_
 rotate_left
 ·(go_simp;try with_reducible rfl)
 refine aC ?_;refine bG (by kernel_rfl) ?_ _;have HE:=aD (yA (r:=(p::(toM x t u),p.T,b)) (TX:=TA) (tx:=tc) jv.out.2.2.2.2.2.1 H9.out.yn jv.out.2.2.1 jv.out.2.2.2.1 H9.out.pr H9.out.rw jv.out.2.2.2.2.2.2.1 (Yt.out) jv.out.2.2.2.2.2.2.2);go_wp2_with fail;obtain ⟨wy,bN⟩:∃wy,wy=set2 dA R (.slice Bv ((p::(toM x t u)):List Pt).length c10) (.slice TA (p.T:List Nd).length tc):=⟨_,rfl⟩;have HE2:Hid (bU P es env Y ((p::(toM x t u)),p.T,b) w (.returned (.agg #[.slice Bv ((p::(toM x t u)):List Pt).length c10,.slice TA (p.T:List Nd).length tc])) wy/\wy.cell? ⟨R,0,none⟩=some (.slice Bv ((p::(toM x t u)):List Pt).length c10)/\wy.cell? ⟨R,1,none⟩=some (.slice TA (p.T:List Nd).length tc)):=aD (by rw [bN];exact HE.out);unfold set2 at bN
 first|rw [<-bN]|(rw [mX] at bN;rw [<-bN])
 have q0:=HE2.out.2.1;have q1:=HE2.out.2.2;refine bodyPost_ret (v:=.agg #[.slice Bv ((p::(toM x t u)):List Pt).length c10,.slice TA (p.T:List Nd).length tc]) (by simp [results,Tryz.results53,go_sem,q0,q1]) rfl HE2.out.1
end Go.Proofs.YtmjdhfbnmmdjiaaGreat
