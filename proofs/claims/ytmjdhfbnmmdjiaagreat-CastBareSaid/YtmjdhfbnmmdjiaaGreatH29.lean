/- Laid together by a tool from the texts of this seat: CxCase CxOp CxRws CxRows CxGet CxInj. Conditions: each theorem's own. -/
import Derived.Test.YtmjdhfbnmmdjiaaGreatH22
import Derived.Test.YtmjdhfbnmmdjiaaGreatH28
import Derived.Test.YtmjdhfbnmmdjiaaGreatH26
set_option maxHeartbeats 8000000
set_option maxRecDepth 100000
namespace Go.Proofs.YtmjdhfbnmmdjiaaGreat
open Go.Lib renaming hid->aB
open _root_.And renaming intro->DF
open Go.RowKit.Below renaming refl->aI
open _root_.Nat renaming le_refl->aK,le_trans->vV,le_of_lt->aaq
open _root_.List renaming length_append->lS,length_map->OX,length_cons->oG,length_singleton->aaA,flatMap_cons->iW,getElem?_append_left->YX,getElem?_append_right->kg
open Go.World renaming cell?->DI,frozen?->Gb,size_alloc->FT,block_lt_of_cell?->FD
open _root_.Array renaming getElem?_eq_some_iff->aai
open Go.RowKit
theorem QM (P:Nat) (es:List Pt) (nx:kW) (HN:Hid (lJ P es nx)) (env:Env) (a:Nat) (p:Pt) (r:eF) (Y:Nat->Prop) (w:World) (h:iV P es env a Y w) (hp:es[a]?=some p) (hk:p.k=7) (hal:a<=1000000) (hvl:env.length<=900000) (hok:dN es) (hG:∀env a x t b,nx env a=some (x,t,b)->qQ x t) (hm:xL nx es env p (a+1)=some r):
  Calls Tryz.prog 53 #[pk P] w (bU P es env Y r w):=by
 have jW:=aB (DF hm hp);have pR:=aB hk;refine (iR P es env a p r Y w).2 h hp hal ?_;clear h hp hal hm hk;intro eb eo ec TA tc UA uc R B G w4 H4;dsimp only [iR];intro K1 hK1 K2 hK2;obtain ⟨k0,k1,k2,k3,k4,k6,k7⟩:=H4.out.pt.cells;have jr:w4.cell? ⟨B,0,none⟩=some (.int .i64 7):=by rw [k0,pR.out]
 clear k0
 skip
 have HX:=aB (TB P es nx HN env (a+1) p r Y w4 TA UA tc uc H4.out.wk H4.out.pt.T H4.out.pt.U hvl hok hG jW.out.1);unfold pk pv at HX;have k5:w4.cell? ⟨B,5,none⟩=some (.int .i64 p.num):=by simp [DI,H4.out.pt.blk]
 obtain ⟨k0,_⟩:=H4.out.pt.cells;rw [pR.out] at HX k0;go_wp2_with fail;refine HX.out.mono ?_;rintro e w5 ⟨Y5,hf,hy,hkk,A5,c5,T5,d5,rfl,hx,ht,hA⟩;clear HX;have H5:=aB (H4.out.step hf hy hkk);have VX:Hid (bN w5 Y5 A5 c5 r.1):=aB hx;have VT:Hid (aF w5 Y5 T5 d5 r.2.1):=aB ht;have VA:Hid (∀a,A5=some a->w.heap.size<=a.block):=aB fun a ha=>vV H4.out.fr.size (hA a ha);clear hf hy hkk hx ht hA
 try clear k0 k1 k2 k3 k4 k6 k7
 try clear jr
 try clear k1 k2 k3 k4 k6 k7
 try clear k5
 skip
 skip
 have HE:=aB (H5.out.done (r:=(r.1,r.2.1,r.2.2)) rfl (VX.out) (VT.out) (VA.out));obtain ⟨r0,r1,rU,rV⟩:=H5.out.jN;go_wp2_with fail;obtain ⟨wy,bK⟩:∃wy,wy=set2 w5 R (.slice A5 (r.1:List Pt).length c5) (.slice T5 (r.2.1:List Nd).length d5):=⟨_,rfl⟩;have HE2:Hid (bU P es env Y (r.1,r.2.1,r.2.2) w (.returned (.agg #[.slice A5 (r.1:List Pt).length c5,.slice T5 (r.2.1:List Nd).length d5])) wy/\wy.cell? ⟨R,0,none⟩=some (.slice A5 (r.1:List Pt).length c5)/\wy.cell? ⟨R,1,none⟩=some (.slice T5 (r.2.1:List Nd).length d5)):=aB (by rw [bK];exact HE.out);unfold set2 at bK
 first|rw [<-bK]|(simp only [aaA] at bK;rw [<-bK])
 have q0:=HE2.out.2.1;have q1:=HE2.out.2.2;refine bodyPost_ret (v:=.agg #[.slice A5 (r.1:List Pt).length c5,.slice T5 (r.2.1:List Nd).length d5]) (by simp [results,Tryz.results53,go_sem,q0,q1]) rfl HE2.out.1
theorem XF (P:Nat) (es:List Pt) (nx:kW) (HN:Hid (lJ P es nx)) (env:Env) (a:Nat) (p:Pt) (r:eF) (Y:Nat->Prop) (w:World) (h:iV P es env a Y w) (hp:es[a]?=some p) (hk:p.k=9) (hal:a<=1000000) (hG:∀env a x t b,nx env a=some (x,t,b)->qQ x t) (hm:Xk nx env p (a+1)=some r):
  Calls Tryz.prog 53 #[pk P] w (bU P es env Y r w):=by
 have jW:=aB (DF hm hp);have pR:=aB hk;refine (iR P es env a p r Y w).2 h hp hal ?_;clear h hp hal hm hk;intro eb eo ec TA tc UA uc R B G w4 H4;dsimp only [iR];intro K1 hK1 K2 hK2;obtain ⟨k0,k1,k2,k3,k4,k6,k7⟩:=H4.out.pt.cells;have jr:w4.cell? ⟨B,0,none⟩=some (.int .i64 9):=by rw [k0,pR.out]
 clear k0;obtain ⟨x,t,b,h1,hr⟩:=bD jW.out.1;obtain ⟨y,u,c,h2,hr⟩:=bD hr;injection hr with hr
 subst hr;have vP:=aB h1;have Nj:=aB h2;have zy:=aB (hG _ _ _ _ _ h1);have wN:=aB (hG _ _ _ _ _ h2);clear h1 h2 jW;have HX:=aB (HN.out env (a+1) (x,t,b) Y w4 vP.out H4.out.wk);unfold pk at HX;go_wp2_with fail;refine HX.out.mono ?_;rintro e w5 ⟨Y5,hf,hy,hkk,A5,c5,T5,d5,rfl,hx,ht,hA⟩;clear HX;have H5:=aB (H4.out.step hf hy hkk);have vR:Hid (bN w5 Y5 A5 c5 x):=aB hx;have vS:Hid (aF w5 Y5 T5 d5 t):=aB ht;have VA5:Hid (∀a,A5=some a->w.heap.size<=a.block):=aB fun a ha=>vV H4.out.fr.size (hA a ha);clear hf hy hkk hx ht hA
 try clear k0 k1 k2 k3 k4 k6 k7
 try clear jr
 try clear k1 k2 k3 k4 k6 k7
 obtain ⟨k0,k1,k2,k3,k4,k6,k7⟩:=H5.out.pt.cells;have HX:=aB (HN.out env b (y,u,c) Y5 w5 Nj.out H5.out.wk);unfold pk at HX;go_wp2_with fail;refine HX.out.mono ?_;rintro e w6 ⟨Y6,hf,hy,hkk,A6,c6,T6,d6,rfl,hx,ht,hA⟩;clear HX;have H6:=aB (H5.out.step hf hy hkk);replace vR:=aB (vR.out.fr hf hy);replace vS:=aB (vS.out.fr hf hy);have zA:Hid (bN w6 Y6 A6 c6 y):=aB hx;have zB:Hid (aF w6 Y6 T6 d6 u):=aB ht;have VA6:Hid (∀a,A6=some a->w.heap.size<=a.block):=aB fun a ha=>vV H5.out.fr.size (hA a ha);clear hf hy hkk hx ht hA
 try clear k0 k1 k2 k3 k4 k6 k7
 try clear jr
 try clear k1 k2 k3 k4 k6 k7
 obtain ⟨k0,k1,k2,k3,k4,k6,k7⟩:=H6.out.pt.cells;go_upto_region 31 with fail
 obtain ⟨w7,hw7⟩:∃w7,w7=w6.alloc (.cells #[.slice A5 (x:List Pt).length c5,.slice T5 (t:List Nd).length d5] 65):=⟨_,rfl⟩;obtain ⟨b7,l8⟩:∃b7,b7=w6.heap.size:=⟨_,rfl⟩;have hz7:w7.heap.size=w6.heap.size+1:=by rw [hw7];exact FT _ _
 have hb:Below w6.heap.size w6 w7:=by rw [hw7];exact au (aI _ _) _
 have H7:=aB (H6.out.later hb);replace vR:=aB (vR.out.fr (Fr.below hb) (aj.refl _ _));replace vS:=aB (vS.out.fr (Fr.below hb) (aj.refl _ _));replace zA:=aB (zA.out.fr (Fr.below hb) (aj.refl _ _));replace zB:=aB (zB.out.fr (Fr.below hb) (aj.refl _ _));have X7:Hid (jG w b7 A5 c5 x T5 d5 t Y6 w7):=aB ⟨by rw [hw7,l8];exact aQ.new H6.out.wk.lt _ _,vR.out,vS.out,VA5.out⟩;clear hb;obtain ⟨w8,hw8⟩:∃w8,w8=w7.alloc (.cells #[.slice A6 (y:List Pt).length c6,.slice T6 (u:List Nd).length d6] 65):=⟨_,rfl⟩;obtain ⟨b8,ni⟩:∃b8,b8=w7.heap.size:=⟨_,rfl⟩;have Nh:w8.heap.size=w7.heap.size+1:=by rw [hw8];exact FT _ _
 have hb:Below w7.heap.size w7 w8:=by rw [hw8];exact au (aI _ _) _
 have H8:=aB (H7.out.later hb);replace X7:=aB (X7.out.later hb);replace vR:=aB (vR.out.fr (Fr.below hb) (aj.refl _ _));replace vS:=aB (vS.out.fr (Fr.below hb) (aj.refl _ _));replace zA:=aB (zA.out.fr (Fr.below hb) (aj.refl _ _));replace zB:=aB (zB.out.fr (Fr.below hb) (aj.refl _ _));have X8:Hid (jG w b8 A6 c6 y T6 d6 u Y6 w8):=aB ⟨by rw [hw8,ni];exact aQ.new H7.out.wk.lt _ _,zA.out,zB.out,VA6.out⟩;clear hb
 first|rw [<-hw7]|skip
 first|rw [<-hw8]|skip
 have hc8:b8=w6.heap.size+1:=by rw [ni,hz7]
 first|rw [<-hc8]|rw [<-ni]|skip
 first|rw [<-l8]|skip
 try clear k0 k1 k2 k3 k4 k6 k7
 try clear jr
 try clear k1 k2 k3 k4 k6 k7
 try clear Dg Dh
 try clear zw zx
 clear hw8 hw7 hc8 ni Nh l8 hz7;clear vR vS VA5 zA zB VA6;obtain ⟨k0,k1,k2,k3,k4,k6,k7⟩:=H8.out.pt.cells;obtain ⟨Dg,Dh⟩:=X7.out.cells;obtain ⟨zw,zx⟩:=X8.out.cells;have HX:=aB (Te p.nm w8);go_wp2_with fail;refine HX.out.mono ?_;rintro e w9 ⟨A9,c9,B9,d9,rfl,hown,hown2,hb⟩;clear HX;have H9:=aB (H8.out.later hb);replace X7:=aB (X7.out.later hb);replace X8:=aB (X8.out.later hb);have b_:Hid (aF w9 Y6 A9 c9 (aH (cZ p.nm))):=aB (aF.own hown fun q hq=>H8.out.wk.lt q hq);have eT:Hid (aF w9 Y6 B9 d9 (aH (fA p.nm))):=aB (aF.own hown2 fun q hq=>H8.out.wk.lt q hq);clear hown hown2 hb
 try clear k0 k1 k2 k3 k4 k6 k7
 try clear jr
 try clear k1 k2 k3 k4 k6 k7
 try clear Dg Dh
 try clear zw zx
 obtain ⟨k0,k1,k2,k3,k4,k6,k7⟩:=H9.out.pt.cells;obtain ⟨Dg,Dh⟩:=X7.out.cells;obtain ⟨zw,zx⟩:=X8.out.cells;go_upto_region 32 with fail
 obtain ⟨SS,hSS⟩:∃SS:World->Prop,SS=fun v=>v.cell? ⟨B,2,none⟩=some (.string p.nm)/\v.cell? ⟨B,3,none⟩=some (.string p.bd)/\v.cell? ⟨B,6,none⟩=some (.slice TA p.T.length tc)/\v.cell? ⟨B,7,none⟩=some (.slice UA p.U.length uc)/\v.cell? ⟨b7,0,none⟩=some (.slice A5 (x:List Pt).length c5)/\v.cell? ⟨b7,1,none⟩=some (.slice T5 (t:List Nd).length d5)/\v.cell? ⟨b8,0,none⟩=some (.slice A6 (y:List Pt).length c6)/\v.cell? ⟨b8,1,none⟩=some (.slice T6 (u:List Nd).length d6):=⟨_,rfl⟩;obtain ⟨cK,hwd⟩:∃cK,cK=w9.drew:=⟨_,rfl⟩;have hb:Below w9.heap.size w9 cK:=by rw [hwd];exact (aI _ _).drew
 have dR:=aB (H9.out.later hb);replace X7:=aB (X7.out.later hb);replace X8:=aB (X8.out.later hb);replace b_:=aB (b_.out.fr (Fr.below hb) (aj.refl _ _));replace eT:=aB (eT.out.fr (Fr.below hb) (aj.refl _ _));clear hb
 try clear k0 k1 k2 k3 k4 k6 k7
 try clear jr
 try clear k1 k2 k3 k4 k6 k7
 try clear Dg Dh
 try clear zw zx
 have rZ:SS cK:=by rw [hSS];exact ⟨dR.out.pt.cells.2.2.1,dR.out.pt.cells.2.2.2.1,dR.out.pt.cells.2.2.2.2.2.1,dR.out.pt.cells.2.2.2.2.2.2,X7.out.cells.1,X7.out.cells.2,X8.out.cells.1,X8.out.cells.2⟩
 refine aG (S:=SS) [11] (by kernel_rfl) (by rw [<-hwd];exact rZ) (fun hHeld=>?_);rw [<-hwd] at hHeld ⊢;clear hwd hHeld;refine aM 0 [11] (some 190) rfl rfl ?_;refine aM 1 [11] (some 191) rfl rfl ?_;refine aM 2 [11] (some 192) rfl rfl ?_;refine aM 4 [11] (some 194) rfl rfl ?_;refine aM 5 [11] (some 195) rfl rfl ?_;refine aM 9 [11] (some 199) rfl rfl ?_;have HX:=aB (iH A5 c5 x T5 d5 t A9 c9 (aH (cZ p.nm)) Y6 cK X7.out.ex zy.out.ne X7.out.ty (b_.out) zy.out.nY (by simp [aH]) dR.out.wk.lt zy.out.len zy.out.tl (by simp [aH]));refine aY 3 (some 193) rfl rfl (by kernel_rfl) (by rfl) (by go_simp) HX.out ?_;rintro e fJ ⟨hb,BR,e11,rfl,hxe⟩;clear HX;have dD:=aB (dR.out.later hb);replace X7:=aB (X7.out.later hb);replace X8:=aB (X8.out.later hb);replace b_:=aB (b_.out.fr (Fr.below hb) (aj.refl _ _));replace eT:=aB (eT.out.fr (Fr.below hb) (aj.refl _ _));have mD:Hid (bN fJ Y6 BR e11 (toM x t (aH (cZ p.nm)))):=aB hxe;clear hb hxe;have rW:SS fJ:=by rw [hSS];exact ⟨dD.out.pt.cells.2.2.1,dD.out.pt.cells.2.2.2.1,dD.out.pt.cells.2.2.2.2.2.1,dD.out.pt.cells.2.2.2.2.2.2,X7.out.cells.1,X7.out.cells.2,X8.out.cells.1,X8.out.cells.2⟩
 refine ⟨_,rfl,rW,?_⟩;refine aA ?_;have HX:=aB (iH A6 c6 y T6 d6 u A9 c9 (aH (cZ p.nm)) Y6 fJ X8.out.ex wN.out.ne X8.out.ty (b_.out) wN.out.nY (by simp [aH]) dD.out.wk.lt wN.out.len wN.out.tl (by simp [aH]));refine aY 6 (some 196) rfl rfl (by kernel_rfl) (by rfl) (by go_simp) HX.out ?_;rintro e fU ⟨hb,Nn,e12,rfl,hxe⟩;clear HX;have dS:=aB (dD.out.later hb);replace X7:=aB (X7.out.later hb);replace X8:=aB (X8.out.later hb);replace b_:=aB (b_.out.fr (Fr.below hb) (aj.refl _ _));replace eT:=aB (eT.out.fr (Fr.below hb) (aj.refl _ _));replace mD:=aB (mD.out.fr (Fr.below hb) (aj.refl _ _));have mP:Hid (bN fU Y6 Nn e12 (toM y u (aH (cZ p.nm)))):=aB hxe;clear hb hxe;have rX:SS fU:=by rw [hSS];exact ⟨dS.out.pt.cells.2.2.1,dS.out.pt.cells.2.2.2.1,dS.out.pt.cells.2.2.2.2.2.1,dS.out.pt.cells.2.2.2.2.2.2,X7.out.cells.1,X7.out.cells.2,X8.out.cells.1,X8.out.cells.2⟩
 refine ⟨_,rfl,rX,?_⟩;refine aA ?_;obtain ⟨kI,hw⟩:∃kI,kI=fU.alloc (.cells (bO [((some ⟨G,0,none⟩),1,[p]),(BR,e11,(toM x t (aH (cZ p.nm)))),(Nn,e12,(toM y u (aH (cZ p.nm))))]) 24):=⟨_,rfl⟩;have hb:Below fU.heap.size fU kI:=by rw [hw];exact au (aI _ _) _
 have HX:=aB (fG [((some ⟨G,0,none⟩),1,[p]),(BR,e11,(toM x t (aH (cZ p.nm)))),(Nn,e12,(toM y u (aH (cZ p.nm))))] Y6 fU (by intro q hq;simp only [List.mem_cons,List.not_mem_nil,or_false] at hq;rcases hq with rfl|rfl|rfl;exact dS.out.ex;exact mD.out;exact mP.out) dS.out.wk.lt (by simp) (by simp only [iW,List.flatMap_nil,lS,List.length_nil];have h5:=zy.out.len;have h6:=wN.out.len;have h7:=bR x t (aH (cZ p.nm));have h8:=bR y u (aH (cZ p.nm));simp only [aaA];omega));rw [<-hw] at HX;simp only [iW,List.flatMap_nil,List.append_nil,List.cons_append,List.nil_append] at HX;unfold bO at hw;simp only [List.map_cons,List.map_nil] at hw;have dM:=aB (dS.out.later hb);replace X7:=aB (X7.out.later hb);replace X8:=aB (X8.out.later hb);replace b_:=aB (b_.out.fr (Fr.below hb) (aj.refl _ _));replace eT:=aB (eT.out.fr (Fr.below hb) (aj.refl _ _));replace mD:=aB (mD.out.fr (Fr.below hb) (aj.refl _ _));replace mP:=aB (mP.out.fr (Fr.below hb) (aj.refl _ _));clear hb;have rY:SS kI:=by rw [hSS];exact ⟨dM.out.pt.cells.2.2.1,dM.out.pt.cells.2.2.2.1,dM.out.pt.cells.2.2.2.2.2.1,dM.out.pt.cells.2.2.2.2.2.2,X7.out.cells.1,X7.out.cells.2,X8.out.cells.1,X8.out.cells.2⟩
 refine aX 7 (some 197) (v:=.slice (some ⟨fU.heap.size,0,none⟩) 3 3) (w':=kI) rfl rfl (by kernel_rfl) (by rfl) (by rw [hw];go_simp;try with_reducible rfl) (fun _=>rY) ?_;refine aA ?_;clear hw;refine aY 8 (some 198) rfl rfl (by kernel_rfl) (by rfl) (by go_simp) HX.out ?_;rintro e nk ⟨hb,XG,c14,rfl,hxe,hA⟩;clear HX;have jO:=aB (dM.out.later hb);replace X7:=aB (X7.out.later hb);replace X8:=aB (X8.out.later hb);replace b_:=aB (b_.out.fr (Fr.below hb) (aj.refl _ _));replace eT:=aB (eT.out.fr (Fr.below hb) (aj.refl _ _));replace mD:=aB (mD.out.fr (Fr.below hb) (aj.refl _ _));replace mP:=aB (mP.out.fr (Fr.below hb) (aj.refl _ _));have kQ:Hid (bN nk Y6 XG c14 (p::((toM x t (aH (cZ p.nm)))++(toM y u (aH (cZ p.nm)))))/\∀a,XG=some a->w.heap.size<=a.block):=aB ⟨hxe,fun a ha=>vV dS.out.fr.size (hA a ha)⟩;clear hb hxe hA;have Db:SS nk:=by rw [hSS];exact ⟨jO.out.pt.cells.2.2.1,jO.out.pt.cells.2.2.2.1,jO.out.pt.cells.2.2.2.2.2.1,jO.out.pt.cells.2.2.2.2.2.2,X7.out.cells.1,X7.out.cells.2,X8.out.cells.1,X8.out.cells.2⟩
 refine ⟨_,rfl,Db,?_⟩;refine aA ?_;refine aM 10 [11] (some 200) rfl rfl ?_;obtain ⟨r0,r1,rU,rV⟩:=jO.out.jN;refine jl 11 none (w':=?_) rfl rfl (by kernel_rfl) (by rfl) ?_ (zL (by kernel_rfl)) ?_
 rotate_left
 ·(go_simp;try with_reducible rfl)
 refine aA ?_;refine bB (by kernel_rfl) ?_ _;have HE:=aB (jO.out.done (r:=((p::((toM x t (aH (cZ p.nm)))++(toM y u (aH (cZ p.nm))))),(aH (fA p.nm)),c)) rfl kQ.out.1 (eT.out) kQ.out.2);go_wp2_with fail;obtain ⟨wy,bK⟩:∃wy,wy=set2 nk R (.slice XG ((p::((toM x t (aH (cZ p.nm)))++(toM y u (aH (cZ p.nm))))):List Pt).length c14) (.slice B9 ((aH (fA p.nm)):List Nd).length d9):=⟨_,rfl⟩;have HE2:Hid (bU P es env Y ((p::((toM x t (aH (cZ p.nm)))++(toM y u (aH (cZ p.nm))))),(aH (fA p.nm)),c) w (.returned (.agg #[.slice XG ((p::((toM x t (aH (cZ p.nm)))++(toM y u (aH (cZ p.nm))))):List Pt).length c14,.slice B9 ((aH (fA p.nm)):List Nd).length d9])) wy/\wy.cell? ⟨R,0,none⟩=some (.slice XG ((p::((toM x t (aH (cZ p.nm)))++(toM y u (aH (cZ p.nm))))):List Pt).length c14)/\wy.cell? ⟨R,1,none⟩=some (.slice B9 ((aH (fA p.nm)):List Nd).length d9)):=aB (by rw [bK];exact HE.out);unfold set2 at bK
 first|rw [<-bK]|(simp only [oG,lS] at bK ⊢;rw [<-bK])
 have q0:=HE2.out.2.1;have q1:=HE2.out.2.2;refine bodyPost_ret (v:=.agg #[.slice XG ((p::((toM x t (aH (cZ p.nm)))++(toM y u (aH (cZ p.nm))))):List Pt).length c14,.slice B9 ((aH (fA p.nm)):List Nd).length d9]) (by simp [results,Tryz.results53,go_sem,q0,q1]) rfl HE2.out.1
theorem Ud (P:Nat) (es:List Pt) (nx:kW) (HN:Hid (lJ P es nx)) (env:Env) (a:Nat) (p:Pt) (r:eF) (Y:Nat->Prop) (w:World) (TA UA:Option Addr) (tc uc:Nat) (h:iV P es env a Y w) (hT:aF w Y TA tc p.T) (hU:aF w Y UA uc p.U) (hG:∀env a x t b,nx env a=some (x,t,b)->qQ x t) (hm:xK nx es env p a=some r):
  Calls Tryz.prog 90 #[pk P,pv p TA tc UA uc] w (bU P es env Y r w):=by
 obtain ⟨w1,hw1⟩:∃w1,w1=w.alloc (.cells #[.int .i64 p.k,.string p.lb,.string p.nm,.string p.bd,.int .i64 p.mn,.int .i64 p.num,.slice TA p.T.length tc,.slice UA p.U.length uc] 33):=⟨_,rfl⟩;obtain ⟨w2,hw2⟩:∃w2,w2=w1.alloc (.cells #[.slice none 0 0,.slice none 0 0] 65):=⟨_,rfl⟩;have hm2:=qE.new h hT hU hw1 hw2;obtain ⟨R,hR⟩:∃R,R=w.heap.size+1:=⟨_,rfl⟩;obtain ⟨B,hB⟩:∃B,B=w.heap.size:=⟨_,rfl⟩;rw [<-hR,<-hB] at hm2;have H2:=aB hm2;have jW:=aB hm;clear h hT hU hm hm2;have vL:Hid (P<w.heap.size):=aB H2.out.pr;have hm:=jW.out;clear jW;unfold xK at hm;split at hm
 rotate_left
 ·cases hm
 rename_i hmn;obtain ⟨n,hn⟩:∃n:Nat,p.mn=(n:Int):=⟨p.mn.toNat,by omega⟩;have Zk:n<=50:=by omega
 rw [show p.mn.toNat=n by omega] at hm
 obtain ⟨S,hS⟩:∃S,jo nx es env n a [p] []=some S:=by
  cases h9:jo nx es env n a [p] [] with
  |none=>rw [h9] at hm;cases hm
  |some S=>exact ⟨S,rfl⟩
 rw [hS] at hm;have HR:=aB hm;have HD:=aB hG;have ajq:=aB hS;have XC:=aB hn;have Cz:Hid (B<w2.heap.size/\w.heap.size<=B):=aB ⟨(aai.1 H2.out.pt.blk).1,by omega⟩;clear hm hG hS hmn hn;unfold pk pv;go_enter Tryz.func90,Tryz.ntmps90;go_upto_region 1 with fail
 rw [<-hw1,<-hw2]
 try rw [<-hR]
 rw [<-hB];clear hw1 hw2 hR hB;obtain ⟨k0,k1,k2,k3,k4,k5,k6,k7⟩:=H2.out.pt.av;go_upto_region 2 with fail
 obtain ⟨w3,hw⟩:∃w3,w3=w2.alloc (.cells #[.int .i64 p.k,.string p.lb,.string p.nm,.string p.bd,.int .i64 p.mn,.int .i64 p.num,.slice TA p.T.length tc,.slice UA p.U.length uc] 33):=⟨_,rfl⟩;obtain ⟨G,hg⟩:∃G,G=w2.heap.size:=⟨_,rfl⟩;have hb:Below w2.heap.size w2 w3:=by rw [hw];exact au (aI _ _) _
 have H3:=aB (H2.out.later hb);have HI0:Hid (Nr P es env nx p TA tc UA uc Y w R B n S 0 Y a [p] [] (some ⟨G,0,none⟩) 1 [⟨p.k,p.lb,p.nm,p.bd,p.mn,p.num,TA,p.T.length,tc,UA,p.U.length,uc⟩] none 0 none 0 [] w3):=aB ⟨H3.out,by rw [hw,hg];exact ay.lower (Ls w2 p TA UA tc uc) H2.out.fr.size,Lu H3.out.pt.T H3.out.pt.U,fun q hq=>by injection hq with hq;rw [<-hq,hg];exact fun e=>by have:=Cz.out.1;dsimp only at e;omega,ay.nil,ay.nil,rfl,fun i v f hv=>by simp at hv,fun f hf=>by simp at hf,rfl,by simp,ajq.out⟩;rw [<-hw,<-hg];clear hw hg hb k0 k1 k2 k3 k4 k5 k6 k7;obtain ⟨k0,k1,k2,k3,k4,k5,k6,k7⟩:=H3.out.pt.av;rw [XC.out] at k4;go_upto_region 5 with fail
 clear k0 k1 k2 k3 k4 k5 k6 k7;go_loopw [5,6,7,15] (fun s5 s6 s7 s15 wr=>∃(k:Nat) (Yk:Nat->Prop) (ak:Nat) (xs:List Pt) (fs:List fB) (OA:Option Addr) (oc:Nat) (os:List PV) (LA:Option Addr) (lc:Nat) (VA:Option Addr) (vc:Nat) (vs:List (Option Addr×Nat×Nat)),k<=n/\s15= .int .i64 k/\s5= .slice OA xs.length oc/\s6= .slice LA k lc/\s7= .slice VA k vc/\Hid (Nr P es env nx p TA tc UA uc Y w R B n S k Yk ak xs fs OA oc os LA lc VA vc vs wr)) (fun _ _ _ s15 _=>n-(Lib.intOf s15).toNat)
 case atStart=>exact ⟨0,Y,a,[p],[],_,1,_,none,0,none,0,[],Nat.zero_le _,rfl,rfl,rfl,rfl,HI0⟩
 case round=>
  obtain ⟨k,Yk,ak,xs,fs,OA,oc,os,LA,lc,VA,vc,vs,hk,rfl,rfl,rfl,rfl,HI⟩:=hrel;by_cases hlt:k<n
  ·obtain ⟨x,y,t,b,hx,hnx,hst⟩:=Bd (n:=n-k-1) (by rw [show n-k-1+1=n-k by omega];exact HI.out.run)
   obtain ⟨EA,ec,Ar,Au,bs,hm2⟩:=HI.out.md.wk;obtain ⟨eb,eo,eA,hel,_,⟨_,_,_,_,_,_,_,hlb,_⟩,_⟩:=hm2.ex _ _ hx;subst eA;obtain ⟨c0,c1,_⟩:=hm2.cells;have hal:=aP hx;have ZV:=hm2.el;have HX:=aB (DF hnx hst);clear hm2 hst hx hnx;go_upto_region 6 with fail
   obtain ⟨SS,hSS⟩:∃SS:World->Prop,SS=fun v=>v.cell? ⟨P,0,none⟩=some (.slice (some ⟨eb,eo,none⟩) es.length ec)/\v.cell? ⟨P,1,none⟩=some (.int .i64 (ak:Int))/\v.cell? ⟨eb,eo+ak*8+1,none⟩=some (.string x.lb):=⟨_,rfl⟩
   have HS:Hid (∀v,Below wr.heap.size wr v->SS v):=aB fun v hv=>by
    rw [hSS];exact ⟨(hv.cell (FD _ _ c0)).trans c0,(hv.cell (FD _ _ c1)).trans c1,(hv.cell hel).trans hlb⟩
   obtain ⟨wd,hwd⟩:∃wd,wd=wr.drew:=⟨_,rfl⟩;have bM:Hid (Below wr.heap.size wr wd):=aB (by rw [hwd];exact (aI _ _).drew);have hsd:SS wd:=HS.out _ bM.out;refine aG (S:=SS) [13] (by kernel_rfl) (by rw [<-hwd];exact hsd) (fun hHeld=>?_);rw [<-hwd] at hHeld ⊢;clear hwd c0 c1 hlb;refine aM 0 [13,14] (some 17) rfl rfl ?_;refine aM 1 [2,3,4,9,10,11,12,13,14] (some 18) rfl rfl ?_;refine aM 2 [3,4,9,10,11,12,13,14] (some 19) rfl rfl ?_;refine aM 3 [4,9,10,11,12,13,14] (some 20) rfl rfl ?_;refine aM 4 [9,10,11,12,13,14] (some 21) rfl rfl ?_;refine aM 5 [6,7,8,9,10,11,12,13,14] (some 22) rfl rfl ?_;refine aM 6 [7,8,9,10,11,12,13,14] (some 23) rfl rfl ?_;refine aM 7 [8,9,10,11,12,13,14] (some 24) rfl rfl ?_;refine aM 8 [9,10,11,12,13,14] (some 25) rfl rfl ?_;refine aM 9 [10,11,12,13,14] (some 26) rfl rfl ?_;refine aM 10 [11,12,13,14] (some 27) rfl rfl ?_;refine aM 11 [12,13,14] (some 28) rfl rfl ?_;refine aX 12 (some 29) (v:=?_) (w':=?_) rfl rfl (by kernel_rfl) (by rfl) ?_ (fun _=>?_) ?_
   rotate_left
   rotate_left
   ·(go_simp;first|with_reducible rfl|(constructor<;>with_reducible rfl))
   ·exact HS.out _ (au bM.out _)
   refine aA ?_;obtain ⟨we,j_⟩:∃we,we=wd.alloc (.cells #[.string x.lb] 9):=⟨_,rfl⟩;have jF:Hid (Below wr.heap.size wr we):=aB (by rw [j_];exact au bM.out _);have HRe:Hid (p9 we (wd.heap.size+1) (some ⟨wd.heap.size,0,none⟩) [x.lb]):=aB (by rw [j_];exact l6 wd x.lb);rw [<-j_];clear j_;have xG:Hid ((fs.map (·.1)).length=k):=aB (by rw [OX];exact HI.out.len);have U8:k<=50:=by omega
   refine dO 13 rfl (by kernel_rfl) (by rfl) ?_;refine Qd (.tmp 17) (.tmp 29) (by rfl) w.heap.size (m:=k) (n:=1) xG.out (by rfl) (HI.out.lt.below jF.out (aK _)) (l2:=[x.lb]) rfl (by rfl) HRe.out (by omega) (vV HI.out.md.fr.size jF.out.size) (some 30) rfl ?_;intro y8 y9 w5 hown5 hg5;have xH:Hid (iF we w5 9 Yk):=aB (iF.grown (HI.out.lt.below jF.out (aK _)) rfl hg5 HI.out.md.wk.yP (aaq vL.out))
   have Ij:Hid (qE P es env ak Y w R B p TA tc UA uc Yk w5):=aB ((HI.out.md.later jF.out).bW xH.out (Fr.grown hg5 fun q e=>e) (fun q e=>by
    have:=(ay.block (HI.out.lt.below jF.out (aK _)) q (by rw [xG.out];rw [xG.out] at e;exact e)).1;exact this) (by decide) (by decide) (by decide) (by decide) (by decide))
   have HV5:Hid (fq w5 w.heap.size OA oc os/\dz w5 Yk os xs/\dG w5 w.heap.size y8 y9 (fs.map (·.1)++[x.lb])/\iA w5 w.heap.size VA vc vs/\∀(i:Nat) (v:Option Addr×Nat×Nat) (f:fB),vs[i]?=some v->fs[i]?=some f->v.2.1=f.2.length/\aF w5 Yk v.1 v.2.2 f.2):=aB ⟨(HI.out.ot.below jF.out (aK _)).bW xH.out (by decide),(HI.out.op.fr (Fr.below jF.out) (aj.refl _ _)).bW xH.out (by decide),hown5,(HI.out.vt.below jF.out (aK _)).bW xH.out (by decide),fun i v f hv hf=>⟨(HI.out.sl i v f hv hf).1,((HI.out.sl i v f hv hf).2.later jF.out).bW xH.out (by decide)⟩⟩;clear hown5 hg5;refine ⟨zL (by kernel_rfl),?_⟩;refine aA ?_;refine aX 14 (some 6) rfl rfl (by kernel_rfl) (by rfl) (by go_simp;first|with_reducible rfl|(constructor<;>with_reducible rfl)) (zL (by kernel_rfl)) ?_;refine aA ?_;refine bB (by kernel_rfl) ?_ _;clear hHeld hsd hal hel ZV;have za:=aB (HN.out env ak (y,t,b) Yk w5 HX.out.1 Ij.out.wk);unfold pk at za;have M6:Hid (vs.length=k):=aB (by rw [HI.out.vl,HI.out.len]);go_wp2_with fail;refine za.out.mono ?_;rintro e w6 ⟨Y6,gZ,j4,oq,A6,c6,T6,d6,rfl,hx6,CV,hA6⟩;have Qh:=aB (Ij.out.step gZ j4 oq)
   have BS:Hid (fq w6 w.heap.size OA oc os/\dz w6 Y6 os xs/\dG w6 w.heap.size y8 y9 (fs.map (·.1)++[x.lb])/\iA w6 w.heap.size VA vc vs/\bN w6 Y6 A6 c6 y/\aF w6 Y6 T6 d6 t/\∀(i:Nat) (v:Option Addr×Nat×Nat) (f:fB),vs[i]?=some v->fs[i]?=some f->v.2.1=f.2.length/\aF w6 Y6 v.1 v.2.2 f.2):=aB ⟨ay.El HV5.out.1 Ij.out.wk gZ (by decide) (by decide),HV5.out.2.1.fr gZ j4,ay.El HV5.out.2.2.1 Ij.out.wk gZ (by decide) (by decide),ay.El HV5.out.2.2.2.1 Ij.out.wk gZ (by decide) (by decide),hx6,CV,fun i v f hv hf=>⟨(HV5.out.2.2.2.2 i v f hv hf).1,(HV5.out.2.2.2.2 i v f hv hf).2.fr gZ j4⟩⟩;have SF:=aB (HD.out _ _ _ _ _ HX.out.1);have HA6:Hid (∀a,A6=some a->w.heap.size<=a.block):=aB fun a ha=>vV Ij.out.fr.size (hA6 a ha);clear gZ j4 oq hx6 CV hA6 za;go_upto_region 8 with fail
   obtain ⟨w7,hw⟩:∃w7,w7=w6.alloc (.cells #[.slice A6 (y:List Pt).length c6,.slice T6 (t:List Nd).length d6] 65):=⟨_,rfl⟩;obtain ⟨b7,l8⟩:∃b7,b7=w6.heap.size:=⟨_,rfl⟩;have hb:Below w6.heap.size w6 w7:=by rw [hw];exact au (aI _ _) _
   have Qv:=aB (Qh.out.later hb);have X7:Hid (jG w b7 A6 c6 y T6 d6 t Y6 w7):=aB ⟨by rw [hw,l8];exact aQ.new Qh.out.wk.lt _ _,BS.out.2.2.2.2.1.fr (Fr.below hb) (aj.refl _ _),BS.out.2.2.2.2.2.1.later hb,HA6.out⟩;have BJ:Hid (fq w7 w.heap.size OA oc os/\dz w7 Y6 os xs/\dG w7 w.heap.size y8 y9 (fs.map (·.1)++[x.lb])/\iA w7 w.heap.size VA vc vs/\∀(i:Nat) (v:Option Addr×Nat×Nat) (f:fB),vs[i]?=some v->fs[i]?=some f->v.2.1=f.2.length/\aF w7 Y6 v.1 v.2.2 f.2):=aB ⟨BS.out.1.below hb (aK _),BS.out.2.1.fr (Fr.below hb) (aj.refl _ _),BS.out.2.2.1.below hb (aK _),BS.out.2.2.2.1.below hb (aK _),fun i v f hv hf=>⟨(BS.out.2.2.2.2.2.2 i v f hv hf).1,(BS.out.2.2.2.2.2.2 i v f hv hf).2.later hb⟩⟩;rw [<-hw,<-l8];clear hw l8 hb;obtain ⟨Dg,Dh⟩:=X7.out.cells
   go_upto_region 9 with (at_builtin;refine nL rfl (.tmp 33) (.tmp 36) rfl w.heap.size (m:=k) (n:=1) M6.out rfl (ay.alloc BJ.out.2.2.2.1 _) (l2:=[(T6,t.length,d6)]) rfl rfl (oK w7 (T6,t.length,d6)) (by omega) (by have:=Qv.out.fr.size;simp;omega) ?_;intro VA8 vc8 w8 uw XH;have uN:Hid (iF (w7.alloc (.cells #[.slice T6 t.length d6] 28)) w8 28 Y6):=aB (iF.grown (ay.alloc BJ.out.2.2.2.1 _) rfl XH Qv.out.wk.yP (aaq vL.out));have dV:Hid (Below w7.heap.size w7 (w7.alloc (.cells #[.slice T6 t.length d6] 28))):=aB (au (aI _ _) _);have w_:Hid (qE P es env b Y w R B p TA tc UA uc Y6 w8):=aB ((Qv.out.later dV.out).bW uN.out (Fr.grown XH fun q e=>e) (fun q e=>(ay.block BJ.out.2.2.2.1 q e).1) (by decide) (by decide) (by decide) (by decide) (by decide));have X8:Hid (aQ w8 Y6 b7 #[.slice A6 (y:List Pt).length c6,.slice T6 (t:List Nd).length d6] 65/\bN w8 Y6 A6 c6 y/\aF w8 Y6 T6 d6 t):=aB ⟨(X7.out.box.below dV.out).fu uN.out (by decide),(X7.out.ex.fr (Fr.below dV.out) (aj.refl _ _)).bW uN.out (by decide) (by decide),(X7.out.ty.later dV.out).bW uN.out (by decide)⟩;have Oj:Hid (fq w8 w.heap.size OA oc os/\dz w8 Y6 os xs/\dG w8 w.heap.size y8 y9 (fs.map (·.1)++[x.lb])/\iA w8 w.heap.size VA8 vc8 (vs++[(T6,t.length,d6)])/\∀(i:Nat) (v:Option Addr×Nat×Nat) (f:fB),vs[i]?=some v->fs[i]?=some f->v.2.1=f.2.length/\aF w8 Y6 v.1 v.2.2 f.2):=aB ⟨(BJ.out.1.below dV.out (aK _)).bW uN.out (by decide),(BJ.out.2.1.fr (Fr.below dV.out) (aj.refl _ _)).bW uN.out (by decide),(BJ.out.2.2.1.below dV.out (aK _)).bW uN.out (by decide),uw,fun i v f hv hf=>⟨(BJ.out.2.2.2.2 i v f hv hf).1,((BJ.out.2.2.2.2 i v f hv hf).2.later dV.out).bW uN.out (by decide)⟩⟩;obtain ⟨Dg,Dh⟩:=X8.out.1.kX;clear uw XH)
   obtain ⟨ys,hrd,hpm,hcp⟩:=X8.out.2.1;have HYl:=aB hpm.1;have HYs:=aB (DF hrd.read hpm);have HOl:Hid (os.length=xs.length):=aB Oj.out.2.1.1;clear hrd hpm hcp;go_wp2_with (at_builtin;refine sS rfl (.tmp 38) (.tmp 40) rfl w.heap.size (m:=xs.length) (n:=(y:List Pt).length) HOl.out rfl Oj.out.1 (l2:=ys) HYl.out rfl HYs.out.1 (by have:=SF.out.len;have:=HI.out.xl;have:k*100000<=50*100000:=Nat.mul_le_mul_right _ U8;omega) w_.out.fr.size ?_;intro OA9 yh w9 jK oM QN);have Ko:Hid (iF w8 w9 33 Y6):=aB (iF.grown Oj.out.1 rfl oM w_.out.wk.yP (aaq vL.out))
   have Zd:Hid (qE P es env b Y w R B p TA tc UA uc Y6 w9):=aB (w_.out.fu Ko.out (Fr.grown oM fun q e=>e) (fun q e=>⟨(ay.block Oj.out.1 q e).1,by
    obtain ⟨a2,ha2,e2⟩:=bL e;rw [<-e2];exact HI.out.ob a2 ha2⟩))
   have nW:Hid (Nr P es env nx p TA tc UA uc Y w R B n S (k+1) Y6 b (xs++y) (fs++[(x.lb,t)]) OA9 yh (os++ys) y8 y9 VA8 vc8 (vs++[(T6,t.length,d6)]) w9):=aB (by
    refine ⟨Zd.out,jK,(Oj.out.2.1.bW Ko.out (by decide)).app (HYs.out.2.bW Ko.out (by decide)),?_,?_,Oj.out.2.2.2.1.bW Ko.out (by decide),?_,?_,?_,?_,?_,?_⟩
    ·rintro a2 rfl
     simp only [Value.ownBlock] at QN;rcases QN with e|e
     ·obtain ⟨a3,ha3,e3⟩:=bL e.symm
      rw [<-e3];exact HI.out.ob a3 ha3
     ·injection e with e
      rw [e];have:=(aai.1 w_.out.pt.blk).1;omega
    ·rw [List.map_append]
     exact Oj.out.2.2.1.bW Ko.out (by decide)
    ·rw [lS,lS,HI.out.vl]
     rfl
    ·intro i v f hv hf
     rcases Nat.lt_or_ge i vs.length with hi|hi
     ·rw [YX hi] at hv
      rw [YX (by rw [<-HI.out.vl];exact hi)] at hf;exact ⟨(Oj.out.2.2.2.2 i v f hv hf).1,(Oj.out.2.2.2.2 i v f hv hf).2.bW Ko.out (by decide)⟩
     ·rw [kg hi] at hv
      rw [kg (by rw [<-HI.out.vl];exact hi),<-HI.out.vl] at hf
      cases hj:i-vs.length with
      |zero=>
       rw [hj] at hv hf;simp at hv hf;subst hv hf
       exact ⟨rfl,X8.out.2.2.bW Ko.out (by decide)⟩
      |succ j=>rw [hj] at hv;simp at hv
    ·intro f hf
     rcases List.mem_append.1 hf with hf|hf
     ·exact HI.out.gd f hf
     ·simp at hf
      subst hf;exact SF.out.gd
    ·rw [lS,HI.out.len]
     rfl
    ·have h5:=HI.out.xl
     have h6:=SF.out.len;rw [lS,Nat.add_mul];omega
    ·rw [show n-(k+1)=n-k-1 by omega]
     exact HX.out.2)
   clear jK oM QN;go_wp2_with fail;go_roundw
   case rel=>exact ⟨k+1,Y6,b,xs++y,fs++[(x.lb,t)],OA9,yh,os++ys,y8,y9,VA8,vc8,vs++[(T6,t.length,d6)],by omega,by go_num,by rw [lS],by go_num,by go_num,nW⟩
   case measure=>simp [Lib.intOf];omega
  ·have hkn:k=n:=by omega
   have yZ:Hid (S=(xs,fs,ak)):=aB (by
    have:=HI.out.run;rw [hkn,Nat.sub_self] at this;unfold jo at this;injection this with this
    exact this.symm)
   have uh:Hid (jZ 6 (fs.map (·.1)) fs.length=false/\(fs.map (·.1)).Nodup/\r=(xs,d_ 6 fs,ak)):=aB (by
    have:=HR.out;rw [yZ.out] at this;dsimp only at this;split at this
    ·rename_i h9
     injection this with this
     exact ⟨h9.1,h9.2,this.symm⟩
    ·cases this)
   have hfl:(fs.map (·.1)).length=k:=by rw [OX];exact HI.out.len
   have xG:=aB hfl;have Ke:Hid (vs.length=k):=aB (by rw [HI.out.vl,HI.out.len]);clear hkn hfl
   have HX:=xq LA VA lc vc 6 (fs.map (·.1)) vs (fs.map (·.2)) wr (ay.read jA HI.out.lt) (ay.read jv HI.out.vt) (by
    refine ⟨by rw [OX,HI.out.vl],fun i v xs hv hxs=>?_⟩;rw [List.getElem?_map,Option.map_eq_some_iff] at hxs;obtain ⟨f,hf,rfl⟩:=hxs;obtain ⟨e1,e2⟩:=HI.out.sl i v f hv hf;exact ⟨e1,e2.ty.eY⟩) (by
    intro xs hxs;obtain ⟨f,hf,rfl⟩:=List.mem_map.1 hxs;have g:=HI.out.gd f hf;exact ⟨fun h=>by have:=g.fo.pos;rw [h] at this;simp at this,g.len⟩) (by rw [OX];exact uh.out.1)
   rw [xG.out,Ke.out] at HX;have HX:=aB HX;go_wp2_with fail;refine HX.out.mono ?_;rintro e w3 ⟨hb3,hpost⟩
   have HPo:Hid (∃A' cap',e= .returned (.tuple #[.slice A' (d_ 6 fs).length cap',.int .i64 0])/\dF w3 wr.heap.size A' cap' (d_ 6 fs)):=aB (by
    rcases hpost with ⟨h1,_⟩|⟨_,h1,_⟩|⟨_,os,A',cap',hp,ho,h1,h2⟩
    ·rw [OX,uh.out.1] at h1
     cases h1
    ·exact absurd uh.out.2.1 h1
    ·rw [D8 6 fs uh.out.2.1 os hp ho] at h1 h2
     exact ⟨A',cap',h1,h2⟩)
   clear hpost;obtain ⟨A',cap',hv,hown⟩:=HPo.out;subst hv;have m_:=aB (HI.out.md.later hb3);have HT3:Hid (aF w3 Yk A' cap' (d_ 6 fs)):=aB (aF.own hown fun q hq=>HI.out.md.wk.lt q hq);have CS:Hid (bN w3 Yk OA oc xs/\∀a,OA=some a->w.heap.size<=a.block):=aB ⟨(bN.aaG HI.out.ot HI.out.md.wk HI.out.op).fr (Fr.below hb3) (aj.refl _ _),fun a ha=>(ay.lt HI.out.ot a ha).1⟩;clear hb3 hown;obtain ⟨r0,r1,rU,rV⟩:=m_.out.jN;have HE:=aB (m_.out.done (r:=(xs,d_ 6 fs,ak)) rfl CS.out.1 HT3.out CS.out.2);go_wp2_with fail;obtain ⟨wy,bK⟩:∃wy,wy=set2 w3 R (.slice OA (xs:List Pt).length oc) (.slice A' (d_ 6 fs).length cap'):=⟨_,rfl⟩;have HE2:Hid (bU P es env Y r w (.returned (.agg #[.slice OA (xs:List Pt).length oc,.slice A' (d_ 6 fs).length cap'])) wy/\wy.cell? ⟨R,0,none⟩=some (.slice OA (xs:List Pt).length oc)/\wy.cell? ⟨R,1,none⟩=some (.slice A' (d_ 6 fs).length cap')):=aB (by rw [bK,uh.out.2.2];exact HE.out);unfold set2 at bK;rw [<-bK];have q0:=HE2.out.2.1;have q1:=HE2.out.2.2;refine bodyPost_ret (v:=.agg #[.slice OA (xs:List Pt).length oc,.slice A' (d_ 6 fs).length cap']) (by simp [results,Tryz.results90,go_sem,q0,q1]) rfl HE2.out.1
theorem QO (P:Nat) (es:List Pt) (nx:kW) (HN:Hid (lJ P es nx)) (env:Env) (a:Nat) (p:Pt) (r:eF) (Y:Nat->Prop) (w:World) (h:iV P es env a Y w) (hp:es[a]?=some p) (hk:p.k=10) (hal:a<=1000000) (hG:∀env a x t b,nx env a=some (x,t,b)->qQ x t) (hm:xK nx es env p (a+1)=some r):
  Calls Tryz.prog 53 #[pk P] w (bU P es env Y r w):=by
 have jW:=aB (DF hm hp);have pR:=aB hk;refine (iR P es env a p r Y w).2 h hp hal ?_;clear h hp hal hm hk;intro eb eo ec TA tc UA uc R B G w4 H4;dsimp only [iR];intro K1 hK1 K2 hK2;obtain ⟨k0,k1,k2,k3,k4,k6,k7⟩:=H4.out.pt.cells;have jr:w4.cell? ⟨B,0,none⟩=some (.int .i64 10):=by rw [k0,pR.out]
 clear k0
 skip
 have HX:=aB (Ud P es nx HN env (a+1) p r Y w4 TA UA tc uc H4.out.wk H4.out.pt.T H4.out.pt.U hG jW.out.1);unfold pk pv at HX;have k5:w4.cell? ⟨B,5,none⟩=some (.int .i64 p.num):=by simp [DI,H4.out.pt.blk]
 obtain ⟨k0,_⟩:=H4.out.pt.cells;rw [pR.out] at HX k0;go_wp2_with fail;refine HX.out.mono ?_;rintro e w5 ⟨Y5,hf,hy,hkk,A5,c5,T5,d5,rfl,hx,ht,hA⟩;clear HX;have H5:=aB (H4.out.step hf hy hkk);have VX:Hid (bN w5 Y5 A5 c5 r.1):=aB hx;have VT:Hid (aF w5 Y5 T5 d5 r.2.1):=aB ht;have VA:Hid (∀a,A5=some a->w.heap.size<=a.block):=aB fun a ha=>vV H4.out.fr.size (hA a ha);clear hf hy hkk hx ht hA
 try clear k0 k1 k2 k3 k4 k6 k7
 try clear jr
 try clear k1 k2 k3 k4 k6 k7
 try clear k5
 skip
 skip
 have HE:=aB (H5.out.done (r:=(r.1,r.2.1,r.2.2)) rfl (VX.out) (VT.out) (VA.out));obtain ⟨r0,r1,rU,rV⟩:=H5.out.jN;go_wp2_with fail;obtain ⟨wy,bK⟩:∃wy,wy=set2 w5 R (.slice A5 (r.1:List Pt).length c5) (.slice T5 (r.2.1:List Nd).length d5):=⟨_,rfl⟩;have HE2:Hid (bU P es env Y (r.1,r.2.1,r.2.2) w (.returned (.agg #[.slice A5 (r.1:List Pt).length c5,.slice T5 (r.2.1:List Nd).length d5])) wy/\wy.cell? ⟨R,0,none⟩=some (.slice A5 (r.1:List Pt).length c5)/\wy.cell? ⟨R,1,none⟩=some (.slice T5 (r.2.1:List Nd).length d5)):=aB (by rw [bK];exact HE.out);unfold set2 at bK
 first|rw [<-bK]|(simp only [aaA] at bK;rw [<-bK])
 have q0:=HE2.out.2.1;have q1:=HE2.out.2.2;refine bodyPost_ret (v:=.agg #[.slice A5 (r.1:List Pt).length c5,.slice T5 (r.2.1:List Nd).length d5]) (by simp [results,Tryz.results53,go_sem,q0,q1]) rfl HE2.out.1
theorem Ue (P:Nat) (es:List Pt) (nx:kW) (HN:Hid (lJ P es nx)) (env:Env) (a:Nat) (p:Pt) (r:eF) (Y:Nat->Prop) (w:World) (h:iV P es env a Y w) (hp:es[a]?=some p) (hk:p.k=11) (hal:a<=1000000) (hG:∀env a x t b,nx env a=some (x,t,b)->qQ x t) (hm:Lm nx env p (a+1)=some r):
  Calls Tryz.prog 53 #[pk P] w (bU P es env Y r w):=by
 have jW:=aB (DF hm hp);have pR:=aB hk;refine (iR P es env a p r Y w).2 h hp hal ?_;clear h hp hal hm hk;intro eb eo ec TA tc UA uc R B G w4 H4;dsimp only [iR];intro K1 hK1 K2 hK2;obtain ⟨k0,k1,k2,k3,k4,k6,k7⟩:=H4.out.pt.cells;have jr:w4.cell? ⟨B,0,none⟩=some (.int .i64 11):=by rw [k0,pR.out]
 clear k0;obtain ⟨x,t,b,h1,hr⟩:=bD jW.out.1;have hgx:=hG _ _ _ _ _ h1
 obtain ⟨u,hfu,hr2⟩:∃u,bG t p.nm=some u/\(p::x,u,b)=r:=by
  cases hfm:bG t p.nm with
  |none=>rw [hfm] at hr;cases hr
  |some u=>rw [hfm] at hr;injection hr with hr;exact ⟨u,rfl,hr⟩
 subst hr2;have vP:=aB h1;have HFu:=aB hfu;have fI:=aB hgx;clear hr h1 hfu hgx jW;have HX:=aB (HN.out env (a+1) (x,t,b) Y w4 vP.out H4.out.wk);unfold pk at HX;go_wp2_with fail;refine HX.out.mono ?_;rintro e w5 ⟨Y5,hf,hy,hkk,A5,c5,T5,d5,rfl,hx,ht,hA⟩;clear HX;have H5:=aB (H4.out.step hf hy hkk);have hV:Hid (bN w5 Y5 A5 c5 x/\aF w5 Y5 T5 d5 t/\∀a,A5=some a->w.heap.size<=a.block):=aB ⟨hx,ht,fun a ha=>vV H4.out.fr.size (hA a ha)⟩;clear hf hy hkk hx ht hA
 try clear k0 k1 k2 k3 k4 k6 k7
 try clear jr
 try clear k1 k2 k3 k4 k6 k7
 go_upto_region 37 with fail
 obtain ⟨w6,hw⟩:∃w6,w6=w5.alloc (.cells #[.slice A5 (x:List Pt).length c5,.slice T5 (t:List Nd).length d5] 65):=⟨_,rfl⟩;obtain ⟨b6,hb⟩:∃b6,b6=w5.heap.size:=⟨_,rfl⟩;have hbb:Below w5.heap.size w5 w6:=by rw [hw];exact au (aI _ _) _
 have H6:=aB (H5.out.later hbb);have X6:Hid (jG w b6 A5 c5 x T5 d5 t Y5 w6):=aB ⟨by rw [hw,hb];exact aQ.new H5.out.wk.lt _ _,hV.out.1.fr (Fr.below hbb) (aj.refl _ _),hV.out.2.1.later hbb,hV.out.2.2⟩;rw [<-hw,<-hb];clear hw hb hbb hV;obtain ⟨k0,k1,k2,k3,k4,k6,k7⟩:=H6.out.pt.cells;obtain ⟨kS,kT⟩:=X6.out.cells;have HX:=aB (t_ T5 d5 t p.nm w6 X6.out.ty.ty.eY fI.out.gd X6.out.ty.cap);go_wp2_with fail;refine HX.out.mono ?_;rintro e w7 ⟨hb,hq⟩;clear HX;rw [HFu.out] at hq;obtain ⟨A9,c9,rfl,hown⟩:=hq;have H7:=aB (H6.out.later hb);replace X6:=aB (X6.out.later hb);have b_:Hid (aF w7 Y5 A9 c9 u):=aB (aF.own hown fun q hq=>H6.out.wk.lt q hq);clear hown hb
 try clear k0 k1 k2 k3 k4 k6 k7
 try clear jr
 try clear k1 k2 k3 k4 k6 k7
 clear kS kT;obtain ⟨k0,k1,k2,k3,k4,k6,k7⟩:=H7.out.pt.cells;obtain ⟨kS,kT⟩:=X6.out.cells;obtain ⟨vs,hrd,hpm,hcp⟩:=X6.out.ex;have hvl:=hpm.1;have Da:=aB (DF hrd.read hpm);have Kk:=aB hvl;clear hrd hpm hcp hvl;obtain ⟨r0,r1,rU,rV⟩:=H7.out.jN;go_wp2_with (at_builtin;refine sS rfl (.tmp 218) (.tmp 220) rfl w.heap.size (m:=1) (n:=(x:List Pt).length) (l:=[⟨p.k,p.lb,p.nm,p.bd,p.mn,p.num,TA,p.T.length,tc,UA,p.U.length,uc⟩]) rfl rfl H7.out.own (l2:=vs) Kk.out rfl Da.out.1 (by have:=fI.out.len;omega) H7.out.fr.size ?_;intro A8 c8 w8 hown hg hd;have jH:=aB (H7.out.app Da.out.2 hown hg hd);have hlx:1+(x:List Pt).length=(p::x).length:=(by rw [oG];omega);have hR:=jH.out.2.2.2.1;have r0:w8.cell? ⟨R,0,none⟩=some (.slice none 0 0):=(by simp [DI,hR.blk]);have r1:w8.cell? ⟨R,1,none⟩=some (.slice none 0 0):=(by simp [DI,hR.blk]);have rU:w8.frozen? ⟨R,0,none⟩=false:=(by simp [Gb,hR.blk]);have rV:w8.frozen? ⟨R,1,none⟩=false:=(by simp [Gb,hR.blk]);obtain ⟨k0,k1,k2,k3,k4,k6,k7⟩:=jH.out.2.2.2.2.1.cells;clear hown hg hd hR);have HE:=aB (zq (r:=(p::x,u,b)) (TX:=A9) (tx:=c9) jH.out.2.2.2.2.2.1 H7.out.yn jH.out.2.2.1 jH.out.2.2.2.1 H7.out.pr H7.out.rw jH.out.2.2.2.2.2.2.1 (b_.out.bW jH.out.1 (by decide)) jH.out.2.2.2.2.2.2.2);obtain ⟨wy,bK⟩:∃wy,wy=set2 w8 R (.slice A8 ((p::x):List Pt).length c8) (.slice A9 (u:List Nd).length c9):=⟨_,rfl⟩
 have HE2:Hid (bU P es env Y ((p::x),u,b) w (.returned (.agg #[.slice A8 ((p::x):List Pt).length c8,.slice A9 (u:List Nd).length c9])) wy/\wy.cell? ⟨R,0,none⟩=some (.slice A8 ((p::x):List Pt).length c8)/\wy.cell? ⟨R,1,none⟩=some (.slice A9 (u:List Nd).length c9)):=aB (by rw [bK];exact HE.out);unfold set2 at bK
 first|(rw [oG] at bK;rw [<-bK])|(rw [hlx];rw [<-bK])
 have q0:=HE2.out.2.1;have q1:=HE2.out.2.2;refine bodyPost_ret (v:=.agg #[.slice A8 ((p::x):List Pt).length c8,.slice A9 (u:List Nd).length c9]) (by simp [results,Tryz.results53,go_sem,q0,q1]) rfl HE2.out.1
theorem Uf (P:Nat) (es:List Pt) (nx:kW) (HN:Hid (lJ P es nx)) (env:Env) (a:Nat) (p:Pt) (r:eF) (Y:Nat->Prop) (w:World) (h:iV P es env a Y w) (hp:es[a]?=some p) (hk:p.k=12) (hal:a<=1000000) (C9:Gd p.T) (C_:p.T.length<=5000000) (hG:∀env a x t b,nx env a=some (x,t,b)->qQ x t) (hm:Lp nx env p (a+1)=some r):
  Calls Tryz.prog 53 #[pk P] w (bU P es env Y r w):=by
 have jW:=aB (DF hm hp);have pR:=aB hk;refine (iR P es env a p r Y w).2 h hp hal ?_;clear h hp hal hm hk;intro eb eo ec TA tc UA uc R B G w4 H4;dsimp only [iR];intro K1 hK1 K2 hK2;obtain ⟨k0,k1,k2,k3,k4,k6,k7⟩:=H4.out.pt.cells;have jr:w4.cell? ⟨B,0,none⟩=some (.int .i64 12):=by rw [k0,pR.out]
 clear k0;obtain ⟨x,t,b,h1,hr⟩:=bD jW.out.1
 obtain ⟨u,hfu,hfl,hr2⟩:∃u,bG p.T p.nm=some u/\(u≠[]/\u.length<=5000000)/\(p::toM x t u,p.T,b)=r:=by
  try dsimp only at hr
  cases hfm:bG p.T p.nm with
  |none=>rw [hfm] at hr;cases hr
  |some u=>
   rw [hfm] at hr;dsimp only at hr;by_cases hl:u≠[]/\u.length<=5000000
   ·rw [if_pos hl] at hr
    injection hr with hr
    exact ⟨u,rfl,hl,hr⟩
   ·rw [if_neg hl] at hr
    cases hr
 subst hr2;have vP:=aB h1;have HFu:=aB (DF hfu hfl);have fI:=aB (hG _ _ _ _ _ h1);have IB:=aB (DF C9 C_);clear hr h1 hfu hfl C9 C_ jW;have HX:=aB (HN.out env (a+1) (x,t,b) Y w4 vP.out H4.out.wk);unfold pk at HX;go_wp2_with fail;refine HX.out.mono ?_;rintro e w5 ⟨Y5,hf,hy,hkk,A5,c5,T5,d5,rfl,hx,ht,hA⟩;clear HX;have H5:=aB (H4.out.step hf hy hkk);have hV:Hid (bN w5 Y5 A5 c5 x/\aF w5 Y5 T5 d5 t/\∀a,A5=some a->w.heap.size<=a.block):=aB ⟨hx,ht,fun a ha=>vV H4.out.fr.size (hA a ha)⟩;clear hf hy hkk hx ht hA
 try clear k0 k1 k2 k3 k4 k6 k7
 try clear jr
 try clear k1 k2 k3 k4 k6 k7
 go_upto_region 41 with fail
 obtain ⟨w6,hw⟩:∃w6,w6=w5.alloc (.cells #[.slice A5 (x:List Pt).length c5,.slice T5 (t:List Nd).length d5] 65):=⟨_,rfl⟩;obtain ⟨b6,hb⟩:∃b6,b6=w5.heap.size:=⟨_,rfl⟩;have hbb:Below w5.heap.size w5 w6:=by rw [hw];exact au (aI _ _) _
 have H6:=aB (H5.out.later hbb);have X6:Hid (jG w b6 A5 c5 x T5 d5 t Y5 w6):=aB ⟨by rw [hw,hb];exact aQ.new H5.out.wk.lt _ _,hV.out.1.fr (Fr.below hbb) (aj.refl _ _),hV.out.2.1.later hbb,hV.out.2.2⟩;rw [<-hw,<-hb];clear hw hb hbb hV;obtain ⟨k0,k1,k2,k3,k4,k6,k7⟩:=H6.out.pt.cells;obtain ⟨kS,kT⟩:=X6.out.cells;have HX:=aB (t_ TA tc p.T p.nm w6 H6.out.pt.T.ty.eY IB.out.1 H6.out.pt.T.cap);go_wp2_with fail;refine HX.out.mono ?_;rintro e w7 ⟨hb,hq⟩;clear HX;rw [HFu.out.1] at hq;obtain ⟨A9,c9,rfl,hown⟩:=hq;have H7:=aB (H6.out.later hb);replace X6:=aB (X6.out.later hb);have b_:Hid (aF w7 Y5 A9 c9 u):=aB (aF.own hown fun q hq=>H6.out.wk.lt q hq);clear hown hb
 try clear k0 k1 k2 k3 k4 k6 k7
 try clear jr
 try clear k1 k2 k3 k4 k6 k7
 try clear kS kT
 obtain ⟨k0,k1,k2,k3,k4,k6,k7⟩:=H7.out.pt.cells;obtain ⟨kS,kT⟩:=X6.out.cells;go_upto_region 42 with fail
 obtain ⟨SS,hSS⟩:∃SS:World->Prop,SS=fun v=>v.cell? ⟨B,2,none⟩=some (.string p.nm)/\v.cell? ⟨B,3,none⟩=some (.string p.bd)/\v.cell? ⟨B,6,none⟩=some (.slice TA p.T.length tc)/\v.cell? ⟨B,7,none⟩=some (.slice UA p.U.length uc)/\v.cell? ⟨b6,0,none⟩=some (.slice A5 (x:List Pt).length c5)/\v.cell? ⟨b6,1,none⟩=some (.slice T5 (t:List Nd).length d5):=⟨_,rfl⟩;obtain ⟨w8,hwd⟩:∃w8,w8=w7.drew:=⟨_,rfl⟩;have hb:Below w7.heap.size w7 w8:=by rw [hwd];exact (aI _ _).drew
 have H8:=aB (H7.out.later hb);replace X6:=aB (X6.out.later hb);replace b_:=aB (b_.out.fr (Fr.below hb) (aj.refl _ _));clear hb
 try clear k0 k1 k2 k3 k4 k6 k7
 try clear jr
 try clear k1 k2 k3 k4 k6 k7
 try clear kS kT
 have IE:SS w8:=by rw [hSS];exact ⟨H8.out.pt.cells.2.2.1,H8.out.pt.cells.2.2.2.1,H8.out.pt.cells.2.2.2.2.2.1,H8.out.pt.cells.2.2.2.2.2.2,X6.out.cells.1,X6.out.cells.2⟩
 refine aG (S:=SS) [8] (by kernel_rfl) (by rw [<-hwd];exact IE) (fun hHeld=>?_);rw [<-hwd] at hHeld ⊢;clear hwd hHeld;refine aM 0 [8] (some 236) rfl rfl ?_;refine aM 1 [8] (some 237) rfl rfl ?_;refine aM 2 [8] (some 238) rfl rfl ?_;refine aM 5 [8] (some 241) rfl rfl ?_;refine aM 6 [8] (some 242) rfl rfl ?_;have HX:=aB (iH A5 c5 x T5 d5 t A9 c9 u Y5 w8 X6.out.ex fI.out.ne X6.out.ty (b_.out) fI.out.nY (HFu.out.2.1) H8.out.wk.lt fI.out.len fI.out.tl (HFu.out.2.2));refine aY 3 (some 239) rfl rfl (by kernel_rfl) (by rfl) (by go_simp) HX.out ?_;rintro e w9 ⟨hb,E9,e9,rfl,hxe⟩;clear HX;have H9:=aB (H8.out.later hb);replace X6:=aB (X6.out.later hb);replace b_:=aB (b_.out.fr (Fr.below hb) (aj.refl _ _));have qD:Hid (bN w9 Y5 E9 e9 (toM x t u)):=aB hxe;clear hb hxe;have Ei:SS w9:=by rw [hSS];exact ⟨H9.out.pt.cells.2.2.1,H9.out.pt.cells.2.2.2.1,H9.out.pt.cells.2.2.2.2.2.1,H9.out.pt.cells.2.2.2.2.2.2,X6.out.cells.1,X6.out.cells.2⟩
 refine ⟨_,rfl,Ei,?_⟩;refine aA ?_;obtain ⟨vs,hrd,hpm,hcp⟩:=qD.out;have Kk:=aB hpm.1;have Da:=aB (DF hrd.read hpm);clear hrd hpm hcp;refine dO 4 rfl (by kernel_rfl) (by rfl) ?_;refine Iy (.tmp 236) (.tmp 239) rfl w.heap.size (m:=1) (n:=((toM x t u):List Pt).length) (l:=[⟨p.k,p.lb,p.nm,p.bd,p.mn,p.num,TA,p.T.length,tc,UA,p.U.length,uc⟩]) rfl rfl H9.out.own (l2:=vs) Kk.out rfl Da.out.1 (k:=((toM x t u):List Pt).length+1) (by omega) (by have h5:=fI.out.len;have h6:=bR x t u;omega) H9.out.fr.size ?_;intro CX c10 cK hown hg hd;have jH:=aB (H9.out.app Da.out.2 hown hg hd);clear hown hg hd;have rZ:SS cK:=by rw [hSS];exact ⟨jH.out.2.2.2.2.1.cells.2.2.1,jH.out.2.2.2.2.1.cells.2.2.2.1,jH.out.2.2.2.2.1.cells.2.2.2.2.2.1,jH.out.2.2.2.2.1.cells.2.2.2.2.2.2,(X6.out.box.fu jH.out.1 (by decide)).kX.1,(X6.out.box.fu jH.out.1 (by decide)).kX.2⟩
 have HTy:Hid (aF cK Y5 TA tc p.T):=aB ((H9.out.pt.T).bW jH.out.1 (by decide));refine ⟨fun _=>rZ,?_⟩;refine aA ?_;refine aM 7 [8] (some 243) rfl rfl ?_;have hR:=jH.out.2.2.2.1;have r0:cK.cell? ⟨R,0,none⟩=some (.slice none 0 0):=by simp [DI,hR.blk]
 have r1:cK.cell? ⟨R,1,none⟩=some (.slice none 0 0):=by simp [DI,hR.blk]
 have rU:cK.frozen? ⟨R,0,none⟩=false:=by simp [Gb,hR.blk]
 have rV:cK.frozen? ⟨R,1,none⟩=false:=by simp [Gb,hR.blk]
 clear hR;refine jl 8 none (w':=?_) rfl rfl (by kernel_rfl) (by rfl) ?_ (zL (by kernel_rfl)) ?_
 rotate_left
 ·(go_simp;try with_reducible rfl)
 refine aA ?_;refine bB (by kernel_rfl) ?_ _;have HE:=aB (zq (r:=(p::(toM x t u),p.T,b)) (TX:=TA) (tx:=tc) jH.out.2.2.2.2.2.1 H9.out.yn jH.out.2.2.1 jH.out.2.2.2.1 H9.out.pr H9.out.rw jH.out.2.2.2.2.2.2.1 (HTy.out) jH.out.2.2.2.2.2.2.2);go_wp2_with fail;obtain ⟨wy,bK⟩:∃wy,wy=set2 cK R (.slice CX ((p::(toM x t u)):List Pt).length c10) (.slice TA (p.T:List Nd).length tc):=⟨_,rfl⟩;have HE2:Hid (bU P es env Y ((p::(toM x t u)),p.T,b) w (.returned (.agg #[.slice CX ((p::(toM x t u)):List Pt).length c10,.slice TA (p.T:List Nd).length tc])) wy/\wy.cell? ⟨R,0,none⟩=some (.slice CX ((p::(toM x t u)):List Pt).length c10)/\wy.cell? ⟨R,1,none⟩=some (.slice TA (p.T:List Nd).length tc)):=aB (by rw [bK];exact HE.out);unfold set2 at bK
 first|rw [<-bK]|(rw [oG] at bK;rw [<-bK])
 have q0:=HE2.out.2.1;have q1:=HE2.out.2.2;refine bodyPost_ret (v:=.agg #[.slice CX ((p::(toM x t u)):List Pt).length c10,.slice TA (p.T:List Nd).length tc]) (by simp [results,Tryz.results53,go_sem,q0,q1]) rfl HE2.out.1
end Go.Proofs.YtmjdhfbnmmdjiaaGreat
