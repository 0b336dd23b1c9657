/- Laid together by a tool from the texts of this seat: CxApp CxLet CxRec. Conditions: each theorem's own. -/
import Derived.Test.YtmjdhfbnmmdjiaaGreatH22
import Derived.Test.YtmjdhfbnmmdjiaaGreatH24
set_option maxHeartbeats 8000000
set_option maxRecDepth 100000
namespace Go.Proofs.YtmjdhfbnmmdjiaaGreat
open Go.Lib renaming hid->aB
open Go.RowKit.Below renaming refl->aI
open _root_.Nat renaming le_trans->vV
open _root_.And renaming intro->DF
open Go.World renaming cell?->DI,frozen?->Gb,size_alloc->FT
open _root_.List renaming flatMap_cons->iW,length_append->lS,length_singleton->aaA,mem_cons->qm,not_mem_nil->aaC,length_nil->aas,append_nil->mO,cons_append->uK,nil_append->aat,map_cons->RH,map_nil->aaD,length_cons->oG
open Go.RowKit
theorem Tn (P:Nat) (es:List Pt) (nx:kW) (HN:Hid (lJ P es nx)) (env:Env) (a:Nat) (p:Pt) (r:eF) (Y:Nat->Prop) (w:World) (h:iV P es env a Y w) (hp:es[a]?=some p) (hk:p.k=3) (hal:a<=1000000) (hG:∀env a x t b,nx env a=some (x,t,b)->qQ x t) (hm:BQ nx env p (a+1)=some r):
  Calls Tryz.prog 53 #[pk P] w (bU P es env Y r w):=by
 have jW:=aB (DF hm hp);have pR:=aB hk;refine (iR P es env a p r Y w).2 h hp hal ?_;clear h hp hal hm hk;intro eb eo ec TA tc UA uc R B G w4 H4;dsimp only [iR];intro K1 hK1 K2 hK2;obtain ⟨k0,k1,k2,k3,k4,k6,k7⟩:=H4.out.pt.cells;have jr:w4.cell? ⟨B,0,none⟩=some (.int .i64 3):=by rw [k0,pR.out]
 clear k0
 skip
 have HX:=aB (Qy P es nx HN env (a+1) p r Y w4 TA UA tc uc H4.out.wk H4.out.pt.T H4.out.pt.U hG jW.out.1);unfold pk pv at HX;have k5:w4.cell? ⟨B,5,none⟩=some (.int .i64 p.num):=by simp [DI,H4.out.pt.blk]
 obtain ⟨k0,_⟩:=H4.out.pt.cells;rw [pR.out] at HX k0;go_wp2_with fail;refine HX.out.mono ?_;rintro e w5 ⟨Y5,hf,hy,hkk,A5,c5,T5,d5,rfl,hx,ht,hA⟩;clear HX;have H5:=aB (H4.out.step hf hy hkk);have VX:Hid (bN w5 Y5 A5 c5 r.1):=aB hx;have VT:Hid (aF w5 Y5 T5 d5 r.2.1):=aB ht;have VA:Hid (∀a,A5=some a->w.heap.size<=a.block):=aB fun a ha=>vV H4.out.fr.size (hA a ha);clear hf hy hkk hx ht hA
 try clear k0 k1 k2 k3 k4 k6 k7
 try clear jr
 try clear k1 k2 k3 k4 k6 k7
 try clear k5
 skip
 skip
 have HE:=aB (H5.out.done (r:=(r.1,r.2.1,r.2.2)) rfl (VX.out) (VT.out) (VA.out));obtain ⟨r0,r1,rU,rV⟩:=H5.out.jN;go_wp2_with fail;obtain ⟨wy,bK⟩:∃wy,wy=set2 w5 R (.slice A5 (r.1:List Pt).length c5) (.slice T5 (r.2.1:List Nd).length d5):=⟨_,rfl⟩;have HE2:Hid (bU P es env Y (r.1,r.2.1,r.2.2) w (.returned (.agg #[.slice A5 (r.1:List Pt).length c5,.slice T5 (r.2.1:List Nd).length d5])) wy/\wy.cell? ⟨R,0,none⟩=some (.slice A5 (r.1:List Pt).length c5)/\wy.cell? ⟨R,1,none⟩=some (.slice T5 (r.2.1:List Nd).length d5)):=aB (by rw [bK];exact HE.out);unfold set2 at bK
 first|rw [<-bK]|(simp only [aaA] at bK;rw [<-bK])
 have q0:=HE2.out.2.1;have q1:=HE2.out.2.2;refine bodyPost_ret (v:=.agg #[.slice A5 (r.1:List Pt).length c5,.slice T5 (r.2.1:List Nd).length d5]) (by simp [results,Tryz.results53,go_sem,q0,q1]) rfl HE2.out.1
theorem Tp (P:Nat) (es:List Pt) (nx:kW) (HN:Hid (lJ P es nx)) (env:Env) (a:Nat) (p:Pt) (r:eF) (Y:Nat->Prop) (w:World) (h:iV P es env a Y w) (hp:es[a]?=some p) (hk:p.k=4) (hal:a<=1000000) (hvl:env.length<=900000) (C9:Gd p.T) (C_:p.T.length<=5000000) (hG:∀env a x t b,nx env a=some (x,t,b)->qQ x t) (hm:Lj nx env p (a+1)=some r):
  Calls Tryz.prog 53 #[pk P] w (bU P es env Y r w):=by
 have jW:=aB (DF hm hp);have pR:=aB hk;refine (iR P es env a p r Y w).2 h hp hal ?_;clear h hp hal hm hk;intro eb eo ec TA tc UA uc R B G w4 H4;dsimp only [iR];intro K1 hK1 K2 hK2;obtain ⟨k0,k1,k2,k3,k4,k6,k7⟩:=H4.out.pt.cells;have jr:w4.cell? ⟨B,0,none⟩=some (.int .i64 4):=by rw [k0,pR.out]
 clear k0;obtain ⟨x,t,b,h1,hr⟩:=bD jW.out.1;obtain ⟨y,u,c,h2,hr⟩:=bD hr;injection hr with hr
 subst hr;have vP:=aB h1;have Nj:=aB h2;have fI:=aB (hG _ _ _ _ _ h1);have wN:=aB (hG _ _ _ _ _ h2);have IB:=aB (DF C9 C_);clear h1 h2 C9 C_ jW;have HX:=aB (HN.out env (a+1) (x,t,b) Y w4 vP.out H4.out.wk);unfold pk at HX;go_wp2_with fail;refine HX.out.mono ?_;rintro e w5 ⟨Y5,hf,hy,hkk,A5,c5,T5,d5,rfl,hx,ht,hA⟩;clear HX;have H5:=aB (H4.out.step hf hy hkk);have hV:Hid (bN w5 Y5 A5 c5 x/\aF w5 Y5 T5 d5 t/\∀a,A5=some a->w.heap.size<=a.block):=aB ⟨hx,ht,fun a ha=>vV H4.out.fr.size (hA a ha)⟩;clear hf hy hkk hx ht hA
 try clear k0 k1 k2 k3 k4 k6 k7
 try clear jr
 try clear k1 k2 k3 k4 k6 k7
 go_upto_region 14 with fail
 obtain ⟨w6,hw⟩:∃w6,w6=w5.alloc (.cells #[.slice A5 (x:List Pt).length c5,.slice T5 (t:List Nd).length d5] 65):=⟨_,rfl⟩;obtain ⟨b6,hb⟩:∃b6,b6=w5.heap.size:=⟨_,rfl⟩;have hbb:Below w5.heap.size w5 w6:=by rw [hw];exact au (aI _ _) _
 have H6:=aB (H5.out.later hbb);have X6:Hid (jG w b6 A5 c5 x T5 d5 t Y5 w6):=aB ⟨by rw [hw,hb];exact aQ.new H5.out.wk.lt _ _,hV.out.1.fr (Fr.below hbb) (aj.refl _ _),hV.out.2.1.later hbb,hV.out.2.2⟩;rw [<-hw,<-hb];clear hw hb hbb hV;obtain ⟨k0,k1,k2,k3,k4,k6,k7⟩:=H6.out.pt.cells;obtain ⟨kS,kT⟩:=X6.out.cells;have hbl:Below w6.heap.size w6 (w6.alloc (.cells #[.string p.bd,.slice TA (p.T:List Nd).length tc] 36)):=au (aI _ _) _;have HL:=aB (H6.out.later hbl);have IC:=aB (uj P es nx HN env [(p.bd,p.T)] b (y,u,c) (some ⟨w6.heap.size,0,none⟩) 1 [⟨p.bd,TA,(p.T:List Nd).length,tc⟩] Y5 (w6.alloc (.cells #[.string p.bd,.slice TA (p.T:List Nd).length tc] 36)) HL.out.wk (by rw [FT];exact kP w6 ⟨p.bd,TA,(p.T:List Nd).length,tc⟩) (dY.one ((H6.out.pt.T).later hbl) rfl) (by simp) hvl Nj.out);replace X6:=aB (X6.out.later hbl);clear hbl;have HX:=aB (IC.out);unfold pk at HX;go_wp2_with fail;refine HX.out.mono ?_;rintro e w7 ⟨Y7,hf,hy,hkk,A7,c7,T7,d7,rfl,hx,ht,hA⟩;clear HX;have H7:=aB (HL.out.step hf hy hkk);replace X6:=aB (X6.out.step hf hy);have hV:Hid (bN w7 Y7 A7 c7 y/\aF w7 Y7 T7 d7 u/\∀a,A7=some a->w.heap.size<=a.block):=aB ⟨hx,ht,fun a ha=>vV HL.out.fr.size (hA a ha)⟩;clear hf hy hkk hx ht hA
 try clear k0 k1 k2 k3 k4 k6 k7
 try clear jr
 try clear k1 k2 k3 k4 k6 k7
 go_upto_region 15 with fail
 obtain ⟨w8,hw⟩:∃w8,w8=w7.alloc (.cells #[.slice A7 (y:List Pt).length c7,.slice T7 (u:List Nd).length d7] 65):=⟨_,rfl⟩;obtain ⟨b8,hb⟩:∃b8,b8=w7.heap.size:=⟨_,rfl⟩;have hbb:Below w7.heap.size w7 w8:=by rw [hw];exact au (aI _ _) _
 have H8:=aB (H7.out.later hbb);replace X6:=aB (X6.out.later hbb);have X8:Hid (jG w b8 A7 c7 y T7 d7 u Y7 w8):=aB ⟨by rw [hw,hb];exact aQ.new H7.out.wk.lt _ _,hV.out.1.fr (Fr.below hbb) (aj.refl _ _),hV.out.2.1.later hbb,hV.out.2.2⟩;rw [<-hw,<-hb];clear hw hb hbb hV;obtain ⟨k0,k1,k2,k3,k4,k6,k7⟩:=H8.out.pt.cells;obtain ⟨kS,kT⟩:=X6.out.cells;obtain ⟨zw,zx⟩:=X8.out.cells;obtain ⟨SS,hSS⟩:∃SS:World->Prop,SS=fun v=>v.cell? ⟨B,2,none⟩=some (.string p.nm)/\v.cell? ⟨B,3,none⟩=some (.string p.bd)/\v.cell? ⟨B,6,none⟩=some (.slice TA p.T.length tc)/\v.cell? ⟨B,7,none⟩=some (.slice UA p.U.length uc)/\v.cell? ⟨b6,0,none⟩=some (.slice A5 (x:List Pt).length c5)/\v.cell? ⟨b6,1,none⟩=some (.slice T5 (t:List Nd).length d5)/\v.cell? ⟨b8,0,none⟩=some (.slice A7 (y:List Pt).length c7)/\v.cell? ⟨b8,1,none⟩=some (.slice T7 (u:List Nd).length d7):=⟨_,rfl⟩;obtain ⟨w9,hwd⟩:∃w9,w9=w8.drew:=⟨_,rfl⟩;have hb:Below w8.heap.size w8 w9:=by rw [hwd];exact (aI _ _).drew
 have H9:=aB (H8.out.later hb);replace X6:=aB (X6.out.later hb);replace X8:=aB (X8.out.later hb);clear hb
 try clear k0 k1 k2 k3 k4 k6 k7
 try clear jr
 try clear k1 k2 k3 k4 k6 k7
 clear kS kT;clear zw zx;have Ei:SS w9:=by rw [hSS];exact ⟨H9.out.pt.cells.2.2.1,H9.out.pt.cells.2.2.2.1,H9.out.pt.cells.2.2.2.2.2.1,H9.out.pt.cells.2.2.2.2.2.2,X6.out.cells.1,X6.out.cells.2,X8.out.cells.1,X8.out.cells.2⟩
 refine aG (S:=SS) [12] (by kernel_rfl) (by rw [<-hwd];exact Ei) (fun hHeld=>?_);rw [<-hwd] at hHeld ⊢;clear hwd hHeld;refine aM 0 [12] (some 93) rfl rfl ?_;refine aM 1 [12] (some 94) rfl rfl ?_;refine aM 2 [12] (some 95) rfl rfl ?_;refine aM 3 [12] (some 96) rfl rfl ?_;refine aM 5 [12] (some 98) rfl rfl ?_;refine aM 6 [12] (some 99) rfl rfl ?_;refine aM 9 [12] (some 102) rfl rfl ?_;refine aM 10 [12] (some 103) rfl rfl ?_;have HX:=aB (iH A5 c5 x T5 d5 t TA tc p.T Y7 w9 X6.out.ex fI.out.ne X6.out.ty (H9.out.pt.T) fI.out.nY (mJ IB.out.1) H9.out.wk.lt fI.out.len fI.out.tl (IB.out.2));refine aY 4 (some 97) rfl rfl (by kernel_rfl) (by rfl) (by go_simp) HX.out ?_;rintro e cK ⟨hb,IL,e10,rfl,hxe⟩;clear HX;have dR:=aB (H9.out.later hb);replace X6:=aB (X6.out.later hb);replace X8:=aB (X8.out.later hb);have oz:Hid (bN cK Y7 IL e10 (toM x t p.T)):=aB hxe;clear hb hxe;have rZ:SS cK:=by rw [hSS];exact ⟨dR.out.pt.cells.2.2.1,dR.out.pt.cells.2.2.2.1,dR.out.pt.cells.2.2.2.2.2.1,dR.out.pt.cells.2.2.2.2.2.2,X6.out.cells.1,X6.out.cells.2,X8.out.cells.1,X8.out.cells.2⟩
 refine ⟨_,rfl,rZ,?_⟩;refine aA ?_;obtain ⟨fJ,hw⟩:∃fJ,fJ=cK.alloc (.cells (bO [((some ⟨G,0,none⟩),1,[p]),(IL,e10,(toM x t p.T)),(A7,c7,y)]) 24):=⟨_,rfl⟩;have hb:Below cK.heap.size cK fJ:=by rw [hw];exact au (aI _ _) _
 have HX:=aB (fG [((some ⟨G,0,none⟩),1,[p]),(IL,e10,(toM x t p.T)),(A7,c7,y)] Y7 cK (by intro q hq;simp only [qm,aaC,or_false] at hq;rcases hq with rfl|rfl|rfl;exact dR.out.ex;exact oz.out;exact X8.out.ex) dR.out.wk.lt (by simp) (by simp only [iW,List.flatMap_nil,lS,aas];have h5:=fI.out.len;have h6:=wN.out.len;have h7:=bR x t p.T;simp only [aaA];omega));rw [<-hw] at HX;simp only [iW,List.flatMap_nil,mO,uK,aat] at HX;unfold bO at hw;simp only [RH,aaD] at hw;have dD:=aB (dR.out.later hb);replace X6:=aB (X6.out.later hb);replace X8:=aB (X8.out.later hb);replace oz:=aB (oz.out.fr (Fr.below hb) (aj.refl _ _));clear hb;have rW:SS fJ:=by rw [hSS];exact ⟨dD.out.pt.cells.2.2.1,dD.out.pt.cells.2.2.2.1,dD.out.pt.cells.2.2.2.2.2.1,dD.out.pt.cells.2.2.2.2.2.2,X6.out.cells.1,X6.out.cells.2,X8.out.cells.1,X8.out.cells.2⟩
 refine aX 7 (some 100) (v:=.slice (some ⟨cK.heap.size,0,none⟩) 3 3) (w':=fJ) rfl rfl (by kernel_rfl) (by rfl) (by rw [hw];go_simp;try with_reducible rfl) (fun _=>rW) ?_;refine aA ?_;clear hw;refine aY 8 (some 101) rfl rfl (by kernel_rfl) (by rfl) (by go_simp) HX.out ?_;rintro e fU ⟨hb,Xw,c12,rfl,hxe,hA⟩;clear HX;have dS:=aB (dD.out.later hb);replace X6:=aB (X6.out.later hb);replace X8:=aB (X8.out.later hb);replace oz:=aB (oz.out.fr (Fr.below hb) (aj.refl _ _));have kQ:Hid (bN fU Y7 Xw c12 (p::((toM x t p.T)++y))/\∀a,Xw=some a->w.heap.size<=a.block):=aB ⟨hxe,fun a ha=>vV dR.out.fr.size (hA a ha)⟩;clear hb hxe hA;have rX:SS fU:=by rw [hSS];exact ⟨dS.out.pt.cells.2.2.1,dS.out.pt.cells.2.2.2.1,dS.out.pt.cells.2.2.2.2.2.1,dS.out.pt.cells.2.2.2.2.2.2,X6.out.cells.1,X6.out.cells.2,X8.out.cells.1,X8.out.cells.2⟩
 refine ⟨_,rfl,rX,?_⟩;refine aA ?_;refine aM 11 [12] (some 104) rfl rfl ?_;obtain ⟨r0,r1,rU,rV⟩:=dS.out.jN;refine jl 12 none (w':=?_) rfl rfl (by kernel_rfl) (by rfl) ?_ (zL (by kernel_rfl)) ?_
 rotate_left
 ·(go_simp;try with_reducible rfl)
 refine aA ?_;refine bB (by kernel_rfl) ?_ _;have HE:=aB (dS.out.done (r:=((p::((toM x t p.T)++y)),u,c)) rfl kQ.out.1 (X8.out.ty) kQ.out.2);go_wp2_with fail;obtain ⟨wy,bK⟩:∃wy,wy=set2 fU R (.slice Xw ((p::((toM x t p.T)++y)):List Pt).length c12) (.slice T7 (u:List Nd).length d7):=⟨_,rfl⟩;have HE2:Hid (bU P es env Y ((p::((toM x t p.T)++y)),u,c) w (.returned (.agg #[.slice Xw ((p::((toM x t p.T)++y)):List Pt).length c12,.slice T7 (u:List Nd).length d7])) wy/\wy.cell? ⟨R,0,none⟩=some (.slice Xw ((p::((toM x t p.T)++y)):List Pt).length c12)/\wy.cell? ⟨R,1,none⟩=some (.slice T7 (u:List Nd).length d7)):=aB (by rw [bK];exact HE.out);unfold set2 at bK
 first|rw [<-bK]|(simp only [oG,lS] at bK ⊢;rw [<-bK])
 have q0:=HE2.out.2.1;have q1:=HE2.out.2.2;refine bodyPost_ret (v:=.agg #[.slice Xw ((p::((toM x t p.T)++y)):List Pt).length c12,.slice T7 (u:List Nd).length d7]) (by simp [results,Tryz.results53,go_sem,q0,q1]) rfl HE2.out.1
theorem Tq (P:Nat) (es:List Pt) (nx:kW) (HN:Hid (lJ P es nx)) (env:Env) (a:Nat) (p:Pt) (r:eF) (Y:Nat->Prop) (w:World) (h:iV P es env a Y w) (hp:es[a]?=some p) (hk:p.k=5) (hal:a<=1000000) (hvl:env.length<=900000) (C9:Gd p.T) (C_:p.T.length<=5000000) (hgU:Gd p.U) (hgV:p.U.length<=5000000) (hG:∀env a x t b,nx env a=some (x,t,b)->qQ x t) (hm:Ll nx env p (a+1)=some r):
  Calls Tryz.prog 53 #[pk P] w (bU P es env Y r w):=by
 have jW:=aB (DF hm hp);have pR:=aB hk;refine (iR P es env a p r Y w).2 h hp hal ?_;clear h hp hal hm hk;intro eb eo ec TA tc UA uc R B G w4 H4;dsimp only [iR];intro K1 hK1 K2 hK2;obtain ⟨k0,k1,k2,k3,k4,k6,k7⟩:=H4.out.pt.cells;have jr:w4.cell? ⟨B,0,none⟩=some (.int .i64 5):=by rw [k0,pR.out]
 clear k0;obtain ⟨x,t,b,h1,hr⟩:=bD jW.out.1;obtain ⟨y,u,c,h2,hr⟩:=bD hr;injection hr with hr
 subst hr;have vP:=aB h1;have Nj:=aB h2;have IB:=aB (DF C9 C_);have HgU:=aB (DF hgU hgV);have HGa:=aB (hG _ _ _ _ _ h1);have HGb:=aB (hG _ _ _ _ _ h2);clear h1 h2 C9 C_ hgU hgV jW;go_upto_region 17 with fail
 apply share
 case h=>
  intro HT;obtain ⟨SS,hSS⟩:∃SS:World->Prop,SS=fun v=>v.cell? ⟨B,2,none⟩=some (.string p.nm)/\v.cell? ⟨B,3,none⟩=some (.string p.bd)/\v.cell? ⟨B,6,none⟩=some (.slice TA p.T.length tc)/\v.cell? ⟨B,7,none⟩=some (.slice UA p.U.length uc):=⟨_,rfl⟩;obtain ⟨w5,hwd⟩:∃w5,w5=w4.drew:=⟨_,rfl⟩;have hb:Below w4.heap.size w4 w5:=by rw [hwd];exact (aI _ _).drew
  have H5:=aB (H4.out.later hb);have HBm:=aB hb;clear hb
  try clear k0 k1 k2 k3 k4 k6 k7
  try clear jr
  try clear k1 k2 k3 k4 k6 k7
  have Dc:SS w5:=by rw [hSS];exact ⟨H5.out.pt.cells.2.2.1,H5.out.pt.cells.2.2.2.1,H5.out.pt.cells.2.2.2.2.2.1,H5.out.pt.cells.2.2.2.2.2.2⟩
  refine aG (S:=SS) [9] (by kernel_rfl) (by rw [<-hwd];exact Dc) (fun hHeld=>?_);rw [<-hwd] at hHeld ⊢;clear hwd hHeld;refine aM 0 [9] (some 107) rfl rfl ?_;refine aM 1 [9] (some 108) rfl rfl ?_;refine aM 2 [9] (some 109) rfl rfl ?_;refine aM 3 [9] (some 110) rfl rfl ?_;refine aM 4 [9] (some 111) rfl rfl ?_;refine aM 5 [9] (some 112) rfl rfl ?_;have Z0:=aB (fun v (hv:Below w4.heap.size w4 v)=>o_ TA UA tc uc p.T p.U v (H4.out.pt.later hv).T.ty.eY (H4.out.pt.later hv).U.ty.eY (by have:=IB.out.2;have:=HgU.out.2;omega));have HS:Hid (∀v,Below w4.heap.size w4 v->SS v):=aB fun v hv=>by rw [hSS];exact ⟨(H4.out.pt.later hv).cells.2.2.1,(H4.out.pt.later hv).cells.2.2.2.1,(H4.out.pt.later hv).cells.2.2.2.2.2.1,(H4.out.pt.later hv).cells.2.2.2.2.2.2⟩
  refine pF 6 8 (by kernel_rfl) rfl rfl (by rfl) (by rfl) ?_ ?_
  ·refine qh (some 113) rfl (by go_simp) (Z0.out _ HBm.out) ?_
   rintro e we ⟨A9,c9,rfl,hown,hb⟩;have IQ:=aB (ah HBm.out hb);have HO:=aB (ay.lower hown HBm.out.size);have hbx:=aB hb;clear hown hb;have aaB:=HS.out _ IQ.out;refine ⟨_,rfl,fun _=>aaB,?_⟩;refine aA ?_;refine aM 7 [9] (some 114) rfl rfl ?_;refine aX 8 (some 8) (v:=.pointer (some ⟨we.heap.size,0,none⟩)) (w':=we.alloc (.cells #[.string ⟨#[]⟩,.slice none 0 0] 36)) rfl rfl (by kernel_rfl) (by rfl) (by go_simp) (fun _=>HS.out _ (au IQ.out _)) ?_;obtain ⟨wz,hwz⟩:∃wz,wz=we.alloc (.cells #[.string ⟨#[]⟩,.slice none 0 0] 36):=⟨_,rfl⟩;have pG:Hid (Below w4.heap.size w4 wz):=aB (by rw [hwz];exact au IQ.out _);obtain ⟨Q,hQ⟩:∃Q,Q=we.heap.size:=⟨_,rfl⟩;have nM:Hid (Iz wz Q/\Q<wz.heap.size/\w4.heap.size<=Q):=aB ⟨by rw [hwz,hQ];exact heap_alloc_new _ _,by rw [hwz,hQ];simp,by rw [hQ];exact IQ.out.size⟩;have HOz:=aB (show dF wz w4.heap.size A9 c9 (aR p.T p.U) from (by rw [hwz];exact ay.alloc HO.out _));rw [<-hwz,<-hQ];clear hwz hQ;have Iq:=HS.out _ pG.out;refine aA ?_;have g0:wz.cell? ⟨Q,0,none⟩=some (.string ⟨#[]⟩):=by simp [DI,nM.out.1]
   have g1:wz.cell? ⟨Q,1,none⟩=some (.slice none 0 0):=by simp [DI,nM.out.1]
   have f0:wz.frozen? ⟨Q,0,none⟩=false:=by simp [Gb,nM.out.1]
   have f1:wz.frozen? ⟨Q,1,none⟩=false:=by simp [Gb,nM.out.1]
   refine jl 9 none (w':=?_) rfl rfl (by kernel_rfl) (by rfl) ?_ (zL (by kernel_rfl)) ?_
   rotate_left
   ·(go_simp;try with_reducible rfl)
   refine aA ?_;refine bB (by kernel_rfl) ?_ _;have HQ:=Fx pG HOz nM p.nm;obtain ⟨wq,hwq⟩:∃wq,wq=set2 wz Q (.string p.nm) (.slice A9 (aR p.T p.U).length c9):=⟨_,rfl⟩;rw [<-hwq] at HQ;unfold set2 at hwq;rw [<-hwq];clear hwq g0 g1 f0 f1
   try clear HOz
   try clear HO
   try clear nX
   try clear nM
   revert HQ;revert wq Q A9 c9;exact HT.out
  ·refine fC (some 8) (v:=.pointer (some ⟨w5.heap.size,0,none⟩)) (w':=w5.alloc (.cells #[.string ⟨#[]⟩,.slice none 0 0] 36)) rfl (by go_simp) ?_
   obtain ⟨wz,hwz⟩:∃wz,wz=w5.alloc (.cells #[.string ⟨#[]⟩,.slice none 0 0] 36):=⟨_,rfl⟩;have pG:Hid (Below w4.heap.size w4 wz):=aB (by rw [hwz];exact au HBm.out _);obtain ⟨Q,hQ⟩:∃Q,Q=w5.heap.size:=⟨_,rfl⟩;have nM:Hid (Iz wz Q/\Q<wz.heap.size/\w4.heap.size<=Q):=aB ⟨by rw [hwz,hQ];exact heap_alloc_new _ _,by rw [hwz,hQ];simp,by rw [hQ];exact HBm.out.size⟩;rw [<-hwz,<-hQ];clear hwz hQ;have Iq:=HS.out _ pG.out;refine ⟨fun _=>Iq,?_⟩;refine aA ?_;refine aY 6 (some 113) rfl rfl (by kernel_rfl) (by rfl) (by go_simp) (Z0.out _ pG.out) ?_;rintro e we ⟨A9,c9,rfl,hown,hb⟩;have IQ:=aB (ah pG.out hb);have HO:=aB (ay.lower hown pG.out.size);have hbx:=aB hb;clear hown hb;have aaB:=HS.out _ IQ.out;refine ⟨_,rfl,aaB,?_⟩;refine aA ?_;refine aM 7 [9] (some 114) rfl rfl ?_;have nX:=aB (af_ nM.out hbx.out);have g0:we.cell? ⟨Q,0,none⟩=some (.string ⟨#[]⟩):=by simp [DI,nX.out.1]
   have g1:we.cell? ⟨Q,1,none⟩=some (.slice none 0 0):=by simp [DI,nX.out.1]
   have f0:we.frozen? ⟨Q,0,none⟩=false:=by simp [Gb,nX.out.1]
   have f1:we.frozen? ⟨Q,1,none⟩=false:=by simp [Gb,nX.out.1]
   refine jl 9 none (w':=?_) rfl rfl (by kernel_rfl) (by rfl) ?_ (zL (by kernel_rfl)) ?_
   rotate_left
   ·(go_simp;try with_reducible rfl)
   refine aA ?_;refine bB (by kernel_rfl) ?_ _;have HQ:=Fx IQ HO nX p.nm;obtain ⟨wq,hwq⟩:∃wq,wq=set2 we Q (.string p.nm) (.slice A9 (aR p.T p.U).length c9):=⟨_,rfl⟩;rw [<-hwq] at HQ;unfold set2 at hwq;rw [<-hwq];clear hwq g0 g1 f0 f1
   try clear HOz
   try clear HO
   try clear nX
   try clear nM
   exact HT.out A9 c9 Q wq HQ
 case t=>
  intro A9 c9 Q w5 HQ;have hb:Below w4.heap.size w4 w5:=HQ.out.b;have H5:=aB (H4.out.later hb);have dV:Hid (aQ w5 Y Q #[.string p.nm,.slice A9 (aR p.T p.U).length c9] 36):=aB ⟨HQ.out.q,fun h5=>by have h6:=H4.out.wk.lt _ h5;have h7:=HQ.out.z;omega⟩;have uR:Hid (aF w5 Y A9 c9 (aR p.T p.U)):=aB (aF.own HQ.out.T fun q hq=>H4.out.wk.lt q hq);clear HQ hb
  try clear k0 k1 k2 k3 k4 k6 k7
  try clear jr
  try clear k1 k2 k3 k4 k6 k7
  obtain ⟨k0,k1,k2,k3,k4,k6,k7⟩:=H5.out.pt.cells;obtain ⟨Tt,Tv⟩:=dV.out.kX;have zy:=HGa;have Df:=HGb;have hbl:Below w5.heap.size w5 (w5.alloc (.cells #[.string p.nm,.slice A9 ((aR p.T p.U):List Nd).length c9,.string p.bd,.slice TA (p.T:List Nd).length tc] 36)):=au (aI _ _) _;have HL:=aB (H5.out.later hbl);have IC:=aB (uj P es nx HN env [(p.nm,(aR p.T p.U)),(p.bd,p.T)] (a+1) (x,t,b) (some ⟨w5.heap.size,0,none⟩) 2 [⟨p.nm,A9,((aR p.T p.U):List Nd).length,c9⟩,⟨p.bd,TA,(p.T:List Nd).length,tc⟩] Y (w5.alloc (.cells #[.string p.nm,.slice A9 ((aR p.T p.U):List Nd).length c9,.string p.bd,.slice TA (p.T:List Nd).length tc] 36)) HL.out.wk (by rw [FT];exact Ii w5 ⟨p.nm,A9,((aR p.T p.U):List Nd).length,c9⟩ ⟨p.bd,TA,(p.T:List Nd).length,tc⟩) (dY.app (dY.one ((uR.out).later hbl) rfl) (dY.one ((H5.out.pt.T).later hbl) rfl)) (by simp) hvl vP.out);replace dV:=aB (dV.out.fr (Fr.below hbl) (aj.refl _ _));replace uR:=aB (uR.out.fr (Fr.below hbl) (aj.refl _ _));clear hbl;have HX:=aB (IC.out);unfold pk at HX;go_wp2_with fail;refine HX.out.mono ?_;rintro e w6 ⟨Y6,hf,hy,hkk,A6,c6,T6,d6,rfl,hx,ht,hA⟩;clear HX;have H6:=aB (HL.out.step hf hy hkk);replace dV:=aB (dV.out.fr hf hy);replace uR:=aB (uR.out.fr hf hy);have hV:Hid (bN w6 Y6 A6 c6 x/\aF w6 Y6 T6 d6 t/\∀a,A6=some a->w.heap.size<=a.block):=aB ⟨hx,ht,fun a ha=>vV HL.out.fr.size (hA a ha)⟩;clear hf hy hkk hx ht hA
  try clear k0 k1 k2 k3 k4 k6 k7
  try clear jr
  try clear k1 k2 k3 k4 k6 k7
  go_upto_region 19 with fail
  obtain ⟨w7,hw⟩:∃w7,w7=w6.alloc (.cells #[.slice A6 (x:List Pt).length c6,.slice T6 (t:List Nd).length d6] 65):=⟨_,rfl⟩;obtain ⟨b7,hb⟩:∃b7,b7=w6.heap.size:=⟨_,rfl⟩;have hbb:Below w6.heap.size w6 w7:=by rw [hw];exact au (aI _ _) _
  have H7:=aB (H6.out.later hbb);replace dV:=aB (dV.out.fr (Fr.below hbb) (aj.refl _ _));replace uR:=aB (uR.out.fr (Fr.below hbb) (aj.refl _ _));have X7:Hid (jG w b7 A6 c6 x T6 d6 t Y6 w7):=aB ⟨by rw [hw,hb];exact aQ.new H6.out.wk.lt _ _,hV.out.1.fr (Fr.below hbb) (aj.refl _ _),hV.out.2.1.later hbb,hV.out.2.2⟩;rw [<-hw,<-hb];clear hw hb hbb hV;obtain ⟨k0,k1,k2,k3,k4,k6,k7⟩:=H7.out.pt.cells;obtain ⟨Dg,Dh⟩:=X7.out.cells;obtain ⟨Tt,Tv⟩:=dV.out.kX;have hbl:Below w7.heap.size w7 (w7.alloc (.cells #[.string p.nm,.slice A9 ((aR p.T p.U):List Nd).length c9] 36)):=au (aI _ _) _;have HL:=aB (H7.out.later hbl);have IC:=aB (uj P es nx HN env [(p.nm,(aR p.T p.U))] b (y,u,c) (some ⟨w7.heap.size,0,none⟩) 1 [⟨p.nm,A9,((aR p.T p.U):List Nd).length,c9⟩] Y6 (w7.alloc (.cells #[.string p.nm,.slice A9 ((aR p.T p.U):List Nd).length c9] 36)) HL.out.wk (by rw [FT];exact kP w7 ⟨p.nm,A9,((aR p.T p.U):List Nd).length,c9⟩) (dY.one ((uR.out).later hbl) rfl) (by simp) hvl Nj.out);replace X7:=aB (X7.out.later hbl);replace dV:=aB (dV.out.fr (Fr.below hbl) (aj.refl _ _));replace uR:=aB (uR.out.fr (Fr.below hbl) (aj.refl _ _));clear hbl;have HX:=aB (IC.out);unfold pk at HX;go_wp2_with fail;refine HX.out.mono ?_;rintro e w8 ⟨Y8,hf,hy,hkk,A8,c8,T8,d8,rfl,hx,ht,hA⟩;clear HX;have H8:=aB (HL.out.step hf hy hkk);replace X7:=aB (X7.out.step hf hy);replace dV:=aB (dV.out.fr hf hy);replace uR:=aB (uR.out.fr hf hy)
  have hV:Hid (bN w8 Y8 A8 c8 y/\aF w8 Y8 T8 d8 u/\∀a,A8=some a->w.heap.size<=a.block):=aB ⟨hx,ht,fun a ha=>vV HL.out.fr.size (hA a ha)⟩;clear hf hy hkk hx ht hA
  try clear k0 k1 k2 k3 k4 k6 k7
  try clear jr
  try clear k1 k2 k3 k4 k6 k7
  go_upto_region 20 with fail
  obtain ⟨w9,hw⟩:∃w9,w9=w8.alloc (.cells #[.slice A8 (y:List Pt).length c8,.slice T8 (u:List Nd).length d8] 65):=⟨_,rfl⟩;obtain ⟨b9,hb⟩:∃b9,b9=w8.heap.size:=⟨_,rfl⟩;have hbb:Below w8.heap.size w8 w9:=by rw [hw];exact au (aI _ _) _
  have H9:=aB (H8.out.later hbb);replace X7:=aB (X7.out.later hbb);replace dV:=aB (dV.out.fr (Fr.below hbb) (aj.refl _ _));replace uR:=aB (uR.out.fr (Fr.below hbb) (aj.refl _ _));have X9:Hid (jG w b9 A8 c8 y T8 d8 u Y8 w9):=aB ⟨by rw [hw,hb];exact aQ.new H8.out.wk.lt _ _,hV.out.1.fr (Fr.below hbb) (aj.refl _ _),hV.out.2.1.later hbb,hV.out.2.2⟩;rw [<-hw,<-hb];clear hw hb hbb hV;obtain ⟨k0,k1,k2,k3,k4,k6,k7⟩:=H9.out.pt.cells;obtain ⟨Dg,Dh⟩:=X7.out.cells;obtain ⟨Lv,Lx⟩:=X9.out.cells;obtain ⟨Tt,Tv⟩:=dV.out.kX;obtain ⟨SS,hSS⟩:∃SS:World->Prop,SS=fun v=>v.cell? ⟨B,2,none⟩=some (.string p.nm)/\v.cell? ⟨B,3,none⟩=some (.string p.bd)/\v.cell? ⟨B,6,none⟩=some (.slice TA p.T.length tc)/\v.cell? ⟨B,7,none⟩=some (.slice UA p.U.length uc)/\v.cell? ⟨b7,0,none⟩=some (.slice A6 (x:List Pt).length c6)/\v.cell? ⟨b7,1,none⟩=some (.slice T6 (t:List Nd).length d6)/\v.cell? ⟨b9,0,none⟩=some (.slice A8 (y:List Pt).length c8)/\v.cell? ⟨b9,1,none⟩=some (.slice T8 (u:List Nd).length d8):=⟨_,rfl⟩;obtain ⟨cK,hwd⟩:∃cK,cK=w9.drew:=⟨_,rfl⟩;have hb:Below w9.heap.size w9 cK:=by rw [hwd];exact (aI _ _).drew
  have dR:=aB (H9.out.later hb);replace X7:=aB (X7.out.later hb);replace X9:=aB (X9.out.later hb);replace dV:=aB (dV.out.fr (Fr.below hb) (aj.refl _ _));replace uR:=aB (uR.out.fr (Fr.below hb) (aj.refl _ _));clear hb
  try clear k0 k1 k2 k3 k4 k6 k7
  try clear jr
  try clear k1 k2 k3 k4 k6 k7
  try clear Tt Tv
  try clear Dg Dh
  try clear Lv Lx
  have rZ:SS cK:=by rw [hSS];exact ⟨dR.out.pt.cells.2.2.1,dR.out.pt.cells.2.2.2.1,dR.out.pt.cells.2.2.2.2.2.1,dR.out.pt.cells.2.2.2.2.2.2,X7.out.cells.1,X7.out.cells.2,X9.out.cells.1,X9.out.cells.2⟩
  refine aG (S:=SS) [12] (by kernel_rfl) (by rw [<-hwd];exact rZ) (fun hHeld=>?_);rw [<-hwd] at hHeld ⊢;clear hwd hHeld;refine aM 0 [12] (some 128) rfl rfl ?_;refine aM 1 [12] (some 129) rfl rfl ?_;refine aM 2 [12] (some 130) rfl rfl ?_;refine aM 3 [12] (some 131) rfl rfl ?_;refine aM 5 [12] (some 133) rfl rfl ?_;refine aM 6 [12] (some 134) rfl rfl ?_;refine aM 9 [12] (some 137) rfl rfl ?_;refine aM 10 [12] (some 138) rfl rfl ?_;have HX:=aB (iH A6 c6 x T6 d6 t UA uc p.U Y8 cK X7.out.ex zy.out.ne X7.out.ty (dR.out.pt.U) zy.out.nY (mJ HgU.out.1) dR.out.wk.lt zy.out.len zy.out.tl (HgU.out.2));refine aY 4 (some 132) rfl rfl (by kernel_rfl) (by rfl) (by go_simp) HX.out ?_;rintro e fJ ⟨hb,BR,e11,rfl,hxe⟩;clear HX;have dD:=aB (dR.out.later hb);replace X7:=aB (X7.out.later hb);replace X9:=aB (X9.out.later hb);replace dV:=aB (dV.out.fr (Fr.below hb) (aj.refl _ _));replace uR:=aB (uR.out.fr (Fr.below hb) (aj.refl _ _));have mD:Hid (bN fJ Y8 BR e11 (toM x t p.U)):=aB hxe;clear hb hxe;have rW:SS fJ:=by rw [hSS];exact ⟨dD.out.pt.cells.2.2.1,dD.out.pt.cells.2.2.2.1,dD.out.pt.cells.2.2.2.2.2.1,dD.out.pt.cells.2.2.2.2.2.2,X7.out.cells.1,X7.out.cells.2,X9.out.cells.1,X9.out.cells.2⟩
  refine ⟨_,rfl,rW,?_⟩;refine aA ?_;obtain ⟨fU,hw⟩:∃fU,fU=fJ.alloc (.cells (bO [((some ⟨G,0,none⟩),1,[p]),(BR,e11,(toM x t p.U)),(A8,c8,y)]) 24):=⟨_,rfl⟩;have hb:Below fJ.heap.size fJ fU:=by rw [hw];exact au (aI _ _) _
  have HX:=aB (fG [((some ⟨G,0,none⟩),1,[p]),(BR,e11,(toM x t p.U)),(A8,c8,y)] Y8 fJ (by intro q hq;simp only [qm,aaC,or_false] at hq;rcases hq with rfl|rfl|rfl;exact dD.out.ex;exact mD.out;exact X9.out.ex) dD.out.wk.lt (by simp) (by simp only [iW,List.flatMap_nil,lS,aas];have h5:=zy.out.len;have h6:=Df.out.len;have h7:=bR x t p.U;simp only [aaA];omega));rw [<-hw] at HX;simp only [iW,List.flatMap_nil,mO,uK,aat] at HX;unfold bO at hw;simp only [RH,aaD] at hw;have dS:=aB (dD.out.later hb);replace X7:=aB (X7.out.later hb);replace X9:=aB (X9.out.later hb);replace dV:=aB (dV.out.fr (Fr.below hb) (aj.refl _ _));replace uR:=aB (uR.out.fr (Fr.below hb) (aj.refl _ _));replace mD:=aB (mD.out.fr (Fr.below hb) (aj.refl _ _));clear hb;have rX:SS fU:=by rw [hSS];exact ⟨dS.out.pt.cells.2.2.1,dS.out.pt.cells.2.2.2.1,dS.out.pt.cells.2.2.2.2.2.1,dS.out.pt.cells.2.2.2.2.2.2,X7.out.cells.1,X7.out.cells.2,X9.out.cells.1,X9.out.cells.2⟩
  refine aX 7 (some 135) (v:=.slice (some ⟨fJ.heap.size,0,none⟩) 3 3) (w':=fU) rfl rfl (by kernel_rfl) (by rfl) (by rw [hw];go_simp;try with_reducible rfl) (fun _=>rX) ?_;refine aA ?_;clear hw;refine aY 8 (some 136) rfl rfl (by kernel_rfl) (by rfl) (by go_simp) HX.out ?_;rintro e kI ⟨hb,qR,c13,rfl,hxe,hA⟩;clear HX;have dM:=aB (dS.out.later hb);replace X7:=aB (X7.out.later hb);replace X9:=aB (X9.out.later hb);replace dV:=aB (dV.out.fr (Fr.below hb) (aj.refl _ _));replace uR:=aB (uR.out.fr (Fr.below hb) (aj.refl _ _));replace mD:=aB (mD.out.fr (Fr.below hb) (aj.refl _ _));have kQ:Hid (bN kI Y8 qR c13 (p::((toM x t p.U)++y))/\∀a,qR=some a->w.heap.size<=a.block):=aB ⟨hxe,fun a ha=>vV dD.out.fr.size (hA a ha)⟩;clear hb hxe hA;have rY:SS kI:=by rw [hSS];exact ⟨dM.out.pt.cells.2.2.1,dM.out.pt.cells.2.2.2.1,dM.out.pt.cells.2.2.2.2.2.1,dM.out.pt.cells.2.2.2.2.2.2,X7.out.cells.1,X7.out.cells.2,X9.out.cells.1,X9.out.cells.2⟩
  refine ⟨_,rfl,rY,?_⟩;refine aA ?_;refine aM 11 [12] (some 139) rfl rfl ?_;obtain ⟨r0,r1,rU,rV⟩:=dM.out.jN;refine jl 12 none (w':=?_) rfl rfl (by kernel_rfl) (by rfl) ?_ (zL (by kernel_rfl)) ?_
  rotate_left
  ·(go_simp;try with_reducible rfl)
  refine aA ?_;refine bB (by kernel_rfl) ?_ _;have HE:=aB (dM.out.done (r:=((p::((toM x t p.U)++y)),u,c)) rfl kQ.out.1 (X9.out.ty) kQ.out.2);go_wp2_with fail;obtain ⟨wy,bK⟩:∃wy,wy=set2 kI R (.slice qR ((p::((toM x t p.U)++y)):List Pt).length c13) (.slice T8 (u:List Nd).length d8):=⟨_,rfl⟩;have HE2:Hid (bU P es env Y ((p::((toM x t p.U)++y)),u,c) w (.returned (.agg #[.slice qR ((p::((toM x t p.U)++y)):List Pt).length c13,.slice T8 (u:List Nd).length d8])) wy/\wy.cell? ⟨R,0,none⟩=some (.slice qR ((p::((toM x t p.U)++y)):List Pt).length c13)/\wy.cell? ⟨R,1,none⟩=some (.slice T8 (u:List Nd).length d8)):=aB (by rw [bK];exact HE.out);unfold set2 at bK
  first|rw [<-bK]|(simp only [oG,lS] at bK ⊢;rw [<-bK])
  have q0:=HE2.out.2.1;have q1:=HE2.out.2.2;refine bodyPost_ret (v:=.agg #[.slice qR ((p::((toM x t p.U)++y)):List Pt).length c13,.slice T8 (u:List Nd).length d8]) (by simp [results,Tryz.results53,go_sem,q0,q1]) rfl HE2.out.1
end Go.Proofs.YtmjdhfbnmmdjiaaGreat
