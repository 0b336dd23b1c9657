/- Laid together by a tool from the texts of this seat: CxApp CxLet CxRec CxIf. Conditions: each theorem's own. -/
import Derived.Test.YtmjdhfbnmmdjiaaGreatJ20
import Derived.Test.YtmjdhfbnmmdjiaaGreatJ22
set_option maxHeartbeats 8000000
set_option maxRecDepth 100000
namespace Go.Proofs.YtmjdhfbnmmdjiaaGreat
open Go.Lib renaming hid->aD
open Go.RowKit.Below renaming refl->aF
open _root_.Nat renaming le_trans->Ed
open _root_.And renaming intro->Cj
open Go.World renaming size_alloc->Er,cell?->Ck,frozen?->EJ
open _root_.List renaming flatMap_cons->iJ,length_append->jX,length_singleton->aaB,mem_cons->oJ,not_mem_nil->aaC,length_nil->aap,append_nil->lI,cons_append->rM,nil_append->aar,map_cons->Nc,map_nil->aaD,length_cons->mX
open Go.RowKit
theorem Rh (P:Nat) (es:List Pt) (nx:kP) (HN:Hid (lg P es nx)) (env:Env) (a:Nat) (p:Pt) (r:dV) (Y:Nat->Prop) (w:World) (h:iI P es env a Y w) (hp:es[a]?=some p) (hk:p.k=3) (hal:a<=1000000) (hG:∀env a x t b,nx env a=some (x,t,b)->pI x t) (hm:yB nx env p (a+1)=some r):
  Calls Tryz.prog 53 #[pk P] w (bU P es env Y r w):=by
 have jM:=aD (Cj hm hp);have oI:=aD hk;refine (iG P es env a p r Y w).2 h hp hal ?_;clear h hp hal hm hk;intro eb eo ec TA tc UA uc R B G w4 H4;dsimp only [iG];intro K1 hK1 K2 hK2;obtain ⟨k0,k1,k2,k3,k4,k6,k7⟩:=H4.out.pt.cells;have ji:w4.cell? ⟨B,0,none⟩=some (.int .i64 3):=by rw [k0,oI.out]
 clear k0
 skip
 have HX:=aD (OW P es nx HN env (a+1) p r Y w4 TA UA tc uc H4.out.wk H4.out.pt.T H4.out.pt.U hG jM.out.1);unfold pk pv at HX;have k5:w4.cell? ⟨B,5,none⟩=some (.int .i64 p.num):=by simp [Ck,H4.out.pt.blk]
 obtain ⟨k0,_⟩:=H4.out.pt.cells;rw [oI.out] at HX k0;go_wp2_with fail;refine HX.out.mono ?_;rintro e w5 ⟨Y5,hf,hy,hkk,A5,c5,T5,d5,rfl,hx,ht,hA⟩;clear HX;have H5:=aD (H4.out.step hf hy hkk);have VX:Hid (bP w5 Y5 A5 c5 r.1):=aD hx;have VT:Hid (aA w5 Y5 T5 d5 r.2.1):=aD ht;have VA:Hid (∀a,A5=some a->w.heap.size<=a.block):=aD fun a ha=>Ed H4.out.fr.size (hA a ha);clear hf hy hkk hx ht hA
 try clear k0 k1 k2 k3 k4 k6 k7
 try clear ji
 try clear k1 k2 k3 k4 k6 k7
 try clear k5
 skip
 skip
 have HE:=aD (H5.out.done (r:=(r.1,r.2.1,r.2.2)) rfl (VX.out) (VT.out) (VA.out));obtain ⟨r0,r1,qQ,qR⟩:=H5.out.jF;go_wp2_with fail;obtain ⟨wy,bN⟩:∃wy,wy=set2 w5 R (.slice A5 (r.1:List Pt).length c5) (.slice T5 (r.2.1:List Nd).length d5):=⟨_,rfl⟩;have HE2:Hid (bU P es env Y (r.1,r.2.1,r.2.2) w (.returned (.agg #[.slice A5 (r.1:List Pt).length c5,.slice T5 (r.2.1:List Nd).length d5])) wy/\wy.cell? ⟨R,0,none⟩=some (.slice A5 (r.1:List Pt).length c5)/\wy.cell? ⟨R,1,none⟩=some (.slice T5 (r.2.1:List Nd).length d5)):=aD (by rw [bN];exact HE.out);unfold set2 at bN
 first|rw [<-bN]|(simp only [aaB] at bN;rw [<-bN])
 have q0:=HE2.out.2.1;have q1:=HE2.out.2.2;refine bodyPost_ret (v:=.agg #[.slice A5 (r.1:List Pt).length c5,.slice T5 (r.2.1:List Nd).length d5]) (by simp [results,Tryz.results53,go_sem,q0,q1]) rfl HE2.out.1
theorem Ri (P:Nat) (es:List Pt) (nx:kP) (HN:Hid (lg P es nx)) (env:Env) (a:Nat) (p:Pt) (r:dV) (Y:Nat->Prop) (w:World) (h:iI P es env a Y w) (hp:es[a]?=some p) (hk:p.k=4) (hal:a<=1000000) (hvl:env.length<=900000) (BG:Gd p.T) (BH:p.T.length<=5000000) (hG:∀env a x t b,nx env a=some (x,t,b)->pI x t) (hm:Gl nx env p (a+1)=some r):
  Calls Tryz.prog 53 #[pk P] w (bU P es env Y r w):=by
 have jM:=aD (Cj hm hp);have oI:=aD hk;refine (iG P es env a p r Y w).2 h hp hal ?_;clear h hp hal hm hk;intro eb eo ec TA tc UA uc R B G w4 H4;dsimp only [iG];intro K1 hK1 K2 hK2;obtain ⟨k0,k1,k2,k3,k4,k6,k7⟩:=H4.out.pt.cells;have ji:w4.cell? ⟨B,0,none⟩=some (.int .i64 4):=by rw [k0,oI.out]
 clear k0;obtain ⟨x,t,b,h1,hr⟩:=bH jM.out.1;obtain ⟨y,u,c,h2,hr⟩:=bH hr;injection hr with hr
 subst hr;have uL:=aD h1;have Lx:=aD h2;have fH:=aD (hG _ _ _ _ _ h1);have vH:=aD (hG _ _ _ _ _ h2);have Gs:=aD (Cj BG BH);clear h1 h2 BG BH jM;have HX:=aD (HN.out env (a+1) (x,t,b) Y w4 uL.out H4.out.wk);unfold pk at HX;go_wp2_with fail;refine HX.out.mono ?_;rintro e w5 ⟨Y5,hf,hy,hkk,A5,c5,T5,d5,rfl,hx,ht,hA⟩;clear HX;have H5:=aD (H4.out.step hf hy hkk);have hV:Hid (bP w5 Y5 A5 c5 x/\aA w5 Y5 T5 d5 t/\∀a,A5=some a->w.heap.size<=a.block):=aD ⟨hx,ht,fun a ha=>Ed H4.out.fr.size (hA a ha)⟩;clear hf hy hkk hx ht hA
 try clear k0 k1 k2 k3 k4 k6 k7
 try clear ji
 try clear k1 k2 k3 k4 k6 k7
 go_upto_region 14 with fail
 obtain ⟨w6,hw⟩:∃w6,w6=w5.alloc (.cells #[.slice A5 (x:List Pt).length c5,.slice T5 (t:List Nd).length d5] 65):=⟨_,rfl⟩;obtain ⟨b6,hb⟩:∃b6,b6=w5.heap.size:=⟨_,rfl⟩;have hbb:Below w5.heap.size w5 w6:=by rw [hw];exact aj (aF _ _) _
 have H6:=aD (H5.out.later hbb);have X6:Hid (jr w b6 A5 c5 x T5 d5 t Y5 w6):=aD ⟨by rw [hw,hb];exact aS.new H5.out.wk.lt _ _,hV.out.1.fr (Fr.below hbb) (ah.refl _ _),hV.out.2.1.later hbb,hV.out.2.2⟩;rw [<-hw,<-hb];clear hw hb hbb hV;obtain ⟨k0,k1,k2,k3,k4,k6,k7⟩:=H6.out.pt.cells;obtain ⟨kL,kM⟩:=X6.out.cells;have hbl:Below w6.heap.size w6 (w6.alloc (.cells #[.string p.bd,.slice TA (p.T:List Nd).length tc] 36)):=aj (aF _ _) _;have HL:=aD (H6.out.later hbl);have Gt:=aD (sP P es nx HN env [(p.bd,p.T)] b (y,u,c) (some ⟨w6.heap.size,0,none⟩) 1 [⟨p.bd,TA,(p.T:List Nd).length,tc⟩] Y5 (w6.alloc (.cells #[.string p.bd,.slice TA (p.T:List Nd).length tc] 36)) HL.out.wk (by rw [Er];exact kJ w6 ⟨p.bd,TA,(p.T:List Nd).length,tc⟩) (dX.one ((H6.out.pt.T).later hbl) rfl) (by simp) hvl Lx.out);replace X6:=aD (X6.out.later hbl);clear hbl;have HX:=aD (Gt.out);unfold pk at HX;go_wp2_with fail;refine HX.out.mono ?_;rintro e w7 ⟨Y7,hf,hy,hkk,A7,c7,T7,d7,rfl,hx,ht,hA⟩;clear HX;have H7:=aD (HL.out.step hf hy hkk);replace X6:=aD (X6.out.step hf hy);have hV:Hid (bP w7 Y7 A7 c7 y/\aA w7 Y7 T7 d7 u/\∀a,A7=some a->w.heap.size<=a.block):=aD ⟨hx,ht,fun a ha=>Ed HL.out.fr.size (hA a ha)⟩;clear hf hy hkk hx ht hA
 try clear k0 k1 k2 k3 k4 k6 k7
 try clear ji
 try clear k1 k2 k3 k4 k6 k7
 go_upto_region 15 with fail
 obtain ⟨w8,hw⟩:∃w8,w8=w7.alloc (.cells #[.slice A7 (y:List Pt).length c7,.slice T7 (u:List Nd).length d7] 65):=⟨_,rfl⟩;obtain ⟨b8,hb⟩:∃b8,b8=w7.heap.size:=⟨_,rfl⟩;have hbb:Below w7.heap.size w7 w8:=by rw [hw];exact aj (aF _ _) _
 have H8:=aD (H7.out.later hbb);replace X6:=aD (X6.out.later hbb);have X8:Hid (jr w b8 A7 c7 y T7 d7 u Y7 w8):=aD ⟨by rw [hw,hb];exact aS.new H7.out.wk.lt _ _,hV.out.1.fr (Fr.below hbb) (ah.refl _ _),hV.out.2.1.later hbb,hV.out.2.2⟩;rw [<-hw,<-hb];clear hw hb hbb hV;obtain ⟨k0,k1,k2,k3,k4,k6,k7⟩:=H8.out.pt.cells;obtain ⟨kL,kM⟩:=X6.out.cells;obtain ⟨yC,yD⟩:=X8.out.cells;obtain ⟨SS,hSS⟩:∃SS:World->Prop,SS=fun v=>v.cell? ⟨B,2,none⟩=some (.string p.nm)/\v.cell? ⟨B,3,none⟩=some (.string p.bd)/\v.cell? ⟨B,6,none⟩=some (.slice TA p.T.length tc)/\v.cell? ⟨B,7,none⟩=some (.slice UA p.U.length uc)/\v.cell? ⟨b6,0,none⟩=some (.slice A5 (x:List Pt).length c5)/\v.cell? ⟨b6,1,none⟩=some (.slice T5 (t:List Nd).length d5)/\v.cell? ⟨b8,0,none⟩=some (.slice A7 (y:List Pt).length c7)/\v.cell? ⟨b8,1,none⟩=some (.slice T7 (u:List Nd).length d7):=⟨_,rfl⟩;obtain ⟨w9,hwd⟩:∃w9,w9=w8.drew:=⟨_,rfl⟩;have hb:Below w8.heap.size w8 w9:=by rw [hwd];exact (aF _ _).drew
 have H9:=aD (H8.out.later hb);replace X6:=aD (X6.out.later hb);replace X8:=aD (X8.out.later hb);clear hb
 try clear k0 k1 k2 k3 k4 k6 k7
 try clear ji
 try clear k1 k2 k3 k4 k6 k7
 clear kL kM;clear yC yD;have CZ:SS w9:=by rw [hSS];exact ⟨H9.out.pt.cells.2.2.1,H9.out.pt.cells.2.2.2.1,H9.out.pt.cells.2.2.2.2.2.1,H9.out.pt.cells.2.2.2.2.2.2,X6.out.cells.1,X6.out.cells.2,X8.out.cells.1,X8.out.cells.2⟩
 refine aI (S:=SS) [12] (by kernel_rfl) (by rw [<-hwd];exact CZ) (fun hHeld=>?_);rw [<-hwd] at hHeld ⊢;clear hwd hHeld;refine aL 0 [12] (some 93) rfl rfl ?_;refine aL 1 [12] (some 94) rfl rfl ?_;refine aL 2 [12] (some 95) rfl rfl ?_;refine aL 3 [12] (some 96) rfl rfl ?_;refine aL 5 [12] (some 98) rfl rfl ?_;refine aL 6 [12] (some 99) rfl rfl ?_;refine aL 9 [12] (some 102) rfl rfl ?_;refine aL 10 [12] (some 103) rfl rfl ?_;have HX:=aD (iq A5 c5 x T5 d5 t TA tc p.T Y7 w9 X6.out.ex fH.out.ne X6.out.ty (H9.out.pt.T) fH.out.pJ (nG Gs.out.1) H9.out.wk.lt fH.out.len fH.out.tl (Gs.out.2));refine bD 4 (some 97) rfl rfl (by kernel_rfl) (by rfl) (by go_simp) HX.out ?_;rintro e dA ⟨hb,Gz,e10,rfl,hxe⟩;clear HX;have dS:=aD (H9.out.later hb);replace X6:=aD (X6.out.later hb);replace X8:=aD (X8.out.later hb);have nQ:Hid (bP dA Y7 Gz e10 (toM x t p.T)):=aD hxe;clear hb hxe;have qX:SS dA:=by rw [hSS];exact ⟨dS.out.pt.cells.2.2.1,dS.out.pt.cells.2.2.2.1,dS.out.pt.cells.2.2.2.2.2.1,dS.out.pt.cells.2.2.2.2.2.2,X6.out.cells.1,X6.out.cells.2,X8.out.cells.1,X8.out.cells.2⟩
 refine ⟨_,rfl,qX,?_⟩;refine aC ?_;obtain ⟨fJ,hw⟩:∃fJ,fJ=dA.alloc (.cells (bQ [((some ⟨G,0,none⟩),1,[p]),(Gz,e10,(toM x t p.T)),(A7,c7,y)]) 24):=⟨_,rfl⟩;have hb:Below dA.heap.size dA fJ:=by rw [hw];exact aj (aF _ _) _
 have HX:=aD (fD [((some ⟨G,0,none⟩),1,[p]),(Gz,e10,(toM x t p.T)),(A7,c7,y)] Y7 dA (by intro q hq;simp only [oJ,aaC,or_false] at hq;rcases hq with rfl|rfl|rfl;exact dS.out.ex;exact nQ.out;exact X8.out.ex) dS.out.wk.lt (by simp) (by simp only [iJ,List.flatMap_nil,jX,aap];have h5:=fH.out.len;have h6:=vH.out.len;have h7:=bS x t p.T;simp only [aaB];omega));rw [<-hw] at HX;simp only [iJ,List.flatMap_nil,lI,rM,aar] at HX;unfold bQ at hw;simp only [Nc,aaD] at hw;have dI:=aD (dS.out.later hb);replace X6:=aD (X6.out.later hb);replace X8:=aD (X8.out.later hb);replace nQ:=aD (nQ.out.fr (Fr.below hb) (ah.refl _ _));clear hb;have qU:SS fJ:=by rw [hSS];exact ⟨dI.out.pt.cells.2.2.1,dI.out.pt.cells.2.2.2.1,dI.out.pt.cells.2.2.2.2.2.1,dI.out.pt.cells.2.2.2.2.2.2,X6.out.cells.1,X6.out.cells.2,X8.out.cells.1,X8.out.cells.2⟩
 refine bB 7 (some 100) (v:=.slice (some ⟨dA.heap.size,0,none⟩) 3 3) (w':=fJ) rfl rfl (by kernel_rfl) (by rfl) (by rw [hw];go_simp;try with_reducible rfl) (fun _=>qU) ?_;refine aC ?_;clear hw;refine bD 8 (some 101) rfl rfl (by kernel_rfl) (by rfl) (by go_simp) HX.out ?_;rintro e fP ⟨hb,Vm,c12,rfl,hxe,hA⟩;clear HX;have dU:=aD (dI.out.later hb);replace X6:=aD (X6.out.later hb);replace X8:=aD (X8.out.later hb);replace nQ:=aD (nQ.out.fr (Fr.below hb) (ah.refl _ _));have kK:Hid (bP fP Y7 Vm c12 (p::((toM x t p.T)++y))/\∀a,Vm=some a->w.heap.size<=a.block):=aD ⟨hxe,fun a ha=>Ed dS.out.fr.size (hA a ha)⟩;clear hb hxe hA;have qV:SS fP:=by rw [hSS];exact ⟨dU.out.pt.cells.2.2.1,dU.out.pt.cells.2.2.2.1,dU.out.pt.cells.2.2.2.2.2.1,dU.out.pt.cells.2.2.2.2.2.2,X6.out.cells.1,X6.out.cells.2,X8.out.cells.1,X8.out.cells.2⟩
 refine ⟨_,rfl,qV,?_⟩;refine aC ?_;refine aL 11 [12] (some 104) rfl rfl ?_;obtain ⟨r0,r1,qQ,qR⟩:=dU.out.jF;refine je 12 none (w':=?_) rfl rfl (by kernel_rfl) (by rfl) ?_ (zL (by kernel_rfl)) ?_
 rotate_left
 ·(go_simp;try with_reducible rfl)
 refine aC ?_;refine bG (by kernel_rfl) ?_ _;have HE:=aD (dU.out.done (r:=((p::((toM x t p.T)++y)),u,c)) rfl kK.out.1 (X8.out.ty) kK.out.2);go_wp2_with fail;obtain ⟨wy,bN⟩:∃wy,wy=set2 fP R (.slice Vm ((p::((toM x t p.T)++y)):List Pt).length c12) (.slice T7 (u:List Nd).length d7):=⟨_,rfl⟩;have HE2:Hid (bU P es env Y ((p::((toM x t p.T)++y)),u,c) w (.returned (.agg #[.slice Vm ((p::((toM x t p.T)++y)):List Pt).length c12,.slice T7 (u:List Nd).length d7])) wy/\wy.cell? ⟨R,0,none⟩=some (.slice Vm ((p::((toM x t p.T)++y)):List Pt).length c12)/\wy.cell? ⟨R,1,none⟩=some (.slice T7 (u:List Nd).length d7)):=aD (by rw [bN];exact HE.out);unfold set2 at bN
 first|rw [<-bN]|(simp only [mX,jX] at bN ⊢;rw [<-bN])
 have q0:=HE2.out.2.1;have q1:=HE2.out.2.2;refine bodyPost_ret (v:=.agg #[.slice Vm ((p::((toM x t p.T)++y)):List Pt).length c12,.slice T7 (u:List Nd).length d7]) (by simp [results,Tryz.results53,go_sem,q0,q1]) rfl HE2.out.1
theorem Rj (P:Nat) (es:List Pt) (nx:kP) (HN:Hid (lg P es nx)) (env:Env) (a:Nat) (p:Pt) (r:dV) (Y:Nat->Prop) (w:World) (h:iI P es env a Y w) (hp:es[a]?=some p) (hk:p.k=5) (hal:a<=1000000) (hvl:env.length<=900000) (BG:Gd p.T) (BH:p.T.length<=5000000) (hgU:Gd p.U) (hgV:p.U.length<=5000000) (hG:∀env a x t b,nx env a=some (x,t,b)->pI x t) (hm:Gm nx env p (a+1)=some r):
  Calls Tryz.prog 53 #[pk P] w (bU P es env Y r w):=by
 have jM:=aD (Cj hm hp);have oI:=aD hk;refine (iG P es env a p r Y w).2 h hp hal ?_;clear h hp hal hm hk;intro eb eo ec TA tc UA uc R B G w4 H4;dsimp only [iG];intro K1 hK1 K2 hK2;obtain ⟨k0,k1,k2,k3,k4,k6,k7⟩:=H4.out.pt.cells;have ji:w4.cell? ⟨B,0,none⟩=some (.int .i64 5):=by rw [k0,oI.out]
 clear k0;obtain ⟨x,t,b,h1,hr⟩:=bH jM.out.1;obtain ⟨y,u,c,h2,hr⟩:=bH hr;injection hr with hr
 subst hr;have uL:=aD h1;have Lx:=aD h2;have Gs:=aD (Cj BG BH);have HgU:=aD (Cj hgU hgV);have HGa:=aD (hG _ _ _ _ _ h1);have HGb:=aD (hG _ _ _ _ _ h2);clear h1 h2 BG BH hgU hgV jM;go_upto_region 17 with fail
 apply share
 case h=>
  intro HT;obtain ⟨SS,hSS⟩:∃SS:World->Prop,SS=fun v=>v.cell? ⟨B,2,none⟩=some (.string p.nm)/\v.cell? ⟨B,3,none⟩=some (.string p.bd)/\v.cell? ⟨B,6,none⟩=some (.slice TA p.T.length tc)/\v.cell? ⟨B,7,none⟩=some (.slice UA p.U.length uc):=⟨_,rfl⟩;obtain ⟨w5,hwd⟩:∃w5,w5=w4.drew:=⟨_,rfl⟩;have hb:Below w4.heap.size w4 w5:=by rw [hwd];exact (aF _ _).drew
  have H5:=aD (H4.out.later hb);have Yx:=aD hb;clear hb
  try clear k0 k1 k2 k3 k4 k6 k7
  try clear ji
  try clear k1 k2 k3 k4 k6 k7
  have BK:SS w5:=by rw [hSS];exact ⟨H5.out.pt.cells.2.2.1,H5.out.pt.cells.2.2.2.1,H5.out.pt.cells.2.2.2.2.2.1,H5.out.pt.cells.2.2.2.2.2.2⟩
  refine aI (S:=SS) [9] (by kernel_rfl) (by rw [<-hwd];exact BK) (fun hHeld=>?_);rw [<-hwd] at hHeld ⊢;clear hwd hHeld;refine aL 0 [9] (some 107) rfl rfl ?_;refine aL 1 [9] (some 108) rfl rfl ?_;refine aL 2 [9] (some 109) rfl rfl ?_;refine aL 3 [9] (some 110) rfl rfl ?_;refine aL 4 [9] (some 111) rfl rfl ?_;refine aL 5 [9] (some 112) rfl rfl ?_;have XM:=aD (fun v (hv:Below w4.heap.size w4 v)=>oq TA UA tc uc p.T p.U v (H4.out.pt.later hv).T.ty.eY (H4.out.pt.later hv).U.ty.eY (by have:=Gs.out.2;have:=HgU.out.2;omega));have HS:Hid (∀v,Below w4.heap.size w4 v->SS v):=aD fun v hv=>by rw [hSS];exact ⟨(H4.out.pt.later hv).cells.2.2.1,(H4.out.pt.later hv).cells.2.2.2.1,(H4.out.pt.later hv).cells.2.2.2.2.2.1,(H4.out.pt.later hv).cells.2.2.2.2.2.2⟩
  refine oC 6 8 (by kernel_rfl) rfl rfl (by rfl) (by rfl) ?_ ?_
  ·refine oQ (some 113) rfl (by go_simp) (XM.out _ Yx.out) ?_
   rintro e we ⟨A9,c9,rfl,hown,hb⟩;have GD:=aD (au Yx.out hb);have HO:=aD (aB.lower hown Yx.out.size);have hbx:=aD hb;clear hown hb;have Yy:=HS.out _ GD.out;refine ⟨_,rfl,fun _=>Yy,?_⟩;refine aC ?_;refine aL 7 [9] (some 114) rfl rfl ?_;refine bB 8 (some 8) (v:=.pointer (some ⟨we.heap.size,0,none⟩)) (w':=we.alloc (.cells #[.string ⟨#[]⟩,.slice none 0 0] 36)) rfl rfl (by kernel_rfl) (by rfl) (by go_simp) (fun _=>HS.out _ (aj GD.out _)) ?_;obtain ⟨wz,hwz⟩:∃wz,wz=we.alloc (.cells #[.string ⟨#[]⟩,.slice none 0 0] 36):=⟨_,rfl⟩;have oD:Hid (Below w4.heap.size w4 wz):=aD (by rw [hwz];exact aj GD.out _);obtain ⟨Q,hQ⟩:∃Q,Q=we.heap.size:=⟨_,rfl⟩;have mY:Hid (Gr wz Q/\Q<wz.heap.size/\w4.heap.size<=Q):=aD ⟨by rw [hwz,hQ];exact heap_alloc_new _ _,by rw [hwz,hQ];simp,by rw [hQ];exact GD.out.size⟩;have HOz:=aD (show dK wz w4.heap.size A9 c9 (aW p.T p.U) from (by rw [hwz];exact aB.alloc HO.out _));rw [<-hwz,<-hQ];clear hwz hQ;have Gf:=HS.out _ oD.out;refine aC ?_;have g0:wz.cell? ⟨Q,0,none⟩=some (.string ⟨#[]⟩):=by simp [Ck,mY.out.1]
   have g1:wz.cell? ⟨Q,1,none⟩=some (.slice none 0 0):=by simp [Ck,mY.out.1]
   have f0:wz.frozen? ⟨Q,0,none⟩=false:=by simp [EJ,mY.out.1]
   have f1:wz.frozen? ⟨Q,1,none⟩=false:=by simp [EJ,mY.out.1]
   refine je 9 none (w':=?_) rfl rfl (by kernel_rfl) (by rfl) ?_ (zL (by kernel_rfl)) ?_
   rotate_left
   ·(go_simp;try with_reducible rfl)
   refine aC ?_;refine bG (by kernel_rfl) ?_ _;have HQ:=D_ oD HOz mY p.nm;obtain ⟨wq,hwq⟩:∃wq,wq=set2 wz Q (.string p.nm) (.slice A9 (aW p.T p.U).length c9):=⟨_,rfl⟩;rw [<-hwq] at HQ;unfold set2 at hwq;rw [<-hwq];clear hwq g0 g1 f0 f1
   try clear HOz
   try clear HO
   try clear oH
   try clear mY
   revert HQ;revert wq Q A9 c9;exact HT.out
  ·refine eZ (some 8) (v:=.pointer (some ⟨w5.heap.size,0,none⟩)) (w':=w5.alloc (.cells #[.string ⟨#[]⟩,.slice none 0 0] 36)) rfl (by go_simp) ?_
   obtain ⟨wz,hwz⟩:∃wz,wz=w5.alloc (.cells #[.string ⟨#[]⟩,.slice none 0 0] 36):=⟨_,rfl⟩;have oD:Hid (Below w4.heap.size w4 wz):=aD (by rw [hwz];exact aj Yx.out _);obtain ⟨Q,hQ⟩:∃Q,Q=w5.heap.size:=⟨_,rfl⟩;have mY:Hid (Gr wz Q/\Q<wz.heap.size/\w4.heap.size<=Q):=aD ⟨by rw [hwz,hQ];exact heap_alloc_new _ _,by rw [hwz,hQ];simp,by rw [hQ];exact Yx.out.size⟩;rw [<-hwz,<-hQ];clear hwz hQ;have Gf:=HS.out _ oD.out;refine ⟨fun _=>Gf,?_⟩;refine aC ?_;refine bD 6 (some 113) rfl rfl (by kernel_rfl) (by rfl) (by go_simp) (XM.out _ oD.out) ?_;rintro e we ⟨A9,c9,rfl,hown,hb⟩;have GD:=aD (au oD.out hb);have HO:=aD (aB.lower hown oD.out.size);have hbx:=aD hb;clear hown hb;have Yy:=HS.out _ GD.out;refine ⟨_,rfl,Yy,?_⟩;refine aC ?_;refine aL 7 [9] (some 114) rfl rfl ?_;have oH:=aD (adT mY.out hbx.out);have g0:we.cell? ⟨Q,0,none⟩=some (.string ⟨#[]⟩):=by simp [Ck,oH.out.1]
   have g1:we.cell? ⟨Q,1,none⟩=some (.slice none 0 0):=by simp [Ck,oH.out.1]
   have f0:we.frozen? ⟨Q,0,none⟩=false:=by simp [EJ,oH.out.1]
   have f1:we.frozen? ⟨Q,1,none⟩=false:=by simp [EJ,oH.out.1]
   refine je 9 none (w':=?_) rfl rfl (by kernel_rfl) (by rfl) ?_ (zL (by kernel_rfl)) ?_
   rotate_left
   ·(go_simp;try with_reducible rfl)
   refine aC ?_;refine bG (by kernel_rfl) ?_ _;have HQ:=D_ GD HO oH p.nm;obtain ⟨wq,hwq⟩:∃wq,wq=set2 we Q (.string p.nm) (.slice A9 (aW p.T p.U).length c9):=⟨_,rfl⟩;rw [<-hwq] at HQ;unfold set2 at hwq;rw [<-hwq];clear hwq g0 g1 f0 f1
   try clear HOz
   try clear HO
   try clear oH
   try clear mY
   exact HT.out A9 c9 Q wq HQ
 case t=>
  intro A9 c9 Q w5 HQ;have hb:Below w4.heap.size w4 w5:=HQ.out.b;have H5:=aD (H4.out.later hb);have fE:Hid (aS w5 Y Q #[.string p.nm,.slice A9 (aW p.T p.U).length c9] 36):=aD ⟨HQ.out.q,fun h5=>by have h6:=H4.out.wk.lt _ h5;have h7:=HQ.out.z;omega⟩;have tV:Hid (aA w5 Y A9 c9 (aW p.T p.U)):=aD (aA.own HQ.out.T fun q hq=>H4.out.wk.lt q hq);clear HQ hb
  try clear k0 k1 k2 k3 k4 k6 k7
  try clear ji
  try clear k1 k2 k3 k4 k6 k7
  obtain ⟨k0,k1,k2,k3,k4,k6,k7⟩:=H5.out.pt.cells;obtain ⟨Rk,Rl⟩:=fE.out.kR;have yE:=HGa;have BL:=HGb;have hbl:Below w5.heap.size w5 (w5.alloc (.cells #[.string p.nm,.slice A9 ((aW p.T p.U):List Nd).length c9,.string p.bd,.slice TA (p.T:List Nd).length tc] 36)):=aj (aF _ _) _;have HL:=aD (H5.out.later hbl);have Gt:=aD (sP P es nx HN env [(p.nm,(aW p.T p.U)),(p.bd,p.T)] (a+1) (x,t,b) (some ⟨w5.heap.size,0,none⟩) 2 [⟨p.nm,A9,((aW p.T p.U):List Nd).length,c9⟩,⟨p.bd,TA,(p.T:List Nd).length,tc⟩] Y (w5.alloc (.cells #[.string p.nm,.slice A9 ((aW p.T p.U):List Nd).length c9,.string p.bd,.slice TA (p.T:List Nd).length tc] 36)) HL.out.wk (by rw [Er];exact F8 w5 ⟨p.nm,A9,((aW p.T p.U):List Nd).length,c9⟩ ⟨p.bd,TA,(p.T:List Nd).length,tc⟩) (dX.app (dX.one ((tV.out).later hbl) rfl) (dX.one ((H5.out.pt.T).later hbl) rfl)) (by simp) hvl uL.out);replace fE:=aD (fE.out.fr (Fr.below hbl) (ah.refl _ _));replace tV:=aD (tV.out.fr (Fr.below hbl) (ah.refl _ _));clear hbl;have HX:=aD (Gt.out);unfold pk at HX;go_wp2_with fail;refine HX.out.mono ?_;rintro e w6 ⟨Y6,hf,hy,hkk,A6,c6,T6,d6,rfl,hx,ht,hA⟩;clear HX;have H6:=aD (HL.out.step hf hy hkk);replace fE:=aD (fE.out.fr hf hy);replace tV:=aD (tV.out.fr hf hy);have hV:Hid (bP w6 Y6 A6 c6 x/\aA w6 Y6 T6 d6 t/\∀a,A6=some a->w.heap.size<=a.block):=aD ⟨hx,ht,fun a ha=>Ed HL.out.fr.size (hA a ha)⟩;clear hf hy hkk hx ht hA
  try clear k0 k1 k2 k3 k4 k6 k7
  try clear ji
  try clear k1 k2 k3 k4 k6 k7
  go_upto_region 19 with fail
  obtain ⟨w7,hw⟩:∃w7,w7=w6.alloc (.cells #[.slice A6 (x:List Pt).length c6,.slice T6 (t:List Nd).length d6] 65):=⟨_,rfl⟩;obtain ⟨b7,hb⟩:∃b7,b7=w6.heap.size:=⟨_,rfl⟩;have hbb:Below w6.heap.size w6 w7:=by rw [hw];exact aj (aF _ _) _
  have H7:=aD (H6.out.later hbb);replace fE:=aD (fE.out.fr (Fr.below hbb) (ah.refl _ _));replace tV:=aD (tV.out.fr (Fr.below hbb) (ah.refl _ _));have X7:Hid (jr w b7 A6 c6 x T6 d6 t Y6 w7):=aD ⟨by rw [hw,hb];exact aS.new H6.out.wk.lt _ _,hV.out.1.fr (Fr.below hbb) (ah.refl _ _),hV.out.2.1.later hbb,hV.out.2.2⟩;rw [<-hw,<-hb];clear hw hb hbb hV;obtain ⟨k0,k1,k2,k3,k4,k6,k7⟩:=H7.out.pt.cells;obtain ⟨BM,BN⟩:=X7.out.cells;obtain ⟨Rk,Rl⟩:=fE.out.kR;have hbl:Below w7.heap.size w7 (w7.alloc (.cells #[.string p.nm,.slice A9 ((aW p.T p.U):List Nd).length c9] 36)):=aj (aF _ _) _;have HL:=aD (H7.out.later hbl);have Gt:=aD (sP P es nx HN env [(p.nm,(aW p.T p.U))] b (y,u,c) (some ⟨w7.heap.size,0,none⟩) 1 [⟨p.nm,A9,((aW p.T p.U):List Nd).length,c9⟩] Y6 (w7.alloc (.cells #[.string p.nm,.slice A9 ((aW p.T p.U):List Nd).length c9] 36)) HL.out.wk (by rw [Er];exact kJ w7 ⟨p.nm,A9,((aW p.T p.U):List Nd).length,c9⟩) (dX.one ((tV.out).later hbl) rfl) (by simp) hvl Lx.out);replace X7:=aD (X7.out.later hbl);replace fE:=aD (fE.out.fr (Fr.below hbl) (ah.refl _ _));replace tV:=aD (tV.out.fr (Fr.below hbl) (ah.refl _ _));clear hbl;have HX:=aD (Gt.out);unfold pk at HX;go_wp2_with fail;refine HX.out.mono ?_;rintro e w8 ⟨Y8,hf,hy,hkk,A8,c8,T8,d8,rfl,hx,ht,hA⟩;clear HX;have H8:=aD (HL.out.step hf hy hkk);replace X7:=aD (X7.out.step hf hy);replace fE:=aD (fE.out.fr hf hy);replace tV:=aD (tV.out.fr hf hy)
  have hV:Hid (bP w8 Y8 A8 c8 y/\aA w8 Y8 T8 d8 u/\∀a,A8=some a->w.heap.size<=a.block):=aD ⟨hx,ht,fun a ha=>Ed HL.out.fr.size (hA a ha)⟩;clear hf hy hkk hx ht hA
  try clear k0 k1 k2 k3 k4 k6 k7
  try clear ji
  try clear k1 k2 k3 k4 k6 k7
  go_upto_region 20 with fail
  obtain ⟨w9,hw⟩:∃w9,w9=w8.alloc (.cells #[.slice A8 (y:List Pt).length c8,.slice T8 (u:List Nd).length d8] 65):=⟨_,rfl⟩;obtain ⟨b9,hb⟩:∃b9,b9=w8.heap.size:=⟨_,rfl⟩;have hbb:Below w8.heap.size w8 w9:=by rw [hw];exact aj (aF _ _) _
  have H9:=aD (H8.out.later hbb);replace X7:=aD (X7.out.later hbb);replace fE:=aD (fE.out.fr (Fr.below hbb) (ah.refl _ _));replace tV:=aD (tV.out.fr (Fr.below hbb) (ah.refl _ _));have X9:Hid (jr w b9 A8 c8 y T8 d8 u Y8 w9):=aD ⟨by rw [hw,hb];exact aS.new H8.out.wk.lt _ _,hV.out.1.fr (Fr.below hbb) (ah.refl _ _),hV.out.2.1.later hbb,hV.out.2.2⟩;rw [<-hw,<-hb];clear hw hb hbb hV;obtain ⟨k0,k1,k2,k3,k4,k6,k7⟩:=H9.out.pt.cells;obtain ⟨BM,BN⟩:=X7.out.cells;obtain ⟨J2,J3⟩:=X9.out.cells;obtain ⟨Rk,Rl⟩:=fE.out.kR;obtain ⟨SS,hSS⟩:∃SS:World->Prop,SS=fun v=>v.cell? ⟨B,2,none⟩=some (.string p.nm)/\v.cell? ⟨B,3,none⟩=some (.string p.bd)/\v.cell? ⟨B,6,none⟩=some (.slice TA p.T.length tc)/\v.cell? ⟨B,7,none⟩=some (.slice UA p.U.length uc)/\v.cell? ⟨b7,0,none⟩=some (.slice A6 (x:List Pt).length c6)/\v.cell? ⟨b7,1,none⟩=some (.slice T6 (t:List Nd).length d6)/\v.cell? ⟨b9,0,none⟩=some (.slice A8 (y:List Pt).length c8)/\v.cell? ⟨b9,1,none⟩=some (.slice T8 (u:List Nd).length d8):=⟨_,rfl⟩;obtain ⟨dA,hwd⟩:∃dA,dA=w9.drew:=⟨_,rfl⟩;have hb:Below w9.heap.size w9 dA:=by rw [hwd];exact (aF _ _).drew
  have dS:=aD (H9.out.later hb);replace X7:=aD (X7.out.later hb);replace X9:=aD (X9.out.later hb);replace fE:=aD (fE.out.fr (Fr.below hb) (ah.refl _ _));replace tV:=aD (tV.out.fr (Fr.below hb) (ah.refl _ _));clear hb
  try clear k0 k1 k2 k3 k4 k6 k7
  try clear ji
  try clear k1 k2 k3 k4 k6 k7
  try clear Rk Rl
  try clear BM BN
  try clear J2 J3
  have qX:SS dA:=by rw [hSS];exact ⟨dS.out.pt.cells.2.2.1,dS.out.pt.cells.2.2.2.1,dS.out.pt.cells.2.2.2.2.2.1,dS.out.pt.cells.2.2.2.2.2.2,X7.out.cells.1,X7.out.cells.2,X9.out.cells.1,X9.out.cells.2⟩
  refine aI (S:=SS) [12] (by kernel_rfl) (by rw [<-hwd];exact qX) (fun hHeld=>?_);rw [<-hwd] at hHeld ⊢;clear hwd hHeld;refine aL 0 [12] (some 128) rfl rfl ?_;refine aL 1 [12] (some 129) rfl rfl ?_;refine aL 2 [12] (some 130) rfl rfl ?_;refine aL 3 [12] (some 131) rfl rfl ?_;refine aL 5 [12] (some 133) rfl rfl ?_;refine aL 6 [12] (some 134) rfl rfl ?_;refine aL 9 [12] (some 137) rfl rfl ?_;refine aL 10 [12] (some 138) rfl rfl ?_;have HX:=aD (iq A6 c6 x T6 d6 t UA uc p.U Y8 dA X7.out.ex yE.out.ne X7.out.ty (dS.out.pt.U) yE.out.pJ (nG HgU.out.1) dS.out.wk.lt yE.out.len yE.out.tl (HgU.out.2));refine bD 4 (some 132) rfl rfl (by kernel_rfl) (by rfl) (by go_simp) HX.out ?_;rintro e fJ ⟨hb,Au,e11,rfl,hxe⟩;clear HX;have dI:=aD (dS.out.later hb);replace X7:=aD (X7.out.later hb);replace X9:=aD (X9.out.later hb);replace fE:=aD (fE.out.fr (Fr.below hb) (ah.refl _ _));replace tV:=aD (tV.out.fr (Fr.below hb) (ah.refl _ _));have lQ:Hid (bP fJ Y8 Au e11 (toM x t p.U)):=aD hxe;clear hb hxe;have qU:SS fJ:=by rw [hSS];exact ⟨dI.out.pt.cells.2.2.1,dI.out.pt.cells.2.2.2.1,dI.out.pt.cells.2.2.2.2.2.1,dI.out.pt.cells.2.2.2.2.2.2,X7.out.cells.1,X7.out.cells.2,X9.out.cells.1,X9.out.cells.2⟩
  refine ⟨_,rfl,qU,?_⟩;refine aC ?_;obtain ⟨fP,hw⟩:∃fP,fP=fJ.alloc (.cells (bQ [((some ⟨G,0,none⟩),1,[p]),(Au,e11,(toM x t p.U)),(A8,c8,y)]) 24):=⟨_,rfl⟩;have hb:Below fJ.heap.size fJ fP:=by rw [hw];exact aj (aF _ _) _
  have HX:=aD (fD [((some ⟨G,0,none⟩),1,[p]),(Au,e11,(toM x t p.U)),(A8,c8,y)] Y8 fJ (by intro q hq;simp only [oJ,aaC,or_false] at hq;rcases hq with rfl|rfl|rfl;exact dI.out.ex;exact lQ.out;exact X9.out.ex) dI.out.wk.lt (by simp) (by simp only [iJ,List.flatMap_nil,jX,aap];have h5:=yE.out.len;have h6:=BL.out.len;have h7:=bS x t p.U;simp only [aaB];omega));rw [<-hw] at HX;simp only [iJ,List.flatMap_nil,lI,rM,aar] at HX;unfold bQ at hw;simp only [Nc,aaD] at hw;have dU:=aD (dI.out.later hb);replace X7:=aD (X7.out.later hb);replace X9:=aD (X9.out.later hb);replace fE:=aD (fE.out.fr (Fr.below hb) (ah.refl _ _));replace tV:=aD (tV.out.fr (Fr.below hb) (ah.refl _ _));replace lQ:=aD (lQ.out.fr (Fr.below hb) (ah.refl _ _));clear hb;have qV:SS fP:=by rw [hSS];exact ⟨dU.out.pt.cells.2.2.1,dU.out.pt.cells.2.2.2.1,dU.out.pt.cells.2.2.2.2.2.1,dU.out.pt.cells.2.2.2.2.2.2,X7.out.cells.1,X7.out.cells.2,X9.out.cells.1,X9.out.cells.2⟩
  refine bB 7 (some 135) (v:=.slice (some ⟨fJ.heap.size,0,none⟩) 3 3) (w':=fP) rfl rfl (by kernel_rfl) (by rfl) (by rw [hw];go_simp;try with_reducible rfl) (fun _=>qV) ?_;refine aC ?_;clear hw;refine bD 8 (some 136) rfl rfl (by kernel_rfl) (by rfl) (by go_simp) HX.out ?_;rintro e kD ⟨hb,qh,c13,rfl,hxe,hA⟩;clear HX;have dL:=aD (dU.out.later hb);replace X7:=aD (X7.out.later hb);replace X9:=aD (X9.out.later hb);replace fE:=aD (fE.out.fr (Fr.below hb) (ah.refl _ _));replace tV:=aD (tV.out.fr (Fr.below hb) (ah.refl _ _));replace lQ:=aD (lQ.out.fr (Fr.below hb) (ah.refl _ _));have kK:Hid (bP kD Y8 qh c13 (p::((toM x t p.U)++y))/\∀a,qh=some a->w.heap.size<=a.block):=aD ⟨hxe,fun a ha=>Ed dI.out.fr.size (hA a ha)⟩;clear hb hxe hA;have qW:SS kD:=by rw [hSS];exact ⟨dL.out.pt.cells.2.2.1,dL.out.pt.cells.2.2.2.1,dL.out.pt.cells.2.2.2.2.2.1,dL.out.pt.cells.2.2.2.2.2.2,X7.out.cells.1,X7.out.cells.2,X9.out.cells.1,X9.out.cells.2⟩
  refine ⟨_,rfl,qW,?_⟩;refine aC ?_;refine aL 11 [12] (some 139) rfl rfl ?_;obtain ⟨r0,r1,qQ,qR⟩:=dL.out.jF;refine je 12 none (w':=?_) rfl rfl (by kernel_rfl) (by rfl) ?_ (zL (by kernel_rfl)) ?_
  rotate_left
  ·(go_simp;try with_reducible rfl)
  refine aC ?_;refine bG (by kernel_rfl) ?_ _;have HE:=aD (dL.out.done (r:=((p::((toM x t p.U)++y)),u,c)) rfl kK.out.1 (X9.out.ty) kK.out.2);go_wp2_with fail;obtain ⟨wy,bN⟩:∃wy,wy=set2 kD R (.slice qh ((p::((toM x t p.U)++y)):List Pt).length c13) (.slice T8 (u:List Nd).length d8):=⟨_,rfl⟩;have HE2:Hid (bU P es env Y ((p::((toM x t p.U)++y)),u,c) w (.returned (.agg #[.slice qh ((p::((toM x t p.U)++y)):List Pt).length c13,.slice T8 (u:List Nd).length d8])) wy/\wy.cell? ⟨R,0,none⟩=some (.slice qh ((p::((toM x t p.U)++y)):List Pt).length c13)/\wy.cell? ⟨R,1,none⟩=some (.slice T8 (u:List Nd).length d8)):=aD (by rw [bN];exact HE.out);unfold set2 at bN
  first|rw [<-bN]|(simp only [mX,jX] at bN ⊢;rw [<-bN])
  have q0:=HE2.out.2.1;have q1:=HE2.out.2.2;refine bodyPost_ret (v:=.agg #[.slice qh ((p::((toM x t p.U)++y)):List Pt).length c13,.slice T8 (u:List Nd).length d8]) (by simp [results,Tryz.results53,go_sem,q0,q1]) rfl HE2.out.1
theorem Vn (P:Nat) (es:List Pt) (nx:kP) (HN:Hid (lg P es nx)) (env:Env) (a:Nat) (p:Pt) (r:dV) (Y:Nat->Prop) (w:World) (h:iI P es env a Y w) (hp:es[a]?=some p) (hk:p.k=6) (hal:a<=1000000) (hG:∀env a x t b,nx env a=some (x,t,b)->pI x t) (hm:Aq nx env p (a+1)=some r):
  Calls Tryz.prog 53 #[pk P] w (bU P es env Y r w):=by
 have jM:=aD (Cj hm hp);have oI:=aD hk;refine (iG P es env a p r Y w).2 h hp hal ?_;clear h hp hal hm hk;intro eb eo ec TA tc UA uc R B G w4 H4;dsimp only [iG];intro K1 hK1 K2 hK2;obtain ⟨k0,k1,k2,k3,k4,k6,k7⟩:=H4.out.pt.cells;have ji:w4.cell? ⟨B,0,none⟩=some (.int .i64 6):=by rw [k0,oI.out]
 clear k0;obtain ⟨x,t,b,h1,hr⟩:=bH jM.out.1;obtain ⟨y,u,c,h2,hr⟩:=bH hr;obtain ⟨z,vv,d,h3,hr⟩:=bH hr
 obtain ⟨m,hmt,hml,hr2⟩:∃m,bT 0 u [vv]=some (.ok m)/\m.length<=5000000/\(p::(toM x t (ay 2)++(toM y u m++toM z vv m)),m,d)=r:=by
  try dsimp only at hr
  cases hq:bT 0 u [vv] with
  |none=>rw [hq] at hr;cases hr
  |some e=>
   rw [hq] at hr
   match e,hq with
   | .error e,_=>cases hr
   | .ok m,hq=>
    dsimp only at hr;by_cases hl:m.length<=5000000
    ·rw [if_pos hl] at hr
     injection hr with hr
     exact ⟨m,rfl,hl,hr⟩
    ·rw [if_neg hl] at hr
     cases hr
 subst hr2;clear hr;have uL:=aD h1;have Lx:=aD h2;have HH3:=aD h3;have vH:=aD (hG _ _ _ _ _ h1);have BL:=aD (hG _ _ _ _ _ h2);have C8:=aD (hG _ _ _ _ _ h3);have Gi:=aD (Cj hmt (Cj hml (nG (Ar _ _ _ BL.out.gd hmt))));clear h1 h2 h3 hmt hml jM;have HX:=aD (HN.out env (a+1) (x,t,b) Y w4 uL.out H4.out.wk);unfold pk at HX;go_wp2_with fail;refine HX.out.mono ?_;rintro e w5 ⟨Y5,hf,hy,hkk,A5,c5,T5,d5,rfl,hx,ht,hA⟩;clear HX;have H5:=aD (H4.out.step hf hy hkk);have uN:Hid (bP w5 Y5 A5 c5 x):=aD hx;have uO:Hid (aA w5 Y5 T5 d5 t):=aD ht;have Yz:Hid (∀a,A5=some a->w.heap.size<=a.block):=aD fun a ha=>Ed H4.out.fr.size (hA a ha);clear hf hy hkk hx ht hA
 try clear k0 k1 k2 k3 k4 k6 k7
 try clear ji
 try clear k1 k2 k3 k4 k6 k7
 obtain ⟨k0,k1,k2,k3,k4,k6,k7⟩:=H5.out.pt.cells;have HX:=aD (HN.out env b (y,u,c) Y5 w5 Lx.out H5.out.wk);unfold pk at HX;go_wp2_with fail;refine HX.out.mono ?_;rintro e w6 ⟨Y6,hf,hy,hkk,A6,c6,T6,d6,rfl,hx,ht,hA⟩;clear HX;have H6:=aD (H5.out.step hf hy hkk);replace uN:=aD (uN.out.fr hf hy);replace uO:=aD (uO.out.fr hf hy);have yF:Hid (bP w6 Y6 A6 c6 y):=aD hx;have yG:Hid (aA w6 Y6 T6 d6 u):=aD ht;have YB:Hid (∀a,A6=some a->w.heap.size<=a.block):=aD fun a ha=>Ed H5.out.fr.size (hA a ha);clear hf hy hkk hx ht hA
 try clear k0 k1 k2 k3 k4 k6 k7
 try clear ji
 try clear k1 k2 k3 k4 k6 k7
 obtain ⟨k0,k1,k2,k3,k4,k6,k7⟩:=H6.out.pt.cells;have HX:=aD (HN.out env c (z,vv,d) Y6 w6 HH3.out H6.out.wk);unfold pk at HX;go_wp2_with fail;refine HX.out.mono ?_;rintro e w7 ⟨Y7,hf,hy,hkk,A7,c7,T7,d7,rfl,hx,ht,hA⟩;clear HX;have H7:=aD (H6.out.step hf hy hkk);replace uN:=aD (uN.out.fr hf hy);replace uO:=aD (uO.out.fr hf hy);replace yF:=aD (yF.out.fr hf hy);replace yG:=aD (yG.out.fr hf hy);have OZ:Hid (bP w7 Y7 A7 c7 z):=aD hx;have O1:Hid (aA w7 Y7 T7 d7 vv):=aD ht;have tN:Hid (∀a,A7=some a->w.heap.size<=a.block):=aD fun a ha=>Ed H6.out.fr.size (hA a ha);clear hf hy hkk hx ht hA
 try clear k0 k1 k2 k3 k4 k6 k7
 try clear ji
 try clear k1 k2 k3 k4 k6 k7
 obtain ⟨k0,k1,k2,k3,k4,k6,k7⟩:=H7.out.pt.cells;go_upto_region 25 with fail
 obtain ⟨w8,hw8⟩:∃w8,w8=w7.alloc (.cells #[.slice A5 (x:List Pt).length c5,.slice T5 (t:List Nd).length d5] 65):=⟨_,rfl⟩;obtain ⟨b8,sQ⟩:∃b8,b8=w7.heap.size:=⟨_,rfl⟩;have Lu:w8.heap.size=w7.heap.size+1:=by rw [hw8];exact Er _ _
 have hb:Below w7.heap.size w7 w8:=by rw [hw8];exact aj (aF _ _) _
 have H8:=aD (H7.out.later hb);replace uN:=aD (uN.out.fr (Fr.below hb) (ah.refl _ _));replace uO:=aD (uO.out.fr (Fr.below hb) (ah.refl _ _));replace yF:=aD (yF.out.fr (Fr.below hb) (ah.refl _ _));replace yG:=aD (yG.out.fr (Fr.below hb) (ah.refl _ _));replace OZ:=aD (OZ.out.fr (Fr.below hb) (ah.refl _ _));replace O1:=aD (O1.out.fr (Fr.below hb) (ah.refl _ _));have X8:Hid (jr w b8 A5 c5 x T5 d5 t Y7 w8):=aD ⟨by rw [hw8,sQ];exact aS.new H7.out.wk.lt _ _,uN.out,uO.out,Yz.out⟩;clear hb;obtain ⟨w9,zC⟩:∃w9,w9=w8.alloc (.cells #[.slice A6 (y:List Pt).length c6,.slice T6 (u:List Nd).length d6] 65):=⟨_,rfl⟩;obtain ⟨b9,z8⟩:∃b9,b9=w8.heap.size:=⟨_,rfl⟩;have Yg:w9.heap.size=w8.heap.size+1:=by rw [zC];exact Er _ _
 have hb:Below w8.heap.size w8 w9:=by rw [zC];exact aj (aF _ _) _
 have H9:=aD (H8.out.later hb);replace X8:=aD (X8.out.later hb);replace uN:=aD (uN.out.fr (Fr.below hb) (ah.refl _ _));replace uO:=aD (uO.out.fr (Fr.below hb) (ah.refl _ _));replace yF:=aD (yF.out.fr (Fr.below hb) (ah.refl _ _));replace yG:=aD (yG.out.fr (Fr.below hb) (ah.refl _ _));replace OZ:=aD (OZ.out.fr (Fr.below hb) (ah.refl _ _));replace O1:=aD (O1.out.fr (Fr.below hb) (ah.refl _ _));have X9:Hid (jr w b9 A6 c6 y T6 d6 u Y7 w9):=aD ⟨by rw [zC,z8];exact aS.new H8.out.wk.lt _ _,yF.out,yG.out,YB.out⟩;clear hb;obtain ⟨dA,Bf⟩:∃dA,dA=w9.alloc (.cells #[.slice A7 (z:List Pt).length c7,.slice T7 (vv:List Nd).length d7] 65):=⟨_,rfl⟩;obtain ⟨b10,yx⟩:∃b10,b10=w9.heap.size:=⟨_,rfl⟩;have ajm:dA.heap.size=w9.heap.size+1:=by rw [Bf];exact Er _ _
 have hb:Below w9.heap.size w9 dA:=by rw [Bf];exact aj (aF _ _) _
 have dS:=aD (H9.out.later hb);replace X8:=aD (X8.out.later hb);replace X9:=aD (X9.out.later hb);replace uN:=aD (uN.out.fr (Fr.below hb) (ah.refl _ _));replace uO:=aD (uO.out.fr (Fr.below hb) (ah.refl _ _));replace yF:=aD (yF.out.fr (Fr.below hb) (ah.refl _ _));replace yG:=aD (yG.out.fr (Fr.below hb) (ah.refl _ _));replace OZ:=aD (OZ.out.fr (Fr.below hb) (ah.refl _ _));replace O1:=aD (O1.out.fr (Fr.below hb) (ah.refl _ _));have l5:Hid (jr w b10 A7 c7 z T7 d7 vv Y7 dA):=aD ⟨by rw [Bf,yx];exact aS.new H9.out.wk.lt _ _,OZ.out,O1.out,tN.out⟩;clear hb
 first|rw [<-hw8]|skip
 first|rw [<-zC]|skip
 first|rw [<-Bf]|skip
 have hc9:b9=w7.heap.size+1:=by rw [z8,Lu]
 have ab1:b10=w7.heap.size+1+1:=by rw [yx,Yg,Lu]
 first|rw [<-ab1]|rw [<-yx]|skip
 first|rw [<-hc9]|rw [<-z8]|skip
 first|rw [<-sQ]|skip
 try clear k0 k1 k2 k3 k4 k6 k7
 try clear ji
 try clear k1 k2 k3 k4 k6 k7
 try clear yC yD
 try clear J2 J3
 try clear LG LH
 clear Bf zC hw8 hc9 ab1 yx ajm z8 Yg sQ Lu;clear uN uO Yz yF yG YB OZ O1 tN;obtain ⟨k0,k1,k2,k3,k4,k6,k7⟩:=dS.out.pt.cells;obtain ⟨yC,yD⟩:=X8.out.cells;obtain ⟨J2,J3⟩:=X9.out.cells;obtain ⟨LG,LH⟩:=l5.out.cells;have hbl:Below dA.heap.size dA (dA.alloc (.cells #[.slice T6 (u:List Nd).length d6,.slice T7 (vv:List Nd).length d7] 28)):=aj (aF _ _) _;have HL:=aD (dS.out.later hbl);have O4:=aD (JX (some ⟨dA.heap.size,0,none⟩) 2 [(T6,u.length,d6),(T7,vv.length,d7)] u [vv] m Y7 (dA.alloc (.cells #[.slice T6 (u:List Nd).length d6,.slice T7 (vv:List Nd).length d7] 28)) (by rw [Er];exact Q8 dA _ _) (Vd (X9.out.ty.later hbl) (l5.out.ty.later hbl)) HL.out.wk.lt (by simp) (by simp) BL.out.gd (by intro q hq;simp only [List.mem_singleton] at hq;rw [hq];exact C8.out.gd) Gi.out.1);replace X8:=aD (X8.out.later hbl);replace X9:=aD (X9.out.later hbl);replace l5:=aD (l5.out.later hbl);clear hbl;go_wp2_with fail;refine O4.out.mono ?_;rintro e fJ ⟨hb,A9,c9,rfl,Ya⟩;clear O4;have dI:=aD (HL.out.later hb);replace X8:=aD (X8.out.later hb);replace X9:=aD (X9.out.later hb);replace l5:=aD (l5.out.later hb);have cu:Hid (aA fJ Y7 A9 c9 m):=aD Ya;clear hb Ya
 try clear k0 k1 k2 k3 k4 k6 k7
 try clear ji
 try clear k1 k2 k3 k4 k6 k7
 try clear yC yD
 try clear J2 J3
 try clear LG LH
 obtain ⟨k0,k1,k2,k3,k4,k6,k7⟩:=dI.out.pt.cells;obtain ⟨yC,yD⟩:=X8.out.cells;obtain ⟨J2,J3⟩:=X9.out.cells;obtain ⟨LG,LH⟩:=l5.out.cells;go_upto_region 26 with fail
 obtain ⟨SS,hSS⟩:∃SS:World->Prop,SS=fun v=>v.cell? ⟨B,2,none⟩=some (.string p.nm)/\v.cell? ⟨B,3,none⟩=some (.string p.bd)/\v.cell? ⟨B,6,none⟩=some (.slice TA p.T.length tc)/\v.cell? ⟨B,7,none⟩=some (.slice UA p.U.length uc)/\v.cell? ⟨b8,0,none⟩=some (.slice A5 (x:List Pt).length c5)/\v.cell? ⟨b8,1,none⟩=some (.slice T5 (t:List Nd).length d5)/\v.cell? ⟨b9,0,none⟩=some (.slice A6 (y:List Pt).length c6)/\v.cell? ⟨b9,1,none⟩=some (.slice T6 (u:List Nd).length d6)/\v.cell? ⟨b10,0,none⟩=some (.slice A7 (z:List Pt).length c7)/\v.cell? ⟨b10,1,none⟩=some (.slice T7 (vv:List Nd).length d7):=⟨_,rfl⟩;obtain ⟨fP,hwd⟩:∃fP,fP=fJ.drew:=⟨_,rfl⟩;have hb:Below fJ.heap.size fJ fP:=by rw [hwd];exact (aF _ _).drew
 have dU:=aD (dI.out.later hb);replace X8:=aD (X8.out.later hb);replace X9:=aD (X9.out.later hb);replace l5:=aD (l5.out.later hb);replace cu:=aD (cu.out.fr (Fr.below hb) (ah.refl _ _));clear hb
 try clear k0 k1 k2 k3 k4 k6 k7
 try clear ji
 try clear k1 k2 k3 k4 k6 k7
 try clear yC yD
 try clear J2 J3
 try clear LG LH
 have qV:SS fP:=by rw [hSS];exact ⟨dU.out.pt.cells.2.2.1,dU.out.pt.cells.2.2.2.1,dU.out.pt.cells.2.2.2.2.2.1,dU.out.pt.cells.2.2.2.2.2.2,X8.out.cells.1,X8.out.cells.2,X9.out.cells.1,X9.out.cells.2,l5.out.cells.1,l5.out.cells.2⟩
 refine aI (S:=SS) [14] (by kernel_rfl) (by rw [<-hwd];exact qV) (fun hHeld=>?_);rw [<-hwd] at hHeld ⊢;clear hwd hHeld;refine aL 0 [14] (some 159) rfl rfl ?_;refine aL 1 [14] (some 160) rfl rfl ?_;refine aL 4 [14] (some 163) rfl rfl ?_;refine aL 5 [14] (some 164) rfl rfl ?_;refine aL 7 [14] (some 166) rfl rfl ?_;refine aL 8 [14] (some 167) rfl rfl ?_;refine aL 12 [14] (some 171) rfl rfl ?_;have HX:=aD (qg 2 fP);refine bD 2 (some 161) rfl rfl (by kernel_rfl) (by rfl) (by go_simp) HX.out ?_;rintro e kD ⟨B9,d9,rfl,hown,hb⟩;clear HX;have dL:=aD (dU.out.later hb);replace X8:=aD (X8.out.later hb);replace X9:=aD (X9.out.later hb);replace l5:=aD (l5.out.later hb);replace cu:=aD (cu.out.fr (Fr.below hb) (ah.refl _ _));have oM:Hid (aA kD Y7 B9 d9 (ay 2)):=aD (aA.own hown fun q hq=>dU.out.wk.lt q hq);clear hown hb;have qW:SS kD:=by rw [hSS];exact ⟨dL.out.pt.cells.2.2.1,dL.out.pt.cells.2.2.2.1,dL.out.pt.cells.2.2.2.2.2.1,dL.out.pt.cells.2.2.2.2.2.2,X8.out.cells.1,X8.out.cells.2,X9.out.cells.1,X9.out.cells.2,l5.out.cells.1,l5.out.cells.2⟩
 refine ⟨_,rfl,qW,?_⟩;refine aC ?_;have HX:=aD (iq A5 c5 x T5 d5 t B9 d9 (ay 2) Y7 kD X8.out.ex vH.out.ne X8.out.ty (oM.out) vH.out.pJ (by simp [ay]) dL.out.wk.lt vH.out.len vH.out.tl (by simp [ay]));refine bD 3 (some 162) rfl rfl (by kernel_rfl) (by rfl) (by go_simp) HX.out ?_;rintro e mO ⟨hb,Gw,e14,rfl,hxe⟩;clear HX;have jG:=aD (dL.out.later hb);replace X8:=aD (X8.out.later hb);replace X9:=aD (X9.out.later hb);replace l5:=aD (l5.out.later hb);replace cu:=aD (cu.out.fr (Fr.below hb) (ah.refl _ _));replace oM:=aD (oM.out.fr (Fr.below hb) (ah.refl _ _));have nP:Hid (bP mO Y7 Gw e14 (toM x t (ay 2))):=aD hxe;clear hb hxe;have BJ:SS mO:=by rw [hSS];exact ⟨jG.out.pt.cells.2.2.1,jG.out.pt.cells.2.2.2.1,jG.out.pt.cells.2.2.2.2.2.1,jG.out.pt.cells.2.2.2.2.2.2,X8.out.cells.1,X8.out.cells.2,X9.out.cells.1,X9.out.cells.2,l5.out.cells.1,l5.out.cells.2⟩
 refine ⟨_,rfl,BJ,?_⟩;refine aC ?_;have HX:=aD (iq A6 c6 y T6 d6 u A9 c9 m Y7 mO X9.out.ex BL.out.ne X9.out.ty (cu.out) BL.out.pJ (Gi.out.2.2) jG.out.wk.lt BL.out.len BL.out.tl (Gi.out.2.1));refine bD 6 (some 165) rfl rfl (by kernel_rfl) (by rfl) (by go_simp) HX.out ?_;rintro e uM ⟨hb,E15,e15,rfl,hxe⟩;clear HX;have mo:=aD (jG.out.later hb);replace X8:=aD (X8.out.later hb);replace X9:=aD (X9.out.later hb);replace l5:=aD (l5.out.later hb);replace cu:=aD (cu.out.fr (Fr.below hb) (ah.refl _ _));replace oM:=aD (oM.out.fr (Fr.below hb) (ah.refl _ _));replace nP:=aD (nP.out.fr (Fr.below hb) (ah.refl _ _));have GH:Hid (bP uM Y7 E15 e15 (toM y u m)):=aD hxe;clear hb hxe;have Gx:SS uM:=by rw [hSS];exact ⟨mo.out.pt.cells.2.2.1,mo.out.pt.cells.2.2.2.1,mo.out.pt.cells.2.2.2.2.2.1,mo.out.pt.cells.2.2.2.2.2.2,X8.out.cells.1,X8.out.cells.2,X9.out.cells.1,X9.out.cells.2,l5.out.cells.1,l5.out.cells.2⟩
 refine ⟨_,rfl,Gx,?_⟩;refine aC ?_;have HX:=aD (iq A7 c7 z T7 d7 vv A9 c9 m Y7 uM l5.out.ex C8.out.ne l5.out.ty (cu.out) C8.out.pJ (Gi.out.2.2) mo.out.wk.lt C8.out.len C8.out.tl (Gi.out.2.1));refine bD 9 (some 168) rfl rfl (by kernel_rfl) (by rfl) (by go_simp) HX.out ?_;rintro e w16 ⟨hb,E16,e16,rfl,hxe⟩;clear HX;have lq:=aD (mo.out.later hb);replace X8:=aD (X8.out.later hb);replace X9:=aD (X9.out.later hb);replace l5:=aD (l5.out.later hb);replace cu:=aD (cu.out.fr (Fr.below hb) (ah.refl _ _));replace oM:=aD (oM.out.fr (Fr.below hb) (ah.refl _ _));replace nP:=aD (nP.out.fr (Fr.below hb) (ah.refl _ _));replace GH:=aD (GH.out.fr (Fr.below hb) (ah.refl _ _));have O5:Hid (bP w16 Y7 E16 e16 (toM z vv m)):=aD hxe;clear hb hxe;have Gy:SS w16:=by rw [hSS];exact ⟨lq.out.pt.cells.2.2.1,lq.out.pt.cells.2.2.2.1,lq.out.pt.cells.2.2.2.2.2.1,lq.out.pt.cells.2.2.2.2.2.2,X8.out.cells.1,X8.out.cells.2,X9.out.cells.1,X9.out.cells.2,l5.out.cells.1,l5.out.cells.2⟩
 refine ⟨_,rfl,Gy,?_⟩;refine aC ?_;obtain ⟨YC,hw⟩:∃YC,YC=w16.alloc (.cells (bQ [((some ⟨G,0,none⟩),1,[p]),(Gw,e14,(toM x t (ay 2))),(E15,e15,(toM y u m)),(E16,e16,(toM z vv m))]) 24):=⟨_,rfl⟩;have hb:Below w16.heap.size w16 YC:=by rw [hw];exact aj (aF _ _) _
 have HX:=aD (fD [((some ⟨G,0,none⟩),1,[p]),(Gw,e14,(toM x t (ay 2))),(E15,e15,(toM y u m)),(E16,e16,(toM z vv m))] Y7 w16 (by intro q hq;simp only [oJ,aaC,or_false] at hq;rcases hq with rfl|rfl|rfl|rfl;exact lq.out.ex;exact nP.out;exact GH.out;exact O5.out) lq.out.wk.lt (by simp) (by simp only [iJ,List.flatMap_nil,jX,aap];have h5:=vH.out.len;have h6:=BL.out.len;have Ep:=C8.out.len;have h7:=bS x t (ay 2);have h8:=bS y u m;have h9:=bS z vv m;simp only [aaB];omega));rw [<-hw] at HX;simp only [iJ,List.flatMap_nil,lI,rM,aar] at HX;unfold bQ at hw;simp only [Nc,aaD] at hw;have YD:=aD (lq.out.later hb);replace X8:=aD (X8.out.later hb);replace X9:=aD (X9.out.later hb);replace l5:=aD (l5.out.later hb);replace cu:=aD (cu.out.fr (Fr.below hb) (ah.refl _ _));replace oM:=aD (oM.out.fr (Fr.below hb) (ah.refl _ _));replace nP:=aD (nP.out.fr (Fr.below hb) (ah.refl _ _));replace GH:=aD (GH.out.fr (Fr.below hb) (ah.refl _ _));replace O5:=aD (O5.out.fr (Fr.below hb) (ah.refl _ _));clear hb;have ajo:SS YC:=by rw [hSS];exact ⟨YD.out.pt.cells.2.2.1,YD.out.pt.cells.2.2.2.1,YD.out.pt.cells.2.2.2.2.2.1,YD.out.pt.cells.2.2.2.2.2.2,X8.out.cells.1,X8.out.cells.2,X9.out.cells.1,X9.out.cells.2,l5.out.cells.1,l5.out.cells.2⟩
 refine bB 10 (some 169) (v:=.slice (some ⟨w16.heap.size,0,none⟩) 4 4) (w':=YC) rfl rfl (by kernel_rfl) (by rfl) (by rw [hw];go_simp;try with_reducible rfl) (fun _=>ajo) ?_;refine aC ?_;clear hw;refine bD 11 (some 170) rfl rfl (by kernel_rfl) (by rfl) (by go_simp) HX.out ?_;rintro e w18 ⟨hb,Vo,c18,rfl,hxe,hA⟩;clear HX;have Vp:=aD (YD.out.later hb);replace X8:=aD (X8.out.later hb);replace X9:=aD (X9.out.later hb);replace l5:=aD (l5.out.later hb);replace cu:=aD (cu.out.fr (Fr.below hb) (ah.refl _ _));replace oM:=aD (oM.out.fr (Fr.below hb) (ah.refl _ _));replace nP:=aD (nP.out.fr (Fr.below hb) (ah.refl _ _));replace GH:=aD (GH.out.fr (Fr.below hb) (ah.refl _ _));replace O5:=aD (O5.out.fr (Fr.below hb) (ah.refl _ _));have kK:Hid (bP w18 Y7 Vo c18 (p::((toM x t (ay 2))++((toM y u m)++(toM z vv m))))/\∀a,Vo=some a->w.heap.size<=a.block):=aD ⟨hxe,fun a ha=>Ed lq.out.fr.size (hA a ha)⟩;clear hb hxe hA;have ajp:SS w18:=by rw [hSS];exact ⟨Vp.out.pt.cells.2.2.1,Vp.out.pt.cells.2.2.2.1,Vp.out.pt.cells.2.2.2.2.2.1,Vp.out.pt.cells.2.2.2.2.2.2,X8.out.cells.1,X8.out.cells.2,X9.out.cells.1,X9.out.cells.2,l5.out.cells.1,l5.out.cells.2⟩
 refine ⟨_,rfl,ajp,?_⟩;refine aC ?_;refine aL 13 [14] (some 172) rfl rfl ?_;obtain ⟨r0,r1,qQ,qR⟩:=Vp.out.jF;refine je 14 none (w':=?_) rfl rfl (by kernel_rfl) (by rfl) ?_ (zL (by kernel_rfl)) ?_
 rotate_left
 ·(go_simp;try with_reducible rfl)
 refine aC ?_;refine bG (by kernel_rfl) ?_ _;have HE:=aD (Vp.out.done (r:=((p::((toM x t (ay 2))++((toM y u m)++(toM z vv m)))),m,d)) rfl kK.out.1 (cu.out) kK.out.2);go_wp2_with fail;obtain ⟨wy,bN⟩:∃wy,wy=set2 w18 R (.slice Vo ((p::((toM x t (ay 2))++((toM y u m)++(toM z vv m)))):List Pt).length c18) (.slice A9 (m:List Nd).length c9):=⟨_,rfl⟩;have HE2:Hid (bU P es env Y ((p::((toM x t (ay 2))++((toM y u m)++(toM z vv m)))),m,d) w (.returned (.agg #[.slice Vo ((p::((toM x t (ay 2))++((toM y u m)++(toM z vv m)))):List Pt).length c18,.slice A9 (m:List Nd).length c9])) wy/\wy.cell? ⟨R,0,none⟩=some (.slice Vo ((p::((toM x t (ay 2))++((toM y u m)++(toM z vv m)))):List Pt).length c18)/\wy.cell? ⟨R,1,none⟩=some (.slice A9 (m:List Nd).length c9)):=aD (by rw [bN];exact HE.out);unfold set2 at bN
 first|rw [<-bN]|(simp only [mX,jX] at bN ⊢;rw [<-bN])
 have q0:=HE2.out.2.1;have q1:=HE2.out.2.2;refine bodyPost_ret (v:=.agg #[.slice Vo ((p::((toM x t (ay 2))++((toM y u m)++(toM z vv m)))):List Pt).length c18,.slice A9 (m:List Nd).length c9]) (by simp [results,Tryz.results53,go_sem,q0,q1]) rfl HE2.out.1
end Go.Proofs.YtmjdhfbnmmdjiaaGreat
