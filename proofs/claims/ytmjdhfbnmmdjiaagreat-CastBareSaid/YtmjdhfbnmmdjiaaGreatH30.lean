/- Laid together by a tool from the texts of this seat: CxAs CxCast CsT PxA PxB PxC. Conditions: each theorem's own. -/
import Derived.Test.YtmjdhfbnmmdjiaaGreatH22
import Derived.Test.YtmjdhfbnmmdjiaaGreatH23
import Derived.Test.YtmjdhfbnmmdjiaaGreatH25
import Derived.Test.YtmjdhfbnmmdjiaaGreatH26
import Derived.Test.YtmjdhfbnmmdjiaaGreatH29
import Derived.Test.YtmjdhfbnmmdjiaaGreatH11
set_option maxHeartbeats 8000000
set_option maxRecDepth 100000
namespace Go.Proofs.YtmjdhfbnmmdjiaaGreat
open Go.Lib renaming hid->aB
open _root_.List renaming map_map->Sm,length_cons->oG,mem_map->aaw,map_cons->RH,map_congr_left->aaL,map_append->aaF,append_assoc->kV,pairwise_map->aah
open _root_.And renaming intro->DF
open _root_.Option renaming map_some->aaK,map_eq_some_iff->aaE
open _root_.Nat renaming le_refl->aK,le_trans->vV
open Go.World renaming cell?->DI,frozen?->Gb
open _root_.ByteArray renaming empty->dQ
open Go.RowKit
theorem XI (P:Nat) (es:List Pt) (nx:kW) (HN:Hid (lJ P es nx)) (env:Env) (a:Nat) (p:Pt) (r:eF) (Y:Nat->Prop) (w:World) (h:iV P es env a Y w) (hp:es[a]?=some p) (hk:p.k=13) (hal:a<=1000000) (C9:Gd p.T) (C_:p.T.length<=5000000) (hG:∀env a x t b,nx env a=some (x,t,b)->qQ x t) (hm:asX nx env p (a+1)=some r):
  Calls Tryz.prog 53 #[pk P] w (bU P es env Y r w):=by
 have jW:=aB (DF hm hp);have pR:=aB hk;refine (iR P es env a p r Y w).2 h hp hal ?_;clear h hp hal hm hk;intro eb eo ec TA tc UA uc R B G w4 H4;dsimp only [iR];intro K1 hK1 K2 hK2;obtain ⟨k0,k1,k2,k3,k4,k6,k7⟩:=H4.out.pt.cells;have jr:w4.cell? ⟨B,0,none⟩=some (.int .i64 13):=by rw [k0,pR.out]
 clear k0;obtain ⟨x,t,b,h1,hr⟩:=bD jW.out.1;injection hr with hr
 subst hr;have vP:=aB h1;have QS:=aB (hG _ _ _ _ _ h1);have IB:=aB (DF C9 C_);clear h1 C9 C_ jW;go_upto_region 44 with fail
 obtain ⟨SS,hSS⟩:∃SS:World->Prop,SS=fun v=>v.cell? ⟨B,2,none⟩=some (.string p.nm)/\v.cell? ⟨B,3,none⟩=some (.string p.bd)/\v.cell? ⟨B,6,none⟩=some (.slice TA p.T.length tc)/\v.cell? ⟨B,7,none⟩=some (.slice UA p.U.length uc):=⟨_,rfl⟩;obtain ⟨w5,hwd⟩:∃w5,w5=w4.drew:=⟨_,rfl⟩;have hb:Below w4.heap.size w4 w5:=by rw [hwd];exact (Below.refl _ _).drew
 have H5:=aB (H4.out.later hb);clear hb
 try clear k0 k1 k2 k3 k4 k6 k7
 try clear jr
 try clear k1 k2 k3 k4 k6 k7
 have Dc:SS w5:=by rw [hSS];exact ⟨H5.out.pt.cells.2.2.1,H5.out.pt.cells.2.2.2.1,H5.out.pt.cells.2.2.2.2.2.1,H5.out.pt.cells.2.2.2.2.2.2⟩
 refine aG (S:=SS) [6] (by kernel_rfl) (by rw [<-hwd];exact Dc) (fun hHeld=>?_);rw [<-hwd] at hHeld ⊢;clear hwd hHeld;refine aM 0 [6] (some 246) rfl rfl ?_;refine aM 2 [6] (some 248) rfl rfl ?_;refine aM 3 [6] (some 249) rfl rfl ?_;have HX:=aB (HN.out env (a+1) (x,t,b) Y w5 vP.out H5.out.wk);unfold pk at HX;refine aY 1 (some 247) rfl rfl (by kernel_rfl) (by rfl) (by go_simp) HX.out ?_;rintro e w6 ⟨Y6,hf,hy,hkk,A6,c6,T6,d6,rfl,hx,ht,hA⟩;clear HX;have H6:=aB (H5.out.step hf hy hkk);have HV:Hid (bN w6 Y6 A6 c6 x/\aF w6 Y6 T6 d6 t/\∀a,A6=some a->w.heap.size<=a.block):=aB ⟨hx,ht,fun a ha=>vV H5.out.fr.size (hA a ha)⟩;clear hf hy hkk hx ht hA;have sc6:SS w6:=by rw [hSS];exact ⟨H6.out.pt.cells.2.2.1,H6.out.pt.cells.2.2.2.1,H6.out.pt.cells.2.2.2.2.2.1,H6.out.pt.cells.2.2.2.2.2.2⟩
 refine ⟨_,rfl,sc6,?_⟩;refine aA ?_;have HX:=aB (iH A6 c6 x T6 d6 t TA tc p.T Y6 w6 HV.out.1 QS.out.ne HV.out.2.1 H6.out.pt.T QS.out.nY (mJ IB.out.1) H6.out.wk.lt QS.out.len QS.out.tl IB.out.2);refine aY 4 (some 250) rfl rfl (by kernel_rfl) (by rfl) (by go_simp) HX.out ?_;rintro e w7 ⟨hb,E7,e7,rfl,hxe⟩;clear HX;have H7:=aB (H6.out.later hb);have HE7:Hid (bN w7 Y6 E7 e7 (toM x t p.T)):=aB hxe;clear hb hxe;have Tk:SS w7:=by rw [hSS];exact ⟨H7.out.pt.cells.2.2.1,H7.out.pt.cells.2.2.2.1,H7.out.pt.cells.2.2.2.2.2.1,H7.out.pt.cells.2.2.2.2.2.2⟩
 refine ⟨_,rfl,Tk,?_⟩;refine aA ?_;obtain ⟨vs,hrd,hpm,hcp⟩:=HE7.out;have Kk:=aB hpm.1
 have A_:vs≠[]:=fun e=>by
  have h5:=hpm.1;rw [e] at h5;exact acY QS.out.ne (List.eq_nil_of_length_eq_zero h5.symm)
 have vO:=aB (zf E7 e7 vs w7 hrd.read A_ (by rw [hpm.1];have h5:=QS.out.len;have h6:=bR x t p.T;omega));rw [Kk.out] at vO;have Da:=aB (DF hpm A_);clear hrd hpm hcp A_;have HX:=aB (vO.out);refine aY 5 (some 251) rfl rfl (by kernel_rfl) (by rfl) (by go_simp) HX.out ?_;rintro e w8 ⟨A9,c9,rfl,hown,hb⟩;clear HX;have H8:=aB (H7.out.later hb);have Ko:Hid (fq w8 w7.heap.size A9 c9 vs/\dz w8 Y6 vs (toM x t p.T)):=aB ⟨hown,Da.out.1.fr (Fr.below hb) (aj.refl _ _)⟩;clear hown hb;have IE:SS w8:=by rw [hSS];exact ⟨H8.out.pt.cells.2.2.1,H8.out.pt.cells.2.2.2.1,H8.out.pt.cells.2.2.2.2.2.1,H8.out.pt.cells.2.2.2.2.2.2⟩
 refine ⟨_,rfl,IE,?_⟩;refine aA ?_;refine aX 6 (some 25) (v:=.slice A9 (toM x t p.T).length c9) rfl rfl (by kernel_rfl) (by rfl) (by go_simp;first|with_reducible rfl|(constructor<;>with_reducible rfl)) (zL (by kernel_rfl)) ?_;refine aA ?_;refine bB (by kernel_rfl) ?_ _;obtain ⟨v0,vt,hvs⟩:=List.exists_cons_of_ne_nil Da.out.2;have Qp:=aB hvs;have hown0:fq w8 w7.heap.size A9 c9 (v0::vt):=by rw [<-hvs];exact Ko.out.1
 obtain ⟨g9,JZ,oM,_,_,_⟩:=ay.form hown0 (by simp);subst JZ;obtain ⟨l1,l2,l3⟩:=ay.aak hown0 p.lb;have HL3:=aB l3;have hgo:iQ w8 g9 33:=ay.rO hown0 rfl;have hgz:w.heap.size<=g9:=vV H7.out.fr.size oM;have SI:=aB (DF hgo hgz);have hl0:0<(toM x t p.T).length:=by rw [<-Kk.out,hvs];simp
 clear hvs hown0 l3 hgo;obtain ⟨k0,k1,k2,k3,k4,k6,k7⟩:=H8.out.pt.cells;go_upto_region 46 with fail
 obtain ⟨w9,hw⟩:∃w9,w9=w8.setCell ⟨g9,1,none⟩ (.string p.lb):=⟨_,rfl⟩;rw [<-hw] at HL3 ⊢;have hfg:Fr (fun q=>q=g9) w8 w9:=by rw [hw];exact dZ _ _ _ _
 have xH:Hid (iF w8 w9 33 Y6):=aB ⟨hfg.os,hfg.tape,hfg.output,hfg.size,fun i hi ho=>hfg.block i hi fun e=>ho ⟨by rw [e];exact SI.out.1,fun h5=>by have h6:=h5 P H8.out.wk.yP;have h7:=H8.out.pr;have h8:=SI.out.2;omega⟩⟩;have HZ:Hid (iV P es env b Y6 w9/\aQ w9 Y6 R #[.slice none 0 0,.slice none 0 0] 65/\Fr Y w w9/\aF w9 Y6 TA tc p.T):=aB ⟨H8.out.wk.fu xH.out,H8.out.res.fu xH.out (by decide),H8.out.fr.new hfg fun b e=>.inr (by rw [e];exact SI.out.2),H8.out.pt.T.bW xH.out (by decide)⟩
 have HXv:Hid (bN w9 Y6 (some ⟨g9,0,none⟩) c9 (bQ p.lb (toM x t p.T))/\(bQ p.lb (toM x t p.T)).length=(toM x t p.T).length):=aB (by
  have hpm:=Ko.out.2.bW xH.out (by decide:33≠49);rw [Qp.out] at hpm;have hcap:=ay.l5 HL3.out;generalize toM x t p.T=z at hpm ⊢
  cases z with
  |nil=>have h5:=hpm.1;simp at h5
  |cons z0 zt=>
   have k0:=hpm.2 0 v0 z0 rfl rfl;refine ⟨⟨_,vN.own HL3.out (fun q hq=>Nat.lt_of_lt_of_le (H7.out.wk.lt q hq) (aK _)),dz.cons ⟨k0.k,rfl,k0.nm,k0.bd,k0.mn,k0.num,k0.tn,k0.un,k0.T,k0.U⟩ ⟨by have h5:=hpm.1;simpa using h5,fun i u q hu hq=>hpm.2 (i+1) u q hu hq⟩,?_⟩,rfl⟩;have h5:=hpm.1;simp only [bQ,oG] at h5 hcap ⊢;omega)
 have HPt:=aB (aZ.alD H8.out.pt hfg xH.out (by have h5:=H7.out.pt.lt;omega));clear hw hfg l1 l2
 try clear k0 k1 k2 k3 k4 k6 k7
 obtain ⟨k0,k1,k2,k3,k4,k6,k7⟩:=HPt.out.cells;have hR:=HZ.out.2.1;have r0:w9.cell? ⟨R,0,none⟩=some (.slice none 0 0):=by simp [DI,hR.blk]
 have r1:w9.cell? ⟨R,1,none⟩=some (.slice none 0 0):=by simp [DI,hR.blk]
 have rU:w9.frozen? ⟨R,0,none⟩=false:=by simp [Gb,hR.blk]
 have rV:w9.frozen? ⟨R,1,none⟩=false:=by simp [Gb,hR.blk]
 clear hR;have HE:=aB (zq (r:=(bQ p.lb (toM x t p.T),p.T,b)) (TX:=TA) (tx:=tc) HZ.out.2.2.1 H8.out.yn HZ.out.1 HZ.out.2.1 H8.out.pr H8.out.rw HXv.out.1 HZ.out.2.2.2 (by intro a ha;injection ha with ha;rw [<-ha];exact SI.out.2));go_wp2_with fail;obtain ⟨wy,bK⟩:∃wy,wy=set2 w9 R (.slice (some ⟨g9,0,none⟩) ((bQ p.lb (toM x t p.T)):List Pt).length c9) (.slice TA (p.T:List Nd).length tc):=⟨_,rfl⟩;have HE2:Hid (bU P es env Y ((bQ p.lb (toM x t p.T)),p.T,b) w (.returned (.agg #[.slice (some ⟨g9,0,none⟩) ((bQ p.lb (toM x t p.T)):List Pt).length c9,.slice TA (p.T:List Nd).length tc])) wy/\wy.cell? ⟨R,0,none⟩=some (.slice (some ⟨g9,0,none⟩) ((bQ p.lb (toM x t p.T)):List Pt).length c9)/\wy.cell? ⟨R,1,none⟩=some (.slice TA (p.T:List Nd).length tc)):=aB (by rw [bK];exact HE.out);unfold set2 at bK;rw [HXv.out.2] at bK;rw [<-bK];have q0:=HE2.out.2.1;have q1:=HE2.out.2.2;refine bodyPost_ret (v:=.agg #[.slice (some ⟨g9,0,none⟩) ((bQ p.lb (toM x t p.T)):List Pt).length c9,.slice TA (p.T:List Nd).length tc]) (by simp [results,Tryz.results53,go_sem,q0,q1]) rfl HE2.out.1
theorem QT (P:Nat) (es:List Pt) (nx:kW) (HN:Hid (lJ P es nx)) (env:Env) (a:Nat) (p:Pt) (r:eF) (Y:Nat->Prop) (w:World) (h:iV P es env a Y w) (hp:es[a]?=some p) (hk:p.k=14) (hal:a<=1000000) (hG:∀env a x t b,nx env a=some (x,t,b)->qQ x t) (hm:zu nx env p (a+1)=some r):
  Calls Tryz.prog 53 #[pk P] w (bU P es env Y r w):=by
 have jW:=aB (DF hm hp);have pR:=aB hk;refine (iR P es env a p r Y w).2 h hp hal ?_;clear h hp hal hm hk;intro eb eo ec TA tc UA uc R B G w4 H4;dsimp only [iR];intro K1 hK1 K2 hK2;obtain ⟨k0,k1,k2,k3,k4,k6,k7⟩:=H4.out.pt.cells;have jr:w4.cell? ⟨B,0,none⟩=some (.int .i64 14):=by rw [k0,pR.out]
 clear k0;obtain ⟨x,t,b,h1,hr⟩:=bD jW.out.1;have hgx:=hG _ _ _ _ _ h1;injection hr with hr
 subst hr;have vP:=aB h1;have QS:=aB hgx;clear h1 hgx jW;go_upto_region 47 with fail
 obtain ⟨SS,hSS⟩:∃SS:World->Prop,SS=fun v=>v.cell? ⟨B,2,none⟩=some (.string p.nm)/\v.cell? ⟨B,3,none⟩=some (.string p.bd)/\v.cell? ⟨B,6,none⟩=some (.slice TA p.T.length tc)/\v.cell? ⟨B,7,none⟩=some (.slice UA p.U.length uc):=⟨_,rfl⟩;obtain ⟨w5,hwd⟩:∃w5,w5=w4.drew:=⟨_,rfl⟩;have hb:Below w4.heap.size w4 w5:=by rw [hwd];exact (Below.refl _ _).drew
 have H5:=aB (H4.out.later hb);clear hb
 try clear k0 k1 k2 k3 k4 k6 k7
 try clear jr
 try clear k1 k2 k3 k4 k6 k7
 have Dc:SS w5:=by rw [hSS];exact ⟨H5.out.pt.cells.2.2.1,H5.out.pt.cells.2.2.2.1,H5.out.pt.cells.2.2.2.2.2.1,H5.out.pt.cells.2.2.2.2.2.2⟩
 refine aG (S:=SS) [8] (by kernel_rfl) (by rw [<-hwd];exact Dc) (fun hHeld=>?_);rw [<-hwd] at hHeld ⊢;clear hwd hHeld;refine aM 0 [8] (some 261) rfl rfl ?_;refine aM 1 [8] (some 262) rfl rfl ?_;refine aM 5 [8] (some 266) rfl rfl ?_;refine aM 6 [8] (some 267) rfl rfl ?_;have HX:=aB (HN.out env (a+1) (x,t,b) Y w5 vP.out H5.out.wk);unfold pk at HX;refine aY 2 (some 263) rfl rfl (by kernel_rfl) (by rfl) (by go_simp) HX.out ?_;rintro e w6 ⟨Y6,hf,hy,hkk,A6,c6,T6,d6,rfl,hx,ht,hA⟩;clear HX;have H6:=aB (H5.out.step hf hy hkk);have HV:Hid (bN w6 Y6 A6 c6 x/\aF w6 Y6 T6 d6 t/\∀a,A6=some a->w.heap.size<=a.block):=aB ⟨hx,ht,fun a ha=>vV H5.out.fr.size (hA a ha)⟩;clear hf hy hkk hx ht hA;have sc6:SS w6:=by rw [hSS];exact ⟨H6.out.pt.cells.2.2.1,H6.out.pt.cells.2.2.2.1,H6.out.pt.cells.2.2.2.2.2.1,H6.out.pt.cells.2.2.2.2.2.2⟩
 refine ⟨_,rfl,sc6,?_⟩;refine aA ?_;refine aM 3 [8] (some 264) (v:=.slice A6 x.length c6) rfl rfl (hy:=fun v _=>by kernel_rfl) ?_;obtain ⟨vs,hrd,hpm,hcp⟩:=HV.out.1;have Kk:=aB hpm.1;have Da:=aB (DF hrd.read hpm);clear hrd hpm hcp;refine dO 4 rfl (by kernel_rfl) (by rfl) ?_;refine Iy (.tmp 261) (.tmp 264) rfl w.heap.size (m:=1) (n:=(x:List Pt).length) (l:=[⟨p.k,p.lb,p.nm,p.bd,p.mn,p.num,TA,p.T.length,tc,UA,p.U.length,uc⟩]) rfl rfl H6.out.own (l2:=vs) Kk.out rfl Da.out.1 (k:=(x:List Pt).length+1) (by omega) (by have:=QS.out.len;omega) H6.out.fr.size ?_;intro A7 c7 w7 hown hg hd;have jH:=aB (H6.out.app Da.out.2 hown hg hd);clear hown hg hd;have Tk:SS w7:=by rw [hSS];exact ⟨jH.out.2.2.2.2.1.cells.2.2.1,jH.out.2.2.2.2.1.cells.2.2.2.1,jH.out.2.2.2.2.1.cells.2.2.2.2.2.1,jH.out.2.2.2.2.1.cells.2.2.2.2.2.2⟩
 have HTy:Hid (aF w7 Y6 UA uc p.U):=aB ((H6.out.pt.U).bW jH.out.1 (by decide));refine ⟨fun _=>Tk,?_⟩;refine aA ?_;refine aM 7 [8] (some 268) rfl rfl ?_;have hR:=jH.out.2.2.2.1;have r0:w7.cell? ⟨R,0,none⟩=some (.slice none 0 0):=by simp [DI,hR.blk]
 have r1:w7.cell? ⟨R,1,none⟩=some (.slice none 0 0):=by simp [DI,hR.blk]
 have rU:w7.frozen? ⟨R,0,none⟩=false:=by simp [Gb,hR.blk]
 have rV:w7.frozen? ⟨R,1,none⟩=false:=by simp [Gb,hR.blk]
 clear hR;refine jl 8 none (w':=?_) rfl rfl (by kernel_rfl) (by rfl) ?_ (zL (by kernel_rfl)) ?_
 rotate_left
 ·(go_simp;try with_reducible rfl)
 refine aA ?_;refine bB (by kernel_rfl) ?_ _;have HE:=aB (zq (r:=(p::x,p.U,b)) (TX:=UA) (tx:=uc) jH.out.2.2.2.2.2.1 H6.out.yn jH.out.2.2.1 jH.out.2.2.2.1 H6.out.pr H6.out.rw jH.out.2.2.2.2.2.2.1 (HTy.out) jH.out.2.2.2.2.2.2.2);go_wp2_with fail;obtain ⟨wy,bK⟩:∃wy,wy=set2 w7 R (.slice A7 ((p::x):List Pt).length c7) (.slice UA (p.U:List Nd).length uc):=⟨_,rfl⟩;have HE2:Hid (bU P es env Y ((p::x),p.U,b) w (.returned (.agg #[.slice A7 ((p::x):List Pt).length c7,.slice UA (p.U:List Nd).length uc])) wy/\wy.cell? ⟨R,0,none⟩=some (.slice A7 ((p::x):List Pt).length c7)/\wy.cell? ⟨R,1,none⟩=some (.slice UA (p.U:List Nd).length uc)):=aB (by rw [bK];exact HE.out);unfold set2 at bK
 first|rw [<-bK]|(rw [oG] at bK;rw [<-bK])
 have q0:=HE2.out.2.1;have q1:=HE2.out.2.2;refine bodyPost_ret (v:=.agg #[.slice A7 ((p::x):List Pt).length c7,.slice UA (p.U:List Nd).length uc]) (by simp [results,Tryz.results53,go_sem,q0,q1]) rfl HE2.out.1
instance (x:List Pt) (t:List Nd):Decidable (qQ x t):=
 if h:x≠[]/\x.length<=100000/\Gd t/\t.length<=5000000 then isTrue ⟨h.1,h.2.1,h.2.2.1,h.2.2.2⟩
 else isFalse fun g=>h ⟨g.ne,g.len,g.gd,g.tl⟩
def Dj (p:Pt):Prop:=((p.k=2\/p.k=4\/p.k=5\/p.k=12\/p.k=13)->Gd p.T/\p.T.length<=5000000)/\(p.k=5->Gd p.U/\p.U.length<=5000000)
instance (p:Pt):Decidable (Dj p):=inferInstanceAs (Decidable (_/\_))
def dJ (nx:kW) (es:List Pt) (env:Env) (p:Pt) (a:Nat):Option eF:=
 if p.k=0 then Vd p a else
 if p.k=1 then Ef env p a else
 if p.k=2 then Li nx env p a else
 if p.k=3 then BQ nx env p a else
 if p.k=4 then Lj nx env p a else
 if p.k=5 then Ll nx env p a else
 if p.k=6 then Eh nx env p a else
 if p.k=7 then xL nx es env p a else
 if p.k=9 then Xk nx env p a else
 if p.k=10 then xK nx es env p a else
 if p.k=11 then Lm nx env p a else
 if p.k=12 then Lp nx env p a else
 if p.k=13 then asX nx env p a else
 if p.k=14 then zu nx env p a else none
def Ol:Option eF->Option eF
 |some (x,t,b)=>if qQ x t then some (x,t,b) else none
 |none=>none
def cst:Nat->List Pt->kW
 |0,_=>fun _ _=>none
 |f+1,es=>fun env a=>
  match es[a]? with
  |none=>none
  |some p=>if env.length<=900000/\Dj p then Ol (dJ (cst f es) es env p (a+1)) else none
theorem XJ {x:Option eF} {y:List Pt} {t:List Nd} {b:Nat} (h:Ol x=some (y,t,b)):x=some (y,t,b)/\qQ y t:=by
 match x,h with
 |some (y2,t2,b2),h=>
  simp only [Ol] at h;split at h
  ·rename_i hg
   injection h with h
   injection h with h1 h2
   injection h2 with h2 h3
   subst h1 h2 h3;exact ⟨rfl,hg⟩
  ·cases h
theorem wP {f:Nat} {es:List Pt} {env:Env} {a:Nat} {y:List Pt} {t:List Nd} {b:Nat} (h:cst (f+1) es env a=some (y,t,b)):∃p,es[a]?=some p/\env.length<=900000/\Dj p/\dJ (cst f es) es env p (a+1)=some (y,t,b)/\qQ y t:=by
 unfold cst at h;split at h
 ·cases h
 ·rename_i p hp
  split at h
  ·rename_i hc
   obtain ⟨h1,h2⟩:=XJ h;exact ⟨p,hp,hc.1,hc.2,h1,h2⟩
  ·cases h
theorem Dk:∀(f:Nat) (es:List Pt) (env:Env) (a:Nat) (x:List Pt) (t:List Nd) (b:Nat),cst f es env a=some (x,t,b)->qQ x t
 |0,_,_,_,_,_,_,h=>by cases h
 |f+1,es,env,a,x,t,b,h=>by
  obtain ⟨p,_,_,_,_,h2⟩:=wP h;exact h2
theorem Jj (es:List Pt) (hok:dN es) (P:Nat):∀f:Nat,lJ P es (cst f es)
 |0=>fun env a r Y w h=>by cases h
 |f+1=>fun env a r Y w h hw=>by
  have HN:Hid (lJ P es (cst f es)):=aB (Jj es hok P f);have hG:=Dk f es;obtain ⟨x,t,b⟩:=r;obtain ⟨p,hp,hv,hx,hm,_⟩:=wP h
  have hal:a<=1000000:=by
   obtain ⟨EA,ec,VA,vc,bs,hm1⟩:=hw;have:=hm1.el;have:=aP hp;omega
  unfold dJ at hm;by_cases h0:p.k=0
  ·rw [if_pos h0] at hm
   exact Tg P es _ HN env a p _ Y w hw hp h0 hal hm
  rw [if_neg h0] at hm;by_cases h1:p.k=1
  ·rw [if_pos h1] at hm
   exact Qx P es _ HN env a p _ Y w hw hp h1 hal hm
  rw [if_neg h1] at hm;by_cases h2:p.k=2
  ·rw [if_pos h2] at hm
   obtain ⟨g1,g2⟩:=hx.1 (by omega);exact Tj P es _ HN env a p _ Y w hw hp h2 hal hv g1 g2 hG hm
  rw [if_neg h2] at hm;by_cases h3:p.k=3
  ·rw [if_pos h3] at hm
   exact Tn P es _ HN env a p _ Y w hw hp h3 hal hG hm
  rw [if_neg h3] at hm;by_cases h4:p.k=4
  ·rw [if_pos h4] at hm
   obtain ⟨g1,g2⟩:=hx.1 (by omega);exact Tp P es _ HN env a p _ Y w hw hp h4 hal hv g1 g2 hG hm
  rw [if_neg h4] at hm;by_cases h5:p.k=5
  ·rw [if_pos h5] at hm
   obtain ⟨g1,g2⟩:=hx.1 (by omega);obtain ⟨g3,g4⟩:=hx.2 h5;exact Tq P es _ HN env a p _ Y w hw hp h5 hal hv g1 g2 g3 g4 hG hm
  rw [if_neg h5] at hm;by_cases h6:p.k=6
  ·rw [if_pos h6] at hm
   exact Xx P es _ HN env a p _ Y w hw hp h6 hal hG hm
  rw [if_neg h6] at hm;by_cases h7:p.k=7
  ·rw [if_pos h7] at hm
   exact QM P es _ HN env a p _ Y w hw hp h7 hal hv hok hG hm
  rw [if_neg h7] at hm;by_cases h9:p.k=9
  ·rw [if_pos h9] at hm
   exact XF P es _ HN env a p _ Y w hw hp h9 hal hG hm
  rw [if_neg h9] at hm;by_cases h10:p.k=10
  ·rw [if_pos h10] at hm
   exact QO P es _ HN env a p _ Y w hw hp h10 hal hG hm
  rw [if_neg h10] at hm;by_cases h11:p.k=11
  ·rw [if_pos h11] at hm
   exact Ue P es _ HN env a p _ Y w hw hp h11 hal hG hm
  rw [if_neg h11] at hm;by_cases h12:p.k=12
  ·rw [if_pos h12] at hm
   obtain ⟨g1,g2⟩:=hx.1 (by omega);exact Uf P es _ HN env a p _ Y w hw hp h12 hal g1 g2 hG hm
  rw [if_neg h12] at hm;by_cases jT:p.k=13
  ·rw [if_pos jT] at hm
   obtain ⟨g1,g2⟩:=hx.1 (by omega);exact XI P es _ HN env a p _ Y w hw hp jT hal g1 g2 hG hm
  rw [if_neg jT] at hm;by_cases gW:p.k=14
  ·rw [if_pos gW] at hm
   exact QT P es _ HN env a p _ Y w hw hp gW hal hG hm
  rw [if_neg gW] at hm
  cases hm
theorem Aa (x:Nd):(gJ x).k=x.k:=by unfold gJ;split<;>rfl
theorem Ez (x:Nd):(gJ x).s=x.s:=by unfold gJ;split<;>rfl
theorem oQ {x:Nd} (h:x.k≠0):gJ x=x:=by unfold gJ;rw [if_neg h]
theorem Om (x:Nd):gJ (gJ x)=gJ x:=by
 by_cases h:x.k=0
 ·unfold gJ;rw [if_pos h];simp [h]
 ·rw [oQ h,oQ h]
theorem BX (n:Int):many 0 n=0:=by unfold many;simp [bF]
theorem vT (x:Nd):manyN (gJ x)=manyN x:=by
 by_cases h:x.k=0
 ·unfold manyN
  rw [Aa,h,BX,BX]
 ·rw [oQ h]
theorem jh (x:Nd) (xs:List Nd):aC (x::xs)=gJ x::aC xs:=rfl
theorem sV (xs ys:List Nd):aC (xs++ys)=aC xs++aC ys:=aaF
theorem Kq (t:List Nd):aC (aC t)=aC t:=by
 unfold aC;rw [Sm];exact aaL fun x _=>Om x
theorem Ab:∀(xs:List Nd) (n:Nat),skip (aC xs) n=(skip xs n).map aC
 |xs,0=>by rw [iX,iX];rfl
 |[],n+1=>by rw [show aC []=[] from rfl,wu];rfl
 |x::xs,n+1=>by rw [jh,jE,jE,vT];exact Ab xs _
theorem xM (xs:List Nd):bV (aC xs)=aC (bV xs):=by
 unfold bV;rw [Ab]
 cases skip xs 1<;>rfl
theorem BZ (xs:List Nd):nP (aC xs)=aC (nP xs):=by
 unfold nP;rw [xM,jM,jM];exact (List.map_take ..).symm
theorem Dl:∀(N n:Nat) (xs ys:List Nd),xs.length<=N->met n (aC xs) (aC ys)=(met n xs ys).map aC
 |_,0,xs,ys,_=>by rw [jw,jw];rfl
 |N,n+1,[],ys,_=>by unfold met;simp [tV,aC]
 |N,n+1,x::xt,[],_=>by unfold met;simp [tV,aC]
 |0,n+1,x::xt,y::yt,h=>by simp at h
 |N+1,n+1,x::xt,y::yt,h=>by
  have hl:xt.length<=N:=by simpa using h
  have hr:=wD x xt;rw [jh,jh,jy,jy,<-jh,<-jh,xM,xM,BZ,BZ,Aa,Aa,Ez,Ez,vT,Dl N n _ _ (by omega),Dl N (manyN x+n) xt yt hl];by_cases h1:x.s≠y.s
  ·rw [if_pos h1,if_pos h1];rfl
  rw [if_neg h1,if_neg h1];by_cases h2:x.k=0\/y.k=0
  ·rw [if_pos h2,if_pos h2]
   cases met n (bV (x::xt)) (bV (y::yt)) with
   |none=>rfl
   |some r=>
    simp only [aaK];split<;>simp [sV]
  rw [if_neg h2,if_neg h2];have h3:x.k≠0/\y.k≠0:=⟨fun e=>h2 (.inl e),fun e=>h2 (.inr e)⟩;rw [oQ h3.1,oQ h3.2];by_cases h4:x.k≠y.k\/x.n≠y.n
  ·rw [if_pos h4,if_pos h4];rfl
  rw [if_neg h4,if_neg h4]
  cases met (manyN x+n) xt yt with
  |none=>rfl
  |some r=>simp [jh,oQ h3.1]
theorem tF:∀(N n:Nat) (xs:List Nd),xs.length<=N->Fo n xs->met n xs xs=some xs
 |_,0,xs,_,h=>by rw [jw,h.fK]
 |N,n+1,[],_,h=>absurd h.pos (by simp)
 |0,n+1,x::xt,h,_=>by simp at h
 |N+1,n+1,x::xt,h,hf=>by
  have hl:xt.length<=N:=by simpa using h
  rw [jy,if_neg (by simp)];by_cases h0:x.k=0
  ·obtain ⟨t1,p1,e1,f1,g1⟩:=hf.first
   have ht:=f1.pos
   have hp:p1.length<=N:=by
    have:=congrArg List.length e1;simp at this;omega
   rw [if_pos (.inl h0),if_pos h0,e1,gB f1,mG f1,tF N n p1 hp g1];rfl
  ·rw [if_neg (by simp [h0]),if_neg (by simp)]
   have h2:Fo (manyN x+n) xt:=by
    obtain ⟨ks,rs,e,f1,f2⟩:=hf.rA;rw [e];exact f1.append f2
   rw [tF N (manyN x+n) xt hl h2];rfl
def Q2 (t u:List Nd):Prop:=aC t=aC u
theorem Q2.refl (t:List Nd):Q2 t t:=rfl
theorem Q2.symm {t u:List Nd} (h:Q2 t u):Q2 u t:=Eq.symm h
theorem Q2.trans {t u v:List Nd} (h:Q2 t u) (k:Q2 u v):Q2 t v:=Eq.trans h k
theorem Q2.Oo (t:List Nd):Q2 t (aC t):=(Kq t).symm
theorem Q2.len {t u:List Nd} (h:Q2 t u):t.length=u.length:=by
 have:=congrArg List.length h
 rwa [jM,jM] at this
theorem tH (t:List Nd):(aD (aC t)).k=(aD t).k/\(aD (aC t)).s=(aD t).s:=by
 cases t with
 |nil=>exact ⟨rfl,rfl⟩
 |cons x xs=>exact ⟨Aa x,Ez x⟩
theorem Q2.k {t u:List Nd} (h:Q2 t u):(aD t).k=(aD u).k:=by rw [<-(tH t).1,<-(tH u).1,h]
theorem Q2.s {t u:List Nd} (h:Q2 t u):(aD t).s=(aD u).s:=by rw [<-(tH t).2,<-(tH u).2,h]
theorem Q2.fo {t u:List Nd} {n:Nat} (h:Q2 t u) (k:Fo n t):Fo n u:=by
 unfold Fo at k ⊢;have h1:=Ab t n;rw [k,h,Ab] at h1
 cases hs:skip u n with
 |none=>rw [hs] at h1;cases h1
 |some r=>
  rw [hs] at h1;simp only [aaK,Option.some.injEq] at h1
  cases r with
  |nil=>rfl
  |cons x xs=>cases h1
theorem Q2.gd {t u:List Nd} (h:Q2 t u) (g:Gd t) (k:bC u):Gd u:=⟨k,h.fo g.fo,by rw [<-h.s];exact g.s,by rw [<-h.len];exact g.len⟩
theorem Gc {t:List Nd} (g:Gd t):Gd (aC t):=(Q2.Oo t).gd g fun x hx=>by
 obtain ⟨y,hy,rfl⟩:=aaw.1 hx;have h:=g.ok y hy;unfold gJ;split
 ·rename_i h0
  simp [dP,h0]
 ·exact h
theorem same_iff {t u:List Nd}:lZ t u=true↔Q2 t u:=by
 unfold lZ Q2;rw [decide_eq_true_eq];exact Iff.rfl
theorem Q2.met {n:Nat} {t t' u u' m:List Nd} (h:Q2 t t') (k:Q2 u u') (hm:met n t u=some m):∃m',Go.Proofs.YtmjdhfbnmmdjiaaGreat.met n t' u'=some m'/\Q2 m m':=by
 have h1:=Dl t.length n t u (aK _);have h2:=Dl t'.length n t' u' (aK _);rw [<-h,<-k,h1,hm] at h2
 cases hm2:Go.Proofs.YtmjdhfbnmmdjiaaGreat.met n t' u' with
 |none=>rw [hm2] at h2;cases h2
 |some m'=>
  rw [hm2] at h2;simp only [aaK,Option.some.injEq] at h2;exact ⟨m',rfl,h2⟩
theorem Q2.ag {t t' u u':List Nd} (h:Q2 t t') (k:Q2 u u') (ha:jR t u=true):jR t' u'=true:=by
 unfold jR at ha ⊢;obtain ⟨m,hm⟩:=Option.isSome_iff_exists.1 ha;obtain ⟨m',h1,_⟩:=h.met k hm;rw [h1];rfl
theorem Q2.EB {t u:List Nd} (h:Q2 t u) (hf:Fo 1 t):∃m,Go.Proofs.YtmjdhfbnmmdjiaaGreat.met 1 t u=some m/\Q2 t m:=
 (Q2.refl t).met h (tF t.length 1 t (aK _) hf)
theorem Q2.qp {t u:List Nd} (h:Q2 t u) (hf:Fo 1 t):jR t u=true:=by
 obtain ⟨m,hm,_⟩:=h.EB hf;unfold jR;rw [hm];rfl
theorem Q2.arrow {t t' u u':List Nd} (h:Q2 t t') (k:Q2 u u'):Q2 (aR t u) (aR t' u'):=by
 unfold Q2 aR;rw [jh,jh,sV,sV,h,k]
theorem FE:∀(n:Nat) (xs:List Nd),bA n (aC xs)=(bA n xs).map aC
 |0,_=>rfl
 |n+1,xs=>by
  show nP (aC xs)::bA n (bV (aC xs))=aC (nP xs)::(bA n (bV xs)).map aC;rw [BZ,xM,FE n]
theorem qV (t:List Nd):aW (aC t)=(aW t).map aC:=by
 cases t with
 |nil=>rfl
 |cons x xt=>
  show bA (manyN (gJ x)) (aC xt)=_;rw [vT,FE];rfl
theorem qW (t:List Nd):eO (aC t)=aC (eO t):=by
 cases t with
 |nil=>rfl
 |cons x xt=>
  show (gJ x).name dQ::aC xt=gJ (x.name dQ)::aC xt;unfold gJ Nd.name;by_cases h:x.k=0
  ·rw [if_pos h,if_pos h]
  ·rw [if_neg h,if_neg h]
theorem xO (l:List (List Nd)):(l.map aC).headD []=aC (l.headD []):=by cases l<;>rfl
theorem Q2.call {t t' a b:List Nd} (h:Q2 t t') (hc:iP t=some (a,b)):∃a' b',iP t'=some (a',b')/\Q2 a a'/\Q2 b b':=by
 unfold iP at hc ⊢;rw [<-h.k];split at hc
 ·rename_i h0
  injection hc with hc
  injection hc with h1 h2
  subst h1 h2;rw [if_pos h0];exact ⟨_,_,rfl,rfl,rfl⟩
 ·rename_i h0
  split at hc
  ·rename_i h5
   injection hc with hc
   injection hc with h1 h2
   subst h1 h2;rw [if_neg h0,if_pos h5];have hk:(aW t).map aC=(aW t').map aC:=by rw [<-qV,<-qV,h]
   refine ⟨_,_,rfl,?_,?_⟩
   ·show aC _=aC _
    rw [<-qW,<-qW,<-xO,<-xO,hk]
   ·show aC _=aC _
    rw [<-qW,<-qW,<-xO,<-xO,List.map_tail,List.map_tail,hk]
  ·cases hc
theorem EC (s:List UInt8):∀(l:List (List Nd)),(l.map aC).find? (fun ts=>(aD ts).s.toList==s)=(l.find? fun ts=>(aD ts).s.toList==s).map aC
 |[]=>rfl
 |x::l=>by
  rw [RH,List.find?_cons,List.find?_cons,(tH x).2];split
  ·rfl
  ·exact EC s l
theorem Q2.field {t t' u:List Nd} {s:ByteArray} (h:Q2 t t') (hc:bG t s=some u):∃u',bG t' s=some u'/\Q2 u u':=by
 unfold bG at hc ⊢;rw [<-h.k];split at hc
 ·rename_i h0
  injection hc with hc
  subst hc;rw [if_pos h0];exact ⟨_,rfl,rfl⟩
 ·rename_i h0
  split at hc
  ·rename_i h5
   rw [if_neg h0,if_pos h5];rw [aaE] at hc;obtain ⟨ts,h1,rfl⟩:=hc;have hk:(aW t).map aC=(aW t').map aC:=by rw [<-qV,<-qV,h]
   have h2:=EC s.toList (aW t);rw [hk,EC,h1] at h2
   cases h3:(aW t').find? fun ts=>(aD ts).s.toList==s.toList with
   |none=>rw [h3] at h2;cases h2
   |some us=>
    rw [h3] at h2;simp only [aaK,Option.some.injEq] at h2;refine ⟨eO us,rfl,?_⟩;show aC _=aC _;rw [<-qW,<-qW,h2]
  ·cases hc
theorem Q2.tags {t t':List Nd} (h:Q2 t t'):kN t'=kN t:=by
 unfold kN;rw [<-h.k];have hk:(aW t).map aC=(aW t').map aC:=by rw [<-qV,<-qV,h]
 have hs:∀l:List (List Nd),(l.map aC).map (fun ts=>(aD ts).s)=l.map fun ts=>(aD ts).s:=fun l=>by
  rw [Sm];exact aaL fun x _=>(tH x).2
 rw [<-hs (aW t),hk,hs]
theorem Ug (s:ByteArray) (t:List Nd):g_ s (aC t)=aC (g_ s t):=by
 cases t with
 |nil=>rfl
 |cons x xt=>
  show (gJ x).name s::aC xt=gJ (x.name s)::aC xt;unfold gJ Nd.name;by_cases h:x.k=0
  ·rw [if_pos h,if_pos h]
  ·rw [if_neg h,if_neg h]
def wQ (fs:List fB):List fB:=fs.map fun p=>(p.1,aC p.2)
theorem LP (p:fB):∀l:List fB,pz (p.1,aC p.2) (wQ l)=wQ (pz p l)
 |[]=>rfl
 |q::l=>by
  show pz _ ((q.1,aC q.2)::wQ l)=_;unfold pz;dsimp only;split
  ·rfl
  ·rw [LP p l]
   rfl
theorem Jk:∀(l acc:List fB),(wQ l).foldl (fun a p=>pz p a) (wQ acc)=wQ (l.foldl (fun a p=>pz p a) acc)
 |[],_=>rfl
 |p::l,acc=>by
  show (wQ l).foldl _ (pz (p.1,aC p.2) (wQ acc))=wQ (l.foldl _ (pz p acc));rw [LP,Jk l]
theorem LQ {k:Int} (hk:k≠0) (fs:List fB):aC (d_ k fs)=d_ k (wQ fs):=by
 unfold d_;rw [jh,oQ hk];have h1:pE (wQ fs)=wQ (pE fs):=Jk fs [];rw [h1]
 have h2:∀l:List fB,aC (l.flatMap fun p=>g_ p.1 p.2)=(wQ l).flatMap fun p=>g_ p.1 p.2:=fun l=>by
  induction l with
  |nil=>rfl
  |cons p l ih=>
   show aC (g_ p.1 p.2++l.flatMap _)=g_ p.1 (aC p.2)++(wQ l).flatMap _;rw [sV,ih,Ug]
 rw [h2];simp [wQ]
def QF (fs gs:List fB):Prop:=wQ fs=wQ gs
theorem QF.row {k:Int} (hk:k≠0) {fs gs:List fB} (h:QF fs gs):Q2 (d_ k fs) (d_ k gs):=by
 unfold Q2;rw [LQ hk,LQ hk,h]
theorem QF.snoc {fs gs:List fB} (h:QF fs gs) {s:ByteArray} {t u:List Nd} (k:Q2 t u):QF (fs++[(s,t)]) (gs++[(s,u)]):=by
 unfold QF wQ at*;rw [aaF,aaF,h];simp only [RH,List.map_nil];rw [show aC t=aC u from k]
theorem QF.aeQ {fs gs:List fB} (h:QF fs gs):fs.map (·.1)=gs.map (·.1):=by
 have:=congrArg (List.map (·.1)) h;unfold wQ at this;rw [Sm,Sm] at this;exact this
theorem Uh (a b:List UInt8):a<=b\/b<=a:=by
 by_cases h:b<a
 ·exact .inr (List.le_of_lt h)
 ·exact .inl (List.not_lt.1 h)
theorem pI (fs:List fB) (hn:(fs.map (·.1)).Nodup):(pE fs).Perm fs/\(pE fs).Pairwise fun a b=>kU a.1 b.1=true:=by
 have hd2:fs.Pairwise fun a b=>a.1≠b.1:=by
  have h:=hn;unfold List.Nodup at h;rw [aah] at h;exact h
 obtain ⟨h1,h2⟩:=GV fs [] (by simpa using hd2) List.Pairwise.nil;rw [List.nil_append] at h1;exact ⟨h1,h2⟩
theorem XK (fs:List fB) (hn:(fs.map (·.1)).Nodup):(pE fs).map (·.1)=lH (fs.map (·.1)):=by
 obtain ⟨h1,h2⟩:=pI fs hn
 have hk:((pE fs).map (·.1)).map ByteArray.toList=((fs.map (·.1)).map ByteArray.toList).mergeSort fun x y=>decide (x<=y):=by
  refine List.Perm.eq_of_pairwise (le:=fun a b=>a<=b) (fun a b _ _ h k=>List.le_antisymm h k) ?_ ?_ ?_
  ·rw [Sm,aah]
   refine h2.imp fun {a b} h=>?_;unfold kU at h;rw [lq,decide_eq_true_eq] at h;exact List.le_of_lt h
  ·have:=List.pairwise_mergeSort (le:=fun x y:List UInt8=>decide (x<=y)) (by intro a b c h k;simp only [decide_eq_true_eq] at*;exact List.le_trans h k) (by intro a b;simp only [Bool.or_eq_true,decide_eq_true_eq];exact Uh a b) ((fs.map (·.1)).map ByteArray.toList)
   simpa using this
  ·exact (((h1.map _).map _)).trans (List.mergeSort_perm ..).symm
 unfold lH;rw [<-hk,Sm]
 conv=>lhs;rw [<-List.map_id ((pE fs).map (·.1))]
 refine aaL fun s _=>?_;exact (yL (ByteArray.toList_eq s)).symm
theorem Jl {k:Int} (hk:k=6\/k=7) (n:Nat):manyN ⟨k,dQ,(n:Int)⟩=n:=by
 unfold manyN many bF;rcases hk with rfl|rfl<;>simp
theorem VJ (l:List fB) (h:∀p∈l,Fo 1 p.2):Trees l.length (l.flatMap fun p=>g_ p.1 p.2) (l.map fun p=>g_ p.1 p.2):=by
 refine ⟨by simp,by rw [List.flatMap_def],fun ts hts=>?_⟩;obtain ⟨p,hp,rfl⟩:=aaw.1 hts;have hf:=h p hp
 cases h2:p.2 with
 |nil=>rw [h2] at hf;exact absurd hf.pos (by simp)
 |cons x xt=>
  rw [h2] at hf;unfold Fo at hf ⊢;show skip (x.name p.1::xt) 1=some [];rw [jE] at hf ⊢;exact hf
theorem Jm {k:Int} (hk:k=6\/k=7) (fs:List fB) (hn:(fs.map (·.1)).Nodup) (h:∀p∈fs,Fo 1 p.2):aW (d_ k fs)=(pE fs).map fun p=>g_ p.1 p.2:=by
 obtain ⟨h1,_⟩:=pI fs hn;have h2:=VJ (pE fs) fun p hp=>h p (h1.subset hp);show bA (manyN _) _=_;rw [Jl hk,<-h1.length_eq];exact h2.uniq.symm
theorem abp (k:Int) (fs:List fB):(aD (d_ k fs)).k=k:=rfl
theorem abq (s:ByteArray) {t:List Nd} (h:t≠[]):(aD (g_ s t)).s=s:=by
 cases t with
 |nil=>exact absurd rfl h
 |cons x xt=>rfl
theorem XL (fs:List fB) (hn:(fs.map (·.1)).Nodup) (h:∀p∈fs,Fo 1 p.2):kN (d_ 7 fs)=some (lH (fs.map (·.1))):=by
 unfold kN;rw [abp,if_neg (by decide),if_pos rfl,Jm (.inr rfl) fs hn h,Sm,<-XK fs hn]
 congr 1
 refine aaL fun p hp=>?_;obtain ⟨h1,_⟩:=pI fs hn;have:=(h p (h1.subset hp)).pos;exact abq _ fun e=>by rw [e] at this;simp at this
def sW (ls:List ByteArray):List Nd:=d_ 7 (ls.map fun l=>(l,aH 0))
theorem sZ (ls:List ByteArray):(ls.map fun l=>((l,aH 0):fB)).map (·.1)=ls:=by rw [Sm];exact List.map_id ls
theorem B_ (ls:List ByteArray):∀p∈ls.map (fun l=>((l,aH 0):fB)),Fo 1 p.2:=fun p hp=>by
 obtain ⟨l,_,rfl⟩:=aaw.1 hp;rfl
theorem Oq {ls:List ByteArray} (hn:ls.Nodup):kN (sW ls)=some (lH ls):=by
 have:=XL (ls.map fun l=>(l,aH 0)) (by rw [sZ];exact hn) (B_ ls);rw [sZ] at this;exact this
theorem Kr {ls:List ByteArray} (hn:ls.Nodup) {s:ByteArray} (hs:s∈ls):bG (sW ls) s=some (aH 0):=by
 have hn2:((ls.map fun l=>((l,aH 0):fB)).map (·.1)).Nodup:=by rw [sZ];exact hn
 obtain ⟨h1,_⟩:=pI _ hn2;unfold sW bG;rw [abp,if_neg (by decide),if_pos (by decide),Jm (.inr rfl) _ hn2 (B_ ls)]
 have hall:∀ts∈(pE (ls.map fun l=>((l,aH 0):fB))).map (fun p=>g_ p.1 p.2),eO ts=aH 0:=fun ts hts=>by
  obtain ⟨p,hp,rfl⟩:=aaw.1 hts;obtain ⟨l,_,rfl⟩:=aaw.1 (h1.subset hp);rfl
 cases hf:((pE (ls.map fun l=>((l,aH 0):fB))).map fun p=>g_ p.1 p.2).find? fun ts=>(aD ts).s.toList==s.toList with
 |some ts=>rw [aaK,hall ts (List.mem_of_find?_eq_some hf)]
 |none=>
  have hm:((s,aH 0):fB)∈pE (ls.map fun l=>((l,aH 0):fB)):=h1.symm.subset (aaw.2 ⟨s,hs,rfl⟩);have:=List.find?_eq_none.1 hf _ (aaw.2 ⟨_,hm,rfl⟩);simp [g_,aH,aD,Nd.name] at this
theorem XM (k:Int) (fs:List fB) (hn:(fs.map (·.1)).Nodup):(d_ k fs).length=1+(fs.map fun p=>p.2.length).sum:=by
 obtain ⟨h1,_⟩:=pI fs hn;unfold d_;have e:((pE fs).map fun p=>p.2.length).sum=(fs.map fun p=>p.2.length).sum:=(h1.map _).sum_nat;rw [oG,K6,e];exact Nat.add_comm _ _
theorem LU {α:Type}:∀l:List α,(l.map fun _=>1).sum=l.length
 |[]=>rfl
 |_::l=>by rw [RH,List.sum_cons,LU l,oG];omega
theorem Ui {ls:List ByteArray} (hn:ls.Nodup) (h1:1<=ls.length) (h50:ls.length<=50):Gd (sW ls)/\(sW ls).length<=100:=by
 have hn2:((ls.map fun l=>((l,aH 0):fB)).map (·.1)).Nodup:=by rw [sZ];exact hn
 obtain ⟨p1,_⟩:=pI _ hn2;have hl:=XM 7 _ hn2
 have hsum:((ls.map fun l=>((l,aH 0):fB)).map fun p=>p.2.length).sum=ls.length:=by
  rw [Sm];exact LU ls
 rw [hsum] at hl;have hl2:(sW ls).length=1+ls.length:=hl;refine ⟨⟨?_,?_,rfl,by omega⟩,by omega⟩
 ·intro x hx
  unfold sW d_ at hx;rcases List.mem_cons.1 hx with rfl|hx
  ·simp [dP]
   omega
  ·obtain ⟨p,hp,hx⟩:=List.mem_flatMap.1 hx
   obtain ⟨l,_,rfl⟩:=aaw.1 (p1.subset hp);simp [g_,aH,Nd.name] at hx;subst hx;rfl
 ·have h2:=VJ _ fun p hp=>B_ ls p (p1.subset hp)
  have h3:=h2.fo;unfold sW d_;have:=Fo.cons (n:=0) (x:=⟨7,dQ,((ls.map fun l=>((l,aH 0):fB)).length:Int)⟩) (ks:=(pE (ls.map fun l=>((l,aH 0):fB))).flatMap fun p=>g_ p.1 p.2) (rs:=[]) (by rw [Jl (.inr rfl),<-p1.length_eq];exact h3) Fo.zero;rw [List.append_nil] at this;exact this
def eU (k:Nat) (xs:List Pt):Prop:=∀(post:List Pt) (n a:Nat),fM (xs++post) (n+k) a=fM post n (a+xs.length)
theorem eU.nil:eU 0 []:=fun _ _ _=>rfl
theorem eU.app {j k:Nat} {xs ys:List Pt} (h:eU j xs) (g:eU k ys):eU (j+k) (xs++ys):=fun post n a=>by
 rw [kV,show n+(j+k)=(n+k)+j from by omega,h,g,List.length_append,Nat.add_assoc]
theorem eU.cons {p:Pt} {xs:List Pt} (h:eU (aL p) xs):eU 1 (p::xs):=fun post n a=>by
 show fM (xs++post) (n+aL p) (a+1)=_;rw [h,oG]
 congr 1
 omega
theorem eU.leaf {p:Pt} (h:aL p=0):eU 1 [p]:=eU.cons (by rw [h];exact eU.nil)
theorem XO (p:Pt) (s:ByteArray):aL {p with lb:=s}=aL p:=rfl
theorem dW (s:ByteArray) (x:List Pt):(bQ s x).length=x.length:=by cases x<;>rfl
theorem eU.lb {x:List Pt} (h:eU 1 x) (s:ByteArray):eU 1 (bQ s x):=fun post n a=>by
 cases x with
 |nil=>exact h post n a
 |cons p ps=>
  have h1:=h post n a;show fM (ps++post) (n+aL p) (a+1)=_;rw [dW];exact h1
theorem Ot {p:Pt} (h:p.k=14):aL p=1:=by unfold aL;simp [h]
theorem eU.to {x:List Pt} (h:eU 1 x) (t u:List Nd):eU 1 (toM x t u):=by
 unfold toM;split
 ·exact h
 ·exact eU.cons (by rw [Ot rfl];exact h.lb _)
def At (es:List Pt) (a:Nat) (x:List Pt):Prop:=∃post,es.drop a=x++post
theorem At.head {es:List Pt} {a:Nat} {p:Pt} {x:List Pt} (h:At es a (p::x)):es[a]?=some p:=by
 obtain ⟨post,h⟩:=h;have:(es.drop a)[0]?=some p:=by rw [h];rfl
 rwa [List.getElem?_drop,Nat.add_zero] at this
theorem At.tail {es:List Pt} {a:Nat} {p:Pt} {x:List Pt} (h:At es a (p::x)):At es (a+1) x:=by
 obtain ⟨post,h⟩:=h;refine ⟨post,?_⟩;have:=congrArg List.tail h;rw [List.tail_drop] at this;exact this
theorem At.left {es:List Pt} {a:Nat} {x y:List Pt} (h:At es a (x++y)):At es a x:=by
 obtain ⟨post,h⟩:=h;exact ⟨y++post,by rw [h,kV]⟩
theorem At.right {es:List Pt} {a:Nat} {x y:List Pt} (h:At es a (x++y)):At es (a+x.length) y:=by
 obtain ⟨post,h⟩:=h;refine ⟨post,?_⟩;rw [<-List.drop_drop,h,kV];simp
theorem qX (xs:List Pt) (a:Nat):fM xs 0 a=some a:=by cases xs<;>rfl
theorem At.ea {es:List Pt} {a k:Nat} {x:List Pt} (h:At es a x) (g:eU k x):EA es k a (a+x.length):=by
 obtain ⟨post,h⟩:=h;unfold EA;have:=g post 0 a;rw [h,<-Nat.zero_add k,this,qX]
def vU (es:List Pt) (i:Nat):ByteArray:=((es[i]?).getD default).lb
theorem At.lb {es:List Pt} {a:Nat} {x:List Pt} (h:At es a x) (hne:x≠[]):vU es a=iU x:=by
 cases x with
 |nil=>exact absurd rfl hne
 |cons p x=>unfold vU;rw [h.head];rfl
theorem eU.ne {x:List Pt} (h:eU 1 x):x≠[]:=by
 rintro rfl;have:=h [] 0 0
 cases this
theorem LV:∀(Xs:List (List Pt)) (es:List Pt) (a:Nat),(∀x∈Xs,eU 1 x)->At es a Xs.flatten->∃l,bZ es Xs.length a=some l/\l.map (vU es)=Xs.map iU
 |[],es,a,_,_=>⟨[],rfl,rfl⟩
 |x::Xs,es,a,h,hat=>by
  rw [List.flatten_cons] at hat;have hx:=hat.left.ea (h x (by simp));obtain ⟨l,h1,h2⟩:=LV Xs es (a+x.length) (fun y hy=>h y (by simp [hy])) hat.right;refine ⟨a::l,?_,?_⟩
  ·unfold EA at hx
   rw [oG];unfold bZ;rw [hx];dsimp only;rw [h1];rfl
  ·rw [RH,RH,h2,hat.left.lb (h x (by simp)).ne]
def RJ (e e':ByteArray×List Nd):Prop:=e.1=e'.1/\Q2 e.2 e'.2/\Gd e'.2
def iq:Env->Env->Prop
 |[],[]=>True
 |e::l,e'::l'=>RJ e e'/\iq l l'
 |_,_=>False
theorem iq.len:∀{a b:Env},iq a b->a.length=b.length
 |[],[],_=>rfl
 |_::a,_::b,h=>by rw [oG,oG,iq.len h.2]
 |[],_::_,h=>h.elim
 |_::_,[],h=>h.elim
theorem iq.app:∀{a b c d:Env},iq a b->iq c d->iq (a++c) (b++d)
 |[],[],_,_,_,h=>h
 |_::_a,_::_b,_,_,h,g=>⟨h.1,iq.app h.2 g⟩
 |[],_::_,_,_,h,_=>h.elim
 |_::_,[],_,_,h,_=>h.elim
theorem iq.rev:∀{a b:Env},iq a b->iq a.reverse b.reverse
 |[],[],_=>trivial
 |e::a,e'::b,h=>by
  rw [List.reverse_cons,List.reverse_cons]
  exact iq.app (iq.rev h.2) (show iq [e] [e'] from ⟨h.1,trivial⟩)
 |[],_::_,h=>h.elim
 |_::_,[],h=>h.elim
theorem iq.find {s:List UInt8}:∀{a b:Env} {e:ByteArray×List Nd},iq a b->a.find? (fun e=>e.1.toList==s)=some e->∃e',b.find? (fun e=>e.1.toList==s)=some e'/\RJ e e'
 |[],_,_,_,h=>by cases h
 |x::a,[],_,h,_=>h.elim
 |x::a,y::b,e,h,hf=>by
  rw [List.find?_cons] at hf ⊢;rw [<-h.1.1];split at hf
  ·injection hf with hf
   subst hf;exact ⟨y,rfl,h.1⟩
  ·exact iq.find h.2 hf
theorem iq.look {a b:Env} {s:ByteArray} {t:List Nd} (h:iq a b) (hl:l7 a s=some t):∃t',l7 b s=some t'/\Q2 t t'/\Gd t':=by
 unfold l7 at hl ⊢;rw [aaE] at hl;obtain ⟨e,h1,rfl⟩:=hl;obtain ⟨e',h2,h3⟩:=h.rev.find h1;rw [h2];exact ⟨e'.2,rfl,h3.2.1,h3.2.2⟩
theorem iq.one {s:ByteArray} {t t':List Nd} (h:Q2 t t') (g:Gd t'):iq [(s,t)] [(s,t')]:=⟨⟨rfl,h,g⟩,trivial⟩
theorem iq.self:∀{a:Env},(∀e∈a,Gd e.2)->iq a a
 |[],_=>trivial
 |e::a,h=>⟨⟨rfl,Q2.refl _,h e (by simp)⟩,iq.self fun x hx=>h x (by simp [hx])⟩
def j6 {α:Type} (x y:Option α):Prop:=∀r,x=some r->y=some r
theorem j6.refl {α:Type} (x:Option α):j6 x x:=fun _ h=>h
theorem j6.none {α:Type} (y:Option α):j6 none y:=fun _ h=>by cases h
theorem j6.dw {x y:Option fF} {f g:List Nd->Nat->Option fF} (h:j6 x y) (k:∀t c,j6 (f t c) (g t c)):j6 (dw x f) (dw y g):=fun r hr=>by
 match x,h,hr with
 |some (.error b),h,hr=>rw [h _ rfl];exact hr
 |some (.ok (t,c)),h,hr=>rw [h _ rfl];exact k t c r hr
section
variable {nx Uj:Nx} (H:∀env a,j6 (nx env a) (Uj env a))
include H
theorem QU (env:Env):∀s:Am,j6 (Pz nx env s) (Pz Uj env s)
 | .ok a=>H env a
 | .error _=>j6.refl _
theorem LW (es:List Pt) (env:Env):∀(n a:Nat) (fs:List fB),j6 (iG nx es env n a fs) (iG Uj es env n a fs)
 |0,a,fs=>j6.refl _
 |n+1,a,fs=>fun r hr=>by
  unfold iG at hr ⊢;split at hr
  ·cases hr
  ·rename_i x hx
   cases h1:nx env a with
   |none=>rw [h1] at hr;cases hr
   |some y=>
    rw [h1] at hr;rw [H _ _ _ h1]
    match y,hr with
    | .error b,hr=>exact hr
    | .ok (t,b),hr=>exact LW es env n b _ r hr
theorem Jo (es:List Pt) (env:Env) (ot:List Nd):∀(n a:Nat) (ts:List (List Nd)),j6 (fO nx es env ot n a ts) (fO Uj es env ot n a ts)
 |0,a,ts=>j6.refl _
 |n+1,a,ts=>fun r hr=>by
  unfold fO at hr ⊢;split at hr
  ·cases hr
  ·rename_i x hx
   cases h1:nx (env++[(x.bd,(bG ot x.lb).getD [])]) (a+1) with
   |none=>rw [h1] at hr;cases hr
   |some y=>
    rw [h1] at hr;rw [H _ _ _ h1]
    match y,hr with
    | .error b,hr=>exact hr
    | .ok (t,b),hr=>exact Jo es env ot n b _ r hr
theorem abr (es:List Pt) (env:Env) (p:Pt) (aN a:Nat):j6 (gK nx es env p aN a) (gK Uj es env p aN a):=by
 unfold gK;by_cases h0:p.k=0
 ·rw [if_pos h0,if_pos h0]
  exact j6.refl _
 rw [if_neg h0,if_neg h0];by_cases h1:p.k=1
 ·rw [if_pos h1,if_pos h1]
  exact j6.refl _
 rw [if_neg h1,if_neg h1];by_cases h2:p.k=2
 ·rw [if_pos h2,if_pos h2]
  exact j6.dw (H _ _) fun t c=>j6.refl _
 rw [if_neg h2,if_neg h2];by_cases h3:p.k=3
 ·rw [if_pos h3,if_pos h3]
  exact j6.dw (H _ _) fun t c=>j6.dw (H _ _) fun u d=>j6.refl _
 rw [if_neg h3,if_neg h3];by_cases h4:p.k=4
 ·rw [if_pos h4,if_pos h4]
  exact j6.dw (H _ _) fun t c=>QU H _ _
 rw [if_neg h4,if_neg h4];by_cases h5:p.k=5
 ·rw [if_pos h5,if_pos h5]
  exact j6.dw (H _ _) fun t c=>QU H _ _
 rw [if_neg h5,if_neg h5];by_cases h6:p.k=6
 ·rw [if_pos h6,if_pos h6]
  exact j6.dw (H _ _) fun t c=>j6.dw (H _ _) fun u d=>j6.dw (H _ _) fun v e=>j6.refl _
 rw [if_neg h6,if_neg h6];by_cases h7:p.k=7
 ·rw [if_pos h7,if_pos h7]
  unfold rC;by_cases hc:1<=p.mn/\p.mn<=50/\env.length<=900000
  ·rw [if_pos hc,if_pos hc]
   refine j6.dw (H _ _) fun ot b=>?_;intro r hr
   cases FY:nI es ot aN with
   |none=>rw [FY] at hr;cases hr
   |some v=>
    rw [FY] at hr
    cases v with
    |false=>exact hr
    |true=>
     dsimp only at hr ⊢
     cases h1:fO nx es env ot p.mn.toNat b [] with
     |none=>rw [h1] at hr;cases hr
     |some y=>
      rw [h1] at hr;rw [Jo H es env ot _ _ _ _ h1];exact hr
  ·rw [if_neg hc,if_neg hc]
   exact j6.refl _
 rw [if_neg h7,if_neg h7];by_cases h9:p.k=9
 ·rw [if_pos h9,if_pos h9]
  exact j6.dw (H _ _) fun t c=>j6.dw (H _ _) fun u d=>j6.refl _
 rw [if_neg h9,if_neg h9];by_cases h10:p.k=10
 ·rw [if_pos h10,if_pos h10]
  unfold vH;by_cases hc:0<=p.mn/\p.mn<=50
  ·rw [if_pos hc,if_pos hc]
   intro r hr
   cases h1:iG nx es env p.mn.toNat a [] with
   |none=>rw [h1] at hr;cases hr
   |some y=>
    rw [h1] at hr;rw [LW H es env _ _ _ _ h1];exact hr
  ·rw [if_neg hc,if_neg hc]
   exact j6.refl _
 rw [if_neg h10,if_neg h10];by_cases h11:p.k=11
 ·rw [if_pos h11,if_pos h11]
  exact j6.dw (H _ _) fun t c=>j6.refl _
 rw [if_neg h11,if_neg h11];by_cases h12:p.k=12
 ·rw [if_pos h12,if_pos h12]
  exact j6.dw (H _ _) fun t c=>j6.refl _
 rw [if_neg h12,if_neg h12];by_cases jT:p.k=13
 ·rw [if_pos jT,if_pos jT]
  exact j6.dw (H _ _) fun t c=>j6.refl _
 rw [if_neg jT,if_neg jT];by_cases gW:p.k=14
 ·rw [if_pos gW,if_pos gW]
  exact j6.dw (H _ _) fun t c=>j6.refl _
 rw [if_neg gW,if_neg gW];exact j6.refl _
end
def Jp:Option fF->Option fF
 |some (.ok (t,b))=>if Gd t/\t.length<=5000000 then some (.ok (t,b)) else none
 |x=>x
def jC:Nat->List Pt->Nx
 |0,_=>fun _ _=>none
 |f+1,es=>fun env a=>
  match es[a]? with
  |none=>none
  |some p=>if env.length<=900000/\vw p/\Dj p then Jp (gK (jC f es) es env p a (a+1)) else none
theorem Jq:∀(f:Nat) (es:List Pt) (env:Env) (a:Nat),j6 (jC f es env a) (iT f es env a)
 |0,_,_,_=>j6.none _
 |f+1,es,env,a=>fun r hr=>by
  unfold jC at hr;unfold iT;split at hr
  ·cases hr
  ·rename_i p hp
   rw [hp];dsimp only;split at hr
   ·rename_i hc
    rw [if_pos ⟨hc.1,hc.2.1⟩]
    cases hw:gK (jC f es) es env p a (a+1) with
    |none=>rw [hw] at hr;cases hr
    |some y=>
     rw [abr (Jq f es) es env p a (a+1) _ hw];rw [hw] at hr
     match y,hr with
     | .error b,hr=>exact hr
     | .ok (t,b),hr=>
      simp only [Jp] at hr;split at hr
      ·rename_i hg
       simp only [BM];rw [if_pos hg.1];exact hr
      ·cases hr
   ·cases hr
theorem Jr {f:Nat} {es:List Pt} {env:Env} {a:Nat} {t:List Nd} {b:Nat} (h:jC (f+1) es env a=some (.ok (t,b))):∃p,es[a]?=some p/\env.length<=900000/\vw p/\Dj p/\gK (jC f es) es env p a (a+1)=some (.ok (t,b))/\Gd t/\t.length<=5000000:=by
 unfold jC at h;split at h
 ·cases h
 ·rename_i p hp
  split at h
  ·rename_i hc
   refine ⟨p,hp,hc.1,hc.2.1,hc.2.2,?_⟩
   cases hw:gK (jC f es) es env p a (a+1) with
   |none=>rw [hw] at h;cases h
   |some y=>
    rw [hw] at h
    match y,h with
    | .error b,h=>cases h
    | .ok (t2,b2),h=>
     simp only [Jp] at h;split at h
     ·rename_i hg
      injection h with h
      injection h with h
      injection h with h1 h2
      subst h1 h2;exact ⟨rfl,hg⟩
     ·cases h
  ·cases h
end Go.Proofs.YtmjdhfbnmmdjiaaGreat
