/- Laid together by a tool from the texts of this seat: CxAs CxCast CsT PxA PxB PxC. Conditions: each theorem's own. -/
import Derived.Test.YtmjdhfbnmmdjiaaGreatJ20
import Derived.Test.YtmjdhfbnmmdjiaaGreatJ21
import Derived.Test.YtmjdhfbnmmdjiaaGreatJ23
import Derived.Test.YtmjdhfbnmmdjiaaGreatJ26
import Derived.Test.YtmjdhfbnmmdjiaaGreatJ11
set_option maxHeartbeats 8000000
set_option maxRecDepth 100000
namespace Go.Proofs.YtmjdhfbnmmdjiaaGreat
open Go.Lib renaming hid->aD
open _root_.List renaming map_map->S_,length_cons->mX,mem_map->aas,map_cons->Nc,map_congr_left->aaM,map_append->aaF,append_assoc->kE,pairwise_map->aai
open _root_.And renaming intro->Cj
open _root_.Option renaming map_some->aaL,map_eq_some_iff->aaE
open _root_.Nat renaming le_refl->aG,le_trans->Ed
open Go.World renaming cell?->Ck,frozen?->EJ
open _root_.ByteArray renaming empty->bZ
open Go.RowKit
theorem Vw (P:Nat) (es:List Pt) (nx:kP) (HN:Hid (lg P es nx)) (env:Env) (a:Nat) (p:Pt) (r:dV) (Y:Nat->Prop) (w:World) (h:iI P es env a Y w) (hp:es[a]?=some p) (hk:p.k=13) (hal:a<=1000000) (BG:Gd p.T) (BH:p.T.length<=5000000) (hG:∀env a x t b,nx env a=some (x,t,b)->pI x t) (hm:Ym nx env p (a+1)=some r):
  Calls Tryz.prog 53 #[pk P] w (bU P es env Y r w):=by
 have jM:=aD (Cj hm hp);have oI:=aD hk;refine (iG P es env a p r Y w).2 h hp hal ?_;clear h hp hal hm hk;intro eb eo ec TA tc UA uc R B G w4 H4;dsimp only [iG];intro K1 hK1 K2 hK2;obtain ⟨k0,k1,k2,k3,k4,k6,k7⟩:=H4.out.pt.cells;have ji:w4.cell? ⟨B,0,none⟩=some (.int .i64 13):=by rw [k0,oI.out]
 clear k0;obtain ⟨x,t,b,h1,hr⟩:=bH jM.out.1;injection hr with hr
 subst hr;have uL:=aD h1;have Pe:=aD (hG _ _ _ _ _ h1);have Gs:=aD (Cj BG BH);clear h1 BG BH jM;go_upto_region 44 with fail
 obtain ⟨SS,hSS⟩:∃SS:World->Prop,SS=fun v=>v.cell? ⟨B,2,none⟩=some (.string p.nm)/\v.cell? ⟨B,3,none⟩=some (.string p.bd)/\v.cell? ⟨B,6,none⟩=some (.slice TA p.T.length tc)/\v.cell? ⟨B,7,none⟩=some (.slice UA p.U.length uc):=⟨_,rfl⟩;obtain ⟨w5,hwd⟩:∃w5,w5=w4.drew:=⟨_,rfl⟩;have hb:Below w4.heap.size w4 w5:=by rw [hwd];exact (Below.refl _ _).drew
 have H5:=aD (H4.out.later hb);clear hb
 try clear k0 k1 k2 k3 k4 k6 k7
 try clear ji
 try clear k1 k2 k3 k4 k6 k7
 have BK:SS w5:=by rw [hSS];exact ⟨H5.out.pt.cells.2.2.1,H5.out.pt.cells.2.2.2.1,H5.out.pt.cells.2.2.2.2.2.1,H5.out.pt.cells.2.2.2.2.2.2⟩
 refine aI (S:=SS) [6] (by kernel_rfl) (by rw [<-hwd];exact BK) (fun hHeld=>?_);rw [<-hwd] at hHeld ⊢;clear hwd hHeld;refine aL 0 [6] (some 246) rfl rfl ?_;refine aL 2 [6] (some 248) rfl rfl ?_;refine aL 3 [6] (some 249) rfl rfl ?_;have HX:=aD (HN.out env (a+1) (x,t,b) Y w5 uL.out H5.out.wk);unfold pk at HX;refine bD 1 (some 247) rfl rfl (by kernel_rfl) (by rfl) (by go_simp) HX.out ?_;rintro e w6 ⟨Y6,hf,hy,hkk,A6,c6,T6,d6,rfl,hx,ht,hA⟩;clear HX;have H6:=aD (H5.out.step hf hy hkk);have HV:Hid (bP w6 Y6 A6 c6 x/\aA w6 Y6 T6 d6 t/\∀a,A6=some a->w.heap.size<=a.block):=aD ⟨hx,ht,fun a ha=>Ed H5.out.fr.size (hA a ha)⟩;clear hf hy hkk hx ht hA;have sc6:SS w6:=by rw [hSS];exact ⟨H6.out.pt.cells.2.2.1,H6.out.pt.cells.2.2.2.1,H6.out.pt.cells.2.2.2.2.2.1,H6.out.pt.cells.2.2.2.2.2.2⟩
 refine ⟨_,rfl,sc6,?_⟩;refine aC ?_;have HX:=aD (iq A6 c6 x T6 d6 t TA tc p.T Y6 w6 HV.out.1 Pe.out.ne HV.out.2.1 H6.out.pt.T Pe.out.pJ (nG Gs.out.1) H6.out.wk.lt Pe.out.len Pe.out.tl Gs.out.2);refine bD 4 (some 250) rfl rfl (by kernel_rfl) (by rfl) (by go_simp) HX.out ?_;rintro e w7 ⟨hb,E7,e7,rfl,hxe⟩;clear HX;have H7:=aD (H6.out.later hb);have HE7:Hid (bP w7 Y6 E7 e7 (toM x t p.T)):=aD hxe;clear hb hxe;have Rb:SS w7:=by rw [hSS];exact ⟨H7.out.pt.cells.2.2.1,H7.out.pt.cells.2.2.2.1,H7.out.pt.cells.2.2.2.2.2.1,H7.out.pt.cells.2.2.2.2.2.2⟩
 refine ⟨_,rfl,Rb,?_⟩;refine aC ?_;obtain ⟨vs,hrd,hpm,hcp⟩:=HE7.out;have Je:=aD hpm.1
 have zR:vs≠[]:=fun e=>by
  have h5:=hpm.1;rw [e] at h5;exact aaP Pe.out.ne (List.eq_nil_of_length_eq_zero h5.symm)
 have uK:=aD (xZ E7 e7 vs w7 hrd.read zR (by rw [hpm.1];have h5:=Pe.out.len;have h6:=bS x t p.T;omega));rw [Je.out] at uK;have BI:=aD (Cj hpm zR);clear hrd hpm hcp zR;have HX:=aD (uK.out);refine bD 5 (some 251) rfl rfl (by kernel_rfl) (by rfl) (by go_simp) HX.out ?_;rintro e w8 ⟨A9,c9,rfl,hown,hb⟩;clear HX;have H8:=aD (H7.out.later hb);have Ji:Hid (gV w8 w7.heap.size A9 c9 vs/\dO w8 Y6 vs (toM x t p.T)):=aD ⟨hown,BI.out.1.fr (Fr.below hb) (ah.refl _ _)⟩;clear hown hb;have Gu:SS w8:=by rw [hSS];exact ⟨H8.out.pt.cells.2.2.1,H8.out.pt.cells.2.2.2.1,H8.out.pt.cells.2.2.2.2.2.1,H8.out.pt.cells.2.2.2.2.2.2⟩
 refine ⟨_,rfl,Gu,?_⟩;refine aC ?_;refine bB 6 (some 25) (v:=.slice A9 (toM x t p.T).length c9) rfl rfl (by kernel_rfl) (by rfl) (by go_simp;first|with_reducible rfl|(constructor<;>with_reducible rfl)) (zL (by kernel_rfl)) ?_;refine aC ?_;refine bG (by kernel_rfl) ?_ _;obtain ⟨v0,vt,hvs⟩:=List.exists_cons_of_ne_nil BI.out.2;have OH:=aD hvs;have hown0:gV w8 w7.heap.size A9 c9 (v0::vt):=by rw [<-hvs];exact Ji.out.1
 obtain ⟨g9,Ql,sJ,_,_,_⟩:=aB.form hown0 (by simp);subst Ql;obtain ⟨l1,l2,l3⟩:=aB.Yd hown0 p.lb;have HL3:=aD l3;have hgo:iE w8 g9 33:=aB.qK hown0 rfl;have hgz:w.heap.size<=g9:=Ed H7.out.fr.size sJ;have QM:=aD (Cj hgo hgz);have hl0:0<(toM x t p.T).length:=by rw [<-Je.out,hvs];simp
 clear hvs hown0 l3 hgo;obtain ⟨k0,k1,k2,k3,k4,k6,k7⟩:=H8.out.pt.cells;go_upto_region 46 with fail
 obtain ⟨w9,hw⟩:∃w9,w9=w8.setCell ⟨g9,1,none⟩ (.string p.lb):=⟨_,rfl⟩;rw [<-hw] at HL3 ⊢;have hfg:Fr (fun q=>q=g9) w8 w9:=by rw [hw];exact dY _ _ _ _
 have wB:Hid (g_ w8 w9 33 Y6):=aD ⟨hfg.os,hfg.tape,hfg.output,hfg.size,fun i hi ho=>hfg.block i hi fun e=>ho ⟨by rw [e];exact QM.out.1,fun h5=>by have h6:=h5 P H8.out.wk.yP;have h7:=H8.out.pr;have h8:=QM.out.2;omega⟩⟩;have HZ:Hid (iI P es env b Y6 w9/\aS w9 Y6 R #[.slice none 0 0,.slice none 0 0] 65/\Fr Y w w9/\aA w9 Y6 TA tc p.T):=aD ⟨H8.out.wk.eX wB.out,H8.out.res.eX wB.out (by decide),H8.out.fr.new hfg fun b e=>.inr (by rw [e];exact QM.out.2),H8.out.pt.T.bW wB.out (by decide)⟩
 have HXv:Hid (bP w9 Y6 (some ⟨g9,0,none⟩) c9 (gP p.lb (toM x t p.T))/\(gP p.lb (toM x t p.T)).length=(toM x t p.T).length):=aD (by
  have hpm:=Ji.out.2.bW wB.out (by decide:33≠49);rw [OH.out] at hpm;have hcap:=aB.l7 HL3.out;generalize toM x t p.T=z at hpm ⊢
  cases z with
  |nil=>have h5:=hpm.1;simp at h5
  |cons z0 zt=>
   have k0:=hpm.2 0 v0 z0 rfl rfl;refine ⟨⟨_,uJ.own HL3.out (fun q hq=>Nat.lt_of_lt_of_le (H7.out.wk.lt q hq) (aG _)),dO.cons ⟨k0.k,rfl,k0.nm,k0.bd,k0.mn,k0.num,k0.tn,k0.un,k0.T,k0.U⟩ ⟨by have h5:=hpm.1;simpa using h5,fun i u q hu hq=>hpm.2 (i+1) u q hu hq⟩,?_⟩,rfl⟩;have h5:=hpm.1;simp only [gP,mX] at h5 hcap ⊢;omega)
 have HPt:=aD (aO.ajc H8.out.pt hfg wB.out (by have h5:=H7.out.pt.lt;omega));clear hw hfg l1 l2
 try clear k0 k1 k2 k3 k4 k6 k7
 obtain ⟨k0,k1,k2,k3,k4,k6,k7⟩:=HPt.out.cells;have hR:=HZ.out.2.1;have r0:w9.cell? ⟨R,0,none⟩=some (.slice none 0 0):=by simp [Ck,hR.blk]
 have r1:w9.cell? ⟨R,1,none⟩=some (.slice none 0 0):=by simp [Ck,hR.blk]
 have qQ:w9.frozen? ⟨R,0,none⟩=false:=by simp [EJ,hR.blk]
 have qR:w9.frozen? ⟨R,1,none⟩=false:=by simp [EJ,hR.blk]
 clear hR;have HE:=aD (yA (r:=(gP p.lb (toM x t p.T),p.T,b)) (TX:=TA) (tx:=tc) HZ.out.2.2.1 H8.out.yn HZ.out.1 HZ.out.2.1 H8.out.pr H8.out.rw HXv.out.1 HZ.out.2.2.2 (by intro a ha;injection ha with ha;rw [<-ha];exact QM.out.2));go_wp2_with fail;obtain ⟨wy,bN⟩:∃wy,wy=set2 w9 R (.slice (some ⟨g9,0,none⟩) ((gP p.lb (toM x t p.T)):List Pt).length c9) (.slice TA (p.T:List Nd).length tc):=⟨_,rfl⟩;have HE2:Hid (bU P es env Y ((gP p.lb (toM x t p.T)),p.T,b) w (.returned (.agg #[.slice (some ⟨g9,0,none⟩) ((gP p.lb (toM x t p.T)):List Pt).length c9,.slice TA (p.T:List Nd).length tc])) wy/\wy.cell? ⟨R,0,none⟩=some (.slice (some ⟨g9,0,none⟩) ((gP p.lb (toM x t p.T)):List Pt).length c9)/\wy.cell? ⟨R,1,none⟩=some (.slice TA (p.T:List Nd).length tc)):=aD (by rw [bN];exact HE.out);unfold set2 at bN;rw [HXv.out.2] at bN;rw [<-bN];have q0:=HE2.out.2.1;have q1:=HE2.out.2.2;refine bodyPost_ret (v:=.agg #[.slice (some ⟨g9,0,none⟩) ((gP p.lb (toM x t p.T)):List Pt).length c9,.slice TA (p.T:List Nd).length tc]) (by simp [results,Tryz.results53,go_sem,q0,q1]) rfl HE2.out.1
theorem Pf (P:Nat) (es:List Pt) (nx:kP) (HN:Hid (lg P es nx)) (env:Env) (a:Nat) (p:Pt) (r:dV) (Y:Nat->Prop) (w:World) (h:iI P es env a Y w) (hp:es[a]?=some p) (hk:p.k=14) (hal:a<=1000000) (hG:∀env a x t b,nx env a=some (x,t,b)->pI x t) (hm:wE nx env p (a+1)=some r):
  Calls Tryz.prog 53 #[pk P] w (bU P es env Y r w):=by
 have jM:=aD (Cj hm hp);have oI:=aD hk;refine (iG P es env a p r Y w).2 h hp hal ?_;clear h hp hal hm hk;intro eb eo ec TA tc UA uc R B G w4 H4;dsimp only [iG];intro K1 hK1 K2 hK2;obtain ⟨k0,k1,k2,k3,k4,k6,k7⟩:=H4.out.pt.cells;have ji:w4.cell? ⟨B,0,none⟩=some (.int .i64 14):=by rw [k0,oI.out]
 clear k0;obtain ⟨x,t,b,h1,hr⟩:=bH jM.out.1;have hgx:=hG _ _ _ _ _ h1;injection hr with hr
 subst hr;have uL:=aD h1;have Pe:=aD hgx;clear h1 hgx jM;go_upto_region 47 with fail
 obtain ⟨SS,hSS⟩:∃SS:World->Prop,SS=fun v=>v.cell? ⟨B,2,none⟩=some (.string p.nm)/\v.cell? ⟨B,3,none⟩=some (.string p.bd)/\v.cell? ⟨B,6,none⟩=some (.slice TA p.T.length tc)/\v.cell? ⟨B,7,none⟩=some (.slice UA p.U.length uc):=⟨_,rfl⟩;obtain ⟨w5,hwd⟩:∃w5,w5=w4.drew:=⟨_,rfl⟩;have hb:Below w4.heap.size w4 w5:=by rw [hwd];exact (Below.refl _ _).drew
 have H5:=aD (H4.out.later hb);clear hb
 try clear k0 k1 k2 k3 k4 k6 k7
 try clear ji
 try clear k1 k2 k3 k4 k6 k7
 have BK:SS w5:=by rw [hSS];exact ⟨H5.out.pt.cells.2.2.1,H5.out.pt.cells.2.2.2.1,H5.out.pt.cells.2.2.2.2.2.1,H5.out.pt.cells.2.2.2.2.2.2⟩
 refine aI (S:=SS) [8] (by kernel_rfl) (by rw [<-hwd];exact BK) (fun hHeld=>?_);rw [<-hwd] at hHeld ⊢;clear hwd hHeld;refine aL 0 [8] (some 261) rfl rfl ?_;refine aL 1 [8] (some 262) rfl rfl ?_;refine aL 5 [8] (some 266) rfl rfl ?_;refine aL 6 [8] (some 267) rfl rfl ?_;have HX:=aD (HN.out env (a+1) (x,t,b) Y w5 uL.out H5.out.wk);unfold pk at HX;refine bD 2 (some 263) rfl rfl (by kernel_rfl) (by rfl) (by go_simp) HX.out ?_;rintro e w6 ⟨Y6,hf,hy,hkk,A6,c6,T6,d6,rfl,hx,ht,hA⟩;clear HX;have H6:=aD (H5.out.step hf hy hkk);have HV:Hid (bP w6 Y6 A6 c6 x/\aA w6 Y6 T6 d6 t/\∀a,A6=some a->w.heap.size<=a.block):=aD ⟨hx,ht,fun a ha=>Ed H5.out.fr.size (hA a ha)⟩;clear hf hy hkk hx ht hA;have sc6:SS w6:=by rw [hSS];exact ⟨H6.out.pt.cells.2.2.1,H6.out.pt.cells.2.2.2.1,H6.out.pt.cells.2.2.2.2.2.1,H6.out.pt.cells.2.2.2.2.2.2⟩
 refine ⟨_,rfl,sc6,?_⟩;refine aC ?_;refine aL 3 [8] (some 264) (v:=.slice A6 x.length c6) rfl rfl (hy:=fun v _=>by kernel_rfl) ?_;obtain ⟨vs,hrd,hpm,hcp⟩:=HV.out.1;have Je:=aD hpm.1;have BI:=aD (Cj hrd.read hpm);clear hrd hpm hcp;refine dQ 4 rfl (by kernel_rfl) (by rfl) ?_;refine Gq (.tmp 261) (.tmp 264) rfl w.heap.size (m:=1) (n:=(x:List Pt).length) (l:=[⟨p.k,p.lb,p.nm,p.bd,p.mn,p.num,TA,p.T.length,tc,UA,p.U.length,uc⟩]) rfl rfl H6.out.own (l2:=vs) Je.out rfl BI.out.1 (k:=(x:List Pt).length+1) (by omega) (by have:=Pe.out.len;omega) H6.out.fr.size ?_;intro A7 c7 w7 hown hg hd;have jv:=aD (H6.out.app BI.out.2 hown hg hd);clear hown hg hd;have Rb:SS w7:=by rw [hSS];exact ⟨jv.out.2.2.2.2.1.cells.2.2.1,jv.out.2.2.2.2.1.cells.2.2.2.1,jv.out.2.2.2.2.1.cells.2.2.2.2.2.1,jv.out.2.2.2.2.1.cells.2.2.2.2.2.2⟩
 have Yt:Hid (aA w7 Y6 UA uc p.U):=aD ((H6.out.pt.U).bW jv.out.1 (by decide));refine ⟨fun _=>Rb,?_⟩;refine aC ?_;refine aL 7 [8] (some 268) rfl rfl ?_;have hR:=jv.out.2.2.2.1;have r0:w7.cell? ⟨R,0,none⟩=some (.slice none 0 0):=by simp [Ck,hR.blk]
 have r1:w7.cell? ⟨R,1,none⟩=some (.slice none 0 0):=by simp [Ck,hR.blk]
 have qQ:w7.frozen? ⟨R,0,none⟩=false:=by simp [EJ,hR.blk]
 have qR:w7.frozen? ⟨R,1,none⟩=false:=by simp [EJ,hR.blk]
 clear hR;refine je 8 none (w':=?_) rfl rfl (by kernel_rfl) (by rfl) ?_ (zL (by kernel_rfl)) ?_
 rotate_left
 ·(go_simp;try with_reducible rfl)
 refine aC ?_;refine bG (by kernel_rfl) ?_ _;have HE:=aD (yA (r:=(p::x,p.U,b)) (TX:=UA) (tx:=uc) jv.out.2.2.2.2.2.1 H6.out.yn jv.out.2.2.1 jv.out.2.2.2.1 H6.out.pr H6.out.rw jv.out.2.2.2.2.2.2.1 (Yt.out) jv.out.2.2.2.2.2.2.2);go_wp2_with fail;obtain ⟨wy,bN⟩:∃wy,wy=set2 w7 R (.slice A7 ((p::x):List Pt).length c7) (.slice UA (p.U:List Nd).length uc):=⟨_,rfl⟩;have HE2:Hid (bU P es env Y ((p::x),p.U,b) w (.returned (.agg #[.slice A7 ((p::x):List Pt).length c7,.slice UA (p.U:List Nd).length uc])) wy/\wy.cell? ⟨R,0,none⟩=some (.slice A7 ((p::x):List Pt).length c7)/\wy.cell? ⟨R,1,none⟩=some (.slice UA (p.U:List Nd).length uc)):=aD (by rw [bN];exact HE.out);unfold set2 at bN
 first|rw [<-bN]|(rw [mX] at bN;rw [<-bN])
 have q0:=HE2.out.2.1;have q1:=HE2.out.2.2;refine bodyPost_ret (v:=.agg #[.slice A7 ((p::x):List Pt).length c7,.slice UA (p.U:List Nd).length uc]) (by simp [results,Tryz.results53,go_sem,q0,q1]) rfl HE2.out.1
instance (x:List Pt) (t:List Nd):Decidable (pI x t):=
 if h:x≠[]/\x.length<=100000/\Gd t/\t.length<=5000000 then isTrue ⟨h.1,h.2.1,h.2.2.1,h.2.2.2⟩
 else isFalse fun g=>h ⟨g.ne,g.len,g.gd,g.tl⟩
def yQ (p:Pt):Prop:=((p.k=2\/p.k=4\/p.k=5\/p.k=12\/p.k=13)->Gd p.T/\p.T.length<=5000000)/\(p.k=5->Gd p.U/\p.U.length<=5000000)
instance (p:Pt):Decidable (yQ p):=inferInstanceAs (Decidable (_/\_))
def dG (nx:kP) (es:List Pt) (env:Env) (p:Pt) (a:Nat):Option dV:=
 if p.k=0 then OQ p a else
 if p.k=1 then Ap env p a else
 if p.k=2 then Gj nx env p a else
 if p.k=3 then yB nx env p a else
 if p.k=4 then Gl nx env p a else
 if p.k=5 then Gm nx env p a else
 if p.k=6 then Aq nx env p a else
 if p.k=7 then uQ nx es env p a else
 if p.k=9 then Q7 nx env p a else
 if p.k=10 then uP nx es env p a else
 if p.k=11 then Gn nx env p a else
 if p.k=12 then Gp nx env p a else
 if p.k=13 then Ym nx env p a else
 if p.k=14 then wE nx env p a else none
def Ie:Option dV->Option dV
 |some (x,t,b)=>if pI x t then some (x,t,b) else none
 |none=>none
def cst:Nat->List Pt->kP
 |0,_=>fun _ _=>none
 |f+1,es=>fun env a=>
  match es[a]? with
  |none=>none
  |some p=>if env.length<=900000/\yQ p then Ie (dG (cst f es) es env p (a+1)) else none
theorem Vx {x:Option dV} {y:List Pt} {t:List Nd} {b:Nat} (h:Ie x=some (y,t,b)):x=some (y,t,b)/\pI y t:=by
 match x,h with
 |some (y2,t2,b2),h=>
  simp only [Ie] at h;split at h
  ·rename_i hg
   injection h with h
   injection h with h1 h2
   injection h2 with h2 h3
   subst h1 h2 h3;exact ⟨rfl,hg⟩
  ·cases h
theorem vJ {f:Nat} {es:List Pt} {env:Env} {a:Nat} {y:List Pt} {t:List Nd} {b:Nat} (h:cst (f+1) es env a=some (y,t,b)):∃p,es[a]?=some p/\env.length<=900000/\yQ p/\dG (cst f es) es env p (a+1)=some (y,t,b)/\pI y t:=by
 unfold cst at h;split at h
 ·cases h
 ·rename_i p hp
  split at h
  ·rename_i hc
   obtain ⟨h1,h2⟩:=Vx h;exact ⟨p,hp,hc.1,hc.2,h1,h2⟩
  ·cases h
theorem BP:∀(f:Nat) (es:List Pt) (env:Env) (a:Nat) (x:List Pt) (t:List Nd) (b:Nat),cst f es env a=some (x,t,b)->pI x t
 |0,_,_,_,_,_,_,h=>by cases h
 |f+1,es,env,a,x,t,b,h=>by
  obtain ⟨p,_,_,_,_,h2⟩:=vJ h;exact h2
theorem Ig (es:List Pt) (hok:dZ es) (P:Nat):∀f:Nat,lg P es (cst f es)
 |0=>fun env a r Y w h=>by cases h
 |f+1=>fun env a r Y w h hw=>by
  have HN:Hid (lg P es (cst f es)):=aD (Ig es hok P f);have hG:=BP f es;obtain ⟨x,t,b⟩:=r;obtain ⟨p,hp,hv,hx,hm,_⟩:=vJ h
  have hal:a<=1000000:=by
   obtain ⟨EA,ec,VA,vc,bs,hm1⟩:=hw;have:=hm1.el;have:=aU hp;omega
  unfold dG at hm;by_cases h0:p.k=0
  ·rw [if_pos h0] at hm
   exact Q9 P es _ HN env a p _ Y w hw hp h0 hal hm
  rw [if_neg h0] at hm;by_cases h1:p.k=1
  ·rw [if_pos h1] at hm
   exact OV P es _ HN env a p _ Y w hw hp h1 hal hm
  rw [if_neg h1] at hm;by_cases h2:p.k=2
  ·rw [if_pos h2] at hm
   obtain ⟨g1,g2⟩:=hx.1 (by omega);exact Ra P es _ HN env a p _ Y w hw hp h2 hal hv g1 g2 hG hm
  rw [if_neg h2] at hm;by_cases h3:p.k=3
  ·rw [if_pos h3] at hm
   exact Rh P es _ HN env a p _ Y w hw hp h3 hal hG hm
  rw [if_neg h3] at hm;by_cases h4:p.k=4
  ·rw [if_pos h4] at hm
   obtain ⟨g1,g2⟩:=hx.1 (by omega);exact Ri P es _ HN env a p _ Y w hw hp h4 hal hv g1 g2 hG hm
  rw [if_neg h4] at hm;by_cases h5:p.k=5
  ·rw [if_pos h5] at hm
   obtain ⟨g1,g2⟩:=hx.1 (by omega);obtain ⟨g3,g4⟩:=hx.2 h5;exact Rj P es _ HN env a p _ Y w hw hp h5 hal hv g1 g2 g3 g4 hG hm
  rw [if_neg h5] at hm;by_cases h6:p.k=6
  ·rw [if_pos h6] at hm
   exact Vn P es _ HN env a p _ Y w hw hp h6 hal hG hm
  rw [if_neg h6] at hm;by_cases h7:p.k=7
  ·rw [if_pos h7] at hm
   exact Pb P es _ HN env a p _ Y w hw hp h7 hal hv hok hG hm
  rw [if_neg h7] at hm;by_cases h9:p.k=9
  ·rw [if_pos h9] at hm
   exact Vu P es _ HN env a p _ Y w hw hp h9 hal hG hm
  rw [if_neg h9] at hm;by_cases h10:p.k=10
  ·rw [if_pos h10] at hm
   exact Pd P es _ HN env a p _ Y w hw hp h10 hal hG hm
  rw [if_neg h10] at hm;by_cases h11:p.k=11
  ·rw [if_pos h11] at hm
   exact RX P es _ HN env a p _ Y w hw hp h11 hal hG hm
  rw [if_neg h11] at hm;by_cases h12:p.k=12
  ·rw [if_pos h12] at hm
   obtain ⟨g1,g2⟩:=hx.1 (by omega);exact RY P es _ HN env a p _ Y w hw hp h12 hal g1 g2 hG hm
  rw [if_neg h12] at hm;by_cases pG:p.k=13
  ·rw [if_pos pG] at hm
   obtain ⟨g1,g2⟩:=hx.1 (by omega);exact Vw P es _ HN env a p _ Y w hw hp pG hal g1 g2 hG hm
  rw [if_neg pG] at hm;by_cases rQ:p.k=14
  ·rw [if_pos rQ] at hm
   exact Pf P es _ HN env a p _ Y w hw hp rQ hal hG hm
  rw [if_neg rQ] at hm
  cases hm
theorem zi (x:Nd):(gL x).k=x.k:=by unfold gL;split<;>rfl
theorem Dn (x:Nd):(gL x).s=x.s:=by unfold gL;split<;>rfl
theorem og {x:Nd} (h:x.k≠0):gL x=x:=by unfold gL;rw [if_neg h]
theorem MJ (x:Nd):gL (gL x)=gL x:=by
 by_cases h:x.k=0
 ·unfold gL;rw [if_pos h];simp [h]
 ·rw [og h,og h]
theorem Ay (n:Int):many 0 n=0:=by unfold many;simp [bK]
theorem uR (x:Nd):manyN (gL x)=manyN x:=by
 by_cases h:x.k=0
 ·unfold manyN
  rw [zi,h,Ay,Ay]
 ·rw [og h]
theorem jc (x:Nd) (xs:List Nd):aH (x::xs)=gL x::aH xs:=rfl
theorem rT (xs ys:List Nd):aH (xs++ys)=aH xs++aH ys:=aaF
theorem Jj (t:List Nd):aH (aH t)=aH t:=by
 unfold aH;rw [S_];exact aaM fun x _=>MJ x
theorem zk:∀(xs:List Nd) (n:Nat),skip (aH xs) n=(skip xs n).map aH
 |xs,0=>by rw [iL,iL];rfl
 |[],n+1=>by rw [show aH []=[] from rfl,uX];rfl
 |x::xs,n+1=>by rw [jc,jq,jq,uR];exact zk xs _
theorem wF (xs:List Nd):cZ (aH xs)=aH (cZ xs):=by
 unfold cZ;rw [zk]
 cases skip xs 1<;>rfl
theorem Az (xs:List Nd):nk (aH xs)=aH (nk xs):=by
 unfold nk;rw [wF,jE,jE];exact (List.map_take ..).symm
theorem BQ:∀(N n:Nat) (xs ys:List Nd),xs.length<=N->met n (aH xs) (aH ys)=(met n xs ys).map aH
 |_,0,xs,ys,_=>by rw [jk,jk];rfl
 |N,n+1,[],ys,_=>by unfold met;simp [sG,aH]
 |N,n+1,x::xt,[],_=>by unfold met;simp [sG,aH]
 |0,n+1,x::xt,y::yt,h=>by simp at h
 |N+1,n+1,x::xt,y::yt,h=>by
  have hl:xt.length<=N:=by simpa using h
  have hr:=u6 x xt;rw [jc,jc,jJ,jJ,<-jc,<-jc,wF,wF,Az,Az,zi,zi,Dn,Dn,uR,BQ N n _ _ (by omega),BQ N (manyN x+n) xt yt hl];by_cases h1:x.s≠y.s
  ·rw [if_pos h1,if_pos h1];rfl
  rw [if_neg h1,if_neg h1];by_cases h2:x.k=0\/y.k=0
  ·rw [if_pos h2,if_pos h2]
   cases met n (cZ (x::xt)) (cZ (y::yt)) with
   |none=>rfl
   |some r=>
    simp only [aaL];split<;>simp [rT]
  rw [if_neg h2,if_neg h2];have h3:x.k≠0/\y.k≠0:=⟨fun e=>h2 (.inl e),fun e=>h2 (.inr e)⟩;rw [og h3.1,og h3.2];by_cases h4:x.k≠y.k\/x.n≠y.n
  ·rw [if_pos h4,if_pos h4];rfl
  rw [if_neg h4,if_neg h4]
  cases met (manyN x+n) xt yt with
  |none=>rfl
  |some r=>simp [jc,og h3.1]
theorem vK:∀(N n:Nat) (xs:List Nd),xs.length<=N->Fo n xs->met n xs xs=some xs
 |_,0,xs,_,h=>by rw [jk,h.jy]
 |N,n+1,[],_,h=>absurd h.pos (by simp)
 |0,n+1,x::xt,h,_=>by simp at h
 |N+1,n+1,x::xt,h,hf=>by
  have hl:xt.length<=N:=by simpa using h
  rw [jJ,if_neg (by simp)];by_cases h0:x.k=0
  ·obtain ⟨t1,p1,e1,f1,g1⟩:=hf.first
   have ht:=f1.pos
   have hp:p1.length<=N:=by
    have:=congrArg List.length e1;simp at this;omega
   rw [if_pos (.inl h0),if_pos h0,e1,iN f1,lV f1,vK N n p1 hp g1];rfl
  ·rw [if_neg (by simp [h0]),if_neg (by simp)]
   have h2:Fo (manyN x+n) xt:=by
    obtain ⟨ks,rs,e,f1,f2⟩:=hf.za;rw [e];exact f1.append f2
   rw [vK N (manyN x+n) xt hl h2];rfl
def Q2 (t u:List Nd):Prop:=aH t=aH u
theorem Q2.refl (t:List Nd):Q2 t t:=rfl
theorem Q2.symm {t u:List Nd} (h:Q2 t u):Q2 u t:=Eq.symm h
theorem Q2.trans {t u v:List Nd} (h:Q2 t u) (k:Q2 u v):Q2 t v:=Eq.trans h k
theorem Q2.Zx (t:List Nd):Q2 t (aH t):=(Jj t).symm
theorem Q2.len {t u:List Nd} (h:Q2 t u):t.length=u.length:=by
 have:=congrArg List.length h
 rwa [jE,jE] at this
theorem rZ (t:List Nd):(aQ (aH t)).k=(aQ t).k/\(aQ (aH t)).s=(aQ t).s:=by
 cases t with
 |nil=>exact ⟨rfl,rfl⟩
 |cons x xs=>exact ⟨zi x,Dn x⟩
theorem Q2.k {t u:List Nd} (h:Q2 t u):(aQ t).k=(aQ u).k:=by rw [<-(rZ t).1,<-(rZ u).1,h]
theorem Q2.s {t u:List Nd} (h:Q2 t u):(aQ t).s=(aQ u).s:=by rw [<-(rZ t).2,<-(rZ u).2,h]
theorem Q2.fo {t u:List Nd} {n:Nat} (h:Q2 t u) (k:Fo n t):Fo n u:=by
 unfold Fo at k ⊢;have h1:=zk t n;rw [k,h,zk] at h1
 cases hs:skip u n with
 |none=>rw [hs] at h1;cases h1
 |some r=>
  rw [hs] at h1;simp only [aaL,Option.some.injEq] at h1
  cases r with
  |nil=>rfl
  |cons x xs=>cases h1
theorem Q2.gd {t u:List Nd} (h:Q2 t u) (g:Gd t) (k:bI u):Gd u:=⟨k,h.fo g.fo,by rw [<-h.s];exact g.s,by rw [<-h.len];exact g.len⟩
theorem TN {t:List Nd} (g:Gd t):Gd (aH t):=(Q2.Zx t).gd g fun x hx=>by
 obtain ⟨y,hy,rfl⟩:=aas.1 hx;have h:=g.ok y hy;unfold gL;split
 ·rename_i h0
  simp [dR,h0]
 ·exact h
theorem same_iff {t u:List Nd}:mE t u=true↔Q2 t u:=by
 unfold mE Q2;rw [decide_eq_true_eq];exact Iff.rfl
theorem Q2.met {n:Nat} {t t' u u' m:List Nd} (h:Q2 t t') (k:Q2 u u') (hm:met n t u=some m):∃m',Go.Proofs.YtmjdhfbnmmdjiaaGreat.met n t' u'=some m'/\Q2 m m':=by
 have h1:=BQ t.length n t u (aG _);have h2:=BQ t'.length n t' u' (aG _);rw [<-h,<-k,h1,hm] at h2
 cases hm2:Go.Proofs.YtmjdhfbnmmdjiaaGreat.met n t' u' with
 |none=>rw [hm2] at h2;cases h2
 |some m'=>
  rw [hm2] at h2;simp only [aaL,Option.some.injEq] at h2;exact ⟨m',rfl,h2⟩
theorem Q2.ag {t t' u u':List Nd} (h:Q2 t t') (k:Q2 u u') (ha:jA t u=true):jA t' u'=true:=by
 unfold jA at ha ⊢;obtain ⟨m,hm⟩:=Option.isSome_iff_exists.1 ha;obtain ⟨m',h1,_⟩:=h.met k hm;rw [h1];rfl
theorem Q2.Dp {t u:List Nd} (h:Q2 t u) (hf:Fo 1 t):∃m,Go.Proofs.YtmjdhfbnmmdjiaaGreat.met 1 t u=some m/\Q2 t m:=
 (Q2.refl t).met h (vK t.length 1 t (aG _) hf)
theorem Q2.oZ {t u:List Nd} (h:Q2 t u) (hf:Fo 1 t):jA t u=true:=by
 obtain ⟨m,hm,_⟩:=h.Dp hf;unfold jA;rw [hm];rfl
theorem Q2.arrow {t t' u u':List Nd} (h:Q2 t t') (k:Q2 u u'):Q2 (aW t u) (aW t' u'):=by
 unfold Q2 aW;rw [jc,jc,rT,rT,h,k]
theorem Ee:∀(n:Nat) (xs:List Nd),dM n (aH xs)=(dM n xs).map aH
 |0,_=>rfl
 |n+1,xs=>by
  show nk (aH xs)::dM n (cZ (aH xs))=aH (nk xs)::(dM n (cZ xs)).map aH;rw [Az,wF,Ee n]
theorem qm (t:List Nd):gN (aH t)=(gN t).map aH:=by
 cases t with
 |nil=>rfl
 |cons x xt=>
  show dM (manyN (gL x)) (aH xt)=_;rw [uR,Ee];rfl
theorem qp (t:List Nd):kV (aH t)=aH (kV t):=by
 cases t with
 |nil=>rfl
 |cons x xt=>
  show (gL x).name bZ::aH xt=gL (x.name bZ)::aH xt;unfold gL Nd.name;by_cases h:x.k=0
  ·rw [if_pos h,if_pos h]
  ·rw [if_neg h,if_neg h]
theorem wG (l:List (List Nd)):(l.map aH).headD []=aH (l.headD []):=by cases l<;>rfl
theorem Q2.call {t t' a b:List Nd} (h:Q2 t t') (hc:iQ t=some (a,b)):∃a' b',iQ t'=some (a',b')/\Q2 a a'/\Q2 b b':=by
 unfold iQ at hc ⊢;rw [<-h.k];split at hc
 ·rename_i h0
  injection hc with hc
  injection hc with h1 h2
  subst h1 h2;rw [if_pos h0];exact ⟨_,_,rfl,rfl,rfl⟩
 ·rename_i h0
  split at hc
  ·rename_i h5
   injection hc with hc
   injection hc with h1 h2
   subst h1 h2;rw [if_neg h0,if_pos h5];have hk:(gN t).map aH=(gN t').map aH:=by rw [<-qm,<-qm,h]
   refine ⟨_,_,rfl,?_,?_⟩
   ·show aH _=aH _
    rw [<-qp,<-qp,<-wG,<-wG,hk]
   ·show aH _=aH _
    rw [<-qp,<-qp,<-wG,<-wG,List.map_tail,List.map_tail,hk]
  ·cases hc
theorem Dq (s:List UInt8):∀(l:List (List Nd)),(l.map aH).find? (fun ts=>(aQ ts).s.toList==s)=(l.find? fun ts=>(aQ ts).s.toList==s).map aH
 |[]=>rfl
 |x::l=>by
  rw [Nc,List.find?_cons,List.find?_cons,(rZ x).2];split
  ·rfl
  ·exact Dq s l
theorem Q2.field {t t' u:List Nd} {s:ByteArray} (h:Q2 t t') (hc:bJ t s=some u):∃u',bJ t' s=some u'/\Q2 u u':=by
 unfold bJ at hc ⊢;rw [<-h.k];split at hc
 ·rename_i h0
  injection hc with hc
  subst hc;rw [if_pos h0];exact ⟨_,rfl,rfl⟩
 ·rename_i h0
  split at hc
  ·rename_i h5
   rw [if_neg h0,if_pos h5];rw [aaE] at hc;obtain ⟨ts,h1,rfl⟩:=hc;have hk:(gN t).map aH=(gN t').map aH:=by rw [<-qm,<-qm,h]
   have h2:=Dq s.toList (gN t);rw [hk,Dq,h1] at h2
   cases h3:(gN t').find? fun ts=>(aQ ts).s.toList==s.toList with
   |none=>rw [h3] at h2;cases h2
   |some us=>
    rw [h3] at h2;simp only [aaL,Option.some.injEq] at h2;refine ⟨kV us,rfl,?_⟩;show aH _=aH _;rw [<-qp,<-qp,h2]
  ·cases hc
theorem Q2.tags {t t':List Nd} (h:Q2 t t'):kI t'=kI t:=by
 unfold kI;rw [<-h.k];have hk:(gN t).map aH=(gN t').map aH:=by rw [<-qm,<-qm,h]
 have hs:∀l:List (List Nd),(l.map aH).map (fun ts=>(aQ ts).s)=l.map fun ts=>(aQ ts).s:=fun l=>by
  rw [S_];exact aaM fun x _=>(rZ x).2
 rw [<-hs (gN t),hk,hs]
theorem RZ (s:ByteArray) (t:List Nd):gZ s (aH t)=aH (gZ s t):=by
 cases t with
 |nil=>rfl
 |cons x xt=>
  show (gL x).name s::aH xt=gL (x.name s)::aH xt;unfold gL Nd.name;by_cases h:x.k=0
  ·rw [if_pos h,if_pos h]
  ·rw [if_neg h,if_neg h]
def vL (fs:List eT):List eT:=fs.map fun p=>(p.1,aH p.2)
theorem Kc (p:eT):∀l:List eT,ou (p.1,aH p.2) (vL l)=vL (ou p l)
 |[]=>rfl
 |q::l=>by
  show ou _ ((q.1,aH q.2)::vL l)=_;unfold ou;dsimp only;split
  ·rfl
  ·rw [Kc p l]
   rfl
theorem Ih:∀(l acc:List eT),(vL l).foldl (fun a p=>ou p a) (vL acc)=vL (l.foldl (fun a p=>ou p a) acc)
 |[],_=>rfl
 |p::l,acc=>by
  show (vL l).foldl _ (ou (p.1,aH p.2) (vL acc))=vL (l.foldl _ (ou p acc));rw [Kc,Ih l]
theorem Ke {k:Int} (hk:k≠0) (fs:List eT):aH (eG k fs)=eG k (vL fs):=by
 unfold eG;rw [jc,og hk];have h1:ow (vL fs)=vL (ow fs):=Ih fs [];rw [h1]
 have h2:∀l:List eT,aH (l.flatMap fun p=>gZ p.1 p.2)=(vL l).flatMap fun p=>gZ p.1 p.2:=fun l=>by
  induction l with
  |nil=>rfl
  |cons p l ih=>
   show aH (gZ p.1 p.2++l.flatMap _)=gZ p.1 (aH p.2)++(vL l).flatMap _;rw [rT,ih,RZ]
 rw [h2];simp [vL]
def QF (fs gs:List eT):Prop:=vL fs=vL gs
theorem QF.row {k:Int} (hk:k≠0) {fs gs:List eT} (h:QF fs gs):Q2 (eG k fs) (eG k gs):=by
 unfold Q2;rw [Ke hk,Ke hk,h]
theorem QF.snoc {fs gs:List eT} (h:QF fs gs) {s:ByteArray} {t u:List Nd} (k:Q2 t u):QF (fs++[(s,t)]) (gs++[(s,u)]):=by
 unfold QF vL at*;rw [aaF,aaF,h];simp only [Nc,List.map_nil];rw [show aH t=aH u from k]
theorem QF.acL {fs gs:List eT} (h:QF fs gs):fs.map (·.1)=gs.map (·.1):=by
 have:=congrArg (List.map (·.1)) h;unfold vL at this;rw [S_,S_] at this;exact this
theorem R3 (a b:List UInt8):a<=b\/b<=a:=by
 by_cases h:b<a
 ·exact .inr (List.le_of_lt h)
 ·exact .inl (List.not_lt.1 h)
theorem qw (fs:List eT) (hn:(fs.map (·.1)).Nodup):(ow fs).Perm fs/\(ow fs).Pairwise fun a b=>kN a.1 b.1=true:=by
 have hd2:fs.Pairwise fun a b=>a.1≠b.1:=by
  have h:=hn;unfold List.Nodup at h;rw [aai] at h;exact h
 obtain ⟨h1,h2⟩:=FH fs [] (by simpa using hd2) List.Pairwise.nil;rw [List.nil_append] at h1;exact ⟨h1,h2⟩
theorem Vy (fs:List eT) (hn:(fs.map (·.1)).Nodup):(ow fs).map (·.1)=kZ (fs.map (·.1)):=by
 obtain ⟨h1,h2⟩:=qw fs hn
 have hk:((ow fs).map (·.1)).map ByteArray.toList=((fs.map (·.1)).map ByteArray.toList).mergeSort fun x y=>decide (x<=y):=by
  refine List.Perm.eq_of_pairwise (le:=fun a b=>a<=b) (fun a b _ _ h k=>List.le_antisymm h k) ?_ ?_ ?_
  ·rw [S_,aai]
   refine h2.imp fun {a b} h=>?_;unfold kN at h;rw [kU,decide_eq_true_eq] at h;exact List.le_of_lt h
  ·have:=List.pairwise_mergeSort (le:=fun x y:List UInt8=>decide (x<=y)) (by intro a b c h k;simp only [decide_eq_true_eq] at*;exact List.le_trans h k) (by intro a b;simp only [Bool.or_eq_true,decide_eq_true_eq];exact R3 a b) ((fs.map (·.1)).map ByteArray.toList)
   simpa using this
  ·exact (((h1.map _).map _)).trans (List.mergeSort_perm ..).symm
 unfold kZ;rw [<-hk,S_]
 conv=>lhs;rw [<-List.map_id ((ow fs).map (·.1))]
 refine aaM fun s _=>?_;exact (xG (ByteArray.toList_eq s)).symm
theorem Ii {k:Int} (hk:k=6\/k=7) (n:Nat):manyN ⟨k,bZ,(n:Int)⟩=n:=by
 unfold manyN many bK;rcases hk with rfl|rfl<;>simp
theorem TQ (l:List eT) (h:∀p∈l,Fo 1 p.2):Trees l.length (l.flatMap fun p=>gZ p.1 p.2) (l.map fun p=>gZ p.1 p.2):=by
 refine ⟨by simp,by rw [List.flatMap_def],fun ts hts=>?_⟩;obtain ⟨p,hp,rfl⟩:=aas.1 hts;have hf:=h p hp
 cases h2:p.2 with
 |nil=>rw [h2] at hf;exact absurd hf.pos (by simp)
 |cons x xt=>
  rw [h2] at hf;unfold Fo at hf ⊢;show skip (x.name p.1::xt) 1=some [];rw [jq] at hf ⊢;exact hf
theorem Ij {k:Int} (hk:k=6\/k=7) (fs:List eT) (hn:(fs.map (·.1)).Nodup) (h:∀p∈fs,Fo 1 p.2):gN (eG k fs)=(ow fs).map fun p=>gZ p.1 p.2:=by
 obtain ⟨h1,_⟩:=qw fs hn;have h2:=TQ (ow fs) fun p hp=>h p (h1.subset hp);show dM (manyN _) _=_;rw [Ii hk,<-h1.length_eq];exact h2.uniq.symm
theorem Zy (k:Int) (fs:List eT):(aQ (eG k fs)).k=k:=rfl
theorem Zz (s:ByteArray) {t:List Nd} (h:t≠[]):(aQ (gZ s t)).s=s:=by
 cases t with
 |nil=>exact absurd rfl h
 |cons x xt=>rfl
theorem Vz (fs:List eT) (hn:(fs.map (·.1)).Nodup) (h:∀p∈fs,Fo 1 p.2):kI (eG 7 fs)=some (kZ (fs.map (·.1))):=by
 unfold kI;rw [Zy,if_neg (by decide),if_pos rfl,Ij (.inr rfl) fs hn h,S_,<-Vy fs hn]
 congr 1
 refine aaM fun p hp=>?_;obtain ⟨h1,_⟩:=qw fs hn;have:=(h p (h1.subset hp)).pos;exact Zz _ fun e=>by rw [e] at this;simp at this
def rU (ls:List ByteArray):List Nd:=eG 7 (ls.map fun l=>(l,ay 0))
theorem rV (ls:List ByteArray):(ls.map fun l=>((l,ay 0):eT)).map (·.1)=ls:=by rw [S_];exact List.map_id ls
theorem AA (ls:List ByteArray):∀p∈ls.map (fun l=>((l,ay 0):eT)),Fo 1 p.2:=fun p hp=>by
 obtain ⟨l,_,rfl⟩:=aas.1 hp;rfl
theorem MK {ls:List ByteArray} (hn:ls.Nodup):kI (rU ls)=some (kZ ls):=by
 have:=Vz (ls.map fun l=>(l,ay 0)) (by rw [rV];exact hn) (AA ls);rw [rV] at this;exact this
theorem Jk {ls:List ByteArray} (hn:ls.Nodup) {s:ByteArray} (hs:s∈ls):bJ (rU ls) s=some (ay 0):=by
 have hn2:((ls.map fun l=>((l,ay 0):eT)).map (·.1)).Nodup:=by rw [rV];exact hn
 obtain ⟨h1,_⟩:=qw _ hn2;unfold rU bJ;rw [Zy,if_neg (by decide),if_pos (by decide),Ij (.inr rfl) _ hn2 (AA ls)]
 have hall:∀ts∈(ow (ls.map fun l=>((l,ay 0):eT))).map (fun p=>gZ p.1 p.2),kV ts=ay 0:=fun ts hts=>by
  obtain ⟨p,hp,rfl⟩:=aas.1 hts;obtain ⟨l,_,rfl⟩:=aas.1 (h1.subset hp);rfl
 cases hf:((ow (ls.map fun l=>((l,ay 0):eT))).map fun p=>gZ p.1 p.2).find? fun ts=>(aQ ts).s.toList==s.toList with
 |some ts=>rw [aaL,hall ts (List.mem_of_find?_eq_some hf)]
 |none=>
  have hm:((s,ay 0):eT)∈ow (ls.map fun l=>((l,ay 0):eT)):=h1.symm.subset (aas.2 ⟨s,hs,rfl⟩);have:=List.find?_eq_none.1 hf _ (aas.2 ⟨_,hm,rfl⟩);simp [gZ,ay,aQ,Nd.name] at this
theorem VB (k:Int) (fs:List eT) (hn:(fs.map (·.1)).Nodup):(eG k fs).length=1+(fs.map fun p=>p.2.length).sum:=by
 obtain ⟨h1,_⟩:=qw fs hn;unfold eG;have e:((ow fs).map fun p=>p.2.length).sum=(fs.map fun p=>p.2.length).sum:=(h1.map _).sum_nat;rw [mX,JK,e];exact Nat.add_comm _ _
theorem Kg {α:Type}:∀l:List α,(l.map fun _=>1).sum=l.length
 |[]=>rfl
 |_::l=>by rw [Nc,List.sum_cons,Kg l,mX];omega
theorem R4 {ls:List ByteArray} (hn:ls.Nodup) (h1:1<=ls.length) (h50:ls.length<=50):Gd (rU ls)/\(rU ls).length<=100:=by
 have hn2:((ls.map fun l=>((l,ay 0):eT)).map (·.1)).Nodup:=by rw [rV];exact hn
 obtain ⟨p1,_⟩:=qw _ hn2;have hl:=VB 7 _ hn2
 have hsum:((ls.map fun l=>((l,ay 0):eT)).map fun p=>p.2.length).sum=ls.length:=by
  rw [S_];exact Kg ls
 rw [hsum] at hl;have hl2:(rU ls).length=1+ls.length:=hl;refine ⟨⟨?_,?_,rfl,by omega⟩,by omega⟩
 ·intro x hx
  unfold rU eG at hx;rcases List.mem_cons.1 hx with rfl|hx
  ·simp [dR]
   omega
  ·obtain ⟨p,hp,hx⟩:=List.mem_flatMap.1 hx
   obtain ⟨l,_,rfl⟩:=aas.1 (p1.subset hp);simp [gZ,ay,Nd.name] at hx;subst hx;rfl
 ·have h2:=TQ _ fun p hp=>AA ls p (p1.subset hp)
  have h3:=h2.fo;unfold rU eG;have:=Fo.cons (n:=0) (x:=⟨7,bZ,((ls.map fun l=>((l,ay 0):eT)).length:Int)⟩) (ks:=(ow (ls.map fun l=>((l,ay 0):eT))).flatMap fun p=>gZ p.1 p.2) (rs:=[]) (by rw [Ii (.inr rfl),<-p1.length_eq];exact h3) Fo.zero;rw [List.append_nil] at this;exact this
def eH (k:Nat) (xs:List Pt):Prop:=∀(post:List Pt) (n a:Nat),d_ (xs++post) (n+k) a=d_ post n (a+xs.length)
theorem eH.nil:eH 0 []:=fun _ _ _=>rfl
theorem eH.app {j k:Nat} {xs ys:List Pt} (h:eH j xs) (g:eH k ys):eH (j+k) (xs++ys):=fun post n a=>by
 rw [kE,show n+(j+k)=(n+k)+j from by omega,h,g,List.length_append,Nat.add_assoc]
theorem eH.cons {p:Pt} {xs:List Pt} (h:eH (aP p) xs):eH 1 (p::xs):=fun post n a=>by
 show d_ (xs++post) (n+aP p) (a+1)=_;rw [h,mX]
 congr 1
 omega
theorem eH.leaf {p:Pt} (h:aP p=0):eH 1 [p]:=eH.cons (by rw [h];exact eH.nil)
theorem VD (p:Pt) (s:ByteArray):aP {p with lb:=s}=aP p:=rfl
theorem sZ (s:ByteArray) (x:List Pt):(gP s x).length=x.length:=by cases x<;>rfl
theorem eH.lb {x:List Pt} (h:eH 1 x) (s:ByteArray):eH 1 (gP s x):=fun post n a=>by
 cases x with
 |nil=>exact h post n a
 |cons p ps=>
  have h1:=h post n a;show d_ (ps++post) (n+aP p) (a+1)=_;rw [sZ];exact h1
theorem aa5 {p:Pt} (h:p.k=14):aP p=1:=by unfold aP;simp [h]
theorem eH.to {x:List Pt} (h:eH 1 x) (t u:List Nd):eH 1 (toM x t u):=by
 unfold toM;split
 ·exact h
 ·exact eH.cons (by rw [aa5 rfl];exact h.lb _)
def At (es:List Pt) (a:Nat) (x:List Pt):Prop:=∃post,es.drop a=x++post
theorem At.head {es:List Pt} {a:Nat} {p:Pt} {x:List Pt} (h:At es a (p::x)):es[a]?=some p:=by
 obtain ⟨post,h⟩:=h;have:(es.drop a)[0]?=some p:=by rw [h];rfl
 rwa [List.getElem?_drop,Nat.add_zero] at this
theorem At.tail {es:List Pt} {a:Nat} {p:Pt} {x:List Pt} (h:At es a (p::x)):At es (a+1) x:=by
 obtain ⟨post,h⟩:=h;refine ⟨post,?_⟩;have:=congrArg List.tail h;rw [List.tail_drop] at this;exact this
theorem At.left {es:List Pt} {a:Nat} {x y:List Pt} (h:At es a (x++y)):At es a x:=by
 obtain ⟨post,h⟩:=h;exact ⟨y++post,by rw [h,kE]⟩
theorem At.right {es:List Pt} {a:Nat} {x y:List Pt} (h:At es a (x++y)):At es (a+x.length) y:=by
 obtain ⟨post,h⟩:=h;refine ⟨post,?_⟩;rw [<-List.drop_drop,h,kE];simp
theorem wH (xs:List Pt) (a:Nat):d_ xs 0 a=some a:=by cases xs<;>rfl
theorem At.ea {es:List Pt} {a k:Nat} {x:List Pt} (h:At es a x) (g:eH k x):EA es k a (a+x.length):=by
 obtain ⟨post,h⟩:=h;unfold EA;have:=g post 0 a;rw [h,<-Nat.zero_add k,this,wH]
def wI (es:List Pt) (i:Nat):ByteArray:=((es[i]?).getD default).lb
theorem At.lb {es:List Pt} {a:Nat} {x:List Pt} (h:At es a x) (hne:x≠[]):wI es a=ng x:=by
 cases x with
 |nil=>exact absurd rfl hne
 |cons p x=>unfold wI;rw [h.head];rfl
theorem eH.ne {x:List Pt} (h:eH 1 x):x≠[]:=by
 rintro rfl;have:=h [] 0 0
 cases this
theorem Kh:∀(Xs:List (List Pt)) (es:List Pt) (a:Nat),(∀x∈Xs,eH 1 x)->At es a Xs.flatten->∃l,dF es Xs.length a=some l/\l.map (wI es)=Xs.map ng
 |[],es,a,_,_=>⟨[],rfl,rfl⟩
 |x::Xs,es,a,h,hat=>by
  rw [List.flatten_cons] at hat;have hx:=hat.left.ea (h x (by simp));obtain ⟨l,h1,h2⟩:=Kh Xs es (a+x.length) (fun y hy=>h y (by simp [hy])) hat.right;refine ⟨a::l,?_,?_⟩
  ·unfold EA at hx
   rw [mX];unfold dF;rw [hx];dsimp only;rw [h1];rfl
  ·rw [Nc,Nc,h2,hat.left.lb (h x (by simp)).ne]
def RJ (e e':ByteArray×List Nd):Prop:=e.1=e'.1/\Q2 e.2 e'.2/\Gd e'.2
def gI:Env->Env->Prop
 |[],[]=>True
 |e::l,e'::l'=>RJ e e'/\gI l l'
 |_,_=>False
theorem gI.len:∀{a b:Env},gI a b->a.length=b.length
 |[],[],_=>rfl
 |_::a,_::b,h=>by rw [mX,mX,gI.len h.2]
 |[],_::_,h=>h.elim
 |_::_,[],h=>h.elim
theorem gI.app:∀{a b c d:Env},gI a b->gI c d->gI (a++c) (b++d)
 |[],[],_,_,_,h=>h
 |_::_a,_::_b,_,_,h,g=>⟨h.1,gI.app h.2 g⟩
 |[],_::_,_,_,h,_=>h.elim
 |_::_,[],_,_,h,_=>h.elim
theorem gI.rev:∀{a b:Env},gI a b->gI a.reverse b.reverse
 |[],[],_=>trivial
 |e::a,e'::b,h=>by
  rw [List.reverse_cons,List.reverse_cons]
  exact gI.app (gI.rev h.2) (show gI [e] [e'] from ⟨h.1,trivial⟩)
 |[],_::_,h=>h.elim
 |_::_,[],h=>h.elim
theorem gI.find {s:List UInt8}:∀{a b:Env} {e:ByteArray×List Nd},gI a b->a.find? (fun e=>e.1.toList==s)=some e->∃e',b.find? (fun e=>e.1.toList==s)=some e'/\RJ e e'
 |[],_,_,_,h=>by cases h
 |x::a,[],_,h,_=>h.elim
 |x::a,y::b,e,h,hf=>by
  rw [List.find?_cons] at hf ⊢;rw [<-h.1.1];split at hf
  ·injection hf with hf
   subst hf;exact ⟨y,rfl,h.1⟩
  ·exact gI.find h.2 hf
theorem gI.look {a b:Env} {s:ByteArray} {t:List Nd} (h:gI a b) (hl:lY a s=some t):∃t',lY b s=some t'/\Q2 t t'/\Gd t':=by
 unfold lY at hl ⊢;rw [aaE] at hl;obtain ⟨e,h1,rfl⟩:=hl;obtain ⟨e',h2,h3⟩:=h.rev.find h1;rw [h2];exact ⟨e'.2,rfl,h3.2.1,h3.2.2⟩
theorem gI.one {s:ByteArray} {t t':List Nd} (h:Q2 t t') (g:Gd t'):gI [(s,t)] [(s,t')]:=⟨⟨rfl,h,g⟩,trivial⟩
theorem gI.self:∀{a:Env},(∀e∈a,Gd e.2)->gI a a
 |[],_=>trivial
 |e::a,h=>⟨⟨rfl,Q2.refl _,h e (by simp)⟩,gI.self fun x hx=>h x (by simp [hx])⟩
def jS {α:Type} (x y:Option α):Prop:=∀r,x=some r->y=some r
theorem jS.refl {α:Type} (x:Option α):jS x x:=fun _ h=>h
theorem jS.none {α:Type} (y:Option α):jS none y:=fun _ h=>by cases h
theorem jS.dB {x y:Option fC} {f g:List Nd->Nat->Option fC} (h:jS x y) (k:∀t c,jS (f t c) (g t c)):jS (dB x f) (dB y g):=fun r hr=>by
 match x,h,hr with
 |some (.error b),h,hr=>rw [h _ rfl];exact hr
 |some (.ok (t,c)),h,hr=>rw [h _ rfl];exact k t c r hr
section
variable {nx qY:Nx} (H:∀env a,jS (nx env a) (qY env a))
include H
theorem Pg (env:Env):∀s:zx,jS (NT nx env s) (NT qY env s)
 | .ok a=>H env a
 | .error _=>jS.refl _
theorem Ki (es:List Pt) (env:Env):∀(n a:Nat) (fs:List eT),jS (f_ nx es env n a fs) (f_ qY es env n a fs)
 |0,a,fs=>jS.refl _
 |n+1,a,fs=>fun r hr=>by
  unfold f_ at hr ⊢;split at hr
  ·cases hr
  ·rename_i x hx
   cases h1:nx env a with
   |none=>rw [h1] at hr;cases hr
   |some y=>
    rw [h1] at hr;rw [H _ _ _ h1]
    match y,hr with
    | .error b,hr=>exact hr
    | .ok (t,b),hr=>exact Ki es env n b _ r hr
theorem Ik (es:List Pt) (env:Env) (ot:List Nd):∀(n a:Nat) (ts:List (List Nd)),jS (eu nx es env ot n a ts) (eu qY es env ot n a ts)
 |0,a,ts=>jS.refl _
 |n+1,a,ts=>fun r hr=>by
  unfold eu at hr ⊢;split at hr
  ·cases hr
  ·rename_i x hx
   cases h1:nx (env++[(x.bd,(bJ ot x.lb).getD [])]) (a+1) with
   |none=>rw [h1] at hr;cases hr
   |some y=>
    rw [h1] at hr;rw [H _ _ _ h1]
    match y,hr with
    | .error b,hr=>exact hr
    | .ok (t,b),hr=>exact Ik es env ot n b _ r hr
theorem ZA (es:List Pt) (env:Env) (p:Pt) (aK a:Nat):jS (fV nx es env p aK a) (fV qY es env p aK a):=by
 unfold fV;by_cases h0:p.k=0
 ·rw [if_pos h0,if_pos h0]
  exact jS.refl _
 rw [if_neg h0,if_neg h0];by_cases h1:p.k=1
 ·rw [if_pos h1,if_pos h1]
  exact jS.refl _
 rw [if_neg h1,if_neg h1];by_cases h2:p.k=2
 ·rw [if_pos h2,if_pos h2]
  exact jS.dB (H _ _) fun t c=>jS.refl _
 rw [if_neg h2,if_neg h2];by_cases h3:p.k=3
 ·rw [if_pos h3,if_pos h3]
  exact jS.dB (H _ _) fun t c=>jS.dB (H _ _) fun u d=>jS.refl _
 rw [if_neg h3,if_neg h3];by_cases h4:p.k=4
 ·rw [if_pos h4,if_pos h4]
  exact jS.dB (H _ _) fun t c=>Pg H _ _
 rw [if_neg h4,if_neg h4];by_cases h5:p.k=5
 ·rw [if_pos h5,if_pos h5]
  exact jS.dB (H _ _) fun t c=>Pg H _ _
 rw [if_neg h5,if_neg h5];by_cases h6:p.k=6
 ·rw [if_pos h6,if_pos h6]
  exact jS.dB (H _ _) fun t c=>jS.dB (H _ _) fun u d=>jS.dB (H _ _) fun v e=>jS.refl _
 rw [if_neg h6,if_neg h6];by_cases h7:p.k=7
 ·rw [if_pos h7,if_pos h7]
  unfold oN;by_cases hc:1<=p.mn/\p.mn<=50/\env.length<=900000
  ·rw [if_pos hc,if_pos hc]
   refine jS.dB (H _ _) fun ot b=>?_;intro r hr
   cases Ez:kQ es ot aK with
   |none=>rw [Ez] at hr;cases hr
   |some v=>
    rw [Ez] at hr
    cases v with
    |false=>exact hr
    |true=>
     dsimp only at hr ⊢
     cases h1:eu nx es env ot p.mn.toNat b [] with
     |none=>rw [h1] at hr;cases hr
     |some y=>
      rw [h1] at hr;rw [Ik H es env ot _ _ _ _ h1];exact hr
  ·rw [if_neg hc,if_neg hc]
   exact jS.refl _
 rw [if_neg h7,if_neg h7];by_cases h9:p.k=9
 ·rw [if_pos h9,if_pos h9]
  exact jS.dB (H _ _) fun t c=>jS.dB (H _ _) fun u d=>jS.refl _
 rw [if_neg h9,if_neg h9];by_cases h10:p.k=10
 ·rw [if_pos h10,if_pos h10]
  unfold sM;by_cases hc:0<=p.mn/\p.mn<=50
  ·rw [if_pos hc,if_pos hc]
   intro r hr
   cases h1:f_ nx es env p.mn.toNat a [] with
   |none=>rw [h1] at hr;cases hr
   |some y=>
    rw [h1] at hr;rw [Ki H es env _ _ _ _ h1];exact hr
  ·rw [if_neg hc,if_neg hc]
   exact jS.refl _
 rw [if_neg h10,if_neg h10];by_cases h11:p.k=11
 ·rw [if_pos h11,if_pos h11]
  exact jS.dB (H _ _) fun t c=>jS.refl _
 rw [if_neg h11,if_neg h11];by_cases h12:p.k=12
 ·rw [if_pos h12,if_pos h12]
  exact jS.dB (H _ _) fun t c=>jS.refl _
 rw [if_neg h12,if_neg h12];by_cases pG:p.k=13
 ·rw [if_pos pG,if_pos pG]
  exact jS.dB (H _ _) fun t c=>jS.refl _
 rw [if_neg pG,if_neg pG];by_cases rQ:p.k=14
 ·rw [if_pos rQ,if_pos rQ]
  exact jS.dB (H _ _) fun t c=>jS.refl _
 rw [if_neg rQ,if_neg rQ];exact jS.refl _
end
def Il:Option fC->Option fC
 |some (.ok (t,b))=>if Gd t/\t.length<=5000000 then some (.ok (t,b)) else none
 |x=>x
def jm:Nat->List Pt->Nx
 |0,_=>fun _ _=>none
 |f+1,es=>fun env a=>
  match es[a]? with
  |none=>none
  |some p=>if env.length<=900000/\qO p/\yQ p then Il (fV (jm f es) es env p a (a+1)) else none
theorem Im:∀(f:Nat) (es:List Pt) (env:Env) (a:Nat),jS (jm f es env a) (gW f es env a)
 |0,_,_,_=>jS.none _
 |f+1,es,env,a=>fun r hr=>by
  unfold jm at hr;unfold gW;split at hr
  ·cases hr
  ·rename_i p hp
   rw [hp];dsimp only;split at hr
   ·rename_i hc
    rw [if_pos ⟨hc.1,hc.2.1⟩]
    cases hw:fV (jm f es) es env p a (a+1) with
    |none=>rw [hw] at hr;cases hr
    |some y=>
     rw [ZA (Im f es) es env p a (a+1) _ hw];rw [hw] at hr
     match y,hr with
     | .error b,hr=>exact hr
     | .ok (t,b),hr=>
      simp only [Il] at hr;split at hr
      ·rename_i hg
       simp only [Am];rw [if_pos hg.1];exact hr
      ·cases hr
   ·cases hr
theorem Io {f:Nat} {es:List Pt} {env:Env} {a:Nat} {t:List Nd} {b:Nat} (h:jm (f+1) es env a=some (.ok (t,b))):∃p,es[a]?=some p/\env.length<=900000/\qO p/\yQ p/\fV (jm f es) es env p a (a+1)=some (.ok (t,b))/\Gd t/\t.length<=5000000:=by
 unfold jm at h;split at h
 ·cases h
 ·rename_i p hp
  split at h
  ·rename_i hc
   refine ⟨p,hp,hc.1,hc.2.1,hc.2.2,?_⟩
   cases hw:fV (jm f es) es env p a (a+1) with
   |none=>rw [hw] at h;cases h
   |some y=>
    rw [hw] at h
    match y,h with
    | .error b,h=>cases h
    | .ok (t2,b2),h=>
     simp only [Il] at h;split at h
     ·rename_i hg
      injection h with h
      injection h with h
      injection h with h1 h2
      subst h1 h2;exact ⟨rfl,hg⟩
     ·cases h
  ·cases h
end Go.Proofs.YtmjdhfbnmmdjiaaGreat
