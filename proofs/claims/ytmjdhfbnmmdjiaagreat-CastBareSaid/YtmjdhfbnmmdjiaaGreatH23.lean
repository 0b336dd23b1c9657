/- Laid together by a tool from the texts of this seat: CxFun CsP. Conditions: each theorem's own. -/
import Derived.Test.YtmjdhfbnmmdjiaaGreatH22
set_option maxHeartbeats 8000000
set_option maxRecDepth 100000
namespace Go.Proofs.YtmjdhfbnmmdjiaaGreat
open Go.Lib renaming hid->aB
open Go.World renaming cell?->DI,frozen?->Gb,size_alloc->FT
open Go.RowKit.Below renaming refl->aI
open Go.RowKit
theorem Tj (P:Nat) (es:List Pt) (nx:kW) (HN:Hid (lJ P es nx)) (env:Env) (a:Nat) (p:Pt) (r:eF) (Y:Nat->Prop) (w:World) (h:iV P es env a Y w) (hp:es[a]?=some p) (hk:p.k=2) (hal:a<=1000000) (hvl:env.length<=900000) (C9:Gd p.T) (C_:p.T.length<=5000000) (hG:∀env a x t b,nx env a=some (x,t,b)->qQ x t) (hm:Li nx env p (a+1)=some r):
  Calls Tryz.prog 53 #[pk P] w (bU P es env Y r w):=by
 have jW:=aB (And.intro hm hp);have pR:=aB hk;refine (iR P es env a p r Y w).2 h hp hal ?_;clear h hp hal hm hk;intro eb eo ec TA tc UA uc R B G w4 H4;dsimp only [iR];intro K1 hK1 K2 hK2;obtain ⟨k0,k1,k2,k3,k4,k6,k7⟩:=H4.out.pt.cells;have jr:w4.cell? ⟨B,0,none⟩=some (.int .i64 2):=by rw [k0,pR.out]
 clear k0;obtain ⟨x,t,b,h1,hr⟩:=bD jW.out.1;injection hr with hr
 subst hr;have vP:=aB h1;have fI:=aB (hG _ _ _ _ _ h1);have IB:=aB (And.intro C9 C_);clear h1 C9 C_ jW;have hbl:Below w4.heap.size w4 (w4.alloc (.cells #[.string p.bd,.slice TA (p.T:List Nd).length tc] 36)):=au (aI _ _) _;have HL:=aB (H4.out.later hbl);have IC:=aB (uj P es nx HN env [(p.bd,p.T)] (a+1) (x,t,b) (some ⟨w4.heap.size,0,none⟩) 1 [⟨p.bd,TA,(p.T:List Nd).length,tc⟩] Y (w4.alloc (.cells #[.string p.bd,.slice TA (p.T:List Nd).length tc] 36)) HL.out.wk (by rw [FT];exact kP w4 ⟨p.bd,TA,(p.T:List Nd).length,tc⟩) (dY.one ((H4.out.pt.T).later hbl) rfl) (by simp) hvl vP.out);clear hbl;have HX:=aB (IC.out);unfold pk at HX;go_wp2_with fail;refine HX.out.mono ?_;rintro e w5 ⟨Y5,hf,hy,hkk,A5,c5,T5,d5,rfl,hx,ht,hA⟩;clear HX;have H5:=aB (HL.out.step hf hy hkk);have hV:Hid (bN w5 Y5 A5 c5 x/\aF w5 Y5 T5 d5 t/\∀a,A5=some a->w.heap.size<=a.block):=aB ⟨hx,ht,fun a ha=>Nat.le_trans HL.out.fr.size (hA a ha)⟩;clear hf hy hkk hx ht hA
 try clear k0 k1 k2 k3 k4 k6 k7
 try clear jr
 try clear k1 k2 k3 k4 k6 k7
 go_upto_region 11 with fail
 obtain ⟨w6,hw⟩:∃w6,w6=w5.alloc (.cells #[.slice A5 (x:List Pt).length c5,.slice T5 (t:List Nd).length d5] 65):=⟨_,rfl⟩;obtain ⟨b6,hb⟩:∃b6,b6=w5.heap.size:=⟨_,rfl⟩;have hbb:Below w5.heap.size w5 w6:=by rw [hw];exact au (aI _ _) _
 have H6:=aB (H5.out.later hbb);have X6:Hid (jG w b6 A5 c5 x T5 d5 t Y5 w6):=aB ⟨by rw [hw,hb];exact aQ.new H5.out.wk.lt _ _,hV.out.1.fr (Fr.below hbb) (aj.refl _ _),hV.out.2.1.later hbb,hV.out.2.2⟩;rw [<-hw,<-hb];clear hw hb hbb hV;obtain ⟨k0,k1,k2,k3,k4,k6,k7⟩:=H6.out.pt.cells;obtain ⟨kS,kT⟩:=X6.out.cells;obtain ⟨SS,hSS⟩:∃SS:World->Prop,SS=fun v=>v.cell? ⟨B,2,none⟩=some (.string p.nm)/\v.cell? ⟨B,3,none⟩=some (.string p.bd)/\v.cell? ⟨B,6,none⟩=some (.slice TA p.T.length tc)/\v.cell? ⟨B,7,none⟩=some (.slice UA p.U.length uc)/\v.cell? ⟨b6,0,none⟩=some (.slice A5 (x:List Pt).length c5)/\v.cell? ⟨b6,1,none⟩=some (.slice T5 (t:List Nd).length d5):=⟨_,rfl⟩;obtain ⟨w7,hwd⟩:∃w7,w7=w6.drew:=⟨_,rfl⟩;have hb:Below w6.heap.size w6 w7:=by rw [hwd];exact (aI _ _).drew
 have H7:=aB (H6.out.later hb);replace X6:=aB (X6.out.later hb);clear hb
 try clear k0 k1 k2 k3 k4 k6 k7
 try clear jr
 try clear k1 k2 k3 k4 k6 k7
 try clear kS kT
 have Tk:SS w7:=by rw [hSS];exact ⟨H7.out.pt.cells.2.2.1,H7.out.pt.cells.2.2.2.1,H7.out.pt.cells.2.2.2.2.2.1,H7.out.pt.cells.2.2.2.2.2.2,X6.out.cells.1,X6.out.cells.2⟩
 refine aG (S:=SS) [10] (by kernel_rfl) (by rw [<-hwd];exact Tk) (fun hHeld=>?_);rw [<-hwd] at hHeld ⊢;clear hwd hHeld;refine aM 0 [10] (some 71) rfl rfl ?_;refine aM 1 [10] (some 72) rfl rfl ?_;refine aM 2 [10] (some 73) rfl rfl ?_;refine aM 4 [10] (some 75) rfl rfl ?_;refine aM 5 [10] (some 76) rfl rfl ?_;refine aM 6 [10] (some 77) rfl rfl ?_;refine aM 7 [10] (some 78) rfl rfl ?_;obtain ⟨vs,hrd,hpm,hcp⟩:=X6.out.ex;have Kk:=aB hpm.1;have Da:=aB (And.intro hrd.read hpm);clear hrd hpm hcp;refine dO 3 rfl (by kernel_rfl) (by rfl) ?_;refine Iy (.tmp 71) (.tmp 73) rfl w.heap.size (m:=1) (n:=(x:List Pt).length) (l:=[⟨p.k,p.lb,p.nm,p.bd,p.mn,p.num,TA,p.T.length,tc,UA,p.U.length,uc⟩]) rfl rfl H7.out.own (l2:=vs) Kk.out rfl Da.out.1 (k:=(x:List Pt).length+1) (by omega) (by have:=fI.out.len;omega) H7.out.fr.size ?_;intro A8 c8 w8 hown hg hd;have jH:=aB (H7.out.app Da.out.2 hown hg hd);clear hown hg hd;have IE:SS w8:=by rw [hSS];exact ⟨jH.out.2.2.2.2.1.cells.2.2.1,jH.out.2.2.2.2.1.cells.2.2.2.1,jH.out.2.2.2.2.1.cells.2.2.2.2.2.1,jH.out.2.2.2.2.1.cells.2.2.2.2.2.2,(X6.out.box.fu jH.out.1 (by decide)).kX.1,(X6.out.box.fu jH.out.1 (by decide)).kX.2⟩
 have HTy:Hid (aF w8 Y5 TA tc p.T):=aB ((H7.out.pt.T).bW jH.out.1 (by decide));have HTt:Hid (aF w8 Y5 T5 d5 t):=aB ((X6.out.ty).bW jH.out.1 (by decide));refine ⟨fun _=>IE,?_⟩;refine aA ?_;have HX:=aB (o_ TA T5 tc d5 p.T t w8 HTy.out.ty.eY HTt.out.ty.eY (by have:=IB.out.2;have:=fI.out.tl;omega));refine aY 8 (some 79) rfl rfl (by kernel_rfl) (by rfl) (by go_simp) HX.out ?_;rintro e w9 ⟨A9,c9,rfl,hown,hb⟩;clear HX;have HZ:Hid (iV P es env b Y5 w9/\aQ w9 Y5 R #[.slice none 0 0,.slice none 0 0] 65/\Fr Y w w9/\bN w9 Y5 A8 c8 (p::x)/\aF w9 Y5 A9 c9 (aR p.T t)):=aB ⟨jH.out.2.2.1.later hb,jH.out.2.2.2.1.below hb,jH.out.2.2.2.2.2.1.trans (Fr.below hb),jH.out.2.2.2.2.2.2.1.fr (Fr.below hb) (aj.refl _ _),aF.own hown fun q hq=>jH.out.2.2.1.lt q hq⟩;have hpt:=jH.out.2.2.2.2.1.later hb;have hbx:=(X6.out.box.fu jH.out.1 (by decide)).below hb;have Ei:SS w9:=by rw [hSS];exact ⟨hpt.cells.2.2.1,hpt.cells.2.2.2.1,hpt.cells.2.2.2.2.2.1,hpt.cells.2.2.2.2.2.2,hbx.kX.1,hbx.kX.2⟩
 refine ⟨_,rfl,Ei,?_⟩;refine aA ?_;clear hown hb hpt hbx;refine aM 9 [10] (some 80) rfl rfl ?_;have hR:=HZ.out.2.1;have r0:w9.cell? ⟨R,0,none⟩=some (.slice none 0 0):=by simp [DI,hR.blk]
 have r1:w9.cell? ⟨R,1,none⟩=some (.slice none 0 0):=by simp [DI,hR.blk]
 have rU:w9.frozen? ⟨R,0,none⟩=false:=by simp [Gb,hR.blk]
 have rV:w9.frozen? ⟨R,1,none⟩=false:=by simp [Gb,hR.blk]
 clear hR;refine jl 10 none (w':=?_) rfl rfl (by kernel_rfl) (by rfl) ?_ (zL (by kernel_rfl)) ?_
 rotate_left
 ·(go_simp;try with_reducible rfl)
 refine aA ?_;refine bB (by kernel_rfl) ?_ _;have HE:=aB (zq (r:=(p::x,aR p.T t,b)) (TX:=A9) (tx:=c9) HZ.out.2.2.1 H7.out.yn HZ.out.1 HZ.out.2.1 H7.out.pr H7.out.rw HZ.out.2.2.2.1 HZ.out.2.2.2.2 jH.out.2.2.2.2.2.2.2);go_wp2_with fail;obtain ⟨wy,bK⟩:∃wy,wy=set2 w9 R (.slice A8 ((p::x):List Pt).length c8) (.slice A9 ((aR p.T t):List Nd).length c9):=⟨_,rfl⟩;have HE2:Hid (bU P es env Y ((p::x),(aR p.T t),b) w (.returned (.agg #[.slice A8 ((p::x):List Pt).length c8,.slice A9 ((aR p.T t):List Nd).length c9])) wy/\wy.cell? ⟨R,0,none⟩=some (.slice A8 ((p::x):List Pt).length c8)/\wy.cell? ⟨R,1,none⟩=some (.slice A9 ((aR p.T t):List Nd).length c9)):=aB (by rw [bK];exact HE.out);unfold set2 at bK
 first|rw [<-bK]|(rw [List.length_cons] at bK;rw [<-bK])
 have q0:=HE2.out.2.1;have q1:=HE2.out.2.2;refine bodyPost_ret (v:=.agg #[.slice A8 ((p::x):List Pt).length c8,.slice A9 ((aR p.T t):List Nd).length c9]) (by simp [results,Tryz.results53,go_sem,q0,q1]) rfl HE2.out.1
structure qE (P:Nat) (es:List Pt) (env:Env) (a:Nat) (Y0:Nat->Prop) (w0:World) (R B:Nat) (p:Pt) (TA:Option Addr) (tc:Nat) (UA:Option Addr) (uc:Nat) (Y:Nat->Prop) (w:World):Prop where
 fr:Fr Y0 w0 w
 yn:aj Y0 Y w0
 wk:iV P es env a Y w
 pt:aZ w Y B p TA tc UA uc
 res:aQ w Y R #[.slice none 0 0,.slice none 0 0] 65
 pr:P<w0.heap.size
 rw:w0.heap.size<=R
section
variable {P a a':Nat} {es:List Pt} {env:Env} {Y0 Y Y':Nat->Prop} {w0 w w':World} {R B:Nat} {p:Pt} {TA UA:Option Addr} {tc uc:Nat}
theorem qE.step (h:qE P es env a Y0 w0 R B p TA tc UA uc Y w) (hf:Fr Y w w') (hy:aj Y Y' w) (hk:iV P es env a' Y' w'):qE P es env a' Y0 w0 R B p TA tc UA uc Y' w':=
 ⟨Fr.new h.fr hf h.yn,aj.trans h.yn hy h.fr.size,hk,h.pt.fr hf hy,h.res.fr hf hy,h.pr,h.rw⟩
theorem qE.later (h:qE P es env a Y0 w0 R B p TA tc UA uc Y w) (hb:Below w.heap.size w w'):qE P es env a Y0 w0 R B p TA tc UA uc Y w':=h.step (Fr.below hb) (aj.refl _ _) (h.wk.later hb)
theorem qE.done (h:qE P es env a Y0 w0 R B p TA tc UA uc Y w) {r:eF} {A TX:Option Addr} {c tx:Nat} (ha:r.2.2=a) (hx:bN w Y A c r.1) (ht:aF w Y TX tx r.2.1) (hA:∀a,A=some a->w0.heap.size<=a.block):
  bU P es env Y0 r w0 (.returned (.agg #[.slice A r.1.length c,.slice TX r.2.1.length tx])) (set2 w R (.slice A r.1.length c) (.slice TX r.2.1.length tx))/\
   (set2 w R (.slice A r.1.length c) (.slice TX r.2.1.length tx)).cell? ⟨R,0,none⟩=some (.slice A r.1.length c)/\(set2 w R (.slice A r.1.length c) (.slice TX r.2.1.length tx)).cell? ⟨R,1,none⟩=some (.slice TX r.2.1.length tx):=
 Ga h.fr h.yn (by rw [ha];exact h.wk) h.res (by have:=h.pr;have:=h.rw;omega) h.rw hx ht hA
theorem qE.jN (h:qE P es env a Y0 w0 R B p TA tc UA uc Y w):w.cell? ⟨R,0,none⟩=some (.slice none 0 0)/\w.cell? ⟨R,1,none⟩=some (.slice none 0 0)/\w.frozen? ⟨R,0,none⟩=false/\w.frozen? ⟨R,1,none⟩=false:=
 ⟨by simp [DI,h.res.blk],by simp [DI,h.res.blk],by simp [Gb,h.res.blk],by simp [Gb,h.res.blk]⟩
theorem aZ.av (h:aZ w Y B p TA tc UA uc):w.cell? ⟨B,0,none⟩=some (.int .i64 p.k)/\w.cell? ⟨B,1,none⟩=some (.string p.lb)/\w.cell? ⟨B,2,none⟩=some (.string p.nm)/\w.cell? ⟨B,3,none⟩=some (.string p.bd)/\w.cell? ⟨B,4,none⟩=some (.int .i64 p.mn)/\w.cell? ⟨B,5,none⟩=some (.int .i64 p.num)/\
  w.cell? ⟨B,6,none⟩=some (.slice TA p.T.length tc)/\w.cell? ⟨B,7,none⟩=some (.slice UA p.U.length uc):=
 ⟨by simp [DI,h.blk],by simp [DI,h.blk],by simp [DI,h.blk],by simp [DI,h.blk],by simp [DI,h.blk],by simp [DI,h.blk],by simp [DI,h.blk],by simp [DI,h.blk]⟩
theorem qE.new (h:iV P es env a Y w) (hT:aF w Y TA tc p.T) (hU:aF w Y UA uc p.U) {w1 w2:World} (h1:w1=w.alloc (.cells #[.int .i64 p.k,.string p.lb,.string p.nm,.string p.bd,.int .i64 p.mn,.int .i64 p.num,.slice TA p.T.length tc,.slice UA p.U.length uc] 33)) (h2:w2=w1.alloc (.cells #[.slice none 0 0,.slice none 0 0] 65)):
  qE P es env a Y w (w.heap.size+1) w.heap.size p TA tc UA uc Y w2:=by
 have hlt:=h.lt;have hz:w1.heap.size=w.heap.size+1:=by rw [h1];exact FT _ _
 have hb1:Below w.heap.size w w1:=by rw [h1];exact au (aI _ _) _
 have hb2:Below w1.heap.size w1 w2:=by rw [h2];exact au (aI _ _) _
 have hb:Below w.heap.size w w2:=ah hb1 hb2;refine ⟨Fr.below hb,aj.refl _ _,h.later hb,?_,?_,hlt P h.yP,Nat.le_succ _⟩
 ·have h5:=aZ.new (w:=w) hlt hT hU
  rw [<-h1] at h5;exact h5.later hb2
 ·rw [h2,<-hz]
  exact aQ.new (fun q hq=>Nat.lt_of_lt_of_le (hlt q hq) hb1.size) _ _
theorem Ls (w:World) (p:Pt) (TA UA:Option Addr) (tc uc:Nat):fq (w.alloc (.cells #[.int .i64 p.k,.string p.lb,.string p.nm,.string p.bd,.int .i64 p.mn,.int .i64 p.num,.slice TA p.T.length tc,.slice UA p.U.length uc] 33)) w.heap.size (some ⟨w.heap.size,0,none⟩) 1 [⟨p.k,p.lb,p.nm,p.bd,p.mn,p.num,TA,p.T.length,tc,UA,p.U.length,uc⟩]:=
 ⟨rfl,.inr ⟨w.heap.size,1,_,rfl,Nat.le_refl _,heap_alloc_new _ _,Nat.le_refl _,by simp [maxLen],rfl,rfl⟩⟩
theorem Lu (hT:aF w Y TA tc p.T) (hU:aF w Y UA uc p.U):dz w Y [⟨p.k,p.lb,p.nm,p.bd,p.mn,p.num,TA,p.T.length,tc,UA,p.U.length,uc⟩] [p]:=dz.cons ⟨rfl,rfl,rfl,rfl,rfl,rfl,rfl,rfl,hT,hU⟩ dz.nil
theorem ou (hlt:∀q,Y q->q<w.heap.size) (hT:aF w Y TA tc p.T) (hU:aF w Y UA uc p.U):bN (w.alloc (.cells #[.int .i64 p.k,.string p.lb,.string p.nm,.string p.bd,.int .i64 p.mn,.int .i64 p.num,.slice TA p.T.length tc,.slice UA p.U.length uc] 33)) Y (some ⟨w.heap.size,0,none⟩) 1 [p]:=by
 have hb:Below w.heap.size w (w.alloc (.cells #[.int .i64 p.k,.string p.lb,.string p.nm,.string p.bd,.int .i64 p.mn,.int .i64 p.num,.slice TA p.T.length tc,.slice UA p.U.length uc] 33)):=au (aI _ _) _;refine ⟨_,vN.Vb (Ls w p TA UA tc uc) fun a ha h5=>?_,Lu (hT.later hb) (hU.later hb),Nat.le_refl _⟩;injection ha with ha
 rw [<-ha] at h5;exact Nat.lt_irrefl _ (hlt _ h5)
end
end Go.Proofs.YtmjdhfbnmmdjiaaGreat
