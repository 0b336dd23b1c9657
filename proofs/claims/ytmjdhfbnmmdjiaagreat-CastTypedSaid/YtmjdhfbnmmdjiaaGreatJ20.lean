/- Laid together by a tool from the texts of this seat: CsD CsE CsF CsG CsM CxPre. Conditions: each theorem's own. -/
import Derived.Test.YtmjdhfbnmmdjiaaGreatJ19
set_option maxHeartbeats 8000000
set_option maxRecDepth 100000
namespace Go.Proofs.YtmjdhfbnmmdjiaaGreat
open Go.Lib renaming hid->aD
open Go.World renaming cell?->Ck,frozen?->EJ
open Go.Value renaming slice->fq,ownBlock->fA
open _root_.Nat renaming lt_of_lt_of_le->Yw,le_refl->aG
open Go.RowKit.Below renaming refl->aF
open _root_.And renaming intro->Cj
open _root_.Array renaming getElem?_eq_some_iff->aaj
open _root_.List renaming length_append->jX,getElem?_map->TW
open Go.RowKit
structure rA (P:Nat) (es:List Pt) (env:Env) (a:Nat) (EA:Option Addr) (ec:Nat) (VA:Option Addr) (vc:Nat) (bs:List Bn) (Y:Nat->Prop) (w:World):Prop where
 blk:w.heap[P]?=some (.cells #[.slice EA es.length ec,.int .i64 (a:Int),.slice VA bs.length vc] 85 (0,0))
 own:Bl w 0 VA vc bs
 ex:jW w Y EA es
 eo:∀a,EA=some a->Bj Y a.block
 en:dX w Y bs env
 y:∀q,Y q↔(q=P\/∃a,VA=some a/\a.block=q)
 np:∀a,VA=some a->a.block≠P
 el:es.length<=1000000
 vl:env.length<=1000000
def iI (P:Nat) (es:List Pt) (env:Env) (a:Nat) (Y:Nat->Prop) (w:World):Prop:=∃EA ec VA vc bs,rA P es env a EA ec VA vc bs Y w
abbrev dV:=List Pt×List Nd×Nat
abbrev kP:=Env->Nat->Option dV
def bU (P:Nat) (es:List Pt) (env:Env) (Y:Nat->Prop) (r:dV) (w:World) (e:Ending) (w':World):Prop:=
 ∃Y',Fr Y w w'/\ah Y Y' w/\iI P es env r.2.2 Y' w'/\∃A c TA tc,e= .returned (.agg #[.slice A r.1.length c,.slice TA r.2.1.length tc])/\bP w' Y' A c r.1/\aA w' Y' TA tc r.2.1/\∀a,A=some a->w.heap.size<=a.block
def lg (P:Nat) (es:List Pt) (nx:kP):Prop:=∀env a r Y w,nx env a=some r->iI P es env a Y w->Calls Tryz.prog 53 #[pk P] w (bU P es env Y r w)
section
variable {P a:Nat} {es:List Pt} {env:Env} {EA VA:Option Addr} {ec vc:Nat} {bs:List Bn} {Y Y':Nat->Prop} {w w':World}
theorem rA.lt (h:rA P es env a EA ec VA vc bs Y w):∀q,Y q->q<w.heap.size:=fun q hq=>by
 rcases (h.y q).1 hq with rfl|⟨b,hb,rfl⟩
 ·exact (aaj.1 h.blk).1
 ·exact (aB.lt h.own b hb).2
theorem iI.yP (h:iI P es env a Y w):Y P:=by
 obtain ⟨EA,ec,VA,vc,bs,h⟩:=h;exact (h.y P).2 (.inl rfl)
theorem iI.lt (h:iI P es env a Y w):∀q,Y q->q<w.heap.size:=by
 obtain ⟨EA,ec,VA,vc,bs,h⟩:=h;exact h.lt
theorem rA.later (h:rA P es env a EA ec VA vc bs Y w) (hb:Below w.heap.size w w'):rA P es env a EA ec VA vc bs Y w':=by
 have hf:Fr Y w w':=Fr.below hb;have hP:=h.lt P ((h.y P).2 (.inl rfl));exact ⟨(hb.block P hP).trans h.blk,h.own.below hb (aG _),h.ex.fr hf fun q hq=>.inl hq,h.eo,h.en.fr hf fun q hq=>.inl hq,h.y,h.np,h.el,h.vl⟩
theorem iI.later (h:iI P es env a Y w) (hb:Below w.heap.size w w'):iI P es env a Y w':=by
 obtain ⟨EA,ec,VA,vc,bs,h⟩:=h;exact ⟨EA,ec,VA,vc,bs,h.later hb⟩
theorem rA.cells (h:rA P es env a EA ec VA vc bs Y w):w.cell? ⟨P,0,none⟩=some (.slice EA es.length ec)/\w.cell? ⟨P,1,none⟩=some (.int .i64 (a:Int))/\w.cell? ⟨P,2,none⟩=some (.slice VA bs.length vc):=
 ⟨by simp [Ck,h.blk],by simp [Ck,h.blk],by simp [Ck,h.blk]⟩
theorem rA.frozen (h:rA P es env a EA ec VA vc bs Y w):∀i,i<3->w.frozen? ⟨P,i,none⟩=false:=fun i hi=>by
 have:i=0\/i=1\/i=2:=by omega
 rcases this with rfl|rfl|rfl<;>simp [EJ,h.blk]
theorem rA.bW {U:TypeId} (h:rA P es env a EA ec VA vc bs Y w) (k:g_ w w' U Y) (h1:U≠49) (h2:U≠33) (h3:U≠36) (h4:U≠85):rA P es env a EA ec VA vc bs Y w':=by
 have hP:=h.lt P ((h.y P).2 (.inl rfl));refine ⟨(k.block P hP fun h5=>iE.ne h5.1 ⟨_,_,h.blk⟩ h4 rfl).trans h.blk,aB.fr h.own k.fr (fun a ha h5=>iE.ne h5.1 (aB.qK h.own ha) h3 rfl),?_,h.eo,⟨h.en.1,fun i b e hb he=>⟨(h.en.2 i b e hb he).1,(h.en.2 i b e hb he).2.1,(h.en.2 i b e hb he).2.2.bW k h1⟩⟩,h.y,h.np,h.el,h.vl⟩;intro i p hp;obtain ⟨b,o,e,hb,hy,hr,ho⟩:=h.ex i p hp;have hbk:=k.block b hb fun h5=>ho.elim (fun ho=>iE.ne h5.1 ho h2 rfl) h5.2;refine ⟨b,o,e,Yw hb k.size,hy,?_,ho.imp (kY hbk) fun h=>h⟩;obtain ⟨TA,tc,UA,uc,f1,f2,f3⟩:=hr;refine ⟨TA,tc,UA,uc,f1.bW k h1,f2.bW k h1,?_⟩;simp only [Ck,hbk] at f3 ⊢;exact f3
theorem iI.bW {U:TypeId} (h:iI P es env a Y w) (k:g_ w w' U Y) (h1:U≠49) (h2:U≠33) (h3:U≠36) (h4:U≠85):iI P es env a Y w':=by
 obtain ⟨EA,ec,VA,vc,bs,h⟩:=h;exact ⟨EA,ec,VA,vc,bs,h.bW k h1 h2 h3 h4⟩
theorem BD.bW {U:TypeId} {v:PV} {p:Pt} (h:BD w Y v p) (k:g_ w w' U Y) (h1:U≠49):BD w' Y v p:=
 ⟨h.k,h.lb,h.nm,h.bd,h.mn,h.num,h.tn,h.un,h.T.bW k h1,h.U.bW k h1⟩
theorem bP.bW {U:TypeId} {A:Option Addr} {c:Nat} {xs:List Pt} (h:bP w Y A c xs) (k:g_ w w' U Y) (h1:U≠49) (h2:U≠33):bP w' Y A c xs:=by
 obtain ⟨vs,h3,h4,h5⟩:=h;refine ⟨vs,fun hne=>?_,⟨h4.1,fun i v p hv hp=>(h4.2 i v p hv hp).bW k h1⟩,h5⟩;obtain ⟨b,o,hA,hb,hy,ho,hc⟩:=h3 hne;have hbk:=k.block b hb fun h6=>iE.ne h6.1 ho h2 rfl;refine ⟨b,o,hA,Yw hb k.size,hy,kY hbk ho,fun i v hv j u hu=>?_⟩;have:=hc i v hv j u hu;simp only [Ck,hbk] at this ⊢;exact this
theorem rA.eX (h:rA P es env a EA ec VA vc bs Y w) (k:g_ w w' 33 Y):rA P es env a EA ec VA vc bs Y w':=by
 have hP:=h.lt P ((h.y P).2 (.inl rfl));refine ⟨(k.block P hP fun h5=>iE.ne h5.1 ⟨_,_,h.blk⟩ (by decide) rfl).trans h.blk,aB.fr h.own k.fr (fun a ha h5=>iE.ne h5.1 (aB.qK h.own ha) (by decide) rfl),?_,h.eo,⟨h.en.1,fun i b e hb he=>⟨(h.en.2 i b e hb he).1,(h.en.2 i b e hb he).2.1,(h.en.2 i b e hb he).2.2.bW k (by decide)⟩⟩,h.y,h.np,h.el,h.vl⟩;intro i p hp;obtain ⟨b,o,e,hb,hy,hr,ho⟩:=h.ex i p hp;have hbk:=k.block b hb fun h5=>h5.2 (h.eo _ e);refine ⟨b,o,e,Yw hb k.size,hy,?_,ho.imp (kY hbk) fun h=>h⟩;obtain ⟨TA,tc,UA,uc,f1,f2,f3⟩:=hr;refine ⟨TA,tc,UA,uc,f1.bW k (by decide),f2.bW k (by decide),?_⟩;simp only [Ck,hbk] at f3 ⊢;exact f3
theorem iI.eX (h:iI P es env a Y w) (k:g_ w w' 33 Y):iI P es env a Y w':=by
 obtain ⟨EA,ec,VA,vc,bs,h⟩:=h;exact ⟨EA,ec,VA,vc,bs,h.eX k⟩
theorem dO.bW {U:TypeId} {vs:List PV} {xs:List Pt} (h:dO w Y vs xs) (k:g_ w w' U Y) (h1:U≠49):dO w' Y vs xs:=⟨h.1,fun i v p hv hp=>(h.2 i v p hv hp).bW k h1⟩
theorem rA.put (h:rA P es env a EA ec VA vc bs Y w) (a2:Nat):
  rA P es env a2 EA ec VA vc bs Y (w.setCell ⟨P,1,none⟩ (.int .i64 (a2:Int)))/\Fr Y w (w.setCell ⟨P,1,none⟩ (.int .i64 (a2:Int))):=by
 have hf:=dY w P 1 (.int .i64 (a2:Int));have hf2:Fr Y w (w.setCell ⟨P,1,none⟩ (.int .i64 (a2:Int))):=hf.mono fun q hq=>(h.y q).2 (.inl hq);exact ⟨⟨by rw [heap_set h.blk 1];rfl,aB.fr h.own hf h.np,h.ex.fr hf2 fun q hq=>.inl hq,h.eo,h.en.fr hf2 fun q hq=>.inl hq,h.y,h.np,h.el,h.vl⟩,hf2⟩
theorem rA.app {e2:Env} {A5:Option Addr} {c5:Nat} {ls:List Bn} {w5:World} (h:rA P es env a EA ec VA vc bs Y w) (hown:Bl w5 0 A5 c5 (bs++ls)) (hg:w.grownBy w5 ((fq VA bs.length vc).ownBlock))
  (hA:(fq A5 (bs.length+ls.length) c5).ownBlock=(fq VA bs.length vc).ownBlock\/(fq A5 (bs.length+ls.length) c5).ownBlock=some w.heap.size) (k:dX w Y ls e2) (hv:env.length+e2.length<=1000000):
  rA P es (env++e2) a EA ec A5 c5 (bs++ls) (YW P A5) (w5.setCell ⟨P,2,none⟩ (.slice A5 (bs.length+ls.length) c5))/\Fr Y w (w5.setCell ⟨P,2,none⟩ (.slice A5 (bs.length+ls.length) c5))/\ah Y (YW P A5) w/\
   w5.cell? ⟨P,2,none⟩=some (.slice VA bs.length vc)/\w5.frozen? ⟨P,2,none⟩=false:=by
 have hP:=h.lt P ((h.y P).2 (.inl rfl))
 have hb:w5.heap[P]?=w.heap[P]?:=hg.block P hP fun e=>by
  obtain ⟨b,hb,e2⟩:=cK e.symm;exact h.np b hb e2
 have hblk:=hb.trans h.blk
 have hne:∀b,A5=some b->b.block≠P:=by
  rintro b rfl;simp only [fA] at hA;rcases hA with e|e
  ·obtain ⟨a2,rfl,e2⟩:=cK e.symm
   rw [<-e2];exact h.np a2 rfl
  ·injection e with e
   omega
 have hyn:ah Y (YW P A5) w:=by
  rintro q (rfl|⟨b,rfl,rfl⟩)
  ·exact .inl ((h.y _).2 (.inl rfl))
  ·simp only [fA] at hA
   rcases hA with e|e
   ·obtain ⟨a2,rfl,e2⟩:=cK e.symm
    exact .inl ((h.y _).2 (.inr ⟨a2,rfl,e2⟩))
   ·injection e with e
    exact .inr (by omega)
 have hf:Fr Y w (w5.setCell ⟨P,2,none⟩ (.slice A5 (bs.length+ls.length) c5)):=by
  refine Fr.setCell (Fr.grown hg fun q e=>?_) (.inl ((h.y _).2 (.inl rfl))) _;obtain ⟨b,hb,e2⟩:=cK e;exact (h.y q).2 (.inr ⟨b,hb,e2⟩)
 refine ⟨⟨?_,?_,h.ex.fr hf hyn,fun a ha q hq=>?_,dX.app (h.en.fr hf hyn) (k.fr hf hyn),fun q=>Iff.rfl,hne,h.el,by rw [jX];exact hv⟩,hf,hyn,by simp [Ck,hblk],by simp [EJ,hblk]⟩
 ·rw [heap_set hblk 2,jX]
  rfl
 ·exact aB.fr hown (dY w5 P 2 _) hne
 ·rcases hyn q hq with h5|h5
  ·exact h.eo a ha q h5
  ·have:=h.eo a ha P ((h.y P).2 (.inl rfl))
   omega
theorem rA.cut {e2:Env} {n:Nat} (h:rA P es (env++e2) a EA ec VA vc bs Y w) (hn:n=env.length):
  rA P es env a EA ec VA vc (bs.take n) Y (w.setCell ⟨P,2,none⟩ (.slice VA n vc))/\Fr Y w (w.setCell ⟨P,2,none⟩ (.slice VA n vc))/\n<=bs.length/\n<=vc:=by
 subst hn;have hl:bs.length=env.length+e2.length:=by rw [h.en.1,jX]
 have hlt:(bs.take env.length).length=env.length:=by rw [List.length_take,hl];omega
 have hf2:Fr Y w (w.setCell ⟨P,2,none⟩ (.slice VA env.length vc)):=(dY w P 2 _).mono fun q hq=>(h.y q).2 (.inl hq);refine ⟨⟨?_,?_,h.ex.fr hf2 fun q hq=>.inl hq,h.eo,dX.take (h.en.fr hf2 fun q hq=>.inl hq),h.y,h.np,h.el,?_⟩,hf2,by omega,?_⟩
 ·rw [heap_set h.blk 2,hlt]
  rfl
 ·exact aB.fr (aB.cut rX h.own (by omega)) (dY w P 2 _) h.np
 ·have:=h.vl
  rw [jX] at this;omega
 ·have:=aB.l7 h.own
  omega
structure aS (w:World) (Y:Nat->Prop) (b:Nat) (cs:Array Value) (T:TypeId):Prop where
 blk:w.heap[b]?=some (.cells cs T (0,0))
 ny:¬Y b
theorem aS.lt {b:Nat} {cs:Array Value} {T:TypeId} (h:aS w Y b cs T):b<w.heap.size:=(aaj.1 h.blk).1
theorem aS.fr {b:Nat} {cs:Array Value} {T:TypeId} (h:aS w Y b cs T) (hf:Fr Y w w') (hY:ah Y Y' w):aS w' Y' b cs T:=
 ⟨(hf.block b h.lt h.ny).trans h.blk,fun h2=>by
  rcases hY b h2 with h3|h3
  ·exact h.ny h3
  ·have:=h.lt
   omega⟩
theorem aS.new (hlt:∀q,Y q->q<w.heap.size) (cs:Array Value) (T:TypeId):aS (w.alloc (.cells cs T)) Y w.heap.size cs T:=
 ⟨heap_alloc_new _ _,fun h=>by have:=hlt _ h;omega⟩
theorem aS.below {b:Nat} {cs:Array Value} {T:TypeId} (h:aS w Y b cs T) (hb:Below w.heap.size w w'):aS w' Y b cs T:=h.fr (Fr.below hb) (ah.refl _ _)
def set2 (w:World) (R:Nat) (x y:Value):World:=(w.setCell ⟨R,0,none⟩ x).setCell ⟨R,1,none⟩ y
theorem aS.ai5 {R:Nat} {x0 y0:Value} {T:TypeId} (h:aS w Y R #[x0,y0] T) (hP:Y P) (hR:P<R) (x y:Value):
  g_ w (set2 w R x y) T Y/\Fr (fun q=>q=R) w (set2 w R x y)/\(set2 w R x y).heap[R]?=some (.cells #[x,y] T (0,0)):=by
 have hf:Fr (fun q=>q=R) w (set2 w R x y):=(dY _ _ _ _).trans (dY _ _ _ _);refine ⟨⟨hf.os,hf.tape,hf.output,hf.size,fun k hk ho=>hf.block k hk fun e=>ho ⟨?_,fun h5=>?_⟩⟩,hf,?_⟩
 ·rw [e]
  exact ⟨_,_,h.blk⟩
 ·have:=h5 P hP
  omega
 ·unfold set2
  rw [heap_set (heap_set h.blk 0 _) 1];rfl
end
theorem EI {P R:Nat} {es:List Pt} {env:Env} {Y Y1:Nat->Prop} {w w1:World} {r:dV} {A TA:Option Addr} {c tc:Nat} {x0 y0:Value} (hf:Fr Y w w1) (hy:ah Y Y1 w) (hk:iI P es env r.2.2 Y1 w1) (hR:aS w1 Y1 R #[x0,y0] 65) (hPR:P<R) (hRw:w.heap.size<=R)
  (hx:bP w1 Y1 A c r.1) (ht:aA w1 Y1 TA tc r.2.1) (hA:∀a,A=some a->w.heap.size<=a.block):
  bU P es env Y r w (.returned (.agg #[.slice A r.1.length c,.slice TA r.2.1.length tc])) (set2 w1 R (.slice A r.1.length c) (.slice TA r.2.1.length tc))/\
   (set2 w1 R (.slice A r.1.length c) (.slice TA r.2.1.length tc)).cell? ⟨R,0,none⟩=some (.slice A r.1.length c)/\(set2 w1 R (.slice A r.1.length c) (.slice TA r.2.1.length tc)).cell? ⟨R,1,none⟩=some (.slice TA r.2.1.length tc):=by
 obtain ⟨ho,hf2,hb⟩:=hR.ai5 hk.yP hPR (.slice A r.1.length c) (.slice TA r.2.1.length tc);refine ⟨⟨Y1,hf.new hf2 fun b e=>.inr (by rw [e];exact hRw),hy,hk.bW ho (by decide) (by decide) (by decide) (by decide),A,c,TA,tc,rfl,hx.bW ho (by decide) (by decide),ht.bW ho (by decide),hA⟩,by simp [Ck,hb],by simp [Ck,hb]⟩
theorem sP (P:Nat) (es:List Pt) (nx:kP) (HN:Hid (lg P es nx)) (env e2:Env) (a:Nat) (r:dV) (LA:Option Addr) (lc:Nat) (ls:List Bn) (Y:Nat->Prop) (w:World) (h:iI P es env a Y w) (hr:mK w w.heap.size LA ls) (he:dX w Y ls e2) (hl:e2.length<=2) (hvl:env.length<=900000) (hn:nx (env++e2) a=some r):
  Calls Tryz.prog 81 #[pk P,.slice LA ls.length lc] w (bU P es env Y r w):=by
 have hlt:=h.lt;have OO:=hlt P h.yP;obtain ⟨w1,hw1⟩:∃w1,w1=w.alloc (.cells #[.slice none 0 0,.slice none 0 0] 65):=⟨_,rfl⟩;obtain ⟨R,hR⟩:∃R,R=w.heap.size:=⟨_,rfl⟩;have hb1:Below w.heap.size w w1:=by rw [hw1];exact aj (aF _ _) _
 have Gg:aS w1 Y R #[.slice none 0 0,.slice none 0 0] 65:=by rw [hw1,hR];exact aS.new hlt _ _
 obtain ⟨EA,ec,VA,vc,bs,hm⟩:=h.later hb1;have HR:Hid (P<R/\w.heap.size<=R/\Fr Y w w1):=aD ⟨by rw [hR];exact OO,by rw [hR];exact aG _,Fr.below hb1⟩;have HK:=aD Gg;obtain ⟨_,_,c2⟩:=hm.cells;have f2:=hm.frozen 2 (by omega);have HM:=aD hm;have NP:Hid (mK w1 w1.heap.size LA ls/\dX w1 Y ls e2/\nx (env++e2) a=some r):=aD ⟨(bf.below hr hb1).more hb1.size,he.fr (Fr.below hb1) fun q hq=>.inl hq,hn⟩;have hbl:bs.length<=900000:=by rw [hm.en.1];exact hvl
 have hll:ls.length<=2:=by rw [he.1];exact hl
 clear h hm hr he hn Gg hb1 hlt;unfold pk;go_enter Tryz.func81,Tryz.ntmps81;go_upto_region 1 with fail
 rw [<-hw1,<-hR];clear hw1 hR;go_wp2_with (at_builtin;refine vX rfl (.tmp 16) (.tmp 17) rfl 0 (m:=bs.length) (n:=ls.length) rfl rfl HM.out.own rfl rfl NP.out.1 (by omega) (Nat.zero_le _) ?_;intro A5 c5 w5 hown5 hg5 Xn;have K5:=aD (HM.out.app hown5 hg5 Xn NP.out.2.1 (by omega));have k2:=K5.out.2.2.2.1;have Qk:=K5.out.2.2.2.2;clear hown5 hg5 Xn);obtain ⟨w6,nD⟩:∃w6,w6=w5.setCell ⟨P,2,none⟩ (.slice A5 (bs.length+ls.length) c5):=⟨_,rfl⟩;rw [<-nD] at K5;rw [<-nD];clear nD k2 Qk c2 f2;have HX:=aD (HN.out (env++e2) a r _ w6 NP.out.2.2 ⟨EA,ec,A5,c5,_,K5.out.1⟩);have HK6:=aD (HK.out.fr K5.out.2.1 K5.out.2.2.1);have NH:Hid (Fr Y w w6/\ah Y (YW P A5) w):=aD ⟨HR.out.2.2.trans K5.out.2.1,ah.trans (ah.refl _ _) K5.out.2.2.1 HR.out.2.2.size⟩;unfold pk at HX;go_wp2_with fail;refine HX.out.mono ?_;rintro x w7 ⟨Y7,Ai,N7,⟨EA7,ec7,tN,vY,bs7,CO⟩,A7,c7,U9,U_,rfl,hx7,ht7,WT⟩;have HK7:=aD (HK6.out.fr Ai N7);have HF7:Hid (Fr Y w w7/\ah Y Y7 w):=aD ⟨Fr.new NH.out.1 Ai NH.out.2,ah.trans NH.out.2 N7 NH.out.1.size⟩;have Aj:Hid (bP w7 Y7 A7 c7 r.1/\aA w7 Y7 U9 U_ r.2.1/\∀a,A7=some a->w.heap.size<=a.block):=aD ⟨hx7,ht7,fun a ha=>Nat.le_trans NH.out.1.size (WT a ha)⟩;have OP:=aD CO;clear Ai N7 CO hx7 ht7 WT HX;go_upto_region 4 with fail
 obtain ⟨w8,hw8⟩:∃w8,w8=w7.alloc (.cells #[.slice A7 r.1.length c7,.slice U9 r.2.1.length U_] 65):=⟨_,rfl⟩;obtain ⟨B,hB⟩:∃B,B=w7.heap.size:=⟨_,rfl⟩;have sQ:Below w7.heap.size w7 w8:=by rw [hw8];exact aj (aF _ _) _
 have HKB:Hid (aS w8 Y7 B #[.slice A7 r.1.length c7,.slice U9 r.2.1.length U_] 65):=aD (by rw [hw8,hB];exact aS.new OP.out.lt _ _);have HC:=aD ((OP.out.later sQ).cut (n:=bs.length) HM.out.en.1);obtain ⟨_,_,c2⟩:=(OP.out.later sQ).cells;have f2:=(OP.out.later sQ).frozen 2 (by omega);have pE:=HC.out.2.2.1;have hc7:=HC.out.2.2.2;have fE:=aD sQ;rw [<-hw8,<-hB];clear hw8 hB sQ;go_upto_region 5 with fail
 obtain ⟨w9,zC⟩:∃w9,w9=w8.setCell ⟨P,2,none⟩ (.slice tN bs.length vY):=⟨_,rfl⟩;rw [<-zC] at HC ⊢;have HF9:Hid (Fr Y7 w7 w9):=aD ((Fr.below fE.out:Fr Y7 w7 w8).trans HC.out.2.1);have hKB:=HKB.out.fr HC.out.2.1 (ah.refl _ _);have Va:=(HK7.out.fr HF9.out (ah.refl _ _));have b0:w9.cell? ⟨B,0,none⟩=some (.slice A7 r.1.length c7):=by simp [Ck,hKB.blk]
 have b1:w9.cell? ⟨B,1,none⟩=some (.slice U9 r.2.1.length U_):=by simp [Ck,hKB.blk]
 have r0:w9.cell? ⟨R,0,none⟩=some (.slice none 0 0):=by simp [Ck,Va.blk]
 have r1:w9.cell? ⟨R,1,none⟩=some (.slice none 0 0):=by simp [Ck,Va.blk]
 have qQ:w9.frozen? ⟨R,0,none⟩=false:=by simp [EJ,Va.blk]
 have qR:w9.frozen? ⟨R,1,none⟩=false:=by simp [EJ,Va.blk]
 have HE:=aD (EI (r:=r) (env:=env) (es:=es) (P:=P) (Y:=Y) (w:=w) (w1:=w9) (Fr.new HF7.out.1 HF9.out HF7.out.2) HF7.out.2 ⟨EA7,ec7,tN,vY,_,HC.out.1⟩ Va HR.out.1 HR.out.2.1 (Aj.out.1.fr HF9.out (ah.refl _ _)) (Aj.out.2.1.fr HF9.out (ah.refl _ _)) Aj.out.2.2);clear zC c2 f2 hKB Va;go_wp2_with fail;obtain ⟨wz,hwz⟩:∃wz,wz=set2 w9 R (.slice A7 r.1.length c7) (.slice U9 r.2.1.length U_):=⟨_,rfl⟩;rw [<-hwz] at HE;unfold set2 at hwz;rw [<-hwz];have q0:=HE.out.2.1;have q1:=HE.out.2.2;refine bodyPost_ret (v:=.agg #[.slice A7 r.1.length c7,.slice U9 r.2.1.length U_]) (by simp [results,Tryz.results81,go_sem,q0,q1]) rfl HE.out.1
theorem qg (k:Int) (w:World):Calls Tryz.prog 87 #[.int .i64 k] w (A_ w (ay k)):=by
 go_enter Tryz.func87,Tryz.ntmps87;go_wp2_with fail;go_ret;exact ⟨_,1,rfl,uZ w ⟨k,ByteArray.empty,0⟩,aj (aF _ _) _⟩
def Gh (s:ByteArray) (w:World) (e:Ending) (w':World):Prop:=
 ∃A1 c1 A2 c2,e= .returned (.tuple #[.slice A1 (ay (dD s)).length c1,.slice A2 (ay (fM s)).length c2])/\dK w' w.heap.size A1 c1 (ay (dD s))/\dK w' w.heap.size A2 c2 (ay (fM s))/\Below w.heap.size w w'
theorem Q5 (s:ByteArray) (i k:Int) (w w1 w2:World) (A1 A2:Option Addr) (c1 c2:Nat) (hi:dD s=i) (hk:fM s=k) (h1:dK w1 w.heap.size A1 c1 (ay i)) (hb1:Below w.heap.size w w1) (h2:dK w2 w1.heap.size A2 c2 (ay k)) (hb2:Below w1.heap.size w1 w2):
  Gh s w (.returned (.tuple #[.slice A1 (ay i).length c1,.slice A2 (ay k).length c2])) w2:=by
 subst hi hk;exact ⟨A1,c1,A2,c2,rfl,aB.below h1 hb2 (aG _),aB.lower h2 hb1.size,au hb1 hb2⟩
theorem Q6 (s:ByteArray) (w:World):Calls Tryz.prog 89 #[.string s] w (Gh s w):=by
 have hcs:(s.toList==[38,38])=true\/((s.toList==[38,38])=false/\(s.toList==[124,124])=true)\/((s.toList==[38,38])=false/\(s.toList==[124,124])=false/\(s.toList==[43,43])=true)\/
   ((s.toList==[38,38])=false/\(s.toList==[124,124])=false/\(s.toList==[43,43])=false/\(s.toList==[60])=true)\/((s.toList==[38,38])=false/\(s.toList==[124,124])=false/\(s.toList==[43,43])=false/\(s.toList==[60])=false/\(s.toList==[61,61])=true)\/
   ((s.toList==[38,38])=false/\(s.toList==[124,124])=false/\(s.toList==[43,43])=false/\(s.toList==[60])=false/\(s.toList==[61,61])=false):=by
  cases s.toList==[38,38]<;>cases s.toList==[124,124]<;>cases s.toList==[43,43]<;>cases s.toList==[60]<;>cases s.toList==[61,61]<;>simp
 have hcs2:∃i k,Hid (dD s=i/\fM s=k)/\((s.toList==[38,38])=true/\i=2/\k=2\/((s.toList==[38,38])=false/\(s.toList==[124,124])=true/\i=2/\k=2)\/((s.toList==[38,38])=false/\(s.toList==[124,124])=false/\(s.toList==[43,43])=true/\i=3/\k=3)\/
   ((s.toList==[38,38])=false/\(s.toList==[124,124])=false/\(s.toList==[43,43])=false/\(s.toList==[60])=true/\i=1/\k=2)\/((s.toList==[38,38])=false/\(s.toList==[124,124])=false/\(s.toList==[43,43])=false/\(s.toList==[60])=false/\(s.toList==[61,61])=true/\i=1/\k=2)\/
   ((s.toList==[38,38])=false/\(s.toList==[124,124])=false/\(s.toList==[43,43])=false/\(s.toList==[60])=false/\(s.toList==[61,61])=false/\i=1/\k=1)):=by
  refine ⟨dD s,fM s,aD ⟨rfl,rfl⟩,?_⟩;rcases hcs with h1|⟨h1,h2⟩|⟨h1,h2,h3⟩|⟨h1,h2,h3,h4⟩|⟨h1,h2,h3,h4,h5⟩|⟨h1,h2,h3,h4,h5⟩
  ·have e:s.toList=[38,38]:=by simpa using h1
   exact .inl ⟨h1,by simp [dD,e],by simp [fM,dD,e]⟩
  ·have e:s.toList=[124,124]:=by simpa using h2
   exact .inr (.inl ⟨h1,h2,by simp [dD,e],by simp [fM,dD,e]⟩)
  ·have e:s.toList=[43,43]:=by simpa using h3
   exact .inr (.inr (.inl ⟨h1,h2,h3,by simp [dD,e],by simp [fM,dD,e]⟩))
  ·have e:s.toList=[60]:=by simpa using h4
   exact .inr (.inr (.inr (.inl ⟨h1,h2,h3,h4,by simp [dD,e],by simp [fM,e]⟩)))
  ·have e:s.toList=[61,61]:=by simpa using h5
   exact .inr (.inr (.inr (.inr (.inl ⟨h1,h2,h3,h4,h5,by simp [dD,e],by simp [fM,e]⟩))))
  ·have n1:¬s.toList=[38,38]:=by simpa using h1
   have n2:¬s.toList=[124,124]:=by simpa using h2
   have n3:¬s.toList=[43,43]:=by simpa using h3
   have n4:¬s.toList=[60]:=by simpa using h4
   have n5:¬s.toList=[61,61]:=by simpa using h5
   exact .inr (.inr (.inr (.inr (.inr ⟨h1,h2,h3,h4,h5,by simp [dD,n1,n2,n3],by simp [fM,dD,n1,n2,n3,n4,n5]⟩))))
 obtain ⟨i,k,HIK,ai8⟩:=hcs2;clear hcs;rcases ai8 with ⟨h1,rfl,rfl⟩|⟨h1,h2,rfl,rfl⟩|⟨h1,h2,h3,rfl,rfl⟩|⟨h1,h2,h3,h4,rfl,rfl⟩|⟨h1,h2,h3,h4,h5,rfl,rfl⟩|⟨h1,h2,h3,h4,h5,rfl,rfl⟩
 all_goals
  go_enter Tryz.func89,Tryz.ntmps89;go_wp2_with fail;refine (qg _ _).mono ?_;rintro e w1 ⟨A1,c1,rfl,hown1,hb1⟩;have H1:=aD (Cj hown1 hb1);clear hown1 hb1;go_wp2_with fail;refine (qg _ _).mono ?_;rintro e w2 ⟨A2,c2,rfl,hown2,hb2⟩;have HQ:=aD (Q5 s _ _ w w1 w2 A1 A2 c1 c2 HIK.out.1 HIK.out.2 H1.out.1 H1.out.2 hown2 hb2);clear hown2 hb2;go_wp2_with fail;go_ret2;exact HQ.out
def ab0 (w:World) (Y:Nat->Prop) (vs:List (Option Addr×Nat×Nat)) (xss:List (List Nd)):Prop:=
 vs.length=xss.length/\∀(i:Nat) (v:Option Addr×Nat×Nat) (xs:List Nd),vs[i]?=some v->xss[i]?=some xs->v.2.1=xs.length/\aA w Y v.1 v.2.2 xs
def adS (Y:Nat->Prop) (t:List Nd) (w:World) (e:Ending) (w':World):Prop:=Below w.heap.size w w'/\∃A c,e= .returned (.slice A t.length c)/\aA w' Y A c t
theorem JX (A:Option Addr) (c:Nat) (vs:List (Option Addr×Nat×Nat)) (t:List Nd) (ts:List (List Nd)) (m:List Nd) (Y:Nat->Prop) (w:World) (hr:jU w w.heap.size A vs) (hS:ab0 w Y vs (t::ts)) (hlt:∀q,Y q->q<w.heap.size) (hc:vs.length<=c) (hv:vs.length<=1000) (hgt:Gd t) (hgs:∀u∈ts,Gd u) (hm:bT 0 t ts=some (.ok m)):
  Calls Tryz.prog 86 #[.slice A vs.length c] w (adS Y m w):=by
 have hvl:vs.length=ts.length+1:=by rw [hS.1];simp
 obtain ⟨v0,hv0⟩:=aN (show 0<vs.length by omega);obtain ⟨b,o,rfl,hb,c0⟩:=hr.slice hv0;obtain ⟨hl0,hT0⟩:=hS.2 0 v0 t hv0 rfl
 have HR:Hid (∀i v,vs[i]?=some v->w.cell? ⟨b,o+i,none⟩=some (.slice v.1 v.2.1 v.2.2)):=aD fun i v hvi=>by
  obtain ⟨b2,o2,e1,_,h3⟩:=hr.slice hvi;injection e1 with e1
  injection e1 with e1 e2
  subst e1 e2;exact h3
 have H:=aD (Cj hS (Cj hlt hgs));have H0:=aD (Cj hT0 (Cj hgt hm));rw [Nat.add_zero,hl0] at c0;have hc1:ts.length+1<=c:=by omega
 have hts:ts.length<=1000:=by omega
 rw [hvl];clear hr hS hlt hgs hT0 hgt hm hv0 hl0 hvl hc hv;by_cases hc2:c=1
 ·subst hc2
  have hz:ts.length=0:=by omega
  have HZ:Hid (m=t):=aD (by
   have h1:=H0.out.2.2;rw [List.eq_nil_of_length_eq_zero hz] at h1;unfold bT at h1;injection h1 with h1
   injection h1 with h1
   exact h1.symm)
  rw [hz];clear hz hc1 hts;go_enter Tryz.func86,Tryz.ntmps86;go_wp2_with fail;go_loopw [3,12] (fun o3 i12 wr=>o3= .slice v0.1 t.length v0.2.2/\i12= .int .i64 0/\wr=w) (fun _ _ _=>0)
  case atStart=>exact ⟨rfl,rfl,rfl⟩
  case round=>
   obtain ⟨rfl,rfl,rfl⟩:=hrel;go_wp2_with fail;go_ret;rw [HZ.out];exact ⟨aF _ _,_,_,rfl,H0.out.1⟩
 ·have hcb:(c==1)=false:=by simpa using hc2
  go_enter Tryz.func86,Tryz.ntmps86;go_wp2_with fail;go_loopw [3,12] (fun o3 i12 wr=>∃(k:Nat) (O:Option Addr) (oc:Nat) (x:List Nd),o3= .slice O x.length oc/\i12= .int .i64 k/\k<=ts.length/\Hid (aA wr Y O oc x/\Gd x/\Below w.heap.size w wr/\bT 0 x (ts.drop k)=some (.ok m))) (fun _ i12 _=>ts.length-(Lib.intOf i12).toNat)
  case atStart=>exact ⟨0,_,_,t,rfl,rfl,Nat.zero_le _,aD ⟨H0.out.1,H0.out.2.1,aF _ _,H0.out.2.2⟩⟩
  case round=>
   obtain ⟨k,O,oc,x,rfl,rfl,hk,HI⟩:=hrel;by_cases hkt:k<ts.length
   ·obtain ⟨u,hu⟩:=aN hkt
    obtain ⟨v,hvk⟩:=aN (show k+1<vs.length by rw [H.out.1.1];simp;omega);obtain ⟨hvl,hTv⟩:=H.out.1.2 (k+1) v u hvk (by simpa using hu);have cv:=(HI.out.2.2.1.cell (p:=⟨b,o+(k+1),none⟩) hb).trans (HR.out (k+1) v hvk);rw [hvl,show o+(k+1)=o+1+k by omega] at cv;have Yl:=hTv.fr (Fr.below HI.out.2.2.1:Fr Y w wr) fun q hq=>.inl hq;have Gi:=aD (JF O v.1 oc v.2.2 x u wr HI.out.1.ty.eY Yl.ty.eY HI.out.2.1 (H.out.2.2 u (List.mem_of_getElem? hu)) HI.out.1.cap Yl.cap);have Ls:Hid (k+1<=ts.length):=aD hkt;have hst:=HI.out.2.2.2;rw [List.drop_eq_getElem_cons hkt,(List.getElem?_eq_some_iff.1 hu).2] at hst
    have HSt:Hid (∃y,met 1 x u=some y/\Gd y/\bT 0 y (ts.drop (k+1))=some (.ok m)):=aD (by
     unfold bT at hst
     cases hmt:met 1 x u with
     |none=>rw [hmt] at hst;cases hst
     |some y=>
      rw [hmt] at hst;dsimp only at hst;by_cases hg:Gd y
      ·rw [if_pos hg] at hst
       exact ⟨y,rfl,hg,hst⟩
      ·rw [if_neg hg] at hst
       cases hst)
    obtain ⟨y,hy,hgy,hmy⟩:=HSt.out;have HY:=aD (Cj hy (Cj hgy hmy));clear hu hvk hvl hTv Yl hst hy hgy hmy HSt c0;go_wp2_with fail;refine Gi.out.mono ?_;rintro e w2 ⟨hb2,hq⟩;rw [HY.out.1] at hq;obtain ⟨A2,c2,rfl,hown⟩:=hq;have HN:Hid (aA w2 Y A2 c2 y/\Gd y/\Below w.heap.size w w2/\bT 0 y (ts.drop (k+1))=some (.ok m)):=aD ⟨aA.own hown fun q hq=>Yw (H.out.2.1 q hq) HI.out.2.2.1.size,HY.out.2.1,au HI.out.2.2.1 hb2,HY.out.2.2⟩;clear hb2 hown;go_wp2_with fail;go_roundw
    case rel=>exact ⟨k+1,A2,c2,y,rfl,by go_num,Ls.out,HN⟩
    case measure=>have:=Ls.out;simp [Lib.intOf];omega
   ·have HO:Hid (m=x):=aD (by
     have h1:=HI.out.2.2.2;rw [List.drop_of_length_le (by omega)] at h1;unfold bT at h1;injection h1 with h1
     injection h1 with h1
     exact h1.symm)
    go_wp2_with fail;go_ret;rw [HO.out];exact ⟨HI.out.2.2.1,_,_,rfl,HI.out.1⟩
structure vD (P:Nat) (es:List Pt) (env:Env) (a:Nat) (Y0:Nat->Prop) (w0:World) (R B G:Nat) (p:Pt) (TA:Option Addr) (tc:Nat) (UA:Option Addr) (uc:Nat) (Y:Nat->Prop) (w:World):Prop where
 fr:Fr Y0 w0 w
 yn:ah Y0 Y w0
 wk:iI P es env a Y w
 pt:aO w Y B p TA tc UA uc
 res:aS w Y R #[.slice none 0 0,.slice none 0 0] 65
 pr:P<w0.heap.size
 rw:w0.heap.size<=R
 rb:R<B
 bg:B<G
 here:aS w Y G #[.int .i64 p.k,.string p.lb,.string p.nm,.string p.bd,.int .i64 p.mn,.int .i64 p.num,.slice TA p.T.length tc,.slice UA p.U.length uc] 33
 gw:w0.heap.size<=G
structure jr (w0:World) (b:Nat) (A:Option Addr) (c:Nat) (x:List Pt) (TA:Option Addr) (tc:Nat) (t:List Nd) (Y:Nat->Prop) (w:World):Prop where
 box:aS w Y b #[.slice A x.length c,.slice TA t.length tc] 65
 ex:bP w Y A c x
 ty:aA w Y TA tc t
 nw:∀a,A=some a->w0.heap.size<=a.block
section
variable {P a a':Nat} {es:List Pt} {env:Env} {Y0 Y Y':Nat->Prop} {w0 w w':World} {R B G:Nat} {p:Pt} {TA UA:Option Addr} {tc uc:Nat}
theorem vD.step (h:vD P es env a Y0 w0 R B G p TA tc UA uc Y w) (hf:Fr Y w w') (hy:ah Y Y' w) (hk:iI P es env a' Y' w'):vD P es env a' Y0 w0 R B G p TA tc UA uc Y' w':=
 ⟨Fr.new h.fr hf h.yn,ah.trans h.yn hy h.fr.size,hk,h.pt.fr hf hy,h.res.fr hf hy,h.pr,h.rw,h.rb,h.bg,h.here.fr hf hy,h.gw⟩
theorem vD.later (h:vD P es env a Y0 w0 R B G p TA tc UA uc Y w) (hb:Below w.heap.size w w'):vD P es env a Y0 w0 R B G p TA tc UA uc Y w':=h.step (Fr.below hb) (ah.refl _ _) (h.wk.later hb)
theorem jr.step {b:Nat} {A TX:Option Addr} {c tx:Nat} {x:List Pt} {t:List Nd} (h:jr w0 b A c x TX tx t Y w) (hf:Fr Y w w') (hy:ah Y Y' w):jr w0 b A c x TX tx t Y' w':=⟨h.box.fr hf hy,h.ex.fr hf hy,h.ty.fr hf hy,h.nw⟩
theorem jr.later {b:Nat} {A TX:Option Addr} {c tx:Nat} {x:List Pt} {t:List Nd} (h:jr w0 b A c x TX tx t Y w) (hb:Below w.heap.size w w'):jr w0 b A c x TX tx t Y w':=h.step (Fr.below hb) (ah.refl _ _)
theorem jr.cells {b:Nat} {A TX:Option Addr} {c tx:Nat} {x:List Pt} {t:List Nd} (h:jr w0 b A c x TX tx t Y w):w.cell? ⟨b,0,none⟩=some (.slice A x.length c)/\w.cell? ⟨b,1,none⟩=some (.slice TX t.length tx):=⟨by simp [Ck,h.box.blk],by simp [Ck,h.box.blk]⟩
theorem vD.own (h:vD P es env a Y0 w0 R B G p TA tc UA uc Y w):gV w w0.heap.size (some ⟨G,0,none⟩) 1 [⟨p.k,p.lb,p.nm,p.bd,p.mn,p.num,TA,p.T.length,tc,UA,p.U.length,uc⟩]:=
 ⟨rfl,.inr ⟨G,1,_,rfl,h.gw,h.here.blk,aG _,by simp [maxLen],rfl,rfl⟩⟩
theorem vD.prt (h:vD P es env a Y0 w0 R B G p TA tc UA uc Y w):dO w Y [⟨p.k,p.lb,p.nm,p.bd,p.mn,p.num,TA,p.T.length,tc,UA,p.U.length,uc⟩] [p]:=dO.cons ⟨rfl,rfl,rfl,rfl,rfl,rfl,rfl,rfl,h.pt.T,h.pt.U⟩ dO.nil
theorem vD.ex (h:vD P es env a Y0 w0 R B G p TA tc UA uc Y w):bP w Y (some ⟨G,0,none⟩) 1 [p]:=by
 refine ⟨_,fun hne=>?_,h.prt,aG _⟩;obtain ⟨b,o,hA,hb,hc⟩:=aB.read iT h.own hne;injection hA with hA
 injection hA with e1 e2
 subst e1 e2;exact ⟨_,_,rfl,hb,h.here.ny,⟨_,_,h.here.blk⟩,hc⟩
theorem vD.done (h:vD P es env a Y0 w0 R B G p TA tc UA uc Y w) {r:dV} {A TX:Option Addr} {c tx:Nat} (ha:r.2.2=a) (hx:bP w Y A c r.1) (ht:aA w Y TX tx r.2.1) (hA:∀a,A=some a->w0.heap.size<=a.block):
  bU P es env Y0 r w0 (.returned (.agg #[.slice A r.1.length c,.slice TX r.2.1.length tx])) (set2 w R (.slice A r.1.length c) (.slice TX r.2.1.length tx))/\
   (set2 w R (.slice A r.1.length c) (.slice TX r.2.1.length tx)).cell? ⟨R,0,none⟩=some (.slice A r.1.length c)/\(set2 w R (.slice A r.1.length c) (.slice TX r.2.1.length tx)).cell? ⟨R,1,none⟩=some (.slice TX r.2.1.length tx):=
 EI h.fr h.yn (by rw [ha];exact h.wk) h.res (by have:=h.pr;have:=h.rw;omega) h.rw hx ht hA
theorem vD.jF (h:vD P es env a Y0 w0 R B G p TA tc UA uc Y w):w.cell? ⟨R,0,none⟩=some (.slice none 0 0)/\w.cell? ⟨R,1,none⟩=some (.slice none 0 0)/\w.frozen? ⟨R,0,none⟩=false/\w.frozen? ⟨R,1,none⟩=false:=
 ⟨by simp [Ck,h.res.blk],by simp [Ck,h.res.blk],by simp [EJ,h.res.blk],by simp [EJ,h.res.blk]⟩
theorem uJ.S9 {A:Option Addr} {c base:Nat} {vs:List PV} (h:gV w base A c vs) (hn:∀a,A=some a->¬Y a.block):uJ w Y A vs:=fun hne=>by
 obtain ⟨b,o,hA,hb,hc⟩:=aB.read iT h hne;exact ⟨b,o,hA,hb,hn _ hA,aB.qK h hA,hc⟩
theorem vD.app (h:vD P es env a Y0 w0 R B G p TA tc UA uc Y w) {A2:Option Addr} {c2:Nat} {vs:List PV} {x:List Pt} (hpm:dO w Y vs x) (hown:gV w' w0.heap.size A2 c2 ([⟨p.k,p.lb,p.nm,p.bd,p.mn,p.num,TA,p.T.length,tc,UA,p.U.length,uc⟩]++vs)) (hg:w.grownBy w' ((fq (some ⟨G,0,none⟩) 1 1).ownBlock))
  (hd:(fq A2 (1+vs.length) c2).ownBlock=(fq (some ⟨G,0,none⟩) 1 1).ownBlock\/(fq A2 (1+vs.length) c2).ownBlock=some w.heap.size):
  g_ w w' 33 Y/\Fr (fun q=>q=G) w w'/\iI P es env a Y w'/\aS w' Y R #[.slice none 0 0,.slice none 0 0] 65/\aO w' Y B p TA tc UA uc/\Fr Y0 w0 w'/\bP w' Y A2 c2 (p::x)/\∀a,A2=some a->w0.heap.size<=a.block:=by
 have hgo:(fq (some ⟨G,0,none⟩) 1 1).ownBlock=some G:=rfl;rw [hgo] at hg hd;have ho:g_ w w' 33 Y:=g_.grown (cap:=1) (n:=1) h.own rfl (by rw [hgo];exact hg) h.wk.yP (Nat.le_of_lt h.pr);have hf:Fr (fun q=>q=G) w w':=Fr.grown hg fun k hk=>by injection hk with hk;exact hk.symm
 have h1:=h.rw;have h2:=h.rb;have h3:=h.bg;have hR:=(hf.block R h.res.lt (by omega)).trans h.res.blk;have hBl:B<w.heap.size:=(aaj.1 h.pt.blk).1;refine ⟨ho,hf,h.wk.eX ho,⟨hR,h.res.ny⟩,⟨(hf.block B hBl (by omega)).trans h.pt.blk,h.pt.off,h.pt.T.bW ho (by decide),h.pt.U.bW ho (by decide)⟩,h.fr.new hf (fun b e=>.inr (by rw [e];exact h.gw)),⟨_,uJ.S9 hown fun a ha=>?_,?_,?_⟩,fun a ha=>(aB.lt hown a ha).1⟩
 ·subst ha
  simp only [fA] at hd;rcases hd with e|e
  ·injection e with e
   rw [e];exact h.here.ny
  ·injection e with e
   rw [e];exact fun hy=>by have:=h.wk.lt _ hy;omega
 ·exact dO.cons (by have:=(h.prt.bW ho (by decide)).2 0 _ _ rfl rfl;exact this) (hpm.bW ho (by decide))
 ·have:=aB.l7 hown
  have hl:=hpm.1;simp at this ⊢;omega
theorem yA {r:dV} (hfr:Fr Y0 w0 w) (hyn:ah Y0 Y w0) (hk:iI P es env r.2.2 Y w) (hR:aS w Y R #[.slice none 0 0,.slice none 0 0] 65) (hpr:P<w0.heap.size) (hrw:w0.heap.size<=R) {A TX:Option Addr} {c tx:Nat} (hx:bP w Y A c r.1) (ht:aA w Y TX tx r.2.1) (hA:∀a,A=some a->w0.heap.size<=a.block):
  bU P es env Y0 r w0 (.returned (.agg #[.slice A r.1.length c,.slice TX r.2.1.length tx])) (set2 w R (.slice A r.1.length c) (.slice TX r.2.1.length tx))/\
   (set2 w R (.slice A r.1.length c) (.slice TX r.2.1.length tx)).cell? ⟨R,0,none⟩=some (.slice A r.1.length c)/\(set2 w R (.slice A r.1.length c) (.slice TX r.2.1.length tx)).cell? ⟨R,1,none⟩=some (.slice TX r.2.1.length tx):=
 EI hfr hyn hk hR (by omega) hrw hx ht hA
end
def fF (x:Option dV) (f:List Pt->List Nd->Nat->Option dV):Option dV:=
 match x with
 |none=>none
 |some (x,t,b)=>f x t b
theorem bH {x:Option dV} {f:List Pt->List Nd->Nat->Option dV} {r:dV} (h:fF x f=some r):∃y t b,x=some (y,t,b)/\f y t b=some r:=by
 match x,h with
 |some (y,t,b),h=>exact ⟨y,t,b,rfl,h⟩
def OQ (p:Pt) (a:Nat):Option dV:=some ([p],p.T,a)
def Ap (env:Env) (p:Pt) (a:Nat):Option dV:=(lY env p.nm).map fun t=>([p],t,a)
def Gj (nx:kP) (env:Env) (p:Pt) (a:Nat):Option dV:=fF (nx (env++[(p.bd,p.T)]) a) fun x t b=>some (p::x,aW p.T t,b)
def Gl (nx:kP) (env:Env) (p:Pt) (a:Nat):Option dV:=
 fF (nx env a) fun x t b=>fF (nx (env++[(p.bd,p.T)]) b) fun y u c=>some (p::(toM x t p.T++y),u,c)
def Gm (nx:kP) (env:Env) (p:Pt) (a:Nat):Option dV:=
 fF (nx (env++[(p.nm,aW p.T p.U),(p.bd,p.T)]) a) fun x t b=>fF (nx (env++[(p.nm,aW p.T p.U)]) b) fun y u c=>some (p::(toM x t p.U++y),u,c)
def aV (t:List Nd):List Nd:=if (aQ t).k=0 then aW (ay 0) (ay 0) else t
def Aq (nx:kP) (env:Env) (p:Pt) (a:Nat):Option dV:=
 fF (nx env a) fun c t b=>fF (nx env b) fun x u d=>fF (nx env d) fun y v e=>
  match bT 0 u [v] with
  |some (.ok m)=>if m.length<=5000000 then some (p::(toM c t (ay 2)++(toM x u m++toM y v m)),m,e) else none
  |_=>none
def Q7 (nx:kP) (env:Env) (p:Pt) (a:Nat):Option dV:=
 fF (nx env a) fun x t b=>fF (nx env b) fun y u c=>some (p::(toM x t (ay (dD p.nm))++toM y u (ay (dD p.nm))),ay (fM p.nm),c)
def Gn (nx:kP) (env:Env) (p:Pt) (a:Nat):Option dV:=
 fF (nx env a) fun x t b=>match bJ t p.nm with
  |none=>none
  |some u=>some (p::x,u,b)
def Gp (nx:kP) (env:Env) (p:Pt) (a:Nat):Option dV:=
 fF (nx env a) fun x t b=>match bJ p.T p.nm with
  |none=>none
  |some u=>if u≠[]/\u.length<=5000000 then some (p::toM x t u,p.T,b) else none
def Ym (nx:kP) (env:Env) (p:Pt) (a:Nat):Option dV:=fF (nx env a) fun x t b=>some (gP p.lb (toM x t p.T),p.T,b)
def wE (nx:kP) (env:Env) (p:Pt) (a:Nat):Option dV:=fF (nx env a) fun x _ b=>some (p::x,p.U,b)
theorem bS (x:List Pt) (t u:List Nd):(toM x t u).length<=x.length+1:=by
 unfold toM;split
 ·omega
 ·cases x<;>simp [gP]
theorem aaP {x:List Pt} {t u:List Nd} (h:x≠[]):toM x t u≠[]:=by
 unfold toM;split
 ·exact h
 ·simp
theorem nG {t:List Nd} (h:Gd t):t≠[]:=fun e=>by
 have:=h.fo.pos;rw [e] at this;simp at this
structure pI (x:List Pt) (t:List Nd):Prop where
 ne:x≠[]
 len:x.length<=100000
 gd:Gd t
 tl:t.length<=5000000
theorem pI.pJ {x:List Pt} {t:List Nd} (h:pI x t):t≠[]:=fun e=>by
 have:=h.gd.fo.pos;rw [e] at this;simp at this
theorem aS.eX {w w':World} {Y:Nat->Prop} {b:Nat} {cs:Array Value} {T U:TypeId} (h:aS w Y b cs T) (k:g_ w w' U Y) (hne:U≠T):aS w' Y b cs T:=
 ⟨(k.block b h.lt fun h5=>iE.ne h5.1 ⟨_,_,h.blk⟩ hne rfl).trans h.blk,h.ny⟩
theorem aO.lt {w:World} {Y:Nat->Prop} {b:Nat} {p:Pt} {TA UA:Option Addr} {tc uc:Nat} (h:aO w Y b p TA tc UA uc):b<w.heap.size:=(aaj.1 h.blk).1
theorem aO.ajc {w w':World} {Y:Nat->Prop} {b g:Nat} {p:Pt} {TA UA:Option Addr} {tc uc:Nat} (h:aO w Y b p TA tc UA uc) (hf:Fr (fun q=>q=g) w w') (k:g_ w w' 33 Y) (hne:b≠g):aO w' Y b p TA tc UA uc:=
 ⟨(hf.block b h.lt hne).trans h.blk,h.off,h.T.bW k (by decide),h.U.bW k (by decide)⟩
theorem aS.kR {w:World} {Y:Nat->Prop} {b:Nat} {x y:Value} {T:TypeId} (h:aS w Y b #[x,y] T):w.cell? ⟨b,0,none⟩=some x/\w.cell? ⟨b,1,none⟩=some y:=⟨by simp [Ck,h.blk],by simp [Ck,h.blk]⟩
section
variable {w:World} {o:Oper} {a:Act} {K:Act->World->Prop} {Q:Exit->Act->World->Prop}
theorem Gq (s x:Operand) (ho:o.op= .call {callee:=.builtin .append,args:=#[s,x],argTypes:=#[24,24]})
  (base:Nat) {A:Option Addr} {cap m n:Nat} {l:List PV} (hm:l.length=m) (hs:a.eval s= .slice A m cap) (hown:gV w base A cap l) {B:Nat} {A2:Option Addr} {c:Nat} {l2:List PV} (hn:l2.length=n) (hx:a.eval x= .slice A2 n c) (hr:wC w B A2 l2)
  {k:Nat} (hk:m+n=k) (hlen:k<=10000000000) (hbase:base<=w.heap.size)
  (h:∀A' cap' w',gV w' base A' cap' (l++l2)->w.grownBy w' ((fq A m cap).ownBlock)->
   ((fq A' (m+l2.length) cap').ownBlock=(fq A m cap).ownBlock\/(fq A' (m+l2.length) cap').ownBlock=some w.heap.size)->K (a.put o.dst (.slice A' k cap')) w'):o.wp Tryz.prog a w K Q:=by
 subst hm hn hk;obtain ⟨i0,hi,hz0,hz1,hz2⟩:=info_parts infoP;exact vP w iT CY s x 24 ho base 33 i0 _ 120 Tryz.underlying24 hi hz0 hz1 hz2 rfl (by decide) hs hown hx hr (by unfold maxLen;omega) (by omega) hbase h
end
theorem OT {w:World} {Y:Nat->Prop}:∀(L:List (Option Addr×Nat×List Pt)),(∀q∈L,bP w Y q.1 q.2.1 q.2.2)->∃xss:List (List PV),xss.length=L.length/\(∀(i:Nat) (q:Option Addr×Nat×List Pt) (xs:List PV),L[i]?=some q->xss[i]?=some xs->uJ w Y q.1 xs/\xs.length=q.2.2.length)/\dO w Y xss.flatten (L.flatMap fun q=>q.2.2)
 |[],_=>⟨[],rfl,fun i q xs h=>by simp at h,dO.nil⟩
 |q::L,h=>by
  obtain ⟨vs,h1,h2,_⟩:=h q (by simp);obtain ⟨xss,h3,h4,h5⟩:=OT L fun q hq=>h q (by simp [hq]);refine ⟨vs::xss,by simp [h3],fun i r xs hr hx=>?_,?_⟩
  ·cases i with
   |zero=>
    simp at hr hx;subst hr hx
    exact ⟨h1,h2.1⟩
   |succ i=>exact h4 i r xs (by simpa using hr) (by simpa using hx)
  ·rw [List.flatten_cons,List.flatMap_cons]
   exact h2.app h5
def bQ (L:List (Option Addr×Nat×List Pt)):Array Value:=(L.map fun q=>fq q.1 q.2.2.length q.2.1).toArray
theorem Vb (w:World) (L:List (Option Addr×Nat×List Pt)):jU (w.alloc (.cells (bQ L) 24)) (w.heap.size+1) (some ⟨w.heap.size,0,none⟩) (L.map fun q=>(q.1,q.2.2.length,q.2.1)):=fun _=>by
 refine ⟨w.heap.size,0,rfl,by omega,fun i x hx j u hu=>?_⟩
 have hj:j=0:=by
  have:=aU hu;rw [jI] at this;omega
 subst hj;rw [TW] at hx
 cases hq:L[i]? with
 |none=>rw [hq] at hx;cases hx
 |some q=>
  rw [hq] at hx;simp at hx;subst hx;simp [encS] at hu;subst hu;have hb:=heap_alloc_new w (.cells (bQ L) 24);simp only [Ck,hb];simp [bQ,hq]
theorem fD (L:List (Option Addr×Nat×List Pt)) (Y:Nat->Prop) (w:World) (hL:∀q∈L,bP w Y q.1 q.2.1 q.2.2) (hlt:∀q,Y q->q<w.heap.size) (hn:L.length<=1000) (hlen:(L.flatMap fun q=>q.2.2).length<=1000000000):
  Calls Tryz.prog 83 #[.slice (some ⟨w.heap.size,0,none⟩) L.length L.length] (w.alloc (.cells (bQ L) 24)) fun e w'=>Below (w.alloc (.cells (bQ L) 24)).heap.size (w.alloc (.cells (bQ L) 24)) w'/\∃A c,e= .returned (.slice A (L.flatMap fun q=>q.2.2).length c)/\bP w' Y A c (L.flatMap fun q=>q.2.2)/\∀a,A=some a->w.heap.size<=a.block:=by
 obtain ⟨xss,h3,h4,h5⟩:=OT L hL;have hb1:Below w.heap.size w (w.alloc (.cells (bQ L) 24)):=aj (aF _ _) _;have hml:(L.map fun q=>(q.1,q.2.2.length,q.2.1)).length=L.length:=by simp
 have hC:=BF (some ⟨w.heap.size,0,none⟩) L.length (L.map fun q=>(q.1,q.2.2.length,q.2.1)) xss (w.alloc (.cells (bQ L) 24)) (by rw [World.size_alloc];exact Vb w L) ⟨by simp [h3],fun i v xs hv hx=>by
  rw [TW] at hv
  cases hq:L[i]? with
  |none=>rw [hq] at hv;cases hv
  |some q=>
   rw [hq] at hv;simp at hv;subst hv;obtain ⟨k1,k2⟩:=h4 i q xs hq hx;exact ⟨k2.symm,(bf.below k1.read hb1).more hb1.size⟩⟩ (by rw [hml];exact hn) (by rw [h5.1];exact hlen)
 rw [hml,h5.1] at hC;refine hC.mono ?_;rintro e w' ⟨A,c,rfl,hown,hb⟩;have hbw:Below w.heap.size w w':=au hb1 hb;refine ⟨hb,A,c,rfl,⟨_,uJ.own hown (fun q hq=>Yw (hlt q hq) hb1.size),h5.fr (Fr.below hbw) fun q hq=>.inl hq,?_⟩,fun a ha=>Nat.le_trans hb1.size (aB.lt hown a ha).1⟩;have:=aB.l7 hown;have:=h5.1;omega
theorem Q8 (w:World) (v u:Option Addr×Nat×Nat):jU (w.alloc (.cells #[.slice v.1 v.2.1 v.2.2,.slice u.1 u.2.1 u.2.2] 28)) (w.heap.size+1) (some ⟨w.heap.size,0,none⟩) [v,u]:=fun _=>by
 refine ⟨w.heap.size,0,rfl,by omega,fun i x hx j y hy=>?_⟩
 have hj:j=0:=by
  have:=aU hy;rw [jI] at this;omega
 subst hj
 match i,hx with
 |0,hx=>simp at hx;subst hx;simp [encS] at hy;subst hy;simp
 |1,hx=>simp at hx;subst hx;simp [encS] at hy;subst hy;simp
 |i+2,hx=>simp at hx
theorem Vd {w:World} {Y:Nat->Prop} {A B:Option Addr} {c d:Nat} {t u:List Nd} (h:aA w Y A c t) (k:aA w Y B d u):ab0 w Y [(A,t.length,c),(B,u.length,d)] [t,u]:=⟨rfl,fun i v xs hv hx=>by
 match i,hv,hx with
 |0,hv,hx=>simp at hv hx;subst hv hx;exact ⟨rfl,h⟩
 |1,hv,hx=>simp at hv hx;subst hv hx;exact ⟨rfl,k⟩
 |i+2,hv,_=>simp at hv⟩
theorem Ar {aK:Nat}:∀(ts:List (List Nd)) (t m:List Nd),Gd t->bT aK t ts=some (.ok m)->Gd m
 |[],t,m,g,h=>by
  unfold bT at h;injection h with h
  injection h with h
  rw [<-h]
  exact g
 |u::ts,t,m,g,h=>by
  unfold bT at h
  cases hm:met 1 t u with
  |none=>rw [hm] at h;cases h
  |some y=>
   rw [hm] at h;dsimp only at h;by_cases hg:Gd y
   ·rw [if_pos hg] at h
    exact Ar ts y m hg h
   ·rw [if_neg hg] at h
    cases h
abbrev Gr (w:World) (Q:Nat):Prop:=w.heap[Q]?=some (.cells #[.string ⟨#[]⟩,.slice none 0 0] 36 (0,0))
structure aaQ (wm:World) (s:ByteArray) (t:List Nd) (Q:Nat) (A:Option Addr) (c:Nat) (w:World):Prop where
 b:Below wm.heap.size wm w
 q:w.heap[Q]?=some (.cells #[.string s,.slice A t.length c] 36 (0,0))
 z:wm.heap.size<=Q
 T:dK w wm.heap.size A c t
theorem D_ {wm w:World} {t:List Nd} {Q:Nat} {A:Option Addr} {c:Nat} (hb:Hid (Below wm.heap.size wm w)) (hT:Hid (dK w wm.heap.size A c t)) (hq:Hid (Gr w Q/\Q<w.heap.size/\wm.heap.size<=Q)) (s:ByteArray):Hid (aaQ wm s t Q A c (set2 w Q (.string s) (.slice A t.length c))):=by
 refine aD ?_;have hf:Fr (fun q=>q=Q) w (set2 w Q (.string s) (.slice A t.length c)):=(dY _ _ _ _).trans (dY _ _ _ _);refine ⟨Fr.toBelow (Fr.new (Fr.below hb.out:Fr (fun _=>False) wm w) hf fun b e=>.inr (by rw [e];exact hq.out.2.2)) fun k e=>e.elim,?_,hq.out.2.2,aB.fr hT.out hf fun a ha e=>?_⟩
 ·unfold set2
  rw [heap_set (heap_set hq.out.1 0 _) 1];rfl
 ·have:=aB.qK hT.out ha
  rw [e] at this;exact iE.ne this ⟨_,_,hq.out.1⟩ (by decide) rfl
theorem adT {wm w w':World} {Q:Nat} (h:Gr w Q/\Q<w.heap.size/\wm.heap.size<=Q) (hb:Below w.heap.size w w'):Gr w' Q/\Q<w'.heap.size/\wm.heap.size<=Q:=⟨(hb.block Q h.2.1).trans h.1,Yw h.2.1 hb.size,h.2.2⟩
def iG (P:Nat) (es:List Pt) (env:Env) (a:Nat) (p:Pt) (r:dV) (Y:Nat->Prop) (w:World):{g:Nat->Nat->Nat->Option Addr->Nat->Option Addr->Nat->Nat->Nat->Nat->World->Prop // iI P es env a Y w->es[a]?=some p->a<=1000000->(∀eb eo ec TA tc UA uc R B G w4,Hid (vD P es env (a+1) Y w R B G p TA tc UA uc Y w4)->g eb eo ec TA tc UA uc R B G w4)->Calls Tryz.prog 53 #[pk P] w (bU P es env Y r w)}:=by
 apply Subtype.mk;intro h hp hal HG;have hlt:=h.lt;have OO:=hlt P h.yP;obtain ⟨w1,hw1⟩:∃w1,w1=w.alloc (.cells #[.slice none 0 0,.slice none 0 0] 65):=⟨_,rfl⟩;obtain ⟨R,hR⟩:∃R,R=w.heap.size:=⟨_,rfl⟩;have hb1:Below w.heap.size w w1:=by rw [hw1];exact aj (aF _ _) _
 have Gg:aS w1 Y R #[.slice none 0 0,.slice none 0 0] 65:=by rw [hw1,hR];exact aS.new hlt _ _
 have hlt1:∀q,Y q->q<w1.heap.size:=fun q hq=>Yw (hlt q hq) hb1.size;obtain ⟨EA,ec,VA,vc,bs,hm1⟩:=h.later hb1;obtain ⟨eb,eo,hEA,oG,XP,⟨TA,tc,UA,uc,hT,hU,c0,c1,c2,c3,c4,c5,c6,c7⟩,_⟩:=hm1.ex a p hp;subst hEA;have hai:=aU hp;have Yn:(0:Int)<=(a:Int):=by omega
 have hai1:(a:Int)<(es.length:Int):=by omega
 have wD:IntKind.i64.wrap ((a:Int)+1)=((a+1:Nat):Int):=IntWalk.i64_in _ (by omega);have uI:=aD hm1
 have S1:Hid (∀v,Below w1.heap.size w1 v->v.cell? ⟨P,0,none⟩=some (.slice (some ⟨eb,eo,none⟩) es.length ec)/\v.cell? ⟨P,1,none⟩=some (.int .i64 (a:Int))/\v.cell? ⟨eb,eo+a*8,none⟩=some (.int .i64 p.k)/\v.cell? ⟨eb,eo+a*8+1,none⟩=some (.string p.lb)/\v.cell? ⟨eb,eo+a*8+2,none⟩=some (.string p.nm)/\v.cell? ⟨eb,eo+a*8+3,none⟩=some (.string p.bd)/\v.cell? ⟨eb,eo+a*8+4,none⟩=some (.int .i64 p.mn)/\v.cell? ⟨eb,eo+a*8+5,none⟩=some (.int .i64 p.num)/\v.cell? ⟨eb,eo+a*8+6,none⟩=some (.slice TA p.T.length tc)/\v.cell? ⟨eb,eo+a*8+7,none⟩=some (.slice UA p.U.length uc)):=aD fun v hv=>by
  have Yo:P<w1.heap.size:=Yw OO hb1.size;exact ⟨(hv.cell (p:=⟨P,0,none⟩) Yo).trans hm1.cells.1,(hv.cell (p:=⟨P,1,none⟩) Yo).trans hm1.cells.2.1,(hv.cell (p:=⟨eb,eo+a*8,none⟩) oG).trans c0,(hv.cell (p:=⟨eb,eo+a*8+1,none⟩) oG).trans c1,(hv.cell (p:=⟨eb,eo+a*8+2,none⟩) oG).trans c2,(hv.cell (p:=⟨eb,eo+a*8+3,none⟩) oG).trans c3,(hv.cell (p:=⟨eb,eo+a*8+4,none⟩) oG).trans c4,(hv.cell (p:=⟨eb,eo+a*8+5,none⟩) oG).trans c5,(hv.cell (p:=⟨eb,eo+a*8+6,none⟩) oG).trans c6,(hv.cell (p:=⟨eb,eo+a*8+7,none⟩) oG).trans c7⟩
 have HR:Hid (P<w.heap.size/\w.heap.size<=R/\Fr Y w w1/\aS w1 Y R #[.slice none 0 0,.slice none 0 0] 65):=aD ⟨OO,by rw [hR];exact aG _,Fr.below hb1,Gg⟩;have HT:=aD (Cj hT (Cj hU hlt1));have HZ1:=aD hb1.size;clear h hp hm1 hT hU Gg hlt hlt1 OO hb1 c0 c1 c2 c3 c4 c5 c6 c7 oG XP;unfold pk;go_enter Tryz.func53,Tryz.ntmps53;go_upto_region 1 with fail
 rw [<-hw1,<-hR];clear hw1 hR;obtain ⟨SS,hSS⟩:∃SS:World->Prop,SS=fun v=>v.cell? ⟨P,0,none⟩=some (.slice (some ⟨eb,eo,none⟩) es.length ec)/\v.cell? ⟨P,1,none⟩=some (.int .i64 (a:Int))/\v.cell? ⟨eb,eo+a*8,none⟩=some (.int .i64 p.k)/\v.cell? ⟨eb,eo+a*8+1,none⟩=some (.string p.lb)/\v.cell? ⟨eb,eo+a*8+2,none⟩=some (.string p.nm)/\v.cell? ⟨eb,eo+a*8+3,none⟩=some (.string p.bd)/\v.cell? ⟨eb,eo+a*8+4,none⟩=some (.int .i64 p.mn)/\v.cell? ⟨eb,eo+a*8+5,none⟩=some (.int .i64 p.num)/\v.cell? ⟨eb,eo+a*8+6,none⟩=some (.slice TA p.T.length tc)/\v.cell? ⟨eb,eo+a*8+7,none⟩=some (.slice UA p.U.length uc):=⟨_,rfl⟩;have HS:Hid (∀v,Below w1.heap.size w1 v->SS v):=aD fun v hv=>by rw [hSS];exact S1.out v hv
 obtain ⟨wd,hwd⟩:∃wd,wd=w1.drew:=⟨_,rfl⟩;have bM:Hid (Below w1.heap.size w1 wd):=aD (by rw [hwd];exact (aF _ _).drew);have sd:=HS.out _ bM.out;refine aI (S:=SS) [11] (by kernel_rfl) (by rw [<-hwd];exact sd) (fun hHeld=>?_);rw [<-hwd] at hHeld ⊢;clear hwd;refine aL 0 [11] (some 26) rfl rfl ?_;refine aL 1 [11] (some 27) rfl rfl ?_;refine aL 2 [11] (some 28) rfl rfl ?_;refine aL 3 [11] (some 29) rfl rfl ?_;refine aL 4 [11] (some 30) rfl rfl ?_;refine aL 5 [11] (some 31) rfl rfl ?_;refine aL 6 [11] (some 32) rfl rfl ?_;refine aL 7 [11] (some 33) rfl rfl ?_;refine aL 8 [11] (some 34) rfl rfl ?_;refine aL 9 [11] (some 35) rfl rfl ?_;refine bB 10 (some 3) (v:=.pointer (some ⟨wd.heap.size,0,none⟩)) (w':=wd.alloc (.cells #[.int .i64 0,.string ⟨#[]⟩,.string ⟨#[]⟩,.string ⟨#[]⟩,.int .i64 0,.int .i64 0,.slice none 0 0,.slice none 0 0] 33)) rfl rfl (by kernel_rfl) (by rfl) (by go_simp) (fun _=>HS.out _ (aj bM.out _)) ?_;refine aC ?_;refine je 11 none (w':=?_) rfl rfl (by kernel_rfl) (by rfl) ?_ (zL (by kernel_rfl)) ?_
 rotate_left
 ·(go_simp;try with_reducible rfl)
 refine aC ?_;refine bG (by kernel_rfl) ?_ _;obtain ⟨w2,hw2⟩:∃w2,w2=wd.alloc (.cells #[.int .i64 p.k,.string p.lb,.string p.nm,.string p.bd,.int .i64 p.mn,.int .i64 p.num,.slice TA p.T.length tc,.slice UA p.U.length uc] 33):=⟨_,rfl⟩;obtain ⟨B,hB⟩:∃B,B=wd.heap.size:=⟨_,rfl⟩;have wS:Hid (aO w2 Y B p TA tc UA uc/\Below w1.heap.size w1 w2):=aD ⟨by rw [hw2,hB];exact aO.new (fun q hq=>Yw (HT.out.2.2 q hq) bM.out.size) (HT.out.1.later bM.out) (HT.out.2.1.later bM.out),by rw [hw2];exact aj bM.out _⟩;have Yp:Hid (B=wd.heap.size):=aD hB;rw [<-hw2,<-hB];clear hw2 hB sd hHeld;have NK:=aD (uI.out.later wS.out.2);obtain ⟨_,d1,_⟩:=NK.out.cells;have fd1:=NK.out.frozen 1 (by omega);go_upto_region 3 with fail
 obtain ⟨w3,hw3⟩:∃w3,w3=w2.setCell ⟨P,1,none⟩ (.int .i64 ((a+1:Nat):Int)):=⟨_,rfl⟩;have Cz:=aD (NK.out.put (a+1));rw [<-hw3] at Cz;have e3:w2.setCell ⟨P,1,none⟩ (.int .i64 ((a:Int)+1))=w3:=hw3.symm
 first|rw [e3]|rw [<-hw3]
 clear hw3 e3 d1 fd1;have HT3:=aD (wS.out.1.fr Cz.out.2 (ah.refl _ _));obtain ⟨k0,k1,k2,k3,k4,k6,k7⟩:=HT3.out.cells;have k5:w3.cell? ⟨B,5,none⟩=some (.int .i64 p.num):=by simp [Ck,HT3.out.blk]
 go_upto_region 4 with fail
 obtain ⟨w4,hw4⟩:∃w4,w4=w3.alloc (.cells #[.int .i64 p.k,.string p.lb,.string p.nm,.string p.bd,.int .i64 p.mn,.int .i64 p.num,.slice TA p.T.length tc,.slice UA p.U.length uc] 33):=⟨_,rfl⟩;obtain ⟨G,hG⟩:∃G,G=w3.heap.size:=⟨_,rfl⟩
 have H4:Hid (vD P es env (a+1) Y w R B G p TA tc UA uc Y w4):=aD (by
  have hb4:Below w3.heap.size w3 w4:=by rw [hw4];exact aj (aF _ _) _
  have hf3:Fr Y w w3:=(HR.out.2.2.1.trans (Fr.below wS.out.2)).trans Cz.out.2;exact ⟨hf3.trans (Fr.below hb4),ah.refl _ _,iI.later ⟨_,_,_,_,_,Cz.out.1⟩ hb4,HT3.out.later hb4,((HR.out.2.2.2.below wS.out.2).fr Cz.out.2 (ah.refl _ _)).below hb4,HR.out.1,HR.out.2.1,by have:=HR.out.2.2.2.lt;have:=bM.out.size;have:=Yp.out;omega,by have:=(aaj.1 HT3.out.blk).1;omega,by rw [hw4,hG];exact aS.new Cz.out.1.lt _ _,by rw [hG];exact hf3.size⟩)
 rw [<-hw4,<-hG];clear hw4 hG k0 k1 k2 k3 k4 k5 k6 k7 NK Cz HT3 wS uI S1 HT HR HS hSS bM SS Yn hai1 wD;rename_i K1 hK1 K2 hK2;have HGG:=HG eb eo ec TA tc UA uc R B G w4 H4;clear HG H4 Yp HZ1;revert K1 K2;exact HGG
end Go.Proofs.YtmjdhfbnmmdjiaaGreat
