/- Laid together by a tool from the texts of this seat: CsR CsU CsV CsW. Conditions: each theorem's own. -/
import Derived.Test.YtmjdhfbnmmdjiaaGreatJ21
import Derived.Test.YtmjdhfbnmmdjiaaGreatJ15
import Derived.Test.YtmjdhfbnmmdjiaaGreatJ10
import Derived.Test.YtmjdhfbnmmdjiaaGreatJ16
set_option maxHeartbeats 8000000
set_option maxRecDepth 100000
namespace Go.Proofs.YtmjdhfbnmmdjiaaGreat
open Go.Value renaming slice->fq,ownBlock->fA
open Go.Lib renaming hid->aD
open Go.World renaming cell?->Ck
open _root_.Nat renaming le_refl->aG,le_trans->Ed
open Go.RowKit.Below renaming refl->aF
open _root_.List renaming length_map->Qx,length_append->jX,getElem?_append_left->aaf,getElem?_append_right->jd,getElem?_map->TW,mem_map->aas,mem_cons->oJ,not_mem_nil->aaC,mem_of_getElem?->Ox,mem_append->nV
open Go.Region renaming wanted->rE
open _root_.Option renaming map_eq_some_iff->aaE
open Go.RowKit
section
variable {P a a':Nat} {es:List Pt} {env:Env} {Y0 Y Y':Nat->Prop} {w0 w w':World} {R B:Nat} {p:Pt} {TA UA:Option Addr} {tc uc:Nat}
theorem iI.kind (h:iI P es env a Y w):∀q,Y q->iE w q 85\/iE w q 36:=fun q hq=>by
 obtain ⟨EA,ec,VA,vc,bs,h⟩:=h;rcases (h.y q).1 hq with rfl|⟨b,hb,rfl⟩
 ·exact .inl ⟨_,_,h.blk⟩
 ·exact .inr (aB.qK h.own hb)
theorem aB.C9 {α:Type} {U size base:Nat} {enc:α->List Value} {A:Option Addr} {cap:Nat} {l:List α} (h:aB U size enc w base A cap l) (hk:iI P es env a Y w) (hf:Fr Y w w') (h3:U≠36) (h4:U≠85):aB U size enc w' base A cap l:=
 aB.fr h hf fun a ha hy=>by
  rcases hk.kind _ hy with h5|h5
  ·exact iE.ne (aB.qK h ha) h5 h4 rfl
  ·exact iE.ne (aB.qK h ha) h5 h3 rfl
theorem uJ.YE {A:Option Addr} {c base:Nat} {vs:List PV} (h:gV w base A c vs) (hk:iI P es env a Y w):uJ w Y A vs:=
 uJ.S9 h fun a ha hy=>by
  rcases hk.kind _ hy with h5|h5
  ·exact iE.ne (aB.qK h ha) h5 (by decide) rfl
  ·exact iE.ne (aB.qK h ha) h5 (by decide) rfl
theorem bP.YE {A:Option Addr} {c base:Nat} {vs:List PV} {xs:List Pt} (h:gV w base A c vs) (hk:iI P es env a Y w) (hp:dO w Y vs xs):bP w Y A c xs:=
 ⟨vs,uJ.YE h hk,hp,by rw [<-hp.1];exact aB.l7 h⟩
theorem pK.bW {U:TypeId} {Q:Nat->Prop} (h:pK P es env a Y0 w0 R B p TA tc UA uc Y w) (k:g_ w w' U Y) (hf:Fr Q w w') (hQ:∀q,Q q->w0.heap.size<=q) (h1:U≠49) (h2:U≠33) (h3:U≠36) (h4:U≠85) (h5:U≠65):pK P es env a Y0 w0 R B p TA tc UA uc Y w':=
 ⟨Fr.new h.fr hf fun q hq=>.inr (hQ q hq),h.yn,h.wk.bW k h1 h2 h3 h4,h.pt.bW k h1 h2,h.res.eX k h5,h.pr,h.rw⟩
theorem pK.eX {Q:Nat->Prop} (h:pK P es env a Y0 w0 R B p TA tc UA uc Y w) (k:g_ w w' 33 Y) (hf:Fr Q w w') (hQ:∀q,Q q->w0.heap.size<=q/\q≠B):pK P es env a Y0 w0 R B p TA tc UA uc Y w':=
 ⟨Fr.new h.fr hf fun q hq=>.inr (hQ q hq).1,h.yn,h.wk.eX k,⟨(hf.block B (Array.getElem?_eq_some_iff.1 h.pt.blk).1 fun hb=>(hQ B hb).2 rfl).trans h.pt.blk,h.pt.off,h.pt.T.bW k (by decide),h.pt.U.bW k (by decide)⟩,h.res.eX k (by decide),h.pr,h.rw⟩
end
def gy (nx:kP) (es:List Pt) (env:Env):Nat->Nat->List Pt->List eT->Option (List Pt×List eT×Nat)
 |0,a,xs,fs=>some (xs,fs,a)
 |n+1,a,xs,fs=>match es[a]? with
  |none=>none
  |some x=>match nx env a with
   |none=>none
   |some (y,t,b)=>gy nx es env n b (xs++y) (fs++[(x.lb,t)])
def uP (nx:kP) (es:List Pt) (env:Env) (p:Pt) (a:Nat):Option dV:=
 if 0<=p.mn/\p.mn<=50 then
  match gy nx es env p.mn.toNat a [p] [] with
  |none=>none
  |some (xs,fs,b)=>if jQ 6 (fs.map (·.1)) fs.length=false/\(fs.map (·.1)).Nodup then some (xs,eG 6 fs,b) else none
 else none
theorem zT {nx:kP} {es:List Pt} {env:Env} {n a:Nat} {xs:List Pt} {fs:List eT} {R:List Pt×List eT×Nat} (h:gy nx es env (n+1) a xs fs=some R):
  ∃x y t b,es[a]?=some x/\nx env a=some (y,t,b)/\gy nx es env n b (xs++y) (fs++[(x.lb,t)])=some R:=by
 unfold gy at h;split at h
 ·cases h
 ·rename_i x hx
  split at h
  ·cases h
  ·rename_i y t b hb
   exact ⟨x,y,t,b,hx,hb,h⟩
structure LJ (P:Nat) (es:List Pt) (env:Env) (nx:kP) (p:Pt) (TA:Option Addr) (tc:Nat) (UA:Option Addr) (uc:Nat) (Y:Nat->Prop) (w:World) (R B:Nat) (n:Nat) (S:List Pt×List eT×Nat) (k:Nat) (Yk:Nat->Prop) (a:Nat) (xs:List Pt) (fs:List eT) (OA:Option Addr) (oc:Nat) (os:List PV) (LA:Option Addr) (lc:Nat) (VA:Option Addr) (vc:Nat) (vs:List (Option Addr×Nat×Nat)) (wr:World):Prop where
 md:pK P es env a Y w R B p TA tc UA uc Yk wr
 ot:gV wr w.heap.size OA oc os
 op:dO wr Yk os xs
 ob:∀a,OA=some a->a.block≠B
 lt:dN wr w.heap.size LA lc (fs.map (·.1))
 vt:iH wr w.heap.size VA vc vs
 vl:vs.length=fs.length
 sl:∀(i:Nat) (v:Option Addr×Nat×Nat) (f:eT),vs[i]?=some v->fs[i]?=some f->v.2.1=f.2.length/\aA wr Yk v.1 v.2.2 f.2
 gd:∀f∈fs,Gd f.2
 len:fs.length=k
 xl:xs.length<=1+k*100000
 run:gy nx es env (n-k) a xs fs=some S
def jN (es:List Pt):Nat->Nat->List ByteArray->Option (List ByteArray)
 |0,_,ls=>some ls
 |n+1,a,ls=>match es[a]? with
  |none=>none
  |some x=>match d_ (es.drop a) 1 a with
   |none=>none
   |some j=>jN es n j (ls++[x.lb])
theorem Jf {es:List Pt} {n a:Nat} {ls R:List ByteArray} (h:jN es (n+1) a ls=some R):∃x j,es[a]?=some x/\d_ (es.drop a) 1 a=some j/\jN es n j (ls++[x.lb])=some R:=by
 unfold jN at h;split at h
 ·cases h
 ·rename_i x hx
  split at h
  ·cases h
  ·rename_i j hj
   exact ⟨x,j,hx,hj,h⟩
structure UnI (es:List Pt) (Y:Nat->Prop) (w:World) (n:Nat) (S:List ByteArray) (k a:Nat) (ls:List ByteArray) (LA:Option Addr) (lc:Nat) (VA:Option Addr) (vc:Nat) (vs:List (Option Addr×Nat×Nat)) (wr:World):Prop where
 b:Below w.heap.size w wr
 lt:dN wr w.heap.size LA lc ls
 vt:iH wr w.heap.size VA vc vs
 ll:ls.length=k
 vl:vs.length=k
 sl:∀(i:Nat) (v:Option Addr×Nat×Nat),vs[i]?=some v->v.2.1=1/\aA wr Y v.1 v.2.2 (ay 0)
 run:jN es (n-k) a ls=some S
theorem GI {α:Type} {U size:Nat} {enc:α->List Value} {w we w5:World} {A:Option Addr} {cap:Nat} {l:List α} (h:Below w.heap.size w we) (ho:aB U size enc we w.heap.size A cap l) (hg:we.grownBy w5 ((fq A l.length cap).ownBlock)):Below w.heap.size w w5:=
 Fr.toBelow (Fr.new (Fr.below h:Fr (fun _=>False) w we) (Fr.grown hg fun _q e=>e) fun q e=>.inr (aB.block ho q e).1) fun _k e=>e.elim
theorem Rm (P:Nat) (es:List Pt) (env:Env) (a n:Nat) (ls:List ByteArray) (Y:Nat->Prop) (w:World) (h:iI P es env a Y w) (hok:dZ es) (hn:n<=50) (hm:jN es n a []=some ls) (hg:jQ 7 ls ls.length=false/\ls.Nodup):
  Calls Tryz.prog 112 #[pk P,.int .i64 (n:Int)] w (A_ w (eG 7 (ls.map fun l=>(l,ay 0)))):=by
 have xW:Hid (P<w.heap.size):=aD (h.lt P h.yP);have HW:Hid (∀v,Below w.heap.size w v->iI P es env a Y v):=aD fun v hv=>h.later hv;have ajq:es.length<=1000000:=by obtain ⟨EA,ec,VA,vc,bs,hm1⟩:=h;exact hm1.el
 obtain ⟨EA,ec,VA0,vc0,bs0,hm1⟩:=h;have uI:=aD hm1;obtain ⟨p0,p1,_⟩:=hm1.cells;have HI0:Hid (UnI es Y w n ls 0 a [] none 0 none 0 [] w):=aD ⟨aF _ _,aB.nil,aB.nil,rfl,rfl,fun i v hv=>by simp at hv,hm⟩;have HG:=aD hg;have nL:=aD hok;clear hm1 hm hg hok;unfold pk;go_enter Tryz.func112,Tryz.ntmps112;go_upto_region 4 with fail
 clear p0 p1;go_loopw [5,6,7] (fun s5 s6 s7 wr=>∃(k ak:Nat) (ms:List ByteArray) (LA:Option Addr) (lc:Nat) (VA:Option Addr) (vc:Nat) (vs:List (Option Addr×Nat×Nat)),k<=n/\s5= .slice LA k lc/\s6= .slice VA k vc/\s7= .int .i64 ak/\Hid (UnI es Y w n ls k ak ms LA lc VA vc vs wr)) (fun s5 _ _ _=>n-(match s5 with| .slice _ m _=>m|_=>0))
 case atStart=>exact ⟨0,a,[],none,0,none,0,[],Nat.zero_le _,rfl,rfl,rfl,HI0⟩
 case round=>
  obtain ⟨k,ak,ms,LA,lc,VA,vc,vs,hk,rfl,rfl,rfl,HI⟩:=hrel;by_cases hlt:k<n
  ·obtain ⟨x,j,hx,he,hst⟩:=Jf (n:=n-k-1) (by rw [show n-k-1+1=n-k by omega];exact HI.out.run)
   have hm2:=uI.out.later HI.out.b;obtain ⟨eb,eo,eA,hel,_,⟨_,_,_,_,_,_,_,hlb,_⟩,_⟩:=hm2.ex _ _ hx;subst eA;obtain ⟨c0,c1,_⟩:=hm2.cells;have hal:=aU hx;have NY:=aD HI.out.ll;have I_:=aD HI.out.vl;have HX:=aD (And.intro he hst);have SX:k<=50:=by omega
   clear hm2 he hst hx;go_upto_region 7 with (at_builtin;refine mU rfl (.tmp 24) (.tmp 33) rfl w.heap.size (m:=k) (n:=1) NY.out rfl (aB.alloc HI.out.lt _) (l2:=[x.lb]) rfl rfl (mJ _ _) (by omega) (by have:=HI.out.b.size;simp;omega) ?_;intro xX xY w5 hown5 hg5 _)
   obtain ⟨we,jV⟩:∃we,we=wr.alloc (.cells #[.string x.lb] 9):=⟨_,rfl⟩;rw [<-jV] at hg5;have iP:Hid (Below wr.heap.size wr we):=aD (by rw [jV];exact aj (aF _ _) _);have HOe:Hid (dN we w.heap.size LA lc ms):=aD (HI.out.lt.below iP.out (aG _));have wB:Hid (g_ we w5 9 Y):=aD (g_.grown HOe.out rfl hg5 (HW.out w (aF _ _)).yP (Nat.le_of_lt xW.out));have z_:Hid (Below w.heap.size w w5):=aD (GI (au HI.out.b iP.out) HOe.out hg5);have HV5:Hid (dN w5 w.heap.size xX xY (ms++[x.lb])/\iH w5 w.heap.size VA vc vs/\∀(i:Nat) (v:Option Addr×Nat×Nat),vs[i]?=some v->v.2.1=1/\aA w5 Y v.1 v.2.2 (ay 0)):=aD ⟨hown5,(HI.out.vt.below iP.out (aG _)).bW wB.out (by decide),fun i v hv=>⟨(HI.out.sl i v hv).1,((HI.out.sl i v hv).2.later iP.out).bW wB.out (by decide)⟩⟩;clear hown5 hg5 jV hlb c0 c1;have HX5:=aD (qg 0 w5);go_wp2_with fail;refine HX5.out.mono ?_;rintro e w6 ⟨A6,c6,rfl,hown,hb⟩;have Q0:=aD (au z_.out hb);have Av:Hid (dN w6 w.heap.size xX xY (ms++[x.lb])/\iH w6 w.heap.size VA vc vs/\aA w6 Y A6 c6 (ay 0)/\∀(i:Nat) (v:Option Addr×Nat×Nat),vs[i]?=some v->v.2.1=1/\aA w6 Y v.1 v.2.2 (ay 0)):=aD ⟨HV5.out.1.below hb (aG _),HV5.out.2.1.below hb (aG _),aA.own hown fun q hq=>(HW.out w5 z_.out).lt q hq,fun i v hv=>⟨(HV5.out.2.2 i v hv).1,(HV5.out.2.2 i v hv).2.later hb⟩⟩;clear hown hb HX5;have hW6:=uI.out.later Q0.out;obtain ⟨c0,c1,_⟩:=hW6.cells;clear hW6
   go_upto_region 5 with (at_builtin;refine mW rfl (.tmp 35) (.tmp 37) rfl w.heap.size (m:=k) (n:=1) I_.out rfl (aB.alloc Av.out.2.1 _) (l2:=[(A6,1,c6)]) rfl rfl (pR w6 (A6,1,c6)) (by omega) (by have:=Q0.out.size;simp;omega) ?_;intro tN vY w7 nu sI)
   obtain ⟨wf,hwf⟩:∃wf,wf=w6.alloc (.cells #[.slice A6 (ay 0).length c6] 28):=⟨_,rfl⟩
   first|rw [<-hwf] at sI|skip
   have Eu:Hid (Below w6.heap.size w6 wf):=aD (by rw [hwf];exact aj (aF _ _) _);have HOf:Hid (iH wf w.heap.size VA vc vs):=aD (Av.out.2.1.below Eu.out (aG _));have sN:Hid (g_ wf w7 28 Y):=aD (g_.grown HOf.out rfl sI (HW.out w (aF _ _)).yP (Nat.le_of_lt xW.out));have iR:Hid (Below w.heap.size w w7):=aD (GI (au Q0.out Eu.out) HOf.out sI)
   have I9:Hid (UnI es Y w n ls (k+1) j (ms++[x.lb]) xX xY tN vY (vs++[(A6,1,c6)]) w7):=aD (by
    refine ⟨iR.out,(Av.out.1.below Eu.out (aG _)).bW sN.out (by decide),nu,by rw [jX,NY.out];rfl,by rw [jX,I_.out];rfl,?_,by rw [show n-(k+1)=n-k-1 by omega];exact HX.out.2⟩;intro i v hv;rcases Nat.lt_or_ge i vs.length with hi|hi
    ·rw [aaf hi] at hv
     exact ⟨(Av.out.2.2.2 i v hv).1,((Av.out.2.2.2 i v hv).2.later Eu.out).bW sN.out (by decide)⟩
    ·rw [jd hi] at hv
     cases hj:i-vs.length with
     |zero=>
      rw [hj] at hv;simp at hv;subst hv
      exact ⟨rfl,(Av.out.2.2.1.later Eu.out).bW sN.out (by decide)⟩
     |succ j=>rw [hj] at hv;simp at hv)
   clear nu sI hwf c0 c1;have CO:=uI.out.later iR.out;obtain ⟨c0,c1,_⟩:=CO.cells;have HXe:=aD (JJ Y _ ec es ak j w7 CO.ex ajq nL.out HX.out.1);clear CO;go_wp2_with fail;refine HXe.out.mono ?_;rintro e w8 ⟨rfl,sQ⟩;have HI8:Hid (UnI es Y w n ls (k+1) j (ms++[x.lb]) xX xY tN vY (vs++[(A6,1,c6)]) w8):=aD ⟨au I9.out.b sQ,I9.out.lt.below sQ (aG _),I9.out.vt.below sQ (aG _),I9.out.ll,I9.out.vl,fun i v hv=>⟨(I9.out.sl i v hv).1,(I9.out.sl i v hv).2.later sQ⟩,I9.out.run⟩;clear sQ HXe;go_wp2_with fail;go_roundw
   case rel=>exact ⟨k+1,j,ms++[x.lb],xX,xY,tN,vY,vs++[(A6,1,c6)],by omega,by go_num,by go_num,by go_num,HI8⟩
   case measure=>dsimp only;omega
  ·have hkn:k=n:=by omega
   have xV:Hid (ls=ms):=aD (by
    have:=HI.out.run;rw [hkn,Nat.sub_self] at this;unfold jN at this;injection this with this
    exact this.symm)
   have NY:=aD HI.out.ll;have I_:=aD HI.out.vl;obtain ⟨fs,hf0⟩:∃fs:List eT,fs=ms.map fun l=>(l,ay 0):=⟨_,rfl⟩;have hfs:fs.map (·.1)=ms:=by rw [hf0,List.map_map];exact List.map_id ms
   have O6:Hid (fs.map (·.1)=ms/\fs=ls.map (fun l=>(l,ay 0))/\fs.length=k):=aD ⟨hfs,by rw [hf0,xV.out],by rw [hf0,Qx,NY.out]⟩;have hfk:(fs.map (·.1)).length=k:=by rw [Qx,O6.out.2.2]
   have HX:=vV LA VA lc vc 7 (fs.map (·.1)) vs (fs.map (·.2)) wr (by rw [hfs];exact aB.read j6 HI.out.lt) (aB.read jI HI.out.vt) (by
    refine ⟨by rw [Qx,HI.out.vl,O6.out.2.2],fun i v xs hv hxs=>?_⟩;rw [TW,aaE,hf0] at hxs;obtain ⟨f,hf,rfl⟩:=hxs;rw [TW,aaE] at hf;obtain ⟨g,hg,rfl⟩:=hf;obtain ⟨e1,e2⟩:=HI.out.sl i v hv;exact ⟨e1,e2.ty.eY⟩) (by
    intro xs hxs;obtain ⟨f,hf,rfl⟩:=aas.1 hxs;rw [hf0] at hf;obtain ⟨g,hg,rfl⟩:=aas.1 hf;exact ⟨by simp [ay],by simp [ay]⟩) (by rw [hfs,Qx,O6.out.2.2,<-NY.out,<-xV.out];exact HG.out.1)
   rw [hfk,I_.out] at HX;have HX:=aD HX;clear hkn hfs hfk hf0;go_wp2_with fail;refine HX.out.mono ?_;rintro e w3 ⟨hb3,hpost⟩
   have HPo:Hid (∃A' cap',e= .returned (.tuple #[.slice A' (eG 7 (ls.map fun l=>(l,ay 0))).length cap',.int .i64 0])/\dK w3 wr.heap.size A' cap' (eG 7 (ls.map fun l=>(l,ay 0)))):=aD (by
    rcases hpost with ⟨h1,_⟩|⟨_,h1,_⟩|⟨_,os,A',cap',hp,ho,h1,h2⟩
    ·rw [O6.out.1,Qx,O6.out.2.2,<-NY.out,<-xV.out,HG.out.1] at h1
     cases h1
    ·rw [O6.out.1,<-xV.out] at h1
     exact absurd HG.out.2 h1
    ·rw [CJ 7 fs (by rw [O6.out.1,<-xV.out];exact HG.out.2) os hp ho] at h1 h2
     rw [<-O6.out.2.1];exact ⟨A',cap',h1,h2⟩)
   clear hpost;obtain ⟨A',cap',hv,hown⟩:=HPo.out;subst hv;have HE:Hid (A_ w (eG 7 (ls.map fun l=>(l,ay 0))) (.returned (.slice A' (eG 7 (ls.map fun l=>(l,ay 0))).length cap')) w3):=aD ⟨A',cap',rfl,aB.lower hown HI.out.b.size,au HI.out.b hb3⟩;clear hb3 hown;go_wp2_with fail;go_ret;exact HE.out
open Go Go.RowKit
structure XV where
 A:Option Addr
 n:Nat
 c:Nat
 TA:Option Addr
 tn:Nat
 tc:Nat
def Ea (v:XV):List Value:=[.slice v.A v.n v.c,.slice v.TA v.tn v.tc]
theorem C_ (v:XV):(Ea v).length=2:=rfl
theorem Vq (v:XV):∀u∈Ea v,u.oneCell'=true:=by
 intro u hu;simp only [Ea,oJ,aaC,or_false] at hu;rcases hu with rfl|rfl<;>rfl
def XV.ty (v:XV):Option Addr×Nat×Nat:=(v.TA,v.tn,v.tc)
abbrev GJ (w:World) (base:Nat) (A:Option Addr) (cap:Nat) (l:List XV):Prop:=aB 65 2 Ea w base A cap l
abbrev YF (w:World) (B:Nat) (A:Option Addr) (l:List XV):Prop:=bf 2 Ea w B A l
theorem ad4:(Tryz.prog.info? 65).map (fun i=>(i.zero,i.size,i.bytes))=some (some (.agg #[.slice none 0 0,.slice none 0 0]),2,48):=by kernel_rfl
section
variable {w:World} {o:Oper} {a:Act} {K:Act->World->Prop} {Q:Exit->Act->World->Prop}
theorem jO (s x:Operand) (ho:o.op= .call {callee:=.builtin .append,args:=#[s,x],argTypes:=#[127,127]})
  (base:Nat) {A:Option Addr} {cap m n:Nat} {l:List XV} (hm:l.length=m) (hs:a.eval s= .slice A m cap) (hown:GJ w base A cap l) {B:Nat} {A2:Option Addr} {c:Nat} {l2:List XV} (hn:l2.length=n) (hx:a.eval x= .slice A2 n c) (hr:YF w B A2 l2)
  (hlen:m+n<=1000000) (hbase:base<=w.heap.size) (dst:Option Tmp) (hdst:o.dst=dst)
  (h:∀A' cap' w',GJ w' base A' cap' (l++l2)->w.grownBy w' ((fq A l.length cap).ownBlock)->
   ((fq A' (l.length+l2.length) cap').ownBlock=(fq A l.length cap).ownBlock\/(fq A' (l.length+l2.length) cap').ownBlock=some w.heap.size)->K (a.put dst (.slice A' (m+n) cap')) w'):o.wp Tryz.prog a w K Q:=by
 subst hm hn hdst;obtain ⟨i0,hi,hz0,hz1,hz2⟩:=info_parts ad4;exact vP w C_ Vq s x 127 ho base 65 i0 _ 48 Tryz.underlying127 hi hz0 hz1 hz2 rfl (by decide) hs hown hx hr (by unfold maxLen;omega) (by omega) hbase h
theorem lC (s x:Operand) (ho:o.op= .call {callee:=.builtin .append,args:=#[s,x],argTypes:=#[23,23]})
  (base:Nat) {A:Option Addr} {cap m n:Nat} {l:List PV} (hm:l.length=m) (hs:a.eval s= .slice A m cap) (hown:gV w base A cap l) {B:Nat} {A2:Option Addr} {c:Nat} {l2:List PV} (hn:l2.length=n) (hx:a.eval x= .slice A2 n c) (hr:wC w B A2 l2)
  (hlen:m+n<=1000000) (hbase:base<=w.heap.size) (dst:Option Tmp) (hdst:o.dst=dst)
  (h:∀A' cap' w',gV w' base A' cap' (l++l2)->w.grownBy w' ((fq A l.length cap).ownBlock)->
   ((fq A' (l.length+l2.length) cap').ownBlock=(fq A l.length cap).ownBlock\/(fq A' (l.length+l2.length) cap').ownBlock=some w.heap.size)->K (a.put dst (.slice A' (m+n) cap')) w'):o.wp Tryz.prog a w K Q:=by
 subst hm hn hdst;obtain ⟨i0,hi,hz0,hz1,hz2⟩:=info_parts infoP;exact vP w iT CY s x 23 ho base 33 i0 _ 120 Tryz.underlying23 hi hz0 hz1 hz2 rfl (by decide) hs hown hx hr (by unfold maxLen;omega) (by omega) hbase h
theorem iU (s x:Operand) (ho:o.op= .call {callee:=.builtin .append,args:=#[s,x],argTypes:=#[71,71]})
  (base:Nat) {A:Option Addr} {cap m n:Nat} {l:List (Option Addr×Nat×Nat)} (hm:l.length=m) (hs:a.eval s= .slice A m cap) (hown:iH w base A cap l) {B:Nat} {A2:Option Addr} {c:Nat} {l2:List (Option Addr×Nat×Nat)} (hn:l2.length=n) (hx:a.eval x= .slice A2 n c) (hr:jU w B A2 l2)
  (hlen:m+n<=1000000) (hbase:base<=w.heap.size) (dst:Option Tmp) (hdst:o.dst=dst)
  (h:∀A' cap' w',iH w' base A' cap' (l++l2)->w.grownBy w' ((fq A l.length cap).ownBlock)->
   ((fq A' (l.length+l2.length) cap').ownBlock=(fq A l.length cap).ownBlock\/(fq A' (l.length+l2.length) cap').ownBlock=some w.heap.size)->K (a.put dst (.slice A' (m+n) cap')) w'):o.wp Tryz.prog a w K Q:=by
 subst hm hn hdst;obtain ⟨i0,hi,hz0,hz1,hz2⟩:=info_parts Wq;exact vP w jI JA s x 71 ho base 28 i0 _ 24 Tryz.underlying71 hi hz0 hz1 hz2 rfl (by decide) hs hown hx hr (by unfold maxLen;omega) (by omega) hbase h
end
section
variable {P:Program} {ops:Array Oper} {Q:Exit->Act->World->Prop} {md:Region.Mode} {S:World->Prop} {Z:List Nat}
theorem Ta (i j k:Nat) {fuel:Nat} {listed:Array Bool} {a:Act} {w:World} {oi oj ok:Oper} (hr:Region.ready md ops listed=[i,j,k]) (hi:ops[i]?=some oi) (hj:ops[j]?=some oj) (hk:ops[k]?=some ok) (hwi:rE oi (yielded ops a.tmps)=true) (Oh:rE oj (yielded ops a.tmps)=true) (hwk:rE ok (yielded ops a.tmps)=true)
  (h1:oi.wp P a w (fun a' w'=>((∀z∈Z,(listed.setIfInBounds i true).getD z true=false)->S w')/\wpAnyL P md ops Q S Z fuel (listed.setIfInBounds i true) a' w') Q)
  (h2:oj.wp P a w (fun a' w'=>((∀z∈Z,(listed.setIfInBounds j true).getD z true=false)->S w')/\wpAnyL P md ops Q S Z fuel (listed.setIfInBounds j true) a' w') Q)
  (h3:ok.wp P a w (fun a' w'=>((∀z∈Z,(listed.setIfInBounds k true).getD z true=false)->S w')/\wpAnyL P md ops Q S Z fuel (listed.setIfInBounds k true) a' w') Q):wpAnyL P md ops Q S Z (fuel+1) listed a w:=by
 refine xJ hr (by simp) fun m hm=>?_;simp only [oJ,aaC,or_false] at hm;rcases hm with rfl|rfl|rfl
 ·unfold wpOp
  rw [hi];simp only [hwi,if_true];exact .inl h1
 ·unfold wpOp
  rw [hj];simp only [Oh,if_true];exact .inl h2
 ·unfold wpOp
  rw [hk];simp only [hwk,if_true];exact .inl h3
end
section
variable {w w':World} {Y Y':Nat->Prop} {U:TypeId} {Q:Nat->Prop}
theorem bP.ab2 {A:Option Addr} {c:Nat} {xs:List Pt} (h:bP w Y A c xs) (k:g_ w w' U Y) (h1:U≠49) (hf:Fr Q w w') (hQ:∀a,A=some a->¬Q a.block):bP w' Y A c xs:=by
 obtain ⟨vs,h3,h4,h5⟩:=h;refine ⟨vs,fun hne=>?_,h4.bW k h1,h5⟩;obtain ⟨b,o,hA,hb,hy,ho,hc⟩:=h3 hne;have hbk:=hf.block b hb (hQ _ hA);refine ⟨b,o,hA,Nat.lt_of_lt_of_le hb hf.size,hy,kY hbk ho,fun i v hv j u hu=>?_⟩;have:=hc i v hv j u hu;simp only [Ck,hbk] at this ⊢;exact this
theorem bP.blk {A:Option Addr} {c:Nat} {xs:List Pt} (h:bP w Y A c xs) (hne:xs≠[]):∀a,A=some a->a.block<w.heap.size:=fun a ha=>by
 obtain ⟨vs,h3,h4,_⟩:=h
 obtain ⟨b,o,hA,hb,_⟩:=h3 fun e=>by
  have:=h4.1;rw [e] at this;exact hne (List.eq_nil_of_length_eq_zero this.symm)
 rw [ha] at hA;injection hA with hA
 rw [hA];exact hb
theorem aS.XZ {b:Nat} {cs:Array Value} {T:TypeId} (h:aS w Y b cs T) (hf:Fr Q w w') (hQ:¬Q b):aS w' Y b cs T:=⟨(hf.block b h.lt hQ).trans h.blk,h.ny⟩
theorem iV {b:Nat} {v:XV} (h:aS w Y b #[.slice v.A v.n v.c,.slice v.TA v.tn v.tc] 65):YF w (b+1) (some ⟨b,0,none⟩) [v]:=fun _=>by
 refine ⟨b,0,rfl,by omega,fun i x hx j u hu=>?_⟩
 match i,hx with
 |i+1,hx=>simp at hx
 |0,hx=>
  simp at hx;subst hx
  match j,hu with
  |0,hu=>simp [Ea] at hu;subst hu;simp [Ck,h.blk]
  |1,hu=>simp [Ea] at hu;subst hu;simp [Ck,h.blk]
  |j+2,hu=>simp [Ea] at hu
theorem gG {b:Nat} {v:Option Addr×Nat×Nat} (h:aS w Y b #[.slice v.1 v.2.1 v.2.2] 28):jU w (b+1) (some ⟨b,0,none⟩) [v]:=fun _=>by
 refine ⟨b,0,rfl,by omega,fun i x hx j u hu=>?_⟩
 match i,hx with
 |i+1,hx=>simp at hx
 |0,hx=>
  simp at hx;subst hx
  match j,hu with
  |0,hu=>simp [encS] at hu;subst hu;simp [Ck,h.blk]
  |j+1,hu=>simp [encS] at hu
theorem jP {b:Nat} {v:PV} (h:aS w Y b #[.int .i64 v.k,.string v.lb,.string v.nm,.string v.bd,.int .i64 v.mn,.int .i64 v.num,.slice v.TA v.tn v.tc,.slice v.UA v.un v.uc] 33):wC w (b+1) (some ⟨b,0,none⟩) [v]:=fun _=>by
 refine ⟨b,0,rfl,by omega,fun i x hx j u hu=>?_⟩
 match i,hx with
 |i+1,hx=>simp at hx
 |0,hx=>
  simp at hx;subst hx
  match j,hu with
  |0,hu=>simp [mM] at hu;subst hu;simp [Ck,h.blk]
  |1,hu=>simp [mM] at hu;subst hu;simp [Ck,h.blk]
  |2,hu=>simp [mM] at hu;subst hu;simp [Ck,h.blk]
  |3,hu=>simp [mM] at hu;subst hu;simp [Ck,h.blk]
  |4,hu=>simp [mM] at hu;subst hu;simp [Ck,h.blk]
  |5,hu=>simp [mM] at hu;subst hu;simp [Ck,h.blk]
  |6,hu=>simp [mM] at hu;subst hu;simp [Ck,h.blk]
  |7,hu=>simp [mM] at hu;subst hu;simp [Ck,h.blk]
  |j+8,hu=>simp [mM] at hu
end
structure tX (P:Nat) (es:List Pt) (env:Env) (a:Nat) (Y0:Nat->Prop) (w0:World) (R B:Nat) (p:Pt) (TA:Option Addr) (tc:Nat) (UA:Option Addr) (uc:Nat) (N:Nat) (OA:Option Addr) (oc:Nat) (out:List Pt) (MA:Option Addr) (mc:Nat) (u:List Nd) (hall:List PV) (hs:List Pt) (cs:List XV) (bl:List (List Pt×List Nd)) (HA:Option Addr) (Y:Nat->Prop) (w:World):Prop where
 md:pK P es env a Y0 w0 R B p TA tc UA uc Y w
 nn:N<=w.heap.size
 n0:w0.heap.size<=N
 rn:R<N
 bn:B<N
 out:bP w Y OA oc out
 ob:∀a,OA=some a->a.block<N
 u:aA w Y MA mc u
 hp:dO w Y hall hs
 cl:cs.length=bl.length
 sl:∀(i:Nat) (q:XV) (e:List Pt×List Nd),cs[i]?=some q->bl[i]?=some e->q.n=e.1.length/\q.tn=e.2.length/\bP w Y q.A q.c e.1/\aA w Y q.TA q.tc e.2
 ne:∀e∈bl,e.1≠[]
 ds:∀q∈cs,∀a g,q.A=some a->HA=some g->a.block≠g.block
section
variable {P a a':Nat} {es:List Pt} {env:Env} {Y0 Y Y':Nat->Prop} {w0 w w':World} {R B:Nat} {p:Pt} {TA UA:Option Addr} {tc uc:Nat} {N:Nat} {OA MA HA:Option Addr} {oc mc:Nat} {out:List Pt} {u:List Nd} {hall:List PV} {hs:List Pt} {cs:List XV} {bl:List (List Pt×List Nd)}
theorem tX.step (h:tX P es env a Y0 w0 R B p TA tc UA uc N OA oc out MA mc u hall hs cs bl HA Y w) (hf:Fr Y w w') (hy:ah Y Y' w) (hk:iI P es env a' Y' w'):tX P es env a' Y0 w0 R B p TA tc UA uc N OA oc out MA mc u hall hs cs bl HA Y' w':=
 ⟨h.md.step hf hy hk,Ed h.nn hf.size,h.n0,h.rn,h.bn,h.out.fr hf hy,h.ob,h.u.fr hf hy,h.hp.fr hf hy,h.cl,fun i q e hq he=>⟨(h.sl i q e hq he).1,(h.sl i q e hq he).2.1,(h.sl i q e hq he).2.2.1.fr hf hy,(h.sl i q e hq he).2.2.2.fr hf hy⟩,h.ne,h.ds⟩
theorem tX.later (h:tX P es env a Y0 w0 R B p TA tc UA uc N OA oc out MA mc u hall hs cs bl HA Y w) (hb:Below w.heap.size w w'):tX P es env a Y0 w0 R B p TA tc UA uc N OA oc out MA mc u hall hs cs bl HA Y w':=h.step (Fr.below hb) (ah.refl _ _) (h.md.wk.later hb)
theorem tX.lt (h:tX P es env a Y0 w0 R B p TA tc UA uc N OA oc out MA mc u hall hs cs bl HA Y w):∀q∈cs,∀a,q.A=some a->a.block<w.heap.size:=fun q hq a ha=>by
 obtain ⟨i,hi⟩:=List.getElem?_of_mem hq;have hl:=aU hi;obtain ⟨e,he⟩:=aN (l:=bl) (i:=i) (by rw [<-h.cl];exact hl);exact (h.sl i q e hi he).2.2.1.blk (h.ne e (Ox he)) a ha
theorem tX.qj {hc hc':Nat} {BO:Option Addr} {hvs l2:List PV} (h:tX P es env a Y0 w0 R B p TA tc UA uc N OA oc out MA mc u hall hs cs bl HA Y w) (ho:gV w N HA hc hvs) (hg:w.grownBy w' ((fq HA hvs.length hc).ownBlock))
  (hd:(fq BO (hvs.length+l2.length) hc').ownBlock=(fq HA hvs.length hc).ownBlock\/(fq BO (hvs.length+l2.length) hc').ownBlock=some w.heap.size):
  tX P es env a Y0 w0 R B p TA tc UA uc N OA oc out MA mc u hall hs cs bl BO Y w'/\g_ w w' 33 Y/\Fr (fun q=>∃g,HA=some g/\g.block=q) w w'/\∀g,BO=some g->(∃g2,HA=some g2/\g2.block=g.block)\/g.block=w.heap.size:=by
 have k:g_ w w' 33 Y:=g_.grown ho rfl hg h.md.wk.yP (by have:=h.md.pr;have:=h.n0;omega)
 have hf:Fr (fun q=>∃g,HA=some g/\g.block=q) w w':=Fr.grown hg fun q e=>by
  obtain ⟨g,h1,h2⟩:=cK e;exact ⟨g,h1,h2⟩
 have hN:∀q,(∃g,HA=some g/\g.block=q)->N<=q:=fun q ⟨g,hg1,hg2⟩=>by rw [<-hg2];exact (aB.lt ho g hg1).1
 have hnew:∀g,BO=some g->(∃g2,HA=some g2/\g2.block=g.block)\/g.block=w.heap.size:=fun g hgg=>by
  subst hgg;simp only [fA] at hd;rcases hd with e|e
  ·obtain ⟨g2,e1,e2⟩:=cK e.symm
   exact .inl ⟨g2,e1,e2⟩
  ·injection e with e
   exact .inr e
 refine ⟨⟨h.md.eX k hf fun q hq=>⟨by have:=hN q hq;have:=h.n0;omega,by have:=hN q hq;have:=h.bn;omega⟩,Ed h.nn hf.size,h.n0,h.rn,h.bn,h.out.ab2 k (by decide) hf (fun a2 ha hq=>by have:=hN _ hq;have:=h.ob a2 ha;omega),h.ob,h.u.bW k (by decide),h.hp.bW k (by decide),h.cl,fun i q e hq he=>⟨(h.sl i q e hq he).1,(h.sl i q e hq he).2.1,(h.sl i q e hq he).2.2.1.ab2 k (by decide) hf (fun a2 ha ⟨g,hg1,hg2⟩=>h.ds q (Ox hq) a2 g ha hg1 hg2.symm),(h.sl i q e hq he).2.2.2.bW k (by decide)⟩,h.ne,fun q hq a2 g ha hgg=>?_⟩,k,hf,hnew⟩;rcases hnew g hgg with ⟨g2,h1,h2⟩|h1
 ·rw [<-h2]
  exact h.ds q hq a2 g2 ha h1
 ·have:=h.lt q hq a2 ha
  omega
theorem tX.mP {bc bc':Nat} {BA Da:Option Addr} {bvs l2:List XV} (h:tX P es env a Y0 w0 R B p TA tc UA uc N OA oc out MA mc u hall hs cs bl HA Y w) (ho:GJ w N BA bc bvs) (hg:w.grownBy w' ((fq BA bvs.length bc).ownBlock))
  (hd:(fq Da (bvs.length+l2.length) bc').ownBlock=(fq BA bvs.length bc).ownBlock\/(fq Da (bvs.length+l2.length) bc').ownBlock=some w.heap.size):
  tX P es env a Y0 w0 R B p TA tc UA uc N OA oc out MA mc u hall hs cs bl HA Y w'/\g_ w w' 65 Y/\Fr (fun q=>∃g,BA=some g/\g.block=q) w w'/\∀g,Da=some g->(∃g2,BA=some g2/\g2.block=g.block)\/g.block=w.heap.size:=by
 have k:g_ w w' 65 Y:=g_.grown ho rfl hg h.md.wk.yP (by have:=h.md.pr;have:=h.n0;omega)
 have hf:Fr (fun q=>∃g,BA=some g/\g.block=q) w w':=Fr.grown hg fun q e=>by
  obtain ⟨g,h1,h2⟩:=cK e;exact ⟨g,h1,h2⟩
 have hN:∀q,(∃g,BA=some g/\g.block=q)->N<=q:=fun q ⟨g,hg1,hg2⟩=>by rw [<-hg2];exact (aB.lt ho g hg1).1
 have hnew:∀g,Da=some g->(∃g2,BA=some g2/\g2.block=g.block)\/g.block=w.heap.size:=fun g hgg=>by
  subst hgg;simp only [fA] at hd;rcases hd with e|e
  ·obtain ⟨g2,e1,e2⟩:=cK e.symm
   exact .inl ⟨g2,e1,e2⟩
  ·injection e with e
   exact .inr e
 refine ⟨⟨⟨Fr.new h.md.fr hf fun q hq=>.inr (by have:=hN q hq;have:=h.n0;omega),h.md.yn,h.md.wk.bW k (by decide) (by decide) (by decide) (by decide),h.md.pt.bW k (by decide) (by decide),h.md.res.XZ hf (fun hq=>by have:=hN _ hq;have:=h.rn;omega),h.md.pr,h.md.rw⟩,Ed h.nn hf.size,h.n0,h.rn,h.bn,h.out.bW k (by decide) (by decide),h.ob,h.u.bW k (by decide),h.hp.bW k (by decide),h.cl,fun i q e hq he=>⟨(h.sl i q e hq he).1,(h.sl i q e hq he).2.1,(h.sl i q e hq he).2.2.1.bW k (by decide) (by decide),(h.sl i q e hq he).2.2.2.bW k (by decide)⟩,h.ne,h.ds⟩,k,hf,hnew⟩
theorem tX.mQ {vc:Nat} {VA:Option Addr} {vs:List (Option Addr×Nat×Nat)} (h:tX P es env a Y0 w0 R B p TA tc UA uc N OA oc out MA mc u hall hs cs bl HA Y w) (ho:iH w N VA vc vs) (hg:w.grownBy w' ((fq VA vs.length vc).ownBlock)):
  tX P es env a Y0 w0 R B p TA tc UA uc N OA oc out MA mc u hall hs cs bl HA Y w'/\g_ w w' 28 Y:=by
 have k:g_ w w' 28 Y:=g_.grown ho rfl hg h.md.wk.yP (by have:=h.md.pr;have:=h.n0;omega);have hf:=Fr.grown hg fun q e=>e;refine ⟨⟨h.md.bW k hf (fun q hq=>by have:=(aB.block ho q hq).1;have:=h.n0;omega) (by decide) (by decide) (by decide) (by decide) (by decide),Ed h.nn hf.size,h.n0,h.rn,h.bn,h.out.bW k (by decide) (by decide),h.ob,h.u.bW k (by decide),h.hp.bW k (by decide),h.cl,fun i q e hq he=>⟨(h.sl i q e hq he).1,(h.sl i q e hq he).2.1,(h.sl i q e hq he).2.2.1.bW k (by decide) (by decide),(h.sl i q e hq he).2.2.2.bW k (by decide)⟩,h.ne,h.ds⟩,k⟩
end
abbrev Br:=Pt×List Pt×List Nd
def fI (nx:kP) (es:List Pt) (env:Env) (u:List Nd):Nat->Nat->List Br->Option (List Br×Nat)
 |0,a,l=>some (l,a)
 |n+1,a,l=>match es[a]? with
  |none=>none
  |some b=>match bJ u b.lb with
   |none=>none
   |some v=>match nx (env++[(b.bd,v)]) (a+1) with
    |none=>none
    |some (y,t,c)=>fI nx es env u n c (l++[(b,y,t)])
theorem yH {nx:kP} {es:List Pt} {env:Env} {u:List Nd} {n a:Nat} {l:List Br} {S:List Br×Nat} (h:fI nx es env u (n+1) a l=some S):
  ∃b v y t c,es[a]?=some b/\bJ u b.lb=some v/\nx (env++[(b.bd,v)]) (a+1)=some (y,t,c)/\fI nx es env u n c (l++[(b,y,t)])=some S:=by
 unfold fI at h;split at h
 ·cases h
 ·rename_i b hb
  split at h
  ·cases h
  ·rename_i v hv
   split at h
   ·cases h
   ·rename_i y t c hy
    exact ⟨b,v,y,t,c,hb,hv,hy,h⟩
def rC (es:List Pt) (n b:Nat) (t:List Nd):Option (List Nd):=
 if (aQ t).k=0 then
  match jN es n b [] with
  |none=>none
  |some ls=>if jQ 7 ls ls.length=false/\ls.Nodup then some (eG 7 (ls.map fun l=>(l,ay 0))) else none
 else some t
def mZ (m:List Nd) (e:Br):List Pt:=e.1::toM e.2.1 e.2.2 m
def uQ (nx:kP) (es:List Pt) (env:Env) (p:Pt) (a:Nat):Option dV:=
 if 1<=p.mn/\p.mn<=50 then
  fF (nx env a) fun x t b=>
   match rC es p.mn.toNat b t with
   |none=>none
   |some u=>if Gd u/\u.length<=5000000 then
     match fI nx es env u p.mn.toNat b [] with
     |none=>none
     |some (l,c)=>match l with
      |[]=>none
      |e::l'=>match bT 0 e.2.2 (l'.map (·.2.2)) with
       |some (.ok m)=>if m.length<=5000000 then some ((p::toM x t u)++(e::l').flatMap (mZ m),m,c) else none
       |_=>none
    else none
 else none
theorem Eb {nx:kP} {es:List Pt} {env:Env} {p:Pt} {a:Nat} {r:dV} (h:uQ nx es env p a=some r):
  (1<=p.mn/\p.mn<=50)/\∃x t b u e l' c m,nx env a=some (x,t,b)/\rC es p.mn.toNat b t=some u/\(Gd u/\u.length<=5000000)/\fI nx es env u p.mn.toNat b []=some (e::l',c)/\
   bT 0 e.2.2 (l'.map (·.2.2))=some (.ok m)/\m.length<=5000000/\r=((p::toM x t u)++(e::l').flatMap (mZ m),m,c):=by
 unfold uQ at h;split at h
 rotate_left
 ·cases h
 rename_i hn;obtain ⟨x,t,b,h1,h⟩:=bH h;split at h
 ·cases h
 rename_i u hu;split at h
 rotate_left
 ·cases h
 rename_i hg;split at h
 ·cases h
 rename_i l c hl;split at h
 ·cases h
 rename_i e l';split at h
 rotate_left
 ·cases h
 rename_i m hm;split at h
 rotate_left
 ·cases h
 rename_i hml;injection h with h
 exact ⟨hn,x,t,b,u,e,l',c,m,h1,hu,hg,hl,hm,hml,h.symm⟩
section
variable {P a a':Nat} {es:List Pt} {env:Env} {Y0 Y Y':Nat->Prop} {w0 w w':World} {R B:Nat} {p:Pt} {TA UA:Option Addr} {tc uc:Nat} {N:Nat} {OA MA HA:Option Addr} {oc mc:Nat} {out:List Pt} {u:List Nd} {hall:List PV} {hs:List Pt} {cs:List XV} {bl:List (List Pt×List Nd)}
theorem tX.add (h:tX P es env a Y0 w0 R B p TA tc UA uc N OA oc out MA mc u hall hs cs bl HA Y w) {v:PV} {b:Pt} {q:XV} {e:List Pt×List Nd} (hv:BD w Y v b) (hn:q.n=e.1.length/\q.tn=e.2.length) (hx:bP w Y q.A q.c e.1) (ht:aA w Y q.TA q.tc e.2) (hne:e.1≠[]) (hd:∀a g,q.A=some a->HA=some g->a.block≠g.block):
  tX P es env a Y0 w0 R B p TA tc UA uc N OA oc out MA mc u (hall++[v]) (hs++[b]) (cs++[q]) (bl++[e]) HA Y w:=
 ⟨h.md,h.nn,h.n0,h.rn,h.bn,h.out,h.ob,h.u,h.hp.app (dO.cons hv dO.nil),by rw [jX,jX,h.cl];rfl,fun i q' e' hq he=>by
  rcases Nat.lt_or_ge i cs.length with hi|hi
  ·rw [aaf hi] at hq
   rw [aaf (by rw [<-h.cl];exact hi)] at he;exact h.sl i q' e' hq he
  ·rw [jd hi] at hq
   rw [jd (by rw [<-h.cl];exact hi),<-h.cl] at he
   cases hj:i-cs.length with
   |zero=>
    rw [hj] at hq he;simp at hq he;subst hq he
    exact ⟨hn.1,hn.2,hx,ht⟩
   |succ j=>rw [hj] at hq;simp at hq,fun e' he=>by
  rcases nV.1 he with he|he
  ·exact h.ne e' he
  ·simp at he
   rw [he];exact hne,fun q' hq a2 g ha hg=>by
  rcases nV.1 hq with hq|hq
  ·exact h.ds q' hq a2 g ha hg
  ·simp at hq
   rw [hq] at ha;exact hd a2 g ha hg⟩
end
structure CaI (P:Nat) (es:List Pt) (env:Env) (nx:kP) (p:Pt) (TA:Option Addr) (tc:Nat) (UA:Option Addr) (uc:Nat) (Y0:Nat->Prop) (w0:World) (R B N:Nat) (OA:Option Addr) (oc:Nat) (out:List Pt) (MA:Option Addr) (mc:Nat) (u:List Nd) (n:Nat) (S:List Br×Nat) (k:Nat) (Y:Nat->Prop) (a:Nat) (l:List Br) (HA:Option Addr) (hc:Nat) (hvs:List PV) (BA:Option Addr) (bc:Nat) (cs:List XV) (VA:Option Addr) (vc:Nat) (w:World):Prop where
 c:tX P es env a Y0 w0 R B p TA tc UA uc N OA oc out MA mc u hvs (l.map (·.1)) cs (l.map (·.2)) HA Y w
 ho:gV w N HA hc hvs
 bo:GJ w N BA bc cs
 vo:iH w N VA vc (cs.map XV.ty)
 len:l.length=k
 gd:∀e∈l,pI e.2.1 e.2.2
 run:fI nx es env u (n-k) a l=some S
structure zD (P:Nat) (es:List Pt) (env:Env) (a:Nat) (Y0:Nat->Prop) (w0:World) (R B:Nat) (p:Pt) (TA:Option Addr) (tc:Nat) (UA:Option Addr) (uc:Nat) (N:Nat) (OA:Option Addr) (oc:Nat) (out:List Pt) (MA:Option Addr) (mc:Nat) (u:List Nd) (hall:List PV) (hs:List Pt) (cs:List XV) (bl:List (List Pt×List Nd)) (HA:Option Addr) (hc:Nat) (hvs:List PV) (BA:Option Addr) (bc:Nat) (bvs:List XV) (VA:Option Addr) (vc:Nat) (Dc:List (Option Addr×Nat×Nat)) (H X:Nat) (v:PV) (q:XV) (Y:Nat->Prop) (w:World):Prop where
 c:tX P es env a Y0 w0 R B p TA tc UA uc N OA oc out MA mc u hall hs cs bl HA Y w
 ho:gV w N HA hc hvs
 bo:GJ w N BA bc bvs
 vo:iH w N VA vc Dc
 bh:aS w Y H #[.int .i64 v.k,.string v.lb,.string v.nm,.string v.bd,.int .i64 v.mn,.int .i64 v.num,.slice v.TA v.tn v.tc,.slice v.UA v.un v.uc] 33
 bx:aS w Y X #[.slice q.A q.n q.c,.slice q.TA q.tn q.tc] 65
 dh:∀g,HA=some g->g.block≠H
 dx:∀g,BA=some g->g.block≠X
section
variable {P a a':Nat} {es:List Pt} {env:Env} {Y0 Y Y':Nat->Prop} {w0 w w':World} {R B:Nat} {p:Pt} {TA UA:Option Addr} {tc uc:Nat} {N:Nat} {OA MA HA BA VA:Option Addr} {oc mc hc bc vc:Nat} {out:List Pt} {u:List Nd} {hall hvs:List PV} {hs:List Pt} {cs bvs:List XV} {Dc:List (Option Addr×Nat×Nat)} {bl:List (List Pt×List Nd)} {H X:Nat} {v:PV} {q:XV}
theorem zD.later (h:zD P es env a Y0 w0 R B p TA tc UA uc N OA oc out MA mc u hall hs cs bl HA hc hvs BA bc bvs VA vc Dc H X v q Y w) (hb:Below w.heap.size w w'):zD P es env a Y0 w0 R B p TA tc UA uc N OA oc out MA mc u hall hs cs bl HA hc hvs BA bc bvs VA vc Dc H X v q Y w':=
 ⟨h.c.later hb,h.ho.below hb (aG _),h.bo.below hb (aG _),h.vo.below hb (aG _),h.bh.below hb,h.bx.below hb,h.dh,h.dx⟩
theorem zD.cells (h:zD P es env a Y0 w0 R B p TA tc UA uc N OA oc out MA mc u hall hs cs bl HA hc hvs BA bc bvs VA vc Dc H X v q Y w):
  w.cell? ⟨H,0,none⟩=some (.int .i64 v.k)/\w.cell? ⟨H,1,none⟩=some (.string v.lb)/\w.cell? ⟨H,2,none⟩=some (.string v.nm)/\w.cell? ⟨H,3,none⟩=some (.string v.bd)/\w.cell? ⟨H,4,none⟩=some (.int .i64 v.mn)/\w.cell? ⟨H,5,none⟩=some (.int .i64 v.num)/\w.cell? ⟨H,6,none⟩=some (.slice v.TA v.tn v.tc)/\w.cell? ⟨H,7,none⟩=some (.slice v.UA v.un v.uc)/\
   w.cell? ⟨X,0,none⟩=some (.slice q.A q.n q.c)/\w.cell? ⟨X,1,none⟩=some (.slice q.TA q.tn q.tc):=
 ⟨by simp [Ck,h.bh.blk],by simp [Ck,h.bh.blk],by simp [Ck,h.bh.blk],by simp [Ck,h.bh.blk],by simp [Ck,h.bh.blk],by simp [Ck,h.bh.blk],by simp [Ck,h.bh.blk],by simp [Ck,h.bh.blk],h.bx.kR.1,h.bx.kR.2⟩
theorem zD.qj {hc':Nat} {BO:Option Addr} {l2:List PV} (h:zD P es env a Y0 w0 R B p TA tc UA uc N OA oc out MA mc u hall hs cs bl HA hc hvs BA bc bvs VA vc Dc H X v q Y w) (hown:gV w' N BO hc' (hvs++l2)) (hg:w.grownBy w' ((fq HA hvs.length hc).ownBlock))
  (hd:(fq BO (hvs.length+l2.length) hc').ownBlock=(fq HA hvs.length hc).ownBlock\/(fq BO (hvs.length+l2.length) hc').ownBlock=some w.heap.size):
  zD P es env a Y0 w0 R B p TA tc UA uc N OA oc out MA mc u hall hs cs bl BO hc' (hvs++l2) BA bc bvs VA vc Dc H X v q Y w'/\g_ w w' 33 Y:=by
 obtain ⟨c2,k,hf,hnew⟩:=h.c.qj h.ho hg hd;refine ⟨⟨c2,hown,h.bo.bW k (by decide),h.vo.bW k (by decide),h.bh.XZ hf fun ⟨g,hg1,hg2⟩=>h.dh g hg1 hg2,h.bx.eX k (by decide),fun g hgg=>?_,h.dx⟩,k⟩;rcases hnew g hgg with ⟨g2,e1,e2⟩|e1
 ·rw [<-e2]
  exact h.dh g2 e1
 ·have:=h.bh.lt
  omega
theorem zD.mP {bc':Nat} {Da:Option Addr} {l2:List XV} (h:zD P es env a Y0 w0 R B p TA tc UA uc N OA oc out MA mc u hall hs cs bl HA hc hvs BA bc bvs VA vc Dc H X v q Y w) (hown:GJ w' N Da bc' (bvs++l2)) (hg:w.grownBy w' ((fq BA bvs.length bc).ownBlock))
  (hd:(fq Da (bvs.length+l2.length) bc').ownBlock=(fq BA bvs.length bc).ownBlock\/(fq Da (bvs.length+l2.length) bc').ownBlock=some w.heap.size):
  zD P es env a Y0 w0 R B p TA tc UA uc N OA oc out MA mc u hall hs cs bl HA hc hvs Da bc' (bvs++l2) VA vc Dc H X v q Y w'/\g_ w w' 65 Y:=by
 obtain ⟨c2,k,hf,hnew⟩:=h.c.mP h.bo hg hd;refine ⟨⟨c2,h.ho.bW k (by decide),hown,h.vo.bW k (by decide),h.bh.eX k (by decide),h.bx.XZ hf fun ⟨g,hg1,hg2⟩=>h.dx g hg1 hg2,h.dh,fun g hgg=>?_⟩,k⟩;rcases hnew g hgg with ⟨g2,e1,e2⟩|e1
 ·rw [<-e2]
  exact h.dx g2 e1
 ·have:=h.bx.lt
  omega
theorem zD.mQ {zB:Nat} {zA:Option Addr} {l2:List (Option Addr×Nat×Nat)} (h:zD P es env a Y0 w0 R B p TA tc UA uc N OA oc out MA mc u hall hs cs bl HA hc hvs BA bc bvs VA vc Dc H X v q Y w) (hown:iH w' N zA zB (Dc++l2)) (hg:w.grownBy w' ((fq VA Dc.length vc).ownBlock)):
  zD P es env a Y0 w0 R B p TA tc UA uc N OA oc out MA mc u hall hs cs bl HA hc hvs BA bc bvs zA zB (Dc++l2) H X v q Y w'/\g_ w w' 28 Y:=by
 obtain ⟨c2,k⟩:=h.c.mQ h.vo hg;exact ⟨⟨c2,h.ho.bW k (by decide),h.bo.bW k (by decide),hown,h.bh.eX k (by decide),h.bx.eX k (by decide),h.dh,h.dx⟩,k⟩
end
structure Rn (P:Nat) (es:List Pt) (env:Env) (a:Nat) (Y0:Nat->Prop) (w0:World) (R B:Nat) (p:Pt) (TA:Option Addr) (tc:Nat) (UA:Option Addr) (uc:Nat) (l:List Br) (HA:Option Addr) (hc:Nat) (hvs:List PV) (BA:Option Addr) (bc:Nat) (cs:List XV) (GA:Option Addr) (gc:Nat) (m:List Nd) (Y:Nat->Prop) (w:World):Prop where
 md:pK P es env a Y0 w0 R B p TA tc UA uc Y w
 ho:gV w w0.heap.size HA hc hvs
 bo:GJ w w0.heap.size BA bc cs
 hp:dO w Y hvs (l.map (·.1))
 cl:cs.length=l.length
 sl:∀(i:Nat) (q:XV) (e:Br),cs[i]?=some q->l[i]?=some e->q.n=e.2.1.length/\q.tn=e.2.2.length/\bP w Y q.A q.c e.2.1/\aA w Y q.TA q.tc e.2.2
 m:aA w Y GA gc m
section
variable {P a:Nat} {es:List Pt} {env:Env} {Y0 Y:Nat->Prop} {w0 w w':World} {R B:Nat} {p:Pt} {TA UA:Option Addr} {tc uc:Nat} {l:List Br} {HA BA GA:Option Addr} {hc bc gc:Nat} {hvs:List PV} {cs:List XV} {m:List Nd}
theorem Rn.later (h:Rn P es env a Y0 w0 R B p TA tc UA uc l HA hc hvs BA bc cs GA gc m Y w) (hb:Below w.heap.size w w'):Rn P es env a Y0 w0 R B p TA tc UA uc l HA hc hvs BA bc cs GA gc m Y w':=
 ⟨h.md.later hb,h.ho.below hb (aG _),h.bo.below hb (aG _),h.hp.fr (Fr.below hb) (ah.refl _ _),h.cl,fun i q e hq he=>⟨(h.sl i q e hq he).1,(h.sl i q e hq he).2.1,(h.sl i q e hq he).2.2.1.fr (Fr.below hb) (ah.refl _ _),(h.sl i q e hq he).2.2.2.later hb⟩,h.m.later hb⟩
end
end Go.Proofs.YtmjdhfbnmmdjiaaGreat
