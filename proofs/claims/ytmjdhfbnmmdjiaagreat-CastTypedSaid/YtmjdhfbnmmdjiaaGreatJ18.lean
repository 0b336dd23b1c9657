/- Laid together by a tool from the texts of this seat: ChNm ChD ChEx. Conditions: each theorem's own. -/
import Derived.Test.YtmjdhfbnmmdjiaaGreatJ13
import Derived.RangeFuncNested
import Derived.RangeFuncBound
import Derived.RangeFuncCalls
import Derived.RangeFuncLeaves
import Derived.Shelf.Abstract
import Derived.Shelf.RegionOpen
import Derived.WalkKit
import Derived.OwnWalkIn
import Derived.TacticsInMore
import Derived.LoopNIn
import Derived.LoopIn
import Derived.Test.YtmjdhfbnmmdjiaaGreatJ16
import Derived.Test.YtmjdhfbnmmdjiaaGreatJ17
set_option maxHeartbeats 8000000
set_option maxRecDepth 100000
namespace Go.Proofs.YtmjdhfbnmmdjiaaGreat
open Go.Lib renaming hid->aD,run_eql_slice_nil->aat
open _root_.And renaming intro->Cj
open Go.World renaming cell?->Ck,frozen?->EJ
open Go.RowKit.Below renaming refl->aF,heap_alloc->Ew
open _root_.Nat renaming le_refl->aG,le_trans->Ed,lt_of_lt_of_le->Yw
open _root_.List renaming length_nil->aap,length_cons->mX,nil_append->aar,cons_append->rM,getElem?_cons_succ->FR,mem_map->aas,mem_range->PG
open _root_.Array renaming getElem?_eq_some_iff->aaj
open Go.RowKit Go.Shelf
attribute [local go_sem] Oper.semAt_some
instance:Inhabited Bn:=⟨⟨ByteArray.empty,none,0,0⟩⟩
abbrev Jb:=Nat×Bn
def Gb (x:Jb):Array Value:=#[.int .i64 (x.1:Int),.agg #[.string x.2.s,.slice x.2.A x.2.n x.2.c]]
def Bw (bs:List Bn) (k:Nat):Jb:=(bs.length-1-k,(bs[bs.length-1-k]?).getD default)
def lM (bs:List Bn) (k:Nat):List Jb:=(List.range k).map (Bw bs)
theorem Bz (bs:List Bn) (k:Nat):lM bs (k+1)=lM bs k++[Bw bs k]:=by simp [lM,List.range_succ]
theorem D5 (bs:List Bn) (k:Nat):(lM bs k).length=k:=by simp [lM]
structure rz (N R:Nat) (W W':World):Prop where
 size:W.heap.size<=W'.heap.size
 block:∀k,k<N->k≠R->W'.heap[k]?=W.heap[k]?
theorem rz.refl (N R:Nat) (W:World):rz N R W W:=⟨aG _,fun _ _ _=>rfl⟩
theorem rz.trans {N R:Nat} {A B C:World} (h:rz N R A B) (k:rz N R B C):rz N R A C:=⟨Ed h.size k.size,fun q h1 h2=>(k.block q h1 h2).trans (h.block q h1 h2)⟩
theorem rz.cell {N R:Nat} {A B:World} (h:rz N R A B) {b off:Nat} (hb:b<N) (hr:b≠R):B.cell? ⟨b,off,none⟩=A.cell? ⟨b,off,none⟩:=by simp [Ck,h.block b hb hr]
theorem rz.put {N R:Nat} {w:World} (hN:N<=w.heap.size) (W:World) (l:Nat) (o o':Obj) (hl:w.heap.size<=l) (h:W.heap[l]?=some o) (_:o.isCells=false) (_:o.isWalk=false):rz N R W (W.putObj l o'):=
 ⟨(grownBy_putObj' W l o').size,fun k hk _=>(grownBy_putObj' W l o').block k (by have:=(aaj.1 h).1;omega) (fun e=>by injection e with e;omega)⟩
theorem rz.of_below {N R:Nat} {A B:World} (h:Below N A B):rz N R A B:=⟨h.size,fun k hk _=>h.block k hk⟩
def QT (n0 R:Nat) (W:World) (A:Option Addr) (bs:List Bn):Prop:=bs≠[]->∃b off,A=some ⟨b,off,none⟩/\b<n0/\b≠R/\∀j,j<bs.length->W.cell? ⟨b,off+j*2,none⟩=some (.string ((bs[j]?).getD default).s)/\W.cell? ⟨b,off+j*2+1,none⟩=some (.slice ((bs[j]?).getD default).A ((bs[j]?).getD default).n ((bs[j]?).getD default).c)
theorem aaH (n:Nat) (hn:1<=n) (l Bs n0 R cap:Nat) (A:Option Addr) (bs:List Bn) (hlen:bs.length<=1000000) (J Jx:List Jb->World->Prop)
  (hY:∀pre x W,J pre W->pre.length<bs.length->YieldAt Fence.wide (n-1) Tryz.prog l (Gb x) W fun e W'=>
   (e= .returned (.bool true)/\J (pre++[x]) W'/\rz n0 R W W')\/(e= .returned (.bool false)/\Jx (pre++[x]) W'))
  (W:World) (hBl:Bs<n0) (hBr:Bs≠R) (CW:W.cell? ⟨Bs,0,none⟩=some (.slice A bs.length cap)) (hc:QT n0 R W A bs) (h0:J [] W):
  CallsIn Fence.wide n Tryz.prog 119 #[.func (.yield l) #[] #[],.pointer (some ⟨Bs,0,none⟩)] W fun e W'=>(∃v,e= .returned v)/\
   ((∃ys,ys=lM bs bs.length/\J ys W')\/(∃pre,(∃k,k<=bs.length/\pre=lM bs k)/\Jx pre W')):=by
 refine callsIn_of_wp Tryz.func119 rfl trivial ?_ rfl;simp only [Tryz.ntmps119,List.size_toArray,mX,aap,Nat.reduceAdd,Nat.reduceSub,Array.replicate_succ,Array.replicate_zero,List.push_toArray,List.append_toArray,aar,rM];obtain ⟨len,hl⟩:∃len,len=bs.length:=⟨_,rfl⟩;rw [<-hl] at CW hlen ⊢;have HL:=aD (Cj hl (Cj hY hc));clear hl hY hc
 gi_wp2
 gi_loopw [3] (fun i wr=>∃k m:Nat,k+m=len/\i= .int .i64 ((m:Int)-1)/\J (lM bs k) wr/\rz n0 R W wr)
  (fun i _=>(intOf i+1).toNat)
 case atStart=>exact ⟨0,len,by omega,by simp,h0,rz.refl _ _ _⟩
 case round=>
  obtain ⟨k,m,hkm,rfl,hJs,hnx⟩:=hrel;have anL:=(hnx.cell (off:=0) hBl hBr).trans CW
  cases m with
  |succ m=>
   obtain ⟨y,hy0,hym⟩:∃y,Bw bs k=(m,y)/\y=(bs[m]?).getD default:=⟨_,by unfold Bw;rw [<-HL.out.1,show len-1-k=m by omega],rfl⟩;have hsucc:lM bs (k+1)=lM bs k++[(m,y)]:=by rw [Bz,hy0]
   obtain ⟨fn,tmps,assign,body,hy,hR⟩:=HL.out.2.1 _ (m,y) wr hJs (by rw [D5,<-HL.out.1];omega);dsimp only [Gb] at hy;obtain ⟨b,off,rfl,hbn,hbr,hcs⟩:=HL.out.2.2 (by intro e;have:=HL.out.1;rw [e] at this;simp at this;omega);obtain ⟨d0,d1⟩:=hcs m (by rw [<-HL.out.1];omega);rw [<-hym] at d0 d1;have e0:=(hnx.cell (off:=off+m*2) hbn hbr).trans d0;have e1:=(hnx.cell (off:=off+m*2+1) hbn hbr).trans d1;have HS:=aD (Cj hsucc hnx);have HR:=aD hR;have hml:m<len:=by omega
   clear hcs d0 d1 hy0 hym hsucc hR hJs hnx
   gi_wp2
   refine HR.out.mono ?_;rintro e W3 (⟨rfl,hJ3,hk3⟩|⟨rfl,hJx3⟩)
   ·have HJ:=aD (Cj hJ3 (HS.out.2.trans hk3))
    clear hJ3 hk3
    gi_wp2
    go_roundw
    case rel=>exact ⟨k+1,m,by omega,by simp,by rw [HS.out.1];exact HJ.out.1,HJ.out.2⟩
    case measure=>simp [intOf]
   ·have HJ:=aD hJx3
    clear hJx3
    gi_wp2
    refine bodyPost_ret (results_none rfl _ _ _) rfl ?_
    exact ⟨⟨_,rfl⟩,.inr ⟨_,⟨k+1,by omega,HS.out.1.symm⟩,HJ.out⟩⟩
  |zero=>
   obtain rfl:k=len:=by omega
   have HJ:=aD hJs;clear hJs
   gi_wp2
   go_end0;exact ⟨⟨_,rfl⟩,.inl ⟨_,rfl,by have:=HJ.out;rwa [HL.out.1] at this⟩⟩
theorem QT.keep {n0 R:Nat} {W W':World} {A:Option Addr} {bs:List Bn} (h:QT n0 R W A bs) (k:rz n0 R W W'):QT n0 R W' A bs:=fun hne=>by
 obtain ⟨b,off,e,h1,h2,h3⟩:=h hne;exact ⟨b,off,e,h1,h2,fun j hj=>⟨(k.cell h1 h2).trans (h3 j hj).1,(k.cell h1 h2).trans (h3 j hj).2⟩⟩
theorem JO (n:Nat) (hn:1<=n) (Bs n0 R cap:Nat) (A:Option Addr) (bs:List Bn) (hlen:bs.length<=1000000) (w:World) (hn0:n0<=w.heap.size) (hBl:Bs<n0) (hBr:Bs≠R) (CW:w.cell? ⟨Bs,0,none⟩=some (.slice A bs.length cap)) (hc:QT n0 R w A bs):
  SeqStopsK Fence.wide n Tryz.prog 119 #[.pointer (some ⟨Bs,0,none⟩)] Gb (rz n0 R) (fun ys=>ys=lM bs bs.length) (fun pre=>∃k,k<=bs.length/\pre=lM bs k) bs.length w:=fun l J Jx W hW _ _ hY h0=>
 aaH n hn l Bs n0 R cap A bs hlen J Jx hY W hBl hBr (((rz.of_below (R:=R) (hW.mono hn0)).cell hBl hBr).trans CW) (hc.keep (rz.of_below (hW.mono hn0))) h0
theorem XU (n:Nat) (A:Option Addr) (len cap:Nat) (w:World):
  CallsIn Fence.wide n Tryz.prog 95 #[.slice A len cap] w fun e w'=>e= .returned (.func (.func 119) #[] #[.pointer (some ⟨w.heap.size,0,none⟩)])/\w'=w.alloc (.cells #[.slice A len cap] 22):=by
 refine callsIn_of_wp Tryz.func95 rfl trivial ?_ rfl;simp only [Tryz.ntmps95,List.size_toArray,mX,aap,Nat.reduceAdd,Nat.reduceSub,Array.replicate_succ,Array.replicate_zero,List.push_toArray,List.append_toArray,aar,rM]
 gi_wp2
 go_ret;exact ⟨rfl,rfl⟩
theorem JQ (w:World) (c0 c1 c2:Array Value) (t0 t1 t2:TypeId) (W:World) (hW:W=((w.alloc (.cells c0 t0)).alloc (.cells c1 t1)).alloc (.cells c2 t2)):
  W.heap[w.heap.size]?=some (.cells c0 t0 (0,0))/\W.heap[w.heap.size+1]?=some (.cells c1 t1 (0,0))/\W.heap[w.heap.size+1+1]?=some (.cells c2 t2 (0,0)):=by
 subst hW;obtain ⟨w1,h1⟩:∃w1,w1=w.alloc (.cells c0 t0):=⟨_,rfl⟩;obtain ⟨w2,h2⟩:∃w2,w2=w1.alloc (.cells c1 t1):=⟨_,rfl⟩;have s1:w1.heap.size=w.heap.size+1:=by rw [h1];simp
 have s2:w2.heap.size=w.heap.size+1+1:=by rw [h2,World.size_alloc,s1]
 rw [<-h1,<-h2];have n0:=heap_alloc_new w (.cells c0 t0);have n1:=heap_alloc_new w1 (.cells c1 t1);have n2:=heap_alloc_new w2 (.cells c2 t2);have e1:=fun q (hq:q<w1.heap.size)=>Ew w1 (.cells c1 t1) q hq;have e2:=fun q (hq:q<w2.heap.size)=>Ew w2 (.cells c2 t2) q hq;rw [<-h1] at n0;rw [<-h2,s1] at n1;rw [s2] at n2;rw [<-h2] at e1;exact ⟨by rw [e2 _ (by omega),e1 _ (by omega),n0],by rw [e2 _ (by omega),n1],n2⟩
theorem qN {β:Type} (B b:Nat) (f:β->Obj) (hc:∀s,(f s).isCells=true):OwnFrom B (fun (s:β) W=>W.heap[b]?=some (f s)):=fun s W W' row hs hg hr=>by
 have hb:b<W.heap.size:=(aaj.1 hs).1;refine (hg.block b hb fun e=>?_).trans hs;obtain ⟨_,o,ho,hc2⟩:=hr b e.symm;rw [hs] at ho;injection ho with ho
 rw [<-ho,hc s] at hc2
 cases hc2
def NmI (w:World) (p:Pt) (TA:Option Addr) (tc:Nat) (UA:Option Addr) (uc:Nat) (pre:List Jb) (W:World):Prop:=
 (∀x∈pre,x.2.s.toList≠p.nm.toList)/\W.heap[w.heap.size]?=some (.cells #[.int .i64 p.k,.string p.lb,.string p.nm,.string p.bd,.int .i64 p.mn,.int .i64 p.num,.slice TA p.T.length tc,.slice UA p.U.length uc] 33 (0,0))/\W.heap[w.heap.size+1]?=some (.cells #[.slice none 0 0] 28 (0,0))/\Below w.heap.size w W/\w.heap.size+3<=W.heap.size
def NmX (w:World) (p:Pt) (c:Code) (pre:List Jb) (W:World):Prop:=
 (∃pre' x,c= .ret/\pre=pre'++[x]/\(∀y∈pre',y.2.s.toList≠p.nm.toList)/\x.2.s.toList=p.nm.toList/\W.heap[w.heap.size+1]?=some (.cells #[.slice x.2.A x.2.n x.2.c] 28 (0,0)))/\Below w.heap.size w W
theorem XW (w:World) (p:Pt) (TA:Option Addr) (tc:Nat) (UA:Option Addr) (uc:Nat) (B:Nat) (hB:w.heap.size<=B):OwnFrom B (NmI w p TA tc UA uc):=fun _s W W' row hs hg hr=>
 ⟨hs.1,qN B _ (fun _:Unit=>_) (fun _=>rfl) () W W' row hs.2.1 hg hr,qN B _ (fun _:Unit=>_) (fun _=>rfl) () W W' row hs.2.2.1 hg hr,ownFrom_below (β:=Unit) (aG _) hB () W W' row hs.2.2.2.1 hg hr,Ed hs.2.2.2.2 hg.size⟩
theorem XY (w:World) (p:Pt) (B:Nat) (hB:w.heap.size<=B) (c:Code):OwnFrom B (NmX w p c):=fun s W W' row hs hg hr=>by
 obtain ⟨⟨pre',x,h1,h2,h3,h4,h5⟩,h6⟩:=hs;exact ⟨⟨pre',x,h1,h2,h3,h4,qN B _ (fun _:Unit=>_) (fun _=>rfl) () W W' row h5 hg hr⟩,ownFrom_below (β:=Unit) (aG _) hB () W W' row h6 hg hr⟩
theorem D6 {N:Nat} {w W:World} (h:Below N w W) (o:Obj) (hN:N<=w.heap.size:=by exact aG _):Below N w (W.alloc o):=h.alloc (Ed hN h.size) o
theorem aM.XZ {P:Nat} {es:List Pt} {env:Env} {s:zx} {Y Q:Nat->Prop} {w w':World} (h:aM P es env s Y w) (k:Fr Q w w') (hQ:∀q,Q q->¬iE w q 49/\¬iE w q 33/\¬iE w q 36/\¬iE w q 60/\¬Bj Y q):aM P es env s Y w':=by
 obtain ⟨a,p,e,⟨EA,ec,VA,vc,bs,h⟩,hr⟩:=h;refine ⟨a,p,e,⟨EA,ec,VA,vc,bs,?_⟩,hr⟩
 have ty:∀{A:Option Addr} {t:List Nd},tL w Y A t->tL w' Y A t:=fun {A t} ht hne=>by
  obtain ⟨b,o,e,hb,hy,hr,ho⟩:=ht hne;have hbk:=k.block b hb fun h2=>ho.elim (hQ b h2).1 (hQ b h2).2.2.2.2;exact ⟨b,o,e,Yw hb k.size,hy,hr.mono fun off=>by simp [Ck,hbk],ho.imp (kY hbk) fun h=>h⟩
 have hP:=h.lt P ((h.y P).2 (.inl rfl));refine ⟨(k.block P hP fun h5=>(hQ P h5).2.2.2.1 ⟨_,_,h.blk⟩).trans h.blk,aB.fr h.own k (fun a ha h5=>(hQ _ h5).2.2.1 (aB.qK h.own ha)),?_,⟨h.en.1,fun i b e hb he=>⟨(h.en.2 i b e hb he).1,(h.en.2 i b e hb he).2.1,⟨ty (h.en.2 i b e hb he).2.2.ty,(h.en.2 i b e hb he).2.2.cap⟩⟩⟩,h.y,h.np,h.el,h.vl⟩;intro i p hp;obtain ⟨b,o,e,hb,hy,hr,ho⟩:=h.ex i p hp;have hbk:=k.block b hb fun h5=>ho.elim (hQ b h5).2.1 (hQ b h5).2.2.2.2;refine ⟨b,o,e,Yw hb k.size,hy,?_,ho.imp (kY hbk) fun h=>h⟩;obtain ⟨TA,tc,UA,uc,f1,f2,f3⟩:=hr;refine ⟨TA,tc,UA,uc,⟨ty f1.ty,f1.cap⟩,⟨ty f2.ty,f2.cap⟩,?_⟩;simp only [Ck,hbk] at f3 ⊢;exact f3
theorem OB {α:Type} {p:α->Bool}:∀{l:List α} {i:Nat} {x:α},l[i]?=some x->p x=true->(∀j y,j<i->l[j]?=some y->p y=false)->l.find? p=some x
 |[],i,x,h,_,_=>by simp at h
 |y::ys,0,x,h,hp,_=>by
  simp at h;subst h
  simp [hp]
 |y::ys,i+1,x,h,hp,ht=>by
  have h0:=ht 0 y (by omega) rfl;rw [FR] at h;simp only [List.find?_cons,h0];exact OB h hp fun j z hj hz=>ht (j+1) z (by omega) (by rw [FR];exact hz)
theorem Lm {w:World} {Y:Nat->Prop} {bs:List Bn} {env:Env} (h:dX w Y bs env) {j:Nat} (hj:j<bs.length):∃b e,bs[j]?=some b/\env.reverse[bs.length-1-j]?=some e/\b.s=e.1/\b.n=e.2.length/\aA w Y b.A b.c e.2:=by
 obtain ⟨b,hb⟩:=aN hj;obtain ⟨e,he⟩:=aN (l:=env) (i:=j) (by rw [<-h.1];exact hj);obtain ⟨h1,h2,h3⟩:=h.2 j b e hb he;refine ⟨b,e,hb,?_,h1,h2,h3⟩;rw [List.getElem?_reverse (by rw [<-h.1];omega),<-h.1,show bs.length-1-(bs.length-1-j)=j by omega];exact he
theorem D7 {w:World} {Y:Nat->Prop} {bs:List Bn} {env:Env} {s:ByteArray} (h:dX w Y bs env) (hn:∀x∈lM bs bs.length,x.2.s.toList≠s.toList):lY env s=none:=by
 unfold lY;rw [Option.map_eq_none_iff,List.find?_eq_none];intro e he hq;obtain ⟨i,hi⟩:=List.getElem?_of_mem he;have hil:=aU hi;rw [List.length_reverse,<-h.1] at hil;obtain ⟨b,e2,hb,he2,h1,_,_⟩:=Lm h (j:=bs.length-1-i) (by omega);rw [show bs.length-1-(bs.length-1-i)=i by omega,hi] at he2;injection he2 with he2
 subst he2;have hm:Bw bs i∈lM bs bs.length:=aas.2 ⟨i,PG.2 hil,rfl⟩;refine hn _ hm ?_;unfold Bw;rw [hb];show b.s.toList=_;rw [h1];exact eq_of_beq hq
theorem JR {w:World} {Y:Nat->Prop} {bs:List Bn} {env:Env} {s:ByteArray} (h:dX w Y bs env) {k:Nat} {pre pre':List Jb} {x:Jb} (hk:k<=bs.length) (hp:pre=lM bs k) (he:pre=pre'++[x]) (hno:∀y∈pre',y.2.s.toList≠s.toList) (heq:x.2.s.toList=s.toList):
  ∃t,lY env s=some t/\x.2.n=t.length/\aA w Y x.2.A x.2.c t:=by
 have hl:k=pre'.length+1:=by
  have:=congrArg List.length (hp.symm.trans he);rw [D5,List.length_append] at this;exact this
 subst hl;rw [Bz] at hp;have h2:=List.append_inj' (he.symm.trans hp) rfl;obtain ⟨h3,h4⟩:=h2;injection h4 with h4 _
 obtain ⟨b,e,hb,he2,h5,h6,h7⟩:=Lm h (j:=bs.length-1-pre'.length) (by omega);rw [show bs.length-1-(bs.length-1-pre'.length)=pre'.length by omega] at he2
 have hx2:x.2=b:=by
  rw [h4];unfold Bw;rw [hb];rfl
 rw [hx2] at heq ⊢;refine ⟨e.2,?_,h6,h7⟩;unfold lY;rw [OB he2 (by rw [<-h5];simp [heq]) ?_]
 ·rfl
 ·intro j y hj hy
  obtain ⟨b3,e3,hb3,Om,g1,_,_⟩:=Lm h (j:=bs.length-1-j) (by omega);rw [show bs.length-1-(bs.length-1-j)=j by omega,hy] at Om;injection Om with Om
  subst Om
  have hm:Bw bs j∈pre':=by
   rw [h3];exact aas.2 ⟨j,PG.2 hj,rfl⟩
  have:=hno _ hm;unfold Bw at this;rw [hb3] at this;rw [<-g1];simpa using this
theorem U2 (P:Nat) (es:List Pt) (env:Env) (p:Pt) (aK a:Nat) (r:fC) (Y:Nat->Prop) (w:World) (TA UA:Option Addr) (tc uc:Nat) (h:aM P es env (.ok a) Y w) (hT:aA w Y TA tc p.T) (hU:aA w Y UA uc p.U) (hm:uE env p aK a=some r):
  Calls Tryz.prog 65 #[pk P,pv p TA tc UA uc,.int .i64 aK] w (aY P es env Y r w):=by
 have xW:Hid (P<w.heap.size):=aD (h.lt P h.yP);have H:=aD (Cj h (Cj hT hU));obtain ⟨a',p',e',⟨EA,ec,VA,vc,bs,hmk⟩,ha,hp,he⟩:=h;have HM:=aD (Cj hmk hm);obtain ⟨_,_,c2,_,_⟩:=hmk.cells;have U1:=hmk.lt P ((hmk.y P).2 (.inl rfl));have hbl:bs.length<=1000000:=by rw [hmk.en.1];exact hmk.vl
 have h1:((w.alloc (.cells #[.int .i64 p.k,.string p.lb,.string p.nm,.string p.bd,.int .i64 p.mn,.int .i64 p.num,.slice TA p.T.length tc,.slice UA p.U.length uc] 33)).alloc (.cells #[.slice none 0 0] 28)).cell? ⟨P,2,none⟩=some (.slice VA bs.length vc):=by
  rw [<-c2];exact (aj (aj (aF _ _) _) _:Below w.heap.size w _).cell U1
 clear ha hp he hmk hT hU hm c2;refine (callsIn_wide (n:=9)).1 ?_;unfold pk pv;refine callsIn_of_wp_marks Tryz.func65 rfl trivial ?_ rfl;simp only [Tryz.ntmps65,List.size_toArray,mX,aap,Nat.reduceAdd,Nat.reduceSub,Array.replicate_succ,Array.replicate_zero,List.push_toArray,List.append_toArray,aar,rM]
 gi_wp2
 refine ⟨trivial,?_⟩;refine (XU 8 VA bs.length vc _).mono ?_;rintro e w' ⟨rfl,rfl⟩;clear h1;obtain ⟨W0,hW0⟩:∃W0,W0=((w.alloc (.cells #[.int .i64 p.k,.string p.lb,.string p.nm,.string p.bd,.int .i64 p.mn,.int .i64 p.num,.slice TA p.T.length tc,.slice UA p.U.length uc] 33)).alloc (.cells #[.slice none 0 0] 28)).alloc (.cells #[.slice VA bs.length vc] 22):=⟨_,rfl⟩;have hsz:W0.heap.size=w.heap.size+3:=by rw [hW0];simp
 have hB0:Below w.heap.size w W0:=by rw [hW0];exact aj (aj (aj (aF _ _) _) _) _
 obtain ⟨q0,q1,q2⟩:=JQ w _ _ _ _ _ _ W0 hW0;rw [<-hW0];clear hW0
 gi_wp2
 have HQ:=aD (Cj hsz (Cj hB0 (Cj q0 (Cj q1 q2))));have hbs:W0.cell? ⟨w.heap.size+1+1,0,none⟩=some (.slice VA bs.length vc):=by simp [Ck,q2]
 have hbw:QT (w.heap.size+3) (w.heap.size+1) W0 VA bs:=fun hne=>by
  obtain ⟨b,o,e,hb,hr⟩:=(aB.read rX HM.out.1.own) hne;refine ⟨b,o,e,by omega,by omega,fun j hj=>?_⟩;have hx:bs[j]?=some bs[j]:=List.getElem?_eq_getElem hj;have h0:=hr j _ hx 0 _ rfl;have h1:=hr j _ hx 1 _ rfl;rw [hx];exact ⟨(hB0.cell hb).trans h0,(hB0.cell hb).trans h1⟩
 refine wpIn_rangeFunc_ownH rfl (by decide) (gf:=119) (lb:=#[.pointer (some ⟨w.heap.size+1+1,0,none⟩)]) rfl trivial (enters_of Tryz.func119 (by kernel_rfl) rfl)
  (JO 8 (by decide) (w.heap.size+1+1) (w.heap.size+3) (w.heap.size+1) vc VA bs hbl W0 (by omega) (by omega) (by omega) hbs hbw) rz.trans (rz.put (by omega)) (aF _ _) (fun _=>rfl)
  (NmI w p TA tc UA uc) (NmX w p) (XW w p TA tc UA uc W0.heap.size (by omega)) (fun c=>XY w p W0.heap.size (by omega) c)
  ⟨fun x hx=>by simp at hx,q0,q1,hB0,by omega⟩
  (fun x a2 W=>∃Bx,w.heap.size+3<=Bx/\W.heap[Bx]?=some (.cells #[.string x.2.s,.slice x.2.A x.2.n x.2.c] 36 (0,0))/\a2={tmps:=#[.pointer (some ⟨P,0,none⟩),.agg #[.int .i64 p.k,.string p.lb,.string p.nm,.string p.bd,.int .i64 p.mn,.int .i64 p.num,.slice TA p.T.length tc,.slice UA p.U.length uc],.int .i64 (aK:Int),undef,.pointer (some ⟨w.heap.size,0,none⟩),undef,.pointer (some ⟨w.heap.size+1,0,none⟩),undef,.pointer (some ⟨Bx,0,none⟩),.pointer (some ⟨P,0,none⟩),.pointer (some ⟨P,0,none⟩),.pointer (some ⟨P,2,none⟩),.slice VA bs.length vc,.func (.func 119) #[] #[.pointer (some ⟨w.heap.size+1+1,0,none⟩)],.int .i64 (x.1:Int),.agg #[.string x.2.s,.slice x.2.A x.2.n x.2.c],undef,undef,undef,undef,undef,undef,undef,undef,undef,undef],defers:=[]})
  (fun x a2 _ X Y row hs hg hr=>by
   obtain ⟨Bx,e1,e2,e3⟩:=hs;exact ⟨Bx,e1,qN W0.heap.size Bx (fun _:Unit=>_) (fun _=>rfl) () X Y row e2 hg hr,e3⟩)
  ?assign ?body ?done ?stop
 case assign=>
  rintro l pre x W K hI hK;have HK:=aD (Cj hI hK);clear hI hK;unfold Gb
  gi_wp2
  have hzW:=HK.out.1.2.2.2.2;exact HK.out.2 _ _ ((KeepsOthers.alloc _ _).from _) ⟨by simp,fun k hk _=>Ew _ _ _ (by omega)⟩ ⟨HK.out.1.1,(Ew _ _ _ (by omega)).trans HK.out.1.2.1,(Ew _ _ _ (by omega)).trans HK.out.1.2.2.1,D6 HK.out.1.2.2.2.1 _,by simp;omega⟩ ⟨W.heap.size,hzW,heap_alloc_new _ _,rfl⟩
 case body=>
  rintro l pre x a2 W hl ⟨r1,hr⟩ hI ⟨Bx,hBx,bX,rfl⟩ hlt;have b0:W.cell? ⟨Bx,0,none⟩=some (.string x.2.s):=by simp [Ck,bX]
  have b1:W.cell? ⟨Bx,1,none⟩=some (.slice x.2.A x.2.n x.2.c):=by simp [Ck,bX]
  have n2:W.cell? ⟨w.heap.size,2,none⟩=some (.string p.nm):=by simp [Ck,hI.2.1]
  have cR:W.cell? ⟨w.heap.size+1,0,none⟩=some (.slice none 0 0):=by simp [Ck,hI.2.2.1]
  have fR:W.frozen? ⟨w.heap.size+1,0,none⟩=false:=by simp [EJ,hI.2.2.1]
  have HI:=aD hI;by_cases heq:x.2.s.toList=p.nm.toList
  ·have hq:(x.2.s.toList==p.nm.toList)=true:=by simp [heq]
   have HE:=aD heq;clear heq hI hr hl hlt bX
   gi_wp2
   exact ⟨(KeepsOthers.setCell _ _ _).from _,⟨pre,x,rfl,rfl,HI.out.1,HE.out,heap_set HI.out.2.2.1 0 _⟩,HI.out.2.2.2.1.setCell (p:=⟨w.heap.size+1,0,none⟩) (by simp) _⟩
  ·have hq:(x.2.s.toList==p.nm.toList)=false:=by simp [heq]
   have HE:=aD heq;clear heq hI hr hl hlt bX
   gi_wp2
   refine ⟨KeepsFrom.refl _ _,rz.refl _ _ _,fun y hy=>?_,HI.out.2⟩;rcases List.mem_append.1 hy with hy|hy
   ·exact HI.out.1 y hy
   ·simp at hy
    subst hy;exact HE.out
 case done=>
  rintro D xs W hD hS hI hK;have cR:W.cell? ⟨w.heap.size+1,0,none⟩=some (.slice none 0 0):=by simp [Ck,hI.2.2.1]
  have fR:W.frozen? ⟨w.heap.size+1,0,none⟩=false:=by simp [EJ,hI.2.2.1]
  have HI:=aD hI;have HK:=aD hK;clear hI;have FW:=aD (jl P es env (.ok a) false aK 5 Y W (.inl (by decide)) (H.out.1.later HI.out.2.2.2.1));unfold pk at FW;have hRn:lY env p.nm=none:=D7 HM.out.1.en (by rw [<-hS];exact HI.out.1)
  have IY:Hid (r= .error (aK,5)):=aD (by
   have:=HM.out.2;unfold uE at this;rw [hRn] at this;injection this with this
   exact this.symm)
  clear hRn hK cR fR
  gi_wp2
  refine ⟨trivial,?_⟩;refine (callsIn_wide.2 FW.out).mono ?_;rintro e w5 ⟨⟨v5,rfl⟩,tJ,hk5⟩;have hRY:¬Y (w.heap.size+1):=fun hy=>by have:=H.out.1.lt _ hy;omega
  have hDY:¬Y D:=fun hy=>by have:=H.out.1.lt _ hy;omega
  have hDl:D<W.heap.size:=(aaj.1 HK.out).1;have hRl:w.heap.size+1<W.heap.size:=by have:=HI.out.2.2.2.2;omega
  have r5:w5.heap[w.heap.size+1]?=some (.cells #[.slice none 0 0] 28 (0,0)):=(tJ.block _ hRl hRY).trans HI.out.2.2.1;have d5:w5.heap[D]?=some (.deferred (some [])):=(tJ.block _ hDl hDY).trans HK.out;have cR:w5.cell? ⟨w.heap.size+1,0,none⟩=some (.slice none 0 0):=by simp [Ck,r5]
  have fR:w5.frozen? ⟨w.heap.size+1,0,none⟩=false:=by simp [EJ,r5]
  have H5:=aD (Cj tJ (Cj hk5 (Cj r5 d5)));clear tJ hk5 r5 d5
  gi_wp2
  have hK':=(KeepsOthers.setCell w5 ⟨w.heap.size+1,0,none⟩ (.slice none 0 0)).same D _ H5.out.2.2.2 rfl;refine ⟨by simp,.inl ⟨_,_,rfl,run_takeDeferred hK',?_⟩⟩;have hne:D≠w.heap.size+1:=by omega
  have hb6:(w5.setCell ⟨w.heap.size+1,0,none⟩ (.slice none 0 0)).heap[w.heap.size+1]?=some (.cells #[.slice none 0 0] 28 (0,0)):=heap_set H5.out.2.2.1 0 _;have pE:((w5.setCell ⟨w.heap.size+1,0,none⟩ (.slice none 0 0)).putObj D (.deferred none)).heap[w.heap.size+1]?=some (.cells #[.slice none 0 0] 28 (0,0)):=(World.putObj_heap_other (fun e=>hne e.symm)).trans hb6;have Ll:((w5.setCell ⟨w.heap.size+1,0,none⟩ (.slice none 0 0)).putObj D (.deferred none)).cell? ⟨w.heap.size+1,0,none⟩=some (.slice none 0 0):=by simp [Ck,pE]
  have hfr:Fr (fun q=>q=w.heap.size+1\/q=D) w5 ((w5.setCell ⟨w.heap.size+1,0,none⟩ (.slice none 0 0)).putObj D (.deferred none)):=
   ((dY w5 (w.heap.size+1) 0 _).mono fun q hq=>.inl hq).trans (Fr.grown (grownBy_putObj' _ D _) fun k e=>by injection e with e;exact .inr e.symm)
  refine ⟨.slice none 0 0,?_,?_⟩
  ·simp [results,Tryz.f65,go_sem,Ll]
  ·rw [IY.out]
   refine ⟨Y,?_,ah.refl _ _,?_,_,_,_,rfl⟩
   ·exact Fr.new ((Fr.below HI.out.2.2.2.1:Fr Y w W).trans H5.out.1) hfr fun q hq=>.inr (by rcases hq with hq|hq<;>omega)
   ·exact aM.XZ H5.out.2.1 hfr (by
     intro q hq;rcases hq with rfl|rfl
     ·have ho:iE w5 (w.heap.size+1) 28:=⟨_,_,H5.out.2.2.1⟩
      exact ⟨fun h=>iE.ne ho h (by decide) rfl,fun h=>iE.ne ho h (by decide) rfl,fun h=>iE.ne ho h (by decide) rfl,fun h=>iE.ne ho h (by decide) rfl,fun h=>by have h1:=h P H5.out.2.1.yP;have h2:=xW.out;omega⟩
     ·have hn:∀T,¬iE w5 q T:=by
       rintro T ⟨cs,fz,h⟩;rw [H5.out.2.2.2] at h
       cases h
      exact ⟨hn _,hn _,hn _,hn _,fun h=>by have h1:=h P H5.out.2.1.yP;have h2:=xW.out;omega⟩)
 case stop=>
  rintro D c pre W hD hpre hI hK;obtain ⟨⟨pre',x,rfl,hpe,hno,heq,hb⟩,hB⟩:=hI;obtain ⟨kk,hkk,hpk⟩:=hpre;obtain ⟨t,hlk,hxn,hxc⟩:=JR HM.out.1.en hkk hpk hpe hno heq
  have IY:Hid (r= .ok (t,a)):=aD (by
   have:=HM.out.2;unfold uE at this;rw [hlk] at this;injection this with this
   exact this.symm)
  gi_wp2
  refine ⟨by simp,.inl ⟨_,_,rfl,run_takeDeferred hK,?_⟩⟩;have hne:D≠w.heap.size+1:=by omega
  have pE:(W.putObj D (.deferred none)).heap[w.heap.size+1]?=some (.cells #[.slice x.2.A x.2.n x.2.c] 28 (0,0)):=(World.putObj_heap_other (fun e=>hne e.symm)).trans hb;have Ll:(W.putObj D (.deferred none)).cell? ⟨w.heap.size+1,0,none⟩=some (.slice x.2.A x.2.n x.2.c):=by simp [Ck,pE]
  have U3:Below w.heap.size w (W.putObj D (.deferred none)):=hB.trans (belowK_b (w:=w) (aG _) W D _ _ (by omega) hK rfl rfl);refine ⟨.slice x.2.A x.2.n x.2.c,?_,?_⟩
  ·simp [results,Tryz.f65,go_sem,Ll]
  ·rw [IY.out]
   exact ⟨Y,Fr.below U3,ah.refl _ _,H.out.1.later U3,x.2.A,x.2.c,by rw [hxn],hxc.later U3⟩
open Go.RowKit
def qO (p:Pt):Prop:=((p.k=2\/p.k=4\/p.k=5\/p.k=11\/p.k=12\/p.k=13\/p.k=14)->p.k≠11->Gd p.T)/\((p.k=5\/p.k=14)->Gd p.U)
instance (p:Pt):Decidable (qO p):=inferInstanceAs (Decidable (_/\_))
def fV (nx:Nx) (es:List Pt) (env:Env) (p:Pt) (aK a:Nat):Option fC:=
 if p.k=0 then Fy p a else
 if p.k=1 then uE env p aK a else
 if p.k=2 then Fz nx env p a else
 if p.k=3 then DV nx env aK a else
 if p.k=4 then FC nx env p aK a else
 if p.k=5 then FD nx env p aK a else
 if p.k=6 then xP nx env aK a else
 if p.k=7 then oN nx es env p aK a else
 if p.k=9 then NU nx env p aK a else
 if p.k=10 then sM nx es env p a else
 if p.k=11 then getM nx env p aK a else
 if p.k=12 then DW nx env p aK a else
 if p.k=13 then Xk nx env p aK a else
 if p.k=14 then uF nx env p aK a else none
def Am:Option fC->Option fC
 |some (.ok (t,b))=>if Gd t then some (.ok (t,b)) else none
 |x=>x
def gW:Nat->List Pt->Nx
 |0,_=>fun _ _=>none
 |f+1,es=>fun env a=>
  match es[a]? with
  |none=>none
  |some p=>if env.length<=900000/\qO p then Am (fV (gW f es) es env p a (a+1)) else none
theorem U4 {x:Option fC} {t:List Nd} {b:Nat} (h:Am x=some (.ok (t,b))):Gd t:=by
 match x,h with
 |some (.ok (t2,b2)),h=>
  simp only [Am] at h;split at h
  ·rename_i hg
   injection h with h
   injection h with h
   injection h with h1 h2
   rw [<-h1];exact hg
  ·cases h
theorem OC {x:Option fC} {r:fC} (h:Am x=some r):x=some r:=by
 match x,h with
 |none,h=>cases h
 |some (.error b),h=>exact h
 |some (.ok (t,b)),h=>
  simp only [Am] at h;split at h
  ·exact h
  ·cases h
theorem aaK:∀(f:Nat) (es:List Pt) (env:Env) (a:Nat) (t:List Nd) (b:Nat),gW f es env a=some (.ok (t,b))->Gd t
 |0,_,_,_,_,_,h=>by cases h
 |f+1,es,env,a,t,b,h=>by
  unfold gW at h;split at h
  ·cases h
  ·split at h
   ·exact U4 h
   ·cases h
def Lp:Value:=.agg #[.func (.func 64) #[] #[],.func (.func 65) #[] #[],.func (.func 66) #[] #[],.func (.func 67) #[] #[],.func (.func 68) #[] #[],.func (.func 69) #[] #[],.func (.func 70) #[] #[],.func (.func 71) #[] #[],.nilFunc,.func (.func 72) #[] #[],.func (.func 73) #[] #[],.func (.func 74) #[] #[],.func (.func 75) #[] #[],.func (.func 76) #[] #[],.func (.func 77) #[] #[]]
theorem U5 (w:World):Calls Tryz.prog 46 #[] w fun e w'=>e= .returned Lp/\Below w.heap.size w w':=by
 go_enter Tryz.func46,Tryz.ntmps46;go_wp2;exact bodyPost_ret (v:=Lp) (by simp [results,Tryz.results46,go_sem,Lp]) rfl ⟨rfl,aj (aF _ _) _⟩
theorem X0 (P:Nat) (es:List Pt) (nx:Nx) (HN:Hid (nC P es nx)) (env:Env) (p:Pt) (aK:Nat) (r:fC) (hes:dZ es) (hp:qO p) (hv:env.length<=900000) (hG:∀env a t b,nx env a=some (.ok (t,b))->Gd t) (hm:fV nx es env p aK (aK+1)=some r):
  ∃K:FuncId,(∀args w,(callFunc K args).run Tryz.prog w= .ok (.enter K args) w)/\(∀w,(Instr.index 77 Lp (.int .i64 p.k)).run Tryz.prog w= .ok (.func (.func K) #[] #[]) w)/\
   ∀(w:World) (Y:Nat->Prop) (TA UA:Option Addr) (tc uc:Nat),aM P es env (.ok (aK+1)) Y w->aA w Y TA tc p.T->aA w Y UA uc p.U->Calls Tryz.prog K #[pk P,pv p TA tc UA uc,.int .i64 aK] w (aY P es env Y r w):=by
 unfold fV at hm;by_cases h0:p.k=0
 ·rw [if_pos h0] at hm
  refine ⟨64,fun _ _=>by kernel_rfl,fun w=>by rw [h0];kernel_rfl,fun w Y TA UA tc uc h hT hU=>?_⟩;exact Xo P es env p aK (aK+1) r Y w TA UA tc uc h hT hU hm
 rw [if_neg h0] at hm;by_cases h1:p.k=1
 ·rw [if_pos h1] at hm
  refine ⟨65,fun _ _=>by kernel_rfl,fun w=>by rw [h1];kernel_rfl,fun w Y TA UA tc uc h hT hU=>?_⟩;exact U2 P es env p aK (aK+1) r Y w TA UA tc uc h hT hU hm
 rw [if_neg h1] at hm;by_cases h2:p.k=2
 ·rw [if_pos h2] at hm
  refine ⟨66,fun _ _=>by kernel_rfl,fun w=>by rw [h2];kernel_rfl,fun w Y TA UA tc uc h hT hU=>?_⟩;exact Xu P es nx HN env p aK (aK+1) r Y w TA UA tc uc h hT hU (hp.1 (by omega) (by omega)) hv hG hm
 rw [if_neg h2] at hm;by_cases h3:p.k=3
 ·rw [if_pos h3] at hm
  refine ⟨67,fun _ _=>by kernel_rfl,fun w=>by rw [h3];kernel_rfl,fun w Y TA UA tc uc h hT hU=>?_⟩;exact Xq P es nx HN env p aK (aK+1) r Y w TA UA tc uc h hT hU hG hm
 rw [if_neg h3] at hm;by_cases h4:p.k=4
 ·rw [if_pos h4] at hm
  refine ⟨68,fun _ _=>by kernel_rfl,fun w=>by rw [h4];kernel_rfl,fun w Y TA UA tc uc h hT hU=>?_⟩;exact Xt P es nx HN env p aK (aK+1) r Y w TA UA tc uc h hT hU (hp.1 (by omega) (by omega)) hv hG hm
 rw [if_neg h4] at hm;by_cases h5:p.k=5
 ·rw [if_pos h5] at hm
  refine ⟨69,fun _ _=>by kernel_rfl,fun w=>by rw [h5];kernel_rfl,fun w Y TA UA tc uc h hT hU=>?_⟩;exact XL P es nx HN env p aK (aK+1) r Y w TA UA tc uc h hT hU (hp.1 (by omega) (by omega)) (hp.2 (by omega)) hv hG hm
 rw [if_neg h5] at hm;by_cases h6:p.k=6
 ·rw [if_pos h6] at hm
  refine ⟨70,fun _ _=>by kernel_rfl,fun w=>by rw [h6];kernel_rfl,fun w Y TA UA tc uc h hT hU=>?_⟩;exact UU P es nx HN env p aK (aK+1) r Y w TA UA tc uc h hT hU hG hm
 rw [if_neg h6] at hm;by_cases h7:p.k=7
 ·rw [if_pos h7] at hm
  refine ⟨71,fun _ _=>by kernel_rfl,fun w=>by rw [h7];kernel_rfl,fun w Y TA UA tc uc h hT hU=>?_⟩;exact QK P es nx HN env p aK (aK+1) r Y w TA UA tc uc hes h hT hU hG hm
 rw [if_neg h7] at hm;by_cases h9:p.k=9
 ·rw [if_pos h9] at hm
  refine ⟨72,fun _ _=>by kernel_rfl,fun w=>by rw [h9];kernel_rfl,fun w Y TA UA tc uc h hT hU=>?_⟩;exact aaG P es nx HN env p aK (aK+1) r Y w TA UA tc uc h hT hU hG hm
 rw [if_neg h9] at hm;by_cases h10:p.k=10
 ·rw [if_pos h10] at hm
  refine ⟨73,fun _ _=>by kernel_rfl,fun w=>by rw [h10];kernel_rfl,fun w Y TA UA tc uc h hT hU=>?_⟩;exact U0 P es nx HN env p aK (aK+1) r Y w TA UA tc uc h hT hU hG hm
 rw [if_neg h10] at hm;by_cases h11:p.k=11
 ·rw [if_pos h11] at hm
  refine ⟨74,fun _ _=>by kernel_rfl,fun w=>by rw [h11];kernel_rfl,fun w Y TA UA tc uc h hT hU=>?_⟩;exact Xr P es nx HN env p aK (aK+1) r Y w TA UA tc uc h hT hU hG hm
 rw [if_neg h11] at hm;by_cases h12:p.k=12
 ·rw [if_pos h12] at hm
  refine ⟨75,fun _ _=>by kernel_rfl,fun w=>by rw [h12];kernel_rfl,fun w Y TA UA tc uc h hT hU=>?_⟩;exact N_ P es nx HN env p aK (aK+1) r Y w TA UA tc uc h hT hU (hp.1 (by omega) (by omega)) hG hm
 rw [if_neg h12] at hm;by_cases pG:p.k=13
 ·rw [if_pos pG] at hm
  refine ⟨76,fun _ _=>by kernel_rfl,fun w=>by rw [pG];kernel_rfl,fun w Y TA UA tc uc h hT hU=>?_⟩;exact aaz P es nx HN env p aK (aK+1) r Y w TA UA tc uc h hT hU (hp.1 (by omega) (by omega)) hG hm
 rw [if_neg pG] at hm;by_cases rQ:p.k=14
 ·rw [if_pos rQ] at hm
  refine ⟨77,fun _ _=>by kernel_rfl,fun w=>by rw [rQ];kernel_rfl,fun w Y TA UA tc uc h hT hU=>?_⟩;exact UR P es nx HN env p aK (aK+1) r Y w TA UA tc uc h hT hU (hp.1 (by omega) (by omega)) (hp.2 (by omega)) hG hm
 rw [if_neg rQ] at hm
 cases hm
theorem X3 (P:Nat) (es:List Pt) (nx:Nx) (HN:Hid (nC P es nx)) (env:Env) (p:Pt) (aK:Nat) (r:fC) (hes:dZ es) (hx:es[aK]?=some p) (hp:qO p) (hv:env.length<=900000) (hG:∀env a t b,nx env a=some (.ok (t,b))->Gd t) (hm:fV nx es env p aK (aK+1)=some r) (Y:Nat->Prop) (w:World) (h:aM P es env (.ok aK) Y w):
  Calls Tryz.prog 32 #[pk P] w (jD P es env Y r w):=by
 obtain ⟨K,heg,hidx,hK⟩:=X0 P es nx HN env p aK r hes hp hv hG hm;have HK:=aD (Cj hidx hK);have HO:=aD (iZ P es env _ Y w h);simp only [pz] at HO;unfold pk at HO;obtain ⟨a',p',e',⟨EA,ec,zA,zB,bs,EC⟩,ha,hpp,he⟩:=h;subst ha hpp he;have HM:=aD EC;have HX:=aD hx;have hel:=EC.el;have hal:=aU hx;clear hes hx hp hv hG hm hidx hK EC;unfold pk;go_enter Tryz.func32,Tryz.ntmps32;go_wp2_with fail;refine HO.out.mono ?_;rintro e w1 ⟨rfl,hb1⟩;have uI:=aD (HM.out.later hb1);have HB1:=aD hb1;obtain ⟨c0,c1,_,_,_⟩:=uI.out.cells;have f1:=uI.out.frozen 1 (by omega);clear hb1;go_upto_region 5 with fail
 obtain ⟨w2,hw2⟩:∃w2,w2=w1.setCell ⟨P,1,none⟩ (.int .i64 ((a':Int)+1)):=⟨_,rfl⟩
 have H2:Hid (Fr Y w w2/\qL P es env (a'+1) 0 0 EA ec zA zB bs Y w2):=aD (by
  have hb:w2.heap[P]?=some (.cells #[.slice EA es.length ec,.int .i64 ((a'+1:Nat):Int),.slice zA bs.length zB,.int .i64 0,.int .i64 0] 60 (0,0)):=by
   rw [hw2,heap_set uI.out.blk 1];rfl
  have hf:Fr (fun q=>q=P) w1 w2:=by rw [hw2];exact dY _ _ _ _
  have hp:=uI.out.put hb hf;exact ⟨(Fr.below HB1.out).trans hp.2,hp.1⟩)
 rw [<-hw2];clear hw2 c0 c1 f1 uI;obtain ⟨c0,c1,_,_,_⟩:=H2.out.2.cells;obtain ⟨eb,eo,rfl,anM,XP,hpt,_⟩:=H2.out.2.ex _ _ HX.out;obtain ⟨XA,xc,WA,wc,XQ,XR,q0,q1,q2,q3,q4,q5,q6,q7⟩:=hpt;have HT:=aD (Cj XQ XR);clear XQ XR;go_upto_region 6 with fail
 clear c0 c1 q0 q1 q2 q3 q4 q5 q6 q7;obtain ⟨w3,hw3⟩:∃w3,w3=w2.alloc (.cells #[.int .i64 p.k,.string p.lb,.string p.nm,.string p.bd,.int .i64 p.mn,.int .i64 p.num,.slice XA p.T.length xc,.slice WA p.U.length wc] 33):=⟨_,rfl⟩;have HB3:Hid (Below w2.heap.size w2 w3):=aD (by rw [hw3];exact aj (aF _ _) _);have Cz:Hid (aO w3 Y w2.heap.size p XA xc WA wc):=aD (by rw [hw3];exact aO.new H2.out.2.lt HT.out.1 HT.out.2);have X_:Hid (aM P es env (.ok (a'+1)) Y w3):=aD ⟨_,_,_,⟨_,_,_,_,_,H2.out.2.later HB3.out⟩,rfl,rfl,rfl⟩;obtain ⟨gx,hgx⟩:∃gx,gx=w2.heap.size:=⟨_,rfl⟩;rw [<-hgx] at Cz;rw [<-hw3,<-hgx];clear hw3 hgx;obtain ⟨SS,hSS⟩:∃SS:World->Prop,SS=fun v=>v.cell? ⟨gx,0,none⟩=some (.int .i64 p.k)/\v.cell? ⟨gx,1,none⟩=some (.string p.lb)/\v.cell? ⟨gx,2,none⟩=some (.string p.nm)/\v.cell? ⟨gx,3,none⟩=some (.string p.bd)/\v.cell? ⟨gx,4,none⟩=some (.int .i64 p.mn)/\v.cell? ⟨gx,5,none⟩=some (.int .i64 p.num)/\v.cell? ⟨gx,6,none⟩=some (.slice XA p.T.length xc)/\v.cell? ⟨gx,7,none⟩=some (.slice WA p.U.length wc):=⟨_,rfl⟩
 have HS:Hid (∀v Y',aO v Y' gx p XA xc WA wc->SS v):=aD fun v Y' hv=>by
  rw [hSS];exact ⟨hv.cells.1,hv.cells.2.1,hv.cells.2.2.1,hv.cells.2.2.2.1,hv.cells.2.2.2.2.1,by simp [Ck,hv.blk],hv.cells.2.2.2.2.2.1,hv.cells.2.2.2.2.2.2⟩
 obtain ⟨wd,hwd⟩:∃wd,wd=w3.drew:=⟨_,rfl⟩;have bM:Hid (Below w3.heap.size w3 wd):=aD (by rw [hwd];exact (aF _ _).drew);have HPd:=aD (Cz.out.later bM.out);have HKd:=aD (X_.out.later bM.out);have hsd:SS wd:=HS.out _ _ HPd.out;refine aI (S:=SS) [7] (by kernel_rfl) (by rw [<-hwd];exact hsd) (fun hHeld=>?_);rw [<-hwd] at hHeld ⊢;clear hwd;refine aL 1 [2,3,7] (some 28) rfl rfl ?_;refine aL 2 [3,7] (some 29) rfl rfl ?_;refine aL 4 [7] (some 31) rfl rfl ?_;refine aL 5 [7] (some 32) rfl rfl ?_;refine aL 6 [7] (some 33) rfl rfl ?_;refine bD 0 (some 27) rfl rfl (by kernel_rfl) (by rfl) (by kernel_rfl) (U5 wd) ?_;rintro e w4 ⟨rfl,hb4⟩;have HP4:=aD (HPd.out.later hb4);have HK4:=aD (HKd.out.later hb4);have HF4:Hid (Fr Y w w4):=aD (((H2.out.1.trans (Fr.below HB3.out)).trans (Fr.below bM.out)).trans (Fr.below hb4));have hs4:SS w4:=HS.out _ _ HP4.out;refine ⟨_,rfl,hs4,?_⟩;refine aC ?_;refine bB 3 (some 30) (v:=.func (.func K) #[] #[]) (w':=w4) rfl rfl (by kernel_rfl) (by rfl) (by have h:=HK.out.1 w4;simp only [execOp];go_simp;first|done|(rw [h];first|rfl|go_simp)) (fun _=>hs4) ?_;refine aC ?_;have HW:=aD (HK.out.2 w4 Y XA WA xc wc HK4.out HP4.out.T HP4.out.U);unfold pk pv at HW;clear hb4 hsd hHeld;refine bD 7 (some 34) rfl rfl (by kernel_rfl) (by rfl) (by go_simp) HW.out ?_;intro e w5 hp;obtain ⟨v5,rfl⟩:=hp.ret;obtain ⟨Y5,tJ,hy5,hk5,hv5⟩:=hp;have HP5:=aD (HP4.out.fr tJ hy5);have H5:Hid (Fr Y w w5/\ah Y Y5 w):=aD ⟨Fr.new HF4.out tJ (ah.refl _ _),ah.trans (ah.refl _ _) hy5 HF4.out.size⟩
 refine ⟨_,rfl,HS.out _ _ HP5.out,?_⟩;refine aC ?_;refine bB 8 (some 5) rfl rfl (by kernel_rfl) (by rfl) (by go_simp;first|with_reducible rfl|(constructor<;>with_reducible rfl)) (zL (by kernel_rfl)) ?_;refine aC ?_;refine bG (by kernel_rfl) ?_ _;have OD:=aD (iZ P es env _ Y5 w5 hk5);unfold pk at OD
 match r,hk5,hv5,OD with
 | .ok (t,b),hk5,⟨A9,c9,uG,Ya⟩,OD=>
  injection uG with uG
  subst uG;simp only [fC.st,pz] at OD;go_wp2_with fail;refine OD.out.mono ?_;rintro e w6 ⟨rfl,hb6⟩;have HQ:Hid (jD P es env Y (.ok (t,b)) w (.returned (.slice A9 t.length c9)) w6):=aD ⟨Y5,H5.out.1.trans (Fr.below hb6),H5.out.2,hk5.later hb6,A9,c9,rfl,Ya.later hb6⟩;clear hb6 tJ hy5 hk5 Ya hs4;go_wp2_with fail;go_ret
  exact HQ.out
 | .error x,hk5,hv5,OD=>
  obtain ⟨A9,n9,c9,uG⟩:=hv5;injection uG with uG
  subst uG;simp only [fC.st,pz] at OD;go_wp2_with fail;refine OD.out.mono ?_;rintro e w6 ⟨rfl,hb6⟩;have HQ:Hid (jD P es env Y (.error x) w (.returned (.slice none 0 0)) w6):=aD ⟨Y5,H5.out.1.trans (Fr.below hb6),H5.out.2,hk5.later hb6,rfl⟩;clear hb6 tJ hy5 hk5 hs4;go_wp2_with fail;go_ret;exact HQ.out
theorem JU (P:Nat) (es:List Pt) (env:Env) (x:Nat×Int) (Y:Nat->Prop) (w:World) (h:aM P es env (.error x) Y w):
  Calls Tryz.prog 32 #[pk P] w (jD P es env Y (.error x) w):=by
 have H:=aD h;have HO:=aD (iZ P es env _ Y w h);simp only [pz] at HO;unfold pk at*;clear h;go_enter Tryz.func32,Tryz.ntmps32;go_wp2_with fail;refine HO.out.mono ?_;rintro e w1 ⟨rfl,hb1⟩;have HB:=aD hb1;clear hb1;go_wp2_with fail;go_ret;exact ⟨Y,Fr.below HB.out,ah.refl _ _,H.out.later HB.out,rfl⟩
theorem U6 (P:Nat) (es:List Pt) (hes:dZ es):∀f:Nat,nC P es (gW f es):=by
 intro f
 induction f with
 |zero=>
  intro env s r Y w hn h
  match s,hn,h with
  | .ok a,hn,_=>cases hn
  | .error x,hn,h=>
   injection hn with hn
   subst hn
   exact JU P es env x Y w h
 |succ f ih=>
  intro env s r Y w hn h
  match s,hn,h with
  | .error x,hn,h=>
   injection hn with hn
   subst hn
   exact JU P es env x Y w h
  | .ok a,hn,h=>
   have hn:gW (f+1) es env a=some r:=hn;unfold gW at hn;split at hn
   ·cases hn
   ·rename_i p hp
    split at hn
    ·rename_i hc
     exact X3 P es (gW f es) (aD ih) env p a r hes hp hc.2 hc.1 (aaK f es) (OC hn) Y w h
    ·cases hn
theorem D8 (A:Option Addr) (c:Nat) (bs:List Bn) (w:World) (ha:mK w w.heap.size A bs) (hA:A=none->bs=[]) (hs:∀a,A=some a->∃b o,a=⟨b,o,none⟩) (hl:bs.length<=1000000):
  Calls Tryz.prog 31 #[.slice A bs.length c] w fun e w'=>∃A' cap',e= .returned (.slice A' bs.length cap')/\Bl w' w.heap.size A' cap' bs/\Below w.heap.size w w':=by
 cases A with
 |none=>
  have:=hA rfl;subst this;simp only [aap];go_enter Tryz.func31,Tryz.ntmps31;go_wp2_with fail;rw [aat _ _ _ _ _ _ _ _ Tryz.underlying22];clear hA;go_wp2_with fail;go_ret
  exact ⟨none,0,rfl,aB.nil,aF _ _⟩
 |some a=>
  obtain ⟨b,o,rfl⟩:=hs a rfl;have hown0:=jo 36 2 pO w;have hb0:=aj (aF w.heap.size w) (.cells #[] 36);clear hA hs;go_enter Tryz.func31,Tryz.ntmps31;go_wp2_with fail;rw [aat _ _ _ _ _ _ _ _ Tryz.underlying22];go_wp2_with (at_builtin;refine vX rfl (.tmp 5) (.tmp 6) rfl w.heap.size (m:=0) (n:=bs.length) (l:=[]) rfl rfl hown0 (l2:=bs) rfl rfl (bf.below ha hb0) (by omega) (by simp) ?_;intro A2 cap2 w3 hown3 hg3 _);have dP:=jw hb0 hg3 (fun k hk=>(aB.block hown0 k hk).1);go_wp2_with fail;go_ret;exact ⟨A2,cap2,by simp,by simpa using hown3,dP⟩
def SY (r:fC) (w:World) (e:Ending) (w':World):Prop:=
 Below w.heap.size w w'/\match r with
  | .ok (t,_)=>∃A c,e= .returned (.tuple #[.slice A t.length c,.int .i64 0,.int .i64 0])/\tL w' (fun _=>False) A t/\t.length<=c
  | .error (p,er)=>e= .returned (.tuple #[.slice none 0 0,.int .i64 (p:Int),.int .i64 er])
theorem CX (f:Nat) (es:List Pt) (hes:dZ es) (env:Env) (r:fC) (A EA:Option Addr) (c ec:Nat) (bs:List Bn) (w:World) (ha:mK w w.heap.size A bs) (hA:A=none->bs=[]) (hs:∀a,A=some a->∃b o,a=⟨b,o,none⟩) (hen:dX w (fun _=>False) bs env) (hex:jW w (fun _=>False) EA es) (hl:env.length<=100000) (hel:es.length<=1000000) (hm:gW f es env 0=some r):
  Calls Tryz.prog 11 #[.slice A bs.length c,.slice EA es.length ec] w (SY r w):=by
 have Hc:=aD (D8 A c bs w ha hA hs (by rw [hen.1];omega));have H:=aD (Cj hen (Cj hex hm));clear ha hA hs hen hex hm;go_enter Tryz.func11,Tryz.ntmps11;go_wp2_with fail;refine Hc.out.mono ?_;rintro e w1 ⟨VA,vc,rfl,hown,hb1⟩;have H1:=aD (Cj hown hb1);clear hown hb1;go_upto_region 2 with fail
 obtain ⟨w2,hw2⟩:∃w2,w2=w1.alloc (.cells #[.slice EA es.length ec,.int .i64 0,.slice VA bs.length vc,.int .i64 0,.int .i64 0] 60):=⟨_,rfl⟩;obtain ⟨P,hP⟩:∃P,P=w1.heap.size:=⟨_,rfl⟩;have hz1:=H1.out.2.size;have HB2:Hid (Below w.heap.size w w2/\w.heap.size<=P):=aD ⟨by rw [hw2];exact aj H1.out.2 _,by rw [hP];exact hz1⟩
 have HK:Hid (aM P es env (.ok 0) (YW P VA) w2):=aD (by
  have Yb:ah (fun _=>False) (YW P VA) w:=by
   rintro q (rfl|⟨a,rfl,rfl⟩)
   ·exact .inr HB2.out.2
   ·exact .inr (aB.lt H1.out.1 a rfl).1
  have hfr:Fr (fun _=>False) w w2:=Fr.below HB2.out.1;refine ⟨0,0,0,⟨EA,ec,VA,vc,bs,?_,?_,H.out.2.1.fr hfr Yb,H.out.1.fr hfr Yb,fun q=>Iff.rfl,?_,hel,by omega⟩,rfl,rfl,rfl⟩
  ·rw [hw2,hP]
   exact heap_alloc_new _ _
  ·rw [hw2]
   exact aB.alloc (aB.lower H1.out.1 (Nat.zero_le _)) _
  ·rintro a rfl
   rw [hP];have:=(aB.lt H1.out.1 a rfl).2;omega)
 rw [<-hw2,<-hP];clear hw2 hP hz1;have HN:=aD (U6 P es hes f env (.ok 0) r (YW P VA) w2 H.out.2.2 HK.out);unfold pk at HN;go_wp2_with fail;refine HN.out.mono ?_;intro e w3 hp;obtain ⟨v3,rfl⟩:=hp.keep;obtain ⟨Y3,hf3,hy3,⟨a3,p3,e3,⟨EA3,ec3,VA3,vc3,bs3,hm3⟩,hr3⟩,hv3⟩:=hp
 have HB3:Hid (Below w.heap.size w w3):=aD (by
  refine (Fr.new (Fr.below HB2.out.1:Fr (fun _=>False) w w2) hf3 ?_).toBelow fun k h=>h.elim;rintro q (rfl|⟨a,rfl,rfl⟩)
  ·exact .inr HB2.out.2
  ·exact .inr (aB.lt H1.out.1 a rfl).1)
 obtain ⟨_,_,_,k3,k4⟩:=hm3.cells;have g3:∀n,(w3.drewN n).cell? ⟨P,3,none⟩=some (.int .i64 p3):=fun n=>k3;have g4:∀n,(w3.drewN n).cell? ⟨P,4,none⟩=some (.int .i64 e3):=fun n=>k4;have H3:=aD (Cj hr3 hv3);clear hf3 hy3 hm3 hr3 hv3 k3 k4;go_upto_region 3 with fail
 go_quiet (fail);go_wp2_with fail;go_ret3;refine ⟨below_drewN HB3.out _,?_⟩
 match r,H3 with
 | .ok (t,b),H3=>
  obtain ⟨hr,A9,c9,hv,ht⟩:=H3.out;injection hv with hv
  obtain ⟨_,h2,h3⟩:=hr;subst hv h2 h3;refine ⟨A9,c9,rfl,fun hne=>?_,ht.cap⟩;obtain ⟨b,o,e,g1,g2,g5,g6⟩:=ht.ty hne
  exact ⟨b,o,e,g1,fun h=>h,g5.mono fun _=>rfl,.inr fun q hq=>hq.elim⟩
 | .error (q,er),H3=>
  obtain ⟨hr,hv⟩:=H3.out;injection hv with hv
  obtain ⟨h1,h2,_⟩:=hr;subst hv h1 h2;rfl
end Go.Proofs.YtmjdhfbnmmdjiaaGreat
