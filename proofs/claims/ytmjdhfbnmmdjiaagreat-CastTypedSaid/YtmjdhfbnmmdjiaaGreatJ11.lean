/- Laid together by a tool from the texts of this seat: GtB GtC RdA ChW TyRead ChV. Conditions: each theorem's own. -/
import Derived.Test.YtmjdhfbnmmdjiaaGreatJ10
import Derived.Test.YtmjdhfbnmmdjiaaGreatJ09
import Derived.Test.YtmjdhfbnmmdjiaaGreatJ01
set_option maxHeartbeats 8000000
set_option maxRecDepth 100000
namespace Go.Proofs.YtmjdhfbnmmdjiaaGreat
open Go.Lib renaming hid->aD
open _root_.ByteArray renaming empty->bZ
open _root_.And renaming intro->Cj
open Go.RowKit.Below renaming refl->aF
open Go.Value renaming slice->fq,ownBlock->fA
open Go.World renaming cell?->Ck
open _root_.List renaming length_cons->mX,length_append->jX,append_nil->lI,all_eq_true->oW,mem_cons_self->aag,flatMap_cons->iJ,length_drop->wT,drop_drop->nI,drop_eq_getElem_cons->aJ,getElem?_eq_getElem->bA,mem_of_getElem?->Ox
open _root_.Nat renaming le_refl->aG,zero_add->iC,add_comm->iK,zero_le->bE
section
variable {st:Bool}
theorem GT.open {d:Nat} {t:List Nd} (h:GT st d t):∃f x ks,d=f+1/\t=x::ks/\dR x.k x.n=true/\Qn st x/\x.s=bZ/\GF st f x.k bZ (manyN x) ks:=by
 unfold GT at h;generalize hn:(1:Nat)=n at h;generalize h5:(5:Int)=pk at h
 cases h with
 |nil=>cases hn
 |@cons f _ _ d y ks rs ho hq hl hr h1 h2=>
  have hd:d=0:=by omega
  subst hd h5
  cases h2;refine ⟨f,y,ks,rfl,by rw [lI],ho,hq,?_,h1⟩;simp only [bR] at hl;rw [if_neg (by decide),if_neg (by decide),decide_eq_true_eq] at hl;exact ByteArray.size_eq_zero_iff.1 hl
theorem GT.mk {f:Nat} {x:Nd} {ks:List Nd} (ho:dR x.k x.n=true) (hq:Qn st x) (hs:x.s=bZ) (h:GF st f x.k bZ (manyN x) ks):GT st (f+1) (x::ks):=by
 have:=GF.cons (st:=st) (f:=f) (pk:=5) (last:=bZ) (d:=0) (y:=x) (ks:=ks) (rs:=[]) ho hq (by simp [bR,hs]) (by intro h;simp [bK] at h) h (.nil _ _ _);rw [lI] at this;exact this
theorem GT.mono {d e:Nat} {t:List Nd} (h:GT st d t) (hd:d<=e):GT st e t:=GF.mono h e hd
theorem GT.fo {d:Nat} {t:List Nd} (h:GT st d t):Fo 1 t:=GF.fo h
theorem GT.gd {d:Nat} {t:List Nd} (h:GT st d t) (hl:t.length<=1000000000):Gd t:=by
 obtain ⟨f,x,ks,_,rfl,_,_,hs,_⟩:=h.open;exact ⟨fun y hy=>(GF.all h y hy).1,h.fo,hs,hl⟩
theorem GT.pos {d:Nat} {t:List Nd} (h:GT st d t):1<=t.length:=by
 obtain ⟨f,x,ks,_,rfl,_⟩:=h.open;simp
theorem GT.of {d:Nat} {t:List Nd} (h:y8 t=true) (hp:oK t=true) (hs:∀y∈t,y.s.size<=100) (hst:st=true->xq t=true) (hd:t.length<=d):GT st d t:=by
 obtain ⟨ht,hl,x,ys,rfl,hx,hk⟩:=KP h;have h2:=(Nv 100 d 0 _ ht).2 (by omega);obtain ⟨g,y,ks,rest,hg,hd2,hj,hr,ho⟩:=UM _ _ _ h2;rw [List.drop_zero] at hd2
 have hrest:rest=[]:=by
  rw [hd2] at hj;simp at hj;exact List.eq_nil_of_length_eq_zero (by omega)
 subst hrest;rw [lI] at hd2;injection hd2 with e1 e2
 subst e1 e2 hg
 have hq:∀z∈x::ys,Qn st z:=fun z hz=>by
  unfold oK at hp;rw [oW] at hp;have h3:=hp z hz;simp [tY] at h3;refine ⟨h3.1,h3.2,hs z hz,fun e=>?_⟩;have h4:=hst e;unfold xq at h4;rw [oW] at h4;simpa using h4 z hz
 exact GT.mk ho (hq x (by simp)) hx (GF.aip hr fun z hz=>hq z (by simp [hz]))
theorem GT.arrow {d:Nat} {a b:List Nd} (ha:GT st d a) (hb:GT st d b):GT st (d+1) (aW a b):=by
 have h:=GF.append (by decide) ha hb;exact GT.mk (x:=⟨5,bZ,0⟩) (by decide) ⟨by simp,by simp,by simp,by simp⟩ rfl h
theorem GT.leaf {k:Int} (h:1<=k/\k<=4) {d:Nat} (hd:1<=d):GT st d [⟨k,bZ,0⟩]:=by
 refine GT.mono (d:=1) (GT.mk (x:=⟨k,bZ,0⟩) ?_ ⟨by simp;omega,by simp;omega,by simp,fun _=>by simp;omega⟩ rfl ?_) hd
 ·have:k=1\/k=2\/k=3\/k=4:=by omega
  rcases this with rfl|rfl|rfl|rfl<;>decide
 ·have:manyN ⟨k,bZ,0⟩=0:=by
   have:k=1\/k=2\/k=3\/k=4:=by omega
   rcases this with rfl|rfl|rfl|rfl<;>rfl
  rw [this];exact .nil _ _ _
theorem GT.dyn {d:Nat} (hs:st=false) (hd:1<=d):GT st d wQ:=by
 subst hs;exact GT.mono (d:=1) (GT.mk (x:=⟨0,bZ,0⟩) (by decide) ⟨by simp,by simp,by simp,by simp⟩ rfl (.nil _ _ _)) hd
theorem GT.Qv {d:Nat} {t:List Nd} (h:GT st d t) (h0:(aQ t).k=0):GT st d wQ:=by
 obtain ⟨f,x,ks,rfl,rfl,_,hq,_⟩:=h.open
 cases st with
 |false=>exact GT.dyn rfl (by omega)
 |true=>exact absurd h0 (hq.2.2.2 rfl)
theorem GT.call {d:Nat} {t a b:List Nd} (h:GT st d t) (hc:iQ t=some (a,b)):GT st d a/\GT st d b/\a.length<=t.length/\b.length<=t.length:=by
 have hp:=h.pos;unfold iQ at hc;by_cases h0:(aQ t).k=0
 ·rw [if_pos h0] at hc
  injection hc with hc
  injection hc with e1 e2
  subst e1 e2;exact ⟨h.Qv h0,h.Qv h0,hp,hp⟩
 rw [if_neg h0] at hc;by_cases h5:(aQ t).k=5
 ·rw [if_pos h5] at hc
  obtain ⟨f,x,ks,rfl,rfl,ho,hq,hs,hk⟩:=h.open;have h5:x.k=5:=h5;have hm:manyN x=2:=by unfold manyN many;rw [if_pos h5];rfl
  have hsp:=hk.kid;rw [hm] at hsp
  have e:gN (x::ks)=[ks.take (ks.length-(cZ ks).length),(cZ ks).take ((cZ ks).length-(cZ (cZ ks)).length)]:=by
   simp only [gN,hm,dM]
  rw [e] at hc;simp only [List.headD_cons,List.tail_cons,Option.some.injEq,Prod.mk.injEq] at hc;obtain ⟨e1,e2⟩:=hc;subst e1 e2;obtain ⟨a1,a2,_⟩:=hsp _ (by simp only [dM];exact aag ..);obtain ⟨b1,b2,_⟩:=hsp ((cZ ks).take ((cZ ks).length-(cZ (cZ ks)).length)) (by simp only [dM];exact List.mem_cons_of_mem _ (aag ..));refine ⟨a1.mono (by omega),b1.mono (by omega),?_,?_⟩<;>rw [lS]<;>simp only [mX]<;>omega
 ·rw [if_neg h5] at hc
  cases hc
theorem GT.field {d:Nat} {t u:List Nd} {s:ByteArray} (h:GT st d t) (hc:bJ t s=some u):GT st d u/\u.length<=t.length:=by
 have hp:=h.pos;unfold bJ at hc;by_cases h0:(aQ t).k=0
 ·rw [if_pos h0] at hc
  injection hc with e1
  subst e1;exact ⟨h.Qv h0,hp⟩
 rw [if_neg h0] at hc;split at hc
 ·obtain ⟨f,x,ks,rfl,rfl,ho,hq,hs,hk⟩:=h.open
  rw [Option.map_eq_some_iff] at hc;obtain ⟨ts,h1,rfl⟩:=hc;obtain ⟨a1,a2,_⟩:=hk.kid ts (List.mem_of_find?_eq_some h1);refine ⟨a1.mono (by omega),?_⟩;rw [lS];simp only [mX];omega
 ·cases hc
theorem FK {t:List Nd} {l:List ByteArray} {s:ByteArray} (ht:kI t=some l) (h:(aQ t).k=0\/s∈l):∃u,bJ t s=some u:=by
 unfold kI at ht;unfold bJ;by_cases h0:(aQ t).k=0
 ·rw [if_pos h0]
  exact ⟨_,rfl⟩
 rw [if_neg h0] at ht ⊢;split at ht
 ·rename_i h7
  have hr:bK (aQ t).k=true:=by rw [h7];rfl
  rw [if_pos hr];injection ht with ht
  subst ht;rcases h with h|h
  ·exact absurd h h0
  obtain ⟨ts,h1,h2⟩:=List.mem_map.1 h
  cases hf:(gN t).find? fun ts=>(aQ ts).s.toList==s.toList with
  |some u=>exact ⟨_,rfl⟩
  |none=>
   have:=List.find?_eq_none.1 hf ts h1;rw [h2] at this;simp at this
 ·cases ht
theorem GF.row {d:Nat}:∀(fs:List eT) (last:ByteArray),(∀p∈fs,GT st d p.2/\bR 6 p.1=true/\p.1.size<=100)->(∀p∈fs,kN last p.1=true)->fs.Pairwise (fun a b=>kN a.1 b.1=true)->
  GF st d 6 last fs.length (fs.flatMap fun p=>gZ p.1 p.2):=by
 intro fs
 induction fs with
 |nil=>intro last _ _ _;exact .nil _ _ _
 |cons p fs ih=>
  intro last h1 h2 h3;obtain ⟨hg,hl,hsz⟩:=h1 p (by simp);rw [List.pairwise_cons] at h3;have:=ih p.1 (fun q hq=>h1 q (by simp [hq])) (fun q hq=>h3.1 q hq) h3.2;obtain ⟨f,x,ks,rfl,hp2,ho,hq,hs,hk⟩:=hg.open
  have e:(p::fs).flatMap (fun p=>gZ p.1 p.2)=x.name p.1::(ks++fs.flatMap fun p=>gZ p.1 p.2):=by
   rw [iJ,hp2];rfl
  rw [e];exact .cons ho ⟨hq.1,hq.2.1,hsz,hq.2.2.2⟩ hl (fun _=>h2 p (by simp)) hk this
theorem JK:∀(fs:List eT),(fs.flatMap fun p=>gZ p.1 p.2).length=(fs.map fun p=>p.2.length).sum:=by
 intro fs
 induction fs with
 |nil=>rfl
 |cons p fs ih=>
  rw [iJ,jX,ih,List.map_cons,List.sum_cons]
  cases p.2<;>rfl
theorem GT.row {d:Nat} (_hd:1<=d) (fs:List eT) (h1:∀p∈fs,GT st d p.2/\bR 6 p.1=true/\p.1.size<=100) (hn:(fs.map (·.1)).Nodup) (hl:fs.length<=50):
  GT st (d+1) (eG 6 fs)/\(eG 6 fs).length=1+(fs.map fun p=>p.2.length).sum:=by
 have hd2:fs.Pairwise fun a b=>a.1≠b.1:=by
  unfold List.Nodup at hn;rw [List.pairwise_map] at hn;exact hn
 obtain ⟨hp,hs⟩:=FH fs [] (by simpa using hd2) List.Pairwise.nil;rw [List.nil_append] at hp;change (ow fs).Perm fs at hp;change (ow fs).Pairwise _ at hs;have hlen:=hp.length_eq
 have hg:=GF.row (st:=st) (d:=d) (ow fs) bZ (fun p hpp=>h1 p (hp.subset hpp)) (fun p hpp=>by
  have:=sD (k:=6) (by decide) (h1 p (hp.subset hpp)).2.1;unfold kN;rw [kU,decide_eq_true_eq]
  cases hx:p.1.toList with
  |nil=>exact absurd hx this
  |cons a l=>rw [show bZ.toList=([]:List UInt8) from by simp];exact List.nil_lt_cons a l) hs
 rw [hlen] at hg;refine ⟨?_,?_⟩
 ·refine GT.mk (x:=⟨6,bZ,(fs.length:Int)⟩) ?_ ⟨by simp,by simp,by simp,by simp⟩ rfl ?_
  ·simp [dR]
   omega
  ·have:manyN ⟨6,bZ,(fs.length:Int)⟩=fs.length:=by
    unfold manyN many;rw [if_neg (by simp),if_pos (by rfl)];simp
   rw [this];exact hg
 ·unfold eG
  rw [mX,JK,List.Perm.sum_nat (hp.map fun p=>p.2.length),iK]
end
def lJ:List Pt->Nat->Nat->Nat
 |_,0,p=>p
 |[],_+1,p=>p
 |x::xs,n+1,p=>lJ xs (n+aP x) (p+1)
def iF (es:List Pt):Nat->Nat->List Nat
 |0,_=>[]
 |n+1,a=>if a<es.length then a::iF es n (lJ (es.drop a) 1 a) else []
def EA (es:List Pt) (n a b:Nat):Prop:=d_ (es.drop a) n a=some b
theorem vC:∀(xs:List Pt) (n p b:Nat),d_ xs n p=some b->p+n<=b+0/\b<=p+xs.length
 |[],0,p,b,h=>by simp [d_] at h;subst h;simp
 |_::_,0,p,b,h=>by simp [d_] at h;subst h;simp
 |[],n+1,p,b,h=>by simp [d_] at h
 |x::xs,n+1,p,b,h=>by
  simp only [d_] at h;have:=vC xs _ _ _ h;simp only [mX];omega
theorem DY:∀(xs:List Pt) (m n p b:Nat),d_ xs (m+n) p=some b->∃c,d_ xs m p=some c/\d_ (xs.drop (c-p)) n c=some b
 |[],0,n,p,b,h=>⟨p,rfl,by rw [iC] at h;simpa using h⟩
 |x::xs,0,n,p,b,h=>⟨p,by simp [d_],by rw [iC] at h;simpa using h⟩
 |[],m+1,n,p,b,h=>by rw [show m+1+n=(m+n)+1 from by omega] at h;simp [d_] at h
 |x::xs,m+1,n,p,b,h=>by
  rw [show m+1+n=(m+n)+1 from by omega] at h;simp only [d_] at h;rw [show m+n+aP x=(m+aP x)+n from by omega] at h;obtain ⟨c,h1,h2⟩:=DY xs (m+aP x) n (p+1) b h;have h3:=vC _ _ _ _ h1;refine ⟨c,by simpa [d_] using h1,?_⟩;obtain ⟨d,hd⟩:∃d,c-p=d+1:=⟨c-p-1,by omega⟩;rw [hd,List.drop_succ_cons,show d=c-(p+1) from by omega];exact h2
theorem FL:∀(xs:List Pt) (m n p b c:Nat),d_ xs m p=some c->d_ (xs.drop (c-p)) n c=some b->d_ xs (m+n) p=some b
 |xs,0,n,p,b,c,h,h2=>by
  have:c=p:=by cases xs<;>simp [d_] at h<;>exact h.symm
  subst this
  simpa using h2
 |[],m+1,n,p,b,c,h,_=>by simp [d_] at h
 |x::xs,m+1,n,p,b,c,h,h2=>by
  simp only [d_] at h;have h3:=vC _ _ _ _ h;rw [show m+1+n=(m+n)+1 from by omega];simp only [d_];rw [show m+n+aP x=(m+aP x)+n from by omega];refine FL xs _ n (p+1) b c h ?_;obtain ⟨d,hd⟩:∃d,c-p=d+1:=⟨c-p-1,by omega⟩;rw [hd,List.drop_succ_cons,show d=c-(p+1) from by omega] at h2;exact h2
theorem Af:∀(xs:List Pt) (n p b:Nat),d_ xs n p=some b->lJ xs n p=b
 |[],0,p,b,h=>by simpa [d_,lJ] using h
 |_::_,0,p,b,h=>by simpa [d_,lJ] using h
 |[],n+1,p,b,h=>by simp [d_] at h
 |x::xs,n+1,p,b,h=>by
  simp only [d_] at h;simp only [lJ];exact Af xs _ _ _ h
theorem EA.lt {es:List Pt} {n a b:Nat} (h:EA es n a b):a+n<=b/\b<=a+(es.length-a):=by
 have:=vC _ _ _ _ h;rw [wT] at this;omega
theorem EA.zero {es:List Pt} {a b:Nat} (h:EA es 0 a b):b=a:=by
 unfold EA at h
 cases hx:es.drop a<;>rw [hx] at h<;>simp [d_] at h<;>exact h.symm
theorem EA.split {es:List Pt} {n a b:Nat} (h:EA es (n+1) a b):∃c,EA es 1 a c/\EA es n c b:=by
 unfold EA at h;rw [iK] at h;obtain ⟨c,h1,h2⟩:=DY _ _ _ _ _ h;have h3:=vC _ _ _ _ h1;refine ⟨c,h1,?_⟩;rw [nI,show a+(c-a)=c from by omega] at h2;exact h2
theorem EA.join {es:List Pt} {n a b c:Nat} (h:EA es 1 a c) (k:EA es n c b):EA es (n+1) a b:=by
 have h3:=vC _ _ _ _ h;unfold EA;rw [iK];refine FL _ _ _ _ _ c h ?_;rw [nI,show a+(c-a)=c from by omega];exact k
theorem Xl {es:List Pt} {a:Nat} {p:Pt} (hp:es[a]?=some p):es.drop a=p::es.drop (a+1):=by
 rw [aJ (aU hp),(List.getElem?_eq_some_iff.1 hp).2]
theorem EA.open {es:List Pt} {a b:Nat} (h:EA es 1 a b):∃p,es[a]?=some p/\EA es (aP p) (a+1) b:=by
 have h2:=h.lt;have ha:a<es.length:=by omega
 refine ⟨es[a],bA ha,?_⟩;unfold EA at h;rw [aJ ha] at h;simp only [d_,iC] at h;exact h
theorem EA.close {es:List Pt} {a b:Nat} {p:Pt} (hp:es[a]?=some p) (h:EA es (aP p) (a+1) b):EA es 1 a b:=by
 unfold EA;rw [Xl hp];simp only [d_,iC];exact h
theorem xR {es:List Pt} {a0:Nat} (ih:∀i,a0<=i->i<es.length->∃b,EA es 1 i b):∀(n a:Nat),a0<=a->(iF es n a).length=n->dF es n a=some (iF es n a)/\∃b,EA es n a b
 |0,a,_,_=>⟨rfl,a,by unfold EA;cases es.drop a<;>rfl⟩
 |n+1,a,ha,h=>by
  unfold iF at h ⊢;by_cases hl:a<es.length
  ·rw [if_pos hl] at h ⊢
   obtain ⟨c,hc⟩:=ih a ha hl;have h2:=hc.lt;have hr:lJ (es.drop a) 1 a=c:=Af _ _ _ _ hc;rw [hr] at h ⊢;simp only [mX] at h;obtain ⟨k1,b,k2⟩:=xR ih n c (by omega) (by omega);refine ⟨?_,b,hc.join k2⟩;unfold dF;unfold EA at hc;rw [hc];simp only;rw [k1];rfl
  ·rw [if_neg hl] at h
   simp at h
theorem FM {es:List Pt} (h:∀i p,es[i]?=some p->(iF es (aP p) (i+1)).length=aP p):∀(n i:Nat),es.length-i<=n->i<es.length->∃b,EA es 1 i b
 |0,i,h1,h2=>by omega
 |n+1,i,h1,h2=>by
  have hp:es[i]?=some es[i]:=bA h2;obtain ⟨_,b,hb⟩:=xR (a0:=i+1) (fun j hj hl=>FM h n j (by omega) hl) (aP es[i]) (i+1) (aG _) (h i _ hp);exact ⟨b,EA.close hp hb⟩
structure zP (es:List Pt) (p:Pt) (l:List Nat):Prop where
 len:l.length=aP p
 kind:∀(k a:Nat) (x:Pt),l[k]?=some a->es[a]?=some x->((x.k=8)↔(p.k=7/\0<k))
 word:∀(k a:Nat) (x:Pt),l[k]?=some a->es[a]?=some x->p.k=10->nX x.lb=true
 tag:∀(k a:Nat) (x:Pt),l[k]?=some a->es[a]?=some x->p.k=7->0<k->tZ x.lb=true
 none:∀(k a:Nat) (x:Pt),l[k]?=some a->es[a]?=some x->p.k≠10->¬(p.k=7/\0<k)->x.lb=bZ
 diff:∀(j k a b:Nat) (x y:Pt),j<k->l[j]?=some a->l[k]?=some b->es[a]?=some x->es[b]?=some y->y.lb≠bZ->x.lb≠y.lb
open Go.RowKit
theorem um (p:Pt) (TA:Option Addr) (tn tc:Nat) (UA:Option Addr) (un uc:Nat) (w:World) (hk:0<=p.k/\p.k<=14) (hm:0<=p.mn/\p.mn<=50):
  Calls Tryz.prog 38 #[xQ p TA tn tc UA un uc] w fun e w'=>e= .returned (.int .i64 (aP p:Int))/\Below w.heap.size w w':=by
 have hcs:p.k=0\/p.k=1\/p.k=2\/p.k=3\/p.k=4\/p.k=5\/p.k=6\/p.k=7\/p.k=8\/p.k=9\/p.k=10\/p.k=11\/p.k=12\/p.k=13\/p.k=14:=by omega
 obtain ⟨k,lb,nm,bd,mn,num,T,U⟩:=p;dsimp only at hk hm hcs;obtain ⟨mx,hmx⟩:∃mx:Int,mx=max mn 0:=⟨_,rfl⟩;have hmm:mx=mn:=by omega
 unfold xQ;rcases hcs with rfl|rfl|rfl|rfl|rfl|rfl|rfl|rfl|rfl|rfl|rfl|rfl|rfl|rfl|rfl
 all_goals
  go_enter Tryz.func38,Tryz.ntmps38;go_wp2_with fail;go_ret;refine ⟨kS ?_,aj (aF _ _) _⟩;simp [aP]
  try omega
theorem Qw {es:List Pt} {k n:Nat} {x:Pt} (hx:es[k]?=some x):lJ (es.drop k) (n+1) k=lJ (es.drop (k+1)) (n+aP x) (k+1):=by
 rw [Xl hx];rfl
theorem FP:∀(xs:List Pt) (n p:Nat),lJ xs n p<=p+xs.length
 |[],0,p=>by simp [lJ]
 |[],n+1,p=>by simp [lJ]
 |_::_,0,p=>by simp [lJ]
 |x::xs,n+1,p=>by
  simp only [lJ,mX];have:=FP xs (n+aP x) (p+1);omega
theorem UN {es:List Pt} {k n:Nat} (h:es.length<=k) (hk:k<=es.length):lJ (es.drop k) n k=es.length:=by
 rw [List.drop_of_length_le h]
 cases n<;>simp [lJ]<;>omega
theorem FQ (Y:Nat->Prop) (A:Option Addr) (c:Nat) (es:List Pt) (i:Nat) (w:World) (hx:jW w Y A es) (hl:es.length<=1000000) (hok:dZ es) (hi:i<es.length):
  Calls Tryz.prog 23 #[.slice A es.length c,.int .i64 (i:Int)] w fun e w'=>e= .returned (.int .i64 (lJ (es.drop i) 1 i:Nat))/\Below w.heap.size w w':=by
 have H:=aD (Cj hx hok);have h0':(0:Int)<=(i:Int):=by omega
 have h1':(i:Int)<(es.length:Int):=by omega
 have hd0:decide ((i:Int)<0)=false:=by simp
 have hd1:decide (es.length<=i)=false:=by simp;omega
 clear hx hok;go_enter Tryz.func23,Tryz.ntmps23;go_wp2_with fail
 go_loopw [5,6] (fun o5 i6 wr=>∃(q n:Nat),o5= .int .i64 ((n+1:Nat):Int)/\i6= .int .i64 q/\i<=q/\q<=es.length/\n<=51*q/\Hid (lJ (es.drop q) (n+1) q=lJ (es.drop i) 1 i/\Below w.heap.size w wr))
  (fun _ i6 _=>es.length-(Lib.intOf i6).toNat)
 case atStart=>exact ⟨i,0,rfl,rfl,by omega,by omega,by omega,aD ⟨rfl,aF _ _⟩⟩
 case round=>
  obtain ⟨q,n,rfl,rfl,hiq,hq,hn,HI⟩:=hrel;by_cases hlt:q<es.length
  ·obtain ⟨x,hx⟩:=aN hlt
   have hst:=Qw (n:=n) hx;have hxo:=H.out.2 x (Ox hx);have vB:=p8 hxo.2;obtain ⟨eb,eo,rfl,hb,hy,⟨TA,tc,UA,uc,_,_,c0,c1,c2,c3,c4,c5,c6,c7⟩,_⟩:=(H.out.1.fr (Fr.below HI.out.2:Fr Y w wr) fun q hq=>.inl hq) q x hx;have HM:=aD (fun v (hv:Below w.heap.size w v)=>um x TA x.T.length tc UA x.U.length uc v hxo.1 hxo.2);have HS:=aD hst;unfold xQ at HM;clear hx hst hxo;obtain ⟨M,hM⟩:∃M,M=aP x:=⟨_,rfl⟩;rw [<-hM] at HM HS vB;clear hM;by_cases hz:n+M=0
   ·have hn0:n=0:=by omega
    have hM0:M=0:=by omega
    subst hn0 hM0
    have HS2:Hid (lJ (es.drop i) 1 i=q+1):=aD (by
     rw [<-HI.out.1,HS.out]
     cases es.drop (q+1)<;>rfl)
    go_wp2_with fail;refine (HM.out _ HI.out.2).mono ?_;rintro e w1 ⟨rfl,hb1⟩;have HB1:=aD (au HI.out.2 hb1);clear hb1 c0 c1 c2 c3 c4 c5 c6 c7;go_wp2_with fail;go_ret;exact ⟨kS (by rw [HS2.out];rfl),HB1.out⟩
   ·obtain ⟨m,hm⟩:∃m,n+M=m+1:=⟨n+M-1,by omega⟩
    have hzb:((n:Int)+1-1+(M:Int)==0)=false:=by simp;omega
    have hzc:(((n+1:Nat):Int)-1+(M:Int)==0)=false:=by simp;omega
    have HZ:=aD hz;clear hz;go_wp2_with fail;refine (HM.out _ HI.out.2).mono ?_;rintro e w1 ⟨rfl,hb1⟩;have HB1:=aD (au HI.out.2 hb1);clear hb1 c0 c1 c2 c3 c4 c5 c6 c7;go_wp2_with fail;go_roundw
    case rel=>exact ⟨q+1,m,by go_num,by go_num,by omega,by omega,by omega,aD ⟨by rw [<-hm,<-HS.out,HI.out.1],HB1.out⟩⟩
    case measure=>simp [Lib.intOf];omega
  ·have HS2:Hid (lJ (es.drop i) 1 i=es.length):=aD (by rw [<-HI.out.1,UN (by omega) hq])
   go_wp2_with fail;go_ret;exact ⟨kS (by rw [HS2.out]),HI.out.2⟩
theorem oz (Y:Nat->Prop) (A:Option Addr) (c:Nat) (es:List Pt) (i:Nat) (p:Pt) (w:World) (hx:jW w Y A es) (hl:es.length<=1000000) (hok:dZ es) (hp:es[i]?=some p):
  Calls Tryz.prog 27 #[.slice A es.length c,.int .i64 (i:Int)] w fun e w'=>∃A' cap',e= .returned (.slice A' (dw (iF es (aP p) (i+1))).length cap')/\eU w' w.heap.size A' cap' (dw (iF es (aP p) (i+1)))/\Below w.heap.size w w':=by
 have hi:=aU hp;have H:=aD (Cj hx hok);have hxo:=hok p (Ox hp);have vB:=p8 hxo.2;have hown0:=jo 3 1 encI w;have hb0:=aj (aF w.heap.size w) (.cells #[] 3);obtain ⟨eb,eo,rfl,hb,hy,⟨TA,tc,UA,uc,_,_,c0,c1,c2,c3,c4,c5,c6,c7⟩,_⟩:=hx i p hp;have HM:=aD (fun v=>um p TA p.T.length tc UA p.U.length uc v hxo.1 hxo.2);have HC:=aD (fun v (hv:Below w.heap.size w v)=>Cj ((hv.cell (p:=⟨eb,eo+i*8,none⟩) hb).trans c0) (Cj ((hv.cell (p:=⟨eb,eo+i*8+1,none⟩) hb).trans c1) (Cj ((hv.cell (p:=⟨eb,eo+i*8+2,none⟩) hb).trans c2) (Cj ((hv.cell (p:=⟨eb,eo+i*8+3,none⟩) hb).trans c3) (Cj ((hv.cell (p:=⟨eb,eo+i*8+4,none⟩) hb).trans c4) (Cj ((hv.cell (p:=⟨eb,eo+i*8+5,none⟩) hb).trans c5) (Cj ((hv.cell (p:=⟨eb,eo+i*8+6,none⟩) hb).trans c6) ((hv.cell (p:=⟨eb,eo+i*8+7,none⟩) hb).trans c7))))))));unfold xQ at HM;have h0':(0:Int)<=(i:Int):=by omega
 have h1':(i:Int)<(es.length:Int):=by omega
 have hd0:decide ((i:Int)<0)=false:=by simp
 have hd1:decide (es.length<=i)=false:=by simp;omega
 obtain ⟨M,hM⟩:∃M,M=aP p:=⟨_,rfl⟩;rw [<-hM] at HM vB ⊢;clear hx hok hxo hp hM c0 c1 c2 c3 c4 c5 c6 c7 hy;go_enter Tryz.func27,Tryz.ntmps27;go_wp2_with fail
 go_loopw [5,6,7] (fun o5 i6 k7 wr=>∃(k at_:Nat) (A':Option Addr) (cap':Nat) (l:List Int),o5= .slice A' l.length cap'/\i6= .int .i64 at_/\k7= .int .i64 k/\k<=M/\at_<=es.length/\l.length<=k/\
   Hid (eU wr w.heap.size A' cap' l/\Below w.heap.size w wr/\l++dw (iF es (M-k) at_)=dw (iF es M (i+1))))
  (fun _ _ k7 _=>M-(Lib.intOf k7).toNat)
 case atStart=>exact ⟨0,i+1,_,_,[],rfl,rfl,rfl,bE _,hi,aG _,aD ⟨hown0,hb0,rfl⟩⟩
 case round=>
  obtain ⟨k,at_,A',cap',l,rfl,rfl,rfl,hkM,abA,hlk,HI⟩:=hrel;obtain ⟨c0,c1,c2,c3,c4,c5,c6,c7⟩:=HC.out wr HI.out.2.1;by_cases hlt:k<M
  ·by_cases hp:at_<es.length
   ·obtain ⟨d,hd'⟩:∃d,M-k=d+1:=⟨M-k-1,by omega⟩
    have dW:Hid ((l++[(at_:Int)])++dw (iF es d (lJ (es.drop at_) 1 at_))=dw (iF es M (i+1))):=aD (by
     rw [<-HI.out.2.2,hd'];simp only [iF,if_pos hp];simp [dw])
    have Hd':=aD hd';have hle:=FP (es.drop at_) 1 at_;rw [wT] at hle;clear hd';go_wp2_with fail;refine (HM.out _).mono ?_;rintro e w1 ⟨rfl,hbx⟩;have hown1:=aB.below HI.out.1 hbx (aG _);have kG:=au HI.out.2.1 hbx;have z1:=kG.size;clear c0 c1 c2 c3 c4 c5 c6 c7;go_wp2_with (at_builtin;refine rF rfl (.tmp 35) (.tmp 37) rfl w.heap.size (l:=l) rfl (aB.alloc hown1 _) (l2:=[(at_:Int)]) rfl (vQ _ _) (by simp;omega) (by simp;omega) ?_;intro A2 cap2 w3 hown3 hg3 _);have dP:=jw (aj kG _) hg3 (fun k hk=>(aB.block hown1 k hk).1);refine (FQ Y _ c es at_ _ (H.out.1.fr (Fr.below dP:Fr Y w _) fun q hq=>.inl hq) hl H.out.2 hp).mono ?_;rintro e w4 ⟨rfl,hb4⟩;have xB:=aB.below hown3 hb4 (aG _);go_wp2_with fail;go_roundw
    case rel=>exact ⟨k+1,_,_,_,l++[(at_:Int)],by simp,rfl,by go_num,by omega,by omega,by simp;omega,aD ⟨xB,au dP hb4,by rw [<-dW.out,show M-(k+1)=d by have:=Hd'.out;omega]⟩⟩
    case measure=>simp [Lib.intOf];omega
   ·have HO:Hid (l=dw (iF es M (i+1))/\eU wr w.heap.size A' cap' l/\Below w.heap.size w wr):=aD (by
     obtain ⟨d,hd'⟩:∃d,M-k=d+1:=⟨M-k-1,by omega⟩;have:=HI.out.2.2;rw [hd'] at this;simp only [iF,if_neg hp] at this;exact ⟨by simpa [dw] using this,HI.out.1,HI.out.2.1⟩)
    go_wp2_with fail;refine (HM.out _).mono ?_;rintro e w1 ⟨rfl,hbx⟩;clear c0 c1 c2 c3 c4 c5 c6 c7;go_wp2_with fail;go_ret;rw [<-HO.out.1];exact ⟨_,_,rfl,aB.below HO.out.2.1 hbx (aG _),au HO.out.2.2 hbx⟩
  ·have HO:Hid (l=dw (iF es M (i+1))/\eU wr w.heap.size A' cap' l/\Below w.heap.size w wr):=aD (by
    have:=HI.out.2.2;rw [show M-k=0 by omega] at this;exact ⟨by simpa [dw,iF] using this,HI.out.1,HI.out.2.1⟩)
   go_wp2_with fail;refine (HM.out _).mono ?_;rintro e w1 ⟨rfl,hbx⟩;clear c0 c1 c2 c3 c4 c5 c6 c7;go_wp2_with fail;go_ret;rw [<-HO.out.1];exact ⟨_,_,rfl,aB.below HO.out.2.1 hbx (aG _),au HO.out.2.2 hbx⟩
def pz:zx->Bool
 | .ok _=>true
 | .error _=>false
theorem Xm:∀{s:zx} {a:Nat} {p e:Int},abQ s a p e->(e==0)=pz s
 | .ok n,a,p,e,h=>by simp [pz,h.2.2]
 | .error (q,f),a,p,e,h=>by
  have h1:=h.2.1;have h2:=h.2.2;subst h1;simp [pz,h2]
theorem iZ (P:Nat) (es:List Pt) (env:Env) (s:zx) (Y:Nat->Prop) (w:World) (h:aM P es env s Y w):
  Calls Tryz.prog 45 #[pk P] w fun e w'=>e= .returned (.bool (pz s))/\Below w.heap.size w w':=by
 obtain ⟨a,p,e,⟨EA,ec,VA,vc,bs,hm⟩,hr⟩:=h;have HE:Hid ((e==0)=pz s):=aD (Xm hr);obtain ⟨_,_,_,_,c4⟩:=hm.cells;clear hm hr;unfold pk;go_enter Tryz.func45,Tryz.ntmps45;go_wp2_with fail;go_ret;exact ⟨by rw [HE.out];rfl,aF _ _⟩
def CK (b:Bool) (aK:Nat) (f:Int):zx->zx
 | .ok a=>if b=true then .ok a else .error (aK,f)
 | .error x=>.error x
def Ag (P:Nat) (es:List Pt) (env:Env) (Y:Nat->Prop) (s:zx) (w:World) (e:Ending) (w':World):Prop:=
 (∃v,e= .returned v)/\Fr Y w w'/\aM P es env s Y w'
theorem jl (P:Nat) (es:List Pt) (env:Env) (s:zx) (b:Bool) (aK:Nat) (f:Int) (Y:Nat->Prop) (w:World) (hf:f≠0\/b=true) (h:aM P es env s Y w):
  Calls Tryz.prog 96 #[pk P,.bool b,.int .i64 aK,.int .i64 f] w (Ag P es env Y (CK b aK f s) w):=by
 have H:=aD h;have HO:=aD (fun v (hv:Below w.heap.size w v)=>iZ P es env s Y v (h.later hv));unfold pk at*;clear h;go_enter Tryz.func96,Tryz.ntmps96
 cases b with
 |true=>
  go_wp2_with fail;go_end0;refine ⟨⟨_,rfl⟩,Fr.refl _ _,?_⟩
  cases s<;>exact H.out
 |false=>
  go_wp2_with fail;refine (HO.out _ (aF _ _)).mono ?_;rintro e w1 ⟨rfl,hb1⟩
  cases s with
  |error x=>
   have HB:=aD hb1;clear hb1;simp only [pz];go_wp2_with fail;go_end0
   exact ⟨⟨_,rfl⟩,Fr.below HB.out,H.out.later HB.out⟩
  |ok a=>
   obtain ⟨a',p,e,⟨EA,ec,VA,vc,bs,hm⟩,ha,hp,he⟩:=H.out.later hb1;subst ha hp he;obtain ⟨_,_,_,c3,c4⟩:=hm.cells;have f3:=hm.frozen 3 (by omega);have f4:=hm.frozen 4 (by omega);have HM:=aD hm;have HB:=aD hb1;clear hm hb1;simp only [pz];go_wp2_with fail;obtain ⟨w2,hw2⟩:∃w2,w2=(w1.setCell ⟨P,3,none⟩ (.int .i64 (aK:Int))).setCell ⟨P,4,none⟩ (.int .i64 f):=⟨_,rfl⟩
   have HP:Hid (qL P es env a' (aK:Int) f EA ec VA vc bs Y w2/\Fr Y w1 w2):=aD (by
    refine HM.out.put ?_ ?_
    ·rw [hw2,heap_set (heap_set HM.out.blk 3 _) 4]
     rfl
    ·rw [hw2]
     exact (dY _ _ _ _).trans (dY _ _ _ _))
   rw [<-hw2];clear hw2;go_end0
   have h0:f≠0:=by
    rcases hf with h|h
    ·exact h
    ·cases h
   exact ⟨⟨_,rfl⟩,(Fr.below HB.out).trans HP.out.2,a',aK,f,⟨EA,ec,VA,vc,bs,HP.out.1⟩,rfl,rfl,h0⟩
theorem bF (P:Nat) (es:List Pt) (env:Env) (x:Nat×Int) (v1 v2:Value) (aK:Nat) (Y:Nat->Prop) (w:World) (h:aM P es env (.error x) Y w):
  Calls Tryz.prog 99 #[pk P,v1,v2,.int .i64 aK] w (Ag P es env Y (.error x) w):=by
 have H:=aD h;have HO:=aD (iZ P es env _ Y w h);simp only [pz] at HO;unfold pk at*;clear h;go_enter Tryz.func99,Tryz.ntmps99;go_wp2_with fail;refine HO.out.mono ?_;rintro e w1 ⟨rfl,hb1⟩;have HB:=aD hb1;clear hb1;go_wp2_with fail;go_end0;exact ⟨⟨_,rfl⟩,Fr.below HB.out,H.out.later HB.out⟩
theorem fQ (P:Nat) (es:List Pt) (env:Env) (a:Nat) (A B:Option Addr) (c d:Nat) (t u:List Nd) (aK:Nat) (Y:Nat->Prop) (w:World) (h:aM P es env (.ok a) Y w) (ht:tL w Y A t) (hu:tL w Y B u) (gt:Gd t) (gu:Gd u):
  Calls Tryz.prog 99 #[pk P,.slice A t.length c,.slice B u.length d,.int .i64 aK] w (Ag P es env Y (fZ t u aK a) w):=by
 have H:=aD h;have HO:=aD (iZ P es env _ Y w h);have HA:=aD (fun v (hv:Below w.heap.size w v)=>Qi A B c d t u v (((ht.fr (Fr.below hv) fun q hq=>.inl hq)).eY) ((hu.fr (Fr.below hv) fun q hq=>.inl hq).eY) gt gu);have HM:=aD (fun v (hv:Below w.heap.size w v)=>jl P es env (.ok a) (jA t u) aK 9 Y v (.inl (by decide)) (h.later hv));simp only [pz] at HO;unfold pk at*;clear h ht hu gt gu;go_enter Tryz.func99,Tryz.ntmps99;go_wp2_with fail;refine HO.out.mono ?_;rintro e w1 ⟨rfl,hb1⟩;have HB1:=aD hb1;clear hb1;go_wp2_with fail;refine (HA.out _ HB1.out).mono ?_;rintro e w2 ⟨rfl,hb2⟩;have HB2:=aD (au HB1.out hb2);clear hb2;go_wp2_with fail;refine (HM.out _ HB2.out).mono ?_;rintro e w3 ⟨⟨v,rfl⟩,hf,hk⟩;have HP:Hid (Fr Y w w3/\aM P es env (fZ t u aK a) Y w3):=aD ⟨(Fr.below HB2.out).trans hf,hk⟩;clear hf hk;go_wp2_with fail;go_end0;exact ⟨⟨_,rfl⟩,HP.out.1,HP.out.2⟩
theorem adr:(Tryz.prog.info? 36).map (fun i=>(i.zero,i.size,i.bytes))=some (some (.agg #[.string bZ,.slice none 0 0]),2,40):=by kernel_rfl
section
variable {w:World} {ops:Array Oper} {rest:List Oper} {o:Oper} {a:Act} {Q:Exit->Act->World->Prop}
theorem vX (hgd:o.guard=none) (s x:Operand)
  (ho:o.op= .call {callee:=.builtin .append,args:=#[s,x],argTypes:=#[22,22]})
  (base:Nat) {A:Option Addr} {cap m n:Nat} {l:List Bn} (hm:l.length=m) (hs:a.eval s= .slice A m cap) (hown:Bl w base A cap l) {B:Nat} {A2:Option Addr} {c:Nat} {l2:List Bn} (hn:l2.length=n) (hx:a.eval x= .slice A2 n c) (hr:mK w B A2 l2)
  (hlen:m+n<=1000000000000) (hbase:base<=w.heap.size)
  (h:∀A' cap' w',Bl w' base A' cap' (l++l2)->w.grownBy w' ((fq A l.length cap).ownBlock)->
   ((fq A' (l.length+l2.length) cap').ownBlock=(fq A l.length cap).ownBlock\/(fq A' (l.length+l2.length) cap').ownBlock=some w.heap.size)->wpList Tryz.prog ops Q rest (a.put o.dst (.slice A' (m+n) cap')) w'):wpList Tryz.prog ops Q (o::rest) a w:=by
 subst hm hn;obtain ⟨i0,hi,hz0,hz1,hz2⟩:=info_parts adr;exact om w rX UJ hgd s x 22 ho base 36 i0 _ 40 Tryz.underlying22 hi hz0 hz1 hz2 rfl (by decide) hs hown hx hr (by unfold maxLen;omega) (by omega) hbase h
end
def YW (P:Nat) (VA:Option Addr) (q:Nat):Prop:=q=P\/∃a,VA=some a/\a.block=q
theorem qL.app {P a:Nat} {es:List Pt} {env e2:Env} {p e:Int} {EA VA A5:Option Addr} {ec vc c5:Nat} {bs ls:List Bn} {Y:Nat->Prop} {w w5:World} (h:qL P es env a p e EA ec VA vc bs Y w) (hown:Bl w5 0 A5 c5 (bs++ls)) (hg:w.grownBy w5 ((fq VA bs.length vc).ownBlock))
  (hA:(fq A5 (bs.length+ls.length) c5).ownBlock=(fq VA bs.length vc).ownBlock\/(fq A5 (bs.length+ls.length) c5).ownBlock=some w.heap.size) (k:dX w Y ls e2) (hv:env.length+e2.length<=1000000):
  qL P es (env++e2) a p e EA ec A5 c5 (bs++ls) (YW P A5) (w5.setCell ⟨P,2,none⟩ (.slice A5 (bs.length+ls.length) c5))/\Fr Y w (w5.setCell ⟨P,2,none⟩ (.slice A5 (bs.length+ls.length) c5))/\ah Y (YW P A5) w/\
   w5.cell? ⟨P,2,none⟩=some (.slice VA bs.length vc)/\w5.frozen? ⟨P,2,none⟩=false:=by
 have hP:=h.lt P ((h.y P).2 (.inl rfl))
 have hb:w5.heap[P]?=w.heap[P]?:=hg.block P hP fun e=>by
  obtain ⟨b,hb,e2⟩:=cK e.symm;exact h.np b hb e2
 have hblk:=hb.trans h.blk
 have hne:∀b,A5=some b->b.block≠P:=by
  rintro b rfl;simp only [fA] at hA;rcases hA with e|e
  ·obtain ⟨a2,rfl,e2⟩:=cK e.symm
   rw [<-e2];exact h.np a2 rfl
  ·injection e with e
   omega
 have hyn:ah Y (YW P A5) w:=by
  rintro q (rfl|⟨b,rfl,rfl⟩)
  ·exact .inl ((h.y _).2 (.inl rfl))
  ·simp only [fA] at hA
   rcases hA with e|e
   ·obtain ⟨a2,rfl,e2⟩:=cK e.symm
    exact .inl ((h.y _).2 (.inr ⟨a2,rfl,e2⟩))
   ·injection e with e
    exact .inr (by omega)
 have hf:Fr Y w (w5.setCell ⟨P,2,none⟩ (.slice A5 (bs.length+ls.length) c5)):=by
  refine Fr.setCell (Fr.grown hg fun q e=>?_) (.inl ((h.y _).2 (.inl rfl))) _;obtain ⟨b,hb,e2⟩:=cK e;exact (h.y q).2 (.inr ⟨b,hb,e2⟩)
 refine ⟨⟨?_,?_,h.ex.fr hf hyn,dX.app (h.en.fr hf hyn) (k.fr hf hyn),fun q=>Iff.rfl,hne,h.el,by rw [jX];exact hv⟩,hf,hyn,by simp [Ck,hblk],by simp [World.frozen?,hblk]⟩
 ·rw [heap_set hblk 2,jX]
  rfl
 ·exact aB.fr hown (dY w5 P 2 _) hne
theorem ah.trans {Y Y1 Y2:Nat->Prop} {w w1:World} (h:ah Y Y1 w) (k:ah Y1 Y2 w1) (hz:w.heap.size<=w1.heap.size):ah Y Y2 w:=fun q hq=>by
 rcases k q hq with h1|h1
 ·exact h q h1
 ·exact .inr (by omega)
theorem ah.refl (Y:Nat->Prop) (w:World):ah Y Y w:=fun _q hq=>.inl hq
theorem qL.cut {P a:Nat} {es:List Pt} {env e2:Env} {p e:Int} {EA VA:Option Addr} {ec vc n:Nat} {bs:List Bn} {Y:Nat->Prop} {w:World} (h:qL P es (env++e2) a p e EA ec VA vc bs Y w) (hn:n=env.length):
  qL P es env a p e EA ec VA vc (bs.take n) Y (w.setCell ⟨P,2,none⟩ (.slice VA n vc))/\Fr Y w (w.setCell ⟨P,2,none⟩ (.slice VA n vc))/\n<=bs.length/\n<=vc:=by
 subst hn;have hl:bs.length=env.length+e2.length:=by rw [h.en.1,jX]
 have hlt:(bs.take env.length).length=env.length:=by rw [List.length_take,hl];omega
 have hf2:Fr Y w (w.setCell ⟨P,2,none⟩ (.slice VA env.length vc)):=(dY w P 2 _).mono fun q hq=>(h.y q).2 (.inl hq);refine ⟨⟨?_,?_,h.ex.fr hf2 fun q hq=>.inl hq,dX.take (h.en.fr hf2 fun q hq=>.inl hq),h.y,h.np,h.el,?_⟩,hf2,by omega,?_⟩
 ·rw [heap_set h.blk 2,hlt]
  rfl
 ·exact aB.fr (aB.cut rX h.own (by omega)) (dY w P 2 _) h.np
 ·have:=h.vl
  rw [jX] at this;omega
 ·have:=aB.l7 h.own
  omega
theorem p9 (P:Nat) (es:List Pt) (nx:Nx) (HN:Hid (nC P es nx)) (env e2:Env) (s:zx) (r:fC) (LA:Option Addr) (lc:Nat) (ls:List Bn) (Y:Nat->Prop) (w:World) (h:aM P es env s Y w) (hr:mK w w.heap.size LA ls) (he:dX w Y ls e2) (hl:e2.length<=2) (hvl:env.length<=900000) (hn:NT nx (env++e2) s=some r):
  Calls Tryz.prog 97 #[pk P,.slice LA ls.length lc] w (jD P es env Y r w):=by
 obtain ⟨a,p,e,⟨EA,ec,VA,vc,bs,hm⟩,hs⟩:=h;obtain ⟨_,_,c2,_,_⟩:=hm.cells;have f2:=hm.frozen 2 (by omega);have HM:=aD hm;have HS:=aD hs;have HR:=aD (Cj hr (Cj he hn));have hbl:bs.length<=900000:=by rw [hm.en.1];exact hvl
 have hll:ls.length<=2:=by rw [he.1];exact hl
 clear hm hs hr he hn;unfold pk at*;go_enter Tryz.func97,Tryz.ntmps97;go_wp2_with (at_builtin;refine vX rfl (.tmp 16) (.tmp 17) rfl 0 (m:=bs.length) (n:=ls.length) rfl rfl HM.out.own rfl rfl HR.out.1 (by omega) (bE _) ?_;intro A5 c5 w5 hown5 hg5 Xn;have K5:=aD (HM.out.app hown5 hg5 Xn HR.out.2.1 (by omega));have k2:=K5.out.2.2.2.1;have Qk:=K5.out.2.2.2.2;clear hown5 hg5 Xn);obtain ⟨w6,nD⟩:∃w6,w6=w5.setCell ⟨P,2,none⟩ (.slice A5 (bs.length+ls.length) c5):=⟨_,rfl⟩;rw [<-nD] at K5;rw [<-nD];clear nD k2 Qk c2 f2;have HX:=aD (HN.out (env++e2) s r _ w6 HR.out.2.2 ⟨a,p,e,⟨EA,ec,A5,c5,_,K5.out.1⟩,HS.out⟩);unfold pk at HX;go_wp2_with fail;refine HX.out.mono ?_;rintro x w7 ⟨Y7,Ai,N7,⟨a7,p7,e7,⟨EA7,ec7,tN,vY,bs7,CO⟩,hs7⟩,hv7⟩
 obtain ⟨v7,rfl⟩:∃v,x= .returned v:=by
  cases r with
  |ok y=>
   obtain ⟨t,b⟩:=y;obtain ⟨A,c,rfl,_⟩:=hv7
   exact ⟨_,rfl⟩
  |error y=>exact ⟨_,hv7⟩
 have Aj:=aD (Cj Ai (Cj N7 (Cj CO (Cj hs7 hv7))));have HC:=aD (CO.cut (n:=bs.length) HM.out.en.1);obtain ⟨_,_,c2,_,_⟩:=CO.cells;have f2:=CO.frozen 2 (by omega);have pE:=HC.out.2.2.1;have hc7:=HC.out.2.2.2;clear Ai N7 CO hs7 hv7;go_wp2_with fail
 have HP:Hid (jD P es env Y r w (.returned v7) (w7.setCell ⟨P,2,none⟩ (.slice tN bs.length vY))):=aD (by
  obtain ⟨Ai,N7,CO,hs7,hv7⟩:=Aj.out;have f1:=Fr.new K5.out.2.1 Ai K5.out.2.2.1;have y1:=ah.trans K5.out.2.2.1 N7 K5.out.2.1.size;have f3:=Fr.new f1 HC.out.2.1 y1;refine ⟨Y7,f3,y1,⟨a7,p7,e7,⟨EA7,ec7,tN,vY,_,HC.out.1⟩,hs7⟩,?_⟩
  cases r with
  |ok y=>
   obtain ⟨t,b⟩:=y;obtain ⟨A,c,e1,e2⟩:=hv7
   exact ⟨A,c,e1,e2.fr HC.out.2.1 fun q hq=>.inl hq⟩
  |error y=>exact hv7)
 clear Aj HC K5;go_ret;exact HP.out
theorem N8 {x y:Nd} (hx:x.k=0) (hy:y.k=0):oL x y=(x.s.toList==y.s.toList):=by
 unfold oL uW Nd.bare;simp [hx,hy]
theorem N9 {x y:Nd} (h:¬(x.k=0/\y.k=0)):oL x y=uW x y:=by
 unfold oL uW Nd.bare;by_cases hx:x.k=0
 ·have hy:¬y.k=0:=fun hy=>h ⟨hx,hy⟩
  have hy0:((0:Int)==y.k)=false:=by rw [beq_eq_false_iff_ne];exact fun e=>hy e.symm
  simp [hx,hy,hy0]
 ·by_cases hy:y.k=0
  ·have hx0:(x.k==(0:Int))=false:=by rw [beq_eq_false_iff_ne];exact hx
   simp [hx,hy,hx0]
  ·simp [hx,hy]
theorem Qy (x y:Nd) (w:World):
  Calls Tryz.prog 134 #[.agg #[.int .i64 x.k,.string x.s,.int .i64 x.n],.agg #[.int .i64 y.k,.string y.s,.int .i64 y.n]] w fun e w'=>e= .returned (.bool (oL x y))/\Below w.heap.size w w':=by
 by_cases h:x.k=0/\y.k=0
 ·have hx:(x.k==0)=true:=by simpa using h.1
  have hy:(y.k==0)=true:=by simpa using h.2
  have hfin:=aD (N8 h.1 h.2);clear h;go_enter Tryz.func134,Tryz.ntmps134;go_wp2_with fail;go_ret;exact ⟨aT (by rw [hfin.out]),by repeat (first|exact aF _ _|refine aj ?_ _)⟩
 ·have hfin:=aD (N9 h)
  have heq:=Na x y;simp only [Nd.val] at heq;by_cases hx:(x.k==0)=true
  ·have hy:(y.k==0)=false:=by
    rw [beq_eq_false_iff_ne];intro e;exact h ⟨by simpa using hx,e⟩
   clear h;go_enter Tryz.func134,Tryz.ntmps134;go_wp2_with fail;go_ret;exact ⟨aT (by rw [hfin.out]),by repeat (first|exact aF _ _|refine aj ?_ _)⟩
  ·have hx':(x.k==0)=false:=by simpa using hx
   clear h hx;go_enter Tryz.func134,Tryz.ntmps134;go_wp2_with fail;go_ret;exact ⟨aT (by rw [hfin.out]),by repeat (first|exact aF _ _|refine aj ?_ _)⟩
theorem FT (A B:Option Addr) (c d:Nat) (xs ys:List Nd) (w:World) (ha:bO w w.heap.size A xs) (hb:bO w w.heap.size B ys)
  (hl:xs.length<=9223372036854775807):
  Calls Tryz.prog 133 #[.slice A xs.length c,.slice B ys.length d,.func (.func 134) #[] #[]] w fun e w'=>e= .returned (.bool (mE xs ys))/\Below w.heap.size w w':=by
 by_cases hlen:xs.length=ys.length
 ·rw [<-hlen]
  have Hlen:=aD hlen;clear hlen;go_enter Tryz.func133,Tryz.ntmps133;go_wp2_with fail;go_loopw [17] (fun i w'=>∃k:Nat,k<=xs.length/\i= .int .i64 k/\Below w.heap.size w w'/\Hid (pQ xs ys k=mE xs ys)) (fun i _=>xs.length-(intOf i).toNat)
  case atStart=>exact ⟨0,bE _,rfl,aF _ _,aD rfl⟩
  case round=>
   obtain ⟨k,hk,rfl,hbel,hgood⟩:=hrel;by_cases hp:k<xs.length
   ·obtain ⟨x,hx⟩:=aN hp
    obtain ⟨y,hy⟩:=aN (show k<ys.length by rw [<-Hlen.out];exact hp);have hp2:k<ys.length:=by rw [<-Hlen.out];exact hp
    have hstep:=aD (xu hx hy);obtain ⟨b1,o1,rfl,hb1,c10,c11,c12⟩:=((ha.below hbel).more hbel.size).at_ hx;obtain ⟨b2,o2,rfl,hb2,c20,c21,IU⟩:=((hb.below hbel).more hbel.size).at_ hy;have q1:b1<wr.heap.size+1:=by omega
    have q2:b2<wr.heap.size+1:=by omega
    clear hx hy
    cases he:oL x y
    all_goals
     have He:=aD he;clear he;go_wp2_with (go_at_call 134;refine (Qy x y _).mono ?_;rintro e w1 ⟨rfl,hbx⟩;rw [He.out])
    ·go_ret
     exact ⟨aT (by rw [<-hgood.out,hstep.out,He.out];rfl),by repeat (first|exact hbel|refine au ?_ hbx|refine aj ?_ _|refine lN ?_ (by simp;omega) _)⟩
    ·go_roundw
     case rel=>exact ⟨k+1,hp,by go_num,(by repeat (first|exact hbel|refine au ?_ hbx|refine aj ?_ _|refine lN ?_ (by simp;omega) _)),aD (by rw [<-hgood.out,hstep.out,He.out,Bool.true_and])⟩
     case measure=>simp [intOf];omega
   ·have hfin:=aD (zI Hlen.out hp)
    go_wp2_with fail;go_ret;exact ⟨aT (by rw [<-hgood.out,hfin.out]),hbel⟩
 ·have hle:((xs.length:Int) !=(ys.length:Int))=true:=by simp;omega
  have hfin:=aD (EU hlen);clear hlen;go_enter Tryz.func133,Tryz.ntmps133;go_wp2_with fail;go_ret;exact ⟨aT (by rw [hfin.out]),aF _ _⟩
theorem CP (A B:Option Addr) (c d:Nat) (xs ys:List Nd) (w:World) (ha:bO w w.heap.size A xs) (hb:bO w w.heap.size B ys)
  (hl:xs.length<=9223372036854775807):
  Calls Tryz.prog 105 #[.slice A xs.length c,.slice B ys.length d] w fun e w'=>e= .returned (.bool (mE xs ys))/\Below w.heap.size w w':=by
 go_enter Tryz.func105,Tryz.ntmps105;go_wp2_with (go_at_call 133;refine (FT A B c d xs ys _ ha hb hl).mono ?_;rintro e w1 ⟨rfl,hbx⟩);go_ret;exact ⟨rfl,hbx⟩
def pv (p:Pt) (TA:Option Addr) (tc:Nat) (UA:Option Addr) (uc:Nat):Value:=
 .agg #[.int .i64 p.k,.string p.lb,.string p.nm,.string p.bd,.int .i64 p.mn,.int .i64 p.num,.slice TA p.T.length tc,.slice UA p.U.length uc]
structure aO (w:World) (Y:Nat->Prop) (b:Nat) (p:Pt) (TA:Option Addr) (tc:Nat) (UA:Option Addr) (uc:Nat):Prop where
 blk:w.heap[b]?=some (.cells #[.int .i64 p.k,.string p.lb,.string p.nm,.string p.bd,.int .i64 p.mn,.int .i64 p.num,.slice TA p.T.length tc,.slice UA p.U.length uc] 33 (0,0))
 off:¬Y b
 T:aA w Y TA tc p.T
 U:aA w Y UA uc p.U
section
variable {w w':World} {Y Y':Nat->Prop} {b:Nat} {p:Pt} {TA UA:Option Addr} {tc uc:Nat}
theorem aO.fr (h:aO w Y b p TA tc UA uc) (hf:Fr Y w w') (hy:ah Y Y' w):aO w' Y' b p TA tc UA uc:=by
 have hb:b<w.heap.size:=(Array.getElem?_eq_some_iff.1 h.blk).1;refine ⟨(hf.block b hb h.off).trans h.blk,fun h2=>?_,h.T.fr hf hy,h.U.fr hf hy⟩;rcases hy b h2 with h3|h3
 ·exact h.off h3
 ·omega
theorem aO.later (h:aO w Y b p TA tc UA uc) (hb:Below w.heap.size w w'):aO w' Y b p TA tc UA uc:=h.fr (Fr.below hb) (ah.refl _ _)
theorem aA.later {A:Option Addr} {c:Nat} {t:List Nd} (h:aA w Y A c t) (hb:Below w.heap.size w w'):aA w' Y A c t:=h.fr (Fr.below hb) (ah.refl _ _)
theorem aO.cells (h:aO w Y b p TA tc UA uc):w.cell? ⟨b,0,none⟩=some (.int .i64 p.k)/\w.cell? ⟨b,1,none⟩=some (.string p.lb)/\w.cell? ⟨b,2,none⟩=some (.string p.nm)/\w.cell? ⟨b,3,none⟩=some (.string p.bd)/\w.cell? ⟨b,4,none⟩=some (.int .i64 p.mn)/\
  w.cell? ⟨b,6,none⟩=some (.slice TA p.T.length tc)/\w.cell? ⟨b,7,none⟩=some (.slice UA p.U.length uc):=
 ⟨by simp [Ck,h.blk],by simp [Ck,h.blk],by simp [Ck,h.blk],by simp [Ck,h.blk],by simp [Ck,h.blk],by simp [Ck,h.blk],by simp [Ck,h.blk]⟩
theorem aO.new (hY:∀q,Y q->q<w.heap.size) (hT:aA w Y TA tc p.T) (hU:aA w Y UA uc p.U):aO (w.alloc (.cells #[.int .i64 p.k,.string p.lb,.string p.nm,.string p.bd,.int .i64 p.mn,.int .i64 p.num,.slice TA p.T.length tc,.slice UA p.U.length uc] 33)) Y w.heap.size p TA tc UA uc:=by
 have hb:Below w.heap.size w (w.alloc (.cells #[.int .i64 p.k,.string p.lb,.string p.nm,.string p.bd,.int .i64 p.mn,.int .i64 p.num,.slice TA p.T.length tc,.slice UA p.U.length uc] 33)):=aj (aF _ _) _;exact ⟨heap_alloc_new _ _,fun h=>absurd (hY _ h) (Nat.lt_irrefl _),hT.later hb,hU.later hb⟩
end
theorem jD.keep {P:Nat} {es:List Pt} {env:Env} {Y:Nat->Prop} {r:fC} {w w':World} {e:Ending} (h:jD P es env Y r w e w'):∃v,e= .returned v:=by
 obtain ⟨Y',_,_,_,h⟩:=h
 match r,h with
 | .ok (t,a),⟨A,c,e1,_⟩=>exact ⟨_,e1⟩
 | .error x,e1=>exact ⟨_,e1⟩
theorem ah.up {Y Y2:Nat->Prop} {w w1:World} (h:ah Y Y2 w1) (hz:w.heap.size<=w1.heap.size):ah Y Y2 w:=fun q hq=>by
 rcases h q hq with h1|h1
 ·exact .inl h1
 ·exact .inr (by omega)
theorem b_ {x:Option fC} {f:List Nd->Nat->Option fC} {r:fC} (h:dB x f=some r):(∃b,x=some (.error b)/\r= .error b)\/∃t a,x=some (.ok (t,a))/\f t a=some r:=by
 match x,h with
 |some (.error b),h=>
  simp only [dB] at h;injection h with h
  exact .inl ⟨b,rfl,h.symm⟩
 |some (.ok (t,a)),h=>exact .inr ⟨t,a,rfl,h⟩
theorem Xo (P:Nat) (es:List Pt) (env:Env) (p:Pt) (aK a:Nat) (r:fC) (Y:Nat->Prop) (w:World) (TA UA:Option Addr) (tc uc:Nat) (h:aM P es env (.ok a) Y w) (hT:aA w Y TA tc p.T) (hU:aA w Y UA uc p.U) (hm:Fy p a=some r):
  Calls Tryz.prog 64 #[pk P,pv p TA tc UA uc,.int .i64 aK] w (aY P es env Y r w):=by
 have HM:=aD (aO.new h.lt hT hU);have HB:Hid (Below w.heap.size w (w.alloc (.cells #[.int .i64 p.k,.string p.lb,.string p.nm,.string p.bd,.int .i64 p.mn,.int .i64 p.num,.slice TA p.T.length tc,.slice UA p.U.length uc] 33))):=aD (aj (aF _ _) _);have H:=aD (h.later HB.out);have HR:Hid (r= .ok (p.T,a)):=aD (by injection hm with hm;exact hm.symm);clear h hT hU hm;unfold pk pv;go_enter Tryz.func64,Tryz.ntmps64;go_wp2_with fail;go_ret;refine ⟨Y,Fr.below HB.out,ah.refl _ _,?_⟩;rw [HR.out];exact ⟨H.out,TA,tc,rfl,HM.out.T⟩
theorem aaz (P:Nat) (es:List Pt) (nx:Nx) (HN:Hid (nC P es nx)) (env:Env) (p:Pt) (aK a:Nat) (r:fC) (Y:Nat->Prop) (w:World) (TA UA:Option Addr) (tc uc:Nat) (h:aM P es env (.ok a) Y w) (hT:aA w Y TA tc p.T) (hU:aA w Y UA uc p.U) (gT:Gd p.T) (hG:∀env a t b,nx env a=some (.ok (t,b))->Gd t) (hm:Xk nx env p aK a=some r):
  Calls Tryz.prog 76 #[pk P,pv p TA tc UA uc,.int .i64 aK] w (aY P es env Y r w):=by
 obtain ⟨w1,hw1⟩:∃w1,w1=w.alloc (.cells #[.int .i64 p.k,.string p.lb,.string p.nm,.string p.bd,.int .i64 p.mn,.int .i64 p.num,.slice TA p.T.length tc,.slice UA p.U.length uc] 33):=⟨_,rfl⟩;have hpm:=aO.new h.lt hT hU;have hb1:Below w.heap.size w w1:=by rw [hw1];exact aj (aF _ _) _
 rw [<-hw1] at hpm;have CQ:=aD hpm;have HB:=aD hb1;have H:=aD (h.later hb1);have HR:=aD (b_ hm);have HD:=aD (Cj gT hG);clear h hT hU hm gT hG hpm hb1;unfold pk pv;go_enter Tryz.func76,Tryz.ntmps76;go_upto_region 1 with fail
 rw [<-hw1];clear hw1;obtain ⟨SS,hSS⟩:∃SS:World->Prop,SS=fun v=>v.cell? ⟨w.heap.size,6,none⟩=some (.slice TA p.T.length tc):=⟨_,rfl⟩;have HS:Hid (∀v Y',aO v Y' w.heap.size p TA tc UA uc->SS v):=aD fun v Y' hv=>by rw [hSS];exact hv.cells.2.2.2.2.2.1
 obtain ⟨wd,hwd⟩:∃wd,wd=w1.drew:=⟨_,rfl⟩;have bM:Hid (Below w1.heap.size w1 wd):=aD (by rw [hwd];exact (aF _ _).drew);have mI:=aD (CQ.out.later bM.out);have vZ:=aD (H.out.later bM.out);have hsd:SS wd:=HS.out _ _ mI.out;refine aI (S:=SS) [6] (by kernel_rfl) (by rw [<-hwd];exact hsd) (fun hHeld=>?_);rw [<-hwd] at hHeld ⊢;clear hwd;refine aL 0 [6] (some 7) rfl rfl ?_;refine aL 1 [2,6] (some 8) rfl rfl ?_;refine aL 3 [4,6] (some 10) rfl rfl ?_;refine aL 4 [6] (some 11) rfl rfl ?_;refine aL 5 [6] (some 12) rfl rfl ?_;rcases HR.out with ⟨x,h1,hr⟩|⟨t,b,h1,hr⟩
 ·have HX:=aD (HN.out env (.ok a) _ Y wd h1 vZ.out)
  unfold pk at HX;refine bD 2 (some 9) rfl rfl (by kernel_rfl) (by rfl) (by kernel_rfl) HX.out ?_;rintro e w2 ⟨Y2,hf2,hy2,hk2,rfl⟩;have lG:=aD (mI.out.fr hf2 hy2);have hs2:SS w2:=HS.out _ _ lG.out;refine ⟨_,rfl,hs2,?_⟩;refine aC ?_;have mh:=aD (bF P es env x (.slice none 0 0) (.slice TA p.T.length tc) aK Y2 w2 hk2);have lH:Hid (Fr Y w w2/\ah Y Y2 w):=aD ⟨(Fr.below (au HB.out bM.out)).trans hf2,ah.up hy2 (au HB.out bM.out).size⟩;unfold pk at mh;refine bD 6 (some 13) rfl rfl (by kernel_rfl) (by rfl) (by kernel_rfl) mh.out ?_;rintro e w3 ⟨⟨v3,rfl⟩,hf3,hk3⟩;have lZ:=aD (lG.out.fr hf3 (ah.refl _ _));refine ⟨_,rfl,HS.out _ _ lZ.out,?_⟩;refine aC ?_;refine bG (by kernel_rfl) ?_ _;have c6:=lZ.out.cells.2.2.2.2.2.1
  have HQ:Hid (aY P es env Y r w (.returned (.slice TA p.T.length tc)) w3):=aD (by
   subst hr;exact ⟨Y2,Fr.new lH.out.1 hf3 lH.out.2,lH.out.2,hk3,_,_,_,rfl⟩)
  clear hf2 hy2 hk2 hf3 hk3 hs2 hHeld hsd;go_wp2_with fail;go_ret;exact HQ.out
 ·have HX:=aD (HN.out env (.ok a) _ Y wd h1 vZ.out)
  unfold pk at HX;refine bD 2 (some 9) rfl rfl (by kernel_rfl) (by rfl) (by kernel_rfl) HX.out ?_;rintro e w2 ⟨Y2,hf2,hy2,hk2,A2,c2,rfl,ht2⟩;have lG:=aD (mI.out.fr hf2 hy2);have hs2:SS w2:=HS.out _ _ lG.out;refine ⟨_,rfl,hs2,?_⟩;refine aC ?_;have mh:=aD (fQ P es env b A2 TA c2 tc t p.T aK Y2 w2 hk2 ht2.ty lG.out.T.ty (HD.out.2 _ _ _ _ h1) HD.out.1);have lH:Hid (Fr Y w w2/\ah Y Y2 w):=aD ⟨(Fr.below (au HB.out bM.out)).trans hf2,ah.up hy2 (au HB.out bM.out).size⟩;unfold pk at mh;refine bD 6 (some 13) rfl rfl (by kernel_rfl) (by rfl) (by kernel_rfl) mh.out ?_;rintro e w3 ⟨⟨v3,rfl⟩,hf3,hk3⟩;have lZ:=aD (lG.out.fr hf3 (ah.refl _ _));refine ⟨_,rfl,HS.out _ _ lZ.out,?_⟩;refine aC ?_;refine bG (by kernel_rfl) ?_ _;have c6:=lZ.out.cells.2.2.2.2.2.1
  have HQ:Hid (aY P es env Y r w (.returned (.slice TA p.T.length tc)) w3):=aD (by
   unfold fZ at hk3;by_cases hag:jA t p.T=true
   ·rw [if_pos hag] at hk3 hr
    injection hr with hr
    subst hr;exact ⟨Y2,Fr.new lH.out.1 hf3 lH.out.2,lH.out.2,hk3,_,_,rfl,lZ.out.T⟩
   ·rw [if_neg hag] at hk3 hr
    injection hr with hr
    subst hr;exact ⟨Y2,Fr.new lH.out.1 hf3 lH.out.2,lH.out.2,hk3,_,_,_,rfl⟩)
  clear hf2 hy2 hk2 hf3 hk3 hs2 hHeld hsd ht2 h1 hr;go_wp2_with fail;go_ret;exact HQ.out
end Go.Proofs.YtmjdhfbnmmdjiaaGreat
