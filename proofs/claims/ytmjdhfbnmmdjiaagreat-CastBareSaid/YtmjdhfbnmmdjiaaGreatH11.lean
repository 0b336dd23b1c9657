/- Laid together by a tool from the texts of this seat: GtB GtC RdA ChW TyRead. Conditions: each theorem's own. -/
import Derived.Test.YtmjdhfbnmmdjiaaGreatH10
import Derived.Test.YtmjdhfbnmmdjiaaGreatH09
import Derived.Test.YtmjdhfbnmmdjiaaGreatH01
set_option maxHeartbeats 8000000
set_option maxRecDepth 100000
namespace Go.Proofs.YtmjdhfbnmmdjiaaGreat
open Go.Lib renaming hid->aB
open _root_.ByteArray renaming empty->dQ
open _root_.And renaming intro->DF
open Go.RowKit.Below renaming refl->aI
open Go.Value renaming slice->gq,ownBlock->gQ
open _root_.List renaming length_cons->oG,length_append->lS,append_nil->mO,all_eq_true->qz,mem_cons_self->aag,flatMap_cons->iW,length_drop->xX,drop_drop->oO,drop_eq_getElem_cons->aU,getElem?_eq_getElem->bS,mem_of_getElem?->O8
open _root_.Nat renaming le_refl->aK,zero_add->iO,add_comm->jf,zero_le->cu
section
variable {st:Bool}
theorem GT.open {d:Nat} {t:List Nd} (h:GT st d t):∃f x ks,d=f+1/\t=x::ks/\dP x.k x.n=true/\Qn st x/\x.s=dQ/\GF st f x.k dQ (manyN x) ks:=by
 unfold GT at h;generalize hn:(1:Nat)=n at h;generalize h5:(5:Int)=pk at h
 cases h with
 |nil=>cases hn
 |@cons f _ _ d y ks rs ho hq hl hr h1 h2=>
  have hd:d=0:=by omega
  subst hd h5
  cases h2;refine ⟨f,y,ks,rfl,by rw [mO],ho,hq,?_,h1⟩;simp only [bP] at hl;rw [if_neg (by decide),if_neg (by decide),decide_eq_true_eq] at hl;exact ByteArray.size_eq_zero_iff.1 hl
theorem GT.mk {f:Nat} {x:Nd} {ks:List Nd} (ho:dP x.k x.n=true) (hq:Qn st x) (hs:x.s=dQ) (h:GF st f x.k dQ (manyN x) ks):GT st (f+1) (x::ks):=by
 have:=GF.cons (st:=st) (f:=f) (pk:=5) (last:=dQ) (d:=0) (y:=x) (ks:=ks) (rs:=[]) ho hq (by simp [bP,hs]) (by intro h;simp [bF] at h) h (.nil _ _ _);rw [mO] at this;exact this
theorem GT.mono {d e:Nat} {t:List Nd} (h:GT st d t) (hd:d<=e):GT st e t:=GF.mono h e hd
theorem GT.fo {d:Nat} {t:List Nd} (h:GT st d t):Fo 1 t:=GF.fo h
theorem GT.gd {d:Nat} {t:List Nd} (h:GT st d t) (hl:t.length<=1000000000):Gd t:=by
 obtain ⟨f,x,ks,_,rfl,_,_,hs,_⟩:=h.open;exact ⟨fun y hy=>(GF.all h y hy).1,h.fo,hs,hl⟩
theorem GT.pos {d:Nat} {t:List Nd} (h:GT st d t):1<=t.length:=by
 obtain ⟨f,x,ks,_,rfl,_⟩:=h.open;simp
theorem GT.of {d:Nat} {t:List Nd} (h:zV t=true) (hp:pW t=true) (hs:∀y∈t,y.s.size<=100) (hst:st=true->jI t=true) (hd:t.length<=d):GT st d t:=by
 obtain ⟨ht,hl,x,ys,rfl,hx,hk⟩:=MK h;have h2:=(Pe 100 d 0 _ ht).2 (by omega);obtain ⟨g,y,ks,rest,hg,hd2,hj,hr,ho⟩:=WO _ _ _ h2;rw [List.drop_zero] at hd2
 have hrest:rest=[]:=by
  rw [hd2] at hj;simp at hj;exact List.eq_nil_of_length_eq_zero (by omega)
 subst hrest;rw [mO] at hd2;injection hd2 with e1 e2
 subst e1 e2 hg
 have hq:∀z∈x::ys,Qn st z:=fun z hz=>by
  unfold pW at hp;rw [qz] at hp;have h3:=hp z hz;simp [uT] at h3;refine ⟨h3.1,h3.2,hs z hz,fun e=>?_⟩;have h4:=hst e;unfold jI at h4;rw [qz] at h4;simpa using h4 z hz
 exact GT.mk ho (hq x (by simp)) hx (GF.akR hr fun z hz=>hq z (by simp [hz]))
theorem GT.arrow {d:Nat} {a b:List Nd} (ha:GT st d a) (hb:GT st d b):GT st (d+1) (aR a b):=by
 have h:=GF.append (by decide) ha hb;exact GT.mk (x:=⟨5,dQ,0⟩) (by decide) ⟨by simp,by simp,by simp,by simp⟩ rfl h
theorem GT.leaf {k:Int} (h:1<=k/\k<=4) {d:Nat} (hd:1<=d):GT st d [⟨k,dQ,0⟩]:=by
 refine GT.mono (d:=1) (GT.mk (x:=⟨k,dQ,0⟩) ?_ ⟨by simp;omega,by simp;omega,by simp,fun _=>by simp;omega⟩ rfl ?_) hd
 ·have:k=1\/k=2\/k=3\/k=4:=by omega
  rcases this with rfl|rfl|rfl|rfl<;>decide
 ·have:manyN ⟨k,dQ,0⟩=0:=by
   have:k=1\/k=2\/k=3\/k=4:=by omega
   rcases this with rfl|rfl|rfl|rfl<;>rfl
  rw [this];exact .nil _ _ _
theorem GT.dyn {d:Nat} (hs:st=false) (hd:1<=d):GT st d xZ:=by
 subst hs;exact GT.mono (d:=1) (GT.mk (x:=⟨0,dQ,0⟩) (by decide) ⟨by simp,by simp,by simp,by simp⟩ rfl (.nil _ _ _)) hd
theorem GT.Sk {d:Nat} {t:List Nd} (h:GT st d t) (h0:(aD t).k=0):GT st d xZ:=by
 obtain ⟨f,x,ks,rfl,rfl,_,hq,_⟩:=h.open
 cases st with
 |false=>exact GT.dyn rfl (by omega)
 |true=>exact absurd h0 (hq.2.2.2 rfl)
theorem GT.call {d:Nat} {t a b:List Nd} (h:GT st d t) (hc:iP t=some (a,b)):GT st d a/\GT st d b/\a.length<=t.length/\b.length<=t.length:=by
 have hp:=h.pos;unfold iP at hc;by_cases h0:(aD t).k=0
 ·rw [if_pos h0] at hc
  injection hc with hc
  injection hc with e1 e2
  subst e1 e2;exact ⟨h.Sk h0,h.Sk h0,hp,hp⟩
 rw [if_neg h0] at hc;by_cases h5:(aD t).k=5
 ·rw [if_pos h5] at hc
  obtain ⟨f,x,ks,rfl,rfl,ho,hq,hs,hk⟩:=h.open;have h5:x.k=5:=h5;have hm:manyN x=2:=by unfold manyN many;rw [if_pos h5];rfl
  have hsp:=hk.kid;rw [hm] at hsp
  have e:aW (x::ks)=[ks.take (ks.length-(bV ks).length),(bV ks).take ((bV ks).length-(bV (bV ks)).length)]:=by
   simp only [aW,hm,bA]
  rw [e] at hc;simp only [List.headD_cons,List.tail_cons,Option.some.injEq,Prod.mk.injEq] at hc;obtain ⟨e1,e2⟩:=hc;subst e1 e2;obtain ⟨a1,a2,_⟩:=hsp _ (by simp only [bA];exact aag ..);obtain ⟨b1,b2,_⟩:=hsp ((bV ks).take ((bV ks).length-(bV (bV ks)).length)) (by simp only [bA];exact List.mem_cons_of_mem _ (aag ..));refine ⟨a1.mono (by omega),b1.mono (by omega),?_,?_⟩<;>rw [gF]<;>simp only [oG]<;>omega
 ·rw [if_neg h5] at hc
  cases hc
theorem GT.field {d:Nat} {t u:List Nd} {s:ByteArray} (h:GT st d t) (hc:bG t s=some u):GT st d u/\u.length<=t.length:=by
 have hp:=h.pos;unfold bG at hc;by_cases h0:(aD t).k=0
 ·rw [if_pos h0] at hc
  injection hc with e1
  subst e1;exact ⟨h.Sk h0,hp⟩
 rw [if_neg h0] at hc;split at hc
 ·obtain ⟨f,x,ks,rfl,rfl,ho,hq,hs,hk⟩:=h.open
  rw [Option.map_eq_some_iff] at hc;obtain ⟨ts,h1,rfl⟩:=hc;obtain ⟨a1,a2,_⟩:=hk.kid ts (List.mem_of_find?_eq_some h1);refine ⟨a1.mono (by omega),?_⟩;rw [gF];simp only [oG];omega
 ·cases hc
theorem GZ {t:List Nd} {l:List ByteArray} {s:ByteArray} (ht:kN t=some l) (h:(aD t).k=0\/s∈l):∃u,bG t s=some u:=by
 unfold kN at ht;unfold bG;by_cases h0:(aD t).k=0
 ·rw [if_pos h0]
  exact ⟨_,rfl⟩
 rw [if_neg h0] at ht ⊢;split at ht
 ·rename_i h7
  have hr:bF (aD t).k=true:=by rw [h7];rfl
  rw [if_pos hr];injection ht with ht
  subst ht;rcases h with h|h
  ·exact absurd h h0
  obtain ⟨ts,h1,h2⟩:=List.mem_map.1 h
  cases hf:(aW t).find? fun ts=>(aD ts).s.toList==s.toList with
  |some u=>exact ⟨_,rfl⟩
  |none=>
   have:=List.find?_eq_none.1 hf ts h1;rw [h2] at this;simp at this
 ·cases ht
theorem GF.row {d:Nat}:∀(fs:List fB) (last:ByteArray),(∀p∈fs,GT st d p.2/\bP 6 p.1=true/\p.1.size<=100)->(∀p∈fs,kU last p.1=true)->fs.Pairwise (fun a b=>kU a.1 b.1=true)->
  GF st d 6 last fs.length (fs.flatMap fun p=>g_ p.1 p.2):=by
 intro fs
 induction fs with
 |nil=>intro last _ _ _;exact .nil _ _ _
 |cons p fs ih=>
  intro last h1 h2 h3;obtain ⟨hg,hl,hsz⟩:=h1 p (by simp);rw [List.pairwise_cons] at h3;have:=ih p.1 (fun q hq=>h1 q (by simp [hq])) (fun q hq=>h3.1 q hq) h3.2;obtain ⟨f,x,ks,rfl,hp2,ho,hq,hs,hk⟩:=hg.open
  have e:(p::fs).flatMap (fun p=>g_ p.1 p.2)=x.name p.1::(ks++fs.flatMap fun p=>g_ p.1 p.2):=by
   rw [iW,hp2];rfl
  rw [e];exact .cons ho ⟨hq.1,hq.2.1,hsz,hq.2.2.2⟩ hl (fun _=>h2 p (by simp)) hk this
theorem K6:∀(fs:List fB),(fs.flatMap fun p=>g_ p.1 p.2).length=(fs.map fun p=>p.2.length).sum:=by
 intro fs
 induction fs with
 |nil=>rfl
 |cons p fs ih=>
  rw [iW,lS,ih,List.map_cons,List.sum_cons]
  cases p.2<;>rfl
theorem GT.row {d:Nat} (_hd:1<=d) (fs:List fB) (h1:∀p∈fs,GT st d p.2/\bP 6 p.1=true/\p.1.size<=100) (hn:(fs.map (·.1)).Nodup) (hl:fs.length<=50):
  GT st (d+1) (d_ 6 fs)/\(d_ 6 fs).length=1+(fs.map fun p=>p.2.length).sum:=by
 have hd2:fs.Pairwise fun a b=>a.1≠b.1:=by
  unfold List.Nodup at hn;rw [List.pairwise_map] at hn;exact hn
 obtain ⟨hp,hs⟩:=GV fs [] (by simpa using hd2) List.Pairwise.nil;rw [List.nil_append] at hp;change (pE fs).Perm fs at hp;change (pE fs).Pairwise _ at hs;have hlen:=hp.length_eq
 have hg:=GF.row (st:=st) (d:=d) (pE fs) dQ (fun p hpp=>h1 p (hp.subset hpp)) (fun p hpp=>by
  have:=tO (k:=6) (by decide) (h1 p (hp.subset hpp)).2.1;unfold kU;rw [lq,decide_eq_true_eq]
  cases hx:p.1.toList with
  |nil=>exact absurd hx this
  |cons a l=>rw [show dQ.toList=([]:List UInt8) from by simp];exact List.nil_lt_cons a l) hs
 rw [hlen] at hg;refine ⟨?_,?_⟩
 ·refine GT.mk (x:=⟨6,dQ,(fs.length:Int)⟩) ?_ ⟨by simp,by simp,by simp,by simp⟩ rfl ?_
  ·simp [dP]
   omega
  ·have:manyN ⟨6,dQ,(fs.length:Int)⟩=fs.length:=by
    unfold manyN many;rw [if_neg (by simp),if_pos (by rfl)];simp
   rw [this];exact hg
 ·unfold d_
  rw [oG,K6,List.Perm.sum_nat (hp.map fun p=>p.2.length),jf]
end
def lI:List Pt->Nat->Nat->Nat
 |_,0,p=>p
 |[],_+1,p=>p
 |x::xs,n+1,p=>lI xs (n+aL x) (p+1)
def eD (es:List Pt):Nat->Nat->List Nat
 |0,_=>[]
 |n+1,a=>if a<es.length then a::eD es n (lI (es.drop a) 1 a) else []
def EA (es:List Pt) (n a b:Nat):Prop:=fM (es.drop a) n a=some b
theorem rQ:∀(xs:List Pt) (n p b:Nat),fM xs n p=some b->p+n<=b+0/\b<=p+xs.length
 |[],0,p,b,h=>by simp [fM] at h;subst h;simp
 |_::_,0,p,b,h=>by simp [fM] at h;subst h;simp
 |[],n+1,p,b,h=>by simp [fM] at h
 |x::xs,n+1,p,b,h=>by
  simp only [fM] at h;have:=rQ xs _ _ _ h;simp only [oG];omega
theorem Fh:∀(xs:List Pt) (m n p b:Nat),fM xs (m+n) p=some b->∃c,fM xs m p=some c/\fM (xs.drop (c-p)) n c=some b
 |[],0,n,p,b,h=>⟨p,rfl,by rw [iO] at h;simpa using h⟩
 |x::xs,0,n,p,b,h=>⟨p,by simp [fM],by rw [iO] at h;simpa using h⟩
 |[],m+1,n,p,b,h=>by rw [show m+1+n=(m+n)+1 from by omega] at h;simp [fM] at h
 |x::xs,m+1,n,p,b,h=>by
  rw [show m+1+n=(m+n)+1 from by omega] at h;simp only [fM] at h;rw [show m+n+aL x=(m+aL x)+n from by omega] at h;obtain ⟨c,h1,h2⟩:=Fh xs (m+aL x) n (p+1) b h;have h3:=rQ _ _ _ _ h1;refine ⟨c,by simpa [fM] using h1,?_⟩;obtain ⟨d,hd⟩:∃d,c-p=d+1:=⟨c-p-1,by omega⟩;rw [hd,List.drop_succ_cons,show d=c-(p+1) from by omega];exact h2
theorem G_:∀(xs:List Pt) (m n p b c:Nat),fM xs m p=some c->fM (xs.drop (c-p)) n c=some b->fM xs (m+n) p=some b
 |xs,0,n,p,b,c,h,h2=>by
  have:c=p:=by cases xs<;>simp [fM] at h<;>exact h.symm
  subst this
  simpa using h2
 |[],m+1,n,p,b,c,h,_=>by simp [fM] at h
 |x::xs,m+1,n,p,b,c,h,h2=>by
  simp only [fM] at h;have h3:=rQ _ _ _ _ h;rw [show m+1+n=(m+n)+1 from by omega];simp only [fM];rw [show m+n+aL x=(m+aL x)+n from by omega];refine G_ xs _ n (p+1) b c h ?_;obtain ⟨d,hd⟩:∃d,c-p=d+1:=⟨c-p-1,by omega⟩;rw [hd,List.drop_succ_cons,show d=c-(p+1) from by omega] at h2;exact h2
theorem oN:∀(xs:List Pt) (n p b:Nat),fM xs n p=some b->lI xs n p=b
 |[],0,p,b,h=>by simpa [fM,lI] using h
 |_::_,0,p,b,h=>by simpa [fM,lI] using h
 |[],n+1,p,b,h=>by simp [fM] at h
 |x::xs,n+1,p,b,h=>by
  simp only [fM] at h;simp only [lI];exact oN xs _ _ _ h
theorem EA.lt {es:List Pt} {n a b:Nat} (h:EA es n a b):a+n<=b/\b<=a+(es.length-a):=by
 have:=rQ _ _ _ _ h;rw [xX] at this;omega
theorem EA.zero {es:List Pt} {a b:Nat} (h:EA es 0 a b):b=a:=by
 unfold EA at h
 cases hx:es.drop a<;>rw [hx] at h<;>simp [fM] at h<;>exact h.symm
theorem EA.split {es:List Pt} {n a b:Nat} (h:EA es (n+1) a b):∃c,EA es 1 a c/\EA es n c b:=by
 unfold EA at h;rw [jf] at h;obtain ⟨c,h1,h2⟩:=Fh _ _ _ _ _ h;have h3:=rQ _ _ _ _ h1;refine ⟨c,h1,?_⟩;rw [oO,show a+(c-a)=c from by omega] at h2;exact h2
theorem EA.join {es:List Pt} {n a b c:Nat} (h:EA es 1 a c) (k:EA es n c b):EA es (n+1) a b:=by
 have h3:=rQ _ _ _ _ h;unfold EA;rw [jf];refine G_ _ _ _ _ _ c h ?_;rw [oO,show a+(c-a)=c from by omega];exact k
theorem Zw {es:List Pt} {a:Nat} {p:Pt} (hp:es[a]?=some p):es.drop a=p::es.drop (a+1):=by
 rw [aU (aP hp),(List.getElem?_eq_some_iff.1 hp).2]
theorem EA.open {es:List Pt} {a b:Nat} (h:EA es 1 a b):∃p,es[a]?=some p/\EA es (aL p) (a+1) b:=by
 have h2:=h.lt;have ha:a<es.length:=by omega
 refine ⟨es[a],bS ha,?_⟩;unfold EA at h;rw [aU ha] at h;simp only [fM,iO] at h;exact h
theorem EA.close {es:List Pt} {a b:Nat} {p:Pt} (hp:es[a]?=some p) (h:EA es (aL p) (a+1) b):EA es 1 a b:=by
 unfold EA;rw [Zw hp];simp only [fM,iO];exact h
theorem yU {es:List Pt} {a0:Nat} (ih:∀i,a0<=i->i<es.length->∃b,EA es 1 i b):∀(n a:Nat),a0<=a->(eD es n a).length=n->bZ es n a=some (eD es n a)/\∃b,EA es n a b
 |0,a,_,_=>⟨rfl,a,by unfold EA;cases es.drop a<;>rfl⟩
 |n+1,a,ha,h=>by
  unfold eD at h ⊢;by_cases hl:a<es.length
  ·rw [if_pos hl] at h ⊢
   obtain ⟨c,hc⟩:=ih a ha hl;have h2:=hc.lt;have hr:lI (es.drop a) 1 a=c:=oN _ _ _ _ hc;rw [hr] at h ⊢;simp only [oG] at h;obtain ⟨k1,b,k2⟩:=yU ih n c (by omega) (by omega);refine ⟨?_,b,hc.join k2⟩;unfold bZ;unfold EA at hc;rw [hc];simp only;rw [k1];rfl
  ·rw [if_neg hl] at h
   simp at h
theorem Ho {es:List Pt} (h:∀i p,es[i]?=some p->(eD es (aL p) (i+1)).length=aL p):∀(n i:Nat),es.length-i<=n->i<es.length->∃b,EA es 1 i b
 |0,i,h1,h2=>by omega
 |n+1,i,h1,h2=>by
  have hp:es[i]?=some es[i]:=bS h2;obtain ⟨_,b,hb⟩:=yU (a0:=i+1) (fun j hj hl=>Ho h n j (by omega) hl) (aL es[i]) (i+1) (aK _) (h i _ hp);exact ⟨b,EA.close hp hb⟩
structure AX (es:List Pt) (p:Pt) (l:List Nat):Prop where
 len:l.length=aL p
 kind:∀(k a:Nat) (x:Pt),l[k]?=some a->es[a]?=some x->((x.k=8)↔(p.k=7/\0<k))
 word:∀(k a:Nat) (x:Pt),l[k]?=some a->es[a]?=some x->p.k=10->oJ x.lb=true
 tag:∀(k a:Nat) (x:Pt),l[k]?=some a->es[a]?=some x->p.k=7->0<k->uU x.lb=true
 none:∀(k a:Nat) (x:Pt),l[k]?=some a->es[a]?=some x->p.k≠10->¬(p.k=7/\0<k)->x.lb=dQ
 diff:∀(j k a b:Nat) (x y:Pt),j<k->l[j]?=some a->l[k]?=some b->es[a]?=some x->es[b]?=some y->y.lb≠dQ->x.lb≠y.lb
open Go.RowKit
theorem u_ (p:Pt) (TA:Option Addr) (tn tc:Nat) (UA:Option Addr) (un uc:Nat) (w:World) (hk:0<=p.k/\p.k<=14) (hm:0<=p.mn/\p.mn<=50):
  Calls Tryz.prog 38 #[yT p TA tn tc UA un uc] w fun e w'=>e= .returned (.int .i64 (aL p:Int))/\Below w.heap.size w w':=by
 have hcs:p.k=0\/p.k=1\/p.k=2\/p.k=3\/p.k=4\/p.k=5\/p.k=6\/p.k=7\/p.k=8\/p.k=9\/p.k=10\/p.k=11\/p.k=12\/p.k=13\/p.k=14:=by omega
 obtain ⟨k,lb,nm,bd,mn,num,T,U⟩:=p;dsimp only at hk hm hcs;obtain ⟨mx,hmx⟩:∃mx:Int,mx=max mn 0:=⟨_,rfl⟩;have hmm:mx=mn:=by omega
 unfold yT;rcases hcs with rfl|rfl|rfl|rfl|rfl|rfl|rfl|rfl|rfl|rfl|rfl|rfl|rfl|rfl|rfl
 all_goals
  go_enter Tryz.func38,Tryz.ntmps38;go_wp2_with fail;go_ret;refine ⟨kZ ?_,au (aI _ _) _⟩;simp [aL]
  try omega
theorem Sl {es:List Pt} {k n:Nat} {x:Pt} (hx:es[k]?=some x):lI (es.drop k) (n+1) k=lI (es.drop (k+1)) (n+aL x) (k+1):=by
 rw [Zw hx];rfl
theorem Hq:∀(xs:List Pt) (n p:Nat),lI xs n p<=p+xs.length
 |[],0,p=>by simp [lI]
 |[],n+1,p=>by simp [lI]
 |_::_,0,p=>by simp [lI]
 |x::xs,n+1,p=>by
  simp only [lI,oG];have:=Hq xs (n+aL x) (p+1);omega
theorem WQ {es:List Pt} {k n:Nat} (h:es.length<=k) (hk:k<=es.length):lI (es.drop k) n k=es.length:=by
 rw [List.drop_of_length_le h]
 cases n<;>simp [lI]<;>omega
theorem BG (Y:Nat->Prop) (A:Option Addr) (c:Nat) (es:List Pt) (i:Nat) (w:World) (hx:kF w Y A es) (hl:es.length<=1000000) (hok:dN es) (hi:i<es.length):
  Calls Tryz.prog 23 #[.slice A es.length c,.int .i64 (i:Int)] w fun e w'=>e= .returned (.int .i64 (lI (es.drop i) 1 i:Nat))/\Below w.heap.size w w':=by
 have H:=aB (DF hx hok);have h0':(0:Int)<=(i:Int):=by omega
 have h1':(i:Int)<(es.length:Int):=by omega
 have hd0:decide ((i:Int)<0)=false:=by simp
 have hd1:decide (es.length<=i)=false:=by simp;omega
 clear hx hok;go_enter Tryz.func23,Tryz.ntmps23;go_wp2_with fail
 go_loopw [5,6] (fun o5 i6 wr=>∃(q n:Nat),o5= .int .i64 ((n+1:Nat):Int)/\i6= .int .i64 q/\i<=q/\q<=es.length/\n<=51*q/\Hid (lI (es.drop q) (n+1) q=lI (es.drop i) 1 i/\Below w.heap.size w wr))
  (fun _ i6 _=>es.length-(Lib.intOf i6).toNat)
 case atStart=>exact ⟨i,0,rfl,rfl,by omega,by omega,by omega,aB ⟨rfl,aI _ _⟩⟩
 case round=>
  obtain ⟨q,n,rfl,rfl,hiq,hq,hn,HI⟩:=hrel;by_cases hlt:q<es.length
  ·obtain ⟨x,hx⟩:=aJ hlt
   have hst:=Sl (n:=n) hx;have hxo:=H.out.2 x (O8 hx);have uf:=nJ hxo.2;obtain ⟨eb,eo,rfl,hb,hy,⟨TA,tc,UA,uc,_,_,c0,c1,c2,c3,c4,c5,c6,c7⟩,_⟩:=(H.out.1.fr (Fr.below HI.out.2:Fr Y w wr) fun q hq=>.inl hq) q x hx;have HM:=aB (fun v (hv:Below w.heap.size w v)=>u_ x TA x.T.length tc UA x.U.length uc v hxo.1 hxo.2);have HS:=aB hst;unfold yT at HM;clear hx hst hxo;obtain ⟨M,hM⟩:∃M,M=aL x:=⟨_,rfl⟩;rw [<-hM] at HM HS uf;clear hM;by_cases hz:n+M=0
   ·have hn0:n=0:=by omega
    have hM0:M=0:=by omega
    subst hn0 hM0
    have HS2:Hid (lI (es.drop i) 1 i=q+1):=aB (by
     rw [<-HI.out.1,HS.out]
     cases es.drop (q+1)<;>rfl)
    go_wp2_with fail;refine (HM.out _ HI.out.2).mono ?_;rintro e w1 ⟨rfl,hb1⟩;have HB1:=aB (ah HI.out.2 hb1);clear hb1 c0 c1 c2 c3 c4 c5 c6 c7;go_wp2_with fail;go_ret;exact ⟨kZ (by rw [HS2.out];rfl),HB1.out⟩
   ·obtain ⟨m,hm⟩:∃m,n+M=m+1:=⟨n+M-1,by omega⟩
    have hzb:((n:Int)+1-1+(M:Int)==0)=false:=by simp;omega
    have hzc:(((n+1:Nat):Int)-1+(M:Int)==0)=false:=by simp;omega
    have HZ:=aB hz;clear hz;go_wp2_with fail;refine (HM.out _ HI.out.2).mono ?_;rintro e w1 ⟨rfl,hb1⟩;have HB1:=aB (ah HI.out.2 hb1);clear hb1 c0 c1 c2 c3 c4 c5 c6 c7;go_wp2_with fail;go_roundw
    case rel=>exact ⟨q+1,m,by go_num,by go_num,by omega,by omega,by omega,aB ⟨by rw [<-hm,<-HS.out,HI.out.1],HB1.out⟩⟩
    case measure=>simp [Lib.intOf];omega
  ·have HS2:Hid (lI (es.drop i) 1 i=es.length):=aB (by rw [<-HI.out.1,WQ (by omega) hq])
   go_wp2_with fail;go_ret;exact ⟨kZ (by rw [HS2.out]),HI.out.2⟩
theorem lX (Y:Nat->Prop) (A:Option Addr) (c:Nat) (es:List Pt) (i:Nat) (p:Pt) (w:World) (hx:kF w Y A es) (hl:es.length<=1000000) (hok:dN es) (hp:es[i]?=some p):
  Calls Tryz.prog 27 #[.slice A es.length c,.int .i64 (i:Int)] w fun e w'=>∃A' cap',e= .returned (.slice A' (cB (eD es (aL p) (i+1))).length cap')/\eX w' w.heap.size A' cap' (cB (eD es (aL p) (i+1)))/\Below w.heap.size w w':=by
 have hi:=aP hp;have H:=aB (DF hx hok);have hxo:=hok p (O8 hp);have uf:=nJ hxo.2;have hown0:=gL 3 1 encI w;have hb0:=au (aI w.heap.size w) (.cells #[] 3);obtain ⟨eb,eo,rfl,hb,hy,⟨TA,tc,UA,uc,_,_,c0,c1,c2,c3,c4,c5,c6,c7⟩,_⟩:=hx i p hp;have HM:=aB (fun v=>u_ p TA p.T.length tc UA p.U.length uc v hxo.1 hxo.2);have HC:=aB (fun v (hv:Below w.heap.size w v)=>DF ((hv.cell (p:=⟨eb,eo+i*8,none⟩) hb).trans c0) (DF ((hv.cell (p:=⟨eb,eo+i*8+1,none⟩) hb).trans c1) (DF ((hv.cell (p:=⟨eb,eo+i*8+2,none⟩) hb).trans c2) (DF ((hv.cell (p:=⟨eb,eo+i*8+3,none⟩) hb).trans c3) (DF ((hv.cell (p:=⟨eb,eo+i*8+4,none⟩) hb).trans c4) (DF ((hv.cell (p:=⟨eb,eo+i*8+5,none⟩) hb).trans c5) (DF ((hv.cell (p:=⟨eb,eo+i*8+6,none⟩) hb).trans c6) ((hv.cell (p:=⟨eb,eo+i*8+7,none⟩) hb).trans c7))))))));unfold yT at HM;have h0':(0:Int)<=(i:Int):=by omega
 have h1':(i:Int)<(es.length:Int):=by omega
 have hd0:decide ((i:Int)<0)=false:=by simp
 have hd1:decide (es.length<=i)=false:=by simp;omega
 obtain ⟨M,hM⟩:∃M,M=aL p:=⟨_,rfl⟩;rw [<-hM] at HM uf ⊢;clear hx hok hxo hp hM c0 c1 c2 c3 c4 c5 c6 c7 hy;go_enter Tryz.func27,Tryz.ntmps27;go_wp2_with fail
 go_loopw [5,6,7] (fun o5 i6 k7 wr=>∃(k at_:Nat) (A':Option Addr) (cap':Nat) (l:List Int),o5= .slice A' l.length cap'/\i6= .int .i64 at_/\k7= .int .i64 k/\k<=M/\at_<=es.length/\l.length<=k/\
   Hid (eX wr w.heap.size A' cap' l/\Below w.heap.size w wr/\l++cB (eD es (M-k) at_)=cB (eD es M (i+1))))
  (fun _ _ k7 _=>M-(Lib.intOf k7).toNat)
 case atStart=>exact ⟨0,i+1,_,_,[],rfl,rfl,rfl,cu _,hi,aK _,aB ⟨hown0,hb0,rfl⟩⟩
 case round=>
  obtain ⟨k,at_,A',cap',l,rfl,rfl,rfl,hkM,adL,hlk,HI⟩:=hrel;obtain ⟨c0,c1,c2,c3,c4,c5,c6,c7⟩:=HC.out wr HI.out.2.1;by_cases hlt:k<M
  ·by_cases hp:at_<es.length
   ·obtain ⟨d,hd'⟩:∃d,M-k=d+1:=⟨M-k-1,by omega⟩
    have dX:Hid ((l++[(at_:Int)])++cB (eD es d (lI (es.drop at_) 1 at_))=cB (eD es M (i+1))):=aB (by
     rw [<-HI.out.2.2,hd'];simp only [eD,if_pos hp];simp [cB])
    have Hd':=aB hd';have hle:=Hq (es.drop at_) 1 at_;rw [xX] at hle;clear hd';go_wp2_with fail;refine (HM.out _).mono ?_;rintro e w1 ⟨rfl,hbx⟩;have hown1:=ay.below HI.out.1 hbx (aK _);have jD:=ah HI.out.2.1 hbx;have z1:=jD.size;clear c0 c1 c2 c3 c4 c5 c6 c7;go_wp2_with (at_builtin;refine sK rfl (.tmp 35) (.tmp 37) rfl w.heap.size (l:=l) rfl (ay.alloc hown1 _) (l2:=[(at_:Int)]) rfl (wW _ _) (by simp;omega) (by simp;omega) ?_;intro A2 cap2 w3 hown3 hg3 _);have dH:=iB (au jD _) hg3 (fun k hk=>(ay.block hown1 k hk).1);refine (BG Y _ c es at_ _ (H.out.1.fr (Fr.below dH:Fr Y w _) fun q hq=>.inl hq) hl H.out.2 hp).mono ?_;rintro e w4 ⟨rfl,hb4⟩;have yH:=ay.below hown3 hb4 (aK _);go_wp2_with fail;go_roundw
    case rel=>exact ⟨k+1,_,_,_,l++[(at_:Int)],by simp,rfl,by go_num,by omega,by omega,by simp;omega,aB ⟨yH,ah dH hb4,by rw [<-dX.out,show M-(k+1)=d by have:=Hd'.out;omega]⟩⟩
    case measure=>simp [Lib.intOf];omega
   ·have HO:Hid (l=cB (eD es M (i+1))/\eX wr w.heap.size A' cap' l/\Below w.heap.size w wr):=aB (by
     obtain ⟨d,hd'⟩:∃d,M-k=d+1:=⟨M-k-1,by omega⟩;have:=HI.out.2.2;rw [hd'] at this;simp only [eD,if_neg hp] at this;exact ⟨by simpa [cB] using this,HI.out.1,HI.out.2.1⟩)
    go_wp2_with fail;refine (HM.out _).mono ?_;rintro e w1 ⟨rfl,hbx⟩;clear c0 c1 c2 c3 c4 c5 c6 c7;go_wp2_with fail;go_ret;rw [<-HO.out.1];exact ⟨_,_,rfl,ay.below HO.out.2.1 hbx (aK _),ah HO.out.2.2 hbx⟩
  ·have HO:Hid (l=cB (eD es M (i+1))/\eX wr w.heap.size A' cap' l/\Below w.heap.size w wr):=aB (by
    have:=HI.out.2.2;rw [show M-k=0 by omega] at this;exact ⟨by simpa [cB,eD] using this,HI.out.1,HI.out.2.1⟩)
   go_wp2_with fail;refine (HM.out _).mono ?_;rintro e w1 ⟨rfl,hbx⟩;clear c0 c1 c2 c3 c4 c5 c6 c7;go_wp2_with fail;go_ret;rw [<-HO.out.1];exact ⟨_,_,rfl,ay.below HO.out.2.1 hbx (aK _),ah HO.out.2.2 hbx⟩
def qC:Am->Bool
 | .ok _=>true
 | .error _=>false
theorem Zx:∀{s:Am} {a:Nat} {p e:Int},ad3 s a p e->(e==0)=qC s
 | .ok n,a,p,e,h=>by simp [qC,h.2.2]
 | .error (q,f),a,p,e,h=>by
  have h1:=h.2.1;have h2:=h.2.2;subst h1;simp [qC,h2]
theorem jg (P:Nat) (es:List Pt) (env:Env) (s:Am) (Y:Nat->Prop) (w:World) (h:bf P es env s Y w):
  Calls Tryz.prog 45 #[pk P] w fun e w'=>e= .returned (.bool (qC s))/\Below w.heap.size w w':=by
 obtain ⟨a,p,e,⟨EA,ec,VA,vc,bs,hm⟩,hr⟩:=h;have HE:Hid ((e==0)=qC s):=aB (Zx hr);obtain ⟨_,_,_,_,c4⟩:=hm.cells;clear hm hr;unfold pk;go_enter Tryz.func45,Tryz.ntmps45;go_wp2_with fail;go_ret;exact ⟨by rw [HE.out];rfl,aI _ _⟩
def D9 (b:Bool) (aN:Nat) (f:Int):Am->Am
 | .ok a=>if b=true then .ok a else .error (aN,f)
 | .error x=>.error x
def BH (P:Nat) (es:List Pt) (env:Env) (Y:Nat->Prop) (s:Am) (w:World) (e:Ending) (w':World):Prop:=
 (∃v,e= .returned v)/\Fr Y w w'/\bf P es env s Y w'
theorem jB (P:Nat) (es:List Pt) (env:Env) (s:Am) (b:Bool) (aN:Nat) (f:Int) (Y:Nat->Prop) (w:World) (hf:f≠0\/b=true) (h:bf P es env s Y w):
  Calls Tryz.prog 96 #[pk P,.bool b,.int .i64 aN,.int .i64 f] w (BH P es env Y (D9 b aN f s) w):=by
 have H:=aB h;have HO:=aB (fun v (hv:Below w.heap.size w v)=>jg P es env s Y v (h.later hv));unfold pk at*;clear h;go_enter Tryz.func96,Tryz.ntmps96
 cases b with
 |true=>
  go_wp2_with fail;go_end0;refine ⟨⟨_,rfl⟩,Fr.refl _ _,?_⟩
  cases s<;>exact H.out
 |false=>
  go_wp2_with fail;refine (HO.out _ (aI _ _)).mono ?_;rintro e w1 ⟨rfl,hb1⟩
  cases s with
  |error x=>
   have HB:=aB hb1;clear hb1;simp only [qC];go_wp2_with fail;go_end0
   exact ⟨⟨_,rfl⟩,Fr.below HB.out,H.out.later HB.out⟩
  |ok a=>
   obtain ⟨a',p,e,⟨EA,ec,VA,vc,bs,hm⟩,ha,hp,he⟩:=H.out.later hb1;subst ha hp he;obtain ⟨_,_,_,c3,c4⟩:=hm.cells;have f3:=hm.frozen 3 (by omega);have f4:=hm.frozen 4 (by omega);have HM:=aB hm;have HB:=aB hb1;clear hm hb1;simp only [qC];go_wp2_with fail;obtain ⟨w2,hw2⟩:∃w2,w2=(w1.setCell ⟨P,3,none⟩ (.int .i64 (aN:Int))).setCell ⟨P,4,none⟩ (.int .i64 f):=⟨_,rfl⟩
   have HP:Hid (rP P es env a' (aN:Int) f EA ec VA vc bs Y w2/\Fr Y w1 w2):=aB (by
    refine HM.out.put ?_ ?_
    ·rw [hw2,heap_set (heap_set HM.out.blk 3 _) 4]
     rfl
    ·rw [hw2]
     exact (dZ _ _ _ _).trans (dZ _ _ _ _))
   rw [<-hw2];clear hw2;go_end0
   have h0:f≠0:=by
    rcases hf with h|h
    ·exact h
    ·cases h
   exact ⟨⟨_,rfl⟩,(Fr.below HB.out).trans HP.out.2,a',aN,f,⟨EA,ec,VA,vc,bs,HP.out.1⟩,rfl,rfl,h0⟩
theorem gy (P:Nat) (es:List Pt) (env:Env) (x:Nat×Int) (v1 v2:Value) (aN:Nat) (Y:Nat->Prop) (w:World) (h:bf P es env (.error x) Y w):
  Calls Tryz.prog 99 #[pk P,v1,v2,.int .i64 aN] w (BH P es env Y (.error x) w):=by
 have H:=aB h;have HO:=aB (jg P es env _ Y w h);simp only [qC] at HO;unfold pk at*;clear h;go_enter Tryz.func99,Tryz.ntmps99;go_wp2_with fail;refine HO.out.mono ?_;rintro e w1 ⟨rfl,hb1⟩;have HB:=aB hb1;clear hb1;go_wp2_with fail;go_end0;exact ⟨⟨_,rfl⟩,Fr.below HB.out,H.out.later HB.out⟩
theorem nK (P:Nat) (es:List Pt) (env:Env) (a:Nat) (A B:Option Addr) (c d:Nat) (t u:List Nd) (aN:Nat) (Y:Nat->Prop) (w:World) (h:bf P es env (.ok a) Y w) (ht:uO w Y A t) (hu:uO w Y B u) (gt:Gd t) (gu:Gd u):
  Calls Tryz.prog 99 #[pk P,.slice A t.length c,.slice B u.length d,.int .i64 aN] w (BH P es env Y (og t u aN a) w):=by
 have H:=aB h;have HO:=aB (jg P es env _ Y w h);have HA:=aB (fun v (hv:Below w.heap.size w v)=>R5 A B c d t u v (((ht.fr (Fr.below hv) fun q hq=>.inl hq)).eY) ((hu.fr (Fr.below hv) fun q hq=>.inl hq).eY) gt gu);have HM:=aB (fun v (hv:Below w.heap.size w v)=>jB P es env (.ok a) (jR t u) aN 9 Y v (.inl (by decide)) (h.later hv));simp only [qC] at HO;unfold pk at*;clear h ht hu gt gu;go_enter Tryz.func99,Tryz.ntmps99;go_wp2_with fail;refine HO.out.mono ?_;rintro e w1 ⟨rfl,hb1⟩;have HB1:=aB hb1;clear hb1;go_wp2_with fail;refine (HA.out _ HB1.out).mono ?_;rintro e w2 ⟨rfl,hb2⟩;have HB2:=aB (ah HB1.out hb2);clear hb2;go_wp2_with fail;refine (HM.out _ HB2.out).mono ?_;rintro e w3 ⟨⟨v,rfl⟩,hf,hk⟩;have HP:Hid (Fr Y w w3/\bf P es env (og t u aN a) Y w3):=aB ⟨(Fr.below HB2.out).trans hf,hk⟩;clear hf hk;go_wp2_with fail;go_end0;exact ⟨⟨_,rfl⟩,HP.out.1,HP.out.2⟩
theorem afz:(Tryz.prog.info? 36).map (fun i=>(i.zero,i.size,i.bytes))=some (some (.agg #[.string dQ,.slice none 0 0]),2,40):=by kernel_rfl
section
variable {w:World} {ops:Array Oper} {rest:List Oper} {o:Oper} {a:Act} {Q:Exit->Act->World->Prop}
theorem xB (hgd:o.guard=none) (s x:Operand)
  (ho:o.op= .call {callee:=.builtin .append,args:=#[s,x],argTypes:=#[22,22]})
  (base:Nat) {A:Option Addr} {cap m n:Nat} {l:List Bn} (hm:l.length=m) (hs:a.eval s= .slice A m cap) (hown:CK w base A cap l) {B:Nat} {A2:Option Addr} {c:Nat} {l2:List Bn} (hn:l2.length=n) (hx:a.eval x= .slice A2 n c) (hr:mZ w B A2 l2)
  (hlen:m+n<=1000000000000) (hbase:base<=w.heap.size)
  (h:∀A' cap' w',CK w' base A' cap' (l++l2)->w.grownBy w' ((gq A l.length cap).ownBlock)->
   ((gq A' (l.length+l2.length) cap').ownBlock=(gq A l.length cap).ownBlock\/(gq A' (l.length+l2.length) cap').ownBlock=some w.heap.size)->wpList Tryz.prog ops Q rest (a.put o.dst (.slice A' (m+n) cap')) w'):wpList Tryz.prog ops Q (o::rest) a w:=by
 subst hm hn;obtain ⟨i0,hi,hz0,hz1,hz2⟩:=info_parts afz;exact mV w tu WL hgd s x 22 ho base 36 i0 _ 40 Tryz.underlying22 hi hz0 hz1 hz2 rfl (by decide) hs hown hx hr (by unfold maxLen;omega) (by omega) hbase h
end
def YW (P:Nat) (VA:Option Addr) (q:Nat):Prop:=q=P\/∃a,VA=some a/\a.block=q
theorem rP.app {P a:Nat} {es:List Pt} {env e2:Env} {p e:Int} {EA VA A5:Option Addr} {ec vc c5:Nat} {bs ls:List Bn} {Y:Nat->Prop} {w w5:World} (h:rP P es env a p e EA ec VA vc bs Y w) (hown:CK w5 0 A5 c5 (bs++ls)) (hg:w.grownBy w5 ((gq VA bs.length vc).ownBlock))
  (hA:(gq A5 (bs.length+ls.length) c5).ownBlock=(gq VA bs.length vc).ownBlock\/(gq A5 (bs.length+ls.length) c5).ownBlock=some w.heap.size) (k:dY w Y ls e2) (hv:env.length+e2.length<=1000000):
  rP P es (env++e2) a p e EA ec A5 c5 (bs++ls) (YW P A5) (w5.setCell ⟨P,2,none⟩ (.slice A5 (bs.length+ls.length) c5))/\Fr Y w (w5.setCell ⟨P,2,none⟩ (.slice A5 (bs.length+ls.length) c5))/\aj Y (YW P A5) w/\
   w5.cell? ⟨P,2,none⟩=some (.slice VA bs.length vc)/\w5.frozen? ⟨P,2,none⟩=false:=by
 have hP:=h.lt P ((h.y P).2 (.inl rfl))
 have hb:w5.heap[P]?=w.heap[P]?:=hg.block P hP fun e=>by
  obtain ⟨b,hb,e2⟩:=bL e.symm;exact h.np b hb e2
 have hblk:=hb.trans h.blk
 have hne:∀b,A5=some b->b.block≠P:=by
  rintro b rfl;simp only [gQ] at hA;rcases hA with e|e
  ·obtain ⟨a2,rfl,e2⟩:=bL e.symm
   rw [<-e2];exact h.np a2 rfl
  ·injection e with e
   omega
 have hyn:aj Y (YW P A5) w:=by
  rintro q (rfl|⟨b,rfl,rfl⟩)
  ·exact .inl ((h.y _).2 (.inl rfl))
  ·simp only [gQ] at hA
   rcases hA with e|e
   ·obtain ⟨a2,rfl,e2⟩:=bL e.symm
    exact .inl ((h.y _).2 (.inr ⟨a2,rfl,e2⟩))
   ·injection e with e
    exact .inr (by omega)
 have hf:Fr Y w (w5.setCell ⟨P,2,none⟩ (.slice A5 (bs.length+ls.length) c5)):=by
  refine Fr.setCell (Fr.grown hg fun q e=>?_) (.inl ((h.y _).2 (.inl rfl))) _;obtain ⟨b,hb,e2⟩:=bL e;exact (h.y q).2 (.inr ⟨b,hb,e2⟩)
 refine ⟨⟨?_,?_,h.ex.fr hf hyn,dY.app (h.en.fr hf hyn) (k.fr hf hyn),fun q=>Iff.rfl,hne,h.el,by rw [lS];exact hv⟩,hf,hyn,by simp [World.cell?,hblk],by simp [World.frozen?,hblk]⟩
 ·rw [heap_set hblk 2,lS]
  rfl
 ·exact ay.fr hown (dZ w5 P 2 _) hne
theorem aj.trans {Y Y1 Y2:Nat->Prop} {w w1:World} (h:aj Y Y1 w) (k:aj Y1 Y2 w1) (hz:w.heap.size<=w1.heap.size):aj Y Y2 w:=fun q hq=>by
 rcases k q hq with h1|h1
 ·exact h q h1
 ·exact .inr (by omega)
theorem aj.refl (Y:Nat->Prop) (w:World):aj Y Y w:=fun _q hq=>.inl hq
theorem rP.cut {P a:Nat} {es:List Pt} {env e2:Env} {p e:Int} {EA VA:Option Addr} {ec vc n:Nat} {bs:List Bn} {Y:Nat->Prop} {w:World} (h:rP P es (env++e2) a p e EA ec VA vc bs Y w) (hn:n=env.length):
  rP P es env a p e EA ec VA vc (bs.take n) Y (w.setCell ⟨P,2,none⟩ (.slice VA n vc))/\Fr Y w (w.setCell ⟨P,2,none⟩ (.slice VA n vc))/\n<=bs.length/\n<=vc:=by
 subst hn;have hl:bs.length=env.length+e2.length:=by rw [h.en.1,lS]
 have hlt:(bs.take env.length).length=env.length:=by rw [List.length_take,hl];omega
 have hf2:Fr Y w (w.setCell ⟨P,2,none⟩ (.slice VA env.length vc)):=(dZ w P 2 _).mono fun q hq=>(h.y q).2 (.inl hq);refine ⟨⟨?_,?_,h.ex.fr hf2 fun q hq=>.inl hq,dY.take (h.en.fr hf2 fun q hq=>.inl hq),h.y,h.np,h.el,?_⟩,hf2,by omega,?_⟩
 ·rw [heap_set h.blk 2,hlt]
  rfl
 ·exact ay.fr (ay.cut tu h.own (by omega)) (dZ w P 2 _) h.np
 ·have:=h.vl
  rw [lS] at this;omega
 ·have:=ay.l5 h.own
  omega
theorem qM (P:Nat) (es:List Pt) (nx:Nx) (HN:Hid (nR P es nx)) (env e2:Env) (s:Am) (r:fF) (LA:Option Addr) (lc:Nat) (ls:List Bn) (Y:Nat->Prop) (w:World) (h:bf P es env s Y w) (hr:mZ w w.heap.size LA ls) (he:dY w Y ls e2) (hl:e2.length<=2) (hvl:env.length<=900000) (hn:Pz nx (env++e2) s=some r):
  Calls Tryz.prog 97 #[pk P,.slice LA ls.length lc] w (jL P es env Y r w):=by
 obtain ⟨a,p,e,⟨EA,ec,VA,vc,bs,hm⟩,hs⟩:=h;obtain ⟨_,_,c2,_,_⟩:=hm.cells;have f2:=hm.frozen 2 (by omega);have HM:=aB hm;have HS:=aB hs;have HR:=aB (DF hr (DF he hn));have hbl:bs.length<=900000:=by rw [hm.en.1];exact hvl
 have hll:ls.length<=2:=by rw [he.1];exact hl
 clear hm hs hr he hn;unfold pk at*;go_enter Tryz.func97,Tryz.ntmps97;go_wp2_with (at_builtin;refine xB rfl (.tmp 16) (.tmp 17) rfl 0 (m:=bs.length) (n:=ls.length) rfl rfl HM.out.own rfl rfl HR.out.1 (by omega) (cu _) ?_;intro A5 c5 w5 hown5 hg5 Zy;have K5:=aB (HM.out.app hown5 hg5 Zy HR.out.2.1 (by omega));have k2:=K5.out.2.2.2.1;have R7:=K5.out.2.2.2.2;clear hown5 hg5 Zy);obtain ⟨w6,nS⟩:∃w6,w6=w5.setCell ⟨P,2,none⟩ (.slice A5 (bs.length+ls.length) c5):=⟨_,rfl⟩;rw [<-nS] at K5;rw [<-nS];clear nS k2 R7 c2 f2;have HX:=aB (HN.out (env++e2) s r _ w6 HR.out.2.2 ⟨a,p,e,⟨EA,ec,A5,c5,_,K5.out.1⟩,HS.out⟩);unfold pk at HX;go_wp2_with fail;refine HX.out.mono ?_;rintro x w7 ⟨Y7,BI,PK,⟨a7,p7,e7,⟨EA7,ec7,uP,xC,bs7,D_⟩,hs7⟩,hv7⟩
 obtain ⟨v7,rfl⟩:∃v,x= .returned v:=by
  cases r with
  |ok y=>
   obtain ⟨t,b⟩:=y;obtain ⟨A,c,rfl,_⟩:=hv7
   exact ⟨_,rfl⟩
  |error y=>exact ⟨_,hv7⟩
 have BJ:=aB (DF BI (DF PK (DF D_ (DF hs7 hv7))));have HC:=aB (D_.cut (n:=bs.length) HM.out.en.1);obtain ⟨_,_,c2,_,_⟩:=D_.cells;have f2:=D_.frozen 2 (by omega);have l8:=HC.out.2.2.1;have hc7:=HC.out.2.2.2;clear BI PK D_ hs7 hv7;go_wp2_with fail
 have HP:Hid (jL P es env Y r w (.returned v7) (w7.setCell ⟨P,2,none⟩ (.slice uP bs.length xC))):=aB (by
  obtain ⟨BI,PK,D_,hs7,hv7⟩:=BJ.out;have f1:=Fr.new K5.out.2.1 BI K5.out.2.2.1;have y1:=aj.trans K5.out.2.2.1 PK K5.out.2.1.size;have f3:=Fr.new f1 HC.out.2.1 y1;refine ⟨Y7,f3,y1,⟨a7,p7,e7,⟨EA7,ec7,uP,xC,_,HC.out.1⟩,hs7⟩,?_⟩
  cases r with
  |ok y=>
   obtain ⟨t,b⟩:=y;obtain ⟨A,c,e1,e2⟩:=hv7
   exact ⟨A,c,e1,e2.fr HC.out.2.1 fun q hq=>.inl hq⟩
  |error y=>exact hv7)
 clear BJ HC K5;go_ret;exact HP.out
theorem PL {x y:Nd} (hx:x.k=0) (hy:y.k=0):pX x y=(x.s.toList==y.s.toList):=by
 unfold pX vZ Nd.bare;simp [hx,hy]
theorem PN {x y:Nd} (h:¬(x.k=0/\y.k=0)):pX x y=vZ x y:=by
 unfold pX vZ Nd.bare;by_cases hx:x.k=0
 ·have hy:¬y.k=0:=fun hy=>h ⟨hx,hy⟩
  have hy0:((0:Int)==y.k)=false:=by rw [beq_eq_false_iff_ne];exact fun e=>hy e.symm
  simp [hx,hy,hy0]
 ·by_cases hy:y.k=0
  ·have hx0:(x.k==(0:Int))=false:=by rw [beq_eq_false_iff_ne];exact hx
   simp [hx,hy,hx0]
  ·simp [hx,hy]
theorem Sn (x y:Nd) (w:World):
  Calls Tryz.prog 134 #[.agg #[.int .i64 x.k,.string x.s,.int .i64 x.n],.agg #[.int .i64 y.k,.string y.s,.int .i64 y.n]] w fun e w'=>e= .returned (.bool (pX x y))/\Below w.heap.size w w':=by
 by_cases h:x.k=0/\y.k=0
 ·have hx:(x.k==0)=true:=by simpa using h.1
  have hy:(y.k==0)=true:=by simpa using h.2
  have hfin:=aB (PL h.1 h.2);clear h;go_enter Tryz.func134,Tryz.ntmps134;go_wp2_with fail;go_ret;exact ⟨aO (by rw [hfin.out]),by repeat (first|exact aI _ _|refine au ?_ _)⟩
 ·have hfin:=aB (PN h)
  have heq:=OW x y;simp only [Nd.val] at heq;by_cases hx:(x.k==0)=true
  ·have hy:(y.k==0)=false:=by
    rw [beq_eq_false_iff_ne];intro e;exact h ⟨by simpa using hx,e⟩
   clear h;go_enter Tryz.func134,Tryz.ntmps134;go_wp2_with fail;go_ret;exact ⟨aO (by rw [hfin.out]),by repeat (first|exact aI _ _|refine au ?_ _)⟩
  ·have hx':(x.k==0)=false:=by simpa using hx
   clear h hx;go_enter Tryz.func134,Tryz.ntmps134;go_wp2_with fail;go_ret;exact ⟨aO (by rw [hfin.out]),by repeat (first|exact aI _ _|refine au ?_ _)⟩
theorem Hu (A B:Option Addr) (c d:Nat) (xs ys:List Nd) (w:World) (ha:bJ w w.heap.size A xs) (hb:bJ w w.heap.size B ys)
  (hl:xs.length<=9223372036854775807):
  Calls Tryz.prog 133 #[.slice A xs.length c,.slice B ys.length d,.func (.func 134) #[] #[]] w fun e w'=>e= .returned (.bool (lZ xs ys))/\Below w.heap.size w w':=by
 by_cases hlen:xs.length=ys.length
 ·rw [<-hlen]
  have Hlen:=aB hlen;clear hlen;go_enter Tryz.func133,Tryz.ntmps133;go_wp2_with fail;go_loopw [17] (fun i w'=>∃k:Nat,k<=xs.length/\i= .int .i64 k/\Below w.heap.size w w'/\Hid (qI xs ys k=lZ xs ys)) (fun i _=>xs.length-(intOf i).toNat)
  case atStart=>exact ⟨0,cu _,rfl,aI _ _,aB rfl⟩
  case round=>
   obtain ⟨k,hk,rfl,hbel,hgood⟩:=hrel;by_cases hp:k<xs.length
   ·obtain ⟨x,hx⟩:=aJ hp
    obtain ⟨y,hy⟩:=aJ (show k<ys.length by rw [<-Hlen.out];exact hp);have hp2:k<ys.length:=by rw [<-Hlen.out];exact hp
    have hstep:=aB (yE hx hy);obtain ⟨b1,o1,rfl,hb1,c10,c11,c12⟩:=((ha.below hbel).more hbel.size).at_ hx;obtain ⟨b2,o2,rfl,hb2,c20,c21,JW⟩:=((hb.below hbel).more hbel.size).at_ hy;have q1:b1<wr.heap.size+1:=by omega
    have q2:b2<wr.heap.size+1:=by omega
    clear hx hy
    cases he:pX x y
    all_goals
     have He:=aB he;clear he;go_wp2_with (go_at_call 134;refine (Sn x y _).mono ?_;rintro e w1 ⟨rfl,hbx⟩;rw [He.out])
    ·go_ret
     exact ⟨aO (by rw [<-hgood.out,hstep.out,He.out];rfl),by repeat (first|exact hbel|refine ah ?_ hbx|refine au ?_ _|refine kY ?_ (by simp;omega) _)⟩
    ·go_roundw
     case rel=>exact ⟨k+1,hp,by go_num,(by repeat (first|exact hbel|refine ah ?_ hbx|refine au ?_ _|refine kY ?_ (by simp;omega) _)),aB (by rw [<-hgood.out,hstep.out,He.out,Bool.true_and])⟩
     case measure=>simp [intOf];omega
   ·have hfin:=aB (AJ Hlen.out hp)
    go_wp2_with fail;go_ret;exact ⟨aO (by rw [<-hgood.out,hfin.out]),hbel⟩
 ·have hle:((xs.length:Int) !=(ys.length:Int))=true:=by simp;omega
  have hfin:=aB (Gn hlen);clear hlen;go_enter Tryz.func133,Tryz.ntmps133;go_wp2_with fail;go_ret;exact ⟨aO (by rw [hfin.out]),aI _ _⟩
theorem Ea (A B:Option Addr) (c d:Nat) (xs ys:List Nd) (w:World) (ha:bJ w w.heap.size A xs) (hb:bJ w w.heap.size B ys)
  (hl:xs.length<=9223372036854775807):
  Calls Tryz.prog 105 #[.slice A xs.length c,.slice B ys.length d] w fun e w'=>e= .returned (.bool (lZ xs ys))/\Below w.heap.size w w':=by
 go_enter Tryz.func105,Tryz.ntmps105;go_wp2_with (go_at_call 133;refine (Hu A B c d xs ys _ ha hb hl).mono ?_;rintro e w1 ⟨rfl,hbx⟩);go_ret;exact ⟨rfl,hbx⟩
end Go.Proofs.YtmjdhfbnmmdjiaaGreat
