/- Laid together by a tool from the texts of this seat: PxT PxS PxE. Conditions: each theorem's own. -/
import Derived.Test.YtmjdhfbnmmdjiaaGreatH31
namespace Go.Proofs.YtmjdhfbnmmdjiaaGreat
open _root_.List renaming mem_of_getElem?->O8,mem_cons->qm,append_assoc->kV,mem_append->pU,append_nil->mO,mem_singleton->abo,mem_cons_of_mem->OM,cons_append->uK,map_append->aaF
open _root_.Option renaming map_eq_some_iff->aaE
open _root_.ByteArray renaming empty->dQ
open _root_.Classical renaming byContradiction->aan
def stA (t:List Nd):Prop:=∀x∈t,x.k≠0
theorem Jt {t:List Nd}:jI t=true↔stA t:=by
 unfold jI stA;rw [List.all_eq_true];exact ⟨fun h x hx=>by have:=h x hx;simpa using this,fun h x hx=>by have:=h x hx;simpa using this⟩
theorem Ad {t:List Nd} (h:stA t) (hne:t≠[]):(aD t).k≠0:=by
 cases t with
 |nil=>exact absurd rfl hne
 |cons x xt=>exact h x (by simp)
theorem Ae {k:Int} (h:k≠0):stA (aH k):=fun x hx=>by
 unfold aH at hx;rw [abo] at hx;subst hx;exact h
theorem Ju {a b:List Nd} (h:stA a) (k:stA b):stA (aR a b):=fun x hx=>by
 unfold aR at hx;rcases qm.1 hx with rfl|hx
 ·decide
 ·rcases pU.1 hx with hx|hx
  ·exact h x hx
  ·exact k x hx
theorem EH {t:List Nd} (h:stA t):stA (eO t):=by
 cases t with
 |nil=>exact h
 |cons x xt=>
  intro y hy;rcases qm.1 hy with rfl|hy
  ·exact h x (by simp)
  ·exact h y (by simp [hy])
theorem XW {s:ByteArray} {t:List Nd} (h:stA t):stA (g_ s t):=by
 cases t with
 |nil=>exact h
 |cons x xt=>
  intro y hy;rcases qm.1 hy with rfl|hy
  ·exact h x (by simp)
  ·exact h y (by simp [hy])
theorem QZ:∀(xs:List Nd) (n:Nat) (r:List Nd),skip xs n=some r->∀y∈r,y∈xs
 |xs,0,r,h,y,hy=>by
  unfold skip at h
  cases xs<;>(injection h with h;subst h;exact hy)
 |[],n+1,r,h,y,hy=>by simp [skip] at h
 |x::xt,n+1,r,h,y,hy=>by
  unfold skip at h;exact OM _ (QZ xt _ r h y hy)
theorem XY {xs:List Nd} {y:Nd} (h:y∈bV xs):y∈xs:=by
 unfold bV at h
 cases hs:skip xs 1 with
 |none=>rw [hs] at h;simp at h
 |some r=>rw [hs] at h;exact QZ _ _ _ hs y h
theorem Jv:∀(n:Nat) (xs ts:List Nd),ts∈bA n xs->∀y∈ts,y∈xs
 |0,xs,ts,h,y,hy=>by simp [bA] at h
 |n+1,xs,ts,h,y,hy=>by
  unfold bA at h;rcases qm.1 h with rfl|h
  ·exact List.mem_of_mem_take hy
  ·have:=Jv n _ ts h y hy
   exact XY this
theorem Jw {t ts:List Nd} (h:stA t) (hts:ts∈aW t):stA ts:=fun y hy=>by
 cases t with
 |nil=>simp [aW] at hts
 |cons x xt=>exact h y (OM _ (Jv _ _ _ hts y hy))
theorem L9 {t a b:List Nd} (h:stA t) (hne:t≠[]) (hc:iP t=some (a,b)):stA a/\stA b:=by
 unfold iP at hc;rw [if_neg (Ad h hne)] at hc;split at hc
 ·injection hc with hc
  injection hc with h1 h2
  subst h1 h2;refine ⟨EH ?_,EH ?_⟩
  ·cases hk:aW t with
   |nil=>intro y hy;simp at hy
   |cons z zs=>exact Jw h (by rw [hk];simp)
  ·cases hk:aW t with
   |nil=>intro y hy;simp at hy
   |cons z zs=>
    cases zs with
    |nil=>intro y hy;simp at hy
    |cons z2 zs=>exact Jw h (by rw [hk];simp)
 ·cases hc
theorem uz {t u:List Nd} {s:ByteArray} (h:stA t) (hne:t≠[]) (hc:bG t s=some u):stA u:=by
 unfold bG at hc;rw [if_neg (Ad h hne)] at hc;split at hc
 ·rw [aaE] at hc
  obtain ⟨z,hz,rfl⟩:=hc;exact EH (Jw h (List.mem_of_find?_eq_some hz))
 ·cases hc
theorem abB {k:Int} (hk:k≠0) {fs:List fB} (hn:(fs.map (·.1)).Nodup) (h:∀p∈fs,stA p.2):stA (d_ k fs):=by
 obtain ⟨h1,_⟩:=pI fs hn;intro x hx;unfold d_ at hx;rcases qm.1 hx with rfl|hx
 ·exact hk
 ·obtain ⟨p,hp,hx⟩:=List.mem_flatMap.1 hx
  exact XW (h p (h1.subset hp)) x hx
theorem abC {n:Nat} {x:Nd} {xt:List Nd} (h:Fo (n+1) (x::xt)):Fo (manyN x+n) xt:=by
 have h':skip xt (n+manyN x)=some []:=h;rw [Nat.add_comm] at h';exact h'
theorem Jy:∀(N n:Nat) (xs ys m:List Nd),xs.length<=N->Fo n xs->Fo n ys->stA xs->stA ys->met n xs ys=some m->xs=ys
 |_,0,xs,ys,m,_,h1,h2,_,_,_=>by rw [h1.fK,h2.fK]
 |0,n+1,xs,ys,m,hl,h1,_,_,_,_=>by have:=h1.pos;omega
 |N+1,n+1,xs,ys,m,hl,h1,h2,s1,s2,hm=>by
  cases xs with
  |nil=>have:=h1.pos;simp at this
  |cons x xt=>
   cases ys with
   |nil=>have:=h2.pos;simp at this
   |cons y yt=>
    rw [jy] at hm;by_cases hs:x.s=y.s
    ·rw [if_neg (fun h=>h hs),if_neg (fun h=>h.elim (s1 x (by simp)) (s2 y (by simp)))] at hm
     by_cases hk:x.k≠y.k\/x.n≠y.n
     ·rw [if_pos hk] at hm
      cases hm
     ·rw [if_neg hk,aaE] at hm
      obtain ⟨r,hr,_⟩:=hm;have hk2:x.k=y.k:=aan fun h=>hk (.inl h);have hn2:x.n=y.n:=aan fun h=>hk (.inr h);have hmn:manyN y=manyN x:=by unfold manyN;rw [hk2,hn2]
      have e1:=Jy N (manyN x+n) xt yt r (by simp at hl;omega) (abC h1) (by rw [<-hmn];exact abC h2) (fun z hz=>s1 z (by simp [hz])) (fun z hz=>s2 z (by simp [hz])) hr;rw [e1]
      congr 1
      cases x;cases y;simp only at hs hk2 hn2;rw [hs,hk2,hn2]
    ·rw [if_pos hs] at hm
     cases hm
theorem adp {t u:List Nd} (gt:Gd t) (gu:Gd u) (st:stA t) (su:stA u) (h:jR t u=true):t=u:=by
 unfold jR at h;obtain ⟨m,hm⟩:=Option.isSome_iff_exists.1 h;exact Jy _ 1 t u m (Nat.le_refl _) gt.fo gu.fo st su hm
theorem L_ {t u m:List Nd} (h:met 1 t u=some m) (gt:Gd t) (gu:Gd u) (st:stA t) (su:stA u):stA m:=by
 have e:=Jy _ 1 t u m (Nat.le_refl _) gt.fo gu.fo st su h;rw [<-e,tF _ 1 t (Nat.le_refl _) gt.fo] at h;injection h with h
 rw [<-h];exact st
theorem abD {t:List Nd} (h:stA t) (hne:t≠[]):stA (aT t):=by rw [xQ (Ad h hne)];exact h
def nC (env:Env):Prop:=∀e∈env,stA e.2
def uD (es:List Pt):Prop:=∀p∈es,stA p.T/\stA p.U
theorem nC.app {a b:Env} (h:nC a) (k:nC b):nC (a++b):=fun e he=>by
 rcases pU.1 he with he|he
 ·exact h e he
 ·exact k e he
theorem nC.one {s:ByteArray} {t:List Nd} (h:stA t):nC [(s,t)]:=fun e he=>by
 rw [abo] at he;subst he;exact h
theorem nC.look {env:Env} {s:ByteArray} {t:List Nd} (h:nC env) (hl:l7 env s=some t):stA t:=by
 unfold l7 at hl;rw [aaE] at hl;obtain ⟨e,he,rfl⟩:=hl;exact h e (List.mem_reverse.1 (List.mem_of_find?_eq_some he))
def wrK (k:Int):Bool:= !(k==2||k==10||k==11||k==14)
inductive Rl (es:List Pt) (S:Prop):Bool->Nat->Nat->Nat->List Pt->Prop
 |nil (w:Bool) (a:Nat):Rl es S w 0 a a []
 |nd {w:Bool} {n a b c:Nat} {p:Pt} {X Y:List Pt}:es[a]?=some p->p.k≠13->Rl es S (wrK p.k) (aL p) (a+1) c X->Rl es S w n c b Y->Rl es S w (n+1) a b (p::(X++Y))
 |ann {w:Bool} {n a b c:Nat} {p:Pt} {X Y:List Pt}:es[a]?=some p->p.k=13->Rl es S true 1 (a+1) c X->Rl es S w n c b Y->Rl es S w (n+1) a b (bQ p.lb X++Y)
 |cast {n a b c:Nat} {t u:List Nd} {X Y:List Pt}:¬S->jR t u=true->¬Q2 t u->Gd t->Gd u->Rl es S false 1 a c X->Rl es S true n c b Y->Rl es S true (n+1) a b (mg (iU X) t u::(bQ dQ X++Y))
section
variable {es:List Pt} {S:Prop} {w:Bool} {n a b c:Nat} {X Y:List Pt}
theorem Rl.mono (h:Rl es S w n a b X):Rl es S true n a b X:=by
 induction h with
 |nil w a=>exact .nil _ _
 |nd h1 h2 h3 _ _ ih2=>exact .nd h1 h2 h3 ih2
 |ann h1 h2 h3 _ _ ih2=>exact .ann h1 h2 h3 ih2
 |cast h0 h1 h2 h3 h4 h5 _ _ ih2=>exact .cast h0 h1 h2 h3 h4 h5 ih2
theorem Rl.join (h:Rl es S w n a c X):∀{m:Nat},Rl es S w m c b Y->Rl es S w (n+m) a b (X++Y):=by
 induction h with
 |nil w a=>intro m k;rw [Nat.zero_add];exact k
 |@nd w n a c d p X Z h1 h2 h3 _ _ ih2=>
  intro m k;rw [show n+1+m=n+m+1 by omega,uK,kV]
  exact .nd h1 h2 h3 (ih2 k)
 |@ann w n a c d p X Z h1 h2 h3 _ _ ih2=>
  intro m k;rw [show n+1+m=n+m+1 by omega,kV]
  exact .ann h1 h2 h3 (ih2 k)
 |@cast n a c d t u X Z h0 h1 h2 h3 h4 h5 _ _ ih2=>
  intro m k;rw [show n+1+m=n+m+1 by omega,uK,kV];exact .cast h0 h1 h2 h3 h4 h5 (ih2 k)
theorem Rl.nd1 {p:Pt} (hp:es[a]?=some p) (jT:p.k≠13) (h:Rl es S (wrK p.k) (aL p) (a+1) b X):Rl es S false 1 a b (p::X):=by
 have:=Rl.nd hp jT h (.nil false b)
 rwa [mO] at this
theorem Rl.as1 {p:Pt} (hp:es[a]?=some p) (jT:p.k=13) (h:Rl es S true 1 (a+1) b X):Rl es S false 1 a b (bQ p.lb X):=by
 have:=Rl.ann hp jT h (.nil false b)
 rwa [mO] at this
theorem Rl.to {t u:List Nd} (h:Rl es S false 1 a b X) (ha:jR t u=true) (gt:Gd t) (gu:Gd u) (hs:S->stA t/\stA u):Rl es S true 1 a b (toM X t u):=by
 unfold toM;split
 ·exact h.mono
 ·rename_i hn
  have:=Rl.cast (fun hS=>hn (same_iff.2 (by rw [adp gt gu (hs hS).1 (hs hS).2 ha];exact Q2.refl _))) ha (fun e=>hn (same_iff.2 e)) gt gu h (.nil true b)
  rwa [mO] at this
end
theorem Rl.imp {es:List Pt} {S S':Prop} (hs:S->S') {w:Bool} {n a b:Nat} {X:List Pt} (h:Rl es S' w n a b X):Rl es S w n a b X:=by
 induction h with
 |nil w a=>exact .nil _ _
 |nd h1 h2 _ _ i1 i2=>exact .nd h1 h2 i1 i2
 |ann h1 h2 _ _ i1 i2=>exact .ann h1 h2 i1 i2
 |cast h0 h1 h2 h3 h4 _ _ i1 i2=>exact .cast (fun h=>h0 (hs h)) h1 h2 h3 h4 i1 i2
theorem qx {es:List Pt} {S:Prop} {a b n:Nat} {w:Bool} {p:Pt} {X:List Pt} (hp:es[a]?=some p) (jT:p.k≠13) (hw:wrK p.k=w) (hm:aL p=n) (h:Rl es S w n (a+1) b X):Rl es S false 1 a b (p::X):=by
 subst hw hm;exact Rl.nd1 hp jT h
def eP (p:Pt):Int×Int:=(p.k,p.mn)
theorem adq (s:ByteArray) (x:List Pt):(bQ s x).map eP=x.map eP:=by cases x<;>rfl
theorem Q0 {p q:Pt} (h:eP p=eP q):aL p=aL q:=by
 unfold eP at h;injection h with h1 h2
 unfold aL;rw [h1,h2]
def qH (es2:List Pt) (a2:Nat) (X:List Pt):Prop:=∃post,(es2.drop a2).map eP=X.map eP++post
section
variable {es2:List Pt} {a2:Nat} {p:Pt} {X Y:List Pt}
theorem qH.head (h:qH es2 a2 (p::X)):∃q,es2[a2]?=some q/\eP q=eP p:=by
 obtain ⟨post,h⟩:=h;have:((es2.drop a2).map eP)[0]?=some (eP p):=by rw [h];rfl
 rw [List.getElem?_map,List.getElem?_drop,Nat.add_zero,aaE] at this;exact this
theorem qH.tail (h:qH es2 a2 (p::X)):qH es2 (a2+1) X:=by
 obtain ⟨post,h⟩:=h;refine ⟨post,?_⟩;have:=congrArg List.tail h;rw [<-List.map_tail,List.tail_drop] at this;exact this
theorem qH.left (h:qH es2 a2 (X++Y)):qH es2 a2 X:=by
 obtain ⟨post,h⟩:=h;exact ⟨Y.map eP++post,by rw [h,aaF,kV]⟩
theorem qH.right (h:qH es2 a2 (X++Y)):qH es2 (a2+X.length) Y:=by
 obtain ⟨post,h⟩:=h;refine ⟨post,?_⟩;rw [<-List.drop_drop,List.map_drop,h,aaF,kV];have:X.length=(X.map eP).length:=by simp
 rw [this,List.drop_left]
theorem qH.set {s:ByteArray} (h:qH es2 a2 (bQ s X)):qH es2 a2 X:=by
 obtain ⟨post,h⟩:=h;exact ⟨post,by rw [h,adq]⟩
end
def adr (es2:List Pt) (i:Nat):Prop:=∀q,es2[i]?=some q->q.k≠13/\∃l,bZ es2 (aL q) (i+1)=some l/\(wrK q.k=false->∀c∈l,∀r,es2[c]?=some r->r.k≠14)
theorem Jz {es2:List Pt} {n a c:Nat} {l:List Nat} (h:EA es2 1 a c) (k:bZ es2 n c=some l):bZ es2 (n+1) a=some (a::l):=by
 unfold bZ;unfold EA at h;rw [h];dsimp only;rw [k];rfl
theorem Rl.parts {es:List Pt} {S:Prop} (hraw:∀p∈es,p.k≠13/\p.k≠14) {w:Bool} {n a b:Nat} {X:List Pt} (h:Rl es S w n a b X):
  ∀(es2:List Pt) (a2:Nat),qH es2 a2 X->EA es2 n a2 (a2+X.length)/\(∃l,bZ es2 n a2=some l/\(w=false->∀c∈l,∀r,es2[c]?=some r->r.k≠14))/\∀i,a2<=i->i<a2+X.length->adr es2 i:=by
 induction h with
 |nil w a=>exact fun es2 a2 _=>⟨by unfold EA;exact qX _ _,⟨[],rfl,fun _ c hc=>by cases hc⟩,fun i h1 h2=>by simp at h2;omega⟩
 |@nd w n a c d p X Y hp jT _ _ ih1 ih2=>
  intro es2 a2 hat;obtain ⟨q,hq,he⟩:=hat.head;have Q5:qH es2 (a2+1) (X++Y):=hat.tail;obtain ⟨e1,⟨l1,k1,k2⟩,k3⟩:=ih1 es2 (a2+1) Q5.left;obtain ⟨e2,⟨l2,m1,m2⟩,m3⟩:=ih2 es2 _ Q5.right;have hmq:=Q0 he;have hkq:q.k=p.k:=by unfold eP at he;injection he
  have eh:EA es2 1 a2 (a2+1+X.length):=EA.close hq (by rw [hmq];exact e1);have hlen:a2+(p::(X++Y)).length=a2+1+X.length+Y.length:=by simp;omega
  rw [hlen];refine ⟨eh.join e2,⟨a2::l2,Jz eh m1,fun hw=>?_⟩,fun i h1 h2=>?_⟩
  ·intro c hc r hr
   rcases qm.1 hc with rfl|hc
   ·rw [hq] at hr
    injection hr with hr
    subst hr;rw [hkq];exact (hraw p (O8 hp)).2
   ·exact m2 hw c hc r hr
  ·by_cases hi0:i=a2
   ·subst hi0
    intro q2 hq2;rw [hq] at hq2;injection hq2 with hq2
    subst hq2;refine ⟨by rw [hkq];exact jT,l1,by rw [hmq];exact k1,fun hw=>k2 (by rw [<-hkq];exact hw)⟩
   ·by_cases hi1:i<a2+1+X.length
    ·exact k3 i (by omega) hi1
    ·exact m3 i (by omega) h2
 |ann hp jT=>exact absurd jT (hraw _ (O8 hp)).1
 |@cast n a b c t u X Y _ _ _ _ _ hX _ ih1 ih2=>
  intro es2 a2 hat;obtain ⟨q,hq,he⟩:=hat.head;have Q5:qH es2 (a2+1) (bQ dQ X++Y):=hat.tail;obtain ⟨e1,⟨l1,k1,k2⟩,k3⟩:=ih1 es2 (a2+1) Q5.left.set;have hr2:=Q5.right;rw [dW] at hr2;obtain ⟨e2,⟨l2,m1,m2⟩,m3⟩:=ih2 es2 _ hr2;have hmq:aL q=1:=(Q0 he).trans (Ot rfl);have hkq:q.k=14:=by unfold eP at he;injection he
  have eh:EA es2 1 a2 (a2+1+X.length):=EA.close hq (by rw [hmq];exact e1);have hlen:a2+(mg (iU X) t u::(bQ dQ X++Y)).length=a2+1+X.length+Y.length:=by simp [dW];omega
  rw [hlen];refine ⟨eh.join e2,⟨a2::l2,Jz eh m1,fun hw=>by cases hw⟩,fun i h1 h2=>?_⟩;by_cases hi0:i=a2
  ·subst hi0
   intro q2 hq2;rw [hq] at hq2;injection hq2 with hq2
   subst hq2;exact ⟨by rw [hkq];decide,l1,by rw [hmq];exact k1,fun _=>k2 rfl⟩
  ·by_cases hi1:i<a2+1+X.length
   ·exact k3 i (by omega) hi1
   ·exact m3 i (by omega) h2
theorem Rl.long {es:List Pt} {S:Prop} (hraw:∀p∈es,p.k≠13/\p.k≠14) {w:Bool} {n a b:Nat} {X:List Pt} (h:Rl es S w n a b X):b<=a+X.length:=by
 induction h with
 |nil w a=>simp
 |nd _ _ _ _ ih1 ih2=>simp at*;omega
 |ann hp jT=>exact absurd jT (hraw _ (O8 hp)).1
 |cast _ _ _ _ _ _ _ ih1 ih2=>simp [dW] at*;omega
structure Ov (es:List Pt):Prop where
 len:es.length<=1000
 ok:dN es
 kids:∀(i:Nat) (p:Pt),es[i]?=some p->∃l,bZ es (aL p) (i+1)=some l/\AX es p l
structure vW (es:List Pt) (f:Nat) (env:Env) (a b:Nat) (t:List Nd) (x:List Pt) (t':List Nd):Prop where
 c:cst f es env a=some (x,t',b)
 q:Q2 t t'
 e:EA es 1 a b
 tr:eU 1 x
 ln:x.length+1<=2*(b-a)
 lb:iU x=vU es a
 full:gG env x t'
 ok:dN x
 rl:Rl es (nC env/\uD es) false 1 a b x
 st:nC env->uD es->stA t'
section
variable {es:List Pt} {f:Nat} {env:Env} {a b:Nat} {t t':List Nd} {x:List Pt}
theorem vW.gd (h:vW es f env a b t x t'):qQ x t':=Dk _ _ _ _ _ _ _ h.c
theorem vW.lt (h:vW es f env a b t x t'):a<b/\b<=es.length:=by
 have:=h.e.lt;omega
end
theorem qY {es:List Pt} {n a c:Nat} {l:List Nat} (h:bZ es (n+1) a=some l) (hc:EA es 1 a c):∃l2,l=a::l2/\bZ es n c=some l2:=by
 unfold bZ at h;unfold EA at hc;rw [hc] at h;simp only [aaE] at h;obtain ⟨l2,h1,h2⟩:=h;exact ⟨l2,h2.symm,h1⟩
section
variable {es:List Pt} {a:Nat} {p:Pt} (hI:Ov es) (hp:es[a]?=some p) (h7:p.k≠7)
include hI hp h7
theorem zP (hm:1<=aL p):∀q,es[a+1]?=some q->q.k≠8:=fun q hq h8=>by
 obtain ⟨l,h1,h2⟩:=hI.kids a p hp;obtain ⟨n,hn⟩:∃n,aL p=n+1:=⟨aL p-1,by omega⟩
 have h3:l[0]?=some (a+1):=by
  rw [hn] at h1;unfold bZ at h1;split at h1
  ·cases h1
  ·rw [aaE] at h1
   obtain ⟨l2,_,rfl⟩:=h1;rfl
 have:=(h2.kind 0 _ q h3 hq).1 h8;exact h7 this.1
theorem Q6 {c:Nat} (hm:2<=aL p) (he:EA es 1 (a+1) c):∀q,es[c]?=some q->q.k≠8:=fun q hq h8=>by
 obtain ⟨l,h1,h2⟩:=hI.kids a p hp;obtain ⟨n,hn⟩:∃n,aL p=n+1+1:=⟨aL p-2,by omega⟩;rw [hn] at h1;obtain ⟨l2,rfl,h3⟩:=qY h1 he
 have h4:l2[0]?=some c:=by
  unfold bZ at h3;split at h3
  ·cases h3
  ·rw [aaE] at h3
   obtain ⟨l4,_,rfl⟩:=h3;rfl
 have:=(h2.kind 1 _ q (by simpa using h4) hq).1 h8;exact h7 this.1
theorem amO {c d:Nat} (hm:3<=aL p) (he:EA es 1 (a+1) c) (he2:EA es 1 c d):∀q,es[d]?=some q->q.k≠8:=fun q hq h8=>by
 obtain ⟨l,h1,h2⟩:=hI.kids a p hp;obtain ⟨n,hn⟩:∃n,aL p=n+1+1+1:=⟨aL p-3,by omega⟩;rw [hn] at h1;obtain ⟨l2,rfl,h3⟩:=qY h1 he;obtain ⟨l3,rfl,h5⟩:=qY h3 he2
 have h4:l3[0]?=some d:=by
  unfold bZ at h5;split at h5
  ·cases h5
  ·rw [aaE] at h5
   obtain ⟨l4,_,rfl⟩:=h5;rfl
 have:=(h2.kind 2 _ q (by simpa using h4) hq).1 h8;exact h7 this.1
end
theorem Af {es:List Pt} {a b:Nat} {p:Pt} (hp:es[a]?=some p) (hm:aL p=1) (h:EA es 1 (a+1) b):EA es 1 a b:=EA.close hp (by rw [hm];exact h)
theorem Gg {es:List Pt} {a b c:Nat} {p:Pt} (hp:es[a]?=some p) (hm:aL p=2) (h:EA es 1 (a+1) c) (k:EA es 1 c b):EA es 1 a b:=EA.close hp (by rw [hm];exact h.join k)
theorem XZ {es:List Pt} {a b c d:Nat} {p:Pt} (hp:es[a]?=some p) (hm:aL p=3) (h:EA es 1 (a+1) c) (k:EA es 1 c d) (j:EA es 1 d b):EA es 1 a b:=EA.close hp (by rw [hm];exact h.join (k.join j))
theorem Q7 {es:List Pt} {a:Nat} {p:Pt} (hp:es[a]?=some p) (hm:aL p=0):EA es 1 a (a+1):=EA.close hp (by rw [hm];unfold EA;exact qX _ _)
theorem fE {p:Pt} {x:List Pt} (hp:(0<=p.k/\p.k<=14)/\(0<=p.mn/\p.mn<=50)) (h:dN x):dN (p::x):=fun q hq=>by
 rcases qm.1 hq with rfl|hq
 ·exact hp
 ·exact h q hq
theorem nN {x y:List Pt} (h:dN x) (k:dN y):dN (x++y):=fun q hq=>by
 rcases pU.1 hq with hq|hq
 ·exact h q hq
 ·exact k q hq
theorem Q8 {x:List Pt} (h:dN x) (s:ByteArray):dN (bQ s x):=by
 cases x with
 |nil=>exact h
 |cons p x=>exact fE (p:={p with lb:=s}) (h p (by simp)) fun q hq=>h q (by simp [hq])
theorem lQ {x:List Pt} (h:dN x) (t u:List Nd):dN (toM x t u):=by
 unfold toM;split
 ·exact h
 ·exact fE (by simp [mg]) (Q8 h _)
def Cb (es:List Pt) (f:Nat):Prop:=∀(env:Env) (a:Nat) (t:List Nd) (b:Nat),jC f es env a=some (.ok (t,b))->(∀q,es[a]?=some q->q.k≠8)->∀env',iq env env'->∃x t',vW es f env' a b t x t'
theorem ok5 {f:Nat} {es:List Pt} {env:Env} {a:Nat} {t:List Nd} {b:Nat} (h:jC f es env a=some (.ok (t,b))):Gd t/\t.length<=5000000:=by
 cases f with
 |zero=>cases h
 |succ f=>
  obtain ⟨p,_,_,_,_,_,h1,h2⟩:=Jr h;exact ⟨h1,h2⟩
theorem oV {x:Option fF} {g:List Nd->Nat->Option fF} {t:List Nd} {b:Nat} (h:dw x g=some (.ok (t,b))):∃u c,x=some (.ok (u,c))/\g u c=some (.ok (t,b)):=by
 rcases fP h with ⟨_,_,h2⟩|h2
 ·cases h2
 ·exact h2
section
variable {es:List Pt} {f:Nat} {env env':Env} {a b:Nat} {p:Pt} {t:List Nd}
theorem mQ (hI:Ov es) (hp:es[a]?=some p) (hE:iq env env') (hl:env.length<=900000) (hx:Dj p) (htl:t.length<=5000000) {x:List Pt} {t':List Nd}
  (hw:dJ (cst f es) es env' p (a+1)=some (x,t',b)) (hq:Q2 t t') (gt':Gd t') (he:EA es 1 a b) (htr:eU 1 x) (hln:x.length+1<=2*(b-a)) (hlb:iU x=p.lb) (hf:gG env' x t') (hok:dN x) (hrl:Rl es (nC env'/\uD es) false 1 a b x) (hst:nC env'->uD es->stA t'):∃x t',vW es (f+1) env' a b t x t':=by
 have h1:=he.lt;have h2:=hI.len;refine ⟨x,t',LY hp (by rw [<-hE.len];exact hl) hx hw ⟨htr.ne,by omega,gt',by rw [<-hq.len];exact htl⟩,hq,he,htr,hln,?_,hf,hok,hrl,hst⟩;unfold vU;rw [hp];exact hlb
variable (hI:Ov es) (hK:Cb es f) (hp:es[a]?=some p) (hE:iq env env') (hl:env.length<=900000) (ho:vw p) (hx:Dj p) (hg:Gd t) (htl:t.length<=5000000)
include hI hp hE hl ho hx hg htl
theorem abG (hk:p.k=0) (hw:KX p (a+1)=some (.ok (t,b))):∃x t',vW es (f+1) env' a b t x t':=by
 unfold KX at hw;injection hw with hw
 injection hw with hw
 injection hw with h1 h2
 subst h1 h2;have hm:aL p=0:=by unfold aL;simp [hk]
 have hE':env'.length<=900000:=by rw [<-hE.len];exact hl
 have hb:=Q7 hp hm;refine mQ hI hp hE hl hx htl (x:=[p]) (t':=p.T) (by unfold dJ;simp [hk,Vd]) (Q2.refl _) hg hb (eU.leaf hm) (by simp) rfl ?_ (fE (hI.ok p (O8 hp)) (fun q hq=>by cases hq)) (qx hp (by omega) rfl hm (.nil _ _)) (fun _ h=>(h p (O8 hp)).1);refine gG.mk ho hx hE' (by simp) htl 0 fun s g _ es2 a2 bH _ hp2 hE2 hl2=>⟨p.T,?_,?_,Q2.refl _,hg⟩
 ·unfold gK;simp [hk,KX]
 ·unfold dJ;simp [hk,Vd]
theorem X0 (hk:p.k=1) (hw:xu env p a (a+1)=some (.ok (t,b))):∃x t',vW es (f+1) env' a b t x t':=by
 unfold xu at hw
 cases hlk:l7 env p.nm with
 |none=>rw [hlk] at hw;cases hw
 |some u=>
  rw [hlk] at hw;injection hw with hw
  injection hw with hw
  injection hw with h1 h2
  subst h1 h2;have hm:aL p=0:=by unfold aL;simp [hk]
  have hE':env'.length<=900000:=by rw [<-hE.len];exact hl
  obtain ⟨t',e1,e2,e3⟩:=hE.look hlk;have hb:=Q7 hp hm;refine mQ hI hp hE hl hx htl (x:=[p]) (t':=t') (by unfold dJ;simp [hk,Ef,e1]) e2 e3 hb (eU.leaf hm) (by simp) rfl ?_ (fE (hI.ok p (O8 hp)) (fun q hq=>by cases hq)) (qx hp (by omega) rfl hm (.nil _ _)) (fun h _=>h.look e1);refine gG.mk ho hx hE' (by simp) (by rw [<-e2.len];exact htl) 0 fun s g _ es2 a2 bH _ hp2 hE2 hl2=>?_;obtain ⟨t2,d1,d2,d3⟩:=hE2.look e1;refine ⟨t2,?_,?_,d2,d3⟩
  ·unfold gK;simp [hk,xu,d1]
  ·unfold dJ;simp [hk,Ef,d1]
include hK in
theorem abH (hk:p.k=2) (hw:KY (jC f es) env p (a+1)=some (.ok (t,b))):∃x t',vW es (f+1) env' a b t x t':=by
 obtain ⟨u,c,h1,h2⟩:=oV hw;injection h2 with h2
 injection h2 with h2
 injection h2 with h2 h3
 subst h2 h3;have hm:aL p=1:=by unfold aL;simp [hk]
 have hE':env'.length<=900000:=by rw [<-hE.len];exact hl
 have gT:=ho.1 (.inl hk) (by omega);have lT:=(hx.1 (.inl hk)).2;obtain ⟨y,u',S⟩:=hK _ _ _ _ h1 (zP hI hp (by omega) (by omega)) (env'++[(p.bd,p.T)]) (hE.app (.one (Q2.refl _) gT));have G:=S.gd;have hlt:=S.lt;have hln:=S.ln;have qa:Q2 (aR p.T u) (aR p.T u'):=(Q2.refl _).arrow S.q;have ga:Gd (aR p.T u'):=EF gT G.gd (by have:=G.tl;omega);refine mQ hI hp hE hl hx htl (x:=p::y) (t':=aR p.T u') ?_ qa ga (Af hp hm S.e) (eU.cons (by rw [hm];exact S.tr)) (by simp;omega) rfl ?_ (fE (hI.ok p (O8 hp)) S.ok) (qx hp (by omega) (by rw [hk];rfl) hm (S.rl.imp fun h=>⟨h.1.app (.one (h.2 p (O8 hp)).1),h.2⟩)) (fun h1 h2=>Ju (h2 p (O8 hp)).1 (S.st (h1.app (.one (h2 p (O8 hp)).1)) h2))
 ·have:dJ (cst f es) es env' p (a+1)=Li (cst f es) env' p (a+1):=by unfold dJ;simp [hk]
  rw [this];unfold Li;rw [S.c];rfl
 ·obtain ⟨f0,F⟩:=S.full
  refine gG.mk ho hx hE' (by have:=hI.len;omega) (by rw [<-qa.len];exact htl) f0 fun s g hg0 es2 a2 bH hat hp2 hE2 hl2=>?_;obtain ⟨v,d1,d2,d3,d4⟩:=F.at hg0 hat (hE2.app (.one (s:=p.bd) (Q2.refl _) gT));refine ⟨aR p.T v,?_,?_,(Q2.refl _).arrow d3,EF gT d4 (by have:=G.tl;have:=d3.len;omega)⟩
  ·have:gK (iT g es2) es2 bH {p with lb:=s} a2 (a2+1)=KY (iT g es2) bH {p with lb:=s} (a2+1):=by unfold gK;simp [hk]
   rw [this];unfold KY;dsimp only;rw [d1];rfl
  ·have:dJ (cst g es2) es2 bH {p with lb:=s} (a2+1)=Li (cst g es2) bH {p with lb:=s} (a2+1):=by unfold dJ;simp [hk]
   rw [this];unfold Li;dsimp only;rw [d2];rfl
end
end Go.Proofs.YtmjdhfbnmmdjiaaGreat
