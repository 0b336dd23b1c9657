/- Laid together by a tool from the texts of this seat: PxH CsY PxN GvL. Conditions: each theorem's own. -/
import Derived.Test.YtmjdhfbnmmdjiaaGreatJ29
import Derived.Test.YtmjdhfbnmmdjiaaGreatJ24
import Derived.Test.YtmjdhfbnmmdjiaaGreatJ15
import Derived.Test.YtmjdhfbnmmdjiaaGreatJ28
set_option maxHeartbeats 8000000
set_option maxRecDepth 100000
namespace Go.Proofs.YtmjdhfbnmmdjiaaGreat
open _root_.Option renaming map_some->aaL,map_eq_some_iff->aaE,getD_some->aaT
open _root_.List renaming map_cons->Nc,flatMap_cons->iJ,length_cons->mX,map_append->aaF,getElem?_eq_getElem->bA,mem_cons->oJ,length_append->jX,append_assoc->kE,mem_map->aas,length_map->Qx,mem_of_getElem?->Ox,nil_append->aar,length_pos_iff->aaA,sum_cons->aaR,getElem_mem->aaO,drop_zero->l8,map_map->S_,cons_append->rM,set_append_right->aay,length_take->iW,take_add_one->KV,map_nil->aaD
open Go.Lib renaming hid->aD
open _root_.Nat renaming le_refl->aG,add_assoc->aaS,zero_add->iC
open _root_.And renaming intro->Cj
open _root_.ByteArray renaming empty->bZ
theorem R9 {l:List ByteArray} {s:ByteArray} (h:s∈l):s∈kZ l:=by
 unfold kZ;have h1:s.toList∈(l.map ByteArray.toList).mergeSort fun x y=>decide (x<=y):=(List.mergeSort_perm ..).symm.subset (List.mem_map_of_mem h);refine aas.2 ⟨s.toList,h1,?_⟩;exact xG (ByteArray.toList_eq s)
theorem Ei {es:List Pt}:∀(n a:Nat) (ls:List ByteArray) (ks:List Nat),dF es n a=some ks->(∀i∈ks,i<es.length)->jN es n a ls=some (ls++ks.map (wI es))
 |0,a,ls,ks,h,_=>by
  unfold dF at h;injection h with h
  subst h
  simp [jN]
 |n+1,a,ls,ks,h,hlt=>by
  unfold dF at h;split at h
  ·cases h
  rename_i j hj;rw [aaE] at h;obtain ⟨l2,h1,rfl⟩:=h;have ha:a<es.length:=hlt a (by simp);unfold jN;rw [bA ha];dsimp only;rw [hj];dsimp only;rw [Ei n j _ l2 h1 fun i hi=>hlt i (by simp [hi])];have:wI es a=(es[a]).lb:=by unfold wI;rw [bA ha];rfl
  simp [this]
theorem Pq {es:List Pt}:∀(n a:Nat) (ks:List Nat),dF es n a=some ks->∀i∈ks,i<es.length
 |0,a,ks,h=>by
  unfold dF at h;injection h with h
  subst h;intro i hi
  cases hi
 |n+1,a,ks,h=>by
  unfold dF at h;split at h
  ·cases h
  rename_i j hj;rw [aaE] at h;obtain ⟨l2,h1,rfl⟩:=h;intro i hi;rcases oJ.1 hi with rfl|hi
  ·have:=(show EA es 1 i j from hj).lt
   omega
  ·exact Pq n j l2 h1 i hi
theorem abn {t u:List Nd} (gt:Gd t) (gu:Gd u) (h:(aQ t).k=0):jA t u=true:=by
 have hf:=gt.fo;have hs:=gt.s;have hf2:=gu.fo;have hs2:=gu.s
 cases t with
 |nil=>exact absurd hf.pos (by simp)
 |cons x xt=>
  cases u with
  |nil=>exact absurd hf2.pos (by simp)
  |cons y yt=>
   unfold jA;rw [u7 hf hf2 (show x.s=y.s from (show x.s=bZ from hs).trans (show y.s=bZ from hs2).symm) (.inl h)];rfl
theorem R_ {p:Pt} (h:p.k=8):aP p=1:=by unfold aP;simp [h]
theorem ahi {e:Br} {m:List Nd} (h8:e.1.k=8) (h:eH 1 e.2.1):eH 1 (mZ m e):=eH.cons (by rw [R_ h8];exact h.to _ _)
theorem zU {env':Env} {f0:Nat} {u w m:List Nd} (hq:Q2 u w) (gw:Gd w):∀(Bs:List Br) (g:Nat) (es2:List Pt) (a2:Nat) (bL:Env) (ts:List (List Nd)) (l:List Br),f0<=g->
  (∀e∈Bs,∃v,bJ u e.1.lb=some v/\qE f0 (env'++[(e.1.bd,v)]) (toM e.2.1 e.2.2 m) m)->At es2 a2 (Bs.flatMap (mZ m))->gI env' bL->
  ∃Ts:List (List Nd),Ts.length=Bs.length/\(∀z∈Ts,Q2 m z/\Gd z)/\eu (gW g es2) es2 bL w Bs.length a2 ts=some (.ok (ts++Ts,a2+(Bs.flatMap (mZ m)).length))/\
   ∃L2,fI (cst g es2) es2 bL w Bs.length a2 l=some (l++L2,a2+(Bs.flatMap (mZ m)).length)/\L2.map (fun e=>e.2.2)=Ts/\∀m2,Q2 m m2->L2.flatMap (mZ m2)=Bs.flatMap (mZ m)
 |[],g,es2,a2,bL,ts,l,_,_,_,_=>⟨[],rfl,fun z hz=>by (cases hz),by simp [eu],[],by simp [fI],rfl,fun m2 _=>rfl⟩
 |e::Bs,g,es2,a2,bL,ts,l,hg,hB,hat,hE=>by
  obtain ⟨v,hv,F⟩:=hB e (by simp);rw [iJ] at hat;have hh:es2[a2]?=some e.1:=hat.left.head;have ht:At es2 (a2+1) (toM e.2.1 e.2.2 m):=hat.left.tail;obtain ⟨v2,q1,q2⟩:=hq.field hv;obtain ⟨z,d1,d2,d3,d4⟩:=F.at hg ht (hE.app (.one (s:=e.1.bd) q2 (qd gw q1)));have hln:(mZ m e).length=1+(toM e.2.1 e.2.2 m).length:=by unfold mZ;rw [mX];omega
  have Bc:=hat.right;rw [hln,<-aaS] at Bc;obtain ⟨Ts,k1,k2,k3,L2,k4,k5,k6⟩:=zU hq gw Bs g es2 _ bL (ts++[z]) (l++[(e.1,toM e.2.1 e.2.2 m,z)]) hg (fun x hx=>hB x (by simp [hx])) Bc hE;have hfl:a2+((e::Bs).flatMap (mZ m)).length=a2+1+(toM e.2.1 e.2.2 m).length+(Bs.flatMap (mZ m)).length:=by rw [iJ,jX,hln];omega
  refine ⟨z::Ts,by simp [k1],fun y hy=>?_,?_,(e.1,toM e.2.1 e.2.2 m,z)::L2,?_,by simp [k5],fun m2 hm2=>?_⟩
  ·rcases oJ.1 hy with rfl|hy
   ·exact ⟨d3,d4⟩
   ·exact k2 y hy
  ·rw [mX]
   unfold eu;rw [hh];dsimp only;rw [q1,aaT,d1];dsimp only;rw [k3,hfl,kE];rfl
  ·rw [mX]
   unfold fI;rw [hh];dsimp only;rw [q1];dsimp only;rw [d2];dsimp only;rw [k4,hfl,kE];rfl
  ·rw [iJ,iJ,k6 m2 hm2]
   congr 1
   unfold mZ;dsimp only;rw [j_ (d3.symm.trans hm2)]
section
variable {es:List Pt} {f:Nat} {env env':Env}
theorem BX (hI:MN es) (hK:AJ es f) (hE:gI env env') {ot u:List Nd}:∀(n a:Nat) (ts us:List (List Nd)) (l:List Br) (b:Nat) (ks:List Nat),eu (jm f es) es env ot n a ts=some (.ok (us,b))->dF es n a=some ks->(∀i∈ks,∀q,es[i]?=some q->q.k=8)->
  (∀i∈ks,∃v v',bJ ot (wI es i)=some v/\bJ u (wI es i)=some v'/\Q2 v v'/\Gd v')->
  ∃(Bs:List Br) (Us:List (List Nd)),Bs.length=n/\fI (cst f es) es env' u n a l=some (l++Bs,b)/\us=ts++Us/\Us.length=n/\(∀(i:Nat) (t t':List Nd),Us[i]?=some t->(Bs.map fun e=>e.2.2)[i]?=some t'->Q2 t t'/\Gd t')/\(∀z∈Us,Gd z)/\EA es n a b/\a<=b/\(Bs.map fun e=>e.1.lb)=ks.map (wI es)/\(Bs.map fun e=>e.2.1.length+2).sum<=2*(b-a)/\
   ∀e∈Bs,e.1.k=8/\e.1∈es/\(∃v',bJ u e.1.lb=some v'/\fU (env'++[(e.1.bd,v')]) e.2.1 e.2.2/\(env'++[(e.1.bd,v')]).length<=900000)/\eH 1 e.2.1/\pI e.2.1 e.2.2/\dZ e.2.1/\e.2.1.length<=2000
 |0,a,ts,us,l,b,ks,h,hkd,_,_=>by
  unfold eu at h;injection h with h
  injection h with h
  injection h with h1 h2
  subst h1 h2;unfold dF at hkd;injection hkd with hkd
  subst hkd
  exact ⟨[],[],rfl,by simp [fI],by simp,rfl,fun i t t' ht=>by (simp at ht),fun z hz=>by (cases hz),by unfold EA;exact wH _ _,aG _,rfl,by simp,fun e he=>by (cases he)⟩
 |n+1,a,ts,us,l,b,ks,h,hkd,h8,hF=>by
  unfold eu at h;split at h
  ·cases h
  rename_i x hx
  have ha:a∈ks:=by
   unfold dF at hkd;split at hkd
   ·cases hkd
   ·rw [aaE] at hkd
    obtain ⟨l2,_,rfl⟩:=hkd;simp
  have VF:=h8 a ha x hx;have hlx:wI es a=x.lb:=by unfold wI;rw [hx];rfl
  obtain ⟨v,v',f1,f2,f3,f4⟩:=hF a ha;rw [hlx] at f1 f2;rw [f1,aaT] at h
  cases h1:jm f es (env++[(x.bd,v)]) (a+1) with
  |none=>rw [h1] at h;cases h
  |some y=>
   rw [h1] at h
   match y,h1,h with
   | .error _,_,h=>cases h
   | .ok (t,c),h1,h=>
    dsimp only at h;obtain ⟨y,t',S⟩:=hK _ _ _ _ h1 (yT hI hx (by omega) (by rw [R_ VF];exact aG _)) (env'++[(x.bd,v')]) (hE.app (.one f3 f4));have he1:EA es 1 a c:=zm hx (R_ VF) S.e;obtain ⟨l2,rfl,hk2⟩:=qx hkd he1;obtain ⟨Bs,Us,k1,k2,k3,k4,k5,k5b,k6,k7,k8,k9,k10⟩:=BX hI hK hE n c (ts++[t]) us (l++[(x,y,t')]) b l2 h hk2 (fun i hi=>h8 i (by simp [hi])) fun i hi=>hF i (by simp [hi]);have hlt:=S.lt;have hln:=S.ln;have G:=S.gd;refine ⟨(x,y,t')::Bs,t::Us,by simp [k1],?_,by rw [k3,kE];rfl,by simp [k4],?_,?_,he1.join k6,by omega,?_,?_,?_⟩
    ·unfold fI
     rw [hx];dsimp only;rw [f2];dsimp only;rw [S.c];dsimp only;rw [k2,kE];rfl
    ·intro i t2 t3 ht2 ht3
     cases i with
     |zero=>
      simp at ht2 ht3;subst ht2 ht3
      exact ⟨S.q,G.gd⟩
     |succ i=>exact k5 i t2 t3 (by simpa using ht2) (by simpa using ht3)
    ·intro z hz
     rcases oJ.1 hz with rfl|hz
     ·exact (ok5 h1).1
     ·exact k5b z hz
    ·simp [k8,hlx]
    ·simp only [Nc,aaR]
     omega
    ·intro e he
     rcases oJ.1 he with rfl|he
     ·refine ⟨VF,Ox hx,⟨v',f2,S.full,?_⟩,S.tr,G,S.ok,?_⟩
      ·have h9:=S.c
       cases f with
       |zero=>cases h9
       |succ f=>
        obtain ⟨_,_,h10,_⟩:=vJ h9;exact h10
      ·have:=hI.len
       dsimp only;omega
     ·exact k10 e he
end
theorem Pv {m:List Nd}:∀(Bs:List Br),(∀e∈Bs,eH 1 (mZ m e))->eH Bs.length (Bs.flatMap (mZ m))
 |[],_=>eH.nil
 |e::Bs,h=>by
  rw [iJ,mX,Nat.add_comm];exact (h e (by simp)).app (Pv Bs fun x hx=>h x (by simp [hx]))
theorem Kr {m:List Nd}:∀(Bs:List Br),(Bs.flatMap (mZ m)).length<=(Bs.map fun e=>e.2.1.length+2).sum
 |[]=>by simp
 |e::Bs=>by
  have h1:=Kr (m:=m) Bs;have h2:=bS e.2.1 e.2.2 m;have h3:(mZ m e).length=1+(toM e.2.1 e.2.2 m).length:=by unfold mZ;rw [mX];omega
  rw [iJ,jX,Nc,aaR];omega
theorem Pw {m:List Nd}:∀(Bs:List Br),(∀e∈Bs,dZ (mZ m e))->dZ (Bs.flatMap (mZ m))
 |[],_=>fun q hq=>by cases hq
 |e::Bs,h=>by
  rw [iJ];exact m_ (h e (by simp)) (Pw Bs fun x hx=>h x (by simp [hx]))
theorem Px {env':Env} {u m:List Nd}:∀(Bs:List Br),(∀e∈Bs,∃v,bJ u e.1.lb=some v/\fU (env'++[(e.1.bd,v)]) (toM e.2.1 e.2.2 m) m)->∃f0,∀e∈Bs,∃v,bJ u e.1.lb=some v/\qE f0 (env'++[(e.1.bd,v)]) (toM e.2.1 e.2.2 m) m
 |[],_=>⟨0,fun e he=>by cases he⟩
 |e::Bs,h=>by
  obtain ⟨v,h1,f1,h2⟩:=h e (by simp);obtain ⟨f2,h3⟩:=Px Bs fun x hx=>h x (by simp [hx]);refine ⟨f1+f2,fun x hx=>?_⟩;rcases oJ.1 hx with rfl|hx
  ·exact ⟨v,h1,h2.mono (by omega)⟩
  ·obtain ⟨v2,k1,k2⟩:=h3 x hx
   exact ⟨v2,k1,k2.mono (by omega)⟩
theorem Jl {m:List Nd} (Bs:List Br):Bs.flatMap (mZ m)=(Bs.map (mZ m)).flatten:=by rw [List.flatMap_def]
theorem Kt:∀{ts:List (List Nd)} {t m m2:List Nd} {a b:Nat},bT a t ts=some (.ok m)->bT b t ts=some (.ok m2)->m=m2
 |[],t,m,m2,a,b,h,k=>by
  unfold bT at h k;injection h with h
  injection h with h
  injection k with k
  injection k with k
  rw [<-h,<-k]
 |u::ts,t,m,m2,a,b,h,k=>by
  unfold bT at h k
  cases h1:met 1 t u with
  |none=>rw [h1] at h;cases h
  |some m1=>
   rw [h1] at h k;dsimp only at h k;split at h
   ·rename_i hg
    rw [if_pos hg] at k;exact Kt h k
   ·cases h
section
variable {es:List Pt} {f:Nat} {env env':Env} {a b:Nat} {p:Pt} {t:List Nd}
variable (hI:MN es) (hK:AJ es f) (hp:es[a]?=some p) (hE:gI env env') (hl:env.length<=900000) (ho:qO p) (hx:yQ p) (hg:Gd t) (htl:t.length<=5000000)
include hI hK hp hE hl ho hx hg htl
theorem VR (hk:p.k=7) (hw:oN (jm f es) es env p a (a+1)=some (.ok (t,b))):∃x t',uT es (f+1) env' a b t x t':=by
 have hE':env'.length<=900000:=by rw [<-hE.len];exact hl
 have hpo:=hI.ok p (Ox hp);have hes:=hI.len;unfold oN at hw;split at hw
 rotate_left
 ·cases hw
 rename_i hmn;obtain ⟨n,hn⟩:∃n:Nat,p.mn=(n:Int):=⟨p.mn.toNat,by omega⟩;rw [show p.mn.toNat=n by omega] at hw;have hm:aP p=n+1:=by unfold aP;simp [hk];omega
 have hn1:1<=n/\n<=50:=by omega
 obtain ⟨ot,b1,h1,hw⟩:=oh hw;obtain ⟨l,hl1,hl2⟩:=hI.kids a p hp;rw [hm] at hl1
 have hk8:∀q,es[a+1]?=some q->q.k≠8:=fun q hq h8=>by
  have h3:l[0]?=some (a+1):=by
   unfold dF at hl1;split at hl1
   ·cases hl1
   ·rw [aaE] at hl1
    obtain ⟨l2,_,rfl⟩:=hl1;rfl
  have:=(hl2.kind 0 _ q h3 hq).1 h8;omega
 obtain ⟨y0,t0,S0⟩:=hK _ _ _ _ h1 hk8 env' hE;obtain ⟨ks,rfl,hks⟩:=qx hl1 S0.e
 have hlen:ks.length=n:=by
  have:=hl2.len;rw [hm,mX] at this;omega
 have hkl:=Pq n b1 ks hks
 have uq:kQ es ot a=some true:=by
  cases h9:kQ es ot a with
  |none=>rw [h9] at hw;cases hw
  |some v=>
   cases v with
   |false=>rw [h9] at hw;cases hw
   |true=>rfl
 rw [uq] at hw;dsimp only at hw
 obtain ⟨tags,O_,hor⟩:∃tags,kI ot=some tags/\((aQ ot).k=0\/tags=kZ (ks.map (wI es))):=by
  unfold kQ at uq;rw [hp] at uq;dsimp only at uq;rw [hm,hl1] at uq;dsimp only at uq
  cases O_:kI ot with
  |none=>rw [O_] at uq;cases uq
  |some tags=>
   rw [O_] at uq;dsimp only at uq;injection uq with uq
   rw [Bool.or_eq_true,decide_eq_true_eq,decide_eq_true_eq] at uq;exact ⟨tags,rfl,uq⟩
 cases hcg:eu (jm f es) es env ot n b1 [] with
 |none=>rw [hcg] at hw;cases hw
 |some y=>
 rw [hcg] at hw
 match y,hcg,hw with
 | .error _,_,hw=>cases hw
 | .ok ([],c),_,hw=>cases hw
 | .ok (t1::ts,c),hcg,hw=>
 dsimp only at hw
 cases hmm:bT a t1 ts with
 |none=>rw [hmm] at hw;cases hw
 |some y=>
 rw [hmm] at hw
 match y,hmm,hw with
 | .error _,_,hw=>cases hw
 | .ok m,hmm,hw=>
 injection hw with hw
 injection hw with hw
 injection hw with z1 z2
 subst z1 z2;have G0:=S0.gd
 have hall:∀i∈ks,∃x,es[i]?=some x/\wI es i=x.lb/\x.k=8/\tZ x.lb=true:=fun i hi=>by
  obtain ⟨j,hj⟩:=List.getElem?_of_mem hi;have hlt:=hkl i hi;refine ⟨es[i],bA hlt,by unfold wI;rw [bA hlt];rfl,?_,?_⟩
  ·exact (hl2.kind (j+1) i _ (by simpa using hj) (bA hlt)).2 ⟨hk,by omega⟩
  ·exact hl2.tag (j+1) i _ (by simpa using hj) (bA hlt) hk (by omega)
 obtain ⟨Lb,Sb⟩:∃Lb,Lb=ks.map (wI es):=⟨_,rfl⟩;have KU:Lb.length=n:=by rw [Sb,Qx,hlen]
 have hnd:Lb.Nodup:=by
  rw [Sb];unfold List.Nodup;rw [List.pairwise_map,List.pairwise_iff_getElem];intro i j hi hj hij;obtain ⟨x,hx1,hx2,_,hx4⟩:=hall ks[i] (aaO hi);obtain ⟨y,hy1,hy2,_,hy4⟩:=hall ks[j] (aaO hj);rw [hx2,hy2];refine hl2.diff (i+1) (j+1) _ _ x y (by omega) (by simp [bA hi]) (by simp [bA hj]) hx1 hy1 fun e=>?_;rw [e] at hy4;exact absurd hy4 (by decide)
 have hbr:jQ 7 Lb Lb.length=false/\Lb.Nodup:=by
  refine ⟨?_,hnd⟩;unfold jQ kX;simp only [Bool.or_eq_false_iff];refine ⟨⟨⟨⟨rfl,by simp⟩,by simp;omega⟩,by simp;intro e;rw [e] at KU;simp at KU;omega⟩,?_⟩;rw [l8,List.any_eq_false];intro s hs;rw [Sb] at hs;obtain ⟨i,hi,rfl⟩:=aas.1 hs;obtain ⟨x,_,hx2,_,hx4⟩:=hall i hi;simp [bR,hx2,hx4]
 obtain ⟨u,hu,gu,lu,hu0,htu,hag,hfu⟩:∃u,rC es n b1 t0=some u/\Gd u/\u.length<=5000000/\(aQ u).k≠0/\kI u=some (kZ Lb)/\jA t0 u=true/\(∀s∈Lb,∃v v',bJ ot s=some v/\bJ u s=some v'/\Q2 v v'/\Gd v'):=by
  by_cases h0:(aQ ot).k=0
  ·have h0':(aQ t0).k=0:=by rw [<-S0.q.k];exact h0
   obtain ⟨g1,g2⟩:=R4 hnd (by omega) (by omega);refine ⟨rU Lb,?_,g1,by omega,(show (7:Int)≠0 by decide),MK hnd,abn G0.gd g1 h0',fun s hs=>⟨wQ,ay 0,?_,Jk hnd hs,rfl,by decide⟩⟩
   ·unfold rC
    rw [if_pos h0',Ei n b1 [] ks hks hkl,aar,<-Sb];dsimp only;rw [if_pos hbr];rfl
   ·unfold bJ
    rw [if_pos h0]
  ·have h0':(aQ t0).k≠0:=by rw [<-S0.q.k];exact h0
   have hts:tags=kZ Lb:=by rw [Sb];exact hor.resolve_left h0
   refine ⟨t0,?_,G0.gd,G0.tl,h0',by rw [S0.q.tags,O_,hts],(Q2.refl t0).oZ G0.gd.fo,fun s hs=>?_⟩
   ·unfold rC
    rw [if_neg h0']
   ·obtain ⟨v,hv⟩:=FK O_ (.inr (by rw [hts];exact R9 hs))
    obtain ⟨v',e1,e2⟩:=S0.q.field hv;exact ⟨v,v',hv,e1,e2,qd G0.gd e1⟩
 obtain ⟨Bs,Us,k1,k2,k3,k4,k5,k5b,k6,k7,k8,k9,k10⟩:=BX hI hK hE (u:=u) n b1 [] (t1::ts) [] c ks hcg hks (fun i hi q hq=>by
  obtain ⟨x,hx1,_,hx3,_⟩:=hall i hi;rw [hx1] at hq;injection hq with hq
  rw [<-hq];exact hx3) (fun i hi=>hfu _ (by rw [Sb];exact List.mem_map_of_mem hi))
 rw [aar] at k2 k3;subst k3;rw [<-Sb] at k8
 obtain ⟨e0,Br',CW⟩:∃e0 Br',Bs=e0::Br':=by
  cases Bs with
  |nil=>simp at k1;omega
  |cons e0 B=>exact ⟨e0,B,rfl⟩
 have hgt1:Gd t1:=k5b t1 (by simp);obtain ⟨m',mm,mq,gm⟩:=Pk ts (Br'.map fun e=>e.2.2) t1 e0.2.2 m a 0 (k5 0 _ _ rfl (by rw [CW];rfl)).1 (k5 0 _ _ rfl (by rw [CW];rfl)).2 (by rw [CW] at k1;simp at k1 k4;simp;omega) (fun i z z' hz hz'=>k5 (i+1) z z' (by simpa using hz) (by rw [CW];simpa using hz')) hgt1 hmm;have lm:m'.length<=5000000:=by rw [<-mq.len];exact htl
 obtain ⟨rf1,rf2,_⟩:=Ko (Br'.map fun e=>e.2.2) e0.2.2 m' 0 (k5 0 _ _ rfl (by rw [CW];rfl)).2 (fun z hz=>by
  obtain ⟨e,he,rfl⟩:=aas.1 hz;exact (k10 e (by rw [CW];simp [he])).2.2.2.2.1.gd) mm
 have akt:∀e∈Bs,jA e.2.2 m'=true:=fun e he=>by
  rw [CW] at he;rcases oJ.1 he with rfl|he
  ·exact rf1.ag
  ·exact (rf2 _ (aas.2 ⟨e,he,rfl⟩)).ag
 have hFB:∀e∈Bs,∃v,bJ u e.1.lb=some v/\fU (env'++[(e.1.bd,v)]) (toM e.2.1 e.2.2 m') m':=fun e he=>by
  obtain ⟨_,_,⟨v,j1,j2,j3⟩,_,j5,_,j7⟩:=k10 e he;exact ⟨v,j1,j2.to j5.gd gm (akt e he) j3 (by omega) lm⟩
 have Qf:∀e∈Bs,eH 1 (mZ m' e):=fun e he=>ahi (k10 e he).1 (k10 e he).2.2.2.1;have hl0:=S0.lt;have hn0:=S0.ln;have n0:=bS y0 t0 u;have am6:=Kr (m:=m') Bs;have hel:=k6.lt;have hF0:=S0.full.to G0.gd gu hag hE' (by omega) lu;refine mg hI hp hE hl hx htl (x:=p::(toM y0 t0 u++Bs.flatMap (mZ m'))) (t':=m') ?_ mq gm (EA.close hp (by rw [hm];exact S0.e.join k6)) (eH.cons (by rw [hm,Nat.add_comm,<-k1];exact (S0.tr.to _ _).app (Pv Bs Qf))) (by rw [mX,jX];omega) rfl ?_ (fu hpo (m_ (lF S0.ok _ _) (Pw Bs fun e he=>fu (hI.ok _ (k10 e he).2.1) (lF (k10 e he).2.2.2.2.2.1 _ _))))
 ·rw [(show dG (cst f es) es env' p (a+1)=uQ (cst f es) es env' p (a+1) from by unfold dG;simp [hk])]
  unfold uQ;rw [if_pos ⟨hmn.1,hmn.2.1⟩,S0.c];dsimp only [fF];rw [show p.mn.toNat=n by omega,hu];dsimp only;rw [if_pos ⟨gu,lu⟩,k2,CW];dsimp only;rw [mm];dsimp only;rw [if_pos lm];rfl
 ·obtain ⟨f1,F0⟩:=hF0
  obtain ⟨f2,FB⟩:=Px Bs hFB;refine fU.mk ho hx hE' (by rw [jX];omega) lm (f1+f2) fun s g hg0 es2 a2 bL hat hp2 hE2 hl2=>?_;obtain ⟨v0,d1,d2,d3,d4⟩:=F0.at (f:=g) (by omega) hat.left hE2;obtain ⟨Ts,c1,c2,c3,L2,c4,c5,c6⟩:=zU (f0:=f2) d3 d4 Bs g es2 _ bL [] [] (by omega) FB hat.right hE2;rw [aar,k1] at c3 c4;have hv0:(aQ v0).k≠0:=by rw [<-d3.k];exact hu0
  have hlv:v0.length<=5000000:=by rw [<-d3.len];exact lu
  have htag:kQ es2 v0 a2=some true:=by
   obtain ⟨l2,r1,r2⟩:=Kh (toM y0 t0 u::Bs.map (mZ m')) es2 (a2+1) (fun x hx=>by
    rcases oJ.1 hx with rfl|hx
    ·exact S0.tr.to _ _
    ·obtain ⟨e,he,rfl⟩:=aas.1 hx
     exact Qf e he) (by rw [List.flatten_cons,<-Jl];exact hat)
   have hmp:aP {p with lb:=s}=(toM y0 t0 u::Bs.map (mZ m')).length:=by rw [VD,hm,mX,Qx,k1]
   unfold kQ;rw [hp2];dsimp only;rw [hmp,r1]
   cases l2 with
   |nil=>simp at r2
   |cons i0 zy=>
    dsimp only;rw [d3.tags,htu];dsimp only
    have h5:zy.map (fun i=>((es2[i]?).getD default).lb)=Lb:=by
     have h6:=congrArg List.tail r2;simp only [Nc,List.tail_cons] at h6;rw [S_] at h6;exact h6.trans k8
    rw [h5];simp
  obtain ⟨z0,Tr,hTs⟩:∃z0 Tr,Ts=z0::Tr:=by
   cases Ts with
   |nil=>simp at c1;omega
   |cons z0 Tr=>exact ⟨z0,Tr,rfl⟩
  obtain ⟨e2,Lr,hL2⟩:∃e2 Lr,L2=e2::Lr:=by
   cases L2 with
   |nil=>rw [hTs] at c5;simp at c5
   |cons e2 Lr=>exact ⟨e2,Lr,rfl⟩
  rw [hL2,hTs] at c5;simp only [Nc,List.cons.injEq] at c5;obtain ⟨c7,c8⟩:=c5;have hz0:=c2 z0 (by rw [hTs];simp);obtain ⟨m2,r1,r2,r3⟩:=yS Tr z0 m' a2 hz0.1 hz0.2 gm fun z hz=>c2 z (by rw [hTs];simp [hz]);obtain ⟨m3,r4,r5,r6⟩:=yS Tr z0 m' 0 hz0.1 hz0.2 gm fun z hz=>c2 z (by rw [hTs];simp [hz]);have aku:m3=m2:=Kt r4 r1;subst aku;have lm2:m3.length<=5000000:=by rw [<-r5.len];exact lm
  refine ⟨m3,?_,?_,r5,r6⟩
  ·rw [(show fV (gW g es2) es2 bL {p with lb:=s} a2 (a2+1)=oN (gW g es2) es2 bL {p with lb:=s} a2 (a2+1) from by unfold fV;simp [hk])]
   unfold oN;dsimp only;rw [if_pos ⟨hmn.1,hmn.2.1,hl2⟩,d1];dsimp only [dB];rw [htag];dsimp only;rw [show p.mn.toNat=n by omega,c3,hTs];dsimp only;rw [r1];dsimp only;rw [jX,aaS]
  ·rw [(show dG (cst g es2) es2 bL {p with lb:=s} (a2+1)=uQ (cst g es2) es2 bL {p with lb:=s} (a2+1) from by unfold dG;simp [hk])]
   unfold uQ;dsimp only;rw [if_pos ⟨hmn.1,hmn.2.1⟩,d2];dsimp only [fF];unfold rC;rw [if_neg hv0];dsimp only;rw [if_pos ⟨d4,hlv⟩,show p.mn.toNat=n by omega,c4,hL2];dsimp only;rw [c7,c8,r4];dsimp only;have h9:=c6 m3 r5;rw [hL2] at h9;rw [if_pos lm2,h9,j_ (Q2.refl v0),jX,aaS];rfl
end
theorem Py {es:List Pt} (hI:MN es):∀f,AJ es f
 |0=>fun env a t b h=>by cases h
 |f+1=>fun env a t b h _ env' hE=>by
  have hK:=Py hI f;obtain ⟨p,hp,hl,ho,hx,hw,hg,htl⟩:=Io h;unfold fV at hw;by_cases h0:p.k=0
  ·rw [if_pos h0] at hw
   exact ZK hI hp hE hl ho hx hg htl h0 hw
  rw [if_neg h0] at hw;by_cases h1:p.k=1
  ·rw [if_pos h1] at hw
   exact VN hI hp hE hl ho hx hg htl h1 hw
  rw [if_neg h1] at hw;by_cases h2:p.k=2
  ·rw [if_pos h2] at hw
   exact ZL hI hK hp hE hl ho hx hg htl h2 hw
  rw [if_neg h2] at hw;by_cases h3:p.k=3
  ·rw [if_pos h3] at hw
   exact ZO hI hK hp hE hl ho hx hg htl h3 hw
  rw [if_neg h3] at hw;by_cases h4:p.k=4
  ·rw [if_pos h4] at hw
   exact ZP hI hK hp hE hl ho hx htl h4 hw
  rw [if_neg h4] at hw;by_cases h5:p.k=5
  ·rw [if_pos h5] at hw
   exact ZQ hI hK hp hE hl ho hx htl h5 hw
  rw [if_neg h5] at hw;by_cases h6:p.k=6
  ·rw [if_pos h6] at hw
   exact abj hI hK hp hE hl ho hx hg htl h6 hw
  rw [if_neg h6] at hw;by_cases h7:p.k=7
  ·rw [if_pos h7] at hw
   exact VR hI hK hp hE hl ho hx hg htl h7 hw
  rw [if_neg h7] at hw;by_cases h9:p.k=9
  ·rw [if_pos h9] at hw
   exact abk hI hK hp hE hl ho hx hg htl h9 hw
  rw [if_neg h9] at hw;by_cases h10:p.k=10
  ·rw [if_pos h10] at hw
   exact VQ hI hK hp hE hl ho hx hg htl h10 hw
  rw [if_neg h10] at hw;by_cases h11:p.k=11
  ·rw [if_pos h11] at hw
   exact ZR hI hK hp hE hl ho hx hg htl h11 hw
  rw [if_neg h11] at hw;by_cases h12:p.k=12
  ·rw [if_pos h12] at hw
   exact ZT hI hK hp hE hl ho hx hg htl h12 hw
  rw [if_neg h12] at hw;by_cases pG:p.k=13
  ·rw [if_pos pG] at hw
   exact abl hI hK hp hE hl hx hg htl pG hw
  rw [if_neg pG] at hw;by_cases rQ:p.k=14
  ·rw [if_pos rQ] at hw
   exact VO hI hK hp hE hl ho hx hg htl rQ hw
  rw [if_neg rQ] at hw
  cases hw
open Go Go.RowKit
section
variable {α:Type} (k:α->Int) (put:α->Int->α)
def jT (n:Nat):List α->List α
 |[]=>[]
 |x::xs=>if k x=14 then put x ((n+1:Nat):Int)::jT (n+1) xs else x::jT n xs
def ni (n:Nat):List α->Nat
 |[]=>n
 |x::xs=>if k x=14 then ni (n+1) xs else ni n xs
theorem vM:∀(n:Nat) (xs:List α),(jT k put n xs).length=xs.length
 |_,[]=>rfl
 |n,x::xs=>by
  unfold jT;split<;>simp [vM _ xs]
theorem zo:∀(n:Nat) (xs ys:List α),jT k put n (xs++ys)=jT k put n xs++jT k put (ni k n xs) ys
 |_,[],_=>rfl
 |n,x::xs,ys=>by
  rw [rM,jT,jT,ni];split
  ·rw [zo _ xs ys]
   rfl
  ·rw [zo _ xs ys]
   rfl
theorem zq:∀(n:Nat) (xs ys:List α),ni k n (xs++ys)=ni k (ni k n xs) ys
 |_,[],_=>rfl
 |n,x::xs,ys=>by
  rw [rM,ni,ni];split
  ·exact zq _ xs ys
  ·exact zq _ xs ys
theorem Ir:∀(n:Nat) (xs:List α),ni k n xs<=n+xs.length
 |_,[]=>aG _
 |n,x::xs=>by
  rw [ni,mX];split
  ·have:=Ir (n+1) xs;omega
  ·have:=Ir n xs;omega
end
abbrev tu:=jT PV.k (fun v i=>{v with num:=i})
abbrev iw:=jT Pt.k (fun p i=>{p with num:=i})
theorem dO.num {w:World} {Y:Nat->Prop}:∀(n:Nat) (vs:List PV) (xs:List Pt),dO w Y vs xs->dO w Y (tu n vs) (iw n xs)
 |_,[],[],_=>dO.nil
 |_,[],x::xs,h=>by have:=h.1;simp at this
 |_,v::vs,[],h=>by have:=h.1;simp at this
 |n,v::vs,x::xs,h=>by
  have h0:=h.2 0 v x rfl rfl;have h1:dO w Y vs xs:=⟨by have:=h.1;simpa using this,fun i u q hu hq=>h.2 (i+1) u q hu hq⟩;simp only [tu,iw] at*;by_cases hk:v.k=14
  ·rw [jT,jT,if_pos hk,if_pos (h0.k▸hk)]
   exact dO.cons ⟨h0.k,h0.lb,h0.nm,h0.bd,h0.mn,rfl,h0.tn,h0.un,h0.T,h0.U⟩ (dO.num (n+1) vs xs h1)
  ·rw [jT,jT,if_neg hk,if_neg (h0.k▸hk)]
   exact dO.cons h0 (dO.num n vs xs h1)
theorem zV (z:Int) (x:PV):∀(l:List PV) (j:Nat),l[j]?=some x->(l.set j {x with num:=z}).flatMap mM=(l.flatMap mM).set (j*8+5) (.int .i64 z)
 |[],j,h=>by simp at h
 |y::l,0,h=>by
  simp at h;subst h;rw [List.set_cons_zero,iJ,iJ]
  rfl
 |y::l,j+1,h=>by
  rw [List.getElem?_cons_succ] at h;rw [List.set_cons_succ,iJ,iJ,zV z x l j h,aay _ _ (by rw [iT];omega),iT,show (j+1)*8+5-8=j*8+5 by omega]
theorem aB.ahl {w:World} {base g cap:Nat} {l:List PV} (h:gV w base (some ⟨g,0,none⟩) cap l) {j:Nat} {x:PV} (hx:l[j]?=some x) (z:Int):
  w.cell? ⟨g,j*8+5,none⟩=some (.int .i64 x.num)/\w.frozen? ⟨g,j*8+5,none⟩=false/\gV (w.setCell ⟨g,j*8+5,none⟩ (.int .i64 z)) base (some ⟨g,0,none⟩) cap (l.set j {x with num:=z}):=by
 obtain ⟨b,o,e1,hb,hc⟩:=aB.read iT h (fun e=>by rw [e] at hx;simp at hx);injection e1 with e1
 injection e1 with e1 e2
 subst e1 e2;have c5:=hc j x hx 5 _ rfl;rw [iC] at c5;have h':w.ownsRow base 33 8 (.slice (some ⟨g,0,none⟩) l.length cap) l.length (l.flatMap mM):=h;obtain ⟨h2,_⟩:=World.ownsRow.stored h' (j*8+5) (.int .i64 z);refine ⟨c5,World.ownsRow.frozenAt h' _,?_⟩;show (w.setCell ⟨g,j*8+5,none⟩ (.int .i64 z)).ownsRow base 33 8 (.slice (some ⟨g,0,none⟩) (l.set j {x with num:=z}).length cap) (l.set j {x with num:=z}).length ((l.set j {x with num:=z}).flatMap mM);rw [List.length_set,zV z x l j hx];exact h2
def ZX (Y:Nat->Prop) (n0:Nat) (xs:List Pt) (w:World) (e:Ending) (w':World):Prop:=
 Below w.heap.size w w'/\∃A c,e= .returned (.tuple #[.slice A xs.length c,.int .i64 (ni Pt.k n0 xs:Nat)])/\bP w' Y A c (iw n0 xs)
theorem MQ {w:World} {Y:Nat->Prop}:∀(n:Nat) (vs:List PV) (xs:List Pt),dO w Y vs xs->ni PV.k n vs=ni Pt.k n xs
 |_,[],[],_=>rfl
 |_,[],x::xs,h=>by have:=h.1;simp at this
 |_,v::vs,[],h=>by have:=h.1;simp at this
 |n,v::vs,x::xs,h=>by
  have h0:=h.2 0 v x rfl rfl;have h1:dO w Y vs xs:=⟨by have:=h.1;simpa using this,fun i u q hu hq=>h.2 (i+1) u q hu hq⟩;unfold ni;rw [h0.k];split
  ·exact MQ (n+1) vs xs h1
  ·exact MQ n vs xs h1
theorem MR (A:Option Addr) (c:Nat) (xs:List Pt) (n0:Nat) (hn0:n0<=1000) (Y:Nat->Prop) (w:World) (hx:bP w Y A c xs) (hne:xs≠[]) (hl:xs.length<=1000000) (hlt:∀q,Y q->q<w.heap.size):
  Calls Tryz.prog 37 #[.slice A xs.length c,.int .i64 (n0:Int)] w (ZX Y n0 xs w):=by
 obtain ⟨vs,hrd,hpm,hcp⟩:=hx;have hvl:=hpm.1;have zR:vs≠[]:=fun e=>hne (List.eq_nil_of_length_eq_zero (by rw [<-hvl,e];rfl));have hCl:=xZ A c vs w hrd.read zR (by omega);rw [hvl] at hCl;have uK:=aD hCl;have HV:Hid (dO w Y vs xs/\vs≠[]/\vs.length=xs.length/\∀q,Y q->q<w.heap.size):=aD ⟨hpm,zR,hvl,hlt⟩;clear hrd hpm hcp hvl zR hCl hne hlt;go_enter Tryz.func37,Tryz.ntmps37;go_wp2_with fail;refine uK.out.mono ?_;rintro e w1 ⟨A1,c1,rfl,hown,hb1⟩;obtain ⟨g,hA1,hgb,_⟩:=aB.form hown (aaA.2 HV.out.2.1);subst hA1;have HI0:Hid (gV w1 w.heap.size (some ⟨g,0,none⟩) c1 (tu n0 (vs.take 0)++vs.drop 0)/\Below w.heap.size w w1):=aD ⟨hown,hb1⟩;clear hown hb1 uK;go_upto_region 3 with fail
 go_loopw [1,13] (fun s1 s13 wr=>∃i:Nat,i<=xs.length/\s13= .int .i64 (i:Int)/\s1= .int .i64 ((ni PV.k n0 (vs.take i):Nat):Int)/\Hid (gV wr w.heap.size (some ⟨g,0,none⟩) c1 (tu n0 (vs.take i)++vs.drop i)/\Below w.heap.size w wr)) (fun _ s13 _=>xs.length-(Lib.intOf s13).toNat)
 case atStart=>exact ⟨0,Nat.zero_le _,rfl,rfl,HI0⟩
 case round=>
  obtain ⟨i,hi,rfl,rfl,HI⟩:=hrel;by_cases hlt:i<xs.length
  ·obtain ⟨x,hxi⟩:=aN (l:=vs) (i:=i) (by rw [HV.out.2.2.1];exact hlt)
   have hnl:(tu n0 (vs.take i)).length=i:=by rw [vM,iW];have:=HV.out.2.2.1;omega
   have hdx:vs.drop i=x::vs.drop (i+1):=(List.getElem?_eq_some_iff.1 hxi).2▸List.drop_eq_getElem_cons _;have EH:(tu n0 (vs.take i)++vs.drop i)[i]?=some x:=by rw [List.getElem?_append_right (by omega),hnl,Nat.sub_self,hdx];rfl
   obtain ⟨b2,o2,e1,hgl,hgc⟩:=aB.read iT HI.out.1 (fun e=>by rw [e] at EH;simp at EH);injection e1 with e1
   injection e1 with e1 e2
   subst e1 e2;have c0:=hgc i _ EH 0 _ rfl;have c1':=hgc i _ EH 1 _ rfl;have c2:=hgc i _ EH 2 _ rfl;have c3:=hgc i _ EH 3 _ rfl;have c4:=hgc i _ EH 4 _ rfl;have c5:=hgc i _ EH 5 _ rfl;have c6:=hgc i _ EH 6 _ rfl;have c7:=hgc i _ EH 7 _ rfl;rw [iC] at c0 c1' c2 c3 c4 c5 c6 c7;rw [Nat.add_zero] at c0;have hi0:(0:Int)<=(i:Int):=by omega
   have hi1:(i:Int)<(xs.length:Int):=by omega
   obtain ⟨N,hN⟩:∃N,N=ni PV.k n0 (vs.take i):=⟨_,rfl⟩
   have hNl:N<=2000000:=by
    have h5:=Ir PV.k n0 (vs.take i);rw [iW] at h5;omega
   have hwN:IntKind.i64.wrap ((N:Int)+1)=((N+1:Nat):Int):=IntWalk.i64_in _ (by omega);have HN:=aD hN;have HX:=aD (Cj hxi (Cj hnl (Cj hdx EH)));rw [<-hN];clear hgc hgl hxi hnl hdx EH hN;go_upto_region 5 with fail
   obtain ⟨wa,wD⟩:∃wa,wa=wr.alloc (.cells #[.int .i64 x.k,.string x.lb,.string x.nm,.string x.bd,.int .i64 x.mn,.int .i64 x.num,.slice x.TA x.tn x.tc,.slice x.UA x.un x.uc] 33):=⟨_,rfl⟩;obtain ⟨Bx,hBx⟩:∃Bx,Bx=wr.heap.size:=⟨_,rfl⟩;have hba:Below wr.heap.size wr wa:=by rw [wD];exact aj (Below.refl _ _) _
   have hbx:wa.heap[Bx]?=some (.cells #[.int .i64 x.k,.string x.lb,.string x.nm,.string x.bd,.int .i64 x.mn,.int .i64 x.num,.slice x.TA x.tn x.tc,.slice x.UA x.un x.uc] 33 (0,0)):=by rw [wD,hBx];exact heap_alloc_new _ _
   have k0:wa.cell? ⟨Bx,0,none⟩=some (.int .i64 x.k):=by simp [World.cell?,hbx]
   have HA:Hid (gV wa w.heap.size (some ⟨g,0,none⟩) c1 (tu n0 (vs.take i)++vs.drop i)/\Below w.heap.size w wa):=aD ⟨HI.out.1.below hba (aG _),au HI.out.2 hba⟩;rw [<-wD,<-hBx];clear wD hBx hba hbx c0 c1' c2 c3 c4 c5 c6 c7
   have acM:x.k=14->tu n0 (vs.take (i+1))++vs.drop (i+1)=(tu n0 (vs.take i)++vs.drop i).set i {x with num:=(N:Int)+1}/\ni PV.k n0 (vs.take (i+1))=N+1:=fun hk=>by
    obtain ⟨h1,h2,h3,h4⟩:=HX.out;have ht:vs.take (i+1)=vs.take i++[x]:=by rw [KV,h1];rfl
    constructor
    ·rw [ht,show tu n0 (vs.take i++[x])=_ from zo _ _ n0 _ _,<-HN.out,h3,aay _ _ (by omega),h2,Nat.sub_self,List.set_cons_zero,kE]
     simp [jT,hk]
    ·rw [ht,zq,<-HN.out]
     simp [ni,hk]
   have hkeep:x.k≠14->tu n0 (vs.take (i+1))++vs.drop (i+1)=tu n0 (vs.take i)++vs.drop i/\ni PV.k n0 (vs.take (i+1))=N:=fun hk=>by
    obtain ⟨h1,h2,h3,h4⟩:=HX.out;have ht:vs.take (i+1)=vs.take i++[x]:=by rw [KV,h1];rfl
    constructor
    ·rw [ht,show tu n0 (vs.take i++[x])=_ from zo _ _ n0 _ _,h3,kE]
     simp [jT,hk]
    ·rw [ht,zq,<-HN.out]
     simp [ni,hk]
   have TU:=aD (Cj acM hkeep);clear acM hkeep;by_cases hk:x.k=14
   ·have hkb:(x.k==14)=true:=by simp [hk]
    obtain ⟨f1,f2,f3⟩:=aB.ahl HA.out.1 HX.out.2.2.2 ((N:Int)+1);have HS:=aD f3;have HK:=aD (TU.out.1 hk);clear f3 hk TU;go_wp2_with fail;clear f1 f2 k0;go_roundw
    case rel=>exact ⟨i+1,by omega,by go_num,by rw [HK.out.2];first|rfl|go_num,by rw [HK.out.1];exact aD ⟨HS.out,lN HA.out.2 (p:=⟨g,i*8+5,none⟩) hgb _⟩⟩
    case measure=>simp [Lib.intOf];omega
   ·have hkb:(x.k==14)=false:=by simp [hk]
    have HK:=aD (TU.out.2 hk);clear hk TU;go_wp2_with fail;clear k0;go_roundw
    case rel=>exact ⟨i+1,by omega,by go_num,by rw [HK.out.2],by rw [HK.out.1];exact HA⟩
    case measure=>simp [Lib.intOf];omega
  ·have hie:i=xs.length:=by omega
   have HE:Hid (vs.take i=vs/\vs.drop i=[]):=aD ⟨List.take_of_length_le (by rw [HV.out.2.2.1];omega),List.drop_of_length_le (by rw [HV.out.2.2.1];omega)⟩
   have HZ:Hid (gV wr w.heap.size (some ⟨g,0,none⟩) c1 (tu n0 vs)/\Below w.heap.size w wr):=aD (by
    have h5:=HI.out;rw [HE.out.1,HE.out.2,List.append_nil] at h5;exact h5)
   rw [HE.out.1];clear hie;go_wp2_with fail;refine bodyPost_ret (v:=.tuple #[.slice (some ⟨g,0,none⟩) xs.length c1,.int .i64 ((ni PV.k n0 vs:Nat):Int)]) (by simp [results,Tryz.results37,go_sem]) rfl ?_;refine ⟨HZ.out.2,_,_,by rw [<-MQ n0 vs xs HV.out.1],⟨tu n0 vs,uJ.S9 HZ.out.1 fun a ha h5=>?_,(dO.num n0 vs xs HV.out.1).fr (Fr.below HZ.out.2) (ah.refl _ _),?_⟩⟩
   ·have h6:=(aB.lt HZ.out.1 a ha).1
    have h7:=HV.out.2.2.2 _ h5;omega
   ·have h6:=aB.l7 HZ.out.1
    rw [vM] at h6 ⊢;rw [<-HV.out.2.2.1];exact h6
def eN (p:Pt):Pt:=if p.k=14 then {p with num:=0} else p
theorem Iu (p:Pt):(eN p).k=p.k:=by unfold eN;split<;>rfl
theorem yU (p:Pt):(eN p).lb=p.lb:=by unfold eN;split<;>rfl
theorem Du (p:Pt):(eN p).nm=p.nm:=by unfold eN;split<;>rfl
theorem Dv (p:Pt):(eN p).bd=p.bd:=by unfold eN;split<;>rfl
theorem MS (p:Pt):(eN p).mn=p.mn:=by unfold eN;split<;>rfl
theorem BZ (p:Pt):(eN p).T=p.T:=by unfold eN;split<;>rfl
theorem Pz (p:Pt):(eN p).U=p.U:=by unfold eN;split<;>rfl
theorem PD (p:Pt):aP (eN p)=aP p:=by unfold aP;rw [Iu,MS]
theorem abp (p:Pt) (s:ByteArray):eN {p with lb:=s}={eN p with lb:=s}:=by
 unfold eN;by_cases h:p.k=14
 ·rw [if_pos h,if_pos h]
 ·rw [if_neg h,if_neg h]
theorem aho (p:Pt):qO (eN p)↔qO p:=by unfold qO;rw [Iu,BZ,Pz]
theorem akv (p:Pt):yQ (eN p)↔yQ p:=by unfold yQ;rw [Iu,BZ,Pz]
theorem B_ (es:List Pt) (a:Nat):(es.map eN)[a]?=(es[a]?).map eN:=List.getElem?_map ..
theorem MU:∀(xs:List Pt) (n p:Nat),d_ (xs.map eN) n p=d_ xs n p
 |[],n,p=>rfl
 |x::xs,0,p=>rfl
 |x::xs,n+1,p=>by
  show d_ (xs.map eN) (n+aP (eN x)) (p+1)=d_ xs (n+aP x) (p+1);rw [PD,MU xs]
theorem PE (es:List Pt):∀(n a:Nat),dF (es.map eN) n a=dF es n a
 |0,a=>rfl
 |n+1,a=>by
  unfold dF;rw [<-List.map_drop,MU]
  cases d_ (es.drop a) 1 a with
  |none=>rfl
  |some b=>dsimp only;rw [PE es n b]
theorem VU (es:List Pt) (t:List Nd) (a:Nat):kQ (es.map eN) t a=kQ es t a:=by
 unfold kQ;rw [B_]
 cases es[a]? with
 |none=>rfl
 |some p=>
  simp only [aaL];rw [PD,PE]
  have:∀l:List Nat,l.map (fun i=>(((es.map eN)[i]?).getD default).lb)=l.map fun i=>((es[i]?).getD default).lb:=fun l=>List.map_congr_left fun i _=>by
   rw [B_]
   cases es[i]? with
   |none=>rfl
   |some q=>exact yU q
  cases dF es (aP p) (a+1) with
  |none=>rfl
  |some l=>
   cases l with
   |nil=>rfl
   |cons i l=>dsimp only;rw [this l]
theorem Ku {nx qY:Nx} (H:∀env a,nx env a=qY env a) (es:List Pt) (env:Env):∀(n a:Nat) (fs:List eT),f_ nx (es.map eN) env n a fs=f_ qY es env n a fs
 |0,a,fs=>rfl
 |n+1,a,fs=>by
  unfold f_;rw [B_,H]
  cases es[a]? with
  |none=>rfl
  |some x=>
   simp only [aaL];rw [yU]
   match qY env a with
   |none=>rfl
   |some (.error b)=>rfl
   |some (.ok (t,b))=>exact Ku H es env n b _
theorem Iw {nx qY:Nx} (H:∀env a,nx env a=qY env a) (es:List Pt) (env:Env) (ot:List Nd):∀(n a:Nat) (ts:List (List Nd)),eu nx (es.map eN) env ot n a ts=eu qY es env ot n a ts
 |0,a,ts=>rfl
 |n+1,a,ts=>by
  unfold eu;rw [B_]
  cases es[a]? with
  |none=>rfl
  |some x=>
   simp only [aaL];rw [yU,Dv,H]
   match qY (env++[(x.bd,(bJ ot x.lb).getD [])]) (a+1) with
   |none=>rfl
   |some (.error b)=>rfl
   |some (.ok (t,b))=>exact Iw H es env ot n b _
theorem abq {nx qY:Nx} (H:∀env a,nx env a=qY env a) (es:List Pt) (env:Env) (p:Pt) (aK a:Nat):fV nx (es.map eN) env (eN p) aK a=fV qY es env p aK a:=by
 have h1:nx=qY:=funext fun e=>funext fun b=>H e b;subst h1;unfold fV Fy uE Fz DV FC FD xP oN NU sM getM DW Xk uF;simp only [Iu,Du,Dv,MS,BZ,Pz,VU,Ku (fun _ _=>rfl) es,Iw (fun _ _=>rfl) es]
theorem Sc:∀(f:Nat) (es:List Pt) (env:Env) (a:Nat),gW f (es.map eN) env a=gW f es env a
 |0,_,_,_=>rfl
 |f+1,es,env,a=>by
  unfold gW;rw [B_]
  cases es[a]? with
  |none=>rfl
  |some p=>
   simp only [aaL];rw [abq (Sc f es) es env p a (a+1)];simp only [aho]
def FN (r:dV):dV:=(r.1.map eN,r.2)
theorem abr (x:List Pt):ng (x.map eN)=ng x:=by
 cases x with
 |nil=>rfl
 |cons p x=>exact yU p
theorem PI (s:ByteArray) (x:List Pt):gP s (x.map eN)=(gP s x).map eN:=by
 cases x with
 |nil=>rfl
 |cons p x=>
  exact congrArg (fun q=>q::x.map eN) (abp p s).symm
theorem wJ (x:List Pt) (t u:List Nd):toM (x.map eN) t u=(toM x t u).map eN:=by
 unfold toM;split
 ·rfl
 ·rw [abr,PI]
  rfl
theorem jg {o o2:Option dV} {g g2:List Pt->List Nd->Nat->Option dV} (h:o=o2.map FN) (hg:∀x t b,g (x.map eN) t b=(g2 x t b).map FN):fF o g=(fF o2 g2).map FN:=by
 subst h
 match o2 with
 |none=>rfl
 |some (x,t,b)=>exact hg x t b
theorem Iy (es:List Pt):∀(n a:Nat) (ls:List ByteArray),jN (es.map eN) n a ls=jN es n a ls
 |0,a,ls=>rfl
 |n+1,a,ls=>by
  unfold jN;rw [B_,<-List.map_drop,MU]
  cases es[a]? with
  |none=>rfl
  |some x=>
   simp only [aaL]
   cases d_ (es.drop a) 1 a with
   |none=>rfl
   |some j=>dsimp only;rw [yU,Iy es n j]
section
variable {nx qY:kP} (H:∀env a,nx env a=(qY env a).map FN)
include H
theorem Iz (es:List Pt) (env:Env):∀(n a:Nat) (xs:List Pt) (fs:List eT),gy nx (es.map eN) env n a (xs.map eN) fs=(gy qY es env n a xs fs).map fun r=>(r.1.map eN,r.2)
 |0,a,xs,fs=>rfl
 |n+1,a,xs,fs=>by
  unfold gy;rw [B_,H]
  cases es[a]? with
  |none=>rfl
  |some x=>
   simp only [aaL]
   match qY env a with
   |none=>rfl
   |some (y,t,b)=>
    simp only [aaL,FN];rw [yU,<-aaF];exact Iz es env n b _ _
def MV (e:Br):Br:=(eN e.1,e.2.1.map eN,e.2.2)
omit H in
theorem ahp (m:List Nd) (l:List Br):(l.map MV).flatMap (mZ m)=(l.flatMap (mZ m)).map eN:=by
 induction l with
 |nil=>rfl
 |cons e l ih=>
  rw [Nc,iJ,iJ,ih,aaF]
  congr 1
  show eN e.1::toM (e.2.1.map eN) e.2.2 m=eN e.1::(toM e.2.1 e.2.2 m).map eN;rw [wJ]
theorem Ej (es:List Pt) (env:Env) (u:List Nd):∀(n a:Nat) (l:List Br),fI nx (es.map eN) env u n a (l.map MV)=(fI qY es env u n a l).map fun r=>(r.1.map MV,r.2)
 |0,a,l=>rfl
 |n+1,a,l=>by
  unfold fI;rw [B_]
  cases es[a]? with
  |none=>rfl
  |some x=>
   simp only [aaL];rw [yU,Dv]
   cases bJ u x.lb with
   |none=>rfl
   |some v=>
    dsimp only;rw [H]
    match qY (env++[(x.bd,v)]) (a+1) with
    |none=>rfl
    |some (y,t,b)=>
     simp only [aaL,FN];have:l.map MV++[(eN x,y.map eN,t)]=(l++[(x,y,t)]).map MV:=by rw [aaF];rfl
     rw [this];exact Ej es env u n b _
theorem abt (es:List Pt) (env:Env) (p:Pt) (a:Nat):dG nx (es.map eN) env (eN p) a=(dG qY es env p a).map FN:=by
 unfold dG;rw [Iu];by_cases h0:p.k=0
 ·rw [if_pos h0,if_pos h0];unfold OQ;rw [BZ];rfl
 rw [if_neg h0,if_neg h0];by_cases h1:p.k=1
 ·rw [if_pos h1,if_pos h1];unfold Ap;rw [Du];cases lY env p.nm<;>rfl
 rw [if_neg h1,if_neg h1];by_cases h2:p.k=2
 ·rw [if_pos h2,if_pos h2];unfold Gj;rw [Dv,BZ];exact jg (H _ _) fun x t b=>rfl
 rw [if_neg h2,if_neg h2];by_cases h3:p.k=3
 ·rw [if_pos h3,if_pos h3]
  unfold yB;refine jg (H _ _) fun x t b=>jg (H _ _) fun y u c=>?_
  cases iQ (aV t) with
  |none=>rfl
  |some r=>
   dsimp only;split
   ·simp only [aaL,FN,wJ,Nc,aaF]
   ·rfl
 rw [if_neg h3,if_neg h3];by_cases h4:p.k=4
 ·rw [if_pos h4,if_pos h4]
  unfold Gl;rw [Dv,BZ];refine jg (H _ _) fun x t b=>jg (H _ _) fun y u c=>?_;simp only [aaL,FN,wJ,Nc,aaF]
 rw [if_neg h4,if_neg h4];by_cases h5:p.k=5
 ·rw [if_pos h5,if_pos h5]
  unfold Gm;rw [Dv,BZ,Pz,Du];refine jg (H _ _) fun x t b=>jg (H _ _) fun y u c=>?_;simp only [aaL,FN,wJ,Nc,aaF]
 rw [if_neg h5,if_neg h5];by_cases h6:p.k=6
 ·rw [if_pos h6,if_pos h6]
  unfold Aq;refine jg (H _ _) fun x t b=>jg (H _ _) fun y u c=>jg (H _ _) fun z v d=>?_
  match bT 0 u [v] with
  |none=>rfl
  |some (.error e)=>rfl
  |some (.ok m)=>
   dsimp only;split
   ·simp only [aaL,FN,wJ,Nc,aaF]
   ·rfl
 rw [if_neg h6,if_neg h6];by_cases h7:p.k=7
 ·rw [if_pos h7,if_pos h7]
  unfold uQ;rw [MS];split
  ·refine jg (H _ _) fun x t b=>?_
   have hs:rC (es.map eN) p.mn.toNat b t=rC es p.mn.toNat b t:=by unfold rC;rw [Iy]
   rw [hs]
   cases rC es p.mn.toNat b t with
   |none=>rfl
   |some u=>
    dsimp only;split
    ·have hc:=Ej H es env u p.mn.toNat b []
     rw [aaD] at hc;rw [hc]
     match fI qY es env u p.mn.toNat b [] with
     |none=>rfl
     |some ([],c)=>rfl
     |some (e::l,c)=>
      simp only [aaL,Nc];have hm:(l.map MV).map (fun e=>e.2.2)=l.map fun e=>e.2.2:=by rw [S_];rfl
      rw [hm]
      have hb:∀m,eN p::toM (x.map eN) t u++(MV e::l.map MV).flatMap (mZ m)=(p::toM x t u++(e::l).flatMap (mZ m)).map eN:=fun m=>by
       rw [<-Nc,ahp,wJ,aaF,Nc]
      simp only [hb];rw [show (MV e).2.2=e.2.2 from rfl]
      cases hmm:bT 0 e.2.2 (l.map fun e=>e.2.2) with
      |none=>simp only;rfl
      |some r=>
       cases r with
       |error r=>simp only;rfl
       |ok m=>
        simp only;split
        ·rfl
        ·rfl
    ·rfl
  ·rfl
 rw [if_neg h7,if_neg h7];by_cases h9:p.k=9
 ·rw [if_pos h9,if_pos h9]
  unfold Q7;rw [Du];refine jg (H _ _) fun x t b=>jg (H _ _) fun y u c=>?_;simp only [aaL,FN,wJ,Nc,aaF]
 rw [if_neg h9,if_neg h9];by_cases h10:p.k=10
 ·rw [if_pos h10,if_pos h10]
  unfold uP;rw [MS];split
  ·have hc:=Iz H es env p.mn.toNat a [p] []
   rw [Nc,aaD] at hc;rw [hc]
   match gy qY es env p.mn.toNat a [p] [] with
   |none=>rfl
   |some (xs,fs,b)=>
    simp only [aaL];split
    ·rfl
    ·rfl
  ·rfl
 rw [if_neg h10,if_neg h10];by_cases h11:p.k=11
 ·rw [if_pos h11,if_pos h11]
  unfold Gn;rw [Du];refine jg (H _ _) fun x t b=>?_
  cases bJ t p.nm<;>rfl
 rw [if_neg h11,if_neg h11];by_cases h12:p.k=12
 ·rw [if_pos h12,if_pos h12]
  unfold Gp;rw [Du,BZ];refine jg (H _ _) fun x t b=>?_
  cases bJ p.T p.nm with
  |none=>rfl
  |some u=>
   dsimp only;split
   ·simp only [aaL,FN,wJ,Nc]
   ·rfl
 rw [if_neg h12,if_neg h12];by_cases pG:p.k=13
 ·rw [if_pos pG,if_pos pG]
  unfold Ym;rw [yU,BZ];refine jg (H _ _) fun x t b=>?_;simp only [aaL,FN,wJ,PI]
 rw [if_neg pG,if_neg pG];by_cases rQ:p.k=14
 ·rw [if_pos rQ,if_pos rQ]
  unfold wE;rw [Pz];exact jg (H _ _) fun x t b=>rfl
 rw [if_neg rQ,if_neg rQ];rfl
end
theorem Sd:∀(f:Nat) (es:List Pt) (env:Env) (a:Nat),cst f (es.map eN) env a=(cst f es env a).map FN
 |0,_,_,_=>rfl
 |f+1,es,env,a=>by
  unfold cst;rw [B_]
  cases es[a]? with
  |none=>rfl
  |some p=>
   simp only [aaL];rw [abt (Sd f es) es env p (a+1)];simp only [akv];split
   ·match dG (cst f es) es env p (a+1) with
    |none=>rfl
    |some (x,t,b)=>
     simp only [aaL,FN,Ie];by_cases hg:pI x t
     ·rw [if_pos hg,if_pos ⟨fun e=>hg.ne (List.map_eq_nil_iff.1 e),by rw [Qx];exact hg.len,hg.gd,hg.tl⟩]
      rfl
     ·rw [if_neg hg,if_neg fun k=>hg ⟨fun e=>k.ne (by rw [e];rfl),by have:=k.len;rw [Qx] at this;exact this,k.gd,k.tl⟩]
      rfl
   ·rfl
theorem EM:∀(n:Nat) (xs:List Pt),iw n (xs.map eN)=iw n xs
 |_,[]=>rfl
 |n,x::xs=>by
  show jT Pt.k _ n (eN x::xs.map eN)=jT Pt.k _ n (x::xs);by_cases h:x.k=14
  ·rw [jT,jT,if_pos (by rw [Iu];exact h),if_pos h]
   have:=EM (n+1) xs;unfold eN at this ⊢;rw [if_pos h];exact congrArg _ this
  ·rw [jT,jT,if_neg (by rw [Iu];exact h),if_neg h]
   have h1:eN x=x:=by unfold eN;rw [if_neg h]
   rw [h1];exact congrArg _ (EM n xs)
theorem EN:∀(n:Nat) (xs:List Pt),(iw n xs).map eN=xs.map eN
 |_,[]=>rfl
 |n,x::xs=>by
  show (jT Pt.k _ n (x::xs)).map eN=_;by_cases h:x.k=14
  ·rw [jT,if_pos h,Nc,Nc]
   congr 1
   ·unfold eN
    rw [if_pos h,if_pos h]
   ·exact EN (n+1) xs
  ·rw [jT,if_neg h,Nc,Nc]
   congr 1
   exact EN n xs
theorem fU.again {env:Env} {x:List Pt} {t:List Nd} (h:fU env x t) (he:gI env env):∃f t2 Z,gW f (iw 0 x) env 0=some (.ok (t2,x.length))/\cst f (iw 0 x) env 0=some (Z,t2,x.length)/\iw 0 Z=iw 0 x/\Q2 t t2:=by
 obtain ⟨f0,h⟩:=h;obtain ⟨t2,h1,h2,h3,_⟩:=h.at (aG _) (es:=x) (a:=0) ⟨[],by simp⟩ he;rw [iC] at h1 h2;have c1:=Sc f0 (iw 0 x) env 0;rw [EN,Sc,h1] at c1;have c2:=Sd f0 (iw 0 x) env 0;rw [EN,Sd,h2] at c2
 cases hc:cst f0 (iw 0 x) env 0 with
 |none=>rw [hc] at c2;cases c2
 |some r=>
  rw [hc] at c2;simp only [aaL,Option.some.injEq,FN,Prod.mk.injEq] at c2;obtain ⟨Z,t3,b3⟩:=r;dsimp only at c2;obtain ⟨e1,e2⟩:=c2;injection e2 with e2 e3
  subst e2 e3;refine ⟨f0,t2,Z,c1.symm,hc,?_,h3⟩;rw [<-EM 0 Z,<-e1,EM]
section
variable {env:Env} {es:List Pt}
def MW (env:Env) (es:List Pt):Prop:=(∀e∈env,xq e.2=true)/\∀x∈es,xq x.T=true/\xq x.U=true
theorem uo.tree (h:uo es):∀i,i<es.length->∃b,EA es 1 i b:=fun i hi=>FM (fun j p hp=>(h.lab j p hp).len) es.length i (by omega) hi
theorem uo.kids (h:uo es):∀(i:Nat) (p:Pt),es[i]?=some p->∃l,dF es (aP p) (i+1)=some l/\zP es p l:=fun i p hp=>by
 have hL:=h.lab i p hp;obtain ⟨k1,_⟩:=xR (a0:=0) (fun j _ hj=>h.tree j hj) (aP p) (i+1) (by omega) hL.len;exact ⟨_,k1,hL⟩
theorem uo.whole (h:uo es):EA es 1 0 es.length:=by
 have hpos:0<es.length:=aaA.2 h.ne;obtain ⟨b,hb⟩:=h.tree 0 hpos;have e:=Af _ _ _ _ hb;rw [l8,h.fin] at e;rw [e];exact hb
theorem ig.ok (h:ig env es):dZ es:=fun x hx=>⟨(h.right.uses x hx).k,(h.right.uses x hx).mn⟩
theorem ig.inX (h:ig env es):MN es:=⟨by have:=h.few.1;omega,h.ok,h.right.kids⟩
theorem ig.ptG (h:ig env es) {st:Bool} (hs:st=true->MW env es):∀(i:Nat) (p:Pt),es[i]?=some p->PtG st 60 p:=fun i p hp=>by
 have hm:=Ox hp;have hu:=h.right.uses p hm;have hf:=h.few.2 p hm;refine ⟨hu.k,fun h7=>⟨hu.m7 h7,hu.mn.2⟩,fun _=>hu.mn,fun hk=>?_,fun hk=>?_,hf.T,hf.U,hf.lb⟩
 ·by_cases h0:p.k=0
  ·obtain ⟨k,h1,h2,e⟩:=hu.lit h0
   rw [e];exact GT.leaf ⟨h1,h2⟩ (by omega)
  ·obtain ⟨h1,h2⟩:=hu.T (by omega)
   rw [right_eq] at h1;exact GT.of h1 h2 hf.nT (fun e=>((hs e).2 p hm).1) hf.T
 ·obtain ⟨h1,h2⟩:=hu.U hk
  rw [right_eq] at h1;exact GT.of h1 h2 hf.nU (fun e=>((hs e).2 p hm).2) hf.U
theorem ig.inE (h:ig env es) {st:Bool} (hs:st=true->MW env es):InE st 60 es:=⟨h.ptG hs,h.right.kids⟩
theorem ig.ZY (h:ig env es) {st:Bool} (hs:st=true->MW env es):tq st 70 121 env:=fun e he=>by
 obtain ⟨h1,h2,h3,h4⟩:=I8 (h.env.2 e he);exact ⟨GT.of h3 h4 h2 (fun e1=>(hs e1).1 e he) (by omega),by omega⟩
theorem ig.gdE (h:ig env es):∀e∈env,Gd e.2:=fun e he=>((h.ZY (st:=false) fun e=>by cases e) e he).1.gd (by have:=((h.ZY (st:=false) fun e=>by cases e) e he).2;omega)
theorem ig.tells (h:ig env es) {st:Bool} (hs:st=true->MW env es):Gets es 0 es.length (TP st 200 5000000 es.length) (jm 40 es env 0):=by
 have hl:=h.few.1;have hv:=h.env.1;have hpos:0<es.length:=aaA.2 h.right.ne;have hk:=o8 121 (x:=es.length) (y:=40) hl (by omega);have e40:121*KT 40=1982464:=rfl;exact (ZJ (by omega) (h.inE hs) 40 0 es.length env 70 121 h.right.whole (by omega) (fun p hp=>(h.right.root p hp).2) (h.ZY hs) (by omega) (by omega) (by omega) (by omega) (by rw [Nat.sub_zero];omega)).mono (aG _) (aG _) fun t c hp=>⟨hp.1,hp.2.1.mono (by omega),by have:=hp.2.2;rw [Nat.sub_zero] at this;omega⟩
structure yV (env:Env) (es:List Pt) (t:List Nd) (x:List Pt) (t':List Nd):Prop where
 gW:gW 40 es env 0=some (.ok (t,es.length))
 jm:jm 40 es env 0=some (.ok (t,es.length))
 MX:uT es 40 env 0 es.length t x t'
 tl:t.length<=5000000
theorem ig.res (h:ig env es):(∃t x t',yV env es t x t')\/∃(i:Nat) (e:Int),gW 40 es env 0=some (.error (i,e))/\(e=5\/e=9):=by
 rcases h.tells (st:=false) (fun e=>by cases e) with ⟨t,c,h1,rfl,h2,h3⟩|⟨i,e,h1,_,h2,p,h3,h4⟩
 ·obtain ⟨x,t',S⟩:=Py h.inX 40 env 0 t es.length h1 (fun p hp=>(h.right.root p hp).2) env (.self h.gdE)
  exact .inl ⟨t,x,t',Im _ _ _ _ _ h1,h1,S,h3⟩
 ·refine .inr ⟨i,e,Im _ _ _ _ _ h1,?_⟩
  rcases h4 with h4|h4
  ·exact .inl h4.1
  ·exact .inr h4.1
theorem ig.again (h:ig env es) {t t':List Nd} {x:List Pt} (hc:yV env es t x t'):∃f t2 Z,Go.Proofs.YtmjdhfbnmmdjiaaGreat.gW f (iw 0 x) env 0=some (.ok (t2,x.length))/\cst f (iw 0 x) env 0=some (Z,t2,x.length)/\iw 0 Z=iw 0 x/\Q2 t' t2:=
 hc.MX.full.again (.self h.gdE)
end
end Go.Proofs.YtmjdhfbnmmdjiaaGreat
