/- Laid together by a tool from the texts of this seat: PxH CsY PxN GvL. Conditions: each theorem's own. -/
import Derived.Test.YtmjdhfbnmmdjiaaGreatH33
import Derived.Test.YtmjdhfbnmmdjiaaGreatH27
import Derived.Test.YtmjdhfbnmmdjiaaGreatH16
import Derived.Test.YtmjdhfbnmmdjiaaGreatH31
set_option maxHeartbeats 8000000
set_option maxRecDepth 100000
namespace Go.Proofs.YtmjdhfbnmmdjiaaGreat
open Go.Lib renaming hid->aB
open _root_.List renaming flatMap_cons->iW,length_cons->oG,getElem?_eq_getElem->bS,mem_cons->qm,mem_map->aaw,length_append->lS,append_assoc->kV,map_cons->RH,mem_of_getElem?->O8,nil_append->aat,length_pos_iff->abn,sum_cons->abk,length_map->OX,getElem_mem->abj,drop_zero->nE,cons_append->uK,set_append_right->aay,length_take->jm,take_add_one->yj
open _root_.Nat renaming le_refl->aK,add_comm->jf,add_assoc->abE
open _root_.Option renaming map_eq_some_iff->aaE,getD_some->abF
open _root_.And renaming intro->DF
open _root_.ByteArray renaming empty->dQ
theorem Uo {l:List ByteArray} {s:ByteArray} (h:s∈l):s∈lH l:=by
 unfold lH;have h1:s.toList∈(l.map ByteArray.toList).mergeSort fun x y=>decide (x<=y):=(List.mergeSort_perm ..).symm.subset (List.mem_map_of_mem h);refine aaw.2 ⟨s.toList,h1,?_⟩;exact yL (ByteArray.toList_eq s)
theorem FI {es:List Pt}:∀(n a:Nat) (ls:List ByteArray) (ks:List Nat),bZ es n a=some ks->(∀i∈ks,i<es.length)->mE es n a ls=some (ls++ks.map (vU es))
 |0,a,ls,ks,h,_=>by
  unfold bZ at h;injection h with h
  subst h
  simp [mE]
 |n+1,a,ls,ks,h,hlt=>by
  unfold bZ at h;split at h
  ·cases h
  rename_i j hj;rw [aaE] at h;obtain ⟨l2,h1,rfl⟩:=h;have ha:a<es.length:=hlt a (by simp);unfold mE;rw [bS ha];dsimp only;rw [hj];dsimp only;rw [FI n j _ l2 h1 fun i hi=>hlt i (by simp [hi])];have:vU es a=(es[a]).lb:=by unfold vU;rw [bS ha];rfl
  simp [this]
theorem Q_ {es:List Pt}:∀(n a:Nat) (ks:List Nat),bZ es n a=some ks->∀i∈ks,i<es.length
 |0,a,ks,h=>by
  unfold bZ at h;injection h with h
  subst h;intro i hi
  cases hi
 |n+1,a,ks,h=>by
  unfold bZ at h;split at h
  ·cases h
  rename_i j hj;rw [aaE] at h;obtain ⟨l2,h1,rfl⟩:=h;intro i hi;rcases qm.1 hi with rfl|hi
  ·have:=(show EA es 1 i j from hj).lt
   omega
  ·exact Q_ n j l2 h1 i hi
theorem adx {t u:List Nd} (gt:Gd t) (gu:Gd u) (h:(aD t).k=0):jR t u=true:=by
 have hf:=gt.fo;have hs:=gt.s;have hf2:=gu.fo;have hs2:=gu.s
 cases t with
 |nil=>exact absurd hf.pos (by simp)
 |cons x xt=>
  cases u with
  |nil=>exact absurd hf2.pos (by simp)
  |cons y yt=>
   unfold jR;rw [wE hf hf2 (show x.s=y.s from (show x.s=dQ from hs).trans (show y.s=dQ from hs2).symm) (.inl h)];rfl
theorem Ox {p:Pt} (h:p.k=8):aL p=1:=by unfold aL;simp [h]
theorem ajA {e:Br} {m:List Nd} (h8:e.1.k=8) (h:eU 1 e.2.1):eU 1 (oP m e):=eU.cons (by rw [Ox h8];exact h.to _ _)
theorem Bf {env':Env} {f0:Nat} {u w m:List Nd} (hq:Q2 u w) (gw:Gd w):∀(Bs:List Br) (g:Nat) (es2:List Pt) (a2:Nat) (bH:Env) (ts:List (List Nd)) (l:List Br),f0<=g->
  (∀e∈Bs,∃v,bG u e.1.lb=some v/\rE f0 (env'++[(e.1.bd,v)]) (toM e.2.1 e.2.2 m) m)->At es2 a2 (Bs.flatMap (oP m))->iq env' bH->
  ∃Ts:List (List Nd),Ts.length=Bs.length/\(∀z∈Ts,Q2 m z/\Gd z)/\fO (iT g es2) es2 bH w Bs.length a2 ts=some (.ok (ts++Ts,a2+(Bs.flatMap (oP m)).length))/\
   ∃L2,iI (cst g es2) es2 bH w Bs.length a2 l=some (l++L2,a2+(Bs.flatMap (oP m)).length)/\L2.map (fun e=>e.2.2)=Ts/\∀m2,Q2 m m2->L2.flatMap (oP m2)=Bs.flatMap (oP m)
 |[],g,es2,a2,bH,ts,l,_,_,_,_=>⟨[],rfl,fun z hz=>by (cases hz),by simp [fO],[],by simp [iI],rfl,fun m2 _=>rfl⟩
 |e::Bs,g,es2,a2,bH,ts,l,hg,hB,hat,hE=>by
  obtain ⟨v,hv,F⟩:=hB e (by simp);rw [iW] at hat;have hh:es2[a2]?=some e.1:=hat.left.head;have ht:At es2 (a2+1) (toM e.2.1 e.2.2 m):=hat.left.tail;obtain ⟨v2,q1,q2⟩:=hq.field hv;obtain ⟨z,d1,d2,d3,d4⟩:=F.at hg ht (hE.app (.one (s:=e.1.bd) q2 (qN gw q1)));have hln:(oP m e).length=1+(toM e.2.1 e.2.2 m).length:=by unfold oP;rw [oG];omega
  have Cw:=hat.right;rw [hln,<-abE] at Cw;obtain ⟨Ts,k1,k2,k3,L2,k4,k5,k6⟩:=Bf hq gw Bs g es2 _ bH (ts++[z]) (l++[(e.1,toM e.2.1 e.2.2 m,z)]) hg (fun x hx=>hB x (by simp [hx])) Cw hE;have hfl:a2+((e::Bs).flatMap (oP m)).length=a2+1+(toM e.2.1 e.2.2 m).length+(Bs.flatMap (oP m)).length:=by rw [iW,lS,hln];omega
  refine ⟨z::Ts,by simp [k1],fun y hy=>?_,?_,(e.1,toM e.2.1 e.2.2 m,z)::L2,?_,by simp [k5],fun m2 hm2=>?_⟩
  ·rcases qm.1 hy with rfl|hy
   ·exact ⟨d3,d4⟩
   ·exact k2 y hy
  ·rw [oG]
   unfold fO;rw [hh];dsimp only;rw [q1,abF,d1];dsimp only;rw [k3,hfl,kV];rfl
  ·rw [oG]
   unfold iI;rw [hh];dsimp only;rw [q1];dsimp only;rw [d2];dsimp only;rw [k4,hfl,kV];rfl
  ·rw [iW,iW,k6 m2 hm2]
   congr 1
   unfold oP;dsimp only;rw [kD (d3.symm.trans hm2)]
section
variable {es:List Pt} {f:Nat} {env env':Env}
theorem Dq (hI:Ov es) (hK:Cb es f) (hE:iq env env') {ot u:List Nd} (hu0:u≠[]):∀(n a:Nat) (ts us:List (List Nd)) (l:List Br) (b:Nat) (ks:List Nat),fO (jC f es) es env ot n a ts=some (.ok (us,b))->bZ es n a=some ks->(∀i∈ks,∀q,es[i]?=some q->q.k=8)->
  (∀i∈ks,∃v v',bG ot (vU es i)=some v/\bG u (vU es i)=some v'/\Q2 v v'/\Gd v')->
  ∃(Bs:List Br) (Us:List (List Nd)),Bs.length=n/\iI (cst f es) es env' u n a l=some (l++Bs,b)/\us=ts++Us/\Us.length=n/\(∀(i:Nat) (t t':List Nd),Us[i]?=some t->(Bs.map fun e=>e.2.2)[i]?=some t'->Q2 t t'/\Gd t')/\(∀z∈Us,Gd z)/\EA es n a b/\a<=b/\(Bs.map fun e=>e.1.lb)=ks.map (vU es)/\(Bs.map fun e=>e.2.1.length+2).sum<=2*(b-a)/\(∀m,Gd m->(∀e∈Bs,jR e.2.2 m=true)->(nC env'/\uD es->stA u/\stA m)->Rl es (nC env'/\uD es) true n a b (Bs.flatMap (oP m)))/\(nC env'->uD es->stA u->∀e∈Bs,stA e.2.2)/\
   ∀e∈Bs,e.1.k=8/\e.1∈es/\(∃v',bG u e.1.lb=some v'/\gG (env'++[(e.1.bd,v')]) e.2.1 e.2.2/\(env'++[(e.1.bd,v')]).length<=900000)/\eU 1 e.2.1/\qQ e.2.1 e.2.2/\dN e.2.1/\e.2.1.length<=2000
 |0,a,ts,us,l,b,ks,h,hkd,_,_=>by
  unfold fO at h;injection h with h
  injection h with h
  injection h with h1 h2
  subst h1 h2;unfold bZ at hkd;injection hkd with hkd
  subst hkd
  exact ⟨[],[],rfl,by simp [iI],by simp,rfl,fun i t t' ht=>by (simp at ht),fun z hz=>by (cases hz),by unfold EA;exact qX _ _,aK _,rfl,by simp,(fun m _ _ _=>.nil _ _),(fun _ _ _ e he=>by (cases he)),fun e he=>by (cases he)⟩
 |n+1,a,ts,us,l,b,ks,h,hkd,h8,hF=>by
  unfold fO at h;split at h
  ·cases h
  rename_i x hx
  have ha:a∈ks:=by
   unfold bZ at hkd;split at hkd
   ·cases hkd
   ·rw [aaE] at hkd
    obtain ⟨l2,_,rfl⟩:=hkd;simp
  have QX:=h8 a ha x hx;have hlx:vU es a=x.lb:=by unfold vU;rw [hx];rfl
  obtain ⟨v,v',f1,f2,f3,f4⟩:=hF a ha;rw [hlx] at f1 f2;rw [f1,abF] at h
  cases h1:jC f es (env++[(x.bd,v)]) (a+1) with
  |none=>rw [h1] at h;cases h
  |some y=>
   rw [h1] at h
   match y,h1,h with
   | .error _,_,h=>cases h
   | .ok (t,c),h1,h=>
    dsimp only at h;obtain ⟨y,t',S⟩:=hK _ _ _ _ h1 (zP hI hx (by omega) (by rw [Ox QX];exact aK _)) (env'++[(x.bd,v')]) (hE.app (.one f3 f4));have he1:EA es 1 a c:=Af hx (Ox QX) S.e;obtain ⟨l2,rfl,hk2⟩:=qY hkd he1;obtain ⟨Bs,Us,k1,k2,k3,k4,k5,k5b,k6,k7,k8,k9,k11,k12,k10⟩:=Dq hI hK hE hu0 n c (ts++[t]) us (l++[(x,y,t')]) b l2 h hk2 (fun i hi=>h8 i (by simp [hi])) fun i hi=>hF i (by simp [hi]);have hlt:=S.lt;have hln:=S.ln;have G:=S.gd;refine ⟨(x,y,t')::Bs,t::Us,by simp [k1],?_,by rw [k3,kV];rfl,by simp [k4],?_,?_,he1.join k6,by omega,?_,?_,?_,?_,?_⟩
    ·unfold iI
     rw [hx];dsimp only;rw [f2];dsimp only;rw [S.c];dsimp only;rw [k2,kV];rfl
    ·intro i t2 t3 ht2 ht3
     cases i with
     |zero=>
      simp at ht2 ht3;subst ht2 ht3
      exact ⟨S.q,G.gd⟩
     |succ i=>exact k5 i t2 t3 (by simpa using ht2) (by simpa using ht3)
    ·intro z hz
     rcases qm.1 hz with rfl|hz
     ·exact (ok5 h1).1
     ·exact k5b z hz
    ·simp [k8,hlx]
    ·simp only [RH,abk]
     omega
    ·intro m gm hm hs
     rw [iW,jf];exact (qx hx (by omega) (by rw [QX];rfl) (Ox QX) ((S.rl.imp fun h=>⟨h.1.app (.one (uz (hs h).1 hu0 f2)),h.2⟩).to (hm _ (List.mem_cons_self ..)) G.gd gm fun h=>⟨S.st (h.1.app (.one (uz (hs h).1 hu0 f2))) h.2,(hs h).2⟩)).mono.join (k11 m gm (fun e he=>hm e (List.mem_cons_of_mem _ he)) hs)
    ·intro h1 h2 h3 e he
     rcases qm.1 he with rfl|he
     ·exact S.st (h1.app (.one (uz h3 hu0 f2))) h2
     ·exact k12 h1 h2 h3 e he
    ·intro e he
     rcases qm.1 he with rfl|he
     ·refine ⟨QX,O8 hx,⟨v',f2,S.full,?_⟩,S.tr,G,S.ok,?_⟩
      ·have h9:=S.c
       cases f with
       |zero=>cases h9
       |succ f=>
        obtain ⟨_,_,h10,_⟩:=wP h9;exact h10
      ·have:=hI.len
       dsimp only;omega
     ·exact k10 e he
end
theorem Ra {m:List Nd}:∀(Bs:List Br),(∀e∈Bs,eU 1 (oP m e))->eU Bs.length (Bs.flatMap (oP m))
 |[],_=>eU.nil
 |e::Bs,h=>by
  rw [iW,oG,jf];exact (h e (by simp)).app (Ra Bs fun x hx=>h x (by simp [hx]))
theorem Md {m:List Nd}:∀(Bs:List Br),(Bs.flatMap (oP m)).length<=(Bs.map fun e=>e.2.1.length+2).sum
 |[]=>by simp
 |e::Bs=>by
  have h1:=Md (m:=m) Bs;have h2:=bR e.2.1 e.2.2 m;have h3:(oP m e).length=1+(toM e.2.1 e.2.2 m).length:=by unfold oP;rw [oG];omega
  rw [iW,lS,RH,abk];omega
theorem Rb {m:List Nd}:∀(Bs:List Br),(∀e∈Bs,dN (oP m e))->dN (Bs.flatMap (oP m))
 |[],_=>fun q hq=>by cases hq
 |e::Bs,h=>by
  rw [iW];exact nN (h e (by simp)) (Rb Bs fun x hx=>h x (by simp [hx]))
theorem Rc {env':Env} {u m:List Nd}:∀(Bs:List Br),(∀e∈Bs,∃v,bG u e.1.lb=some v/\gG (env'++[(e.1.bd,v)]) (toM e.2.1 e.2.2 m) m)->∃f0,∀e∈Bs,∃v,bG u e.1.lb=some v/\rE f0 (env'++[(e.1.bd,v)]) (toM e.2.1 e.2.2 m) m
 |[],_=>⟨0,fun e he=>by cases he⟩
 |e::Bs,h=>by
  obtain ⟨v,h1,f1,h2⟩:=h e (by simp);obtain ⟨f2,h3⟩:=Rc Bs fun x hx=>h x (by simp [hx]);refine ⟨f1+f2,fun x hx=>?_⟩;rcases qm.1 hx with rfl|hx
  ·exact ⟨v,h1,h2.mono (by omega)⟩
  ·obtain ⟨v2,k1,k2⟩:=h3 x hx
   exact ⟨v2,k1,k2.mono (by omega)⟩
theorem Kt {m:List Nd} (Bs:List Br):Bs.flatMap (oP m)=(Bs.map (oP m)).flatten:=by rw [List.flatMap_def]
theorem Me:∀(ts:List (List Nd)) (t m:List Nd) (a:Nat),Gd t->(∀u∈ts,Gd u)->stA t->(∀u∈ts,stA u)->bT a t ts=some (.ok m)->stA m
 |[],t,m,a,_,_,h,_,hm=>by
  unfold bT at hm;injection hm with hm
  injection hm with hm
  rw [<-hm]
  exact h
 |u::ts,t,m,a,gt,gu,h,hu,hm=>by
  unfold bT at hm
  cases h1:met 1 t u with
  |none=>rw [h1] at hm;cases hm
  |some m1=>
   rw [h1] at hm;dsimp only at hm;split at hm
   ·rename_i hg
    exact Me ts m1 m a hg (fun z hz=>gu z (by simp [hz])) (L_ h1 gt (gu u (by simp)) h (hu u (by simp))) (fun z hz=>hu z (by simp [hz])) hm
   ·cases hm
theorem Mf:∀{ts:List (List Nd)} {t m m2:List Nd} {a b:Nat},bT a t ts=some (.ok m)->bT b t ts=some (.ok m2)->m=m2
 |[],t,m,m2,a,b,h,k=>by
  unfold bT at h k;injection h with h
  injection h with h
  injection k with k
  injection k with k
  rw [<-h,<-k]
 |u::ts,t,m,m2,a,b,h,k=>by
  unfold bT at h k
  cases h1:met 1 t u with
  |none=>rw [h1] at h;cases h
  |some m1=>
   rw [h1] at h k;dsimp only at h k;split at h
   ·rename_i hg
    rw [if_pos hg] at k;exact Mf h k
   ·cases h
section
variable {es:List Pt} {f:Nat} {env env':Env} {a b:Nat} {p:Pt} {t:List Nd}
variable (hI:Ov es) (hK:Cb es f) (hp:es[a]?=some p) (hE:iq env env') (hl:env.length<=900000) (ho:vw p) (hx:Dj p) (hg:Gd t) (htl:t.length<=5000000)
include hI hK hp hE hl ho hx hg htl
theorem Yc (hk:p.k=7) (hw:rC (jC f es) es env p a (a+1)=some (.ok (t,b))):∃x t',vW es (f+1) env' a b t x t':=by
 have hE':env'.length<=900000:=by rw [<-hE.len];exact hl
 have hpo:=hI.ok p (O8 hp);have hes:=hI.len;unfold rC at hw;split at hw
 rotate_left
 ·cases hw
 rename_i hmn;obtain ⟨n,hn⟩:∃n:Nat,p.mn=(n:Int):=⟨p.mn.toNat,by omega⟩;rw [show p.mn.toNat=n by omega] at hw;have hm:aL p=n+1:=by unfold aL;simp [hk];omega
 have hn1:1<=n/\n<=50:=by omega
 obtain ⟨ot,b1,h1,hw⟩:=oV hw;obtain ⟨l,hl1,hl2⟩:=hI.kids a p hp;rw [hm] at hl1
 have hk8:∀q,es[a+1]?=some q->q.k≠8:=fun q hq h8=>by
  have h3:l[0]?=some (a+1):=by
   unfold bZ at hl1;split at hl1
   ·cases hl1
   ·rw [aaE] at hl1
    obtain ⟨l2,_,rfl⟩:=hl1;rfl
  have:=(hl2.kind 0 _ q h3 hq).1 h8;omega
 obtain ⟨y0,t0,S0⟩:=hK _ _ _ _ h1 hk8 env' hE;obtain ⟨ks,rfl,hks⟩:=qY hl1 S0.e
 have hlen:ks.length=n:=by
  have:=hl2.len;rw [hm,oG] at this;omega
 have hkl:=Q_ n b1 ks hks
 have vB:nI es ot a=some true:=by
  cases h9:nI es ot a with
  |none=>rw [h9] at hw;cases hw
  |some v=>
   cases v with
   |false=>rw [h9] at hw;cases hw
   |true=>rfl
 rw [vB] at hw;dsimp only at hw
 obtain ⟨tags,QL,hor⟩:∃tags,kN ot=some tags/\((aD ot).k=0\/tags=lH (ks.map (vU es))):=by
  unfold nI at vB;rw [hp] at vB;dsimp only at vB;rw [hm,hl1] at vB;dsimp only at vB
  cases QL:kN ot with
  |none=>rw [QL] at vB;cases vB
  |some tags=>
   rw [QL] at vB;dsimp only at vB;injection vB with vB
   rw [Bool.or_eq_true,decide_eq_true_eq,decide_eq_true_eq] at vB;exact ⟨tags,rfl,vB⟩
 cases hcg:fO (jC f es) es env ot n b1 [] with
 |none=>rw [hcg] at hw;cases hw
 |some y=>
 rw [hcg] at hw
 match y,hcg,hw with
 | .error _,_,hw=>cases hw
 | .ok ([],c),_,hw=>cases hw
 | .ok (t1::ts,c),hcg,hw=>
 dsimp only at hw
 cases hmm:bT a t1 ts with
 |none=>rw [hmm] at hw;cases hw
 |some y=>
 rw [hmm] at hw
 match y,hmm,hw with
 | .error _,_,hw=>cases hw
 | .ok m,hmm,hw=>
 injection hw with hw
 injection hw with hw
 injection hw with z1 z2
 subst z1 z2;have G0:=S0.gd
 have hall:∀i∈ks,∃x,es[i]?=some x/\vU es i=x.lb/\x.k=8/\uU x.lb=true:=fun i hi=>by
  obtain ⟨j,hj⟩:=List.getElem?_of_mem hi;have hlt:=hkl i hi;refine ⟨es[i],bS hlt,by unfold vU;rw [bS hlt];rfl,?_,?_⟩
  ·exact (hl2.kind (j+1) i _ (by simpa using hj) (bS hlt)).2 ⟨hk,by omega⟩
  ·exact hl2.tag (j+1) i _ (by simpa using hj) (bS hlt) hk (by omega)
 obtain ⟨Lb,Uq⟩:∃Lb,Lb=ks.map (vU es):=⟨_,rfl⟩;have MP:Lb.length=n:=by rw [Uq,OX,hlen]
 have hnd:Lb.Nodup:=by
  rw [Uq];unfold List.Nodup;rw [List.pairwise_map,List.pairwise_iff_getElem];intro i j hi hj hij;obtain ⟨x,hx1,hx2,_,hx4⟩:=hall ks[i] (abj hi);obtain ⟨y,hy1,hy2,_,hy4⟩:=hall ks[j] (abj hj);rw [hx2,hy2];refine hl2.diff (i+1) (j+1) _ _ x y (by omega) (by simp [bS hi]) (by simp [bS hj]) hx1 hy1 fun e=>?_;rw [e] at hy4;exact absurd hy4 (by decide)
 have hbr:jZ 7 Lb Lb.length=false/\Lb.Nodup:=by
  refine ⟨?_,hnd⟩;unfold jZ lF;simp only [Bool.or_eq_false_iff];refine ⟨⟨⟨⟨rfl,by simp⟩,by simp;omega⟩,by simp;intro e;rw [e] at MP;simp at MP;omega⟩,?_⟩;rw [nE,List.any_eq_false];intro s hs;rw [Uq] at hs;obtain ⟨i,hi,rfl⟩:=aaw.1 hs;obtain ⟨x,_,hx2,_,hx4⟩:=hall i hi;simp [bP,hx2,hx4]
 obtain ⟨u,hu,gu,lu,hu0,htu,⟨hag,hsu⟩,hfu⟩:∃u,zD es n b1 t0=some u/\Gd u/\u.length<=5000000/\(aD u).k≠0/\kN u=some (lH Lb)/\(jR t0 u=true/\(nC env'->uD es->stA u))/\(∀s∈Lb,∃v v',bG ot s=some v/\bG u s=some v'/\Q2 v v'/\Gd v'):=by
  by_cases h0:(aD ot).k=0
  ·have h0':(aD t0).k=0:=by rw [<-S0.q.k];exact h0
   obtain ⟨g1,g2⟩:=Ui hnd (by omega) (by omega);refine ⟨sW Lb,?_,g1,by omega,(show (7:Int)≠0 by decide),Oq hnd,⟨adx G0.gd g1 h0',fun h1 h2=>absurd h0' (Ad (S0.st h1 h2) G0.nY)⟩,fun s hs=>⟨xZ,aH 0,?_,Kr hnd hs,rfl,by decide⟩⟩
   ·unfold zD
    rw [if_pos h0',FI n b1 [] ks hks hkl,aat,<-Uq];dsimp only;rw [if_pos hbr];rfl
   ·unfold bG
    rw [if_pos h0]
  ·have h0':(aD t0).k≠0:=by rw [<-S0.q.k];exact h0
   have hts:tags=lH Lb:=by rw [Uq];exact hor.resolve_left h0
   refine ⟨t0,?_,G0.gd,G0.tl,h0',by rw [S0.q.tags,QL,hts],⟨(Q2.refl t0).qp G0.gd.fo,S0.st⟩,fun s hs=>?_⟩
   ·unfold zD
    rw [if_neg h0']
   ·obtain ⟨v,hv⟩:=GZ QL (.inr (by rw [hts];exact Uo hs))
    obtain ⟨v',e1,e2⟩:=S0.q.field hv;exact ⟨v,v',hv,e1,e2,qN G0.gd e1⟩
 obtain ⟨Bs,Us,k1,k2,k3,k4,k5,k5b,k6,k7,k8,k9,k11,k12,k10⟩:=Dq hI hK hE (u:=u) (mJ gu) n b1 [] (t1::ts) [] c ks hcg hks (fun i hi q hq=>by
  obtain ⟨x,hx1,_,hx3,_⟩:=hall i hi;rw [hx1] at hq;injection hq with hq
  rw [<-hq];exact hx3) (fun i hi=>hfu _ (by rw [Uq];exact List.mem_map_of_mem hi))
 rw [aat] at k2 k3;subst k3;rw [<-Uq] at k8
 obtain ⟨e0,Br',ze⟩:∃e0 Br',Bs=e0::Br':=by
  cases Bs with
  |nil=>simp at k1;omega
  |cons e0 B=>exact ⟨e0,B,rfl⟩
 have hgt1:Gd t1:=k5b t1 (by simp);obtain ⟨m',mm,mq,gm⟩:=QY ts (Br'.map fun e=>e.2.2) t1 e0.2.2 m a 0 (k5 0 _ _ rfl (by rw [ze];rfl)).1 (k5 0 _ _ rfl (by rw [ze];rfl)).2 (by rw [ze] at k1;simp at k1 k4;simp;omega) (fun i z z' hz hz'=>k5 (i+1) z z' (by simpa using hz) (by rw [ze];simpa using hz')) hgt1 hmm;have lm:m'.length<=5000000:=by rw [<-mq.len];exact htl
 obtain ⟨rf1,rf2,_⟩:=Ma (Br'.map fun e=>e.2.2) e0.2.2 m' 0 (k5 0 _ _ rfl (by rw [ze];rfl)).2 (fun z hz=>by
  obtain ⟨e,he,rfl⟩:=aaw.1 hz;exact (k10 e (by rw [ze];simp [he])).2.2.2.2.1.gd) mm
 have aeS:∀e∈Bs,jR e.2.2 m'=true:=fun e he=>by
  rw [ze] at he;rcases qm.1 he with rfl|he
  ·exact rf1.ag
  ·exact (rf2 _ (aaw.2 ⟨e,he,rfl⟩)).ag
 have hsm:nC env'->uD es->stA m':=fun h1 h2=>Me (Br'.map fun e=>e.2.2) e0.2.2 m' 0 (k5 0 _ _ rfl (by rw [ze];rfl)).2 (fun z hz=>by
  obtain ⟨e,he,rfl⟩:=aaw.1 hz;exact (k10 e (by rw [ze];simp [he])).2.2.2.2.1.gd) (k12 h1 h2 (hsu h1 h2) e0 (by rw [ze];simp)) (fun z hz=>by
  obtain ⟨e,he,rfl⟩:=aaw.1 hz;exact k12 h1 h2 (hsu h1 h2) e (by rw [ze];simp [he])) mm
 have hFB:∀e∈Bs,∃v,bG u e.1.lb=some v/\gG (env'++[(e.1.bd,v)]) (toM e.2.1 e.2.2 m') m':=fun e he=>by
  obtain ⟨_,_,⟨v,j1,j2,j3⟩,_,j5,_,j7⟩:=k10 e he;exact ⟨v,j1,j2.to j5.gd gm (aeS e he) j3 (by omega) lm⟩
 have RZ:∀e∈Bs,eU 1 (oP m' e):=fun e he=>ajA (k10 e he).1 (k10 e he).2.2.2.1;have hl0:=S0.lt;have hn0:=S0.ln;have n0:=bR y0 t0 u;have apy:=Md (m:=m') Bs;have hel:=k6.lt;have hF0:=S0.full.to G0.gd gu hag hE' (by omega) lu;refine mQ hI hp hE hl hx htl (x:=p::(toM y0 t0 u++Bs.flatMap (oP m'))) (t':=m') ?_ mq gm (EA.close hp (by rw [hm];exact S0.e.join k6)) (eU.cons (by rw [hm,jf,<-k1];exact (S0.tr.to _ _).app (Ra Bs RZ))) (by rw [oG,lS];omega) rfl ?_ (fE hpo (nN (lQ S0.ok _ _) (Rb Bs fun e he=>fE (hI.ok _ (k10 e he).2.1) (lQ (k10 e he).2.2.2.2.2.1 _ _)))) (qx hp (by omega) (by rw [hk];rfl) (by rw [hm,jf]) ((S0.rl.to hag G0.gd gu fun h=>⟨S0.st h.1 h.2,hsu h.1 h.2⟩).join (k11 m' gm aeS fun h=>⟨hsu h.1 h.2,hsm h.1 h.2⟩))) hsm
 ·rw [(show dJ (cst f es) es env' p (a+1)=xL (cst f es) es env' p (a+1) from by unfold dJ;simp [hk])]
  unfold xL;rw [if_pos ⟨hmn.1,hmn.2.1⟩,S0.c];dsimp only [fZ];rw [show p.mn.toNat=n by omega,hu];dsimp only;rw [if_pos ⟨gu,lu⟩,k2,ze];dsimp only;rw [mm];dsimp only;rw [if_pos lm];rfl
 ·obtain ⟨f1,F0⟩:=hF0
  obtain ⟨f2,FB⟩:=Rc Bs hFB;refine gG.mk ho hx hE' (by rw [lS];omega) lm (f1+f2) fun s g hg0 es2 a2 bH hat hp2 hE2 hl2=>?_;obtain ⟨v0,d1,d2,d3,d4⟩:=F0.at (f:=g) (by omega) hat.left hE2;obtain ⟨Ts,c1,c2,c3,L2,c4,c5,c6⟩:=Bf (f0:=f2) d3 d4 Bs g es2 _ bH [] [] (by omega) FB hat.right hE2;rw [aat,k1] at c3 c4;have hv0:(aD v0).k≠0:=by rw [<-d3.k];exact hu0
  have hlv:v0.length<=5000000:=by rw [<-d3.len];exact lu
  have htag:nI es2 v0 a2=some true:=by
   obtain ⟨l2,r1,r2⟩:=LV (toM y0 t0 u::Bs.map (oP m')) es2 (a2+1) (fun x hx=>by
    rcases qm.1 hx with rfl|hx
    ·exact S0.tr.to _ _
    ·obtain ⟨e,he,rfl⟩:=aaw.1 hx
     exact RZ e he) (by rw [List.flatten_cons,<-Kt];exact hat)
   have hmp:aL {p with lb:=s}=(toM y0 t0 u::Bs.map (oP m')).length:=by rw [XO,hm,oG,OX,k1]
   unfold nI;rw [hp2];dsimp only;rw [hmp,r1]
   cases l2 with
   |nil=>simp at r2
   |cons i0 Ao=>
    dsimp only;rw [d3.tags,htu];dsimp only
    have h5:Ao.map (fun i=>((es2[i]?).getD default).lb)=Lb:=by
     have h6:=congrArg List.tail r2;simp only [RH,List.tail_cons] at h6;rw [List.map_map] at h6;exact h6.trans k8
    rw [h5];simp
  obtain ⟨z0,Tr,hTs⟩:∃z0 Tr,Ts=z0::Tr:=by
   cases Ts with
   |nil=>simp at c1;omega
   |cons z0 Tr=>exact ⟨z0,Tr,rfl⟩
  obtain ⟨e2,Lr,hL2⟩:∃e2 Lr,L2=e2::Lr:=by
   cases L2 with
   |nil=>rw [hTs] at c5;simp at c5
   |cons e2 Lr=>exact ⟨e2,Lr,rfl⟩
  rw [hL2,hTs] at c5;simp only [RH,List.cons.injEq] at c5;obtain ⟨c7,c8⟩:=c5;have hz0:=c2 z0 (by rw [hTs];simp);obtain ⟨m2,r1,r2,r3⟩:=zO Tr z0 m' a2 hz0.1 hz0.2 gm fun z hz=>c2 z (by rw [hTs];simp [hz]);obtain ⟨m3,r4,r5,r6⟩:=zO Tr z0 m' 0 hz0.1 hz0.2 gm fun z hz=>c2 z (by rw [hTs];simp [hz]);have amV:m3=m2:=Mf r4 r1;subst amV;have lm2:m3.length<=5000000:=by rw [<-r5.len];exact lm
  refine ⟨m3,?_,?_,r5,r6⟩
  ·rw [(show gK (iT g es2) es2 bH {p with lb:=s} a2 (a2+1)=rC (iT g es2) es2 bH {p with lb:=s} a2 (a2+1) from by unfold gK;simp [hk])]
   unfold rC;dsimp only;rw [if_pos ⟨hmn.1,hmn.2.1,hl2⟩,d1];dsimp only [dw];rw [htag];dsimp only;rw [show p.mn.toNat=n by omega,c3,hTs];dsimp only;rw [r1];dsimp only;rw [lS,abE]
  ·rw [(show dJ (cst g es2) es2 bH {p with lb:=s} (a2+1)=xL (cst g es2) es2 bH {p with lb:=s} (a2+1) from by unfold dJ;simp [hk])]
   unfold xL;dsimp only;rw [if_pos ⟨hmn.1,hmn.2.1⟩,d2];dsimp only [fZ];unfold zD;rw [if_neg hv0];dsimp only;rw [if_pos ⟨d4,hlv⟩,show p.mn.toNat=n by omega,c4,hL2];dsimp only;rw [c7,c8,r4];dsimp only;have h9:=c6 m3 r5;rw [hL2] at h9;rw [if_pos lm2,h9,kD (Q2.refl v0),lS,abE];rfl
end
theorem Rh {es:List Pt} (hI:Ov es):∀f,Cb es f
 |0=>fun env a t b h=>by cases h
 |f+1=>fun env a t b h _ env' hE=>by
  have hK:=Rh hI f;obtain ⟨p,hp,hl,ho,hx,hw,hg,htl⟩:=Jr h;unfold gK at hw;by_cases h0:p.k=0
  ·rw [if_pos h0] at hw
   exact abG hI hp hE hl ho hx hg htl h0 hw
  rw [if_neg h0] at hw;by_cases h1:p.k=1
  ·rw [if_pos h1] at hw
   exact X0 hI hp hE hl ho hx hg htl h1 hw
  rw [if_neg h1] at hw;by_cases h2:p.k=2
  ·rw [if_pos h2] at hw
   exact abH hI hK hp hE hl ho hx hg htl h2 hw
  rw [if_neg h2] at hw;by_cases h3:p.k=3
  ·rw [if_pos h3] at hw
   exact abK hI hK hp hE hl ho hx hg htl h3 hw
  rw [if_neg h3] at hw;by_cases h4:p.k=4
  ·rw [if_pos h4] at hw
   exact abL hI hK hp hE hl ho hx htl h4 hw
  rw [if_neg h4] at hw;by_cases h5:p.k=5
  ·rw [if_pos h5] at hw
   exact abM hI hK hp hE hl ho hx htl h5 hw
  rw [if_neg h5] at hw;by_cases h6:p.k=6
  ·rw [if_pos h6] at hw
   exact adt hI hK hp hE hl ho hx hg htl h6 hw
  rw [if_neg h6] at hw;by_cases h7:p.k=7
  ·rw [if_pos h7] at hw
   exact Yc hI hK hp hE hl ho hx hg htl h7 hw
  rw [if_neg h7] at hw;by_cases h9:p.k=9
  ·rw [if_pos h9] at hw
   exact adu hI hK hp hE hl ho hx hg htl h9 hw
  rw [if_neg h9] at hw;by_cases h10:p.k=10
  ·rw [if_pos h10] at hw
   exact Yb hI hK hp hE hl ho hx hg htl h10 hw
  rw [if_neg h10] at hw;by_cases h11:p.k=11
  ·rw [if_pos h11] at hw
   exact abN hI hK hp hE hl ho hx hg htl h11 hw
  rw [if_neg h11] at hw;by_cases h12:p.k=12
  ·rw [if_pos h12] at hw
   exact abO hI hK hp hE hl ho hx hg htl h12 hw
  rw [if_neg h12] at hw;by_cases jT:p.k=13
  ·rw [if_pos jT] at hw
   exact adv hI hK hp hE hl hx hg htl jT hw
  rw [if_neg jT] at hw;by_cases gW:p.k=14
  ·rw [if_pos gW] at hw
   exact X_ hI hK hp hE hl ho hx hg htl gW hw
  rw [if_neg gW] at hw
  cases hw
open Go Go.RowKit
section
variable {α:Type} (k:α->Int) (put:α->Int->α)
def mF (n:Nat):List α->List α
 |[]=>[]
 |x::xs=>if k x=14 then put x ((n+1:Nat):Int)::mF (n+1) xs else x::mF n xs
def kL (n:Nat):List α->Nat
 |[]=>n
 |x::xs=>if k x=14 then kL (n+1) xs else kL n xs
theorem nO:∀(n:Nat) (xs:List α),(mF k put n xs).length=xs.length
 |_,[]=>rfl
 |n,x::xs=>by
  unfold mF;split<;>simp [nO _ xs]
theorem tJ:∀(n:Nat) (xs ys:List α),mF k put n (xs++ys)=mF k put n xs++mF k put (kL k n xs) ys
 |_,[],_=>rfl
 |n,x::xs,ys=>by
  rw [uK,mF,mF,kL];split
  ·rw [tJ _ xs ys]
   rfl
  ·rw [tJ _ xs ys]
   rfl
theorem wR:∀(n:Nat) (xs ys:List α),kL k n (xs++ys)=kL k (kL k n xs) ys
 |_,[],_=>rfl
 |n,x::xs,ys=>by
  rw [uK,kL,kL];split
  ·exact wR _ xs ys
  ·exact wR _ xs ys
theorem JB:∀(n:Nat) (xs:List α),kL k n xs<=n+xs.length
 |_,[]=>aK _
 |n,x::xs=>by
  rw [kL,oG];split
  ·have:=JB (n+1) xs;omega
  ·have:=JB n xs;omega
end
abbrev uE:=mF PV.k (fun v i=>{v with num:=i})
abbrev fQ:=mF Pt.k (fun p i=>{p with num:=i})
theorem dz.num {w:World} {Y:Nat->Prop}:∀(n:Nat) (vs:List PV) (xs:List Pt),dz w Y vs xs->dz w Y (uE n vs) (fQ n xs)
 |_,[],[],_=>dz.nil
 |_,[],x::xs,h=>by have:=h.1;simp at this
 |_,v::vs,[],h=>by have:=h.1;simp at this
 |n,v::vs,x::xs,h=>by
  have h0:=h.2 0 v x rfl rfl;have h1:dz w Y vs xs:=⟨by have:=h.1;simpa using this,fun i u q hu hq=>h.2 (i+1) u q hu hq⟩;simp only [uE,fQ] at*;by_cases hk:v.k=14
  ·rw [mF,mF,if_pos hk,if_pos (h0.k▸hk)]
   exact dz.cons ⟨h0.k,h0.lb,h0.nm,h0.bd,h0.mn,rfl,h0.tn,h0.un,h0.T,h0.U⟩ (dz.num (n+1) vs xs h1)
  ·rw [mF,mF,if_neg hk,if_neg (h0.k▸hk)]
   exact dz.cons h0 (dz.num n vs xs h1)
theorem Bg (z:Int) (x:PV):∀(l:List PV) (j:Nat),l[j]?=some x->(l.set j {x with num:=z}).flatMap ng=(l.flatMap ng).set (j*8+5) (.int .i64 z)
 |[],j,h=>by simp at h
 |y::l,0,h=>by
  simp at h;subst h;rw [List.set_cons_zero,iW,iW]
  rfl
 |y::l,j+1,h=>by
  rw [List.getElem?_cons_succ] at h;rw [List.set_cons_succ,iW,iW,Bg z x l j h,aay _ _ (by rw [fH];omega),fH,show (j+1)*8+5-8=j*8+5 by omega]
theorem ay.ajD {w:World} {base g cap:Nat} {l:List PV} (h:fq w base (some ⟨g,0,none⟩) cap l) {j:Nat} {x:PV} (hx:l[j]?=some x) (z:Int):
  w.cell? ⟨g,j*8+5,none⟩=some (.int .i64 x.num)/\w.frozen? ⟨g,j*8+5,none⟩=false/\fq (w.setCell ⟨g,j*8+5,none⟩ (.int .i64 z)) base (some ⟨g,0,none⟩) cap (l.set j {x with num:=z}):=by
 obtain ⟨b,o,e1,hb,hc⟩:=ay.read fH h (fun e=>by rw [e] at hx;simp at hx);injection e1 with e1
 injection e1 with e1 e2
 subst e1 e2;have c5:=hc j x hx 5 _ rfl;rw [Nat.zero_add] at c5;have h':w.ownsRow base 33 8 (.slice (some ⟨g,0,none⟩) l.length cap) l.length (l.flatMap ng):=h;obtain ⟨h2,_⟩:=World.ownsRow.stored h' (j*8+5) (.int .i64 z);refine ⟨c5,World.ownsRow.frozenAt h' _,?_⟩;show (w.setCell ⟨g,j*8+5,none⟩ (.int .i64 z)).ownsRow base 33 8 (.slice (some ⟨g,0,none⟩) (l.set j {x with num:=z}).length cap) (l.set j {x with num:=z}).length ((l.set j {x with num:=z}).flatMap ng);rw [List.length_set,Bg z x l j hx];exact h2
def abT (Y:Nat->Prop) (n0:Nat) (xs:List Pt) (w:World) (e:Ending) (w':World):Prop:=
 Below w.heap.size w w'/\∃A c,e= .returned (.tuple #[.slice A xs.length c,.int .i64 (kL Pt.k n0 xs:Nat)])/\bN w' Y A c (fQ n0 xs)
theorem Oy {w:World} {Y:Nat->Prop}:∀(n:Nat) (vs:List PV) (xs:List Pt),dz w Y vs xs->kL PV.k n vs=kL Pt.k n xs
 |_,[],[],_=>rfl
 |_,[],x::xs,h=>by have:=h.1;simp at this
 |_,v::vs,[],h=>by have:=h.1;simp at this
 |n,v::vs,x::xs,h=>by
  have h0:=h.2 0 v x rfl rfl;have h1:dz w Y vs xs:=⟨by have:=h.1;simpa using this,fun i u q hu hq=>h.2 (i+1) u q hu hq⟩;unfold kL;rw [h0.k];split
  ·exact Oy (n+1) vs xs h1
  ·exact Oy n vs xs h1
theorem Oz (A:Option Addr) (c:Nat) (xs:List Pt) (n0:Nat) (hn0:n0<=1000) (Y:Nat->Prop) (w:World) (hx:bN w Y A c xs) (hne:xs≠[]) (hl:xs.length<=1000000) (hlt:∀q,Y q->q<w.heap.size):
  Calls Tryz.prog 37 #[.slice A xs.length c,.int .i64 (n0:Int)] w (abT Y n0 xs w):=by
 obtain ⟨vs,hrd,hpm,hcp⟩:=hx;have hvl:=hpm.1;have A_:vs≠[]:=fun e=>hne (List.eq_nil_of_length_eq_zero (by rw [<-hvl,e];rfl));have hCl:=zf A c vs w hrd.read A_ (by omega);rw [hvl] at hCl;have vO:=aB hCl;have HV:Hid (dz w Y vs xs/\vs≠[]/\vs.length=xs.length/\∀q,Y q->q<w.heap.size):=aB ⟨hpm,A_,hvl,hlt⟩;clear hrd hpm hcp hvl A_ hCl hne hlt;go_enter Tryz.func37,Tryz.ntmps37;go_wp2_with fail;refine vO.out.mono ?_;rintro e w1 ⟨A1,c1,rfl,hown,hb1⟩;obtain ⟨g,hA1,hgb,_⟩:=ay.form hown (abn.2 HV.out.2.1);subst hA1;have HI0:Hid (fq w1 w.heap.size (some ⟨g,0,none⟩) c1 (uE n0 (vs.take 0)++vs.drop 0)/\Below w.heap.size w w1):=aB ⟨hown,hb1⟩;clear hown hb1 vO;go_upto_region 3 with fail
 go_loopw [1,13] (fun s1 s13 wr=>∃i:Nat,i<=xs.length/\s13= .int .i64 (i:Int)/\s1= .int .i64 ((kL PV.k n0 (vs.take i):Nat):Int)/\Hid (fq wr w.heap.size (some ⟨g,0,none⟩) c1 (uE n0 (vs.take i)++vs.drop i)/\Below w.heap.size w wr)) (fun _ s13 _=>xs.length-(Lib.intOf s13).toNat)
 case atStart=>exact ⟨0,Nat.zero_le _,rfl,rfl,HI0⟩
 case round=>
  obtain ⟨i,hi,rfl,rfl,HI⟩:=hrel;by_cases hlt:i<xs.length
  ·obtain ⟨x,hxi⟩:=aJ (l:=vs) (i:=i) (by rw [HV.out.2.2.1];exact hlt)
   have hnl:(uE n0 (vs.take i)).length=i:=by rw [nO,jm];have:=HV.out.2.2.1;omega
   have hdx:vs.drop i=x::vs.drop (i+1):=(List.getElem?_eq_some_iff.1 hxi).2▸List.drop_eq_getElem_cons _;have F8:(uE n0 (vs.take i)++vs.drop i)[i]?=some x:=by rw [List.getElem?_append_right (by omega),hnl,Nat.sub_self,hdx];rfl
   obtain ⟨b2,o2,e1,hgl,hgc⟩:=ay.read fH HI.out.1 (fun e=>by rw [e] at F8;simp at F8);injection e1 with e1
   injection e1 with e1 e2
   subst e1 e2;have c0:=hgc i _ F8 0 _ rfl;have c1':=hgc i _ F8 1 _ rfl;have c2:=hgc i _ F8 2 _ rfl;have c3:=hgc i _ F8 3 _ rfl;have c4:=hgc i _ F8 4 _ rfl;have c5:=hgc i _ F8 5 _ rfl;have c6:=hgc i _ F8 6 _ rfl;have c7:=hgc i _ F8 7 _ rfl;rw [Nat.zero_add] at c0 c1' c2 c3 c4 c5 c6 c7;rw [Nat.add_zero] at c0;have hi0:(0:Int)<=(i:Int):=by omega
   have hi1:(i:Int)<(xs.length:Int):=by omega
   obtain ⟨N,hN⟩:∃N,N=kL PV.k n0 (vs.take i):=⟨_,rfl⟩
   have hNl:N<=2000000:=by
    have h5:=JB PV.k n0 (vs.take i);rw [jm] at h5;omega
   have hwN:IntKind.i64.wrap ((N:Int)+1)=((N+1:Nat):Int):=IntWalk.i64_in _ (by omega);have HN:=aB hN;have HX:=aB (DF hxi (DF hnl (DF hdx F8)));rw [<-hN];clear hgc hgl hxi hnl hdx F8 hN;go_upto_region 5 with fail
   obtain ⟨wa,xJ⟩:∃wa,wa=wr.alloc (.cells #[.int .i64 x.k,.string x.lb,.string x.nm,.string x.bd,.int .i64 x.mn,.int .i64 x.num,.slice x.TA x.tn x.tc,.slice x.UA x.un x.uc] 33):=⟨_,rfl⟩;obtain ⟨Bx,hBx⟩:∃Bx,Bx=wr.heap.size:=⟨_,rfl⟩;have hba:Below wr.heap.size wr wa:=by rw [xJ];exact au (Below.refl _ _) _
   have hbx:wa.heap[Bx]?=some (.cells #[.int .i64 x.k,.string x.lb,.string x.nm,.string x.bd,.int .i64 x.mn,.int .i64 x.num,.slice x.TA x.tn x.tc,.slice x.UA x.un x.uc] 33 (0,0)):=by rw [xJ,hBx];exact heap_alloc_new _ _
   have k0:wa.cell? ⟨Bx,0,none⟩=some (.int .i64 x.k):=by simp [World.cell?,hbx]
   have HA:Hid (fq wa w.heap.size (some ⟨g,0,none⟩) c1 (uE n0 (vs.take i)++vs.drop i)/\Below w.heap.size w wa):=aB ⟨HI.out.1.below hba (aK _),ah HI.out.2 hba⟩;rw [<-xJ,<-hBx];clear xJ hBx hba hbx c0 c1' c2 c3 c4 c5 c6 c7
   have Ri:x.k=14->uE n0 (vs.take (i+1))++vs.drop (i+1)=(uE n0 (vs.take i)++vs.drop i).set i {x with num:=(N:Int)+1}/\kL PV.k n0 (vs.take (i+1))=N+1:=fun hk=>by
    obtain ⟨h1,h2,h3,h4⟩:=HX.out;have ht:vs.take (i+1)=vs.take i++[x]:=by rw [yj,h1];rfl
    constructor
    ·rw [ht,show uE n0 (vs.take i++[x])=_ from tJ _ _ n0 _ _,<-HN.out,h3,aay _ _ (by omega),h2,Nat.sub_self,List.set_cons_zero,kV]
     simp [mF,hk]
    ·rw [ht,wR,<-HN.out]
     simp [kL,hk]
   have hkeep:x.k≠14->uE n0 (vs.take (i+1))++vs.drop (i+1)=uE n0 (vs.take i)++vs.drop i/\kL PV.k n0 (vs.take (i+1))=N:=fun hk=>by
    obtain ⟨h1,h2,h3,h4⟩:=HX.out;have ht:vs.take (i+1)=vs.take i++[x]:=by rw [yj,h1];rfl
    constructor
    ·rw [ht,show uE n0 (vs.take i++[x])=_ from tJ _ _ n0 _ _,h3,kV]
     simp [mF,hk]
    ·rw [ht,wR,<-HN.out]
     simp [kL,hk]
   have VO:=aB (DF Ri hkeep);clear Ri hkeep;by_cases hk:x.k=14
   ·have hkb:(x.k==14)=true:=by simp [hk]
    obtain ⟨f1,f2,f3⟩:=ay.ajD HA.out.1 HX.out.2.2.2 ((N:Int)+1);have HS:=aB f3;have HK:=aB (VO.out.1 hk);clear f3 hk VO;go_wp2_with fail;clear f1 f2 k0;go_roundw
    case rel=>exact ⟨i+1,by omega,by go_num,by rw [HK.out.2];first|rfl|go_num,by rw [HK.out.1];exact aB ⟨HS.out,kY HA.out.2 (p:=⟨g,i*8+5,none⟩) hgb _⟩⟩
    case measure=>simp [Lib.intOf];omega
   ·have hkb:(x.k==14)=false:=by simp [hk]
    have HK:=aB (VO.out.2 hk);clear hk VO;go_wp2_with fail;clear k0;go_roundw
    case rel=>exact ⟨i+1,by omega,by go_num,by rw [HK.out.2],by rw [HK.out.1];exact HA⟩
    case measure=>simp [Lib.intOf];omega
  ·have hie:i=xs.length:=by omega
   have HE:Hid (vs.take i=vs/\vs.drop i=[]):=aB ⟨List.take_of_length_le (by rw [HV.out.2.2.1];omega),List.drop_of_length_le (by rw [HV.out.2.2.1];omega)⟩
   have HZ:Hid (fq wr w.heap.size (some ⟨g,0,none⟩) c1 (uE n0 vs)/\Below w.heap.size w wr):=aB (by
    have h5:=HI.out;rw [HE.out.1,HE.out.2,List.append_nil] at h5;exact h5)
   rw [HE.out.1];clear hie;go_wp2_with fail;refine bodyPost_ret (v:=.tuple #[.slice (some ⟨g,0,none⟩) xs.length c1,.int .i64 ((kL PV.k n0 vs:Nat):Int)]) (by simp [results,Tryz.results37,go_sem]) rfl ?_;refine ⟨HZ.out.2,_,_,by rw [<-Oy n0 vs xs HV.out.1],⟨uE n0 vs,vN.Vb HZ.out.1 fun a ha h5=>?_,(dz.num n0 vs xs HV.out.1).fr (Fr.below HZ.out.2) (aj.refl _ _),?_⟩⟩
   ·have h6:=(ay.lt HZ.out.1 a ha).1
    have h7:=HV.out.2.2.2 _ h5;omega
   ·have h6:=ay.l5 HZ.out.1
    rw [nO] at h6 ⊢;rw [<-HV.out.2.2.1];exact h6
def eN (p:Pt):Pt:=if p.k=14 then {p with num:=0} else p
def FN (r:eF):eF:=(r.1.map eN,r.2)
section
variable {nx Uj:kW} (H:∀env a,nx env a=(Uj env a).map FN)
include H
end
section
variable {env:Env} {es:List Pt}
def zQ (env:Env) (es:List Pt):Prop:=(∀e∈env,jI e.2=true)/\∀x∈es,jI x.T=true/\jI x.U=true
theorem vg.tree (h:vg es):∀i,i<es.length->∃b,EA es 1 i b:=fun i hi=>Ho (fun j p hp=>(h.lab j p hp).len) es.length i (by omega) hi
theorem vg.kids (h:vg es):∀(i:Nat) (p:Pt),es[i]?=some p->∃l,bZ es (aL p) (i+1)=some l/\AX es p l:=fun i p hp=>by
 have hL:=h.lab i p hp;obtain ⟨k1,_⟩:=yU (a0:=0) (fun j _ hj=>h.tree j hj) (aL p) (i+1) (by omega) hL.len;exact ⟨_,k1,hL⟩
theorem vg.whole (h:vg es):EA es 1 0 es.length:=by
 have hpos:0<es.length:=abn.2 h.ne;obtain ⟨b,hb⟩:=h.tree 0 hpos;have e:=oN _ _ _ _ hb;rw [nE,h.fin] at e;rw [e];exact hb
theorem gY.ok (h:gY env es):dN es:=fun x hx=>⟨(h.right.uses x hx).k,(h.right.uses x hx).mn⟩
theorem gY.inX (h:gY env es):Ov es:=⟨by have:=h.few.1;omega,h.ok,h.right.kids⟩
theorem gY.ptG (h:gY env es) {st:Bool} (hs:st=true->zQ env es):∀(i:Nat) (p:Pt),es[i]?=some p->PtG st 60 p:=fun i p hp=>by
 have hm:=O8 hp;have hu:=h.right.uses p hm;have hf:=h.few.2 p hm;refine ⟨hu.k,fun h7=>⟨hu.m7 h7,hu.mn.2⟩,fun _=>hu.mn,fun hk=>?_,fun hk=>?_,hf.T,hf.U,hf.lb⟩
 ·by_cases h0:p.k=0
  ·obtain ⟨k,h1,h2,e⟩:=hu.lit h0
   rw [e];exact GT.leaf ⟨h1,h2⟩ (by omega)
  ·obtain ⟨h1,h2⟩:=hu.T (by omega)
   rw [right_eq] at h1;exact GT.of h1 h2 hf.nT (fun e=>((hs e).2 p hm).1) hf.T
 ·obtain ⟨h1,h2⟩:=hu.U hk
  rw [right_eq] at h1;exact GT.of h1 h2 hf.nU (fun e=>((hs e).2 p hm).2) hf.U
theorem gY.inE (h:gY env es) {st:Bool} (hs:st=true->zQ env es):InE st 60 es:=⟨h.ptG hs,h.right.kids⟩
theorem gY.abU (h:gY env es) {st:Bool} (hs:st=true->zQ env es):uy st 70 121 env:=fun e he=>by
 obtain ⟨h1,h2,h3,h4⟩:=Ka (h.env.2 e he);exact ⟨GT.of h3 h4 h2 (fun e1=>(hs e1).1 e he) (by omega),by omega⟩
theorem gY.gdE (h:gY env es):∀e∈env,Gd e.2:=fun e he=>((h.abU (st:=false) fun e=>by cases e) e he).1.gd (by have:=((h.abU (st:=false) fun e=>by cases e) e he).2;omega)
theorem gY.tells (h:gY env es) {st:Bool} (hs:st=true->zQ env es):Gets es 0 es.length (TP st 200 5000000 es.length) (jC 40 es env 0):=by
 have hl:=h.few.1;have hv:=h.env.1;have hpos:0<es.length:=abn.2 h.right.ne;have hk:=qw 121 (x:=es.length) (y:=40) hl (by omega);have e40:121*KT 40=1982464:=rfl;exact (abA (by omega) (h.inE hs) 40 0 es.length env 70 121 h.right.whole (by omega) (fun p hp=>(h.right.root p hp).2) (h.abU hs) (by omega) (by omega) (by omega) (by omega) (by rw [Nat.sub_zero];omega)).mono (aK _) (aK _) fun t c hp=>⟨hp.1,hp.2.1.mono (by omega),by have:=hp.2.2;rw [Nat.sub_zero] at this;omega⟩
structure oW (env:Env) (es:List Pt) (t:List Nd) (x:List Pt) (t':List Nd):Prop where
 iT:iT 40 es env 0=some (.ok (t,es.length))
 jC:jC 40 es env 0=some (.ok (t,es.length))
 Dr:vW es 40 env 0 es.length t x t'
 tl:t.length<=5000000
theorem gY.res (h:gY env es):(∃t x t',oW env es t x t')\/∃(i:Nat) (e:Int),iT 40 es env 0=some (.error (i,e))/\(e=5\/e=9):=by
 rcases h.tells (st:=false) (fun e=>by cases e) with ⟨t,c,h1,rfl,h2,h3⟩|⟨i,e,h1,_,h2,p,h3,h4⟩
 ·obtain ⟨x,t',S⟩:=Rh h.inX 40 env 0 t es.length h1 (fun p hp=>(h.right.root p hp).2) env (.self h.gdE)
  exact .inl ⟨t,x,t',Jq _ _ _ _ _ h1,h1,S,h3⟩
 ·refine .inr ⟨i,e,Jq _ _ _ _ _ h1,?_⟩
  rcases h4 with h4|h4
  ·exact .inl h4.1
  ·exact .inr h4.1
end
end Go.Proofs.YtmjdhfbnmmdjiaaGreat
