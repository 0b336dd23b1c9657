/- Laid together by a tool from the texts of this seat: GuD GuE PxD PxE. Conditions: each theorem's own. -/
import Derived.Test.YtmjdhfbnmmdjiaaGreatJ11
import Derived.Test.YtmjdhfbnmmdjiaaGreatJ27
set_option maxRecDepth 100000
namespace Go.Proofs.YtmjdhfbnmmdjiaaGreat
open _root_.Nat renaming le_refl->aG
open _root_.Option renaming map_eq_some_iff->aaE
open _root_.List renaming mem_append->nV,mem_cons->oJ,length->uS,getElem?_eq_getElem->bA,getElem?_of_mem->aaN,mem_map->aas,mem_of_getElem?->Ox,getElem_mem->aaO,map_cons->Nc,sum_cons->aaR,length_pos_iff->aaA
open _root_.ByteArray renaming empty->bZ
open Go.ByteArray renaming toList_eq->bC
def aki:List Nat:=[0,1,2,3,4,5,6,7,9,12,16,20,25,30,36,48,64,80,100,125,150,192,256,320,400,500,625,768,1024,1280,1600,2000,2500,3125,4096,5120,6400,8000,10000,12500,16384,20480,25600,32000,40000,50000,65536,81920,102400,128000,160000,200000,262144,327680,409600,512000,640000,800000,1048576,1310720,1638400]
def KT (n:Nat):Nat:=aki.getD n 0
theorem ZB:∀x<61,∀y<61,x+y<61->KT x+KT y<=KT (x+y):=by decide+kernel
theorem ZC:∀x<61,∀y<61,x+y+2<61->KT x*KT y<=KT (x+y+2):=by decide+kernel
theorem ML {x y:Nat} (h:x+y<=60):KT x+KT y<=KT (x+y):=ZB x (by omega) y (by omega) (by omega)
theorem TR {x y:Nat} (h:x+y+2<=60):KT x*KT y<=KT (x+y+2):=ZC x (by omega) y (by omega) (by omega)
theorem Ph {x y:Nat} (h:x<=y) (hy:y<=60):KT x<=KT y:=by
 have:=ML (x:=x) (y:=y-x) (by omega);rw [show x+(y-x)=y from by omega] at this;omega
theorem aa6 {x:Nat} (h:1<=x) (hx:x<=60):1<=KT x:=by
 have:=Ph h hx;have e:KT 1=1:=rfl;omega
theorem o8 (E:Nat) {x y:Nat} (h:x<=y) (hy:y<=60):E*KT x<=E*KT y:=Nat.mul_le_mul_left E (Ph h hy)
theorem BR (E:Nat) {x:Nat} (h:1<=x) (hx:x<=60):E<=E*KT x:=by
 have:=Nat.mul_le_mul_left E (aa6 h hx);omega
theorem EK (E:Nat) {x y:Nat} (h:x+y<=60):E*KT x+E*KT y<=E*KT (x+y):=by
 have:=Nat.mul_le_mul_left E (ML h);rw [Nat.mul_add] at this;exact this
def ZE (es:List Pt) (lo hi i:Nat) (e:Int):Prop:=lo<=i/\i<hi/\∃p,es[i]?=some p/\((e=5/\p.k=1)\/(e=9/\p.k≠1))
def Gets (es:List Pt) (lo hi:Nat) (P:List Nd->Nat->Prop) (x:Option fC):Prop:=(∃t c,x=some (.ok (t,c))/\P t c)\/(∃i e,x=some (.error (i,e))/\ZE es lo hi i e)
section
variable {es:List Pt} {lo hi lo2 hi2:Nat} {P Q:List Nd->Nat->Prop} {x:Option fC}
theorem Gets.dB {f:List Nd->Nat->Option fC} (h:Gets es lo hi P x) (hf:∀t c,P t c->Gets es lo hi Q (f t c)):Gets es lo hi Q (dB x f):=by
 rcases h with ⟨t,c,rfl,h⟩|⟨i,e,rfl,h⟩
 ·exact hf t c h
 ·exact .inr ⟨i,e,rfl,h⟩
theorem Gets.mono (h:Gets es lo2 hi2 P x) (hl:lo<=lo2) (hh:hi2<=hi) (hp:∀t c,P t c->Q t c):Gets es lo hi Q x:=by
 rcases h with ⟨t,c,rfl,h⟩|⟨i,e,rfl,h⟩
 ·exact .inl ⟨t,c,rfl,hp t c h⟩
 ·exact .inr ⟨i,e,rfl,by have:=h.1;omega,by have:=h.2.1;omega,h.2.2⟩
end
structure PtG (st:Bool) (M:Nat) (p:Pt):Prop where
 k:0<=p.k/\p.k<=14
 m7:p.k=7->1<=p.mn/\p.mn<=50
 m10:p.k=10->0<=p.mn/\p.mn<=50
 T:p.k=0\/p.k=2\/p.k=4\/p.k=5\/p.k=12\/p.k=13\/p.k=14->GT st M p.T
 U:p.k=5\/p.k=14->GT st M p.U
 lT:p.T.length<=M
 lU:p.U.length<=M
 lb:p.lb.size<=100
structure InE (st:Bool) (M:Nat) (es:List Pt):Prop where
 pt:∀(i:Nat) (p:Pt),es[i]?=some p->PtG st M p
 kids:∀(i:Nat) (p:Pt),es[i]?=some p->∃l,dF es (aP p) (i+1)=some l/\zP es p l
def tq (st:Bool) (D E:Nat) (env:Env):Prop:=∀e∈env,GT st D e.2/\e.2.length<=E
def TP (st:Bool) (d m b:Nat) (t:List Nd) (c:Nat):Prop:=c=b/\GT st d t/\t.length<=m
def NxG (st:Bool) (M:Nat) (es:List Pt) (f:Nat) (nx:Nx):Prop:=∀(a b:Nat) (env:Env) (D E:Nat),EA es 1 a b->b-a<=f->(∀p,es[a]?=some p->p.k≠8)->tq st D E env->M+10<=D->2*M+1<=E->env.length+2*(b-a)<=1000->b-a<=60->E*KT (b-a)<=5000000->
 Gets es a b (TP st (D+(b-a)-1) (E*KT (b-a)) b) (nx env a)
theorem tq.app {st:Bool} {D E:Nat} {env bL:Env} (h:tq st D E env) (k:tq st D E bL):tq st D E (env++bL):=fun e he=>by
 rcases nV.1 he with he|he
 ·exact h e he
 ·exact k e he
theorem tq.mono {st:Bool} {D E D2 E2:Nat} {env:Env} (h:tq st D E env) (hd:D<=D2) (hE:E<=E2):tq st D2 E2 env:=fun e he=>⟨(h e he).1.mono hd,by have:=(h e he).2;omega⟩
theorem tq.one {st:Bool} {D E:Nat} {s:ByteArray} {t:List Nd} (h:GT st D t) (hl:t.length<=E):tq st D E [(s,t)]:=fun e he=>by
 simp at he;subst he;exact ⟨h,hl⟩
theorem jf {es:List Pt} {n a c:Nat} {l:List Nat} (h:dF es (n+1) a=some l) (hc:EA es 1 a c):∃l2,l=a::l2/\dF es n c=some l2:=by
 unfold dF at h;unfold EA at hc;rw [hc] at h;simp only [aaE] at h;obtain ⟨l2,h1,h2⟩:=h;exact ⟨l2,h2.symm,h1⟩
section
variable {st:Bool} {M:Nat} {es:List Pt} {f:Nat} {nx:Nx} {a b:Nat} {env:Env} {D E:Nat} {p:Pt}
structure lD (st:Bool) (M:Nat) (es:List Pt) (f:Nat) (nx:Nx) (a b:Nat) (env:Env) (D E:Nat) (p:Pt):Prop where
 N:NxG st M es f nx
 I:InE st M es
 hp:es[a]?=some p
 he:EA es (aP p) (a+1) b
 lt:a<b
 hf:b-a<=f+1
 hv:tq st D E env
 hD:M+10<=D
 hE:2*M+1<=E
 v:env.length+2*(b-a)<=1000
 n:b-a<=60
 s:E*KT (b-a)<=5000000
theorem lD.call (h:lD st M es f nx a b env D E p) {c d:Nat} {bL:Env} {D2 E2:Nat} (hc:EA es 1 c d) (h1:a<c) (h2:d<=b) (h8:∀p,es[c]?=some p->p.k≠8) (hv:tq st D2 E2 bL) (hD:D<=D2) (hE:E<=E2) (hl:bL.length<=env.length+2) (hs:E2*KT (d-c)<=5000000):
  Gets es a b (TP st (D2+(d-c)-1) (E2*KT (d-c)) d) (nx bL c):=by
 have h3:=hc.lt;have h4:=h.hf;have h5:=h.hD;have h6:=h.hE;have h7:=h.v;have h9:=h.n;exact (h.N c d bL D2 E2 hc (by omega) h8 hv (by omega) (by omega) (by omega) (by omega) hs).mono (by omega) h2 fun t c h=>h
theorem lD.l6 (h:lD st M es f nx a b env D E p) {c d:Nat} {bL:Env} (hc:EA es 1 c d) (h1:a<c) (h2:d<=b) (h8:∀p,es[c]?=some p->p.k≠8) (hv:tq st D E bL) (hl:bL.length<=env.length+2):
  Gets es a b (TP st (D+(d-c)-1) (E*KT (d-c)) d) (nx bL c):=by
 have h3:=hc.lt;have h9:=h.n;have:=o8 E (x:=d-c) (y:=b-a) (by omega) h9;have:=h.s;exact h.call hc h1 h2 h8 hv (aG _) (aG _) hl (by omega)
theorem lD.err (h:lD st M es f nx a b env D E p) (hk:p.k≠1) {Q:List Nd->Nat->Prop}:Gets es a b Q (some (.error (a,9))):=
 .inr ⟨a,9,rfl,aG _,h.lt,p,h.hp,.inr ⟨rfl,hk⟩⟩
theorem lD.TS (h:lD st M es f nx a b env D E p) (h7:p.k≠7) {l:List Nat} (hl:dF es (aP p) (a+1)=some l):∀c∈l,∀x,es[c]?=some x->x.k≠8:=by
 obtain ⟨l2,k1,k2⟩:=h.I.kids a p h.hp;rw [hl] at k1;injection k1 with k1
 subst k1;intro c hc x hx h8;obtain ⟨k,hk⟩:=aaN hc;have:=(k2.kind k c x hk hx).1 h8;exact h7 this.1
theorem lD.kids (h:lD st M es f nx a b env D E p):∃l,dF es (aP p) (a+1)=some l:=by
 obtain ⟨l,k1,_⟩:=h.I.kids a p h.hp;exact ⟨l,k1⟩
theorem lD.one (h:lD st M es f nx a b env D E p) (h7:p.k≠7) (hm:aP p=1):EA es 1 (a+1) b/\(∀x,es[a+1]?=some x->x.k≠8):=by
 have he:=h.he;rw [hm] at he;obtain ⟨l,hl⟩:=h.kids;have h8:=h.TS h7 hl;rw [hm] at hl;obtain ⟨l2,rfl,_⟩:=jf hl he;exact ⟨he,h8 _ (by simp)⟩
theorem lD.two (h:lD st M es f nx a b env D E p) (h7:p.k≠7) (hm:aP p=2):∃c,EA es 1 (a+1) c/\EA es 1 c b/\(∀x,es[a+1]?=some x->x.k≠8)/\(∀x,es[c]?=some x->x.k≠8):=by
 have he:=h.he;rw [hm] at he;obtain ⟨c,e1,e2⟩:=he.split;obtain ⟨l,hl⟩:=h.kids;have h8:=h.TS h7 hl;rw [hm] at hl;obtain ⟨l2,rfl,hla⟩:=jf hl e1;obtain ⟨l3,rfl,hlb⟩:=jf hla e2;exact ⟨c,e1,e2,h8 _ (by simp),h8 _ (by simp)⟩
theorem lD.three (h:lD st M es f nx a b env D E p) (h7:p.k≠7) (hm:aP p=3):∃c d,EA es 1 (a+1) c/\EA es 1 c d/\EA es 1 d b/\(∀x,es[a+1]?=some x->x.k≠8)/\(∀x,es[c]?=some x->x.k≠8)/\(∀x,es[d]?=some x->x.k≠8):=by
 have he:=h.he;rw [hm] at he;obtain ⟨c,e1,e2⟩:=he.split;obtain ⟨d,e2,e3⟩:=e2.split;obtain ⟨l,hl⟩:=h.kids;have h8:=h.TS h7 hl;rw [hm] at hl;obtain ⟨l2,rfl,hla⟩:=jf hl e1;obtain ⟨l3,rfl,hlb⟩:=jf hla e2;obtain ⟨l4,rfl,hlc⟩:=jf hlb e3;exact ⟨c,d,e1,e2,e3,h8 _ (by simp),h8 _ (by simp),h8 _ (by simp)⟩
abbrev lD.Post (_:lD st M es f nx a b env D E p) (x:Option fC):Prop:=Gets es a b (TP st (D+(b-a)-1) (E*KT (b-a)) b) x
theorem lD.is (h:lD st M es f nx a b env D E p) {t:List Nd} {d:Nat} (hg:GT st d t) (hd:d<=D+(b-a)-1) (hl:t.length<=E*KT (b-a)):h.Post (some (.ok (t,b))):=.inl ⟨t,b,rfl,rfl,hg.mono hd,hl⟩
theorem lD.isT (h:lD st M es f nx a b env D E p) {t:List Nd} (hg:GT st M t) (hl:t.length<=M):h.Post (some (.ok (t,b))):=by
 have:=BR E (x:=b-a) (by have:=h.lt;omega) h.n;have:=h.hE;have:=h.hD;exact h.is hg (by omega) (by omega)
theorem aa8 (h:lD st M es f nx a b env D E p) (hk:p.k=0):h.Post (Fy p (a+1)):=by
 have he:=h.he;rw [show aP p=0 from by unfold aP;simp [hk]] at he;have:=he.zero;subst this;exact h.isT ((h.I.pt a p h.hp).T (by omega)) (h.I.pt a p h.hp).lT
theorem ZF (h:lD st M es f nx a b env D E p) (hk:p.k=1):h.Post (uE env p a (a+1)):=by
 have he:=h.he;rw [show aP p=0 from by unfold aP;simp [hk]] at he;have:=he.zero;subst this;unfold uE
 cases hl:lY env p.nm with
 |none=>exact .inr ⟨a,5,rfl,aG _,h.lt,p,h.hp,.inl ⟨rfl,hk⟩⟩
 |some t=>
  unfold lY at hl;rw [aaE] at hl;obtain ⟨e,h1,rfl⟩:=hl;have h2:=h.hv e (List.mem_reverse.1 (List.mem_of_find?_eq_some h1));have:=BR E (x:=a+1-a) (by omega) (by omega);exact h.is h2.1 (by omega) (by omega)
theorem aa9 (h:lD st M es f nx a b env D E p) (hk:p.k=2):h.Post (Fz nx env p (a+1)):=by
 obtain ⟨e1,h8⟩:=h.one (by omega) (by unfold aP;simp [hk]);have hT:=(h.I.pt a p h.hp).T (by omega);have lT:=(h.I.pt a p h.hp).lT;have hD:=h.hD;have hE:=h.hE;have hn:=h.n;have hlt:=e1.lt;refine (h.l6 e1 (by omega) (aG _) h8 (h.hv.app (.one (hT.mono (by omega)) (by omega))) (by simp)).dB ?_;rintro t c ⟨rfl,hg,hl⟩;have h1:=EK E (x:=c-(a+1)) (y:=1) (by omega);rw [show c-(a+1)+1=c-a from by omega,show KT 1=1 from rfl] at h1;refine h.is ((hT.mono (e:=D+(c-(a+1))-1) (by omega)).arrow hg) (by omega) ?_;rw [Fj];omega
theorem aa_ (h:lD st M es f nx a b env D E p) (hk:p.k=3):h.Post (DV nx env a (a+1)):=by
 obtain ⟨c,e1,e2,h8,g8⟩:=h.two (by omega) (by unfold aP;simp [hk]);have hlt:=e1.lt;have hlt2:=e2.lt;have hn:=h.n;refine (h.l6 e1 (by omega) (by omega) h8 h.hv (by omega)).dB ?_;rintro t c ⟨rfl,hg,hl⟩;refine (h.l6 e2 (by omega) (by omega) g8 h.hv (by omega)).dB ?_;rintro x d ⟨rfl,hg2,hl2⟩
 cases hc:iQ t with
 |none=>exact h.err (by omega)
 |some r=>
  obtain ⟨tk,tl⟩:=r;obtain ⟨k1,k2,k3,k4⟩:=hg.call hc;have:=o8 E (x:=c-(a+1)) (y:=d-a) (by omega) hn;dsimp only;split
  ·exact h.is k2 (by omega) (by omega)
  ·exact h.err (by omega)
theorem abb (h:lD st M es f nx a b env D E p) (hk:p.k=4):h.Post (FC nx env p a (a+1)):=by
 obtain ⟨c,e1,e2,h8,g8⟩:=h.two (by omega) (by unfold aP;simp [hk]);have hlt:=e1.lt;have hlt2:=e2.lt;have hn:=h.n;have hD:=h.hD;have hE:=h.hE;have hT:=(h.I.pt a p h.hp).T (by omega);have lT:=(h.I.pt a p h.hp).lT;refine (h.l6 e1 (by omega) (by omega) h8 h.hv (by omega)).dB ?_;rintro t c ⟨rfl,hg,hl⟩;unfold fZ;split
 ·refine (h.l6 e2 (by omega) (by omega) g8 (h.hv.app (.one (hT.mono (by omega)) (by omega))) (by simp)).mono (aG _) (aG _) ?_
  rintro u d ⟨rfl,hg2,hl2⟩;have:=o8 E (x:=d-c) (y:=d-a) (by omega) hn;exact ⟨rfl,hg2.mono (by omega),by omega⟩
 ·exact h.err (by omega)
theorem abd (h:lD st M es f nx a b env D E p) (hk:p.k=5):h.Post (FD nx env p a (a+1)):=by
 obtain ⟨c,e1,e2,h8,g8⟩:=h.two (by omega) (by unfold aP;simp [hk]);have hlt:=e1.lt;have hlt2:=e2.lt;have hn:=h.n;have hD:=h.hD;have hE:=h.hE;have hT:=(h.I.pt a p h.hp).T (by omega);have lT:=(h.I.pt a p h.hp).lT;have hU:=(h.I.pt a p h.hp).U (by omega);have lU:=(h.I.pt a p h.hp).lU;have hA:tq st D E [(p.nm,aW p.T p.U)]:=.one ((hT.arrow hU).mono (by omega)) (by rw [Fj];omega);refine (h.l6 e1 (by omega) (by omega) h8 (h.hv.app (bL:=[(p.nm,aW p.T p.U),(p.bd,p.T)]) (hA.app (bL:=[(p.bd,p.T)]) (.one (hT.mono (by omega)) (by omega)))) (by simp)).dB ?_;rintro t c ⟨rfl,hg,hl⟩;unfold fZ;split
 ·refine (h.l6 e2 (by omega) (by omega) g8 (h.hv.app hA) (by simp)).mono (aG _) (aG _) ?_
  rintro u d ⟨rfl,hg2,hl2⟩;have:=o8 E (x:=d-c) (y:=d-a) (by omega) hn;exact ⟨rfl,hg2.mono (by omega),by omega⟩
 ·exact h.err (by omega)
theorem ZG (h:lD st M es f nx a b env D E p) (hk:p.k=6):h.Post (xP nx env a (a+1)):=by
 obtain ⟨c,d,e1,e2,e3,h8,g8,i8⟩:=h.three (by omega) (by unfold aP;simp [hk]);have hlt:=e1.lt;have hlt2:=e2.lt;have hlt3:=e3.lt;have hn:=h.n;refine (h.l6 e1 (by omega) (by omega) h8 h.hv (by omega)).dB ?_;rintro t c ⟨rfl,hg,hl⟩;refine (h.l6 e2 (by omega) (by omega) g8 h.hv (by omega)).dB ?_;rintro x d ⟨rfl,hg2,hl2⟩;refine (h.l6 e3 (by omega) (by omega) i8 h.hv (by omega)).dB ?_;rintro y e ⟨rfl,hg3,hl3⟩;split
 ·unfold ru
  cases hm:met 1 x y with
  |none=>exact h.err (by omega)
  |some m=>
   obtain ⟨k1,k2⟩:=GF.met (st:=st) _ (D+(e-a)-1) 5 bZ 1 x y m (aG _) (hg2.mono (by omega)) (hg3.mono (by omega)) hm;have:=EK E (x:=d-c) (y:=e-d) (by omega);have:=o8 E (x:=d-c+(e-d)) (y:=e-a) (by omega) hn;exact h.is k1 (aG _) (by omega)
 ·exact h.err (by omega)
theorem ahg (h:lD st M es f nx a b env D E p) (hk:p.k=9):h.Post (NU nx env p a (a+1)):=by
 obtain ⟨c,e1,e2,h8,g8⟩:=h.two (by omega) (by unfold aP;simp [hk]);have hlt:=e1.lt;have hlt2:=e2.lt;have hn:=h.n;refine (h.l6 e1 (by omega) (by omega) h8 h.hv (by omega)).dB ?_;rintro t c ⟨rfl,hg,hl⟩;refine (h.l6 e2 (by omega) (by omega) g8 h.hv (by omega)).dB ?_;rintro x d ⟨rfl,hg2,hl2⟩;split
 ·have h1:=BR E (x:=d-a) (by omega) hn
  have h2:=h.hE;have h3:=h.hD;refine h.is (GT.leaf (d:=1) ?_ (aG _)) (by omega) (by show 1<=_;omega);unfold fM dD
  repeat' split
  all_goals omega
 ·exact h.err (by omega)
theorem abe (h:lD st M es f nx a b env D E p) (hk:p.k=11):h.Post (getM nx env p a (a+1)):=by
 obtain ⟨e1,h8⟩:=h.one (by omega) (by unfold aP;simp [hk]);have hlt:=e1.lt;have hn:=h.n;refine (h.l6 e1 (by omega) (by omega) h8 h.hv (by omega)).dB ?_;rintro t c ⟨rfl,hg,hl⟩;unfold mV
 cases hf:bJ t p.nm with
 |none=>exact h.err (by omega)
 |some u=>
  obtain ⟨k1,k2⟩:=hg.field hf;have:=o8 E (x:=c-(a+1)) (y:=c-a) (by omega) hn;exact h.is k1 (by omega) (by omega)
theorem abf (h:lD st M es f nx a b env D E p) (hk:p.k=12):h.Post (DW nx env p a (a+1)):=by
 obtain ⟨e1,h8⟩:=h.one (by omega) (by unfold aP;simp [hk]);have hlt:=e1.lt;have hT:=(h.I.pt a p h.hp).T (by omega);have lT:=(h.I.pt a p h.hp).lT;refine (h.l6 e1 (by omega) (by omega) h8 h.hv (by omega)).dB ?_;rintro t c ⟨rfl,hg,hl⟩;unfold mV
 cases hf:bJ p.T p.nm with
 |none=>exact h.err (by omega)
 |some u=>
  dsimp only [dB];split
  ·exact h.isT hT lT
  ·exact h.err (by omega)
theorem ahh (h:lD st M es f nx a b env D E p) (hk:p.k=13):h.Post (Xk nx env p a (a+1)):=by
 obtain ⟨e1,h8⟩:=h.one (by omega) (by unfold aP;simp [hk]);have hlt:=e1.lt;have hT:=(h.I.pt a p h.hp).T (by omega);have lT:=(h.I.pt a p h.hp).lT;refine (h.l6 e1 (by omega) (by omega) h8 h.hv (by omega)).dB ?_;rintro t c ⟨rfl,hg,hl⟩;split
 ·exact h.isT hT lT
 ·exact h.err (by omega)
theorem ZH (h:lD st M es f nx a b env D E p) (hk:p.k=14):h.Post (uF nx env p a (a+1)):=by
 obtain ⟨e1,h8⟩:=h.one (by omega) (by unfold aP;simp [hk]);have hlt:=e1.lt;have hU:=(h.I.pt a p h.hp).U (by omega);have lU:=(h.I.pt a p h.hp).lU;refine (h.l6 e1 (by omega) (by omega) h8 h.hv (by omega)).dB ?_;rintro t c ⟨rfl,hg,hl⟩;split
 ·exact h.isT hU lU
 ·exact h.err (by omega)
end
theorem Kj {es:List Pt}:∀{n a b:Nat} {l:List Nat},EA es n a b->dF es n a=some l->∀i∈l,i<es.length
 |0,a,b,l,_,hl,i,hi=>by
  simp only [dF,Option.some.injEq] at hl;subst hl
  simp at hi
 |n+1,a,b,l,he,hl,i,hi=>by
  obtain ⟨d,e1,e2⟩:=he.split;obtain ⟨l2,rfl,hl2⟩:=jf hl e1;have:=e1.lt;rcases oJ.1 hi with rfl|hi
  ·omega
  ·exact Kj e2 hl2 i hi
def yR (es:List Pt) (a:Nat):ByteArray:=((es[a]?).getD default).lb
section
variable {st:Bool} {M:Nat} {es:List Pt} {f:Nat} {nx:Nx} {a b:Nat} {env:Env} {D E:Nat} {p:Pt}
theorem R5 (h:lD st M es f nx a b env D E p):∀(n c:Nat) (l:List Nat) (fs:List eT),EA es n c b->a<c->dF es n c=some l->(∀i∈l,∀x,es[i]?=some x->x.k≠8)->
  (∀q∈fs,GT st (D+(b-a)-2) q.2)->(fs.map fun q=>q.2.length).sum<=E*KT (c-(a+1))->
  (∃gs,f_ nx es env n c fs=some (.ok (gs,b))/\gs.map (·.1)=fs.map (·.1)++l.map (yR es)/\(∀q∈gs,GT st (D+(b-a)-2) q.2)/\(gs.map fun q=>q.2.length).sum<=E*KT (b-(a+1)))\/
  (∃i e,f_ nx es env n c fs=some (.error (i,e))/\ZE es a b i e):=by
 intro n
 induction n with
 |zero=>
  intro c l fs he hac hl h8 hg hs;have:=he.zero;subst this;simp only [dF,Option.some.injEq] at hl;subst hl
  exact .inl ⟨fs,rfl,by simp,hg,hs⟩
 |succ n ih=>
  intro c l fs he hac hl h8 hg hs;obtain ⟨d,e1,e2⟩:=he.split;obtain ⟨l2,rfl,hl2⟩:=jf hl e1;have hlt:=e1.lt;have hlt2:=e2.lt;have hn:=h.n;obtain ⟨x,hx,_⟩:=e1.open;have hc:=h.l6 e1 (by omega) (by omega) (h8 c (by simp)) h.hv (by omega);unfold f_;rw [hx];dsimp only;rcases hc with ⟨t,c2,hc,rfl,hg2,hl3⟩|⟨i,e,hc,hE⟩
  ·rw [hc]
   dsimp only;have:=EK E (x:=c-(a+1)) (y:=c2-c) (by omega);rw [show c-(a+1)+(c2-c)=c2-(a+1) from by omega] at this
   have hr:=ih c2 l2 (fs++[(x.lb,t)]) e2 (by omega) hl2 (fun i hi=>h8 i (by simp [hi])) (fun q hq=>by
    rcases nV.1 hq with hq|hq
    ·exact hg q hq
    ·simp at hq
     subst hq;exact hg2.mono (by omega)) (by simp;omega)
   have hlb:yR es c=x.lb:=by unfold yR;rw [hx];rfl
   simpa [hlb] using hr
  ·rw [hc]
   exact .inr ⟨i,e,rfl,hE⟩
theorem rows_ok (h:lD st M es f nx a b env D E p) (hk:p.k=10):h.Post (sM nx es env p (a+1)):=by
 have hm:=(h.I.pt a p h.hp).m10 hk;have hlt:=h.lt;have hn:=h.n;have hD:=h.hD;have hE:=h.hE;have he:=h.he;have hmn:aP p=p.mn.toNat:=by unfold aP;simp [hk]
 obtain ⟨l,hl,hL⟩:=h.I.kids a p h.hp;have h8:=h.TS (by omega) hl;rw [hmn] at he hl;unfold sM;rw [if_pos hm];have hlen:l.length=p.mn.toNat:=by rw [hL.len,hmn]
 rcases R5 h p.mn.toNat (a+1) l [] he (by omega) hl h8 (by simp) (by simp) with ⟨gs,h1,h2,h3,h4⟩|⟨i,e,h1,h2⟩
 ·rw [h1]
  dsimp only;simp only [List.map_nil,List.nil_append] at h2
  have hgl:gs.length=l.length:=by
   have:=congrArg uS h2;simpa using this
  have hpt:∀i∈l,∃x,es[i]?=some x/\yR es i=x.lb:=fun i hi=>by
   have:=(Kj he hl i hi);refine ⟨es[i],bA this,?_⟩;unfold yR;rw [bA this];rfl
  have hw:∀q∈gs,nX q.1=true/\q.1.size<=100:=fun q hq=>by
   have h5:q.1∈gs.map (·.1):=List.mem_map_of_mem hq;rw [h2] at h5;obtain ⟨i,hi,h6⟩:=aas.1 h5;obtain ⟨x,hx,h7⟩:=hpt i hi;obtain ⟨k,hk2⟩:=aaN hi;rw [<-h6,h7];exact ⟨hL.word k i x hk2 hx hk,(h.I.pt i x hx).lb⟩
  have hnd:(gs.map (·.1)).Nodup:=by
   rw [h2];unfold List.Nodup;rw [List.pairwise_map,List.pairwise_iff_getElem];intro i j hi hj hij;obtain ⟨x,hx,h6⟩:=hpt l[i] (aaO hi);obtain ⟨y,hy,h7⟩:=hpt l[j] (aaO hj);rw [h6,h7];refine hL.diff i j _ _ x y hij (bA hi) (bA hj) hx hy fun e=>?_;have:=hL.word j _ y (bA hj) hy hk;rw [e] at this;have hne:=sD (k:=6) (s:=bZ) (by decide) (by simpa [bR] using this);exact hne (by rw [bC];rfl)
  have hbr:jQ 6 (gs.map (·.1)) gs.length=false:=by
   unfold jQ kX;simp only [Bool.or_eq_false_iff];refine ⟨⟨⟨⟨rfl,by simp⟩,by simp;omega⟩,by simp⟩,?_⟩;rw [List.drop_zero,List.any_eq_false];intro s hs;obtain ⟨q,hq,rfl⟩:=aas.1 hs;simp [bR,(hw q hq).1]
  rw [if_pos ⟨hbr,hnd⟩];by_cases hab:b=a+1
  ·have hz:gs.length=0:=by
    have:=he.lt;omega
   have hz2:gs=[]:=List.eq_nil_of_length_eq_zero hz;subst hz2;have hr:=GT.row (st:=st) (d:=D-1) (by omega) [] (by simp) (by simp) (by simp);exact h.is (hr.1) (by omega) (by rw [hr.2];have:=BR E (x:=b-a) (by omega) (by omega);simp;omega)
  ·obtain ⟨r1,r2⟩:=GT.row (st:=st) (d:=D+(b-a)-2) (by omega) gs (fun q hq=>⟨h3 q hq,by simp [bR,(hw q hq).1],(hw q hq).2⟩) hnd (by omega)
   have:=EK E (x:=b-(a+1)) (y:=1) (by omega);rw [show b-(a+1)+1=b-a from by omega,show KT 1=1 from rfl] at this;exact h.is r1 (by omega) (by rw [r2];omega)
 ·rw [h1]
  exact .inr ⟨i,e,rfl,h2⟩
theorem VE {l:List ByteArray} {s:ByteArray} (h:s∈l):s∈kZ l:=by
 unfold kZ;have h1:s.toList∈(l.map ByteArray.toList).mergeSort fun x y=>decide (x<=y):=(List.mergeSort_perm ..).symm.subset (List.mem_map_of_mem h);refine aas.2 ⟨s.toList,h1,?_⟩;exact xG (bC s)
theorem Pj (h:lD st M es f nx a b env D E p) {ot:List Nd} {c1:Nat} (hc1:a+1<c1) (hg:GT st (D+(c1-(a+1))-1) ot) (hl:ot.length<=E*KT (c1-(a+1))):
  ∀(n c:Nat) (l:List Nat) (ts:List (List Nd)),EA es n c b->c1<=c->dF es n c=some l->(∀i∈l,∀x,es[i]?=some x->x.k=8)->(∀i∈l,∃u,bJ ot (yR es i)=some u)->
  (∀t∈ts,GT st (D+(b-a)-1) t)->(ts.map uS).sum<=E*KT (c1-(a+1))*KT (c-c1-1)->
  (∃us,eu nx es env ot n c ts=some (.ok (us,b))/\us.length=ts.length+n/\(∀t∈us,GT st (D+(b-a)-1) t)/\(us.map uS).sum<=E*KT (c1-(a+1))*KT (b-c1-1))\/
  (∃i e,eu nx es env ot n c ts=some (.error (i,e))/\ZE es a b i e):=by
 intro n
 induction n with
 |zero=>
  intro c l ts he hc hk h8 hf ht hs;have:=he.zero;subst this
  exact .inl ⟨ts,rfl,by simp,ht,hs⟩
 |succ n ih=>
  intro c l ts he hc hk h8 hf ht hs;obtain ⟨d,e1,e2⟩:=he.split;obtain ⟨l2,rfl,hl2⟩:=jf hk e1;have hlt:=e1.lt;have hlt2:=e2.lt;have hn:=h.n;have hD:=h.hD;have hE:=h.hE;obtain ⟨x,hx,e3⟩:=e1.open;have VF:=h8 c (by simp) x hx;have hlb:yR es c=x.lb:=by unfold yR;rw [hx];rfl
  obtain ⟨u,hu⟩:=hf c (by simp);rw [hlb] at hu;rw [show aP x=1 from by unfold aP;simp [VF]] at e3;have hlt3:=e3.lt
  have hx9:∀y,es[c+1]?=some y->y.k≠8:=by
   obtain ⟨l3,k1,k2⟩:=h.I.kids c x hx;rw [show aP x=1 from by unfold aP;simp [VF]] at k1;obtain ⟨l4,rfl,_⟩:=jf k1 e3;intro y hy h8;have:=(k2.kind 0 (c+1) y rfl hy).1 h8;omega
  obtain ⟨g1,g2⟩:=hg.field hu;have hE1:=BR E (x:=c1-(a+1)) (by omega) (by omega);have hmul:=Nat.mul_le_mul_left E (TR (x:=c1-(a+1)) (y:=d-(c+1)) (by omega));rw [<-Nat.mul_assoc] at hmul;have hup:=o8 E (x:=c1-(a+1)+(d-(c+1))+2) (y:=b-a) (by omega) hn;have hb:=h.s;have hcall:=h.call (bL:=env++[(x.bd,u)]) (D2:=D+(c1-(a+1))-1) (E2:=E*KT (c1-(a+1))) e3 (by omega) (by omega) hx9 ((h.hv.mono (by omega) hE1).app (.one g1 (by omega))) (by omega) hE1 (by simp) (by omega);unfold eu;rw [hx];dsimp only;rw [hu,Option.getD_some];rcases hcall with ⟨t,c2,hc2,rfl,hg2,hl3⟩|⟨i,e,hc2,hE2⟩
  ·rw [hc2]
   dsimp only;have h5:=Nat.mul_le_mul_left (E*KT (c1-(a+1))) (ML (x:=c-c1-1) (y:=c2-(c+1)) (by omega));rw [Nat.mul_add] at h5;have h6:=o8 (E*KT (c1-(a+1))) (x:=c-c1-1+(c2-(c+1))) (y:=c2-c1-1) (by omega) (by omega)
   have hr:=ih c2 l2 (ts++[t]) e2 (by omega) hl2 (fun i hi=>h8 i (by simp [hi])) (fun i hi=>hf i (by simp [hi])) (fun q hq=>by
    rcases nV.1 hq with hq|hq
    ·exact ht q hq
    ·simp at hq
     subst hq;exact hg2.mono (by omega)) (by simp;omega)
   rcases hr with ⟨us,r1,r2,r3,r4⟩|hr
   ·exact .inl ⟨us,r1,by rw [r2];simp;omega,r3,r4⟩
   ·exact .inr hr
  ·rw [hc2]
   exact .inr ⟨i,e,rfl,hE2⟩
theorem R6 {d:Nat} (aK:Nat):∀(ts:List (List Nd)) (m:List Nd),GT st d m->(∀t∈ts,GT st d t)->m.length+(ts.map uS).sum<=1000000000->
  (∃m2,bT aK m ts=some (.ok m2)/\GT st d m2/\m2.length<=m.length+(ts.map uS).sum)\/bT aK m ts=some (.error (aK,9)):=by
 intro ts
 induction ts with
 |nil=>intro m hm _ _;exact .inl ⟨m,rfl,hm,by simp⟩
 |cons t ts ih=>
  intro m hm ht hs;simp only [Nc,aaR] at hs ⊢;unfold bT
  cases hmt:met 1 m t with
  |none=>exact .inr rfl
  |some m2=>
   obtain ⟨k1,k2⟩:=GF.met (st:=st) _ d 5 bZ 1 m t m2 (aG _) hm (ht t (by simp)) hmt;have k3:GT st d m2:=k1;dsimp only;rw [if_pos (k3.gd (by omega))];rcases ih m2 k3 (fun u hu=>ht u (by simp [hu])) (by omega) with ⟨m3,r1,r2,r3⟩|r
   ·exact .inl ⟨m3,r1,r2,by omega⟩
   ·exact .inr r
theorem VG (h:lD st M es f nx a b env D E p) (hk:p.k=7):h.Post (oN nx es env p a (a+1)):=by
 have hm:=(h.I.pt a p h.hp).m7 hk;have hlt:=h.lt;have hn:=h.n;have hD:=h.hD;have hE:=h.hE;have hv:=h.v;have he:=h.he;have hmn:aP p=p.mn.toNat+1:=by unfold aP;simp [hk]
 obtain ⟨l,hl,hL⟩:=h.I.kids a p h.hp;have hl0:=hl;rw [hmn] at he hl;obtain ⟨c1,e1,e2⟩:=he.split;obtain ⟨l2,rfl,hl2⟩:=jf hl e1;have hlt1:=e1.lt;have hlt2:=e2.lt;unfold oN;rw [if_pos ⟨hm.1,hm.2,by omega⟩];refine (h.l6 e1 (by omega) (by omega) (fun x hx h8=>by have:=(hL.kind 0 (a+1) x rfl hx).1 h8;omega) h.hv (by omega)).dB ?_;rintro ot c ⟨rfl,hg,hlo⟩
 have htag:kQ es ot a=match kI ot with
   |none=>some false
   |some tags=>some (decide ((aQ ot).k=0)||decide (tags=kZ (l2.map (yR es)))):=by
  unfold kQ;rw [h.hp];dsimp only;rw [hl0];rfl
 rw [htag]
 cases Ez:kI ot with
 |none=>exact h.err (by omega)
 |some tags=>
  dsimp only
  cases hb:(decide ((aQ ot).k=0)||decide (tags=kZ (l2.map (yR es)))) with
  |false=>exact h.err (by omega)
  |true=>
   dsimp only;rw [Bool.or_eq_true,decide_eq_true_eq,decide_eq_true_eq] at hb
   have hf:∀i∈l2,∃u,bJ ot (yR es i)=some u:=fun i hi=>by
    refine FK Ez ?_;rcases hb with hb|hb
    ·exact .inl hb
    ·right
     rw [hb];exact VE (List.mem_map_of_mem hi)
   have h8:∀i∈l2,∀x,es[i]?=some x->x.k=8:=fun i hi x hx=>by
    obtain ⟨k,hk2⟩:=aaN hi;exact (hL.kind (k+1) i x (by simpa using hk2) hx).2 ⟨hk,by omega⟩
   have hmul:=Nat.mul_le_mul_left E (TR (x:=c-(a+1)) (y:=b-c-1) (by omega));rw [<-Nat.mul_assoc,show c-(a+1)+(b-c-1)+2=b-a from by omega] at hmul;have hsz:=h.s;rcases Pj h (ot:=ot) (c1:=c) (by omega) hg hlo p.mn.toNat c l2 [] e2 (aG _) hl2 h8 hf (by simp) (by simp) with ⟨us,r1,r2,r3,r4⟩|⟨i,e,r1,r2⟩
   ·rw [r1]
    dsimp only
    match us,r2,r3,r4 with
    |[],r2,_,_=>simp at r2;omega
    |t::ts,r2,r3,r4=>
     simp only [Nc,aaR] at r4;dsimp only;rcases R6 (st:=st) (d:=D+(b-a)-1) a ts t (r3 t (by simp)) (fun u hu=>r3 u (by simp [hu])) (by omega) with ⟨m2,s1,s2,s3⟩|s
     ·rw [s1]
      exact h.is s2 (aG _) (by omega)
     ·rw [s]
      exact h.err (by omega)
   ·rw [r1]
    exact .inr ⟨i,e,rfl,r2⟩
theorem VH (h:lD st M es f nx a b env D E p) {x:Option fC} (hx:h.Post x):h.Post (Il x):=by
 rcases hx with ⟨t,c,rfl,hc,hg,hl⟩|⟨i,e,rfl,h2⟩
 ·unfold Il
  dsimp only;rw [if_pos ⟨hg.gd (by have:=h.s;omega),by have:=h.s;omega⟩];exact .inl ⟨t,c,rfl,hc,hg,hl⟩
 ·exact .inr ⟨i,e,rfl,h2⟩
theorem abg (h:lD st M es f nx a b env D E p) (h8:p.k≠8):h.Post (fV nx es env p a (a+1)):=by
 have hk:=(h.I.pt a p h.hp).k;unfold fV;by_cases h0:p.k=0
 ·rw [if_pos h0];exact aa8 h h0
 rw [if_neg h0];by_cases h1:p.k=1
 ·rw [if_pos h1];exact ZF h h1
 rw [if_neg h1];by_cases h2:p.k=2
 ·rw [if_pos h2];exact aa9 h h2
 rw [if_neg h2];by_cases h3:p.k=3
 ·rw [if_pos h3];exact aa_ h h3
 rw [if_neg h3];by_cases h4:p.k=4
 ·rw [if_pos h4];exact abb h h4
 rw [if_neg h4];by_cases h5:p.k=5
 ·rw [if_pos h5];exact abd h h5
 rw [if_neg h5];by_cases h6:p.k=6
 ·rw [if_pos h6];exact ZG h h6
 rw [if_neg h6];by_cases h7:p.k=7
 ·rw [if_pos h7];exact VG h h7
 rw [if_neg h7];by_cases h9:p.k=9
 ·rw [if_pos h9];exact ahg h h9
 rw [if_neg h9];by_cases h10:p.k=10
 ·rw [if_pos h10];exact rows_ok h h10
 rw [if_neg h10];by_cases h11:p.k=11
 ·rw [if_pos h11];exact abe h h11
 rw [if_neg h11];by_cases h12:p.k=12
 ·rw [if_pos h12];exact abf h h12
 rw [if_neg h12];by_cases pG:p.k=13
 ·rw [if_pos pG];exact ahh h pG
 rw [if_neg pG,if_pos (show p.k=14 from by omega)];exact ZH h (by omega)
end
theorem ZI {st:Bool} {M:Nat} {p:Pt} (hM:M<=5000000) (h:PtG st M p):qO p/\yQ p:=by
 have h1:=h.lT;have h2:=h.lU;exact ⟨⟨fun hk h11=>(h.T (by omega)).gd (by omega),fun hk=>(h.U hk).gd (by omega)⟩,⟨fun hk=>⟨(h.T (by omega)).gd (by omega),by omega⟩,fun hk=>⟨(h.U (.inl hk)).gd (by omega),by omega⟩⟩⟩
theorem ZJ {st:Bool} {M:Nat} (hM:M<=5000000) {es:List Pt} (hI:InE st M es):∀f,NxG st M es f (jm f es):=by
 intro f
 induction f with
 |zero=>
  intro a b env D E he hf;have:=he.lt
  omega
 |succ f ih=>
  intro a b env D E he hf h8 hv hD hE hl hn hs;obtain ⟨p,hp,he2⟩:=he.open;have:=he.lt;have h:lD st M es f (jm f es) a b env D E p:=⟨ih,hI,hp,he2,by omega,by omega,hv,hD,hE,hl,hn,hs⟩;unfold jm;rw [hp];dsimp only;obtain ⟨h1,h2⟩:=ZI hM (hI.pt a p hp);rw [if_pos ⟨by omega,h1,h2⟩];exact VH h (abg h (h8 p hp))
theorem Ef (x:List Pt):gP (ng x) x=x:=by cases x<;>rfl
theorem R7 (s r:ByteArray) (x:List Pt):gP s (gP r x)=gP s x:=by cases x<;>rfl
theorem VI (s:ByteArray) {x:List Pt} (h:x≠[]):ng (gP s x)=s:=by
 cases x with
 |nil=>exact absurd rfl h
 |cons p x=>rfl
def qE (f0:Nat) (env:Env) (x:List Pt) (t:List Nd):Prop:=∀f,f0<=f->∀(s:ByteArray) (es:List Pt) (a:Nat) (env':Env),At es a (gP s x)->gI env env'->
 ∃t',gW f es env' a=some (.ok (t',a+x.length))/\cst f es env' a=some (gP s x,t',a+x.length)/\Q2 t t'
def fU (env:Env) (x:List Pt) (t:List Nd):Prop:=∃f0,qE f0 env x t
theorem qE.mono {f0 f1:Nat} {env:Env} {x:List Pt} {t:List Nd} (h:qE f0 env x t) (hf:f0<=f1):qE f1 env x t:=fun f hf1=>h f (Nat.le_trans hf hf1)
theorem fU.q {env:Env} {x:List Pt} {t u:List Nd} (h:fU env x t) (k:Q2 t u):fU env x u:=by
 obtain ⟨f0,h⟩:=h;refine ⟨f0,fun f hf s es a env' ha hE=>?_⟩;obtain ⟨t',h1,h2,h3⟩:=h f hf s es a env' ha hE;exact ⟨t',h1,h2,k.symm.trans h3⟩
theorem fU.lb {env:Env} {x:List Pt} {t:List Nd} (h:fU env x t) (r:ByteArray):fU env (gP r x) t:=by
 obtain ⟨f0,h⟩:=h;refine ⟨f0,fun f hf s es a env' ha hE=>?_⟩;rw [R7] at ha ⊢;rw [sZ];exact h f hf s es a env' ha hE
theorem qE.at {f0:Nat} {env:Env} {x:List Pt} {t:List Nd} (h:qE f0 env x t) {f:Nat} (hf:f0<=f) {es:List Pt} {a:Nat} {env':Env} (ha:At es a x) (hE:gI env env'):
  ∃t',gW f es env' a=some (.ok (t',a+x.length))/\cst f es env' a=some (x,t',a+x.length)/\Q2 t t'/\Gd t':=by
 have h1:=h f hf (ng x) es a env' (by rw [Ef];exact ha) hE;rw [Ef] at h1;obtain ⟨t',h2,h3,h4⟩:=h1;exact ⟨t',h2,h3,h4,(BP _ _ _ _ _ _ _ h3).gd⟩
theorem VJ {g:Nat} {es:List Pt} {env:Env} {a:Nat} {p:Pt} {t:List Nd} {b:Nat} (hp:es[a]?=some p) (hl:env.length<=900000) (ho:qO p) (hw:fV (gW g es) es env p a (a+1)=some (.ok (t,b))) (hg:Gd t):gW (g+1) es env a=some (.ok (t,b)):=by
 unfold gW;rw [hp];dsimp only;rw [if_pos ⟨hl,ho⟩,hw];simp only [Am];rw [if_pos hg]
theorem Kk {g:Nat} {es:List Pt} {env:Env} {a:Nat} {p:Pt} {x:List Pt} {t:List Nd} {b:Nat} (hp:es[a]?=some p) (hl:env.length<=900000) (ho:yQ p) (hw:dG (cst g es) es env p (a+1)=some (x,t,b)) (hg:pI x t):cst (g+1) es env a=some (x,t,b):=by
 unfold cst;rw [hp];dsimp only;rw [if_pos ⟨hl,ho⟩,hw];simp only [Ie];rw [if_pos hg]
theorem fU.mk {env:Env} {p:Pt} {xs:List Pt} {t:List Nd} (ho:qO p) (hx:yQ p) (hl:env.length<=900000) (hln:xs.length<=90000) (htl:t.length<=5000000) (f0:Nat)
  (H:∀(s:ByteArray) (g:Nat),f0<=g->∀(es:List Pt) (a:Nat) (env':Env),At es (a+1) xs->es[a]?=some {p with lb:=s}->gI env env'->env'.length<=900000->∃t',fV (gW g es) es env' {p with lb:=s} a (a+1)=some (.ok (t',a+1+xs.length))/\dG (cst g es) es env' {p with lb:=s} (a+1)=some ({p with lb:=s}::xs,t',a+1+xs.length)/\Q2 t t'/\Gd t'):fU env (p::xs) t:=by
 refine ⟨f0+1,fun f hf s es a env' ha hE=>?_⟩;obtain ⟨g,rfl⟩:∃g,f=g+1:=⟨f-1,by omega⟩;have hl':env'.length<=900000:=by rw [<-hE.len];exact hl
 have ha':At es a ({p with lb:=s}::xs):=ha;obtain ⟨t',h1,h2,h3,h4⟩:=H s g (by omega) es a env' ha'.tail ha'.head hE hl';rw [show a+1+xs.length=a+(p::xs).length by rw [List.length_cons];omega] at h1 h2;have ho':qO {p with lb:=s}:=ho;have hx':yQ {p with lb:=s}:=hx;exact ⟨t',VJ ha'.head hl' ho' h1 h4,Kk ha'.head hl' hx' h2 ⟨List.cons_ne_nil _ _,by show xs.length+1<=100000;omega,h4,by rw [<-h3.len];exact htl⟩,h3⟩
theorem j_ {x:List Pt} {t u:List Nd} (h:Q2 t u):toM x t u=x:=by unfold toM;rw [if_pos (same_iff.2 h)]
theorem fU.to {env:Env} {x:List Pt} {t u:List Nd} (h:fU env x t) (gt:Gd t) (gu:Gd u) (ha:jA t u=true) (hl:env.length<=900000) (hln:x.length<=90000) (hul:u.length<=5000000):fU env (toM x t u) u:=by
 unfold toM;split
 ·rename_i hs
  exact h.q (same_iff.1 hs)
 ·obtain ⟨f0,h⟩:=h
  have gnt:=TN gt;have gnu:=TN gu;refine fU.mk (p:=n_ (ng x) t u) ⟨fun _ _=>gnt,fun _=>gnu⟩ ⟨fun hk=>?_,fun hk=>?_⟩ hl (by rw [sZ];exact hln) hul f0 fun s g hg es a env' hat hp hE hl'=>?_
  ·simp [n_] at hk
  ·simp [n_] at hk
  ·obtain ⟨t1,h1,h2,h3⟩:=h g hg _ es (a+1) env' hat hE
   rw [sZ];have hk:({n_ (ng x) t u with lb:=s}:Pt).k=14:=rfl;refine ⟨aH u,?_,?_,Q2.Zx u,gnu⟩
   ·have hw:fV (gW g es) es env' {n_ (ng x) t u with lb:=s} a (a+1)=uF (gW g es) env' {n_ (ng x) t u with lb:=s} a (a+1):=by unfold fV;simp [n_]
    rw [hw];unfold uF;rw [h1];dsimp only [dB];rw [if_pos ⟨same_iff.2 (h3.symm.trans (Q2.Zx t)),(Q2.Zx t).ag (Q2.Zx u) ha⟩];rfl
   ·have hw:dG (cst g es) es env' {n_ (ng x) t u with lb:=s} (a+1)=wE (cst g es) env' {n_ (ng x) t u with lb:=s} (a+1):=by unfold dG;simp [n_]
    rw [hw];unfold wE;rw [h2];rfl
theorem AB {xs ys:List Nd} (h:bI xs) (k:bI ys):bI (xs++ys):=fun x hx=>by
 rcases nV.1 hx with hx|hx
 ·exact h x hx
 ·exact k x hx
theorem Dr {a b:List Nd} (ga:Gd a) (gb:Gd b) (hl:a.length+b.length<=100000000):Gd (aW a b):=by
 refine ⟨fun x hx=>?_,?_,rfl,by rw [show (aW a b).length=a.length+b.length+1 by simp [aW]];omega⟩
 ·rcases oJ.1 hx with rfl|hx
  ·rfl
  ·exact AB ga.ok gb.ok x hx
 ·have:=Fo.cons (n:=0) (x:=⟨5,bZ,0⟩) (ks:=a++b) (rs:=[]) (by
   have h2:=ga.fo.append gb.fo;exact h2) Fo.zero
  rw [List.append_nil] at this;exact this
theorem Kl {xs:List Nd} (h:bI xs):bI (cZ xs):=by
 have:∀(ys:List Nd) (n:Nat) (zs:List Nd),skip ys n=some zs->∀z∈zs,z∈ys:=by
  intro ys
  induction ys with
  |nil=>
   intro n zs hz z hm
   cases n with
   |zero=>rw [iL] at hz;injection hz with hz;rw [hz];exact hm
   |succ n=>rw [uX] at hz;cases hz
  |cons y ys ih=>
   intro n zs hz z hm
   cases n with
   |zero=>rw [iL] at hz;injection hz with hz;rw [hz];exact hm
   |succ n=>
    rw [jq] at hz;exact List.mem_cons_of_mem _ (ih _ _ hz z hm)
 intro z hz;unfold cZ at hz
 cases hs:skip xs 1 with
 |none=>rw [hs] at hz;simp at hz
 |some zs=>
  rw [hs] at hz;exact h z (this _ _ _ hs z hz)
theorem Km {xs:List Nd} (h:bI xs):bI (nk xs):=fun x hx=>h x (List.mem_of_mem_take hx)
theorem zl:∀(N n:Nat) (xs ys m:List Nd),xs.length<=N->bI xs->bI ys->met n xs ys=some m->bI m
 |_,0,xs,ys,m,_,_,_,h=>by
  rw [jk] at h;injection h with h
  subst h;intro x hx
  cases hx
 |_,n+1,[],ys,m,_,_,_,h=>by unfold met at h;simp [sG] at h
 |_,n+1,x::xt,[],m,_,_,_,h=>by unfold met at h;simp [sG] at h
 |0,n+1,x::xt,y::yt,m,hl,_,_,_=>by simp at hl
 |N+1,n+1,x::xt,y::yt,m,hl,h1,h2,h=>by
  have hl2:xt.length<=N:=by simpa using hl
  have hr:=u6 x xt;rw [jJ] at h;split at h
  ·cases h
  split at h
  ·rw [aaE] at h
   obtain ⟨r,h3,rfl⟩:=h;have h4:=zl N n _ _ r (by omega) (Kl h1) (Kl h2) h3;split
   ·exact AB (Km h1) h4
   ·exact AB (Km h2) h4
  ·split at h
   ·cases h
   ·rw [aaE] at h
    obtain ⟨r,h3,rfl⟩:=h;have h4:=zl N _ _ _ r hl2 (fun z hz=>h1 z (by simp [hz])) (fun z hz=>h2 z (by simp [hz])) h3;intro z hz;rcases oJ.1 hz with rfl|hz
    ·exact h1 z (by simp)
    ·exact h4 z hz
theorem Pk:∀(ts ts':List (List Nd)) (t t' m:List Nd) (a a':Nat),Q2 t t'->Gd t'->ts.length=ts'.length->(∀(i:Nat) (u u':List Nd),ts[i]?=some u->ts'[i]?=some u'->Q2 u u'/\Gd u')->Gd t->bT a t ts=some (.ok m)->
  ∃m',bT a' t' ts'=some (.ok m')/\Q2 m m'/\Gd m'
 |[],[],t,t',m,a,a',hq,hg,_,_,_,hm=>by
  unfold bT at hm;injection hm with hm
  injection hm with hm
  subst hm
  exact ⟨t',rfl,hq,hg⟩
 |[],_::_,_,_,_,_,_,_,_,hl,_,_,_=>by simp at hl
 |_::_,[],_,_,_,_,_,_,_,hl,_,_,_=>by simp at hl
 |u::ts,u'::ts',t,t',m,a,a',hq,hg,hl,hu,hgt,hm=>by
  obtain ⟨k1,k2⟩:=hu 0 u u' rfl rfl;unfold bT at hm
  cases h1:met 1 t u with
  |none=>rw [h1] at hm;cases hm
  |some m1=>
   rw [h1] at hm;dsimp only at hm;split at hm
   ·rename_i hg1
    obtain ⟨m1',h2,h3⟩:=hq.met k1 h1;have h4:Gd m1':=h3.gd hg1 (zl _ 1 _ _ _ (aG _) hg.ok k2.ok h2);obtain ⟨m',h5,h6,h7⟩:=Pk ts ts' m1 m1' m a a' h3 h4 (by simpa using hl) (fun i v v' hv hv'=>hu (i+1) v v' hv hv') hg1 hm;refine ⟨m',?_,h6,h7⟩;unfold bT;rw [h2];dsimp only;rw [if_pos h4];exact h5
   ·cases hm
theorem yS:∀(ts:List (List Nd)) (t m:List Nd) (a:Nat),Q2 m t->Gd t->Gd m->(∀u∈ts,Q2 m u/\Gd u)->∃m',bT a t ts=some (.ok m')/\Q2 m m'/\Gd m'
 |[],t,m,a,hq,hg,_,_=>⟨t,rfl,hq,hg⟩
 |u::ts,t,m,a,hq,hg,gm,hu=>by
  obtain ⟨k1,k2⟩:=hu u (by simp);obtain ⟨m1,h1,h2⟩:=(hq.symm.trans k1).Dp hg.fo;have h3:Gd m1:=h2.gd hg (zl _ 1 _ _ _ (aG _) hg.ok k2.ok h1);obtain ⟨m',h4,h5,h6⟩:=yS ts m1 m a (hq.trans h2) h3 gm fun v hv=>hu v (by simp [hv]);refine ⟨m',?_,h5,h6⟩;unfold bT;rw [h1];dsimp only;rw [if_pos h3];exact h4
theorem Iq:∀(n:Nat) (xs ts:List Nd),ts∈dM n xs->ts.length<=xs.length
 |0,_,_,h=>by cases h
 |n+1,xs,ts,h=>by
  rcases oJ.1 h with rfl|h
  ·simp
  ·have h1:=Iq n _ ts h
   have h2:(cZ xs).length<=xs.length:=by
    cases xs with
    |nil=>simp [cZ,skip]
    |cons x xt=>have:=u6 x xt;simp;omega
   omega
theorem Dt {t ts:List Nd} (h:ts∈gN t):ts.length<=t.length:=by
 cases t with
 |nil=>cases h
 |cons x xt=>
  have:=Iq _ _ _ h;simp;omega
theorem R8 {t u:List Nd} {s:ByteArray} (ht:t≠[]) (h:bJ t s=some u):u.length<=t.length:=by
 unfold bJ at h;split at h
 ·injection h with h
  subst h;exact aaA.2 ht
 ·split at h
  ·rw [aaE] at h
   obtain ⟨ts,h1,rfl⟩:=h;rw [lS];exact Dt (List.mem_of_find?_eq_some h1)
  ·cases h
theorem Kn {t a b:List Nd} (ht:t≠[]) (h:iQ t=some (a,b)):a.length<=t.length/\b.length<=t.length:=by
 have hp:=aaA.2 ht
 have hd:∀l:List (List Nd),(∀ts∈l,ts.length<=t.length)->(l.headD []).length<=t.length:=fun l hl=>by
  cases l with
  |nil=>simp
  |cons x l=>exact hl x (by simp)
 unfold iQ at h;split at h
 ·injection h with h
  injection h with h1 h2
  subst h1 h2;exact ⟨hp,hp⟩
 ·split at h
  ·injection h with h
   injection h with h1 h2
   subst h1 h2;rw [lS,lS];exact ⟨hd _ fun ts=>Dt,hd _ fun ts hts=>Dt (List.mem_of_mem_tail hts)⟩
  ·cases h
theorem VK {t a b:List Nd} (h:iQ t=some (a,b)):iQ (aV t)=some (a,b)/\(aQ (aV t)).k≠0:=by
 unfold aV;by_cases h0:(aQ t).k=0
 ·rw [if_pos h0]
  unfold iQ at h;rw [if_pos h0] at h;injection h with h
  rw [<-h];exact ⟨by decide+kernel,by decide⟩
 ·rw [if_neg h0]
  exact ⟨h,h0⟩
theorem BS {t:List Nd} (h:(aQ t).k≠0):aV t=t:=by unfold aV;rw [if_neg h]
structure MN (es:List Pt):Prop where
 len:es.length<=1000
 ok:dZ es
 kids:∀(i:Nat) (p:Pt),es[i]?=some p->∃l,dF es (aP p) (i+1)=some l/\zP es p l
structure uT (es:List Pt) (f:Nat) (env:Env) (a b:Nat) (t:List Nd) (x:List Pt) (t':List Nd):Prop where
 c:cst f es env a=some (x,t',b)
 q:Q2 t t'
 e:EA es 1 a b
 tr:eH 1 x
 ln:x.length+1<=2*(b-a)
 lb:ng x=wI es a
 full:fU env x t'
 ok:dZ x
section
variable {es:List Pt} {f:Nat} {env:Env} {a b:Nat} {t t':List Nd} {x:List Pt}
theorem uT.gd (h:uT es f env a b t x t'):pI x t':=BP _ _ _ _ _ _ _ h.c
theorem uT.lt (h:uT es f env a b t x t'):a<b/\b<=es.length:=by
 have:=h.e.lt;omega
end
theorem qx {es:List Pt} {n a c:Nat} {l:List Nat} (h:dF es (n+1) a=some l) (hc:EA es 1 a c):∃l2,l=a::l2/\dF es n c=some l2:=by
 unfold dF at h;unfold EA at hc;rw [hc] at h;simp only [aaE] at h;obtain ⟨l2,h1,h2⟩:=h;exact ⟨l2,h2.symm,h1⟩
section
variable {es:List Pt} {a:Nat} {p:Pt} (hI:MN es) (hp:es[a]?=some p) (h7:p.k≠7)
include hI hp h7
theorem yT (hm:1<=aP p):∀q,es[a+1]?=some q->q.k≠8:=fun q hq h8=>by
 obtain ⟨l,h1,h2⟩:=hI.kids a p hp;obtain ⟨n,hn⟩:∃n,aP p=n+1:=⟨aP p-1,by omega⟩
 have h3:l[0]?=some (a+1):=by
  rw [hn] at h1;unfold dF at h1;split at h1
  ·cases h1
  ·rw [aaE] at h1
   obtain ⟨l2,_,rfl⟩:=h1;rfl
 have:=(h2.kind 0 _ q h3 hq).1 h8;exact h7 this.1
theorem Pm {c:Nat} (hm:2<=aP p) (he:EA es 1 (a+1) c):∀q,es[c]?=some q->q.k≠8:=fun q hq h8=>by
 obtain ⟨l,h1,h2⟩:=hI.kids a p hp;obtain ⟨n,hn⟩:∃n,aP p=n+1+1:=⟨aP p-2,by omega⟩;rw [hn] at h1;obtain ⟨l2,rfl,h3⟩:=qx h1 he
 have h4:l2[0]?=some c:=by
  unfold dF at h3;split at h3
  ·cases h3
  ·rw [aaE] at h3
   obtain ⟨l4,_,rfl⟩:=h3;rfl
 have:=(h2.kind 1 _ q (by simpa using h4) hq).1 h8;exact h7 this.1
theorem akn {c d:Nat} (hm:3<=aP p) (he:EA es 1 (a+1) c) (he2:EA es 1 c d):∀q,es[d]?=some q->q.k≠8:=fun q hq h8=>by
 obtain ⟨l,h1,h2⟩:=hI.kids a p hp;obtain ⟨n,hn⟩:∃n,aP p=n+1+1+1:=⟨aP p-3,by omega⟩;rw [hn] at h1;obtain ⟨l2,rfl,h3⟩:=qx h1 he;obtain ⟨l3,rfl,h5⟩:=qx h3 he2
 have h4:l3[0]?=some d:=by
  unfold dF at h5;split at h5
  ·cases h5
  ·rw [aaE] at h5
   obtain ⟨l4,_,rfl⟩:=h5;rfl
 have:=(h2.kind 2 _ q (by simpa using h4) hq).1 h8;exact h7 this.1
end
theorem zm {es:List Pt} {a b:Nat} {p:Pt} (hp:es[a]?=some p) (hm:aP p=1) (h:EA es 1 (a+1) b):EA es 1 a b:=EA.close hp (by rw [hm];exact h)
theorem EL {es:List Pt} {a b c:Nat} {p:Pt} (hp:es[a]?=some p) (hm:aP p=2) (h:EA es 1 (a+1) c) (k:EA es 1 c b):EA es 1 a b:=EA.close hp (by rw [hm];exact h.join k)
theorem VL {es:List Pt} {a b c d:Nat} {p:Pt} (hp:es[a]?=some p) (hm:aP p=3) (h:EA es 1 (a+1) c) (k:EA es 1 c d) (j:EA es 1 d b):EA es 1 a b:=EA.close hp (by rw [hm];exact h.join (k.join j))
theorem Pn {es:List Pt} {a:Nat} {p:Pt} (hp:es[a]?=some p) (hm:aP p=0):EA es 1 a (a+1):=EA.close hp (by rw [hm];unfold EA;exact wH _ _)
theorem fu {p:Pt} {x:List Pt} (hp:(0<=p.k/\p.k<=14)/\(0<=p.mn/\p.mn<=50)) (h:dZ x):dZ (p::x):=fun q hq=>by
 rcases oJ.1 hq with rfl|hq
 ·exact hp
 ·exact h q hq
theorem m_ {x y:List Pt} (h:dZ x) (k:dZ y):dZ (x++y):=fun q hq=>by
 rcases nV.1 hq with hq|hq
 ·exact h q hq
 ·exact k q hq
theorem Po {x:List Pt} (h:dZ x) (s:ByteArray):dZ (gP s x):=by
 cases x with
 |nil=>exact h
 |cons p x=>exact fu (p:={p with lb:=s}) (h p (by simp)) fun q hq=>h q (by simp [hq])
theorem lF {x:List Pt} (h:dZ x) (t u:List Nd):dZ (toM x t u):=by
 unfold toM;split
 ·exact h
 ·exact fu (by simp [n_]) (Po h _)
def AJ (es:List Pt) (f:Nat):Prop:=∀(env:Env) (a:Nat) (t:List Nd) (b:Nat),jm f es env a=some (.ok (t,b))->(∀q,es[a]?=some q->q.k≠8)->∀env',gI env env'->∃x t',uT es f env' a b t x t'
theorem ok5 {f:Nat} {es:List Pt} {env:Env} {a:Nat} {t:List Nd} {b:Nat} (h:jm f es env a=some (.ok (t,b))):Gd t/\t.length<=5000000:=by
 cases f with
 |zero=>cases h
 |succ f=>
  obtain ⟨p,_,_,_,_,_,h1,h2⟩:=Io h;exact ⟨h1,h2⟩
theorem oh {x:Option fC} {g:List Nd->Nat->Option fC} {t:List Nd} {b:Nat} (h:dB x g=some (.ok (t,b))):∃u c,x=some (.ok (u,c))/\g u c=some (.ok (t,b)):=by
 rcases b_ h with ⟨_,_,h2⟩|h2
 ·cases h2
 ·exact h2
section
variable {es:List Pt} {f:Nat} {env env':Env} {a b:Nat} {p:Pt} {t:List Nd}
theorem mg (hI:MN es) (hp:es[a]?=some p) (hE:gI env env') (hl:env.length<=900000) (hx:yQ p) (htl:t.length<=5000000) {x:List Pt} {t':List Nd}
  (hw:dG (cst f es) es env' p (a+1)=some (x,t',b)) (hq:Q2 t t') (gt':Gd t') (he:EA es 1 a b) (htr:eH 1 x) (hln:x.length+1<=2*(b-a)) (hlb:ng x=p.lb) (hf:fU env' x t') (hok:dZ x):∃x t',uT es (f+1) env' a b t x t':=by
 have h1:=he.lt;have h2:=hI.len;refine ⟨x,t',Kk hp (by rw [<-hE.len];exact hl) hx hw ⟨htr.ne,by omega,gt',by rw [<-hq.len];exact htl⟩,hq,he,htr,hln,?_,hf,hok⟩;unfold wI;rw [hp];exact hlb
variable (hI:MN es) (hK:AJ es f) (hp:es[a]?=some p) (hE:gI env env') (hl:env.length<=900000) (ho:qO p) (hx:yQ p) (hg:Gd t) (htl:t.length<=5000000)
include hI hp hE hl ho hx hg htl
theorem ZK (hk:p.k=0) (hw:Fy p (a+1)=some (.ok (t,b))):∃x t',uT es (f+1) env' a b t x t':=by
 unfold Fy at hw;injection hw with hw
 injection hw with hw
 injection hw with h1 h2
 subst h1 h2;have hm:aP p=0:=by unfold aP;simp [hk]
 have hE':env'.length<=900000:=by rw [<-hE.len];exact hl
 have hb:=Pn hp hm;refine mg hI hp hE hl hx htl (x:=[p]) (t':=p.T) (by unfold dG;simp [hk,OQ]) (Q2.refl _) hg hb (eH.leaf hm) (by simp) rfl ?_ (fu (hI.ok p (Ox hp)) (fun q hq=>by cases hq));refine fU.mk ho hx hE' (by simp) htl 0 fun s g _ es2 a2 bL _ hp2 hE2 hl2=>⟨p.T,?_,?_,Q2.refl _,hg⟩
 ·unfold fV;simp [hk,Fy]
 ·unfold dG;simp [hk,OQ]
theorem VN (hk:p.k=1) (hw:uE env p a (a+1)=some (.ok (t,b))):∃x t',uT es (f+1) env' a b t x t':=by
 unfold uE at hw
 cases hlk:lY env p.nm with
 |none=>rw [hlk] at hw;cases hw
 |some u=>
  rw [hlk] at hw;injection hw with hw
  injection hw with hw
  injection hw with h1 h2
  subst h1 h2;have hm:aP p=0:=by unfold aP;simp [hk]
  have hE':env'.length<=900000:=by rw [<-hE.len];exact hl
  obtain ⟨t',e1,e2,e3⟩:=hE.look hlk;have hb:=Pn hp hm;refine mg hI hp hE hl hx htl (x:=[p]) (t':=t') (by unfold dG;simp [hk,Ap,e1]) e2 e3 hb (eH.leaf hm) (by simp) rfl ?_ (fu (hI.ok p (Ox hp)) (fun q hq=>by cases hq));refine fU.mk ho hx hE' (by simp) (by rw [<-e2.len];exact htl) 0 fun s g _ es2 a2 bL _ hp2 hE2 hl2=>?_;obtain ⟨t2,d1,d2,d3⟩:=hE2.look e1;refine ⟨t2,?_,?_,d2,d3⟩
  ·unfold fV;simp [hk,uE,d1]
  ·unfold dG;simp [hk,Ap,d1]
include hK in
theorem ZL (hk:p.k=2) (hw:Fz (jm f es) env p (a+1)=some (.ok (t,b))):∃x t',uT es (f+1) env' a b t x t':=by
 obtain ⟨u,c,h1,h2⟩:=oh hw;injection h2 with h2
 injection h2 with h2
 injection h2 with h2 h3
 subst h2 h3;have hm:aP p=1:=by unfold aP;simp [hk]
 have hE':env'.length<=900000:=by rw [<-hE.len];exact hl
 have gT:=ho.1 (.inl hk) (by omega);have lT:=(hx.1 (.inl hk)).2;obtain ⟨y,u',S⟩:=hK _ _ _ _ h1 (yT hI hp (by omega) (by omega)) (env'++[(p.bd,p.T)]) (hE.app (.one (Q2.refl _) gT));have G:=S.gd;have hlt:=S.lt;have hln:=S.ln;have qa:Q2 (aW p.T u) (aW p.T u'):=(Q2.refl _).arrow S.q;have ga:Gd (aW p.T u'):=Dr gT G.gd (by have:=G.tl;omega);refine mg hI hp hE hl hx htl (x:=p::y) (t':=aW p.T u') ?_ qa ga (zm hp hm S.e) (eH.cons (by rw [hm];exact S.tr)) (by simp;omega) rfl ?_ (fu (hI.ok p (Ox hp)) S.ok)
 ·have:dG (cst f es) es env' p (a+1)=Gj (cst f es) env' p (a+1):=by unfold dG;simp [hk]
  rw [this];unfold Gj;rw [S.c];rfl
 ·obtain ⟨f0,F⟩:=S.full
  refine fU.mk ho hx hE' (by have:=hI.len;omega) (by rw [<-qa.len];exact htl) f0 fun s g hg0 es2 a2 bL hat hp2 hE2 hl2=>?_;obtain ⟨v,d1,d2,d3,d4⟩:=F.at hg0 hat (hE2.app (.one (s:=p.bd) (Q2.refl _) gT));refine ⟨aW p.T v,?_,?_,(Q2.refl _).arrow d3,Dr gT d4 (by have:=G.tl;have:=d3.len;omega)⟩
  ·have:fV (gW g es2) es2 bL {p with lb:=s} a2 (a2+1)=Fz (gW g es2) bL {p with lb:=s} (a2+1):=by unfold fV;simp [hk]
   rw [this];unfold Fz;dsimp only;rw [d1];rfl
  ·have:dG (cst g es2) es2 bL {p with lb:=s} (a2+1)=Gj (cst g es2) bL {p with lb:=s} (a2+1):=by unfold dG;simp [hk]
   rw [this];unfold Gj;dsimp only;rw [d2];rfl
end
end Go.Proofs.YtmjdhfbnmmdjiaaGreat
