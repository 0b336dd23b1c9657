/- Laid together by a tool from the texts of this seat: GuD GuE PxD. Conditions: each theorem's own. -/
import Derived.Test.YtmjdhfbnmmdjiaaGreatH11
import Derived.Test.YtmjdhfbnmmdjiaaGreatH30
set_option maxRecDepth 100000
namespace Go.Proofs.YtmjdhfbnmmdjiaaGreat
open _root_.Nat renaming le_refl->aK
open _root_.Option renaming map_eq_some_iff->aaE
open _root_.List renaming length->sI,getElem?_eq_getElem->bS,mem_append->pU,mem_cons->qm,getElem?_of_mem->abh,mem_map->aaw,getElem_mem->abj,map_cons->RH,sum_cons->abk,length_pos_iff->abn
open _root_.ByteArray renaming empty->dQ
open Go.ByteArray renaming toList_eq->dA
def amJ:List Nat:=[0,1,2,3,4,5,6,7,9,12,16,20,25,30,36,48,64,80,100,125,150,192,256,320,400,500,625,768,1024,1280,1600,2000,2500,3125,4096,5120,6400,8000,10000,12500,16384,20480,25600,32000,40000,50000,65536,81920,102400,128000,160000,200000,262144,327680,409600,512000,640000,800000,1048576,1310720,1638400]
def KT (n:Nat):Nat:=amJ.getD n 0
theorem abt:∀x<61,∀y<61,x+y<61->KT x+KT y<=KT (x+y):=by decide+kernel
theorem abu:∀x<61,∀y<61,x+y+2<61->KT x*KT y<=KT (x+y+2):=by decide+kernel
theorem Ou {x y:Nat} (h:x+y<=60):KT x+KT y<=KT (x+y):=abt x (by omega) y (by omega) (by omega)
theorem VK {x y:Nat} (h:x+y+2<=60):KT x*KT y<=KT (x+y+2):=abu x (by omega) y (by omega) (by omega)
theorem QV {x y:Nat} (h:x<=y) (hy:y<=60):KT x<=KT y:=by
 have:=Ou (x:=x) (y:=y-x) (by omega);rw [show x+(y-x)=y from by omega] at this;omega
theorem ade {x:Nat} (h:1<=x) (hx:x<=60):1<=KT x:=by
 have:=QV h hx;have e:KT 1=1:=rfl;omega
theorem qw (E:Nat) {x y:Nat} (h:x<=y) (hy:y<=60):E*KT x<=E*KT y:=Nat.mul_le_mul_left E (QV h hy)
theorem Dm (E:Nat) {x:Nat} (h:1<=x) (hx:x<=60):E<=E*KT x:=by
 have:=Nat.mul_le_mul_left E (ade h hx);omega
theorem Gf (E:Nat) {x y:Nat} (h:x+y<=60):E*KT x+E*KT y<=E*KT (x+y):=by
 have:=Nat.mul_le_mul_left E (Ou h);rw [Nat.mul_add] at this;exact this
def abv (es:List Pt) (lo hi i:Nat) (e:Int):Prop:=lo<=i/\i<hi/\∃p,es[i]?=some p/\((e=5/\p.k=1)\/(e=9/\p.k≠1))
def Gets (es:List Pt) (lo hi:Nat) (P:List Nd->Nat->Prop) (x:Option fF):Prop:=(∃t c,x=some (.ok (t,c))/\P t c)\/(∃i e,x=some (.error (i,e))/\abv es lo hi i e)
section
variable {es:List Pt} {lo hi lo2 hi2:Nat} {P Q:List Nd->Nat->Prop} {x:Option fF}
theorem Gets.dw {f:List Nd->Nat->Option fF} (h:Gets es lo hi P x) (hf:∀t c,P t c->Gets es lo hi Q (f t c)):Gets es lo hi Q (dw x f):=by
 rcases h with ⟨t,c,rfl,h⟩|⟨i,e,rfl,h⟩
 ·exact hf t c h
 ·exact .inr ⟨i,e,rfl,h⟩
theorem Gets.mono (h:Gets es lo2 hi2 P x) (hl:lo<=lo2) (hh:hi2<=hi) (hp:∀t c,P t c->Q t c):Gets es lo hi Q x:=by
 rcases h with ⟨t,c,rfl,h⟩|⟨i,e,rfl,h⟩
 ·exact .inl ⟨t,c,rfl,hp t c h⟩
 ·exact .inr ⟨i,e,rfl,by have:=h.1;omega,by have:=h.2.1;omega,h.2.2⟩
end
structure PtG (st:Bool) (M:Nat) (p:Pt):Prop where
 k:0<=p.k/\p.k<=14
 m7:p.k=7->1<=p.mn/\p.mn<=50
 m10:p.k=10->0<=p.mn/\p.mn<=50
 T:p.k=0\/p.k=2\/p.k=4\/p.k=5\/p.k=12\/p.k=13\/p.k=14->GT st M p.T
 U:p.k=5\/p.k=14->GT st M p.U
 lT:p.T.length<=M
 lU:p.U.length<=M
 lb:p.lb.size<=100
structure InE (st:Bool) (M:Nat) (es:List Pt):Prop where
 pt:∀(i:Nat) (p:Pt),es[i]?=some p->PtG st M p
 kids:∀(i:Nat) (p:Pt),es[i]?=some p->∃l,bZ es (aL p) (i+1)=some l/\AX es p l
def uy (st:Bool) (D E:Nat) (env:Env):Prop:=∀e∈env,GT st D e.2/\e.2.length<=E
def TP (st:Bool) (d m b:Nat) (t:List Nd) (c:Nat):Prop:=c=b/\GT st d t/\t.length<=m
def NxG (st:Bool) (M:Nat) (es:List Pt) (f:Nat) (nx:Nx):Prop:=∀(a b:Nat) (env:Env) (D E:Nat),EA es 1 a b->b-a<=f->(∀p,es[a]?=some p->p.k≠8)->uy st D E env->M+10<=D->2*M+1<=E->env.length+2*(b-a)<=1000->b-a<=60->E*KT (b-a)<=5000000->
 Gets es a b (TP st (D+(b-a)-1) (E*KT (b-a)) b) (nx env a)
theorem uy.app {st:Bool} {D E:Nat} {env bH:Env} (h:uy st D E env) (k:uy st D E bH):uy st D E (env++bH):=fun e he=>by
 rcases pU.1 he with he|he
 ·exact h e he
 ·exact k e he
theorem uy.mono {st:Bool} {D E D2 E2:Nat} {env:Env} (h:uy st D E env) (hd:D<=D2) (hE:E<=E2):uy st D2 E2 env:=fun e he=>⟨(h e he).1.mono hd,by have:=(h e he).2;omega⟩
theorem uy.one {st:Bool} {D E:Nat} {s:ByteArray} {t:List Nd} (h:GT st D t) (hl:t.length<=E):uy st D E [(s,t)]:=fun e he=>by
 simp at he;subst he;exact ⟨h,hl⟩
theorem jq {es:List Pt} {n a c:Nat} {l:List Nat} (h:bZ es (n+1) a=some l) (hc:EA es 1 a c):∃l2,l=a::l2/\bZ es n c=some l2:=by
 unfold bZ at h;unfold EA at hc;rw [hc] at h;simp only [aaE] at h;obtain ⟨l2,h1,h2⟩:=h;exact ⟨l2,h2.symm,h1⟩
section
variable {st:Bool} {M:Nat} {es:List Pt} {f:Nat} {nx:Nx} {a b:Nat} {env:Env} {D E:Nat} {p:Pt}
structure lN (st:Bool) (M:Nat) (es:List Pt) (f:Nat) (nx:Nx) (a b:Nat) (env:Env) (D E:Nat) (p:Pt):Prop where
 N:NxG st M es f nx
 I:InE st M es
 hp:es[a]?=some p
 he:EA es (aL p) (a+1) b
 lt:a<b
 hf:b-a<=f+1
 hv:uy st D E env
 hD:M+10<=D
 hE:2*M+1<=E
 v:env.length+2*(b-a)<=1000
 n:b-a<=60
 s:E*KT (b-a)<=5000000
theorem lN.call (h:lN st M es f nx a b env D E p) {c d:Nat} {bH:Env} {D2 E2:Nat} (hc:EA es 1 c d) (h1:a<c) (h2:d<=b) (h8:∀p,es[c]?=some p->p.k≠8) (hv:uy st D2 E2 bH) (hD:D<=D2) (hE:E<=E2) (hl:bH.length<=env.length+2) (hs:E2*KT (d-c)<=5000000):
  Gets es a b (TP st (D2+(d-c)-1) (E2*KT (d-c)) d) (nx bH c):=by
 have h3:=hc.lt;have h4:=h.hf;have h5:=h.hD;have h6:=h.hE;have h7:=h.v;have h9:=h.n;exact (h.N c d bH D2 E2 hc (by omega) h8 hv (by omega) (by omega) (by omega) (by omega) hs).mono (by omega) h2 fun t c h=>h
theorem lN.mM (h:lN st M es f nx a b env D E p) {c d:Nat} {bH:Env} (hc:EA es 1 c d) (h1:a<c) (h2:d<=b) (h8:∀p,es[c]?=some p->p.k≠8) (hv:uy st D E bH) (hl:bH.length<=env.length+2):
  Gets es a b (TP st (D+(d-c)-1) (E*KT (d-c)) d) (nx bH c):=by
 have h3:=hc.lt;have h9:=h.n;have:=qw E (x:=d-c) (y:=b-a) (by omega) h9;have:=h.s;exact h.call hc h1 h2 h8 hv (aK _) (aK _) hl (by omega)
theorem lN.err (h:lN st M es f nx a b env D E p) (hk:p.k≠1) {Q:List Nd->Nat->Prop}:Gets es a b Q (some (.error (a,9))):=
 .inr ⟨a,9,rfl,aK _,h.lt,p,h.hp,.inr ⟨rfl,hk⟩⟩
theorem lN.VL (h:lN st M es f nx a b env D E p) (h7:p.k≠7) {l:List Nat} (hl:bZ es (aL p) (a+1)=some l):∀c∈l,∀x,es[c]?=some x->x.k≠8:=by
 obtain ⟨l2,k1,k2⟩:=h.I.kids a p h.hp;rw [hl] at k1;injection k1 with k1
 subst k1;intro c hc x hx h8;obtain ⟨k,hk⟩:=abh hc;have:=(k2.kind k c x hk hx).1 h8;exact h7 this.1
theorem lN.kids (h:lN st M es f nx a b env D E p):∃l,bZ es (aL p) (a+1)=some l:=by
 obtain ⟨l,k1,_⟩:=h.I.kids a p h.hp;exact ⟨l,k1⟩
theorem lN.one (h:lN st M es f nx a b env D E p) (h7:p.k≠7) (hm:aL p=1):EA es 1 (a+1) b/\(∀x,es[a+1]?=some x->x.k≠8):=by
 have he:=h.he;rw [hm] at he;obtain ⟨l,hl⟩:=h.kids;have h8:=h.VL h7 hl;rw [hm] at hl;obtain ⟨l2,rfl,_⟩:=jq hl he;exact ⟨he,h8 _ (by simp)⟩
theorem lN.two (h:lN st M es f nx a b env D E p) (h7:p.k≠7) (hm:aL p=2):∃c,EA es 1 (a+1) c/\EA es 1 c b/\(∀x,es[a+1]?=some x->x.k≠8)/\(∀x,es[c]?=some x->x.k≠8):=by
 have he:=h.he;rw [hm] at he;obtain ⟨c,e1,e2⟩:=he.split;obtain ⟨l,hl⟩:=h.kids;have h8:=h.VL h7 hl;rw [hm] at hl;obtain ⟨l2,rfl,hla⟩:=jq hl e1;obtain ⟨l3,rfl,hlb⟩:=jq hla e2;exact ⟨c,e1,e2,h8 _ (by simp),h8 _ (by simp)⟩
theorem lN.three (h:lN st M es f nx a b env D E p) (h7:p.k≠7) (hm:aL p=3):∃c d,EA es 1 (a+1) c/\EA es 1 c d/\EA es 1 d b/\(∀x,es[a+1]?=some x->x.k≠8)/\(∀x,es[c]?=some x->x.k≠8)/\(∀x,es[d]?=some x->x.k≠8):=by
 have he:=h.he;rw [hm] at he;obtain ⟨c,e1,e2⟩:=he.split;obtain ⟨d,e2,e3⟩:=e2.split;obtain ⟨l,hl⟩:=h.kids;have h8:=h.VL h7 hl;rw [hm] at hl;obtain ⟨l2,rfl,hla⟩:=jq hl e1;obtain ⟨l3,rfl,hlb⟩:=jq hla e2;obtain ⟨l4,rfl,hlc⟩:=jq hlb e3;exact ⟨c,d,e1,e2,e3,h8 _ (by simp),h8 _ (by simp),h8 _ (by simp)⟩
abbrev lN.Post (_:lN st M es f nx a b env D E p) (x:Option fF):Prop:=Gets es a b (TP st (D+(b-a)-1) (E*KT (b-a)) b) x
theorem lN.is (h:lN st M es f nx a b env D E p) {t:List Nd} {d:Nat} (hg:GT st d t) (hd:d<=D+(b-a)-1) (hl:t.length<=E*KT (b-a)):h.Post (some (.ok (t,b))):=.inl ⟨t,b,rfl,rfl,hg.mono hd,hl⟩
theorem lN.isT (h:lN st M es f nx a b env D E p) {t:List Nd} (hg:GT st M t) (hl:t.length<=M):h.Post (some (.ok (t,b))):=by
 have:=Dm E (x:=b-a) (by have:=h.lt;omega) h.n;have:=h.hE;have:=h.hD;exact h.is hg (by omega) (by omega)
theorem adg (h:lN st M es f nx a b env D E p) (hk:p.k=0):h.Post (KX p (a+1)):=by
 have he:=h.he;rw [show aL p=0 from by unfold aL;simp [hk]] at he;have:=he.zero;subst this;exact h.isT ((h.I.pt a p h.hp).T (by omega)) (h.I.pt a p h.hp).lT
theorem abw (h:lN st M es f nx a b env D E p) (hk:p.k=1):h.Post (xu env p a (a+1)):=by
 have he:=h.he;rw [show aL p=0 from by unfold aL;simp [hk]] at he;have:=he.zero;subst this;unfold xu
 cases hl:l7 env p.nm with
 |none=>exact .inr ⟨a,5,rfl,aK _,h.lt,p,h.hp,.inl ⟨rfl,hk⟩⟩
 |some t=>
  unfold l7 at hl;rw [aaE] at hl;obtain ⟨e,h1,rfl⟩:=hl;have h2:=h.hv e (List.mem_reverse.1 (List.mem_of_find?_eq_some h1));have:=Dm E (x:=a+1-a) (by omega) (by omega);exact h.is h2.1 (by omega) (by omega)
theorem adh (h:lN st M es f nx a b env D E p) (hk:p.k=2):h.Post (KY nx env p (a+1)):=by
 obtain ⟨e1,h8⟩:=h.one (by omega) (by unfold aL;simp [hk]);have hT:=(h.I.pt a p h.hp).T (by omega);have lT:=(h.I.pt a p h.hp).lT;have hD:=h.hD;have hE:=h.hE;have hn:=h.n;have hlt:=e1.lt;refine (h.mM e1 (by omega) (aK _) h8 (h.hv.app (.one (hT.mono (by omega)) (by omega))) (by simp)).dw ?_;rintro t c ⟨rfl,hg,hl⟩;have h1:=Gf E (x:=c-(a+1)) (y:=1) (by omega);rw [show c-(a+1)+1=c-a from by omega,show KT 1=1 from rfl] at h1;refine h.is ((hT.mono (e:=D+(c-(a+1))-1) (by omega)).arrow hg) (by omega) ?_;rw [GD];omega
theorem adi (h:lN st M es f nx a b env D E p) (hk:p.k=3):h.Post (GQ nx env a (a+1)):=by
 obtain ⟨c,e1,e2,h8,g8⟩:=h.two (by omega) (by unfold aL;simp [hk]);have hlt:=e1.lt;have hlt2:=e2.lt;have hn:=h.n;refine (h.mM e1 (by omega) (by omega) h8 h.hv (by omega)).dw ?_;rintro t c ⟨rfl,hg,hl⟩;refine (h.mM e2 (by omega) (by omega) g8 h.hv (by omega)).dw ?_;rintro x d ⟨rfl,hg2,hl2⟩
 cases hc:iP t with
 |none=>exact h.err (by omega)
 |some r=>
  obtain ⟨tk,tl⟩:=r;obtain ⟨k1,k2,k3,k4⟩:=hg.call hc;have:=qw E (x:=c-(a+1)) (y:=d-a) (by omega) hn;dsimp only;split
  ·exact h.is k2 (by omega) (by omega)
  ·exact h.err (by omega)
theorem adj (h:lN st M es f nx a b env D E p) (hk:p.k=4):h.Post (KZ nx env p a (a+1)):=by
 obtain ⟨c,e1,e2,h8,g8⟩:=h.two (by omega) (by unfold aL;simp [hk]);have hlt:=e1.lt;have hlt2:=e2.lt;have hn:=h.n;have hD:=h.hD;have hE:=h.hE;have hT:=(h.I.pt a p h.hp).T (by omega);have lT:=(h.I.pt a p h.hp).lT;refine (h.mM e1 (by omega) (by omega) h8 h.hv (by omega)).dw ?_;rintro t c ⟨rfl,hg,hl⟩;unfold og;split
 ·refine (h.mM e2 (by omega) (by omega) g8 (h.hv.app (.one (hT.mono (by omega)) (by omega))) (by simp)).mono (aK _) (aK _) ?_
  rintro u d ⟨rfl,hg2,hl2⟩;have:=qw E (x:=d-c) (y:=d-a) (by omega) hn;exact ⟨rfl,hg2.mono (by omega),by omega⟩
 ·exact h.err (by omega)
theorem adk (h:lN st M es f nx a b env D E p) (hk:p.k=5):h.Post (K3 nx env p a (a+1)):=by
 obtain ⟨c,e1,e2,h8,g8⟩:=h.two (by omega) (by unfold aL;simp [hk]);have hlt:=e1.lt;have hlt2:=e2.lt;have hn:=h.n;have hD:=h.hD;have hE:=h.hE;have hT:=(h.I.pt a p h.hp).T (by omega);have lT:=(h.I.pt a p h.hp).lT;have hU:=(h.I.pt a p h.hp).U (by omega);have lU:=(h.I.pt a p h.hp).lU;have hA:uy st D E [(p.nm,aR p.T p.U)]:=.one ((hT.arrow hU).mono (by omega)) (by rw [GD];omega);refine (h.mM e1 (by omega) (by omega) h8 (h.hv.app (bH:=[(p.nm,aR p.T p.U),(p.bd,p.T)]) (hA.app (bH:=[(p.bd,p.T)]) (.one (hT.mono (by omega)) (by omega)))) (by simp)).dw ?_;rintro t c ⟨rfl,hg,hl⟩;unfold og;split
 ·refine (h.mM e2 (by omega) (by omega) g8 (h.hv.app hA) (by simp)).mono (aK _) (aK _) ?_
  rintro u d ⟨rfl,hg2,hl2⟩;have:=qw E (x:=d-c) (y:=d-a) (by omega) hn;exact ⟨rfl,hg2.mono (by omega),by omega⟩
 ·exact h.err (by omega)
theorem abx (h:lN st M es f nx a b env D E p) (hk:p.k=6):h.Post (Bz nx env a (a+1)):=by
 obtain ⟨c,d,e1,e2,e3,h8,g8,i8⟩:=h.three (by omega) (by unfold aL;simp [hk]);have hlt:=e1.lt;have hlt2:=e2.lt;have hlt3:=e3.lt;have hn:=h.n;refine (h.mM e1 (by omega) (by omega) h8 h.hv (by omega)).dw ?_;rintro t c ⟨rfl,hg,hl⟩;refine (h.mM e2 (by omega) (by omega) g8 h.hv (by omega)).dw ?_;rintro x d ⟨rfl,hg2,hl2⟩;refine (h.mM e3 (by omega) (by omega) i8 h.hv (by omega)).dw ?_;rintro y e ⟨rfl,hg3,hl3⟩;split
 ·unfold sj
  cases hm:met 1 x y with
  |none=>exact h.err (by omega)
  |some m=>
   obtain ⟨k1,k2⟩:=GF.met (st:=st) _ (D+(e-a)-1) 5 dQ 1 x y m (aK _) (hg2.mono (by omega)) (hg3.mono (by omega)) hm;have:=Gf E (x:=d-c) (y:=e-d) (by omega);have:=qw E (x:=d-c+(e-d)) (y:=e-a) (by omega) hn;exact h.is k1 (aK _) (by omega)
 ·exact h.err (by omega)
theorem ajx (h:lN st M es f nx a b env D E p) (hk:p.k=9):h.Post (Sg nx env p a (a+1)):=by
 obtain ⟨c,e1,e2,h8,g8⟩:=h.two (by omega) (by unfold aL;simp [hk]);have hlt:=e1.lt;have hlt2:=e2.lt;have hn:=h.n;refine (h.mM e1 (by omega) (by omega) h8 h.hv (by omega)).dw ?_;rintro t c ⟨rfl,hg,hl⟩;refine (h.mM e2 (by omega) (by omega) g8 h.hv (by omega)).dw ?_;rintro x d ⟨rfl,hg2,hl2⟩;split
 ·have h1:=Dm E (x:=d-a) (by omega) hn
  have h2:=h.hE;have h3:=h.hD;refine h.is (GT.leaf (d:=1) ?_ (aK _)) (by omega) (by show 1<=_;omega);unfold fA cZ
  repeat' split
  all_goals omega
 ·exact h.err (by omega)
theorem adl (h:lN st M es f nx a b env D E p) (hk:p.k=11):h.Post (getM nx env p a (a+1)):=by
 obtain ⟨e1,h8⟩:=h.one (by omega) (by unfold aL;simp [hk]);have hlt:=e1.lt;have hn:=h.n;refine (h.mM e1 (by omega) (by omega) h8 h.hv (by omega)).dw ?_;rintro t c ⟨rfl,hg,hl⟩;unfold nH
 cases hf:bG t p.nm with
 |none=>exact h.err (by omega)
 |some u=>
  obtain ⟨k1,k2⟩:=hg.field hf;have:=qw E (x:=c-(a+1)) (y:=c-a) (by omega) hn;exact h.is k1 (by omega) (by omega)
theorem adn (h:lN st M es f nx a b env D E p) (hk:p.k=12):h.Post (GR nx env p a (a+1)):=by
 obtain ⟨e1,h8⟩:=h.one (by omega) (by unfold aL;simp [hk]);have hlt:=e1.lt;have hT:=(h.I.pt a p h.hp).T (by omega);have lT:=(h.I.pt a p h.hp).lT;refine (h.mM e1 (by omega) (by omega) h8 h.hv (by omega)).dw ?_;rintro t c ⟨rfl,hg,hl⟩;unfold nH
 cases hf:bG p.T p.nm with
 |none=>exact h.err (by omega)
 |some u=>
  dsimp only [dw];split
  ·exact h.isT hT lT
  ·exact h.err (by omega)
theorem ajy (h:lN st M es f nx a b env D E p) (hk:p.k=13):h.Post (asM nx env p a (a+1)):=by
 obtain ⟨e1,h8⟩:=h.one (by omega) (by unfold aL;simp [hk]);have hlt:=e1.lt;have hT:=(h.I.pt a p h.hp).T (by omega);have lT:=(h.I.pt a p h.hp).lT;refine (h.mM e1 (by omega) (by omega) h8 h.hv (by omega)).dw ?_;rintro t c ⟨rfl,hg,hl⟩;split
 ·exact h.isT hT lT
 ·exact h.err (by omega)
theorem aby (h:lN st M es f nx a b env D E p) (hk:p.k=14):h.Post (xw nx env p a (a+1)):=by
 obtain ⟨e1,h8⟩:=h.one (by omega) (by unfold aL;simp [hk]);have hlt:=e1.lt;have hU:=(h.I.pt a p h.hp).U (by omega);have lU:=(h.I.pt a p h.hp).lU;refine (h.mM e1 (by omega) (by omega) h8 h.hv (by omega)).dw ?_;rintro t c ⟨rfl,hg,hl⟩;split
 ·exact h.isT hU lU
 ·exact h.err (by omega)
end
theorem LX {es:List Pt}:∀{n a b:Nat} {l:List Nat},EA es n a b->bZ es n a=some l->∀i∈l,i<es.length
 |0,a,b,l,_,hl,i,hi=>by
  simp only [bZ,Option.some.injEq] at hl;subst hl
  simp at hi
 |n+1,a,b,l,he,hl,i,hi=>by
  obtain ⟨d,e1,e2⟩:=he.split;obtain ⟨l2,rfl,hl2⟩:=jq hl e1;have:=e1.lt;rcases qm.1 hi with rfl|hi
  ·omega
  ·exact LX e2 hl2 i hi
def zN (es:List Pt) (a:Nat):ByteArray:=((es[a]?).getD default).lb
section
variable {st:Bool} {M:Nat} {es:List Pt} {f:Nat} {nx:Nx} {a b:Nat} {env:Env} {D E:Nat} {p:Pt}
theorem Uk (h:lN st M es f nx a b env D E p):∀(n c:Nat) (l:List Nat) (fs:List fB),EA es n c b->a<c->bZ es n c=some l->(∀i∈l,∀x,es[i]?=some x->x.k≠8)->
  (∀q∈fs,GT st (D+(b-a)-2) q.2)->(fs.map fun q=>q.2.length).sum<=E*KT (c-(a+1))->
  (∃gs,iG nx es env n c fs=some (.ok (gs,b))/\gs.map (·.1)=fs.map (·.1)++l.map (zN es)/\(∀q∈gs,GT st (D+(b-a)-2) q.2)/\(gs.map fun q=>q.2.length).sum<=E*KT (b-(a+1)))\/
  (∃i e,iG nx es env n c fs=some (.error (i,e))/\abv es a b i e):=by
 intro n
 induction n with
 |zero=>
  intro c l fs he hac hl h8 hg hs;have:=he.zero;subst this;simp only [bZ,Option.some.injEq] at hl;subst hl
  exact .inl ⟨fs,rfl,by simp,hg,hs⟩
 |succ n ih=>
  intro c l fs he hac hl h8 hg hs;obtain ⟨d,e1,e2⟩:=he.split;obtain ⟨l2,rfl,hl2⟩:=jq hl e1;have hlt:=e1.lt;have hlt2:=e2.lt;have hn:=h.n;obtain ⟨x,hx,_⟩:=e1.open;have hc:=h.mM e1 (by omega) (by omega) (h8 c (by simp)) h.hv (by omega);unfold iG;rw [hx];dsimp only;rcases hc with ⟨t,c2,hc,rfl,hg2,hl3⟩|⟨i,e,hc,hE⟩
  ·rw [hc]
   dsimp only;have:=Gf E (x:=c-(a+1)) (y:=c2-c) (by omega);rw [show c-(a+1)+(c2-c)=c2-(a+1) from by omega] at this
   have hr:=ih c2 l2 (fs++[(x.lb,t)]) e2 (by omega) hl2 (fun i hi=>h8 i (by simp [hi])) (fun q hq=>by
    rcases pU.1 hq with hq|hq
    ·exact hg q hq
    ·simp at hq
     subst hq;exact hg2.mono (by omega)) (by simp;omega)
   have hlb:zN es c=x.lb:=by unfold zN;rw [hx];rfl
   simpa [hlb] using hr
  ·rw [hc]
   exact .inr ⟨i,e,rfl,hE⟩
theorem rows_ok (h:lN st M es f nx a b env D E p) (hk:p.k=10):h.Post (vH nx es env p (a+1)):=by
 have hm:=(h.I.pt a p h.hp).m10 hk;have hlt:=h.lt;have hn:=h.n;have hD:=h.hD;have hE:=h.hE;have he:=h.he;have hmn:aL p=p.mn.toNat:=by unfold aL;simp [hk]
 obtain ⟨l,hl,hL⟩:=h.I.kids a p h.hp;have h8:=h.VL (by omega) hl;rw [hmn] at he hl;unfold vH;rw [if_pos hm];have hlen:l.length=p.mn.toNat:=by rw [hL.len,hmn]
 rcases Uk h p.mn.toNat (a+1) l [] he (by omega) hl h8 (by simp) (by simp) with ⟨gs,h1,h2,h3,h4⟩|⟨i,e,h1,h2⟩
 ·rw [h1]
  dsimp only;simp only [List.map_nil,List.nil_append] at h2
  have hgl:gs.length=l.length:=by
   have:=congrArg sI h2;simpa using this
  have hpt:∀i∈l,∃x,es[i]?=some x/\zN es i=x.lb:=fun i hi=>by
   have:=(LX he hl i hi);refine ⟨es[i],bS this,?_⟩;unfold zN;rw [bS this];rfl
  have hw:∀q∈gs,oJ q.1=true/\q.1.size<=100:=fun q hq=>by
   have h5:q.1∈gs.map (·.1):=List.mem_map_of_mem hq;rw [h2] at h5;obtain ⟨i,hi,h6⟩:=aaw.1 h5;obtain ⟨x,hx,h7⟩:=hpt i hi;obtain ⟨k,hk2⟩:=abh hi;rw [<-h6,h7];exact ⟨hL.word k i x hk2 hx hk,(h.I.pt i x hx).lb⟩
  have hnd:(gs.map (·.1)).Nodup:=by
   rw [h2];unfold List.Nodup;rw [List.pairwise_map,List.pairwise_iff_getElem];intro i j hi hj hij;obtain ⟨x,hx,h6⟩:=hpt l[i] (abj hi);obtain ⟨y,hy,h7⟩:=hpt l[j] (abj hj);rw [h6,h7];refine hL.diff i j _ _ x y hij (bS hi) (bS hj) hx hy fun e=>?_;have:=hL.word j _ y (bS hj) hy hk;rw [e] at this;have hne:=tO (k:=6) (s:=dQ) (by decide) (by simpa [bP] using this);exact hne (by rw [dA];rfl)
  have hbr:jZ 6 (gs.map (·.1)) gs.length=false:=by
   unfold jZ lF;simp only [Bool.or_eq_false_iff];refine ⟨⟨⟨⟨rfl,by simp⟩,by simp;omega⟩,by simp⟩,?_⟩;rw [List.drop_zero,List.any_eq_false];intro s hs;obtain ⟨q,hq,rfl⟩:=aaw.1 hs;simp [bP,(hw q hq).1]
  rw [if_pos ⟨hbr,hnd⟩];by_cases hab:b=a+1
  ·have hz:gs.length=0:=by
    have:=he.lt;omega
   have hz2:gs=[]:=List.eq_nil_of_length_eq_zero hz;subst hz2;have hr:=GT.row (st:=st) (d:=D-1) (by omega) [] (by simp) (by simp) (by simp);exact h.is (hr.1) (by omega) (by rw [hr.2];have:=Dm E (x:=b-a) (by omega) (by omega);simp;omega)
  ·obtain ⟨r1,r2⟩:=GT.row (st:=st) (d:=D+(b-a)-2) (by omega) gs (fun q hq=>⟨h3 q hq,by simp [bP,(hw q hq).1],(hw q hq).2⟩) hnd (by omega)
   have:=Gf E (x:=b-(a+1)) (y:=1) (by omega);rw [show b-(a+1)+1=b-a from by omega,show KT 1=1 from rfl] at this;exact h.is r1 (by omega) (by rw [r2];omega)
 ·rw [h1]
  exact .inr ⟨i,e,rfl,h2⟩
theorem XP {l:List ByteArray} {s:ByteArray} (h:s∈l):s∈lH l:=by
 unfold lH;have h1:s.toList∈(l.map ByteArray.toList).mergeSort fun x y=>decide (x<=y):=(List.mergeSort_perm ..).symm.subset (List.mem_map_of_mem h);refine aaw.2 ⟨s.toList,h1,?_⟩;exact yL (dA s)
theorem QW (h:lN st M es f nx a b env D E p) {ot:List Nd} {c1:Nat} (hc1:a+1<c1) (hg:GT st (D+(c1-(a+1))-1) ot) (hl:ot.length<=E*KT (c1-(a+1))):
  ∀(n c:Nat) (l:List Nat) (ts:List (List Nd)),EA es n c b->c1<=c->bZ es n c=some l->(∀i∈l,∀x,es[i]?=some x->x.k=8)->(∀i∈l,∃u,bG ot (zN es i)=some u)->
  (∀t∈ts,GT st (D+(b-a)-1) t)->(ts.map sI).sum<=E*KT (c1-(a+1))*KT (c-c1-1)->
  (∃us,fO nx es env ot n c ts=some (.ok (us,b))/\us.length=ts.length+n/\(∀t∈us,GT st (D+(b-a)-1) t)/\(us.map sI).sum<=E*KT (c1-(a+1))*KT (b-c1-1))\/
  (∃i e,fO nx es env ot n c ts=some (.error (i,e))/\abv es a b i e):=by
 intro n
 induction n with
 |zero=>
  intro c l ts he hc hk h8 hf ht hs;have:=he.zero;subst this
  exact .inl ⟨ts,rfl,by simp,ht,hs⟩
 |succ n ih=>
  intro c l ts he hc hk h8 hf ht hs;obtain ⟨d,e1,e2⟩:=he.split;obtain ⟨l2,rfl,hl2⟩:=jq hk e1;have hlt:=e1.lt;have hlt2:=e2.lt;have hn:=h.n;have hD:=h.hD;have hE:=h.hE;obtain ⟨x,hx,e3⟩:=e1.open;have QX:=h8 c (by simp) x hx;have hlb:zN es c=x.lb:=by unfold zN;rw [hx];rfl
  obtain ⟨u,hu⟩:=hf c (by simp);rw [hlb] at hu;rw [show aL x=1 from by unfold aL;simp [QX]] at e3;have hlt3:=e3.lt
  have hx9:∀y,es[c+1]?=some y->y.k≠8:=by
   obtain ⟨l3,k1,k2⟩:=h.I.kids c x hx;rw [show aL x=1 from by unfold aL;simp [QX]] at k1;obtain ⟨l4,rfl,_⟩:=jq k1 e3;intro y hy h8;have:=(k2.kind 0 (c+1) y rfl hy).1 h8;omega
  obtain ⟨g1,g2⟩:=hg.field hu;have hE1:=Dm E (x:=c1-(a+1)) (by omega) (by omega);have hmul:=Nat.mul_le_mul_left E (VK (x:=c1-(a+1)) (y:=d-(c+1)) (by omega));rw [<-Nat.mul_assoc] at hmul;have hup:=qw E (x:=c1-(a+1)+(d-(c+1))+2) (y:=b-a) (by omega) hn;have hb:=h.s;have hcall:=h.call (bH:=env++[(x.bd,u)]) (D2:=D+(c1-(a+1))-1) (E2:=E*KT (c1-(a+1))) e3 (by omega) (by omega) hx9 ((h.hv.mono (by omega) hE1).app (.one g1 (by omega))) (by omega) hE1 (by simp) (by omega);unfold fO;rw [hx];dsimp only;rw [hu,Option.getD_some];rcases hcall with ⟨t,c2,hc2,rfl,hg2,hl3⟩|⟨i,e,hc2,hE2⟩
  ·rw [hc2]
   dsimp only;have h5:=Nat.mul_le_mul_left (E*KT (c1-(a+1))) (Ou (x:=c-c1-1) (y:=c2-(c+1)) (by omega));rw [Nat.mul_add] at h5;have h6:=qw (E*KT (c1-(a+1))) (x:=c-c1-1+(c2-(c+1))) (y:=c2-c1-1) (by omega) (by omega)
   have hr:=ih c2 l2 (ts++[t]) e2 (by omega) hl2 (fun i hi=>h8 i (by simp [hi])) (fun i hi=>hf i (by simp [hi])) (fun q hq=>by
    rcases pU.1 hq with hq|hq
    ·exact ht q hq
    ·simp at hq
     subst hq;exact hg2.mono (by omega)) (by simp;omega)
   rcases hr with ⟨us,r1,r2,r3,r4⟩|hr
   ·exact .inl ⟨us,r1,by rw [r2];simp;omega,r3,r4⟩
   ·exact .inr hr
  ·rw [hc2]
   exact .inr ⟨i,e,rfl,hE2⟩
theorem Ul {d:Nat} (aN:Nat):∀(ts:List (List Nd)) (m:List Nd),GT st d m->(∀t∈ts,GT st d t)->m.length+(ts.map sI).sum<=1000000000->
  (∃m2,bT aN m ts=some (.ok m2)/\GT st d m2/\m2.length<=m.length+(ts.map sI).sum)\/bT aN m ts=some (.error (aN,9)):=by
 intro ts
 induction ts with
 |nil=>intro m hm _ _;exact .inl ⟨m,rfl,hm,by simp⟩
 |cons t ts ih=>
  intro m hm ht hs;simp only [RH,abk] at hs ⊢;unfold bT
  cases hmt:met 1 m t with
  |none=>exact .inr rfl
  |some m2=>
   obtain ⟨k1,k2⟩:=GF.met (st:=st) _ d 5 dQ 1 m t m2 (aK _) hm (ht t (by simp)) hmt;have k3:GT st d m2:=k1;dsimp only;rw [if_pos (k3.gd (by omega))];rcases ih m2 k3 (fun u hu=>ht u (by simp [hu])) (by omega) with ⟨m3,r1,r2,r3⟩|r
   ·exact .inl ⟨m3,r1,r2,by omega⟩
   ·exact .inr r
theorem XQ (h:lN st M es f nx a b env D E p) (hk:p.k=7):h.Post (rC nx es env p a (a+1)):=by
 have hm:=(h.I.pt a p h.hp).m7 hk;have hlt:=h.lt;have hn:=h.n;have hD:=h.hD;have hE:=h.hE;have hv:=h.v;have he:=h.he;have hmn:aL p=p.mn.toNat+1:=by unfold aL;simp [hk]
 obtain ⟨l,hl,hL⟩:=h.I.kids a p h.hp;have hl0:=hl;rw [hmn] at he hl;obtain ⟨c1,e1,e2⟩:=he.split;obtain ⟨l2,rfl,hl2⟩:=jq hl e1;have hlt1:=e1.lt;have hlt2:=e2.lt;unfold rC;rw [if_pos ⟨hm.1,hm.2,by omega⟩];refine (h.mM e1 (by omega) (by omega) (fun x hx h8=>by have:=(hL.kind 0 (a+1) x rfl hx).1 h8;omega) h.hv (by omega)).dw ?_;rintro ot c ⟨rfl,hg,hlo⟩
 have htag:nI es ot a=match kN ot with
   |none=>some false
   |some tags=>some (decide ((aD ot).k=0)||decide (tags=lH (l2.map (zN es)))):=by
  unfold nI;rw [h.hp];dsimp only;rw [hl0];rfl
 rw [htag]
 cases FY:kN ot with
 |none=>exact h.err (by omega)
 |some tags=>
  dsimp only
  cases hb:(decide ((aD ot).k=0)||decide (tags=lH (l2.map (zN es)))) with
  |false=>exact h.err (by omega)
  |true=>
   dsimp only;rw [Bool.or_eq_true,decide_eq_true_eq,decide_eq_true_eq] at hb
   have hf:∀i∈l2,∃u,bG ot (zN es i)=some u:=fun i hi=>by
    refine GZ FY ?_;rcases hb with hb|hb
    ·exact .inl hb
    ·right
     rw [hb];exact XP (List.mem_map_of_mem hi)
   have h8:∀i∈l2,∀x,es[i]?=some x->x.k=8:=fun i hi x hx=>by
    obtain ⟨k,hk2⟩:=abh hi;exact (hL.kind (k+1) i x (by simpa using hk2) hx).2 ⟨hk,by omega⟩
   have hmul:=Nat.mul_le_mul_left E (VK (x:=c-(a+1)) (y:=b-c-1) (by omega));rw [<-Nat.mul_assoc,show c-(a+1)+(b-c-1)+2=b-a from by omega] at hmul;have hsz:=h.s;rcases QW h (ot:=ot) (c1:=c) (by omega) hg hlo p.mn.toNat c l2 [] e2 (aK _) hl2 h8 hf (by simp) (by simp) with ⟨us,r1,r2,r3,r4⟩|⟨i,e,r1,r2⟩
   ·rw [r1]
    dsimp only
    match us,r2,r3,r4 with
    |[],r2,_,_=>simp at r2;omega
    |t::ts,r2,r3,r4=>
     simp only [RH,abk] at r4;dsimp only;rcases Ul (st:=st) (d:=D+(b-a)-1) a ts t (r3 t (by simp)) (fun u hu=>r3 u (by simp [hu])) (by omega) with ⟨m2,s1,s2,s3⟩|s
     ·rw [s1]
      exact h.is s2 (aK _) (by omega)
     ·rw [s]
      exact h.err (by omega)
   ·rw [r1]
    exact .inr ⟨i,e,rfl,r2⟩
theorem XR (h:lN st M es f nx a b env D E p) {x:Option fF} (hx:h.Post x):h.Post (Jp x):=by
 rcases hx with ⟨t,c,rfl,hc,hg,hl⟩|⟨i,e,rfl,h2⟩
 ·unfold Jp
  dsimp only;rw [if_pos ⟨hg.gd (by have:=h.s;omega),by have:=h.s;omega⟩];exact .inl ⟨t,c,rfl,hc,hg,hl⟩
 ·exact .inr ⟨i,e,rfl,h2⟩
theorem ado (h:lN st M es f nx a b env D E p) (h8:p.k≠8):h.Post (gK nx es env p a (a+1)):=by
 have hk:=(h.I.pt a p h.hp).k;unfold gK;by_cases h0:p.k=0
 ·rw [if_pos h0];exact adg h h0
 rw [if_neg h0];by_cases h1:p.k=1
 ·rw [if_pos h1];exact abw h h1
 rw [if_neg h1];by_cases h2:p.k=2
 ·rw [if_pos h2];exact adh h h2
 rw [if_neg h2];by_cases h3:p.k=3
 ·rw [if_pos h3];exact adi h h3
 rw [if_neg h3];by_cases h4:p.k=4
 ·rw [if_pos h4];exact adj h h4
 rw [if_neg h4];by_cases h5:p.k=5
 ·rw [if_pos h5];exact adk h h5
 rw [if_neg h5];by_cases h6:p.k=6
 ·rw [if_pos h6];exact abx h h6
 rw [if_neg h6];by_cases h7:p.k=7
 ·rw [if_pos h7];exact XQ h h7
 rw [if_neg h7];by_cases h9:p.k=9
 ·rw [if_pos h9];exact ajx h h9
 rw [if_neg h9];by_cases h10:p.k=10
 ·rw [if_pos h10];exact rows_ok h h10
 rw [if_neg h10];by_cases h11:p.k=11
 ·rw [if_pos h11];exact adl h h11
 rw [if_neg h11];by_cases h12:p.k=12
 ·rw [if_pos h12];exact adn h h12
 rw [if_neg h12];by_cases jT:p.k=13
 ·rw [if_pos jT];exact ajy h jT
 rw [if_neg jT,if_pos (show p.k=14 from by omega)];exact aby h (by omega)
end
theorem abz {st:Bool} {M:Nat} {p:Pt} (hM:M<=5000000) (h:PtG st M p):vw p/\Dj p:=by
 have h1:=h.lT;have h2:=h.lU;exact ⟨⟨fun hk h11=>(h.T (by omega)).gd (by omega),fun hk=>(h.U hk).gd (by omega)⟩,⟨fun hk=>⟨(h.T (by omega)).gd (by omega),by omega⟩,fun hk=>⟨(h.U (.inl hk)).gd (by omega),by omega⟩⟩⟩
theorem abA {st:Bool} {M:Nat} (hM:M<=5000000) {es:List Pt} (hI:InE st M es):∀f,NxG st M es f (jC f es):=by
 intro f
 induction f with
 |zero=>
  intro a b env D E he hf;have:=he.lt
  omega
 |succ f ih=>
  intro a b env D E he hf h8 hv hD hE hl hn hs;obtain ⟨p,hp,he2⟩:=he.open;have:=he.lt;have h:lN st M es f (jC f es) a b env D E p:=⟨ih,hI,hp,he2,by omega,by omega,hv,hD,hE,hl,hn,hs⟩;unfold jC;rw [hp];dsimp only;obtain ⟨h1,h2⟩:=abz hM (hI.pt a p hp);rw [if_pos ⟨by omega,h1,h2⟩];exact XR h (ado h (h8 p hp))
theorem kK (x:List Pt):bQ (iU x) x=x:=by cases x<;>rfl
theorem Um (s r:ByteArray) (x:List Pt):bQ s (bQ r x)=bQ s x:=by cases x<;>rfl
theorem ED (s:ByteArray) {x:List Pt} (h:x≠[]):iU (bQ s x)=s:=by
 cases x with
 |nil=>exact absurd rfl h
 |cons p x=>rfl
def rE (f0:Nat) (env:Env) (x:List Pt) (t:List Nd):Prop:=∀f,f0<=f->∀(s:ByteArray) (es:List Pt) (a:Nat) (env':Env),At es a (bQ s x)->iq env env'->
 ∃t',iT f es env' a=some (.ok (t',a+x.length))/\cst f es env' a=some (bQ s x,t',a+x.length)/\Q2 t t'
def gG (env:Env) (x:List Pt) (t:List Nd):Prop:=∃f0,rE f0 env x t
theorem rE.mono {f0 f1:Nat} {env:Env} {x:List Pt} {t:List Nd} (h:rE f0 env x t) (hf:f0<=f1):rE f1 env x t:=fun f hf1=>h f (Nat.le_trans hf hf1)
theorem gG.q {env:Env} {x:List Pt} {t u:List Nd} (h:gG env x t) (k:Q2 t u):gG env x u:=by
 obtain ⟨f0,h⟩:=h;refine ⟨f0,fun f hf s es a env' ha hE=>?_⟩;obtain ⟨t',h1,h2,h3⟩:=h f hf s es a env' ha hE;exact ⟨t',h1,h2,k.symm.trans h3⟩
theorem gG.lb {env:Env} {x:List Pt} {t:List Nd} (h:gG env x t) (r:ByteArray):gG env (bQ r x) t:=by
 obtain ⟨f0,h⟩:=h;refine ⟨f0,fun f hf s es a env' ha hE=>?_⟩;rw [Um] at ha ⊢;rw [dW];exact h f hf s es a env' ha hE
theorem rE.at {f0:Nat} {env:Env} {x:List Pt} {t:List Nd} (h:rE f0 env x t) {f:Nat} (hf:f0<=f) {es:List Pt} {a:Nat} {env':Env} (ha:At es a x) (hE:iq env env'):
  ∃t',iT f es env' a=some (.ok (t',a+x.length))/\cst f es env' a=some (x,t',a+x.length)/\Q2 t t'/\Gd t':=by
 have h1:=h f hf (iU x) es a env' (by rw [kK];exact ha) hE;rw [kK] at h1;obtain ⟨t',h2,h3,h4⟩:=h1;exact ⟨t',h2,h3,h4,(Dk _ _ _ _ _ _ _ h3).gd⟩
theorem XT {g:Nat} {es:List Pt} {env:Env} {a:Nat} {p:Pt} {t:List Nd} {b:Nat} (hp:es[a]?=some p) (hl:env.length<=900000) (ho:vw p) (hw:gK (iT g es) es env p a (a+1)=some (.ok (t,b))) (hg:Gd t):iT (g+1) es env a=some (.ok (t,b)):=by
 unfold iT;rw [hp];dsimp only;rw [if_pos ⟨hl,ho⟩,hw];simp only [BM];rw [if_pos hg]
theorem LY {g:Nat} {es:List Pt} {env:Env} {a:Nat} {p:Pt} {x:List Pt} {t:List Nd} {b:Nat} (hp:es[a]?=some p) (hl:env.length<=900000) (ho:Dj p) (hw:dJ (cst g es) es env p (a+1)=some (x,t,b)) (hg:qQ x t):cst (g+1) es env a=some (x,t,b):=by
 unfold cst;rw [hp];dsimp only;rw [if_pos ⟨hl,ho⟩,hw];simp only [Ol];rw [if_pos hg]
theorem gG.mk {env:Env} {p:Pt} {xs:List Pt} {t:List Nd} (ho:vw p) (hx:Dj p) (hl:env.length<=900000) (hln:xs.length<=90000) (htl:t.length<=5000000) (f0:Nat)
  (H:∀(s:ByteArray) (g:Nat),f0<=g->∀(es:List Pt) (a:Nat) (env':Env),At es (a+1) xs->es[a]?=some {p with lb:=s}->iq env env'->env'.length<=900000->∃t',gK (iT g es) es env' {p with lb:=s} a (a+1)=some (.ok (t',a+1+xs.length))/\dJ (cst g es) es env' {p with lb:=s} (a+1)=some ({p with lb:=s}::xs,t',a+1+xs.length)/\Q2 t t'/\Gd t'):gG env (p::xs) t:=by
 refine ⟨f0+1,fun f hf s es a env' ha hE=>?_⟩;obtain ⟨g,rfl⟩:∃g,f=g+1:=⟨f-1,by omega⟩;have hl':env'.length<=900000:=by rw [<-hE.len];exact hl
 have ha':At es a ({p with lb:=s}::xs):=ha;obtain ⟨t',h1,h2,h3,h4⟩:=H s g (by omega) es a env' ha'.tail ha'.head hE hl';rw [show a+1+xs.length=a+(p::xs).length by rw [List.length_cons];omega] at h1 h2;have ho':vw {p with lb:=s}:=ho;have hx':Dj {p with lb:=s}:=hx;exact ⟨t',XT ha'.head hl' ho' h1 h4,LY ha'.head hl' hx' h2 ⟨List.cons_ne_nil _ _,by show xs.length+1<=100000;omega,h4,by rw [<-h3.len];exact htl⟩,h3⟩
theorem kD {x:List Pt} {t u:List Nd} (h:Q2 t u):toM x t u=x:=by unfold toM;rw [if_pos (same_iff.2 h)]
theorem gG.to {env:Env} {x:List Pt} {t u:List Nd} (h:gG env x t) (gt:Gd t) (gu:Gd u) (ha:jR t u=true) (hl:env.length<=900000) (hln:x.length<=90000) (hul:u.length<=5000000):gG env (toM x t u) u:=by
 unfold toM;split
 ·rename_i hs
  exact h.q (same_iff.1 hs)
 ·obtain ⟨f0,h⟩:=h
  have gnt:=Gc gt;have gnu:=Gc gu;refine gG.mk (p:=mg (iU x) t u) ⟨fun _ _=>gnt,fun _=>gnu⟩ ⟨fun hk=>?_,fun hk=>?_⟩ hl (by rw [dW];exact hln) hul f0 fun s g hg es a env' hat hp hE hl'=>?_
  ·simp [mg] at hk
  ·simp [mg] at hk
  ·obtain ⟨t1,h1,h2,h3⟩:=h g hg _ es (a+1) env' hat hE
   rw [dW];have hk:({mg (iU x) t u with lb:=s}:Pt).k=14:=rfl;refine ⟨aC u,?_,?_,Q2.Oo u,gnu⟩
   ·have hw:gK (iT g es) es env' {mg (iU x) t u with lb:=s} a (a+1)=xw (iT g es) env' {mg (iU x) t u with lb:=s} a (a+1):=by unfold gK;simp [mg]
    rw [hw];unfold xw;rw [h1];dsimp only [dw];rw [if_pos ⟨same_iff.2 (h3.symm.trans (Q2.Oo t)),(Q2.Oo t).ag (Q2.Oo u) ha⟩];rfl
   ·have hw:dJ (cst g es) es env' {mg (iU x) t u with lb:=s} (a+1)=zu (cst g es) env' {mg (iU x) t u with lb:=s} (a+1):=by unfold dJ;simp [mg]
    rw [hw];unfold zu;rw [h2];rfl
theorem Ca {xs ys:List Nd} (h:bC xs) (k:bC ys):bC (xs++ys):=fun x hx=>by
 rcases pU.1 hx with hx|hx
 ·exact h x hx
 ·exact k x hx
theorem EF {a b:List Nd} (ga:Gd a) (gb:Gd b) (hl:a.length+b.length<=100000000):Gd (aR a b):=by
 refine ⟨fun x hx=>?_,?_,rfl,by rw [show (aR a b).length=a.length+b.length+1 by simp [aR]];omega⟩
 ·rcases qm.1 hx with rfl|hx
  ·rfl
  ·exact Ca ga.ok gb.ok x hx
 ·have:=Fo.cons (n:=0) (x:=⟨5,dQ,0⟩) (ks:=a++b) (rs:=[]) (by
   have h2:=ga.fo.append gb.fo;exact h2) Fo.zero
  rw [List.append_nil] at this;exact this
theorem LZ {xs:List Nd} (h:bC xs):bC (bV xs):=by
 have:∀(ys:List Nd) (n:Nat) (zs:List Nd),skip ys n=some zs->∀z∈zs,z∈ys:=by
  intro ys
  induction ys with
  |nil=>
   intro n zs hz z hm
   cases n with
   |zero=>rw [iX] at hz;injection hz with hz;rw [hz];exact hm
   |succ n=>rw [wu] at hz;cases hz
  |cons y ys ih=>
   intro n zs hz z hm
   cases n with
   |zero=>rw [iX] at hz;injection hz with hz;rw [hz];exact hm
   |succ n=>
    rw [jE] at hz;exact List.mem_cons_of_mem _ (ih _ _ hz z hm)
 intro z hz;unfold bV at hz
 cases hs:skip xs 1 with
 |none=>rw [hs] at hz;simp at hz
 |some zs=>
  rw [hs] at hz;exact h z (this _ _ _ hs z hz)
theorem L6 {xs:List Nd} (h:bC xs):bC (nP xs):=fun x hx=>h x (List.mem_of_mem_take hx)
theorem Ac:∀(N n:Nat) (xs ys m:List Nd),xs.length<=N->bC xs->bC ys->met n xs ys=some m->bC m
 |_,0,xs,ys,m,_,_,_,h=>by
  rw [jw] at h;injection h with h
  subst h;intro x hx
  cases hx
 |_,n+1,[],ys,m,_,_,_,h=>by unfold met at h;simp [tV] at h
 |_,n+1,x::xt,[],m,_,_,_,h=>by unfold met at h;simp [tV] at h
 |0,n+1,x::xt,y::yt,m,hl,_,_,_=>by simp at hl
 |N+1,n+1,x::xt,y::yt,m,hl,h1,h2,h=>by
  have hl2:xt.length<=N:=by simpa using hl
  have hr:=wD x xt;rw [jy] at h;split at h
  ·cases h
  split at h
  ·rw [aaE] at h
   obtain ⟨r,h3,rfl⟩:=h;have h4:=Ac N n _ _ r (by omega) (LZ h1) (LZ h2) h3;split
   ·exact Ca (L6 h1) h4
   ·exact Ca (L6 h2) h4
  ·split at h
   ·cases h
   ·rw [aaE] at h
    obtain ⟨r,h3,rfl⟩:=h;have h4:=Ac N _ _ _ r hl2 (fun z hz=>h1 z (by simp [hz])) (fun z hz=>h2 z (by simp [hz])) h3;intro z hz;rcases qm.1 hz with rfl|hz
    ·exact h1 z (by simp)
    ·exact h4 z hz
theorem QY:∀(ts ts':List (List Nd)) (t t' m:List Nd) (a a':Nat),Q2 t t'->Gd t'->ts.length=ts'.length->(∀(i:Nat) (u u':List Nd),ts[i]?=some u->ts'[i]?=some u'->Q2 u u'/\Gd u')->Gd t->bT a t ts=some (.ok m)->
  ∃m',bT a' t' ts'=some (.ok m')/\Q2 m m'/\Gd m'
 |[],[],t,t',m,a,a',hq,hg,_,_,_,hm=>by
  unfold bT at hm;injection hm with hm
  injection hm with hm
  subst hm
  exact ⟨t',rfl,hq,hg⟩
 |[],_::_,_,_,_,_,_,_,_,hl,_,_,_=>by simp at hl
 |_::_,[],_,_,_,_,_,_,_,hl,_,_,_=>by simp at hl
 |u::ts,u'::ts',t,t',m,a,a',hq,hg,hl,hu,hgt,hm=>by
  obtain ⟨k1,k2⟩:=hu 0 u u' rfl rfl;unfold bT at hm
  cases h1:met 1 t u with
  |none=>rw [h1] at hm;cases hm
  |some m1=>
   rw [h1] at hm;dsimp only at hm;split at hm
   ·rename_i hg1
    obtain ⟨m1',h2,h3⟩:=hq.met k1 h1;have h4:Gd m1':=h3.gd hg1 (Ac _ 1 _ _ _ (aK _) hg.ok k2.ok h2);obtain ⟨m',h5,h6,h7⟩:=QY ts ts' m1 m1' m a a' h3 h4 (by simpa using hl) (fun i v v' hv hv'=>hu (i+1) v v' hv hv') hg1 hm;refine ⟨m',?_,h6,h7⟩;unfold bT;rw [h2];dsimp only;rw [if_pos h4];exact h5
   ·cases hm
theorem zO:∀(ts:List (List Nd)) (t m:List Nd) (a:Nat),Q2 m t->Gd t->Gd m->(∀u∈ts,Q2 m u/\Gd u)->∃m',bT a t ts=some (.ok m')/\Q2 m m'/\Gd m'
 |[],t,m,a,hq,hg,_,_=>⟨t,rfl,hq,hg⟩
 |u::ts,t,m,a,hq,hg,gm,hu=>by
  obtain ⟨k1,k2⟩:=hu u (by simp);obtain ⟨m1,h1,h2⟩:=(hq.symm.trans k1).EB hg.fo;have h3:Gd m1:=h2.gd hg (Ac _ 1 _ _ _ (aK _) hg.ok k2.ok h1);obtain ⟨m',h4,h5,h6⟩:=zO ts m1 m a (hq.trans h2) h3 gm fun v hv=>hu v (by simp [hv]);refine ⟨m',?_,h5,h6⟩;unfold bT;rw [h1];dsimp only;rw [if_pos h3];exact h4
theorem xP:∀(n:Nat) (xs ts:List Nd),ts∈bA n xs->ts.length<=xs.length
 |0,_,_,h=>by cases h
 |n+1,xs,ts,h=>by
  rcases qm.1 h with rfl|h
  ·simp
  ·have h1:=xP n _ ts h
   have h2:(bV xs).length<=xs.length:=by
    cases xs with
    |nil=>simp [bV,skip]
    |cons x xt=>have:=wD x xt;simp;omega
   omega
theorem EG {t ts:List Nd} (h:ts∈aW t):ts.length<=t.length:=by
 cases t with
 |nil=>cases h
 |cons x xt=>
  have:=xP _ _ _ h;simp;omega
theorem Un {t u:List Nd} {s:ByteArray} (ht:t≠[]) (h:bG t s=some u):u.length<=t.length:=by
 unfold bG at h;split at h
 ·injection h with h
  subst h;exact abn.2 ht
 ·split at h
  ·rw [aaE] at h
   obtain ⟨ts,h1,rfl⟩:=h;rw [gF];exact EG (List.mem_of_find?_eq_some h1)
  ·cases h
theorem L8 {t a b:List Nd} (ht:t≠[]) (h:iP t=some (a,b)):a.length<=t.length/\b.length<=t.length:=by
 have hp:=abn.2 ht
 have hd:∀l:List (List Nd),(∀ts∈l,ts.length<=t.length)->(l.headD []).length<=t.length:=fun l hl=>by
  cases l with
  |nil=>simp
  |cons x l=>exact hl x (by simp)
 unfold iP at h;split at h
 ·injection h with h
  injection h with h1 h2
  subst h1 h2;exact ⟨hp,hp⟩
 ·split at h
  ·injection h with h
   injection h with h1 h2
   subst h1 h2;rw [gF,gF];exact ⟨hd _ fun ts=>EG,hd _ fun ts hts=>EG (List.mem_of_mem_tail hts)⟩
  ·cases h
theorem XU {t a b:List Nd} (h:iP t=some (a,b)):iP (aT t)=some (a,b)/\(aD (aT t)).k≠0:=by
 unfold aT;by_cases h0:(aD t).k=0
 ·rw [if_pos h0]
  unfold iP at h;rw [if_pos h0] at h;injection h with h
  rw [<-h];exact ⟨by decide+kernel,by decide⟩
 ·rw [if_neg h0]
  exact ⟨h,h0⟩
theorem xQ {t:List Nd} (h:(aD t).k≠0):aT t=t:=by unfold aT;rw [if_neg h]
end Go.Proofs.YtmjdhfbnmmdjiaaGreat
