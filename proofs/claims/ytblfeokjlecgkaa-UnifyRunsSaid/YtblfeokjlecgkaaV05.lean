/- Laid together by a tool from the texts of this seat: UniB UniC UniD UniE UniF. Conditions: each theorem's own. -/
import Derived.Test.YtblfeokjlecgkaaV04
import Derived.Test.YtblfeokjlecgkaaV03
namespace Go.Proofs.Ytblfeokjlecgkaa
open _root_.List renaming mem_append->JQ,mem_map->aaN,mem_cons->Gz,map_cons->Bn,append_nil->ER,length_append->A_,exists_mem_of_ne_nil->abk,cons_append->Gx,map_append->abl,nodup_append->aa6,append_assoc->Dq,mem_filter->aaO,filter_sublist->abm,Pairwise->abn,eq_nil_of_length_eq_zero->kZ,pairwise_cons->aa2,nil_append->RU
open _root_.Option renaming map_none->aa7,none_or->aa8,map_some->abg,some_or->abh
open _root_.Nat renaming le_refl->bN
open _root_.Classical renaming byContradiction->aax
open _root_.ByteArray renaming empty->pR
structure dS (S:Kn) (a:Ut) (k:Int) (x:Fl) (p:Option Int):Prop where
 vO:(ay x).Nodup
 el:∀q∈x,dQ S.L q.2/\jf S.m q.2
 tl:∀q,p=some q->q<S.m/\S.κ q=none/\∃ls,S.L q=some ls/\∀l,l∈ls↔l∈ay x
 is:∀τ,S.Sat τ->inst τ a= .mk k 0 (aZ (aI (inst τ) x++(τ.tail p).1)) (τ.tail p).2
section
variable {S:Kn} {a b:Ut} {k:Int} {x y:Fl} {p q:Option Int}
theorem dS.nodup (r:dS S a k x p) {τ:Va} (hτ:S.Sat τ):(ay (aI (inst τ) x++(τ.tail p).1)).Nodup:=by
 rw [dZ,fJ]
 cases p with
 |none=>simpa [Va.tail,ay] using r.vO
 |some q=>
  obtain ⟨_,_,ls,h1,h2⟩:=r.tl q rfl;obtain ⟨t1,t2,_⟩:=hτ.1.t q ls h1;exact aa6.2 ⟨r.vO,t1.nodup,fun l hl l' hl' e=>t2 l' hl' (by rw [<-e];exact (h2 l).2 hl)⟩
theorem dS.get (r:dS S a k x p) {τ:Va} (hτ:S.Sat τ) (l:Lb):aL l (aZ (aI (inst τ) x++(τ.tail p).1))=((aL l x).map (inst τ)).or (aL l (τ.tail p).1):=by
 rw [kL (r.nodup hτ),kF,iw]
theorem dS.yR (r:dS S a k x p) {τ:Va} (hτ:S.Sat τ) {l:Lb} {z:Ut} (h:aL l (τ.tail p).1=some z):aL l x=none:=by
 rw [bP];intro hl
 cases p with
 |none=>simp [Va.tail,aL] at h
 |some q=>
  obtain ⟨_,_,ls,h1,h2⟩:=r.tl q rfl;obtain ⟨_,t2,_⟩:=hτ.1.t q ls h1;exact t2 l (jJ h) ((h2 l).2 hl)
theorem dS.BN (r:dS S a k x p) {τ:Va} (hτ:S.Sat τ) {l:Lb} {z:Ut} (h:aL l (τ.tail p).1=some z):iO z/\jT z:=by
 cases p with
 |none=>simp [Va.tail,aL] at h
 |some q=>
  obtain ⟨_,_,ls,h1,h2⟩:=r.tl q rfl;exact (hτ.1.t q ls h1).2.2 _ (bR h)
def BO (o o':Option Ut):Prop:=match o,o' with
 |none,none=>True
 |some x,some y=>Co x y
 |_,_=>False
theorem Zp {o o':Option Ut} (h:BO o o'):o.isSome=o'.isSome:=by
 cases o<;>cases o'<;>simp_all [BO]
theorem GL (o:Option Ut):BO o o:=by
 cases o with
 |none=>trivial
 |some x=>exact Co.refl x
theorem Fw {k n:Int} {fs gs:Fl} {tl tl':Option Int} (hk:k≠0):Co (.mk k n fs tl) (.mk k n gs tl')↔tl=tl'/\∀l,BO (aL l fs) (aL l gs):=by
 constructor
 ·intro h
  cases h with
  |dl=>exact absurd rfl hk
  |dr=>exact absurd rfl hk
  |nd _ _ _ _ _ h hc=>
   refine ⟨rfl,fun l=>?_⟩;have:=h l
   cases h1:aL l fs<;>cases h2:aL l gs
   ·trivial
   ·rw [h1,h2] at this;cases this
   ·rw [h1,h2] at this;cases this
   ·exact hc l _ _ h1 h2
 ·rintro ⟨rfl,h⟩
  refine .nd _ _ _ _ _ (fun l=>Zp (h l)) fun l x y hx hy=>?_;have:=h l;rw [hx,hy] at this;exact this
theorem uP (ra:dS S a k x p) (rb:dS S b k y q) (hk:k≠0) {τ:Va} (hτ:S.Sat τ):
  Co (inst τ a) (inst τ b)↔(τ.tail p).2=(τ.tail q).2/\∀l,BO (((aL l x).map (inst τ)).or (aL l (τ.tail p).1)) (((aL l y).map (inst τ)).or (aL l (τ.tail q).1)):=by
 rw [ra.is τ hτ,rb.is τ hτ,Fw hk];constructor
 ·rintro ⟨h1,h2⟩
  exact ⟨h1,fun l=>by have:=h2 l;rwa [ra.get hτ,rb.get hτ] at this⟩
 ·rintro ⟨h1,h2⟩
  exact ⟨h1,fun l=>by rw [ra.get hτ,rb.get hτ];exact h2 l⟩
theorem dS.more (h:S.Inv) {q0:Int} {k':Int} {gs:Fl} {q':Option Int} {ls:List Lb} (hk:S.κ q0=some (.mk k' 0 gs q')) (hl:S.L q0=some ls) (hx:∀l,l∈ls↔l∈ay x) (vO:(ay x).Nodup) (el:∀q∈x,dQ S.L q.2/\jf S.m q.2)
  (is:∀τ,S.Sat τ->inst τ a= .mk k 0 (aZ (aI (inst τ) x++(τ.tail (some q0)).1)) (τ.tail (some q0)).2):
  (ay (x++gs)).Nodup/\(∀q∈x++gs,dQ S.L q.2/\jf S.m q.2)/\∀τ,S.Sat τ->inst τ a= .mk k 0 (aZ (aI (inst τ) (x++gs)++(τ.tail q').1)) (τ.tail q').2:=by
 obtain ⟨_,o,_,bd⟩:=h.dom q0 _ hk;obtain ⟨k8,_,hd,_⟩:=h.row q0 _ ls hk hl;rw [bK] at o;rw [iJ] at bd;refine ⟨?_,fun q hq=>?_,fun τ hτ=>?_⟩
 ·rw [dZ]
  exact aa6.2 ⟨vO,o.1.1,fun l hl l' hl' e=>hd l' hl' (by rw [<-e];exact (hx l).2 hl)⟩
 ·rcases JQ.1 hq with hq|hq
  ·exact el q hq
  ·exact ⟨o.2 q hq,bd.2.2 q hq⟩
 ·have h1:=(hτ.2 q0 _ hk).2 ls hl
  have h8:k'≠8:=k8;rw [aK,if_neg h8] at h1;rw [is τ hτ];have e:τ.tail (some q0)=(aZ (aI (inst τ) gs++(τ.tail q').1),(τ.tail q').2):=h1;rw [e];simp only;rw [Jk,vN,Dq]
end
structure Step (S S':Kn) (C:Va->Prop):Prop where
 inv:S'.Inv
 le:S.Le S'
 co:∀τ,S'.Sat τ->C τ
 gen:∀τ,S.Sat τ->C τ->∃τ',S'.Sat τ'/\Alike S.m τ τ'
theorem Step.none {S:Kn} {C:Va->Prop} (h:S.Inv) (hc:∀τ,S.Sat τ->C τ):Step S S C:=⟨h,Kn.Le.refl S,hc,fun τ hτ _=>⟨τ,hτ,Alike.refl _ _⟩⟩
theorem Step.congr {S S':Kn} {C D:Va->Prop} (h:Step S S' C) (h1:∀τ,S'.Sat τ->C τ->D τ) (h2:∀τ,S.Sat τ->D τ->C τ):Step S S' D:=
 ⟨h.inv,h.le,fun τ hτ=>h1 τ hτ (h.co τ hτ),fun τ hτ hd=>h.gen τ hτ (h2 τ hτ hd)⟩
section
variable {S:Kn} {a b:Ut} {k:Int} {x y:Fl} {p q:Option Int}
def jD (l:Lb) (ls:List Lb):Bool:=ls.any fun x=>decide (x=l)
theorem kM {l:Lb} {ls:List Lb}:jD l ls=true↔l∈ls:=by
 unfold jD;rw [List.any_eq_true];constructor
 ·rintro ⟨x,hx,h⟩
  rw [<-of_decide_eq_true h];exact hx
 ·exact fun h=>⟨l,h,decide_eq_true rfl⟩
def au (x y:Fl):Fl:=x.filter fun c=> !jD c.1 (ay y)
theorem nI {x y:Fl} {l:Lb} (hl:l∈ay y):aL l (au x y)=none:=by
 rw [bP];intro h;obtain ⟨c,hc,e⟩:=aaN.1 h;have:=(aaO.1 hc).2;subst e;rw [kM.2 hl] at this
 cases this
theorem j6 (x y:Fl) {l:Lb} (hl:l∉ay y):aL l (au x y)=aL l x:=by
 unfold au
 induction x with
 |nil=>rfl
 |cons c x ih=>
  by_cases hc:c.1∈ay y
  ·rw [List.filter_cons_of_neg (by rw [kM.2 hc];simp),ih]
   simp only [aL];rw [if_neg];rintro rfl;exact hl hc
  ·rw [List.filter_cons_of_pos (by
    cases h:jD c.1 (ay y)
    ·rfl
    ·exact absurd (kM.1 h) hc)]
   simp only [aL];by_cases e:c.1=l
   ·rw [if_pos e,if_pos e]
   ·rw [if_neg e,if_neg e,ih]
theorem dP {x y:Fl} {l:Lb}:l∈ay (au x y)↔l∈ay x/\l∉ay y:=by
 constructor
 ·intro h
  have h1:aL l (au x y)≠none:=fun e=>(bP.1 e) h;by_cases hl:l∈ay y
  ·exact absurd (nI hl) h1
  ·rw [j6 x y hl] at h1
   exact ⟨aax fun hx=>h1 (bP.2 hx),hl⟩
 ·rintro ⟨h1,h2⟩
  apply aax;intro h3;have:=bP.2 h3;rw [j6 x y h2] at this;exact (bP.1 this) h1
theorem vP {x y:Fl} (h:(ay x).Nodup):(ay (au x y)).Nodup:=by
 unfold au ay;exact h.sublist ((abm).map _)
theorem zS {x y:Fl} (h:au x y=[]) {l:Lb} (hl:l∈ay x):l∈ay y:=by
 apply aax;intro hn;have:l∈ay (au x y):=dP.2 ⟨hl,hn⟩;rw [h] at this;simp [ay] at this
theorem dU {x y:Fl} {c:Lb×Ut} (h:c∈au x y):c∈x:=(aaO.1 h).1
def Shared (S:Kn) (x y:Fl):Prop:=∀l c d,aL l x=some c->aL l y=some d->∀τ,S.Sat τ->Co (inst τ c) (inst τ d)
theorem VT (h:S.Inv) (ra:dS S a k x p) (rb:dS S b k y p) (hk:k≠0) (hs:Shared S x y) (hu:au x y=[]) (hv:au y x=[]):Step S S fun τ=>Co (inst τ a) (inst τ b):=
 Step.none h fun τ hτ=>by
  rw [uP ra rb hk hτ];refine ⟨rfl,fun l=>?_⟩
  cases hx:aL l x with
  |none=>
   have:aL l y=none:=by
    rw [bP] at hx ⊢;exact fun hl=>hx (zS hv hl)
   rw [this]
   exact GL _
  |some c=>
   cases hy:aL l y with
   |none=>
    rw [bP] at hy
    exact absurd (zS hu (jJ hx)) hy
   |some d=>exact hs l c d hx hy τ hτ
theorem Eh (ra:dS S a k x p) (rb:dS S b k y p) (hk:k≠0) (hu:au x y≠[]) {τ:Va} (hτ:S.Sat τ) (hpn:p≠none):¬Co (inst τ a) (inst τ b):=fun hc=>by
 rw [uP ra rb hk hτ] at hc;obtain ⟨q0,rfl⟩:=Option.ne_none_iff_exists'.1 hpn;obtain ⟨c,hcm⟩:=abk _ hu;have hl:c.1∈ay (au x y):=aaN.2 ⟨c,hcm,rfl⟩;obtain ⟨h1,h2⟩:=dP.1 hl;have h3:=hc.2 c.1
 cases hx:aL c.1 x with
 |none=>exact (bP.1 hx) h1
 |some z=>
  rw [hx,bP.2 h2] at h3;simp only [abg,abh,aa7,aa8] at h3
  cases ht:aL c.1 (τ.tail (some q0)).1 with
  |none=>rw [ht] at h3;exact h3
  |some w=>
   have:=ra.yR hτ ht;rw [hx] at this
   cases this
theorem VW (ra:dS S a k x p) (rb:dS S b k y none) (hk:k≠0) (hu:au x y≠[]) {τ:Va} (hτ:S.Sat τ):¬Co (inst τ a) (inst τ b):=fun hc=>by
 rw [uP ra rb hk hτ] at hc;obtain ⟨c,hcm⟩:=abk _ hu;have hl:c.1∈ay (au x y):=aaN.2 ⟨c,hcm,rfl⟩;obtain ⟨h1,h2⟩:=dP.1 hl;have h3:=hc.2 c.1
 cases hx:aL c.1 x with
 |none=>exact (bP.1 hx) h1
 |some z=>
  rw [hx,bP.2 h2] at h3;simp [Va.tail,aL,BO] at h3
end
section
variable {S:Kn} {a b:Ut} {k:Int} {x y:Fl} {p0 q0:Int}
theorem GN {o o':Option Ut} (h:BO o o'):BO o' o:=by
 cases o<;>cases o'<;>simp_all [BO];exact h.symm
theorem X9 {o o':Option Ut} (h:BO o o') (h1:∀z,o=some z->iO z/\jT z) (h2:∀z,o'=some z->iO z/\jT z):o=o':=by
 cases o<;>cases o'<;>simp_all [BO];exact Co.eq h h1.1 h2.1 h1.2 h2.2
theorem Shared.symm (h:Shared S x y):Shared S y x:=fun l c d hc hd τ hτ=>(h l d c hd hc τ hτ).symm
theorem GQ {L:Sorts} {m:Int} (hk:k≠0) (h8:k≠8) (el:∀q∈y,dQ L q.2/\jf m q.2) (vO:(ay y).Nodup) {r:Option Int} (hr:∀q,r=some q->q<m/\∃ls,L q=some ls/\∀l∈ay (au y x),l∈ls):dQ L (.mk k 0 (au y x) r)/\jf m (.mk k 0 (au y x) r):=by
 rw [bK,iJ];exact ⟨⟨⟨vP vO,fun h=>by rcases h with h|h;exact absurd h hk;exact absurd h h8,fun h=>absurd h h8,fun _=>fun _=>rfl,fun q hq=>(hr q hq).2⟩,fun q hq=>(el q (dU hq)).1⟩,fun h=>absurd h h8,fun q hq=>(hr q hq).1,fun q hq=>(el q (dU hq)).2⟩
theorem Ol {L:Sorts} {τ:Va} (hτ:τ.Ok L) {r:Option Int} (ho:dQ L (.mk k 0 (au y x) r)) (l:Lb):aL l (aZ (aI (inst τ) (au y x)++(τ.tail r).1))=((aL l (au y x)).map (inst τ)).or (aL l (τ.tail r).1):=by
 rw [bK] at ho;exact Dh hτ ho.1 l
theorem om (ra:dS S a k x (some p0)) (rb:dS S b k y none) (hk:k≠0) (h8:k≠8):∃ls,S.L p0=some ls/\iK S p0 ls (.mk k 0 (au y x) none):=by
 obtain ⟨_,_,ls,h1,h2⟩:=ra.tl p0 rfl;obtain ⟨o,bd⟩:=GQ (x:=x) (r:=none) hk h8 rb.el rb.vO fun q hq=>by cases hq
 exact ⟨ls,h1,h8,hk,rfl,fun l hl hls=>(dP.1 hl).2 ((h2 l).1 hls),(fun q hq=>by cases hq),o,bd⟩
theorem KU (ra:dS S a k x (some p0)) (rb:dS S b k y none) (hk:k≠0) (h8:k≠8) (hs:Shared S x y) (hu:au x y=[]) {τ:Va} (hτ:S.Sat τ):
  Co (inst τ a) (inst τ b)↔Co (.mk k 0 (τ.t p0).1 (τ.t p0).2) (inst τ (.mk k 0 (au y x) none)):=by
 obtain ⟨ls,hls,r⟩:=om ra rb hk h8;rw [uP ra rb hk hτ,aK,if_neg h8,Fw hk];refine and_congr Iff.rfl (forall_congr' fun l=>?_);rw [Ol hτ.1 r.ok];show BO (((aL l x).map _).or (aL l (τ.t p0).1)) (((aL l y).map _).or none)↔BO (aL l (τ.t p0).1) (((aL l (au y x)).map _).or none);rw [Option.or_none,Option.or_none]
 cases hx:aL l x with
 |some c=>
  have hP:aL l (τ.t p0).1=none:=by
   cases ht:aL l (τ.t p0).1 with
   |none=>rfl
   |some w=>
    have:=ra.yR hτ ht;rw [hx] at this
    cases this
  rw [hP,nI (jJ hx)]
  cases hy:aL l y with
  |none=>
   rw [bP] at hy
   exact absurd (zS hu (jJ hx)) hy
  |some d=>exact ⟨fun _=>trivial,fun _=>hs l c d hx hy τ hτ⟩
 |none=>
  rw [j6 y x (bP.1 hx)];exact Iff.rfl
theorem Zq (h:S.Inv) (ra:dS S a k x (some p0)) (rb:dS S b k y none) (hk:k≠0) (h8:k≠8) (hs:Shared S x y) (hu:au x y=[]) (oh:¬bL p0 (inst S.σ (aH S.m (.mk k 0 (au y x) none)).1)):
  Step S (S.aV p0 (.mk k 0 (au y x) none)) fun τ=>Co (inst τ a) (inst τ b):=by
 obtain ⟨ls,hls,r⟩:=om ra rb hk h8;obtain ⟨hlt,hκ,_⟩:=ra.tl p0 rfl;refine ⟨h.aV hκ hls hlt r oh,Kn.vZ h hκ r,fun τ hτ=>?_,fun τ hτ hc=>?_⟩
 ·exact (KU ra rb hk h8 hs hu (Kn.xX hκ hτ)).2 (h.GK hls r hτ)
 ·exact h.wO hκ hls hlt r hτ ((KU ra rb hk h8 hs hu hτ).1 hc)
theorem Qc (h:S.Inv) (ra:dS S a k x (some p0)) (rb:dS S b k y none) (hk:k≠0) (h8:k≠8) (hs:Shared S x y) (hu:au x y=[]) (oh:bL p0 (inst S.σ (aH S.m (.mk k 0 (au y x) none)).1)) {τ:Va} (hτ:S.Sat τ):¬Co (inst τ a) (inst τ b):=fun hc=>by
 obtain ⟨ls,hls,r⟩:=om ra rb hk h8;obtain ⟨hlt,hκ,_⟩:=ra.tl p0 rfl;exact h.BM hls hlt r oh hτ ((KU ra rb hk h8 hs hu hτ).1 hc)
def rP (x y:Fl):List Lb:=ay x++ay (au y x)
theorem tQ {l:Lb}:l∈rP x y↔l∈ay x\/l∈ay y:=by
 unfold rP;rw [JQ,dP];constructor
 ·rintro (h|h)
  ·exact .inl h
  ·exact .inr h.1
 ·rintro (h|h)
  ·exact .inl h
  ·by_cases hx:l∈ay x
   ·exact .inl hx
   ·exact .inr ⟨h,hx⟩
def S1 (S:Kn) (x y:Fl):Kn:=S.aQ (rP x y)
def t1 (S:Kn) (k:Int) (x y:Fl):Ut:=.mk k 0 (au y x) (some S.m)
def S2 (S:Kn) (k:Int) (x y:Fl) (p0:Int):Kn:=(S1 S x y).aV p0 (t1 S k x y)
def t2 (S:Kn) (k:Int) (x y:Fl):Ut:=.mk k 0 (au x y) (some S.m)
theorem zT (S:Kn) (x y:Fl):(S1 S x y).L S.m=some (rP x y):=by
 show (if S.m=S.m then _ else _)=_;rw [if_pos rfl]
theorem rQ {n:Int} (h:n<S.m):(S1 S x y).L n=S.L n:=by
 show (if n=S.m then _ else _)=_;rw [if_neg (by omega)]
theorem ji (h:S.Inv) (ra:dS S a k x (some p0)) (rb:dS S b k y (some q0)) (hk:k≠0) (h8:k≠8):∃ls,(S1 S x y).L p0=some ls/\iK (S1 S x y) p0 ls (t1 S k x y):=by
 obtain ⟨hlt,_,ls,h1,h2⟩:=ra.tl p0 rfl
 obtain ⟨o,bd⟩:=GQ (L:=(S1 S x y).L) (m:=S.m+1) (x:=x) (r:=some S.m) hk h8 (fun q hq=>⟨vY (fun n hn=>rQ hn) _ (rb.el q hq).2 (rb.el q hq).1,gQ (by omega) _ (rb.el q hq).2⟩) rb.vO fun q hq=>by
  injection hq with hq
  subst hq;exact ⟨by omega,_,zT S x y,fun l hl=>tQ.2 (.inr (dP.1 hl).1)⟩
 refine ⟨ls,by rw [rQ hlt];exact h1,h8,hk,rfl,fun l hl hls=>(dP.1 hl).2 ((h2 l).1 hls),fun q hq=>?_,o,bd⟩;have hq:some S.m=some q:=hq;injection hq with hq
 subst hq;exact ⟨by omega,h.free (Int.le_refl _),_,zT S x y,fun l hl=>tQ.2 (.inl ((h2 l).1 hl))⟩
theorem mY (h:S.Inv) (ra:dS S a k x (some p0)) (rb:dS S b k y (some q0)) (hk:k≠0) (h8:k≠8) (hpq:p0≠q0):∃ls,(S2 S k x y p0).L q0=some ls/\(S2 S k x y p0).κ q0=none/\q0<(S2 S k x y p0).m/\iK (S2 S k x y p0) q0 ls (t2 S k x y):=by
 obtain ⟨hlt,hκ,ls,h1,h2⟩:=rb.tl q0 rfl;obtain ⟨Jm,_⟩:=ra.tl p0 rfl;obtain ⟨_,_,r⟩:=ji h ra rb hk h8;have hm:S.m+1<=(S2 S k x y p0).m:=(jX (t1 S k x y) (S1 S x y).m ⟨r.ok,r.bd,(h.aQ _).new⟩).1
 obtain ⟨o,bd⟩:=GQ (L:=(S1 S x y).L) (m:=(S2 S k x y p0).m) (x:=y) (y:=x) (r:=some S.m) hk h8 (fun q hq=>⟨vY (fun n hn=>rQ hn) _ (ra.el q hq).2 (ra.el q hq).1,gQ (by omega) _ (ra.el q hq).2⟩) ra.vO fun q hq=>by
  injection hq with hq
  subst hq;exact ⟨by omega,_,zT S x y,fun l hl=>tQ.2 (.inl (dP.1 hl).1)⟩
 refine ⟨ls,by show (S1 S x y).L q0=_;rw [rQ hlt];exact h1,?_,by omega,h8,hk,rfl,fun l hl hls=>(dP.1 hl).2 ((h2 l).1 hls),fun q hq=>?_,o,bd⟩
 ·show upd S.κ p0 _ q0=none
  rw [bQ (fun e=>hpq e.symm)];exact hκ
 ·have hq:some S.m=some q:=hq
  injection hq with hq
  subst hq;refine ⟨by omega,?_,_,zT S x y,fun l hl=>tQ.2 (.inr ((h2 l).1 hl))⟩;show upd S.κ p0 _ S.m=none;rw [bQ (by omega)];exact h.free (Int.le_refl _)
theorem J8 (h8:k≠8) (hk:k≠0) {L:Sorts} {τ:Va} (hτ:τ.Ok L) {z w:Fl} {r s:Int} (ho:dQ L (.mk k 0 (au z w) (some r))):
  Co (.mk k 0 (τ.t s).1 (τ.t s).2) (inst τ (.mk k 0 (au z w) (some r)))↔(τ.t s).2=(τ.t r).2/\∀l,BO (aL l (τ.t s).1) (((aL l (au z w)).map (inst τ)).or (aL l (τ.t r).1)):=by
 rw [aK,if_neg h8,Fw hk];refine and_congr Iff.rfl (forall_congr' fun l=>?_);rw [Ol hτ ho];exact Iff.rfl
end
section
variable {S:Kn} {a b:Ut} {k:Int} {x y:Fl} {p0 q0:Int}
theorem VX (h:S.Inv) (ra:dS S a k x (some p0)) (rb:dS S b k y (some q0)) (hk:k≠0) (h8:k≠8) (hpq:p0≠q0) (hs:Shared S x y) (bda:jf S.m a) (bdb:jf S.m b)
  {τ:Va} (hτ:((S2 S k x y p0).aV q0 (t2 S k x y)).Sat τ) (i1:(S1 S x y).Inv) (i2:(S2 S k x y p0).Inv):Co (inst τ a) (inst τ b):=by
 obtain ⟨SK,hl1,r1⟩:=ji h ra rb hk h8;obtain ⟨kG,hl2,VY,hm2,r2⟩:=mY h ra rb hk h8 hpq;have c2:=i2.GK hl2 r2 hτ;have hτ2:=Kn.xX VY hτ;obtain ⟨Jm,Nl,_⟩:=ra.tl p0 rfl;obtain ⟨abN,hκq,_⟩:=rb.tl q0 rfl;have c1:=i1.GK hl1 r1 hτ2;have hτ1:(S1 S x y).Sat τ:=Kn.xX (S:=S1 S x y) Nl hτ2;obtain ⟨Zr,a0⟩:=Kn.zR h hτ1;rw [show (t2 S k x y).k=k from rfl,t2,J8 h8 hk hτ2.1 r2.ok] at c2;rw [show (t1 S k x y).k=k from rfl,t1,J8 h8 hk hτ1.1 r1.ok] at c1;rw [a0.inst a bda,a0.inst b bdb,uP ra rb hk Zr];have ep:=(a0 p0 Jm).2;have eq:=(a0 q0 abN).2;refine ⟨?_,fun l=>?_⟩
 ·show ((τ.iL S.m (aS S.m)).t p0).2=((τ.iL S.m (aS S.m)).t q0).2
  rw [<-ep,<-eq,c1.1,c2.1]
 ·have g1:=c1.2 l
  have g2:=c2.2 l;show BO (((aL l x).map _).or (aL l ((τ.iL S.m (aS S.m)).t p0).1)) (((aL l y).map _).or (aL l ((τ.iL S.m (aS S.m)).t q0).1))
  have np:∀z,aL l (τ.t p0).1=some z->aL l x=none/\iO z/\jT z:=fun z hz=>by
   have hz2:aL l ((τ.iL S.m (aS S.m)).tail (some p0)).1=some z:=by
    show aL l ((τ.iL S.m (aS S.m)).t p0).1=some z;rw [<-ep];exact hz
   exact ⟨ra.yR Zr hz2,ra.BN Zr hz2⟩
  have nq:∀z,aL l (τ.t q0).1=some z->aL l y=none/\iO z/\jT z:=fun z hz=>by
   have hz2:aL l ((τ.iL S.m (aS S.m)).tail (some q0)).1=some z:=by
    show aL l ((τ.iL S.m (aS S.m)).t q0).1=some z;rw [<-eq];exact hz
   exact ⟨rb.yR Zr hz2,rb.BN Zr hz2⟩
  rw [<-ep,<-eq]
  cases hx:aL l x with
  |some c=>
   have hP:aL l (τ.t p0).1=none:=by
    cases ht:aL l (τ.t p0).1 with
    |none=>rfl
    |some z=>have:=(np z ht).1;rw [hx] at this;cases this
   have hcb:=(ra.el _ (bR hx)).2;rw [hP]
   cases hy:aL l y with
   |some d=>
    have:=hs l c d hx hy _ Zr
    exact this
   |none=>
    rw [j6 x y (bP.1 hy),hx] at g2;simp only [abg,abh,aa7,aa8] at g2 ⊢;rw [a0.inst c hcb] at g2
    exact GN g2
  |none=>
   cases hy:aL l y with
   |some d=>
    have hQ:aL l (τ.t q0).1=none:=by
     cases ht:aL l (τ.t q0).1 with
     |none=>rfl
     |some z=>have:=(nq z ht).1;rw [hy] at this;cases this
    have hdb:=(rb.el _ (bR hy)).2;rw [hQ];rw [j6 y x (bP.1 hx),hy] at g1;simp only [abg,abh,aa7,aa8] at g1 ⊢;rw [a0.inst d hdb] at g1
    exact g1
   |none=>
    rw [j6 y x (bP.1 hx),hy] at g1;rw [j6 x y (bP.1 hy),hx] at g2;simp only [aa7,aa8] at g1 g2 ⊢;have hR:∀z,aL l (τ.t S.m).1=some z->iO z/\jT z:=fun z hz=>(hτ1.1.t S.m _ (zT S x y)).2.2 _ (bR hz);rw [X9 g1 (fun z hz=>(np z hz).2) hR,X9 g2 (fun z hz=>(nq z hz).2) hR];exact GL _
theorem Dj (h:S.Inv) (ra:dS S a k x (some p0)) (rb:dS S b k y (some q0)) (hk:k≠0) (h8:k≠8) {τ:Va} (hτ:S.Sat τ) (hc:Co (inst τ a) (inst τ b)):
  ∃τ1,(S1 S x y).Sat τ1/\Alike S.m τ τ1/\τ1.t S.m=(au (τ.t p0).1 (au y x),(τ.t p0).2)/\Co (.mk k 0 (τ1.t p0).1 (τ1.t p0).2) (inst τ1 (t1 S k x y)):=by
 obtain ⟨SK,hl1,r1⟩:=ji h ra rb hk h8;obtain ⟨Jm,Nl,lsp,hlp,Vs⟩:=ra.tl p0 rfl;obtain ⟨t1',t2',t3'⟩:=hτ.1.t p0 lsp hlp;rw [uP ra rb hk hτ] at hc
 obtain ⟨s1,a1⟩:=h.xW (ls:=rP x y) hτ (R:=au (τ.t p0).1 (au y x)) (tl:=(τ.t p0).2) (abn.sublist abm t1') (fun l hl=>by
  obtain ⟨g1,g2⟩:=dP.1 hl;intro hb;unfold rP at hb;rcases JQ.1 hb with hb|hb
  ·exact t2' l g1 ((Vs l).2 hb)
  ·exact g2 hb) (fun q hq=>t3' q (dU hq))
 have em:(τ.jh S.m (au (τ.t p0).1 (au y x),(τ.t p0).2)).t S.m=(au (τ.t p0).1 (au y x),(τ.t p0).2):=by
  show (if S.m=S.m then _ else _)=_;rw [if_pos rfl]
 refine ⟨_,s1,a1,em,?_⟩;rw [t1,J8 h8 hk s1.1 r1.ok,<-(a1 p0 Jm).2,em];refine ⟨rfl,fun l=>?_⟩;by_cases hv:l∈ay (au y x)
 ·rw [nI hv]
  obtain ⟨hy,hx⟩:=dP.1 hv;rw [j6 y x hx]
  cases hyg:aL l y with
  |none=>exact absurd hy (bP.1 hyg)
  |some d=>
   have:=hc.2 l;rw [bP.2 hx,hyg] at this;simp only [abg,abh,aa7,aa8] at this ⊢;rw [<-a1.inst d (rb.el _ (bR hyg)).2];exact this
 ·rw [bP.2 hv,j6 _ _ hv]
  exact GL _
theorem Om (h:S.Inv) (ra:dS S a k x (some p0)) (rb:dS S b k y (some q0)) (hk:k≠0) (h8:k≠8) (hpq:p0≠q0) {τ τ1 τ2:Va} (hτ:S.Sat τ) (hc:Co (inst τ a) (inst τ b))
  (a1:Alike S.m τ τ1) (em:τ1.t S.m=(au (τ.t p0).1 (au y x),(τ.t p0).2)) (hτ2:(S2 S k x y p0).Sat τ2) (a2:Alike (S.m+1) τ1 τ2):Co (.mk k 0 (τ2.t q0).1 (τ2.t q0).2) (inst τ2 (t2 S k x y)):=by
 obtain ⟨kG,hl2,VY,hm2,r2⟩:=mY h ra rb hk h8 hpq;obtain ⟨Jm,Nl,lsp,hlp,Vs⟩:=ra.tl p0 rfl;obtain ⟨abN,hκq,_⟩:=rb.tl q0 rfl;rw [uP ra rb hk hτ] at hc;rw [t2,J8 h8 hk hτ2.1 r2.ok];have eq:τ2.t q0=τ.t q0:=((a2 q0 (by omega)).2.symm).trans (a1 q0 abN).2.symm;have er:τ2.t S.m=(au (τ.t p0).1 (au y x),(τ.t p0).2):=((a2 S.m (by omega)).2.symm).trans em;have a3:Alike S.m τ τ2:=a1.trans (a2.mono (by omega));rw [eq,er];refine ⟨hc.1.symm,fun l=>?_⟩;have g:=hc.2 l;have g:BO (((aL l x).map (inst τ)).or (aL l (τ.t p0).1)) (((aL l y).map (inst τ)).or (aL l (τ.t q0).1)):=g;have np:∀z,aL l (τ.t p0).1=some z->aL l x=none:=fun z hz=>ra.yR hτ (τ:=τ) hz;have nq:∀z,aL l (τ.t q0).1=some z->aL l y=none:=fun z hz=>rb.yR hτ (τ:=τ) hz;simp only
 cases hy:aL l y with
 |some d=>
  have hQ:aL l (τ.t q0).1=none:=by
   cases ht:aL l (τ.t q0).1 with
   |none=>rfl
   |some z=>have:=nq z ht;rw [hy] at this;cases this
  rw [hQ,nI (jJ hy)]
  have hR:aL l (au (τ.t p0).1 (au y x))=none:=by
   cases hx:aL l x with
   |none=>exact nI (dP.2 ⟨jJ hy,bP.1 hx⟩)
   |some c=>
    by_cases hv:l∈ay (au y x)
    ·exact nI hv
    ·rw [j6 _ _ hv]
     cases ht:aL l (τ.t p0).1 with
     |none=>rfl
     |some z=>have:=np z ht;rw [hx] at this;cases this
  rw [hR]
  trivial
 |none=>
  rw [hy] at g;simp only [aa7,aa8] at g;rw [j6 x y (bP.1 hy)];have hv:l∉ay (au y x):=fun hl=>(bP.1 hy) (dP.1 hl).1;rw [j6 _ _ hv]
  cases hx:aL l x with
  |some c=>
   rw [hx] at g;simp only [abg,abh] at g ⊢;rw [<-a3.inst c (ra.el _ (bR hx)).2]
   exact GN g
  |none=>
   rw [hx] at g;simp only [aa7,aa8] at g ⊢;exact GN g
theorem Zt (h:S.Inv) (ra:dS S a k x (some p0)) (rb:dS S b k y (some q0)) (hk:k≠0) (h8:k≠8) (hpq:p0≠q0) (hs:Shared S x y) (bda:jf S.m a) (bdb:jf S.m b)
  (o1:¬bL p0 (inst (S1 S x y).σ (aH (S1 S x y).m (t1 S k x y)).1)) (o2:¬bL q0 (inst (S2 S k x y p0).σ (aH (S2 S k x y p0).m (t2 S k x y)).1)):
  Step S ((S2 S k x y p0).aV q0 (t2 S k x y)) fun τ=>Co (inst τ a) (inst τ b):=by
 obtain ⟨SK,hl1,r1⟩:=ji h ra rb hk h8;obtain ⟨kG,hl2,VY,hm2,r2⟩:=mY h ra rb hk h8 hpq;obtain ⟨Jm,Nl,_⟩:=ra.tl p0 rfl;have i1:(S1 S x y).Inv:=h.aQ _;have hp1:p0<(S1 S x y).m:=by show p0<S.m+1;omega
 have i2:(S2 S k x y p0).Inv:=i1.aV Nl hl1 hp1 r1 o1;refine ⟨i2.aV VY hl2 hm2 r2 o2,(Kn.qw h _).trans ((Kn.vZ i1 Nl r1).trans (Kn.vZ i2 VY r2)),fun τ hτ=>VX h ra rb hk h8 hpq hs bda bdb hτ i1 i2,fun τ hτ hc=>?_⟩;obtain ⟨τ1,s1,a1,em,c1⟩:=Dj h ra rb hk h8 hτ hc;obtain ⟨τ2,s2,a2⟩:=i1.wO Nl hl1 hp1 r1 s1 c1;obtain ⟨τ3,s3,a3⟩:=i2.wO VY hl2 hm2 r2 s2 (Om h ra rb hk h8 hpq hτ hc a1 em s2 a2);have hm:S.m+1<=(S2 S k x y p0).m:=(jX (t1 S k x y) (S1 S x y).m ⟨r1.ok,r1.bd,i1.new⟩).1;exact ⟨τ3,s3,a1.trans ((a2.mono (by show S.m<=S.m+1;omega)).trans (a3.mono (by omega)))⟩
theorem Np (h:S.Inv) (ra:dS S a k x (some p0)) (rb:dS S b k y (some q0)) (hk:k≠0) (h8:k≠8)
  (o1:bL p0 (inst (S1 S x y).σ (aH (S1 S x y).m (t1 S k x y)).1)) {τ:Va} (hτ:S.Sat τ):¬Co (inst τ a) (inst τ b):=fun hc=>by
 obtain ⟨SK,hl1,r1⟩:=ji h ra rb hk h8;obtain ⟨Jm,_⟩:=ra.tl p0 rfl;obtain ⟨τ1,s1,a1,em,c1⟩:=Dj h ra rb hk h8 hτ hc;have i1:(S1 S x y).Inv:=h.aQ _;have hp1:p0<(S1 S x y).m:=by show p0<S.m+1;omega
 exact i1.BM hl1 hp1 r1 o1 s1 c1
theorem Nq (h:S.Inv) (ra:dS S a k x (some p0)) (rb:dS S b k y (some q0)) (hk:k≠0) (h8:k≠8) (hpq:p0≠q0)
  (o1:¬bL p0 (inst (S1 S x y).σ (aH (S1 S x y).m (t1 S k x y)).1)) (o2:bL q0 (inst (S2 S k x y p0).σ (aH (S2 S k x y p0).m (t2 S k x y)).1)) {τ:Va} (hτ:S.Sat τ):¬Co (inst τ a) (inst τ b):=fun hc=>by
 obtain ⟨SK,hl1,r1⟩:=ji h ra rb hk h8;obtain ⟨kG,hl2,VY,hm2,r2⟩:=mY h ra rb hk h8 hpq;obtain ⟨Jm,Nl,_⟩:=ra.tl p0 rfl;obtain ⟨τ1,s1,a1,em,c1⟩:=Dj h ra rb hk h8 hτ hc;have i1:(S1 S x y).Inv:=h.aQ _;have hp1:p0<(S1 S x y).m:=by show p0<S.m+1;omega
 have i2:(S2 S k x y p0).Inv:=i1.aV Nl hl1 hp1 r1 o1;obtain ⟨τ2,s2,a2⟩:=i1.wO Nl hl1 hp1 r1 s1 c1;exact i2.BM hl2 hm2 r2 o2 s2 (Om h ra rb hk h8 hpq hτ hc a1 em s2 a2)
end
def jd (S:Kn) (t:Ut):Prop:=dQ S.L t/\jf S.m t
theorem jd.mono {S S':Kn} {t:Ut} (h:jd S t) (l:S.Le S'):jd S' t:=⟨vY l.L t h.2 h.1,gQ l.m t h.2⟩
def wP (S:Kn) (a b:Ut):Prop:=∀τ,S.Sat τ->inst τ a=inst τ b
theorem wP.refl (S:Kn) (a:Ut):wP S a a:=fun _ _=>rfl
theorem wP.symm {S:Kn} {a b:Ut} (h:wP S a b):wP S b a:=fun τ hτ=>(h τ hτ).symm
theorem wP.trans {S:Kn} {a b c:Ut} (h:wP S a b) (k:wP S b c):wP S a c:=fun τ hτ=>(h τ hτ).trans (k τ hτ)
theorem VZ {S:Kn} {v:Int} {t:Ut} (hl:S.L v=none) (hk:S.κ v=some t):wP S (aS v) t:=fun τ hτ=>by
 rw [aW];exact (hτ.2 v t hk).1 hl
def bF (a b:Ut) (τ:Va):Prop:=Co (inst τ a) (inst τ b)
theorem qx {a b:Ut} {m:Int} {τ τ':Va} (h:Alike m τ τ') (ha:jf m a) (hb:jf m b):bF a b τ↔bF a b τ':=by
 unfold bF;rw [h.inst a ha,h.inst b hb]
def pX (S:Kn) (a b:Ut):Prop:=∀τ,S.Sat τ->¬bF a b τ
theorem Step.eqv {S S':Kn} {a a' b b':Ut} (h:Step S S' (bF a b)) (pa:jd S a) (pa':jd S a') (pb:jd S b) (pb':jd S b') (ea:wP S a' a) (eb:wP S b' b):Step S S' (bF a' b'):=by
 refine h.congr (fun τ hτ hc=>?_) fun τ hτ hc=>?_
 ·obtain ⟨τ0,h0,a0⟩:=h.le.sat τ hτ
  rw [qx a0 pa.2 pb.2] at hc;rw [qx a0 pa'.2 pb'.2];unfold bF;rw [ea τ0 h0,eb τ0 h0];exact hc
 ·unfold bF at hc ⊢
  rw [<-ea τ hτ,<-eb τ hτ];exact hc
theorem pX.eqv {S:Kn} {a a' b b':Ut} (h:pX S a b) (ea:wP S a' a) (eb:wP S b' b):pX S a' b':=fun τ hτ hc=>h τ hτ (by
 unfold bF at hc ⊢;rw [<-ea τ hτ,<-eb τ hτ];exact hc)
theorem Step.symm {S S':Kn} {a b:Ut} (h:Step S S' (bF a b)):Step S S' (bF b a):=h.congr (fun _ _ hc=>Co.symm hc) fun _ _ hc=>Co.symm hc
theorem pX.symm {S:Kn} {a b:Ut} (h:pX S a b):pX S b a:=fun τ hτ hc=>h τ hτ (Co.symm hc)
theorem zU {S:Kn} (h:S.Inv) {a b:Ut} (hk:a.k=0):Step S S (bF a b):=
 Step.none h fun τ _=>by
  obtain ⟨k,n,fs,tl⟩:=a;have hk:k=0:=hk;subst hk;unfold bF;rw [aK,if_neg (by decide)];exact .dl _ _ _ _
theorem Jo {S:Kn} (h:S.Inv) (a:Ut):Step S S (bF a a):=Step.none h fun _ _=>Co.refl _
theorem V5 {S:Kn} (h:S.Inv) {v:Int} {b:Ut} (hv:S.κ v=none) (hl:S.L v=none) (pW:v<S.m) (pb:jd S b) (o:¬bL v (inst S.σ (aH S.m b).1)):Step S (S.eF v b) (bF (aS v) b):=
 ⟨h.eF hv hl pW pb.1 pb.2 o,Kn.Zn h hv pb.1 pb.2,fun τ hτ=>by
  unfold bF;rw [aW];exact h.Zm hl pb.1 pb.2 hτ,fun τ hτ hc=>by
  unfold bF at hc;rw [aW] at hc;exact h.VO hv hl pW pb.1 pb.2 hτ hc⟩
theorem Nr {S:Kn} (h:S.Inv) {v:Int} {b:Ut} (hl:S.L v=none) (pW:v<S.m) (pb:jd S b) (o:bL v (inst S.σ (aH S.m b).1)) (h8:(inst S.σ (aH S.m b).1).k≠8):pX S (aS v) b:=fun τ hτ hc=>by
 unfold bF at hc;rw [aW] at hc;exact h.VP hl pW pb.1 pb.2 o h8 hτ hc
theorem Zu {a b:Ut} (h:Co a b):a.k=0\/b.k=0\/a.k=b.k:=by
 cases h with
 |dl=>exact .inl rfl
 |dr=>exact .inr (.inl rfl)
 |nd=>exact .inr (.inr rfl)
theorem Fx {S:Kn} {a b:Ut} (h:a.k≠b.k) (a0:a.k≠0) (a8:a.k≠8) (b0:b.k≠0) (b8:b.k≠8):pX S a b:=fun τ _ hc=>by
 obtain ⟨k,n,fs,tl⟩:=a;obtain ⟨k',n',gs,tl'⟩:=b;have h:k≠k':=h;have a0:k≠0:=a0;have a8:k≠8:=a8;have b0:k'≠0:=b0;have b8:k'≠8:=b8;unfold bF at hc;rw [aK,if_neg a8,aK,if_neg b8] at hc;rcases Zu hc with e|e|e
 ·exact a0 e
 ·exact b0 e
 ·exact h e
structure Loop (S0 S:Kn) (a b:Ut):Prop where
 inv:S.Inv
 le:S0.Le S
 gen:∀τ,S0.Sat τ->bF a b τ->∃τ',S.Sat τ'/\Alike S0.m τ τ'
theorem Loop.start {S:Kn} (h:S.Inv) (a b:Ut):Loop S S a b:=⟨h,Kn.Le.refl S,fun τ hτ _=>⟨τ,hτ,Alike.refl _ _⟩⟩
section
variable {S0 S S':Kn} {a b c d:Ut}
theorem Loop.next (l:Loop S0 S a b) (pa:jd S0 a) (pb:jd S0 b) (hcd:∀τ,S.Sat τ->bF a b τ->bF c d τ) (s:Step S S' (bF c d)):Loop S0 S' a b:=
 ⟨s.inv,l.le.trans s.le,fun τ hτ hc=>by
  obtain ⟨τ1,h1,a1⟩:=l.gen τ hτ hc;rw [qx a1 pa.2 pb.2] at hc;obtain ⟨τ2,h2,a2⟩:=s.gen τ1 h1 (hcd τ1 h1 hc);exact ⟨τ2,h2,a1.trans (a2.mono l.le.m)⟩⟩
theorem Loop.fail (l:Loop S0 S a b) (pa:jd S0 a) (pb:jd S0 b) (hcd:∀τ,S.Sat τ->bF a b τ->bF c d τ) (h:pX S c d):pX S0 a b:=fun τ hτ hc=>by
 obtain ⟨τ1,h1,a1⟩:=l.gen τ hτ hc;rw [qx a1 pa.2 pb.2] at hc;exact h τ1 h1 (hcd τ1 h1 hc)
theorem Loop.stop (l:Loop S0 S a b) (pa:jd S0 a) (pb:jd S0 b) (s:Step S S' (bF a b)):Step S0 S' (bF a b):=
 ⟨s.inv,l.le.trans s.le,s.co,fun τ hτ hc=>by
  obtain ⟨τ1,h1,a1⟩:=l.gen τ hτ hc;rw [qx a1 pa.2 pb.2] at hc;obtain ⟨τ2,h2,a2⟩:=s.gen τ1 h1 hc;exact ⟨τ2,h2,a1.trans (a2.mono l.le.m)⟩⟩
theorem KV (l:S.Le S') (hc:∀τ,S.Sat τ->bF c d τ) (bc:jf S.m c) (bd:jf S.m d):∀τ,S'.Sat τ->bF c d τ:=fun τ hτ=>by
 obtain ⟨τ0,h0,a0⟩:=l.sat τ hτ;rw [qx a0 bc bd];exact hc τ0 h0
theorem BP {k:Int} {x y:Fl} {p q:Option Int} (ra:dS S a k x p) (rb:dS S b k y q) (hk:k≠0) {l:Lb} (hc:aL l x=some c) (hd:aL l y=some d):∀τ,S.Sat τ->bF a b τ->bF c d τ:=fun τ hτ h=>by
 unfold bF at h;rw [uP ra rb hk hτ] at h;have:=h.2 l;rw [hc,hd] at this;exact this
theorem abO {k:Int} {fs gs:Fl} {τ:Va} (hk:k≠0) (h8:k≠8) (nf:(ay fs).Nodup) (ng:(ay gs).Nodup):bF (.mk k 0 fs none) (.mk k 0 gs none) τ↔∀l,BO ((aL l fs).map (inst τ)) ((aL l gs).map (inst τ)):=by
 unfold bF;rw [aK,if_neg h8,aK,if_neg h8,Fw hk]
 have n1:(ay (aI (inst τ) fs++(τ.tail none).1)).Nodup:=by
  rw [dZ,fJ];simpa [Va.tail,ay] using nf
 have n2:(ay (aI (inst τ) gs++(τ.tail none).1)).Nodup:=by
  rw [dZ,fJ];simpa [Va.tail,ay] using ng
 constructor
 ·rintro ⟨_,h⟩ l
  have:=h l;rw [kL n1,kL n2,kF,kF,iw,iw] at this;simpa [Va.tail,aL] using this
 ·intro h
  refine ⟨rfl,fun l=>?_⟩;rw [kL n1,kL n2,kF,kF,iw,iw];simpa [Va.tail,aL] using h l
end
def qY (L:Sorts):Ut->Prop
 | .mk _ _ fs tl=>(∀q ls,tl=some q->L q=some ls->∀l∈ls,l∈ay fs)/\∀p∈fs,qY L p.2
termination_by t=>SizeOf.sizeOf t
decreasing_by exact Ut.fZ (by assumption)
theorem nR {L:Sorts} {k n:Int} {fs:Fl} {tl:Option Int}:qY L (.mk k n fs tl)↔(∀q ls,tl=some q->L q=some ls->∀l∈ls,l∈ay fs)/\∀p∈fs,qY L p.2:=by rw [qY]
theorem GR {L L':Sorts} {m:Int} (hL:∀x,x<m->L' x=L x):∀t,jf m t->qY L t->qY L' t:=
 Ut.ind fun k n fs tl ih hb hf=>by
  rw [iJ] at hb;rw [nR] at hf ⊢;exact ⟨fun q ls hq hls=>hf.1 q ls hq (by rw [<-hL q (hb.2.1 q hq)];exact hls),fun p hp=>ih p hp (hb.2.2 p hp) (hf.2 p hp)⟩
theorem Qd {L:Sorts}:∀(t:Ut) (m:Int),qY L t->qY L (aH m t).1:=
 Ut.ind fun k n fs tl ih m hf=>by
  rw [nR] at hf;rw [fF];by_cases hk:k=0
  ·rw [if_pos hk,nR]
   exact ⟨fun q ls hq=>(by cases hq),fun p hp=>by simp at hp⟩
  ·rw [if_neg hk,nR]
   refine ⟨fun q ls hq hls l hl=>by rw [jg];exact hf.1 q ls hq hls l hl,?_⟩
   have key:∀(gs:Fl) (m:Int),(∀p∈gs,∀m,qY L (aH m p.2).1)->∀p∈(cK m gs).1,qY L p.2:=by
    intro gs
    induction gs with
    |nil=>intro m _ p hp;rw [dw] at hp;simp at hp
    |cons g gs ih2=>
     intro m h p hp;rw [b_] at hp;rcases Gz.1 hp with rfl|hp
     ·exact h g (by simp) m
     ·exact ih2 _ (fun p hp=>h p (by simp [hp])) p hp
   exact key fs m fun p hp m=>ih p hp m (hf.2 p hp)
structure Kn.Fu (S:Kn):Prop where
 v:∀v t,S.κ v=some t->S.L v=none->qY S.L t
 t:∀v t ls,S.κ v=some t->S.L v=some ls->(∀c∈t.fs,qY S.L c.2)/\∀q ls',t.tl=some q->S.L q=some ls'->∀l∈ls',l∈ls\/l∈ay t.fs
theorem KW {L:Sorts} {t:Ut} {m:Int} (hk:t.k≠0) (h:∀c∈t.fs,qY L c.2):∀c∈(aH m t).1.fs,qY L c.2:=by
 obtain ⟨k,n,fs,tl⟩:=t;have hk:k≠0:=hk
 have h1:qY L (.mk k n fs none):=by
  rw [nR];exact ⟨fun q ls hq=>(by cases hq),h⟩
 have h2:=Qd _ m h1;rw [fF,if_neg hk] at h2;rw [nR] at h2;intro c hc;rw [fF,if_neg hk] at hc;exact h2.2 c hc
section
variable {S:Kn}
theorem Kn.Fu.eF (h:S.Fu) {v:Int} {t:Ut} (hl:S.L v=none) (hf:qY S.L t):(S.eF v t).Fu:=by
 refine ⟨fun u s hu hls=>?_,fun u s ls hu hls=>?_⟩
 ·have hu:upd S.κ v (aH S.m t).1 u=some s:=hu
  by_cases e:u=v
  ·subst e
   rw [upd_same] at hu;injection hu with hu
   subst hu;exact Qd t S.m hf
  ·rw [bQ e] at hu
   exact h.v u s hu hls
 ·have hu:upd S.κ v (aH S.m t).1 u=some s:=hu
  have hls:S.L u=some ls:=hls;have e:u≠v:=fun e=>by rw [e,hl] at hls;cases hls
  rw [bQ e] at hu;exact h.t u s ls hu hls
theorem Kn.Fu.aQ (h:S.Fu) (i:S.Inv) (ls:List Lb):(S.aQ ls).Fu:=by
 have yQ:∀x,x<S.m->(S.aQ ls).L x=S.L x:=fun x hx=>by
  show (if x=S.m then some ls else S.L x)=S.L x;rw [if_neg (by omega)]
 refine ⟨fun u s hu hls=>?_,fun u s ls' hu hls=>?_⟩
 ·obtain ⟨a,b,c,d⟩:=i.dom u s hu
  rw [yQ u a] at hls;exact GR yQ s d (h.v u s hu hls)
 ·obtain ⟨a,b,c,d⟩:=i.dom u s hu
  rw [yQ u a] at hls;obtain ⟨g1,g2⟩:=h.t u s ls' hu hls;obtain ⟨k,n,fs,tl⟩:=s;rw [iJ] at d;refine ⟨fun c hc=>GR yQ _ (d.2.2 c hc) (g1 c hc),fun q kG hq afP=>?_⟩;rw [yQ q (d.2.1 q hq)] at afP;exact g2 q kG hq afP
theorem Kn.Fu.aV (h:S.Fu) {p:Int} {ls:List Lb} {t:Ut} (hl:S.L p=some ls) (hk:t.k≠0) (hc:∀c∈t.fs,qY S.L c.2) (hq:∀q ls',t.tl=some q->S.L q=some ls'->∀l∈ls',l∈ls\/l∈ay t.fs):(S.aV p t).Fu:=by
 obtain ⟨e1,e2,e3,e4⟩:=oQ (m:=S.m) hk;refine ⟨fun u s hu hls=>?_,fun u s kG hu hls=>?_⟩
 ·have hu:upd S.κ p (aH S.m t).1 u=some s:=hu
  have hls:S.L u=none:=hls;have e:u≠p:=fun e=>by rw [e,hl] at hls;cases hls
  rw [bQ e] at hu;exact h.v u s hu hls
 ·have hu:upd S.κ p (aH S.m t).1 u=some s:=hu
  by_cases e:u=p
  ·subst e
   rw [upd_same] at hu;injection hu with hu
   subst hu;have hls:S.L u=some kG:=hls;rw [hl] at hls;injection hls with hls
   subst hls;refine ⟨KW hk hc,fun q ls' hq' ajs l hl'=>?_⟩;rw [e4] at hq';rw [e3];exact hq q ls' hq' ajs l hl'
  ·rw [bQ e] at hu
   exact h.t u s kG hu hls
inductive Chain (S:Kn) (k:Int) (fs:Fl) (tl:Option Int):Fl->Option Int->Prop
 |here:Chain S k fs tl fs tl
 |more {x:Fl} {q:Int} {k':Int} {gs:Fl} {q':Option Int} (h:Chain S k fs tl x (some q)) (hk:S.κ q=some (.mk k' 0 gs q')):Chain S k fs tl (x++gs) q'
theorem Chain.later {S S':Kn} (hκ:∀v t,S.κ v=some t->S'.κ v=some t) {k:Int} {fs:Fl} {tl:Option Int} {x:Fl} {p:Option Int} (h:Chain S k fs tl x p):Chain S' k fs tl x p:=by
 induction h with
 |here=>exact .here
 |more _ hk ih=>exact .more ih (hκ _ _ hk)
theorem Chain.row (h:S.Inv) (f:S.Fu) {k:Int} {fs:Fl} {tl:Option Int} (h8:k≠8) (pa:jd S (.mk k 0 fs tl)) (fa:qY S.L (.mk k 0 fs tl)) {x:Fl} {p:Option Int} (c:Chain S k fs tl x p):
  (ay x).Nodup/\(∀q∈x,dQ S.L q.2/\jf S.m q.2/\qY S.L q.2)/\(∀q,p=some q->q<S.m/\∃ls,S.L q=some ls/\∀l,l∈ls↔l∈ay x)/\
   ∀τ,S.Sat τ->inst τ (.mk k 0 fs tl)= .mk k 0 (aZ (aI (inst τ) x++(τ.tail p).1)) (τ.tail p).2:=by
 obtain ⟨o,bd⟩:=pa;rw [bK] at o;rw [iJ] at bd;rw [nR] at fa
 induction c with
 |here=>
  refine ⟨o.1.1,fun q hq=>⟨o.2 q hq,bd.2.2 q hq,fa.2 q hq⟩,fun q hq=>?_,fun τ _=>by rw [aK,if_neg h8]⟩;obtain ⟨ls,h1,h2⟩:=o.1.2.2.2.2 q hq
  exact ⟨bd.2.1 q hq,ls,h1,fun l=>⟨fa.1 q ls hq h1 l,h2 l⟩⟩
 |@more x r k' gs q' c hk ih=>
  obtain ⟨i1,i2,i3,i4⟩:=ih;obtain ⟨_,ls,h1,h2⟩:=i3 r rfl;obtain ⟨m1,m2,m3⟩:=dS.more h hk h1 h2 i1 (fun q hq=>⟨(i2 q hq).1,(i2 q hq).2.1⟩) i4;obtain ⟨f1,f2⟩:=f.t r _ ls hk h1;obtain ⟨_,o2,_,b2⟩:=h.dom r _ hk;obtain ⟨_,_,_,r4⟩:=h.row r _ ls hk h1;rw [bK] at o2;rw [iJ] at b2;refine ⟨m1,fun q hq=>⟨(m2 q hq).1,(m2 q hq).2,?_⟩,fun q hq=>?_,m3⟩
  ·rcases JQ.1 hq with hq|hq
   ·exact (i2 q hq).2.2
   ·exact f1 q hq
  ·obtain ⟨ls',k1,k2⟩:=r4 q hq
   obtain ⟨kG,k3,k4⟩:=o2.1.2.2.2.2 q hq;rw [k1] at k3;injection k3 with k3
   subst k3;refine ⟨b2.2.1 q hq,ls',k1,fun l=>?_⟩;rw [dZ,JQ];constructor
   ·intro hl
    rcases f2 q ls' hq k1 l hl with g|g
    ·exact .inl ((h2 l).1 g)
    ·exact .inr g
   ·rintro (g|g)
    ·exact k2 l ((h2 l).2 g)
    ·exact k4 l g
theorem Chain.rowOf (h:S.Inv) (f:S.Fu) {k:Int} {fs:Fl} {tl:Option Int} (h8:k≠8) (pa:jd S (.mk k 0 fs tl)) (fa:qY S.L (.mk k 0 fs tl)) {x:Fl} {p:Option Int} (c:Chain S k fs tl x p) (hp:∀q,p=some q->S.κ q=none):
  dS S (.mk k 0 fs tl) k x p/\∀q∈x,qY S.L q.2:=by
 obtain ⟨a,b,d,e⟩:=c.row h f h8 pa fa;exact ⟨⟨a,fun q hq=>⟨(b q hq).1,(b q hq).2.1⟩,fun q hq=>⟨(d q hq).1,hp q hq,(d q hq).2⟩,e⟩,fun q hq=>(b q hq).2.2⟩
end
def cnt (p:Nat->Bool):Nat->Nat
 |0=>0
 |n+1=>cnt p n+if p n=true then 1 else 0
theorem KX {p q:Nat->Bool}:∀{n:Nat},(∀i,i<n->p i=q i)->cnt p n=cnt q n
 |0,_=>rfl
 |n+1,h=>by simp only [cnt,KX fun i hi=>h i (Nat.lt_succ_of_lt hi),h n (Nat.lt_succ_self n)]
theorem KY {p q:Nat->Bool} {v:Nat} (hv:p v=true) (hq:q v=false) (h:∀i,i≠v->q i=p i):∀{n:Nat},v<n->cnt q n+1=cnt p n
 |n+1,hn=>by
  simp only [cnt];by_cases e:n=v
  ·subst e
   rw [KX (p:=q) (q:=p) fun i hi=>h i (by omega),hv,hq];simp
  ·have:=KY hv hq h (n:=n) (by omega)
   rw [h n e];omega
theorem GU {p:Nat->Bool} {n:Nat}:∀{d:Nat},(∀i,n<=i->i<n+d->p i=true)->cnt p (n+d)=cnt p n+d
 |0,_=>rfl
 |d+1,h=>by
  have:=GU (p:=p) (n:=n) (d:=d) fun i h1 h2=>h i h1 (by omega);rw [show n+(d+1)=(n+d)+1 by omega];simp only [cnt];rw [this,h (n+d) (by omega) (by omega)];simp;omega
def Kn.un (S:Kn):Nat:=cnt (fun i=>(S.κ (i:Int)).isNone) S.m.toNat
mutual
def aJ:Ut->Nat
 | .mk k _ fs _=>(if k=0 then 1 else 0)+bG fs
termination_by t=>SizeOf.sizeOf t
def bG:Fl->Nat
 |[]=>0
 |p::fs=>aJ p.2+bG fs
termination_by fs=>SizeOf.sizeOf fs
decreasing_by all_goals first|(simp;omega)|(obtain ⟨a,b⟩:=p;simp;omega)
end
theorem kE (k n:Int) (fs:Fl) (tl:Option Int):aJ (.mk k n fs tl)=(if k=0 then 1 else 0)+bG fs:=by rw [aJ.eq_def]
theorem lK:bG []=0:=by rw [bG.eq_def]
theorem cB (p:Lb×Ut) (fs:Fl):bG (p::fs)=aJ p.2+bG fs:=by rw [bG.eq_def]
theorem rT:∀a b:Fl,bG (a++b)=bG a+bG b
 |[],b=>by rw [lK];simp
 |p::a,b=>by rw [Gx,cB,cB,rT a b];omega
theorem GV {a b:Fl} (h:a.Sublist b):bG a<=bG b:=by
 induction h with
 |slnil=>exact bN _
 |cons p _ ih=>rw [cB];omega
 |cons_cons p _ ih=>rw [cB,cB];omega
theorem Ey {a b:Fl} (h:a.Perm b):bG a=bG b:=by
 induction h with
 |nil=>rfl
 |cons x _ ih=>rw [cB,cB,ih]
 |swap x y l=>rw [cB,cB,cB,cB];omega
 |trans _ _ h1 h2=>exact h1.trans h2
theorem wQ:∀t,iO t->aJ t=0:=
 Ut.ind fun k n fs tl ih h=>by
  rw [gP] at h;rw [kE,if_neg h.1]
  have:∀gs:Fl,(∀p∈gs,aJ p.2=0)->bG gs=0:=by
   intro gs
   induction gs with
   |nil=>intro _;exact lK
   |cons g gs ih2=>
    intro h;rw [cB,h g (by simp),ih2 fun p hp=>h p (by simp [hp])]
  rw [this fs fun p hp=>ih p hp (h.2 p hp)]
theorem Ez {L:Sorts}:∀{fs:Fl} (_:∀p∈fs,∀m,(dQ L p.2)->(aH m p.2).2=m+(aJ p.2:Nat)) (m:Int),(∀p∈fs,dQ L p.2)->(cK m fs).2=m+(bG fs:Nat)
 |[],_,m,_=>by rw [dw,lK];simp
 |p::fs,h,m,ho=>by
  rw [b_,cB];simp only;rw [Ez (fs:=fs) (fun q hq=>h q (by simp [hq])) _ fun q hq=>ho q (by simp [hq]),h p (by simp) m (ho p (by simp))];omega
theorem nJ {L:Sorts}:∀(t:Ut) (m:Int),dQ L t->(aH m t).2=m+(aJ t:Nat):=
 Ut.ind fun k n fs tl ih m ho=>by
  rw [bK] at ho;rw [fF,kE];by_cases hk:k=0
  ·rw [if_pos hk,if_pos hk,(ho.1.2.1 (.inl hk)).1,lK]
   rfl
  ·rw [if_neg hk,if_neg hk]
   simp only [Nat.zero_add];exact Ez (L:=L) (fun p hp m ho=>ih p hp m ho) m ho.2
def yS:Ut->Prop
 | .mk k n fs tl=>(k=8\/k=0->0<=n)/\(∀p,tl=some p->0<=p)/\∀p∈fs,yS p.2
termination_by t=>SizeOf.sizeOf t
decreasing_by exact Ut.fZ (by assumption)
theorem lS {k n:Int} {fs:Fl} {tl:Option Int}:yS (.mk k n fs tl)↔(k=8\/k=0->0<=n)/\(∀p,tl=some p->0<=p)/\∀p∈fs,yS p.2:=by rw [yS]
theorem Qe {L:Sorts}:∀(t:Ut) (m:Int),0<=m->dQ L t->yS t->yS (aH m t).1:=
 Ut.ind fun k n fs tl ih m hm ho h=>by
  rw [bK] at ho;rw [lS] at h;rw [fF];by_cases hk:k=0
  ·rw [if_pos hk,lS]
   exact ⟨fun _=>hm,(fun p hp=>by cases hp),(fun p hp=>by simp at hp)⟩
  ·rw [if_neg hk,lS]
   refine ⟨h.1,h.2.1,?_⟩
   have key:∀(gs:Fl) (m:Int),0<=m->(∀p∈gs,dQ L p.2/\∀m,0<=m->yS (aH m p.2).1)->∀p∈(cK m gs).1,yS p.2:=by
    intro gs
    induction gs with
    |nil=>intro m _ _ p hp;rw [dw] at hp;simp at hp
    |cons g gs ih2=>
     intro m hm h p hp;rw [b_] at hp;rcases Gz.1 hp with rfl|hp
     ·exact (h g (by simp)).2 m hm
     ·refine ih2 _ ?_ (fun p hp=>h p (by simp [hp])) p hp
      rw [nJ g.2 m (h g (by simp)).1];omega
   exact key fs m hm fun p hp=>⟨ho.2 p hp,fun m hm=>ih p hp m hm (ho.2 p hp) (h.2.2 p hp)⟩
structure Kn.Nn (S:Kn):Prop where
 m:0<=S.m
 d:∀v t,S.κ v=some t->0<=v/\yS t
section
variable {S:Kn}
theorem X_ (h:S.Inv) (hn:S.Nn) {v:Int} {t:Ut} (hv:S.κ v=none) (h0:0<=v) (pW:v<S.m) (ho:dQ S.L t) {S':Kn} (hκ:S'.κ=upd S.κ v (aH S.m t).1) (hm:S'.m=(aH S.m t).2):S'.un+1=S.un+aJ t:=by
 unfold Kn.un;rw [hκ,hm,nJ t S.m ho];have hm0:=hn.m;rw [show (S.m+(aJ t:Nat)).toNat=S.m.toNat+aJ t by omega]
 have h1:cnt (fun i=>(S.κ (i:Int)).isNone) (S.m.toNat+aJ t)=cnt (fun i=>(S.κ (i:Int)).isNone) S.m.toNat+aJ t:=
  GU fun i h1 h2=>by rw [h.free (by omega)];rfl
 have h2:=KY (p:=fun i=>(S.κ (i:Int)).isNone) (q:=fun i=>(upd S.κ v (aH S.m t).1 (i:Int)).isNone) (v:=v.toNat) (by
   show (S.κ ((v.toNat:Nat):Int)).isNone=true;rw [Int.toNat_of_nonneg h0,hv];rfl) (by
   show (upd S.κ v (aH S.m t).1 ((v.toNat:Nat):Int)).isNone=false;rw [Int.toNat_of_nonneg h0,upd_same];rfl) (fun i hi=>by
   show (upd S.κ v (aH S.m t).1 (i:Int)).isNone=(S.κ (i:Int)).isNone;rw [bQ (by omega)]) (n:=S.m.toNat+aJ t) (by omega)
 omega
theorem Zv (h:S.Inv) (hn:S.Nn) {v:Int} {t:Ut} (hv:S.κ v=none) (h0:0<=v) (pW:v<S.m) (ho:dQ S.L t):(S.eF v t).un+1=S.un+aJ t:=X_ h hn hv h0 pW ho rfl rfl
theorem GX (h:S.Inv) (hn:S.Nn) {v:Int} {t:Ut} (hv:S.κ v=none) (h0:0<=v) (pW:v<S.m) (ho:dQ S.L t):(S.aV v t).un+1=S.un+aJ t:=X_ h hn hv h0 pW ho rfl rfl
theorem zV (h:S.Inv) (hn:S.Nn) (ls:List Lb):(S.aQ ls).un=S.un+1:=by
 unfold Kn.un;have hm0:=hn.m;rw [show (S.aQ ls).m.toNat=S.m.toNat+1 by show (S.m+1).toNat=_;omega]
 exact GU fun i h1 h2=>by
  show (S.κ (i:Int)).isNone=true;rw [h.free (by omega)];rfl
theorem Kn.Nn.upd (hn:S.Nn) {v:Int} {t:Ut} (h0:0<=v) (ho:dQ S.L t) (ht:yS t) {S':Kn} (hκ:S'.κ=Proofs.Ytblfeokjlecgkaa.upd S.κ v (aH S.m t).1) (hm:S'.m=(aH S.m t).2):S'.Nn:=by
 have:=hn.m;refine ⟨by rw [hm,nJ t S.m ho];omega,fun u s hu=>?_⟩;rw [hκ] at hu;by_cases e:u=v
 ·subst e
  rw [upd_same] at hu;injection hu with hu
  subst hu;exact ⟨h0,Qe t S.m hn.m ho ht⟩
 ·rw [bQ e] at hu
  exact hn.d u s hu
theorem Kn.Nn.eF (hn:S.Nn) {v:Int} {t:Ut} (h0:0<=v) (ho:dQ S.L t) (ht:yS t):(S.eF v t).Nn:=hn.upd h0 ho ht rfl rfl
theorem Kn.Nn.aV (hn:S.Nn) {v:Int} {t:Ut} (h0:0<=v) (ho:dQ S.L t) (ht:yS t):(S.aV v t).Nn:=hn.upd h0 ho ht rfl rfl
theorem Kn.Nn.aQ (hn:S.Nn) (ls:List Lb):(S.aQ ls).Nn:=⟨by show 0<=S.m+1;have:=hn.m;omega,hn.d⟩
end
def yT (ρ:Int->Int):Ut->Ut
 | .mk k n fs tl=>.mk k (if k=8 then ρ n else n) (fs.map fun p=>(p.1,yT ρ p.2)) (tl.map ρ)
termination_by t=>SizeOf.sizeOf t
decreasing_by exact Ut.fZ (by assumption)
theorem KZ (ρ:Int->Int) (k n:Int) (fs:Fl) (tl:Option Int):yT ρ (.mk k n fs tl)= .mk k (if k=8 then ρ n else n) (aI (yT ρ) fs) (tl.map ρ):=by
 rw [yT];rfl
def pG (L:Sorts) (τ:Va) (n:Int):Int:=match L n with
 |none=>(τ.v n).n
 |some _=>(τ.t n).2.getD 0
theorem fO (f:Ut->Ut) (l:Fl):(aI f l).length=l.length:=by simp [aI]
theorem lX {f:Ut->Ut} {l:Fl} (h:dY l):dY (aI f l):=by
 unfold dY aI;exact List.pairwise_map.2 h
theorem Zw {L L1:Sorts} {τ τ':Va}:∀t,dQ L t->jT t->dQ L1 (inst τ t)->inst τ' (inst τ t)=t->
  inst τ t=yT (pG L τ) t/\∀n,bL n t->pG L1 τ' (pG L τ n)=n:=
 Ut.ind fun k n fs tl ih ho hr ho1 h=>by
  rw [bK] at ho;rw [iI] at hr;by_cases h8:k=8
  ·obtain ⟨e1,e2⟩:=ho.1.2.1 (.inr h8)
   have hl:=ho.1.2.2.1 h8;subst e1 e2 h8;rw [aK,if_pos rfl] at ho1 h ⊢;have hv:pG L τ n=(τ.v n).n:=by unfold pG;rw [hl]
   rw [KZ,if_pos rfl,hv]
   cases hV:τ.v n with
   |mk k' n' fs' tl'=>
    rw [hV] at ho1 h;rw [bK] at ho1;by_cases h8:k'=8
    ·obtain ⟨e1,e2⟩:=ho1.1.2.1 (.inr h8)
     have hl1:=ho1.1.2.2.1 h8;subst e1 e2 h8;refine ⟨rfl,fun m hm=>?_⟩;rw [nD] at hm;rcases hm with ⟨_,e⟩|e|⟨p,hp,_⟩
     ·subst e
      rw [hv,hV];show pG L1 τ' n'=n;unfold pG;rw [hl1];rw [aK,if_pos rfl] at h;simp only;rw [h];rfl
     ·cases e
     ·simp at hp
    ·rw [aK,if_neg h8] at h
     injection h with h
     exact absurd h h8
  ·rw [aK,if_neg h8] at ho1 h ⊢
   rw [aK,if_neg h8] at h;injection h with _ _ hfs htl
   have hlen:=congrArg List.length hfs;rw [kK,A_,fO,kK,A_,fO] at hlen;have e1:(τ.tail tl).1=[]:=kZ (by omega);have e2:(τ'.tail (τ.tail tl).2).1=[]:=kZ (by omega);rw [e1,ER,dh (lX hr.1)] at hfs ho1 ⊢;rw [e2,ER,dh (lX (lX hr.1)),wM] at hfs;rw [bK] at ho1
   have hch:∀p∈fs,inst τ' (inst τ p.2)=p.2:=by
    have:∀gs:Fl,aI (fun t=>inst τ' (inst τ t)) gs=gs->∀p∈gs,inst τ' (inst τ p.2)=p.2:=by
     intro gs
     induction gs with
     |nil=>intro _ p hp;simp at hp
     |cons g gs ih2=>
      intro h p hp;rw [eU] at h;injection h with h1 h2
      rcases Gz.1 hp with rfl|hp
      ·exact congrArg Prod.snd h1
      ·exact ih2 h2 p hp
    exact this fs hfs
   have hih:=fun p hp=>ih p hp (ho.2 p hp) (hr.2 p hp) (ho1.2 (p.1,inst τ p.2) (aaN.2 ⟨p,hp,rfl⟩)) (hch p hp)
   have etl:(τ.tail tl).2=tl.map (pG L τ)/\∀p,tl=some p->pG L1 τ' (pG L τ p)=p:=by
    cases tl with
    |none=>exact ⟨rfl,fun p hp=>by cases hp⟩
    |some p=>
     obtain ⟨ls,hls,_⟩:=ho.1.2.2.2.2 p rfl;have hp:pG L τ p=(τ.t p).2.getD 0:=by unfold pG;rw [hls]
     cases hq:(τ.t p).2 with
     |none=>
      have:(τ'.tail (τ.t p).2).2=some p:=htl;rw [hq] at this
      simp [Va.tail] at this
     |some q=>
      rw [hq] at hp;have hq1:(τ.tail (some p)).2=some q:=hq;obtain ⟨SK,aju,_⟩:=ho1.1.2.2.2.2 q hq1;refine ⟨by rw [hq1];simp [hp],fun p' hp'=>?_⟩;injection hp' with hp'
      subst hp';rw [hp];show pG L1 τ' q=p;unfold pG;rw [aju];have:(τ'.tail (τ.t p).2).2=some p:=htl;rw [hq] at this;have:(τ'.t q).2=some p:=this;simp only;rw [this];rfl
   refine ⟨?_,fun m hm=>?_⟩
   ·rw [KZ,if_neg h8,etl.1]
    congr 1
    exact qK fun p hp=>(hih p hp).1
   ·rw [nD] at hm
    rcases hm with ⟨e,_⟩|e|⟨p,hp,ho⟩
    ·exact absurd e h8
    ·exact etl.2 m e
    ·exact (hih p hp).2 m ho
structure Most (m0:Int) (S:Kn) (C:Va->Prop):Prop where
 inv:S.Inv
 m:m0<=S.m
 sort:∀x,x<m0->S.L x=none
 co:∀τ,S.Sat τ->C τ
 gen:∀τ:Va,(∀n,iO (τ.v n)/\jT (τ.v n))->C τ->∃τ',S.Sat τ'/\∀x,x<m0->τ.v x=τ'.v x
def Va.only (m0:Int) (τ:Va):Va:=⟨fun n=>if n<m0 then τ.v n else aS n,Va.id.t⟩
theorem variants {m0:Int} {S S':Kn} {C:Va->Prop} (h:Most m0 S C) (h':Most m0 S' C) (hC:∀τ τ',(∀x,x<m0->τ.v x=τ'.v x)->C τ->C τ'):
  ∃ρ g:Int->Int,∀x,x<m0->S'.σ.v x=yT ρ (S.σ.v x)/\∀n,bL n (S.σ.v x)->g (ρ n)=n:=by
 have one:∀{S S':Kn},Most m0 S C->Most m0 S' C->∃τ,S.Sat τ/\∀x,x<m0->S'.σ.v x=inst τ (S.σ.v x):=by
  intro S S' h h';have hc:C S'.σ:=h'.co _ h'.inv.sat
  obtain ⟨τ,hτ,e⟩:=h.gen (S'.σ.only m0) (fun n=>by
   show iO (if n<m0 then _ else _)/\jT (if n<m0 then _ else _);by_cases hx:n<m0
   ·rw [if_pos hx]
    exact h'.inv.wf.ok.v n (h'.sort n hx)
   ·rw [if_neg hx]
    exact ⟨uO n,Fv n⟩) (hC S'.σ _ (fun x hx=>by
   show _=if x<m0 then _ else _
   rw [if_pos hx]) hc)
  refine ⟨τ,hτ,fun x hx=>?_⟩;have h1:=h.inv.gen τ hτ.1 hτ.2 (aS x) (pV (h.sort x hx));rw [aW,aW] at h1;rw [h1,<-e x hx];show _=if x<m0 then _ else _
  rw [if_pos hx]
 obtain ⟨τ,hτ,e⟩:=one h h';obtain ⟨τ',hτ',e'⟩:=one h' h;refine ⟨pG S.L τ,pG S'.L τ',fun x hx=>?_⟩;have ho:=h.inv.wf.v x (h.sort x hx);have hr:=(h.inv.wf.ok.v x (h.sort x hx)).2;have ho':=h'.inv.wf.v x (h'.sort x hx);rw [e x hx] at ho';obtain ⟨r1,r2⟩:=Zw (L:=S.L) (L1:=S'.L) (τ:=τ) (τ':=τ') _ ho hr ho' (by rw [<-e x hx,<-e' x hx]);exact ⟨by rw [e x hx,r1],r2⟩
def kS (ρ:Int->Int) (x:Nd):Nd:=if bZ x.k=true then ⟨x.k,x.s,ρ x.n⟩ else x
section
variable {ρ g:Int->Int}
theorem Oq {n:Int} (hn:g (ρ n)=n):∀{l:List Int},(∀m∈l,g (ρ m)=m)->pU (ρ n) (l.map ρ)=pU n l
 |[],_=>rfl
 |m::l,h=>by
  rw [Bn];unfold pU;rw [Oq hn fun m hm=>h m (by simp [hm])];by_cases e:m=n
  ·rw [if_pos e,if_pos (by rw [e])]
  ·rw [if_neg e,if_neg]
   intro e2;apply e;rw [<-h m (by simp),e2,hn]
theorem abP {n:Int} (hn:g (ρ n)=n) {l:List Int} (h:∀m∈l,g (ρ m)=m):ρ n∈l.map ρ↔n∈l:=by
 rw [aaN];constructor
 ·rintro ⟨m,hm,e⟩
  have:m=n:=by rw [<-h m hm,e,hn]
  rwa [<-this]
 ·exact fun hm=>⟨n,hm,rfl⟩
theorem abQ (had:List Int) (x:Nd) (h:∀m∈had,g (ρ m)=m) (hx:bZ x.k=true->g (ρ x.n)=x.n):
  uY (had.map ρ) (kS ρ x)=uY had x/\seen (had.map ρ) (kS ρ x)=(seen had x).map ρ/\∀m∈seen had x,g (ρ m)=m:=by
 cases hv:bZ x.k
 ·have e:kS ρ x=x:=by unfold kS;rw [if_neg (by simp [hv])]
  rw [e];unfold uY seen;simp only [hv];exact ⟨rfl,rfl,h⟩
 ·have hx:=hx hv
  have e:kS ρ x=⟨x.k,x.s,ρ x.n⟩:=by unfold kS;rw [if_pos hv]
  have hs:seen (had.map ρ) (kS ρ x)=(seen had x).map ρ:=by
   rw [e];unfold seen;simp only [hv,abP hx h,true_and];split<;>simp
  have hin:∀m∈seen had x,g (ρ m)=m:=by
   intro m hm;unfold seen at hm;split at hm
   ·rcases JQ.1 hm with hm|hm
    ·exact h m hm
    ·simp at hm;subst hm;exact hx
   ·exact h m hm
  refine ⟨?_,hs,hin⟩;unfold uY;rw [hs];rw [e];simp only [hv,if_true,Oq hx hin]
theorem Ot:∀(had:List Int) (xs:List Nd),(∀m∈had,g (ρ m)=m)->(∀x∈xs,bZ x.k=true->g (ρ x.n)=x.n)->
  uN (had.map ρ) (xs.map (kS ρ))=uN had xs/\iX (had.map ρ) (xs.map (kS ρ))=(iX had xs).map ρ/\∀m∈iX had xs,g (ρ m)=m
 |had,[],h,_=>⟨rfl,rfl,h⟩
 |had,x::xs,h,hx=>by
  obtain ⟨h1,h2,h3⟩:=abQ had x h (hx x (by simp));obtain ⟨k1,k2,k3⟩:=Ot (seen had x) xs h3 fun y hy=>hx y (by simp [hy]);refine ⟨by simp only [Bn,uN,h1,h2,k1],by simp only [Bn,iX,h2,k2],k3⟩
theorem Ou:∀(had:List Int) (l:List (List Nd)),(∀m∈had,g (ρ m)=m)->(∀xs∈l,∀x∈xs,bZ x.k=true->g (ρ x.n)=x.n)->lq (had.map ρ) (l.map (List.map (kS ρ)))=lq had l
 |had,[],_,_=>rfl
 |had,t::l,h,hx=>by
  obtain ⟨h1,h2,h3⟩:=Ot had t h (hx t (by simp));simp only [Bn,lq,h1,h2,Ou (iX had t) l h3 fun xs hxs=>hx xs (by simp [hxs])]
end
def lA:Lb:=⟨#[48]⟩
def lB:Lb:=⟨#[49]⟩
def zW (k:Int) (fs:Fl) (tl:Option Int):Prop:=
 0<=k/\k<=8/\(k=5->(∃a b,fs=[(lA,a),(lB,b)])/\tl=none)/\(k≠5->av k=false->fs=[]/\tl=none)
def j_:Ut->Prop
 | .mk k _ fs tl=>zW k fs tl/\∀p∈fs,j_ p.2
termination_by t=>SizeOf.sizeOf t
decreasing_by exact Ut.fZ (by assumption)
theorem iV {k n:Int} {fs:Fl} {tl:Option Int}:j_ (.mk k n fs tl)↔zW k fs tl/\∀p∈fs,j_ p.2:=by rw [j_]
structure Va.Sh (L:Sorts) (σ:Va):Prop where
 v:∀n,L n=none->j_ (σ.v n)
 t:∀p ls,L p=some ls->∀q∈(σ.t p).1,j_ q.2
theorem abR:dz lB lA=false:=by decide+kernel
theorem BQ {L:Sorts} {σ:Va} (h:σ.Sh L):∀t,dQ L t->j_ t->j_ (inst σ t):=
 Ut.ind fun k n fs tl ih ho hs=>by
  rw [bK] at ho;rw [iV] at hs;rw [aK];split
  ·next hk=>exact h.v n (ho.1.2.2.1 hk)
  ·rw [iV]
   refine ⟨⟨hs.1.1,hs.1.2.1,fun h5=>?_,fun h5 hr=>?_⟩,fun p hp=>?_⟩
   ·obtain ⟨⟨a,b,e⟩,e2⟩:=hs.1.2.2.1 h5
    subst e e2;refine ⟨⟨inst σ a,inst σ b,?_⟩,rfl⟩;show aZ [(lA,inst σ a),(lB,inst σ b)]=_;show gX _ (gX _ [])=_;show gX (lA,inst σ a) [(lB,inst σ b)]=_;rw [jC abR]
   ·obtain ⟨e,e2⟩:=hs.1.2.2.2 h5 hr
    subst e e2;exact ⟨rfl,rfl⟩
   ·rw [dX] at hp
    rcases JQ.1 hp with hp|hp
    ·obtain ⟨q,hq,rfl⟩:=aaN.1 hp
     exact ih q hq (ho.2 q hq) (hs.2 q hq)
    ·cases tl with
     |none=>simp [Va.tail] at hp
     |some r=>
      obtain ⟨ls,hls,_⟩:=ho.1.2.2.2.2 r rfl;exact h.t r ls hls p hp
theorem BR (v:Int):j_ (aS v):=by
 unfold aS;rw [iV];exact ⟨⟨by decide,by decide,(fun h=>absurd h (by decide)),fun _ _=>⟨rfl,rfl⟩⟩,(fun p hp=>by simp at hp)⟩
theorem SN {L:Sorts} {τ σ:Va} (hτ:τ.Sh L) (hσ:σ.Sh L) (hw:σ.Wf L):(τ.comp σ).Sh L:=by
 refine ⟨fun n hn=>BQ hτ _ (hw.v n hn) (hσ.v n hn),fun p ls hp q hq=>?_⟩;obtain ⟨w1,w2⟩:=hw.t p ls hp;have hq:q∈aZ (aI (inst τ) (σ.t p).1++(τ.tail (σ.t p).2).1):=hq;rw [dX] at hq;rcases JQ.1 hq with hq|hq
 ·obtain ⟨r,hr,rfl⟩:=aaN.1 hq
  exact BQ hτ _ (w1 r hr) (hσ.t p ls hp r hr)
 ·cases hq2:(σ.t p).2 with
  |none=>rw [hq2] at hq;simp [Va.tail] at hq
  |some s=>
   rw [hq2] at hq;obtain ⟨ls',k1,_⟩:=w2 s hq2;exact hτ.t s ls' k1 q hq
theorem Dk:∀(t:Ut) (m:Int),j_ t->j_ (aH m t).1:=
 Ut.ind fun k n fs tl ih m hs=>by
  rw [iV] at hs;rw [fF];by_cases hk:k=0
  ·rw [if_pos hk]
   exact BR m
  ·rw [if_neg hk,iV]
   refine ⟨⟨hs.1.1,hs.1.2.1,fun h5=>?_,fun h5 hr=>?_⟩,?_⟩
   ·obtain ⟨⟨a,b,e⟩,e2⟩:=hs.1.2.2.1 h5
    subst e e2;refine ⟨?_,rfl⟩;rw [b_,b_,dw];exact ⟨_,_,rfl⟩
   ·obtain ⟨e,e2⟩:=hs.1.2.2.2 h5 hr
    subst e e2;rw [dw];exact ⟨rfl,rfl⟩
   ·have key:∀(gs:Fl) (m:Int),(∀p∈gs,∀m,j_ (aH m p.2).1)->∀p∈(cK m gs).1,j_ p.2:=by
     intro gs
     induction gs with
     |nil=>intro m _ p hp;rw [dw] at hp;simp at hp
     |cons g gs ih2=>
      intro m h p hp;rw [b_] at hp;rcases Gz.1 hp with rfl|hp
      ·exact h g (by simp) m
      ·exact ih2 _ (fun p hp=>h p (by simp [hp])) p hp
    exact key fs m fun p hp m=>ih p hp m (hs.2 p hp)
structure Kn.Sh (S:Kn):Prop where
 d:∀v t,S.κ v=some t->j_ t
 σ:S.σ.Sh S.L
theorem ag_ (L:Sorts):Va.id.Sh L:=⟨fun n _=>BR n,fun p ls _ q hq=>by simp [Va.id] at hq⟩
section
variable {S:Kn}
theorem Kn.Sh.eF (h:S.Sh) (i:S.Inv) {v:Int} {t:Ut} (ho:dQ S.L t) (hb:jf S.m t) (ht:j_ t):(S.eF v t).Sh:=by
 obtain ⟨_,ho',_,_⟩:=jX t S.m ⟨ho,hb,i.new⟩;refine ⟨fun u s hu=>?_,SN ⟨fun n hn=>?_,fun p ls _ q hq=>by simp [Va.iL,Va.id] at hq⟩ h.σ i.wf⟩
 ·have hu:upd S.κ v (aH S.m t).1 u=some s:=hu
  by_cases e:u=v
  ·subst e
   rw [upd_same] at hu;injection hu with hu
   subst hu;exact Dk t S.m ht
  ·rw [bQ e] at hu
   exact h.d u s hu
 ·show j_ (if n=v then _ else aS n)
  split
  ·exact BQ h.σ _ ho' (Dk t S.m ht)
  ·exact BR n
theorem Kn.Sh.aQ (h:S.Sh) (i:S.Inv) (ls:List Lb):(S.aQ ls).Sh:=by
 refine ⟨h.d,fun n hn=>h.σ.v n ?_,fun p ls' hp q hq=>?_⟩
 ·have hn:(if n=S.m then some ls else S.L n)=none:=hn
  split at hn
  ·cases hn
  ·exact hn
 ·by_cases e:p=S.m
  ·have hq:q∈(S.σ.t p).1:=hq
   rw [e,(i.unk S.m (i.free (Int.le_refl _))).2] at hq;simp at hq
  ·have hp:(if p=S.m then some ls else S.L p)=some ls':=hp
   rw [if_neg e] at hp;exact h.σ.t p ls' hp q hq
theorem Kn.Sh.aV (h:S.Sh) (i:S.Inv) {p:Int} {ls:List Lb} {t:Ut} (r:iK S p ls t) (ht:j_ t):(S.aV p t).Sh:=by
 obtain ⟨_,ho',_,_⟩:=jX t S.m ⟨r.ok,r.bd,i.new⟩;have hs:=BQ h.σ _ ho' (Dk t S.m ht);refine ⟨fun u s hu=>?_,SN ⟨fun n _=>BR n,fun q ls' _ x hx=>?_⟩ h.σ i.wf⟩
 ·have hu:upd S.κ p (aH S.m t).1 u=some s:=hu
  by_cases e:u=p
  ·subst e
   rw [upd_same] at hu;injection hu with hu
   subst hu;exact Dk t S.m ht
  ·rw [bQ e] at hu
   exact h.d u s hu
 ·have hx:x∈(if q=p then ((inst S.σ (aH S.m t).1).fs,(inst S.σ (aH S.m t).1).tl) else ([],some q)).1:=hx
  split at hx
  ·have key:∀X,j_ X->∀x∈X.fs,j_ x.2:=fun X h x hx=>by
    obtain ⟨k,n,fs,tl⟩:=X;rw [iV] at h;exact h.2 x hx
   exact key _ hs x hx
  ·simp at hx
end
def aP:Option Int->List Nd
 |none=>[]
 |some p=>[⟨9,pR,p⟩]
mutual
def aB (s:Lb):Ut->List Nd
 | .mk k n fs tl=>if av k=true then ⟨k,s,(fs.length+(aP tl).length:Nat)⟩::(jv fs++aP tl) else ⟨k,s,n⟩::nV fs
termination_by t=>SizeOf.sizeOf t
def jv:Fl->List Nd
 |[]=>[]
 |p::fs=>aB p.1 p.2++jv fs
termination_by fs=>SizeOf.sizeOf fs
decreasing_by all_goals first|(simp;omega)|(obtain ⟨a,b⟩:=p;simp;omega)
def nV:Fl->List Nd
 |[]=>[]
 |p::fs=>aB pR p.2++nV fs
termination_by fs=>SizeOf.sizeOf fs
decreasing_by all_goals first|(simp;omega)|(obtain ⟨a,b⟩:=p;simp;omega)
end
theorem bY (s:Lb) (k n:Int) (fs:Fl) (tl:Option Int):aB s (.mk k n fs tl)=if av k=true then ⟨k,s,(fs.length+(aP tl).length:Nat)⟩::(jv fs++aP tl) else ⟨k,s,n⟩::nV fs:=by rw [aB.eq_def]
theorem lT:jv []=[]:=by rw [jv.eq_def]
theorem fq (p:Lb×Ut) (fs:Fl):jv (p::fs)=aB p.1 p.2++jv fs:=by rw [jv.eq_def]
theorem gH:nV []=[]:=by rw [nV.eq_def]
theorem gT (p:Lb×Ut) (fs:Fl):nV (p::fs)=aB pR p.2++nV fs:=by rw [nV.eq_def]
theorem abS (ρ:Int->Int):∀(t:Ut),(∀L,dQ L t->j_ t->∀s,aB s (yT ρ t)=(aB s t).map (kS ρ)):=
 Ut.ind fun k n fs tl ih L ho hs s=>by
  rw [bK] at ho;rw [iV] at hs
  have hF:jv (aI (yT ρ) fs)=(jv fs).map (kS ρ):=by
   have:∀gs:Fl,(∀p∈gs,∀s,aB s (yT ρ p.2)=(aB s p.2).map (kS ρ))->jv (aI (yT ρ) gs)=(jv gs).map (kS ρ):=by
    intro gs
    induction gs with
    |nil=>intro _;show jv []=_;rw [lT];rfl
    |cons p gs ih2=>
     intro h;rw [eU,fq,fq,abl,ih2 fun q hq=>h q (by simp [hq]),h p (by simp)]
   exact this fs fun p hp=>ih p hp L (ho.2 p hp) (hs.2 p hp)
  have hE:nV (aI (yT ρ) fs)=(nV fs).map (kS ρ):=by
   have:∀gs:Fl,(∀p∈gs,∀s,aB s (yT ρ p.2)=(aB s p.2).map (kS ρ))->nV (aI (yT ρ) gs)=(nV gs).map (kS ρ):=by
    intro gs
    induction gs with
    |nil=>intro _;show nV []=_;rw [gH];rfl
    |cons p gs ih2=>
     intro h;rw [eU,gT,gT,abl,ih2 fun q hq=>h q (by simp [hq]),h p (by simp)]
   exact this fs fun p hp=>ih p hp L (ho.2 p hp) (hs.2 p hp)
  rw [KZ,bY,bY];by_cases hr:av k=true
  ·rw [if_pos hr,if_pos hr,Bn,abl,hF,fO]
   have hv:bZ k=false:=by
    unfold av at hr;unfold bZ;simp only [Bool.or_eq_true,beq_iff_eq] at hr;rcases hr with rfl|rfl<;>decide
   have e1:∀m:Int,kS ρ ⟨k,s,m⟩=⟨k,s,m⟩:=fun m=>by unfold kS;rw [if_neg (by simp [hv])]
   rw [e1]
   have e2:aP (tl.map ρ)=(aP tl).map (kS ρ):=by
    cases tl with
    |none=>rfl
    |some p=>rfl
   rw [e2,List.length_map]
  ·rw [if_neg hr,if_neg hr,Bn,hE]
   congr 1
   unfold kS bZ;by_cases h8:k=8
   ·subst h8
    rfl
   ·have h0:=ho.1.2.2.2.1 h8
    rw [if_neg h8];have h9:k≠9:=by have:=hs.1.2.1;omega
    rw [if_neg (by simp [h8,h9])]
def Kn.Rk (S:Kn):Prop:=
 ∃r:Int->Nat,(∀v,S.κ v=none->r v=0)/\∀v t,S.κ v=some t->0<r v/\(t.k=8->r t.n<r v)/\∀ls q,S.L v=some ls->t.tl=some q->r q<r v
theorem Kn.Rk.start {S:Kn} (h:∀v,S.κ v=none):S.Rk:=⟨fun _=>0,fun _ _=>rfl,fun v t e=>by rw [h v] at e;cases e⟩
theorem Kn.Rk.like {S S':Kn} (h:S.Rk) (hκ:S'.κ=S.κ) (hL:∀u t,S.κ u=some t->S'.L u=S.L u):S'.Rk:=by
 obtain ⟨r,h1,h2⟩:=h;refine ⟨r,fun v hv=>h1 v (by rw [<-hκ];exact hv),fun v t hv=>?_⟩;rw [hκ] at hv;rw [hL v t hv];exact h2 v t hv
theorem Kn.Rk.put {S S':Kn} (h:S.Rk) {v:Int} {t:Ut} (hv:S.κ v=none) (hκ:S'.κ=upd S.κ v t) (hL:∀u s,S.κ u=some s->S'.L u=S.L u)
  (h8:t.k=8->S.κ t.n=none/\t.n≠v) (ht:∀ls q,S'.L v=some ls->t.tl=some q->S.κ q=none/\q≠v):S'.Rk:=by
 obtain ⟨r,h1,h2⟩:=h
 have hz:∀u,S.κ u=none->u≠v->(if S'.κ u=none then 0 else if u=v then 1 else r u+1)=0:=fun u hu hne=>by
  rw [hκ,bQ hne,if_pos hu]
 have hle:∀u,(if S'.κ u=none then 0 else if u=v then 1 else r u+1)<=r u+1:=fun u=>by
  split
  ·omega
  ·split<;>omega
 refine ⟨fun u=>if S'.κ u=none then 0 else if u=v then 1 else r u+1,fun u hu=>if_pos hu,fun u s hu=>?_⟩;have hne:¬S'.κ u=none:=by rw [hu];simp
 simp only;rw [if_neg hne];by_cases e:u=v
 ·subst e
  rw [hκ,upd_same] at hu;injection hu with hu
  subst hu;rw [if_pos rfl];refine ⟨by omega,fun h=>?_,fun ls q hls hq=>?_⟩
  ·obtain ⟨a,b⟩:=h8 h
   rw [hz _ a b];omega
  ·obtain ⟨a,b⟩:=ht ls q hls hq
   rw [hz _ a b];omega
 ·rw [hκ,bQ e] at hu
  rw [if_neg e];obtain ⟨a,b,c⟩:=h2 u s hu;refine ⟨by omega,fun h=>?_,fun ls q hls hq=>?_⟩
  ·have:=hle s.n
   have:=b h;omega
  ·rw [hL u s hu] at hls
   have:=hle q;have:=c ls q hls hq;omega
inductive Looks (S:Kn):Ut->Ut->Prop
 |here (t:Ut) (h:t.k=8->S.κ t.n=none):Looks S t t
 |more (t s u:Ut) (h8:t.k=8) (hk:S.κ t.n=some s) (h:Looks S s u):Looks S t u
theorem Looks.end_ {S:Kn} {t u:Ut} (h:Looks S t u):u.k=8->S.κ u.n=none:=by
 induction h with
 |here t h=>exact h
 |more _ _ _ _ _ _ ih=>exact ih
theorem qL {S:Kn} (h:S.Rk):∀t,∃u,Looks S t u:=by
 obtain ⟨r,h1,h2⟩:=h
 have key:∀(n:Nat) (t:Ut),r t.n<=n->∃u,Looks S t u:=by
  intro n
  induction n with
  |zero=>
   intro t ht
   cases hk:S.κ t.n with
   |none=>exact ⟨t,.here t fun _=>hk⟩
   |some s=>have:=(h2 _ _ hk).1;omega
  |succ n ih=>
   intro t ht;by_cases h8:t.k=8
   ·cases hk:S.κ t.n with
    |none=>exact ⟨t,.here t fun _=>hk⟩
    |some s=>
     by_cases hs:s.k=8
     ·obtain ⟨u,hu⟩:=ih s (by have:=(h2 _ _ hk).2.1 hs;omega)
      exact ⟨u,.more t s u h8 hk hu⟩
     ·exact ⟨s,.more t s s h8 hk (.here s fun e=>absurd e hs)⟩
   ·exact ⟨t,.here t fun e=>absurd e h8⟩
 exact fun t=>key _ t (bN _)
def Kn.up (S:Kn) (m:Int):Kn:=⟨S.κ,S.L,S.σ,m⟩
theorem Kn.Inv.up {S:Kn} (h:S.Inv) {m:Int} (hm:S.m<=m):(S.up m).Inv:=
 ⟨fun v t hv=>⟨Int.lt_of_lt_of_le (h.dom v t hv).1 hm,(h.dom v t hv).2.1,(h.dom v t hv).2.2.1,gQ hm _ (h.dom v t hv).2.2.2⟩,h.row,fun x hx=>h.new x (Int.le_trans hm hx),h.wf,h.model,h.unk,h.BK hm,h.gen⟩
def pY (U:List Lb):Ut->Prop
 | .mk k _ fs _=>(∀l∈ay fs,l∈U/\(av k=true->bV k l=true))/\∀p∈fs,pY U p.2
termination_by t=>SizeOf.sizeOf t
decreasing_by exact Ut.fZ (by assumption)
theorem gI {U:List Lb} {k n:Int} {fs:Fl} {tl:Option Int}:pY U (.mk k n fs tl)↔(∀l∈ay fs,l∈U/\(av k=true->bV k l=true))/\∀p∈fs,pY U p.2:=by
 rw [pY]
theorem BS {k k':Int} {l:Lb} (h:bV k l=true) (h':bV k' l=true):k=k':=by
 have key:¬(wC l=true/\Bp l=true):=by
  unfold wC Bp;rintro ⟨h1,h2⟩
  cases e:l.data.toList with
  |nil=>rw [e] at h1;cases h1
  |cons c cs=>
   rw [e] at h1 h2;simp only [Ep,Bool.and_eq_true,zF,zG,decide_eq_true_eq] at h1 h2;omega
 unfold bV at h h'
 (repeat' split at h)<;>(repeat' split at h')<;>first|omega|(exfalso;first|exact absurd h (by decide)|exact absurd h' (by decide)|exact key ⟨h,h'⟩|exact key ⟨h',h⟩)
theorem GY {fs:Fl} {q:Lb×Ut}:∀{m:Int},q∈(cK m fs).1->∃p∈fs,∃m',q=(p.1,(aH m' p.2).1):=by
 induction fs with
 |nil=>intro m h;rw [dw] at h;simp at h
 |cons p fs ih=>
  intro m h;rw [b_] at h;rcases Gz.1 h with e|h
  ·exact ⟨p,by simp,m,e⟩
  ·obtain ⟨p',h1,m',h2⟩:=ih h
   exact ⟨p',by simp [h1],m',h2⟩
theorem Fy {U:List Lb}:∀(t:Ut) (m:Int),pY U t->pY U (aH m t).1:=
 Ut.ind fun k n fs tl ih m h=>by
  rw [gI] at h;rw [fF];split
  ·rw [gI]
   exact ⟨fun l hl=>by simp [ay] at hl,fun p hp=>by simp at hp⟩
  ·show pY U (.mk k n (cK m fs).1 tl)
   rw [gI,jg];refine ⟨h.1,fun q hq=>?_⟩;obtain ⟨p,hp,m',rfl⟩:=GY hq;exact ih p hp m' (h.2 p hp)
theorem Ov (U:List Lb) (v:Int):pY U (aS v):=by
 unfold aS;rw [gI];exact ⟨fun l hl=>by simp [ay] at hl,fun p hp=>by simp at hp⟩
structure TG (U:List Lb) (S:Kn) (t:Ut):Prop where
 pend:jd S t
 fu:qY S.L t
 sh:j_ t
 nn:yS t
 lb:pY U t
structure KG (U:List Lb) (S:Kn):Prop where
 inv:S.Inv
 rk:S.Rk
 fu:S.Fu
 nn:S.Nn
 sh:S.Sh
 lb:∀v t,S.κ v=some t->pY U t/\∀ls,S.L v=some ls->∀l∈ls,bV t.k l=true
 ne:∀p ls,S.L p=some ls->ls≠[]
section
variable {U:List Lb} {S S':Kn} {t:Ut}
theorem TG.later (h:TG U S t) (l:S.Le S'):TG U S' t:=⟨h.pend.mono l,GR l.L t h.pend.2 h.fu,h.sh,h.nn,h.lb⟩
theorem KG.up (h:KG U S) {m:Int} (hm:S.m<=m):KG U (S.up m):=
 ⟨h.inv.up hm,h.rk.like rfl fun _ _ _=>rfl,⟨h.fu.v,h.fu.t⟩,⟨Int.le_trans h.nn.m hm,h.nn.d⟩,⟨h.sh.d,h.sh.σ⟩,h.lb,h.ne⟩
theorem TG.child {k n:Int} {fs:Fl} {tl:Option Int} (h:TG U S (.mk k n fs tl)) {p:Lb×Ut} (hp:p∈fs):TG U S p.2:=by
 obtain ⟨⟨h1,h2⟩,h3,h4,h5,h6⟩:=h;rw [bK] at h1;rw [iJ] at h2;rw [nR] at h3;rw [iV] at h4;rw [lS] at h5;rw [gI] at h6;exact ⟨⟨h1.2 p hp,h2.2.2 p hp⟩,h3.2 p hp,h4.2 p hp,h5.2.2 p hp,h6.2 p hp⟩
theorem KG.known (h:KG U S) {v:Int} (hl:S.L v=none) (hk:S.κ v=some t):TG U S t:=by
 obtain ⟨_,h1,_,h2⟩:=h.inv.dom v t hk;exact ⟨⟨h1,h2⟩,h.fu.v v t hk hl,h.sh.d v t hk,(h.nn.d v t hk).2,(h.lb v t hk).1⟩
theorem KG.var (_h:KG U S) {v:Int} (hl:S.L v=none) (h0:0<=v) (hm:v<S.m):TG U S (aS v):=by
 refine ⟨⟨pV hl,yP hm⟩,?_,BR v,?_,Ov U v⟩
 ·unfold aS
  rw [nR];exact ⟨(fun q ls hq=>by cases hq),(fun p hp=>by simp at hp)⟩
 ·unfold aS
  rw [lS];exact ⟨fun _=>h0,(fun p hp=>by cases hp),(fun p hp=>by simp at hp)⟩
theorem jK {L:Sorts} {k n:Int} {fs:Fl} {tl:Option Int} (h:dQ L (.mk k n fs tl)) (hk:k=8):Ut.mk k n fs tl=aS n/\L n=none:=by
 rw [bK] at h;obtain ⟨e1,e2⟩:=h.1.2.1 (.inr hk);subst e1 e2 hk;exact ⟨rfl,h.1.2.2.1 rfl⟩
theorem rU {L:Sorts} {k n:Int} {fs:Fl} {tl:Option Int} (h:dQ L (.mk k n fs tl)) (hk:k≠8) (h0:k≠0):n=0:=by
 rw [bK] at h;exact h.1.2.2.2.1 hk h0
theorem Looks.good {u:Ut} (hl:Looks S t u) (h:KG U S) (g:TG U S t):TG U S u/\wP S t u/\inst S.σ t=inst S.σ u:=by
 induction hl with
 |here t _=>exact ⟨g,wP.refl S t,rfl⟩
 |more t s u h8 hk _ ih=>
  obtain ⟨k,n,fs,tl⟩:=t;obtain ⟨e,hln⟩:=jK g.pend.1 h8;rw [e] at g ⊢;have hk:S.κ n=some s:=hk;obtain ⟨i1,i2,i3⟩:=ih (h.known hln hk);refine ⟨i1,(VZ hln hk).trans i2,?_⟩;rw [aW,(h.inv.model n s hk).1 hln,i3]
theorem Looks.dyn {u:Ut} (hl:Looks S t u) (h:KG U S) (g:TG U S t):aJ u<=aJ t:=by
 cases hl with
 |here=>exact bN _
 |more _ s _ h8 hk hl=>
  obtain ⟨k,n,fs,tl⟩:=t;obtain ⟨e,hln⟩:=jK g.pend.1 h8
  have:∀x y,Looks S x y->iO x->TG U S x->iO y:=by
   intro x y hxy
   induction hxy with
   |here=>exact fun a _=>a
   |more t s u h8 hk _ ih=>
    intro _ gt;obtain ⟨k,n,fs,tl⟩:=t;obtain ⟨e,hln⟩:=jK gt.pend.1 h8;have hk:S.κ n=some s:=hk;exact ih (h.inv.dom n s hk).2.2.1 (h.known hln hk)
  have hk:S.κ n=some s:=hk;rw [wQ u (this s u hl (h.inv.dom n s hk).2.2.1 (h.known hln hk))];exact Nat.zero_le _
end
structure dK (U:List Lb) (S:Kn) (t:Ut) (x:Fl) (p:Option Int):Prop where
 of:dS S t t.k x p
 ri:dY x
 el:∀c∈x,TG U S c.2
 lb:∀l∈ay x,l∈U/\(av t.k=true->bV t.k l=true)
 nn:∀q,p=some q->0<=q
 is:inst S.σ t= .mk t.k 0 (aI (inst S.σ) x) p
 dyn:bG x<=aJ t
 ch:∃x0,Chain S t.k t.fs t.tl x0 p/\x=aZ x0
 org:∃e,x=aZ (t.fs++e)/\∀c∈e,iO c.2
theorem iy:∀{l U:List Lb},l.Nodup->(∀x∈l,x∈U)->l.length<=U.length
 |[],_,_,_=>Nat.zero_le _
 |a::l,U,hn,h=>by
  obtain ⟨h1,h2⟩:=List.nodup_cons.1 hn;obtain ⟨u,v,rfl⟩:=List.append_of_mem (h a (by simp))
  have:=iy (l:=l) (U:=u++v) h2 fun x hx=>by
   have h3:=h x (by simp [hx]);rw [JQ,Gz] at h3;rcases h3 with h3|rfl|h3
   ·exact List.mem_append_left _ h3
   ·exact absurd hx h1
   ·exact List.mem_append_right _ h3
  simp only [A_,List.length_cons] at*;omega
section
variable {U:List Lb} {S:Kn}
theorem Chain.parts (h:KG U S) {k:Int} {fs:Fl} {tl:Option Int} (h8:k≠8) (g:TG U S (.mk k 0 fs tl)) {x:Fl} {p:Option Int} (c:Chain S k fs tl x p):
  (∀q∈x,TG U S q.2)/\(∀l∈ay x,l∈U/\(av k=true->bV k l=true))/\(∀q,p=some q->0<=q)/\bG x=bG fs/\∃e,x=fs++e/\∀c∈e,iO c.2:=by
 induction c with
 |here=>
  have h5:=g.nn;have h6:=g.lb;rw [lS] at h5;rw [gI] at h6
  exact ⟨fun q hq=>g.child hq,h6.1,h5.2.1,rfl,[],(ER fs).symm,fun c hc=>by simp at hc⟩
 |@more x r k' gs q' c hk ih=>
  obtain ⟨i1,i2,i3,i4,e,rfl,i5⟩:=ih;have d2':=(h.inv.dom r _ hk).2.2.1;rw [gP] at d2';obtain ⟨j1,j2,j3,j4⟩:=Chain.row h.inv h.fu h8 g.pend g.fu (.more c hk);obtain ⟨_,d1,d2,d3⟩:=h.inv.dom r _ hk;have d4:=h.sh.d r _ hk;have d5:=(h.nn.d r _ hk).2;obtain ⟨d6,d8⟩:=h.lb r _ hk
  have hkk:av k=true->k'=k:=fun hr=>by
   obtain ⟨_,_,m3,_⟩:=Chain.row h.inv h.fu h8 g.pend g.fu c;obtain ⟨_,ls,m5,m6⟩:=m3 r rfl;obtain ⟨l0,hl0⟩:=abk ls (h.ne r ls m5);exact BS (d8 ls m5 l0 hl0) ((i2 l0 ((m6 l0).1 hl0)).2 hr)
  have d7:=wQ _ d2;rw [iV] at d4;rw [lS] at d5;rw [gI] at d6;rw [kE] at d7;refine ⟨fun q hq=>?_,fun l hl=>?_,d5.2.1,by rw [rT];omega,e++gs,by rw [Dq],fun c hc=>(JQ.1 hc).elim (i5 c) (d2'.2 c)⟩
  ·rcases JQ.1 hq with hq2|hq2
   ·exact i1 q hq2
   ·obtain ⟨a1,a2,a3⟩:=j2 q hq
    exact ⟨⟨a1,a2⟩,a3,d4.2 q hq2,d5.2.2 q hq2,d6.2 q hq2⟩
  ·rw [dZ] at hl
   rcases JQ.1 hl with hl|hl
   ·exact i2 l hl
   ·obtain ⟨a1,a2⟩:=d6.1 l hl
    exact ⟨a1,fun hr=>by rw [hkk hr] at a2;exact a2 hr⟩
theorem Chain.len (h:KG U S) {k:Int} {fs:Fl} {tl:Option Int} (h8:k≠8) (g:TG U S (.mk k 0 fs tl)) {x:Fl} {p:Option Int} (c:Chain S k fs tl x p):x.length<=U.length:=by
 have h1:=(Chain.row h.inv h.fu h8 g.pend g.fu c).1;have h2:=(c.parts h h8 g).2.1;have:=iy h1 fun l hl=>(h2 l hl).1;simpa [ay] using this
theorem wh (h:S.Inv) {p:Option Int} (hp:∀q,p=some q->S.κ q=none):S.σ.tail p=([],p):=by
 cases p with
 |none=>rfl
 |some q=>exact (h.unk q (hp q rfl)).2
theorem dS.srt {t:Ut} {k:Int} {x:Fl} {p:Option Int} (r:dS S t k x p):dS S t k (aZ x) p:=
 ⟨(kR r.vO).nodup,fun q hq=>r.el q (dX.1 hq),fun q hq=>by
  obtain ⟨a,b,ls,c,d⟩:=r.tl q hq;exact ⟨a,b,ls,c,fun l=>(d l).trans kI.symm⟩,fun τ hτ=>by
  rw [r.is τ hτ,tL,KR]⟩
theorem dK.G5 (h:KG U S) {k n:Int} {fs:Fl} {tl:Option Int} (h8:k≠8) (h0:k≠0) (g:TG U S (.mk k n fs tl)) {x:Fl} {p:Option Int} (c:Chain S k fs tl x p) (hp:∀q,p=some q->S.κ q=none):dK U S (.mk k n fs tl) (aZ x) p:=by
 obtain rfl:=rU g.pend.1 h8 h0;obtain ⟨r,f⟩:=c.rowOf h.inv h.fu h8 g.pend g.fu hp;obtain ⟨c1,c2,c3,c4,e,he,c5⟩:=c.parts h h8 g;have hr:=kR r.vO;refine ⟨r.srt,hr,fun q hq=>c1 q (dX.1 hq),fun l hl=>c2 l (kI.1 hl),c3,?_,?_,⟨x,c,rfl⟩,⟨e,by rw [he];rfl,c5⟩⟩
 ·rw [r.is _ h.inv.sat,wh h.inv hp,ER,tL]
  rfl
 ·rw [Ey (eT x),c4,kE]
  omega
theorem dK.len {t:Ut} {x:Fl} {p:Option Int} (r:dK U S t x p):x.length<=U.length:=by
 have:=iy r.of.vO fun l hl=>(r.lb l hl).1;simpa [ay] using this
theorem dK.less {t:Ut} {x:Fl} {p:Option Int} (r:dK U S t x p) {c:Lb×Ut} (hc:c∈x):gL (inst S.σ c.2)<gL (inst S.σ t):=by
 rw [r.is,rM];have:=tO (p:=(c.1,inst S.σ c.2)) (a:=aI (inst S.σ) x) (aaN.2 ⟨c,hc,rfl⟩);have h2:gL (inst S.σ c.2)<=nQ (aI (inst S.σ) x):=this;omega
theorem mQ {k n:Int} {fs:Fl} {tl:Option Int} (h:dQ S.L (.mk k n fs tl)) (s:j_ (.mk k n fs tl)) (h8:k≠8) (hr:av k=false):tl=none/\inst S.σ (.mk k n fs tl)= .mk k n (aI (inst S.σ) fs) none:=by
 rw [iV] at s;obtain ⟨⟨_,_,h5,h6⟩,_⟩:=s;by_cases e:k=5
 ·obtain ⟨⟨a,b,rfl⟩,rfl⟩:=h5 e
  refine ⟨rfl,?_⟩;rw [aK,if_neg h8];show Ut.mk k n (aZ (aI (inst S.σ) [(lA,a),(lB,b)]++[])) none=_;rw [ER,dh];refine lX ?_;refine aa2.2 ⟨fun q hq=>?_,aa2.2 ⟨fun q hq=>by simp at hq,abn.nil⟩⟩;rw [List.mem_singleton] at hq;subst hq;show dz lA lB=true
  cases hh:dz lA lB
  ·have:=xQ hh abR
   exact absurd this (by decide)
  ·rfl
 ·obtain ⟨rfl,rfl⟩:=h6 e hr
  exact ⟨rfl,by rw [aK,if_neg h8];rfl⟩
theorem qM {k n:Int} {fs:Fl} {tl:Option Int} (h:dQ S.L (.mk k n fs tl)) (s:j_ (.mk k n fs tl)) (h8:k≠8) (hr:av k=false) {c:Lb×Ut} (hc:c∈fs):gL (inst S.σ c.2)<gL (inst S.σ (.mk k n fs tl)):=by
 obtain ⟨_,e⟩:=mQ h s h8 hr;rw [e,rM];have:=tO (p:=(c.1,inst S.σ c.2)) (a:=aI (inst S.σ) fs) (aaN.2 ⟨c,hc,rfl⟩);have h2:gL (inst S.σ c.2)<=nQ (aI (inst S.σ) fs):=this;omega
theorem V6 {k n:Int} {fs:Fl} {tl:Option Int} (h:dQ S.L (.mk k n fs tl)) (s:j_ (.mk k n fs tl)) (h8:k≠8) (hr:av k=false) (v:Int):bL v (inst S.σ (.mk k n fs tl))↔∃c∈fs,bL v (inst S.σ c.2):=by
 obtain ⟨_,e⟩:=mQ h s h8 hr;rw [e,nD];constructor
 ·rintro (⟨e,_⟩|e|⟨c,hc,ho⟩)
  ·exact absurd e h8
  ·cases e
  ·obtain ⟨c',h1,rfl⟩:=aaN.1 hc
   exact ⟨c',h1,ho⟩
 ·rintro ⟨c,hc,ho⟩
  exact .inr (.inr ⟨(c.1,inst S.σ c.2),aaN.2 ⟨c,hc,rfl⟩,ho⟩)
theorem TG.J9 {t:Ut} (g:TG U S t):t.fs.length<=U.length+2:=by
 obtain ⟨k,n,fs,tl⟩:=t;have h1:=g.pend.1;have h6:=g.lb;rw [bK] at h1;rw [gI] at h6;have:=iy h1.1.1 fun l hl=>(h6.1 l hl).1;have h2:fs.length<=U.length:=by simpa [ay] using this
 show fs.length<=_;omega
end
mutual
def jL:Ut->Nat
 | .mk _ _ fs _=>if 50<fs.length then 10001 else min (1+pI fs) 10001
termination_by t=>SizeOf.sizeOf t
def pI:Fl->Nat
 |[]=>0
 |p::fs=>jL p.2+pI fs
termination_by fs=>SizeOf.sizeOf fs
decreasing_by all_goals first|(simp;omega)|(obtain ⟨a,b⟩:=p;simp;omega)
end
mutual
def lY:Ut->Nat
 | .mk _ _ fs _=>qZ fs+1
termination_by t=>SizeOf.sizeOf t
def qZ:Fl->Nat
 |[]=>0
 |p::fs=>max (lY p.2) (qZ fs)
termination_by fs=>SizeOf.sizeOf fs
decreasing_by all_goals first|(simp;omega)|(obtain ⟨a,b⟩:=p;simp;omega)
end
theorem iW (k n:Int) (fs:Fl) (tl:Option Int):jL (.mk k n fs tl)=if 50<fs.length then 10001 else min (1+pI fs) 10001:=by rw [jL]
theorem ou:pI []=0:=by rw [pI]
theorem iC (p:Lb×Ut) (fs:Fl):pI (p::fs)=jL p.2+pI fs:=by rw [pI]
theorem jS (k n:Int) (fs:Fl) (tl:Option Int):lY (.mk k n fs tl)=qZ fs+1:=by rw [lY]
theorem rV:qZ []=0:=by rw [qZ]
theorem iT (p:Lb×Ut) (fs:Fl):qZ (p::fs)=max (lY p.2) (qZ fs):=by rw [qZ]
theorem BU:∀a b:Fl,pI (a++b)=pI a+pI b
 |[],b=>by rw [ou,RU,Nat.zero_add]
 |p::a,b=>by rw [Gx,iC,iC,BU a b];omega
theorem BZ:∀a b:Fl,qZ (a++b)=max (qZ a) (qZ b)
 |[],b=>by rw [rV,RU,Nat.zero_max]
 |p::a,b=>by rw [Gx,iT,iT,BZ a b,Nat.max_assoc]
theorem Zx {a b:Fl} (h:a.Perm b):pI a=pI b:=by
 induction h with
 |nil=>rfl
 |cons x _ ih=>rw [iC,iC,ih]
 |swap x y l=>simp only [iC];omega
 |trans _ _ h1 h2=>rw [h1,h2]
theorem Zy {a b:Fl} (h:a.Perm b):qZ a=qZ b:=by
 induction h with
 |nil=>rfl
 |cons x _ ih=>rw [iT,iT,ih]
 |swap x y l=>simp only [iT];omega
 |trans _ _ h1 h2=>rw [h1,h2]
theorem Dl (t:Ut):1<=jL t/\jL t<=10001:=by
 obtain ⟨k,n,fs,tl⟩:=t;rw [iW];split<;>omega
theorem K3 (t:Ut):1<=lY t:=by
 obtain ⟨k,n,fs,tl⟩:=t;rw [jS];omega
theorem SQ (τ:Va):∀t,(∀L,dQ L t->jL t<=jL (inst τ t)/\lY t<=lY (inst τ t)):=
 Ut.ind fun k n fs tl ih L ho=>by
  rw [aK];split
  ·next h8=>
   rw [bK] at ho;obtain ⟨e1,e2⟩:=ho.1.2.1 (.inr h8);subst e1 e2;rw [iW,jS,ou,rV];exact ⟨by simpa using (Dl _).1,K3 _⟩
  ·rw [bK] at ho
   rw [iW,jS,iW,jS,kK,Zx (eT _),Zy (eT _),BU,BZ,A_,fO]
   have key:∀gs:Fl,(∀p∈gs,jL p.2<=jL (inst τ p.2)/\lY p.2<=lY (inst τ p.2))->pI gs<=pI (aI (inst τ) gs)/\qZ gs<=qZ (aI (inst τ) gs):=by
    intro gs
    induction gs with
    |nil=>exact fun _=>⟨bN _,bN _⟩
    |cons p gs ih2=>
     intro h;obtain ⟨a1,a2⟩:=ih2 fun q hq=>h q (by simp [hq]);obtain ⟨b1,b2⟩:=h p (by simp);rw [eU,iC,iC,iT,iT];exact ⟨by show _<=jL (inst τ p.2)+_;omega,by show _<=max (lY (inst τ p.2)) _;omega⟩
   obtain ⟨k1,k2⟩:=key fs fun p hp=>ih p hp L (ho.2 p hp);refine ⟨?_,by omega⟩;split<;>split<;>omega
theorem abT {fs:Fl} {i:Nat} {p:Lb×Ut} (h:fs[i]?=some p):pI (fs.take (i+1))=pI (fs.take i)+jL p.2/\qZ (fs.take (i+1))=max (qZ (fs.take i)) (lY p.2):=by
 rw [List.take_add_one,h];show pI (_++[p])=_/\qZ (_++[p])=_;rw [BU,BZ,iC,iT,ou,rV];exact ⟨rfl,by rw [Nat.max_zero]⟩
end Go.Proofs.Ytblfeokjlecgkaa
