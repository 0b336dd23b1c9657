/- Laid together by a tool from the texts of this seat: UniG UniH UniI UniJ UniK UniL UniM UniN UniO UniP UniQ UniR UniS. Conditions: each theorem's own. -/
import Derived.Test.YtblfeokjlecgkaaV05
import Derived.Test.YtblfeokjlecgkaaV02
namespace Go.Proofs.Ytblfeokjlecgkaa
open _root_.ByteArray renaming empty->pR
open _root_.List renaming mem_cons->Gz,map_cons->Bn,mem_map->aaN,not_mem_nil->abo,length->RB,length_cons->Bl,mem_cons_of_mem->abr,append_nil->ER,mem_of_getElem?->Yt,mem_flatten->aam,sum_cons->abw,mem_filter->aaO,filter_cons->abA,getElem?_eq_getElem->jr,map_congr_left->Vg,zip_cons_cons->abF,mem_singleton->aaW,map_map->abL,map_nil->abM,length_append->A_,mem_append->JQ,mem_append_left->aaR,nodup_nil->ab8,getElem?_of_mem->acr,getElem?_eq_none->AO,eq_nil_of_length_eq_zero->kZ,flatten_cons->Ry,Pairwise->abn,getElem?_zip_eq_some->acC,drop_zero->Kk,pairwise_map->acK,length_map->aaT,attach_map_val->acL,mem_range->acN,getElem?_eq_some_iff->acO,mem_cons_self->acP,sum_append->acQ,map_append->abl,length_flatten->acT
open _root_.Nat renaming lt_or_ge->abE,add_mul->abU,le_refl->bN,le_trans->zk
open _root_.Bool renaming and_eq_true->DC,not_eq_true'->acs,or_eq_false_iff->acE
structure Done (U:List Lb) (S S':Kn) (C:Va->Prop) (n:Nat):Prop where
 kg:KG U S'
 st:Step S S' C
 un:S'.un<=S.un+n
 ch:S'=S\/S'.un<S.un+n
 m:S'.m+(S'.un:Int)<=S.m+S.un+2*(n:Nat)
section
variable {U:List Lb} {S S':Kn} {a b:Ut}
theorem Done.none {C:Va->Prop} (h:KG U S) (s:Step S S C) (n:Nat):Done U S S C n:=⟨h,s,by omega,.inl rfl,by omega⟩
theorem Done.more {C:Va->Prop} {n n':Nat} (h:Done U S S' C n) (hn:n<=n'):Done U S S' C n':=
 ⟨h.kg,h.st,by have:=h.un;omega,h.ch.imp id fun k=>by omega,by have:=h.m;omega⟩
theorem Done.symm {n:Nat} (h:Done U S S' (bF a b) n):Done U S S' (bF b a) n:=⟨h.kg,h.st.symm,h.un,h.ch,h.m⟩
theorem Done.eqv {n:Nat} {a' b':Ut} (h:Done U S S' (bF a b) n) (pa:jd S a) (pa':jd S a') (pb:jd S b) (pb':jd S b') (ea:wP S a' a) (eb:wP S b' b):Done U S S' (bF a' b') n:=
 ⟨h.kg,h.st.eqv pa pa' pb pb' ea eb,h.un,h.ch,h.m⟩
theorem SV {m:Int} {t:Ut} {L:Sorts} (ho:dQ L t) (h8:t.k=8):(aH m t).1=t:=by
 obtain ⟨k,n,fs,tl⟩:=t;obtain ⟨e,_⟩:=jK ho h8;rw [e];unfold aS;rw [fF,if_neg (by decide),dw]
theorem KG.eF (h:KG U S) {v:Int} {t:Ut} (hv:S.κ v=none) (hl:S.L v=none) (h0:0<=v) (pW:v<S.m) (g:TG U S t) (h8:t.k=8->S.κ t.n=none/\t.n≠v) (o:¬bL v (inst S.σ (aH S.m t).1)):KG U (S.eF v t):=by
 refine ⟨h.inv.eF hv hl pW g.pend.1 g.pend.2 o,?_,h.fu.eF hl g.fu,h.nn.eF h0 g.pend.1 g.nn,h.sh.eF h.inv g.pend.1 g.pend.2 g.sh,fun u s hu=>?_,h.ne⟩
 ·refine h.rk.put (v:=v) (t:=(aH S.m t).1) hv rfl (fun _ _ _=>rfl) (fun hk=>?_) (fun ls q hls=>?_)
  ·by_cases e:t.k=8
   ·rw [SV g.pend.1 e]
    exact h8 e
   ·obtain ⟨k,n,fs,tl⟩:=t
    by_cases e0:k=0
    ·rw [fF,if_pos e0]
     exact ⟨h.inv.free (Int.le_refl _),by show S.m≠v;omega⟩
    ·rw [(oQ (t:=.mk k n fs tl) e0).1] at hk
     exact absurd hk e
  ·have hls:S.L v=some ls:=hls
   rw [hl] at hls
   cases hls
 ·have hu:upd S.κ v (aH S.m t).1 u=some s:=hu
  by_cases e:u=v
  ·subst e
   rw [upd_same] at hu;injection hu with hu
   subst hu;refine ⟨Fy t S.m g.lb,fun ls hls=>?_⟩;have hls:S.L u=some ls:=hls;rw [hl] at hls
   cases hls
  ·rw [bQ e] at hu
   exact h.lb u s hu
theorem SY {v n:Int}:bL v (aS n)↔n=v:=by
 unfold aS;rw [nD];constructor
 ·rintro (⟨_,e⟩|e|⟨p,hp,_⟩)
  ·exact e
  ·cases e
  ·simp at hp
 ·exact fun e=>.inl ⟨rfl,e⟩
theorem Ow (h:KG U S) {v:Int} (hv:S.κ v=none) (hl:S.L v=none) (h0:0<=v) (pW:v<S.m) (g:TG U S b) (h8:b.k=8->S.κ b.n=none/\b.n≠v) (o:¬bL v (inst S.σ (aH S.m b).1)):
  Done U S (S.eF v b) (bF (aS v) b) (aJ b):=by
 have hu:=Zv h.inv h.nn hv h0 pW g.pend.1;have hm:(S.eF v b).m=S.m+(aJ b:Nat):=nJ b S.m g.pend.1;exact ⟨h.eF hv hl h0 pW g h8 o,V5 h.inv hv hl pW g.pend o,by omega,.inr (by omega),by omega⟩
theorem S9 (h:KG U S) {v:Int} (hl:S.L v=none) (pW:v<S.m) (g:TG U S b) (h0:b.k≠0) (h8:b.k=8->S.κ b.n=none/\b.n≠v) (o:bL v (inst S.σ (aH S.m b).1)):pX S (aS v) b:=by
 refine Nr h.inv hl pW g.pend o fun hk=>?_;by_cases e:b.k=8
 ·rw [SV g.pend.1 e] at o
  obtain ⟨k,n,fs,tl⟩:=b;obtain ⟨e2,_⟩:=jK g.pend.1 e;rw [e2] at o;obtain ⟨h1,h2⟩:=h8 e;have h1:S.κ n=none:=h1;rw [aW,(h.inv.unk n h1).1,SY] at o;exact h2 o
 ·obtain ⟨k,n,fs,tl⟩:=b
  have h0:k≠0:=h0;have e:k≠8:=e;rw [fF,if_neg h0] at hk;rw [aK,if_neg e] at hk;exact e hk
theorem KG.aQ (h:KG U S) (ls:List Lb) (hne:ls≠[]):KG U (S.aQ ls):=
 have key:∀u t,S.κ u=some t->(S.aQ ls).L u=S.L u:=fun u t hu=>by
  have:=(h.inv.dom u t hu).1;show (if u=S.m then some ls else S.L u)=S.L u;rw [if_neg (by omega)]
 ⟨h.inv.aQ ls,h.rk.like rfl key,h.fu.aQ h.inv ls,h.nn.aQ ls,h.sh.aQ h.inv ls,fun v t hv=>by
  rw [key v t hv];exact h.lb v t hv,fun p kG hp=>by
  have hp:(if p=S.m then some ls else S.L p)=some kG:=hp;split at hp
  ·injection hp with hp
   rw [<-hp];exact hne
  ·exact h.ne p kG hp⟩
theorem KG.aV (h:KG U S) {p:Int} {ls:List Lb} {t:Ut} (hp:S.κ p=none) (hl:S.L p=some ls) (h0:0<=p) (hpm:p<S.m) (r:iK S p ls t) (o:¬bL p (inst S.σ (aH S.m t).1)) (hn:yS t) (hs:j_ t) (hb:pY U t) (hlr:∀l∈ls,bV t.k l=true)
  (hc:∀c∈t.fs,qY S.L c.2) (hq:∀q ls',t.tl=some q->S.L q=some ls'->∀l∈ls',l∈ls\/l∈ay t.fs):KG U (S.aV p t):=by
 obtain ⟨e1,e2,e3,e4⟩:=oQ (m:=S.m) r.k0;refine ⟨h.inv.aV hp hl hpm r o,?_,h.fu.aV hl r.k0 hc hq,h.nn.aV h0 r.ok hn,h.sh.aV h.inv r hs,fun u s hu=>?_,h.ne⟩
 ·refine h.rk.put (v:=p) (t:=(aH S.m t).1) hp rfl (fun _ _ _=>rfl) (fun hk=>?_) (fun kG q hls hq=>?_)
  ·rw [e1] at hk
   exact absurd hk r.k8
  ·rw [e4] at hq
   obtain ⟨a,b,_⟩:=r.q q hq;exact ⟨b,a⟩
 ·have hu:upd S.κ p (aH S.m t).1 u=some s:=hu
  by_cases e:u=p
  ·subst e
   rw [upd_same] at hu;injection hu with hu
   subst hu;refine ⟨Fy t S.m hb,fun kG hls=>?_⟩;have hls:S.L u=some kG:=hls;rw [hl] at hls;injection hls with hls
   rw [<-hls,e1];exact hlr
  ·rw [bQ e] at hu
   exact h.lb u s hu
theorem bJ {k:Int} (h:av k=true):k≠8/\k≠0/\k≠5/\0<=k/\k<=8:=by
 simp [av] at h;omega
theorem qy {L:Sorts} {k:Int} {y x:Fl} {r:Option Int} (hk:av k=true) (el:∀c∈y,TG U S c.2) (lb:∀l∈ay y,l∈U/\(av k=true->bV k l=true)) (hr:∀q,r=some q->0<=q) (hL:S.L=L):
  yS (.mk k 0 (au y x) r)/\j_ (.mk k 0 (au y x) r)/\pY U (.mk k 0 (au y x) r)/\(∀c∈(Ut.mk k 0 (au y x) r).fs,qY L c.2)/\aJ (.mk k 0 (au y x) r)=bG (au y x):=by
 subst hL;obtain ⟨k8,k0,k5,k1,k2⟩:=bJ hk;refine ⟨?_,?_,?_,fun c hc=>(el c (dU hc)).fu,by rw [kE,if_neg k0];omega⟩
 ·rw [lS]
  exact ⟨fun e=>(by omega),hr,fun p hp=>(el p (dU hp)).nn⟩
 ·rw [iV]
  exact ⟨⟨k1,k2,(fun e=>absurd e k5),fun _ e=>(by rw [hk] at e;cases e)⟩,fun p hp=>(el p (dU hp)).sh⟩
 ·rw [gI]
  exact ⟨fun l hl=>lb l (dP.1 hl).1,fun p hp=>(el p (dU hp)).lb⟩
section
variable {x y:Fl} {p q:Option Int} {p0 q0:Int}
theorem G9 (ra:dK U S a x (some p0)) (hk:av a.k=true) {ls:List Lb} (hl:S.L p0=some ls):∀l∈ls,bV a.k l=true:=fun l hm=>by
 obtain ⟨_,_,kG,k1,k2⟩:=ra.of.tl p0 rfl;rw [hl] at k1;injection k1 with k1
 subst k1;exact (ra.lb l ((k2 l).1 hm)).2 hk
theorem Fz (h:KG U S) (ra:dK U S a x (some p0)) (y:Fl):rP x y≠[]:=fun e=>by
 obtain ⟨_,_,kG,k1,k2⟩:=ra.of.tl p0 rfl;obtain ⟨l,hl⟩:=List.exists_mem_of_ne_nil kG (h.ne p0 kG k1);have:l∈rP x y:=aaR _ ((k2 l).1 hl);rw [e] at this;simp at this
theorem G_ (h:KG U S) (ra:dK U S a x (some p0)) (rb:dK U S b y none) (hk:av a.k=true) (hab:b.k=a.k) (hs:Shared S x y) (hu:au x y=[]) (o:¬bL p0 (inst S.σ (aH S.m (.mk a.k 0 (au y x) none)).1)):
  Done U S (S.aV p0 (.mk a.k 0 (au y x) none)) (bF a b) (bG (au y x)):=by
 obtain ⟨k8,k0,_⟩:=bJ hk;have lZ:=rb.of;rw [hab] at lZ;obtain ⟨hpm,xH,_⟩:=ra.of.tl p0 rfl;obtain ⟨ls,hl,rf⟩:=om ra.of lZ k0 k8;have JO:=rb.lb;rw [hab] at JO;obtain ⟨a1,a2,a3,a4,a5⟩:=qy (S:=S) (x:=x) (r:=none) hk rb.el JO (fun q hq=>by cases hq) rfl;have hun:=GX h.inv h.nn xH (ra.nn p0 rfl) hpm rf.ok;have hm:(S.aV p0 (.mk a.k 0 (au y x) none)).m=S.m+(aJ (.mk a.k 0 (au y x) none):Nat):=nJ _ S.m rf.ok;rw [a5] at hun hm;exact ⟨h.aV xH hl (ra.nn p0 rfl) hpm rf o a1 a2 a3 (G9 ra hk hl) a4 (fun q ls' hq=>by cases hq),Zq h.inv ra.of lZ k0 k8 hs hu o,by omega,.inr (by omega),by omega⟩
theorem K7 (h:KG U S) (ra:dK U S a x (some p0)) (rb:dK U S b y none) (hk:av a.k=true) (hab:b.k=a.k) (hs:Shared S x y) (hu:au x y=[]) (o:bL p0 (inst S.σ (aH S.m (.mk a.k 0 (au y x) none)).1)):pX S a b:=by
 obtain ⟨k8,k0,_⟩:=bJ hk;have lZ:=rb.of;rw [hab] at lZ;exact fun τ hτ=>Qc h.inv ra.of lZ k0 k8 hs hu o hτ
theorem B_ (h:KG U S) (ra:dK U S a x p) (rb:dK U S b y p) (hk:av a.k=true) (hab:b.k=a.k) (hs:Shared S x y) (hu:au x y=[]) (hv:au y x=[]) (n:Nat):Done U S S (bF a b) n:=by
 obtain ⟨k8,k0,_⟩:=bJ hk;have lZ:=rb.of;rw [hab] at lZ;exact .none h (VT h.inv ra.of lZ k0 hs hu hv) n
theorem Ox (ra:dK U S a x (some p0)) (rb:dK U S b y (some p0)) (hk:av a.k=true) (hab:b.k=a.k) (hu:¬(au x y=[]/\au y x=[])):pX S a b:=by
 obtain ⟨k8,k0,_⟩:=bJ hk;have lZ:=rb.of;rw [hab] at lZ;by_cases e:au x y=[]
 ·have e2:au y x≠[]:=fun e2=>hu ⟨e,e2⟩
  exact fun τ hτ hc=>Eh lZ ra.of k0 e2 hτ (by simp) hc.symm
 ·exact fun τ hτ=>Eh ra.of lZ k0 e hτ (by simp)
theorem Dm (ra:dK U S a x p) (rb:dK U S b y none) (hk:av a.k=true) (hab:b.k=a.k) (hu:au x y≠[]):pX S a b:=by
 obtain ⟨k8,k0,_⟩:=bJ hk;have lZ:=rb.of;rw [hab] at lZ;exact fun τ hτ=>VW ra.of lZ k0 hu hτ
theorem zX (h:KG U S) (ra:dK U S a x (some p0)) (rb:dK U S b y (some q0)) (hk:av a.k=true) (hab:b.k=a.k) (o1:¬bL p0 (inst (S1 S x y).σ (aH (S1 S x y).m (t1 S a.k x y)).1)):
  KG U (S2 S a.k x y p0)/\(S2 S a.k x y p0).un=S.un+bG (au y x)/\(S2 S a.k x y p0).m=S.m+1+(bG (au y x):Nat):=by
 obtain ⟨k8,k0,_⟩:=bJ hk;have lZ:=rb.of;rw [hab] at lZ;obtain ⟨hpm,xH,hpl⟩:=ra.of.tl p0 rfl;have h1:KG U (S1 S x y):=h.aQ _ (Fz h ra y);have JO:=rb.lb;rw [hab] at JO;obtain ⟨ls,hl,rf⟩:=ji h.inv ra.of lZ k0 k8;have el:∀c∈y,TG U (S1 S x y) c.2:=fun c hc=>(rb.el c hc).later (Kn.qw h.inv _);obtain ⟨a1,a2,a3,a4,a5⟩:=qy (S:=S1 S x y) (x:=x) (r:=some S.m) hk el JO (fun q hq=>by injection hq with hq;rw [<-hq];exact h.nn.m) rfl;have ajw:=zV h.inv h.nn (rP x y);have hun:=GX h1.inv h1.nn (v:=p0) xH (ra.nn p0 rfl) (by show p0<S.m+1;omega) rf.ok;have hm:(S2 S a.k x y p0).m=(S1 S x y).m+(aJ (t1 S a.k x y):Nat):=nJ _ _ rf.ok;have a5:aJ (t1 S a.k x y)=bG (au y x):=a5;rw [a5] at hun hm;have e1:(S1 S x y).un=S.un+1:=ajw;have e2:(S1 S x y).m=S.m+1:=rfl;refine ⟨?_,by show ((S1 S x y).aV p0 (t1 S a.k x y)).un=_;omega,by rw [hm,e2]⟩;refine h1.aV xH hl (ra.nn p0 rfl) (by show p0<S.m+1;omega) rf o1 a1 a2 a3 (G9 ra hk (by rw [<-rQ (x:=x) (y:=y) hpm];exact hl)) a4 fun q ls' hq hq2 l hl2=>?_;have hq:some S.m=some q:=hq;injection hq with hq
 subst hq;rw [zT] at hq2;injection hq2 with hq2
 subst hq2;rw [rQ hpm] at hl;obtain ⟨kG,k1,k2⟩:=hpl;rw [hl] at k1;injection k1 with k1
 subst k1;rcases JQ.1 hl2 with g|g
 ·exact .inl ((k2 l).2 g)
 ·exact .inr g
theorem Oy (h:KG U S) (ra:dK U S a x (some p0)) (rb:dK U S b y (some q0)) (hk:av a.k=true) (hab:b.k=a.k) (hpq:p0≠q0) (hs:Shared S x y) (pa:jd S a) (pb:jd S b)
  (o1:¬bL p0 (inst (S1 S x y).σ (aH (S1 S x y).m (t1 S a.k x y)).1)) (o2:¬bL q0 (inst (S2 S a.k x y p0).σ (aH (S2 S a.k x y p0).m (t2 S a.k x y)).1)):
  Done U S ((S2 S a.k x y p0).aV q0 (t2 S a.k x y)) (bF a b) (bG (au x y)+bG (au y x)):=by
 obtain ⟨k8,k0,_⟩:=bJ hk;have lZ:=rb.of;rw [hab] at lZ;obtain ⟨h2,u2,m2⟩:=zX h ra rb hk hab o1;obtain ⟨ls,hl,hqu,hqm,rf⟩:=mY h.inv ra.of lZ k0 k8 hpq;have i1:(S1 S x y).Inv:=h.inv.aQ _
 have l2:S.Le (S2 S a.k x y p0):=by
  obtain ⟨ls,hl,rf⟩:=ji h.inv ra.of lZ k0 k8;exact (Kn.qw h.inv _).trans (Kn.vZ i1 (show (S1 S x y).κ p0=none from (ra.of.tl p0 rfl).2.1) rf)
 have el:∀c∈x,TG U (S2 S a.k x y p0) c.2:=fun c hc=>(ra.el c hc).later l2;obtain ⟨a1,a2,a3,a4,a5⟩:=qy (S:=S2 S a.k x y p0) (x:=y) (r:=some S.m) hk el ra.lb (fun q hq=>by injection hq with hq;rw [<-hq];exact h.nn.m) rfl;have hun:=GX h2.inv h2.nn hqu (rb.nn q0 rfl) hqm rf.ok;have hm:((S2 S a.k x y p0).aV q0 (t2 S a.k x y)).m=(S2 S a.k x y p0).m+(aJ (t2 S a.k x y):Nat):=nJ _ _ rf.ok;have a5:aJ (t2 S a.k x y)=bG (au x y):=a5;rw [a5] at hun hm;refine ⟨?_,Zt h.inv ra.of lZ k0 k8 hpq hs pa.2 pb.2 o1 o2,by omega,.inr (by omega),by omega⟩
 have hlq:S.L q0=some ls:=by
  have hl:(S1 S x y).L q0=some ls:=hl;rw [rQ (rb.of.tl q0 rfl).1] at hl;exact hl
 have htl:=G9 rb (by rw [hab];exact hk) hlq;rw [hab] at htl;refine h2.aV hqu hl (rb.nn q0 rfl) hqm rf o2 a1 a2 a3 htl a4 fun q ls' hq hq2 l hl2=>?_;have hq:some S.m=some q:=hq;injection hq with hq
 subst hq;have hq2:(S1 S x y).L S.m=some ls':=hq2;rw [zT] at hq2;injection hq2 with hq2
 subst hq2;obtain ⟨S_,_,kG,k1,k2⟩:=rb.of.tl q0 rfl;have hl:(S1 S x y).L q0=some ls:=hl;rw [rQ S_] at hl;rw [hl] at k1;injection k1 with k1
 subst k1;rcases tQ.1 hl2 with g|g
 ·by_cases gy:l∈ay y
  ·exact .inl ((k2 l).2 gy)
  ·exact .inr (dP.2 ⟨g,gy⟩)
 ·exact .inl ((k2 l).2 g)
theorem Oz (h:KG U S) (ra:dK U S a x (some p0)) (rb:dK U S b y (some q0)) (hk:av a.k=true) (hab:b.k=a.k) (o1:bL p0 (inst (S1 S x y).σ (aH (S1 S x y).m (t1 S a.k x y)).1)):pX S a b:=by
 obtain ⟨k8,k0,_⟩:=bJ hk;have lZ:=rb.of;rw [hab] at lZ;exact fun τ hτ=>Np h.inv ra.of lZ k0 k8 o1 hτ
theorem OA (h:KG U S) (ra:dK U S a x (some p0)) (rb:dK U S b y (some q0)) (hk:av a.k=true) (hab:b.k=a.k) (hpq:p0≠q0) (o1:¬bL p0 (inst (S1 S x y).σ (aH (S1 S x y).m (t1 S a.k x y)).1)) (o2:bL q0 (inst (S2 S a.k x y p0).σ (aH (S2 S a.k x y p0).m (t2 S a.k x y)).1)):pX S a b:=by
 obtain ⟨k8,k0,_⟩:=bJ hk;have lZ:=rb.of;rw [hab] at lZ;exact fun τ hτ=>Nq h.inv ra.of lZ k0 k8 hpq o1 o2 hτ
end
end
section
variable {S S':Kn} {k:Int} {fs:Fl} {tl:Option Int} {x y:Fl} {p q:Option Int}
theorem Ta {r k':Int} {gs:Fl} {q':Option Int} (hk:S.κ r=some (.mk k' 0 gs q')) (h:Chain S k fs (some r) x p):(x=fs/\p=some r)\/Chain S k (fs++gs) q' x p:=by
 induction h with
 |here=>exact .inl ⟨rfl,rfl⟩
 |@more x1 r1 k1 gs1 q1 c hk1 ih=>
  rcases ih with ⟨e1,e2⟩|ih
  ·subst e1
   injection e2 with e2
   subst e2;rw [hk] at hk1;injection hk1 with hk1
   injection hk1 with _ _ e3 e4
   subst e3 e4;exact .inr .here
  ·exact .inr (.more ih hk1)
theorem V7 (h:Chain S k fs tl x p) (g:Chain S k fs tl y q):Chain S k x p y q\/Chain S k y q x p:=by
 induction g with
 |here=>exact .inr h
 |@more y r k' gs q' c hk ih=>
  rcases ih with ih|ih
  ·exact .inl (.more ih hk)
  ·rcases Ta hk ih with ⟨e1,e2⟩|ih
   ·subst e1 e2
    exact .inl (.more .here hk)
   ·exact .inr ih
theorem Tc (h:Chain S k fs tl x p) (ht:∀q,tl=some q->S.κ q=none):x=fs/\p=tl:=by
 induction h with
 |here=>exact ⟨rfl,rfl⟩
 |more c hk ih=>
  obtain ⟨_,e⟩:=ih;rw [ht _ e.symm] at hk
  cases hk
theorem V9 (h:Chain S k fs tl x p):∃z,x=fs++z:=by
 induction h with
 |here=>exact ⟨[],(ER _).symm⟩
 |more _ _ ih=>
  obtain ⟨z,rfl⟩:=ih;exact ⟨z++_,List.append_assoc _ _ _⟩
end
section
variable {U:List Lb} {S S':Kn} {t:Ut} {x x':Fl} {p p':Option Int}
theorem dK.K8 (r:dK U S t x p) (r':dK U S' t x' p') (l:S.Le S') {lab:Lb} {c:Ut} (h:aL lab x=some c):aL lab x'=some c:=by
 obtain ⟨x0,c1,rfl⟩:=r.ch;obtain ⟨x0',c2,rfl⟩:=r'.ch;have c1:=c1.later l.κ
 have e:∃z,x0'=x0++z:=by
  rcases V7 c1 c2 with g|g
  ·exact V9 g
  ·obtain ⟨e,_⟩:=Tc g fun q hq=>(r'.of.tl q hq).2.1
   exact ⟨[],by rw [e,ER]⟩
 obtain ⟨z,rfl⟩:=e;have n1:(ay x0).Nodup:=((eT x0).map (fun p:Lb×Ut=>p.1)).nodup_iff.1 r.of.vO;have n2:(ay (x0++z)).Nodup:=((eT (x0++z)).map (fun p:Lb×Ut=>p.1)).nodup_iff.1 r'.of.vO;rw [kL n1] at h;rw [kL n2,kF,h];rfl
end
def qN (D:List Lb) (fs:Fl):Nat:=bG (fs.filter fun c=> !jD c.1 D)
theorem Dn (fs:Fl):qN [] fs=bG fs:=by
 unfold qN
 congr 1
 exact List.filter_eq_self.2 fun c _=>rfl
theorem uZ {P Q:Lb×Ut->Bool}:∀{fs:Fl},(∀c∈fs,P c=true->Q c=true)->bG (fs.filter P)<=bG (fs.filter Q)
 |[],_=>bN _
 |c::fs,h=>by
  have ih:=uZ (fs:=fs) fun d hd=>h d (by simp [hd]);rw [abA,abA]
  cases hp:P c
  ·rw [if_neg (by simp)]
   split
   ·rw [cB];omega
   ·exact ih
  ·rw [if_pos rfl,if_pos (h c (by simp) hp),cB,cB]
   omega
theorem EA {l a:Lb} {D:List Lb}:jD l (a::D)=(decide (a=l)||jD l D):=rfl
theorem mZ {D:List Lb} {l:Lb} {c:Ut} (hD:l∉D):∀{fs:Fl},aL l fs=some c->qN (l::D) fs+aJ c<=qN D fs
 |[],h=>by simp [aL] at h
 |q::fs,h=>by
  have hf:jD l D=false:=by
   cases e:jD l D
   ·rfl
   ·exact absurd (kM.1 e) hD
  simp only [aL] at h;unfold qN;rw [abA,abA];by_cases e:q.1=l
  ·rw [if_pos e] at h
   injection h with h
   subst h;rw [e,EA,hf];simp only [decide_true,Bool.true_or,Bool.not_true,Bool.false_eq_true,if_false,Bool.not_false,if_true];rw [cB]
   have:bG (fs.filter fun c=> !jD c.1 (l::D))<=bG (fs.filter fun c=> !jD c.1 D):=uZ fun d _ hd=>by
    rw [EA] at hd;revert hd
    cases jD d.1 D<;>simp
   omega
  ·rw [if_neg e] at h
   have ih:=mZ hD h;unfold qN at ih;rw [EA,decide_eq_false (fun e2=>e e2.symm),Bool.false_or];split
   ·rw [cB,cB];omega
   ·exact ih
theorem iD {U:List Lb} {S:Kn} {t:Ut} {x:Fl} {p:Option Int} (r:dK U S t x p) (D:List Lb):qN D x=qN D t.fs:=by
 obtain ⟨e,rfl,he⟩:=r.org;unfold qN;rw [Ey ((eT _).filter _),List.filter_append,rT]
 have:∀l:Fl,(∀c∈l,iO c.2)->bG l=0:=by
  intro l
  induction l with
  |nil=>exact fun _=>lK
  |cons c l ih=>exact fun h=>by rw [cB,wQ _ (h c (by simp)),ih fun d hd=>h d (by simp [hd])]
 rw [this (e.filter _) fun c hc=>he c (aaO.1 hc).1];rfl
theorem Dp {x y:Fl} {D:List Lb} (h:∀l∈D,l∈ay y):bG (au x y)<=qN D x:=
 uZ fun c _ hc=>by
  cases e:jD c.1 D
  ·rfl
  ·rw [kM.2 (h c.1 (kM.1 e))] at hc
   cases hc
structure ow (U:List Lb) (S0 S:Kn) (a b:Ut) (D:List Lb):Prop where
 kg:KG U S
 lp:Loop S0 S a b
 un:S.un+(qN D a.fs+qN D b.fs)<=S0.un+(aJ a+aJ b)
 ch:S=S0\/S.un+(qN D a.fs+qN D b.fs)<S0.un+(aJ a+aJ b)
 m:S.m+(S.un:Int)+2*(qN D a.fs+qN D b.fs:Nat)<=S0.m+S0.un+2*(aJ a+aJ b:Nat)
 dn:∀l∈D,∀x p y q,dK U S a x p->dK U S b y q->∃c d,aL l x=some c/\aL l y=some d/\∀τ,S.Sat τ->bF c d τ
 nd:D.Nodup
 lb:∀l∈D,l∈U
theorem uQ (t:Ut):bG t.fs<=aJ t:=by
 obtain ⟨k,n,fs,tl⟩:=t;rw [kE];show bG fs<=_;omega
section
variable {U:List Lb} {S0 S S':Kn} {a b:Ut} {D:List Lb} {x y:Fl} {p q:Option Int}
theorem ow.start (h:KG U S) (a b:Ut):ow U S S a b []:=
 ⟨h,Loop.start h.inv a b,by rw [Dn,Dn];have:=uQ a;have:=uQ b;omega,.inl rfl,by rw [Dn,Dn];have:=uQ a;have:=uQ b;omega,fun l hl=>by simp at hl,ab8,fun l hl=>by simp at hl⟩
theorem ow.next (h:ow U S0 S a b D) (pa:jd S0 a) (pb:jd S0 b) (ra:dK U S a x p) (rb:dK U S b y q) (hk:av a.k=true) (hab:b.k=a.k) {l:Lb} {c d:Ut} (hl:l∉D) (hc:aL l x=some c) (hd:aL l y=some d) (s:Done U S S' (bF c d) (aJ c+aJ d)):ow U S0 S' a b (l::D):=by
 obtain ⟨k8,k0,_⟩:=bJ hk;have lZ:=rb.of;rw [hab] at lZ;have ec:=mZ hl hc;have ed:=mZ hl hd;rw [iD ra,iD ra] at ec;rw [iD rb,iD rb] at ed;have h1:=s.un;have h2:=h.un;have h3:=s.m;have h4:=h.m;have tc:=ra.el (l,c) (bR hc);have td:=rb.el (l,d) (bR hd);refine ⟨s.kg,h.lp.next pa pb (BP ra.of lZ k0 hc hd) s.st,by omega,?_,by omega,?_,List.nodup_cons.2 ⟨hl,h.nd⟩,?_⟩
 ·rcases s.ch with e|e
  ·subst e
   rcases h.ch with e|e
   ·exact .inl e
   ·exact .inr (by omega)
  ·exact .inr (by omega)
 ·intro l' hl' x' p' y' q' ra' rb2
  have hm:∃c d,aL l' x=some c/\aL l' y=some d/\∀τ,S'.Sat τ->bF c d τ:=by
   rcases Gz.1 hl' with rfl|hl'
   ·exact ⟨c,d,hc,hd,s.st.co⟩
   ·obtain ⟨c',d',g1,g2,g3⟩:=h.dn l' hl' x p y q ra rb
    exact ⟨c',d',g1,g2,KV s.st.le g3 (ra.el _ (bR g1)).pend.2 (rb.el _ (bR g2)).pend.2⟩
  obtain ⟨c',d',g1,g2,g3⟩:=hm;exact ⟨c',d',ra.K8 ra' s.st.le g1,rb.K8 rb2 s.st.le g2,g3⟩
 ·intro l' hl'
  rcases Gz.1 hl' with rfl|hl'
  ·exact (ra.lb _ (jJ hc)).1
  ·exact h.lb l' hl'
theorem ow.fail (h:ow U S0 S a b D) (pa:jd S0 a) (pb:jd S0 b) (ra:dK U S a x p) (rb:dK U S b y q) (hk:av a.k=true) (hab:b.k=a.k) {l:Lb} {c d:Ut} (hc:aL l x=some c) (hd:aL l y=some d) (s:pX S c d):pX S0 a b:=by
 obtain ⟨k8,k0,_⟩:=bJ hk;have lZ:=rb.of;rw [hab] at lZ;exact h.lp.fail pa pb (BP ra.of lZ k0 hc hd) s
theorem ow.less (h:ow U S0 S a b D) (ra:dK U S a x p) (rb:dK U S b y q) {l:Lb} {c d:Ut} (hl:l∉D) (hc:aL l x=some c) (hd:aL l y=some d):
  S.un+(aJ c+aJ d)<S0.un+(aJ a+aJ b)\/S.un+(aJ c+aJ d)=S0.un+(aJ a+aJ b)/\S=S0/\gL (inst S.σ c)+gL (inst S.σ d)<gL (inst S.σ a)+gL (inst S.σ b):=by
 have ec:=mZ hl hc;have ed:=mZ hl hd;rw [iD ra,iD ra] at ec;rw [iD rb,iD rb] at ed;have h2:=h.un;have l1:=ra.less (bR hc);have l2:=rb.less (bR hd);have l1:gL (inst S.σ c)<_:=l1;have l2:gL (inst S.σ d)<_:=l2;rcases h.ch with e|e
 ·rcases abE (S.un+(aJ c+aJ d)) (S0.un+(aJ a+aJ b)) with g|g
  ·exact .inl g
  ·exact .inr ⟨by omega,e,by omega⟩
 ·exact .inl (by omega)
theorem ow.shared (h:ow U S0 S a b D) (ra:dK U S a x p) (rb:dK U S b y q) (hD:∀l,l∈ay x->l∈ay y->l∈D):Shared S x y:=by
 intro l c d hc hd τ hτ;obtain ⟨c',d',g1,g2,g3⟩:=h.dn l (hD l (jJ hc) (jJ hd)) x p y q ra rb;rw [hc] at g1;rw [hd] at g2;injection g1 with g1
 injection g2 with g2
 subst g1 g2;exact g3 τ hτ
theorem ow.stop (h:ow U S0 S a b D) (pa:jd S0 a) (pb:jd S0 b) (ra:dK U S a x p) (rb:dK U S b y q) (s:Done U S S' (bF a b) (bG (au x y)+bG (au y x))):Done U S0 S' (bF a b) (aJ a+aJ b):=by
 have e1:bG (au x y)<=qN D a.fs:=by
  rw [<-iD ra]
  exact Dp fun l hl=>by
   obtain ⟨_,_,_,g2,_⟩:=h.dn l hl x p y q ra rb;exact jJ g2
 have e2:bG (au y x)<=qN D b.fs:=by
  rw [<-iD rb]
  exact Dp fun l hl=>by
   obtain ⟨_,_,g1,_,_⟩:=h.dn l hl x p y q ra rb;exact jJ g1
 have h1:=s.un;have h2:=h.un;have h3:=s.m;have h4:=h.m;refine ⟨s.kg,h.lp.stop pa pb s.st,by omega,?_,by omega⟩;rcases s.ch with e|e
 ·subst e
  rcases h.ch with e|e
  ·exact .inl e
  ·exact .inr (by omega)
 ·exact .inr (by omega)
theorem ow.dis (h:ow U S0 S a b D) (pa:jd S0 a) (pb:jd S0 b) (s:pX S a b):pX S0 a b:=h.lp.fail pa pb (fun _ _ hc=>hc) s
end
structure qC (U:List Lb) (S0 S:Kn) (a b:Ut) (i:Nat):Prop where
 kg:KG U S
 lp:Loop S0 S a b
 un:S.un+(bG (a.fs.drop i)+bG (b.fs.drop i))<=S0.un+(aJ a+aJ b)
 ch:S=S0\/S.un+(bG (a.fs.drop i)+bG (b.fs.drop i))<S0.un+(aJ a+aJ b)
 m:S.m+(S.un:Int)+2*(bG (a.fs.drop i)+bG (b.fs.drop i):Nat)<=S0.m+S0.un+2*(aJ a+aJ b:Nat)
 dn:∀j c d,j<i->a.fs[j]?=some c->b.fs[j]?=some d->∀τ,S.Sat τ->bF c.2 d.2 τ
structure Like (a b:Ut):Prop where
 k:b.k=a.k
 k0:a.k≠0
 k8:a.k≠8
 row:av a.k=false
section
variable {U:List Lb} {S0 S S':Kn} {a b:Ut} {i:Nat}
theorem Like.FB (h:Like a b) (ga:TG U S0 a) (gb:TG U S0 b):ay a.fs=ay b.fs:=by
 obtain ⟨k,n,fs,tl⟩:=a;obtain ⟨k',n',gs,tl'⟩:=b;have hk:k'=k:=h.k;subst hk;have h8:k'≠8:=h.k8;have hr:av k'=false:=h.row;have s1:=ga.sh;have s2:=gb.sh;rw [iV] at s1 s2;obtain ⟨⟨_,_,a5,a6⟩,_⟩:=s1;obtain ⟨⟨_,_,b5,b6⟩,_⟩:=s2;show ay fs=ay gs;by_cases e:k'=5
 ·obtain ⟨⟨_,_,rfl⟩,_⟩:=a5 e
  obtain ⟨⟨_,_,rfl⟩,_⟩:=b5 e;rfl
 ·rw [(a6 e hr).1,(b6 e hr).1]
theorem Like.len (h:Like a b) (ga:TG U S0 a) (gb:TG U S0 b):a.fs.length=b.fs.length:=by
 have:=congrArg RB (h.FB ga gb);simpa [ay] using this
theorem qC.start (h:KG U S) (a b:Ut):qC U S S a b 0:=
 ⟨h,Loop.start h.inv a b,by have:=uQ a;have:=uQ b;simp only [Kk];omega,.inl rfl,by have:=uQ a;have:=uQ b;simp only [Kk];omega,fun j c d hj=>by omega⟩
theorem yU {fs:Fl} (hn:(ay fs).Nodup) {j:Nat} {c:Lb×Ut} (h:fs[j]?=some c):aL c.1 fs=some c.2:=jR hn (Yt h)
theorem Like.child (h:Like a b) (ga:TG U S0 a) (gb:TG U S0 b) {j:Nat} {c d:Lb×Ut} (hc:a.fs[j]?=some c) (hd:b.fs[j]?=some d):c.1=d.1:=by
 have e:=h.FB ga gb;have h1:(ay a.fs)[j]?=some c.1:=by simp [ay,hc]
 have h2:(ay b.fs)[j]?=some d.1:=by simp [ay,hd]
 rw [e,h2] at h1;injection h1 with h1
 exact h1.symm
theorem Like.iff (h:Like a b) (ga:TG U S0 a) (gb:TG U S0 b) (τ:Va):bF a b τ↔∀(j:Nat) (c d:Lb×Ut),a.fs[j]?=some c->b.fs[j]?=some d->bF c.2 d.2 τ:=by
 have hl:=h.FB ga gb;have hln:=h.len ga gb;have hch:∀{j:Nat} {c d:Lb×Ut},a.fs[j]?=some c->b.fs[j]?=some d->c.1=d.1:=fun hc hd=>h.child ga gb hc hd;obtain ⟨k,n,fs,tl⟩:=a;obtain ⟨k',n',gs,tl'⟩:=b;have hk:k'=k:=h.k;subst hk;have h8:k'≠8:=h.k8;have h0:k'≠0:=h.k0;have hr:av k'=false:=h.row;obtain ⟨rfl,_⟩:=mQ (S:=S0) ga.pend.1 ga.sh h8 hr;obtain rfl:=rU ga.pend.1 h8 h0;obtain ⟨rfl,_⟩:=mQ (S:=S0) gb.pend.1 gb.sh h8 hr;obtain rfl:=rU gb.pend.1 h8 h0;have n1:=ga.pend.1;have n2:=gb.pend.1;rw [bK] at n1 n2;have n1:=n1.1.1;have n2:=n2.1.1;rw [abO h0 h8 n1 n2];have hl:ay fs=ay gs:=hl;constructor
 ·intro hc j c d h1 h2
  have e:=hch h1 h2;have:=hc c.1;rw [yU n1 h1,e,yU n2 h2] at this;exact this
 ·intro hc l
  cases h1:aL l fs with
  |none=>
   rw [bP,hl,<-bP] at h1;rw [h1]
   trivial
  |some c=>
   obtain ⟨j,hj⟩:=acr (bR h1)
   have hjl:j<fs.length:=by
    rcases abE j fs.length with g|g
    ·exact g
    ·rw [AO g] at hj;cases hj
   have hln:fs.length=gs.length:=hln;have hd:gs[j]?=some (gs[j]'(by omega)):=jr (by omega);have e:=hch hj hd;have h2:=yU n2 hd;rw [<-e] at h2;rw [h2];exact hc j _ _ hj hd
theorem qO {fs:Fl} {i:Nat} {c:Lb×Ut} (h:fs[i]?=some c):bG (fs.drop i)=aJ c.2+bG (fs.drop (i+1)):=by
 have hl:i<fs.length:=by
  rcases abE i fs.length with g|g
  ·exact g
  ·rw [AO g] at h;cases h
 rw [List.drop_eq_getElem_cons hl,cB];rw [jr hl] at h;injection h with h
 rw [h]
theorem qC.next (h:qC U S0 S a b i) (l:Like a b) (ga:TG U S0 a) (gb:TG U S0 b) {c d:Lb×Ut} (hc:a.fs[i]?=some c) (hd:b.fs[i]?=some d) (s:Done U S S' (bF c.2 d.2) (aJ c.2+aJ d.2)):qC U S0 S' a b (i+1):=by
 have e1:=qO hc;have e2:=qO hd;have h1:=s.un;have h2:=h.un;have h3:=s.m;have h4:=h.m;refine ⟨s.kg,h.lp.next ga.pend gb.pend (fun τ _ hcd=>(l.iff ga gb τ).1 hcd i c d hc hd) s.st,by omega,?_,by omega,?_⟩
 ·rcases s.ch with e|e
  ·subst e
   rcases h.ch with e|e
   ·exact .inl e
   ·exact .inr (by omega)
  ·exact .inr (by omega)
 ·intro j c' d' hj hc' hd' τ hτ
  by_cases e:j=i
  ·subst e
   rw [hc] at hc';rw [hd] at hd';injection hc' with hc'
   injection hd' with hd'
   subst hc' hd';exact s.st.co τ hτ
  ·have bc:jf S.m c'.2:=by
    obtain ⟨k,n,fs,tl⟩:=a;exact gQ h.lp.le.m _ (ga.child (Yt hc')).pend.2
   have bd:jf S.m d'.2:=by
    obtain ⟨k,n,fs,tl⟩:=b;exact gQ h.lp.le.m _ (gb.child (Yt hd')).pend.2
   exact KV s.st.le (h.dn j c' d' (by omega) hc' hd') bc bd τ hτ
theorem qC.fail (h:qC U S0 S a b i) (l:Like a b) (ga:TG U S0 a) (gb:TG U S0 b) {c d:Lb×Ut} (hc:a.fs[i]?=some c) (hd:b.fs[i]?=some d) (s:pX S c.2 d.2):pX S0 a b:=
 h.lp.fail ga.pend gb.pend (fun τ _ hcd=>(l.iff ga gb τ).1 hcd i c d hc hd) s
theorem qC.less (h:qC U S0 S a b i) (l:Like a b) (ga:TG U S0 a) (gb:TG U S0 b) {c d:Lb×Ut} (hc:a.fs[i]?=some c) (hd:b.fs[i]?=some d):
  S.un+(aJ c.2+aJ d.2)<S0.un+(aJ a+aJ b)\/S.un+(aJ c.2+aJ d.2)=S0.un+(aJ a+aJ b)/\S=S0/\gL (inst S.σ c.2)+gL (inst S.σ d.2)<gL (inst S.σ a)+gL (inst S.σ b):=by
 have e1:=qO hc;have e2:=qO hd;have h2:=h.un
 have l1:gL (inst S.σ c.2)<gL (inst S.σ a):=by
  obtain ⟨k,n,fs,tl⟩:=a;exact qM (ga.later h.lp.le).pend.1 ga.sh l.k8 l.row (Yt hc)
 have l2:gL (inst S.σ d.2)<gL (inst S.σ b):=by
  have k8:=l.k8;have kr:=l.row;rw [<-l.k] at k8 kr;obtain ⟨k,n,fs,tl⟩:=b;exact qM (gb.later h.lp.le).pend.1 gb.sh k8 kr (Yt hd)
 rcases h.ch with e|e
 ·rcases abE (S.un+(aJ c.2+aJ d.2)) (S0.un+(aJ a+aJ b)) with g|g
  ·exact .inl g
  ·exact .inr ⟨by omega,e,by omega⟩
 ·exact .inl (by omega)
theorem qC.stop (h:qC U S0 S a b i) (l:Like a b) (ga:TG U S0 a) (gb:TG U S0 b) (hi:a.fs.length<=i):Done U S0 S (bF a b) (aJ a+aJ b):=by
 have h2:=h.un;have h4:=h.m;refine ⟨h.kg,h.lp.stop ga.pend gb.pend (.none h.kg.inv fun τ hτ=>(l.iff ga gb τ).2 fun j c d hc hd=>?_),by omega,?_,by omega⟩
 ·have hj:j<a.fs.length:=by
   rcases abE j a.fs.length with g|g
   ·exact g
   ·rw [AO g] at hc;cases hc
  exact h.dn j c d (by omega) hc hd τ hτ
 ·exact h.ch.imp id fun k=>by omega
theorem qC.tg (h:qC U S0 S a b i) {t:Ut} (g:TG U S0 t):TG U S t:=g.later h.lp.le
end
inductive ko:List Nd->Prop
 |mk (x:Nd) (aG:List (List Nd)) (ok:bX x.k x.n=true) (k9:x.k≠9) (tr:Trees (manyN x) aG.flatten aG) (ch:∀ts∈bI aG,ko ts)
   (row:av x.k=true->(dW (bI aG)).Pairwise (fun a b=>dz a b=true)/\∀l∈dW (bI aG),bV x.k l=true)
   (els:av x.k=false->jA aG=[]/\∀l∈dW aG,l=pR)
   (tl:∀ts∈jA aG,∃n,0<=n/\ts=[⟨9,pR,n⟩]):ko (x::aG.flatten)
theorem Ca {s:ByteArray} (h:s.size=0):s=pR:=by
 apply ByteArray.ext;exact Array.eq_empty_of_size_eq_zero h
theorem aew {a b:ByteArray} (h:YP a b=false):dz b a=true:=by
 unfold YP at h;rw [acE] at h
 cases e:dz b a with
 |true=>rfl
 |false=>
  have:=xQ (show dz a b=false from h.1) e;subst this;simp at h
theorem K9 {y:Nd} (ho:bX y.k y.n=true) (hr:av y.k=true):(0:Int)+(manyN y:Nat)=y.n:=by
 have:=congrArg Nd.n (abt ho hr);simpa using this
theorem xY (t:List Nd) (l:List (List Nd)):dW (t::l)=(bB t).s::dW l:=rfl
theorem ahb {f:Nat} {x:Nd} {k:Int} {last:ByteArray} {d:Nat} {ks:List Nd} (h:yM f x k last d ks):(av x.k=true->k+d=x.n)->
  (∀ts∈bI (bC d ks),ko ts)/\(av x.k=true->(dW (bI (bC d ks))).Pairwise (fun a b=>dz a b=true)/\∀l∈dW (bI (bC d ks)),bV x.k l=true/\dz last l=true)/\
   (av x.k=false->jA (bC d ks)=[]/\∀l∈dW (bC d ks),l=pR)/\∀ts∈jA (bC d ks),∃n,0<=n/\ts=[⟨9,pR,n⟩]:=by
 induction h with
 |nil=>intro _;exact ⟨by simp [bC,bI,gN],fun _=>by simp [bC,bI,gN,dW],fun _=>by simp [bC,jA,gN,dW],by simp [bC,jA,gN]⟩
 |@cons f x k last d y ks rs ho hc h1 h2 i1 i2=>
  intro hx;have hf1:=h1.fo;rw [Fb hf1];obtain ⟨a1,a2,a3,a4⟩:=i1 fun hr=>K9 ho hr;have tr:=vW hf1;by_cases h9:y.k=9
  ·unfold uJ at hc
   rw [if_pos h9] at hc;simp only [DC,acs,decide_eq_false_iff_not,decide_eq_true_eq] at hc;have hd0:d=0:=by have:=hx hc.1.1;omega
   subst hd0;have hm:manyN y=0:=by unfold manyN many;simp [h9,av]
   rw [hm] at hf1;rw [hf1.wG]
   have hy:y=⟨9,pR,y.n⟩:=by
    obtain ⟨k,s,n⟩:=y;simp only at h9;subst h9;have:=Ca hc.2;simp only at this;subst this;rfl
   have hn:0<=y.n:=by
    unfold bX at ho;rw [if_pos (by omega)] at ho;simpa using ho
   have tb:gN [[y]]=true:=by simp [gN,bB,h9]
   refine ⟨?_,fun _=>?_,fun e=>?_,fun ts hts=>?_⟩
   ·simp [bC,bI,tb]
   ·simp [bC,bI,tb,dW]
   ·rw [hc.1.1] at e;cases e
   ·simp [bC,jA,tb] at hts
    exact ⟨y.n,hn,by rw [hts,<-hy]⟩
  ·have gy:ko (y::ks):=by
    rw [<-tr.flat];exact .mk y _ ho h9 (by rw [tr.flat];exact tr) a1 (fun hr=>⟨(a2 hr).1,fun l hl=>((a2 hr).2 l hl).1⟩) a3 a4
   unfold uJ at hc;rw [if_neg h9] at hc;simp only [DC,acs,Bool.and_eq_false_iff] at hc;obtain ⟨b1,b2,b3,b4⟩:=i2 fun hr=>by have:=hx hr;omega
   have hL:∀R:List (List Nd),R=bC d rs->bI ((y::ks)::R)=(y::ks)::bI R/\jA ((y::ks)::R)=jA R:=by
    intro R _
    cases R with
    |nil=>simp [bI,jA,gN,bB,h9]
    |cons r R=>exact ⟨Y_ (by simp),Y9 (by simp)⟩
   obtain ⟨e1,e2⟩:=hL _ rfl;rw [e1,e2];refine ⟨fun ts hts=>?_,fun hr=>?_,fun hr=>?_,b4⟩
   ·rcases Gz.1 hts with rfl|hts
    ·exact gy
    ·exact b1 ts hts
   ·have hl:dz last y.s=true:=by
     rcases hc.2 with e|e
     ·rw [hr] at e;cases e
     ·exact aew e
    have hlb:bV x.k y.s=true:=by
     have:=hc.1;unfold eZ at this;unfold bV;unfold av at hr;split
     ·next e=>rw [if_pos e] at this;exact this
     ·next e=>rw [if_neg e] at this;split<;>simp_all
    refine ⟨?_,fun l hl'=>?_⟩
    ·rw [xY,List.pairwise_cons]
     exact ⟨fun l hl'=>((b2 hr).2 l hl').2,(b2 hr).1⟩
    ·rw [xY] at hl'
     rcases Gz.1 hl' with rfl|hl'
     ·exact ⟨hlb,hl⟩
     ·exact ⟨((b2 hr).2 l hl').1,og hl ((b2 hr).2 l hl').2⟩
   ·refine ⟨(b3 hr).1,fun l hl'=>?_⟩
    rw [xY] at hl';rcases Gz.1 hl' with rfl|hl'
    ·have:=hc.1
     unfold eZ at this;simp only [av,acE,beq_eq_false_iff_ne,ne_eq] at hr;rw [if_neg hr.1,if_neg hr.2] at this;exact Ca (of_decide_eq_true this)
    ·exact (b3 hr).2 l hl'
theorem tT {T:List Nd} (h:kY T=true):ko T/\(bB T).s=pR/\T.length<=10000:=by
 obtain ⟨y,ks,I⟩:=XT h;obtain ⟨a1,a2,a3,a4⟩:=ahb I.rt fun hr=>K9 I.ok hr;have tr:=vW I.rt.fo;refine ⟨?_,by rw [I.eq];exact I.s,I.len⟩;rw [I.eq,<-tr.flat];exact .mk y _ I.ok I.k (by rw [tr.flat];exact tr) a1 (fun hr=>⟨(a2 hr).1,fun l hl=>((a2 hr).2 l hl).1⟩) a3 a4
def jk (k:Int) (rs:List (List Nd)):List Lb:=if k=5 then [lA,lB] else dW rs
def u6 (rs:List (List Nd)):Option Int:=(jA rs).head?.map fun t=>(bB t).n
def Td:Nat->List Nd->Ut
 |0,_=>.mk 0 0 [] none
 |_+1,[]=>.mk 0 0 [] none
 |f+1,x::ks=>.mk x.k (if x.k=8 then x.n else 0) ((jk x.k (bI (bC (manyN x) ks))).zip ((bI (bC (manyN x) ks)).map (Td f))) (u6 (bC (manyN x) ks))
def dI (ts:List Nd):Ut:=Td ts.length ts
theorem yV {l:List (List Nd)} {t:List Nd} (h:t∈bI l):t∈l:=by
 rw [<-lN l];exact aaR _ h
theorem Zz:∀(f g:Nat) (ts:List Nd),ts.length<=f->ts.length<=g->Td f ts=Td g ts:=by
 intro f
 induction f with
 |zero=>
  intro g ts h _;obtain rfl:=kZ (Nat.le_zero.1 h)
  cases g<;>rfl
 |succ f ih=>
  intro g ts h1 h2
  cases ts with
  |nil=>cases g<;>rfl
  |cons x ks=>
   cases g with
   |zero=>simp at h2
   |succ g=>
    have:(bI (bC (manyN x) ks)).map (Td f)=(bI (bC (manyN x) ks)).map (Td g):=
     Vg fun t ht=>by
      have:=lQ _ _ t (yV ht);simp only [Bl] at h1 h2;exact ih g t (by omega) (by omega)
    simp only [Td,this]
theorem jM {x:Nd} {aG:List (List Nd)} (tr:Trees (manyN x) aG.flatten aG):
  dI (x::aG.flatten)= .mk x.k (if x.k=8 then x.n else 0) ((jk x.k (bI aG)).zip ((bI aG).map dI)) (u6 aG):=by
 unfold dI;simp only [Bl,Td];rw [<-tr.uniq]
 congr 2
 refine Vg fun t ht=>Zz _ _ t ?_ (bN _);have h1:=yV ht;have h2:t∈bC (manyN x) aG.flatten:=tr.uniq▸h1;exact lQ _ _ t h2
structure vQ (k n:Int) (fs:Fl) (tl:Option Int):Prop where
 nd:(ay fs).Nodup
 lf:k=0\/k=8->fs=[]/\tl=none
 n0:k≠8->k≠0->n=0
 n8:k=8\/k=0->0<=n
 sh:zW k fs tl
 row:av k=true->dY fs/\∀l∈ay fs,bV k l=true
 tn:∀p,tl=some p->0<=p
 len:av k=true->fs.length+(aP tl).length<=50
 un:k=7->0<fs.length+(aP tl).length
def gD:Ut->Prop
 | .mk k n fs tl=>vQ k n fs tl/\∀p∈fs,gD p.2
termination_by t=>SizeOf.sizeOf t
decreasing_by exact Ut.fZ (by assumption)
theorem bU {k n:Int} {fs:Fl} {tl:Option Int}:gD (.mk k n fs tl)↔vQ k n fs tl/\∀p∈fs,gD p.2:=by rw [gD]
theorem qD:∀{ls:List Lb} {us:List Ut},ls.length=us.length->ay (ls.zip us)=ls
 |[],[],_=>rfl
 |l::ls,u::us,h=>by
  have:=qD (ls:=ls) (us:=us) (by simpa using h);simp only [ay,abF,Bn] at this ⊢
  rw [this]
 |[],_::_,h=>by simp at h
 |_::_,[],h=>by simp at h
theorem yX {ls:List Lb} {us:List Ut} {p:Lb×Ut} (h:p∈ls.zip us):p.2∈us:=(List.of_mem_zip h).2
theorem FC (aG:List (List Nd)):jA aG=[]\/∃t,jA aG=[t]:=by
 unfold jA;split
 ·next h=>
  rcases Nat.eq_zero_or_pos aG.length with e|e
  ·left;rw [kZ e];rfl
  ·right
   have:(aG.drop (aG.length-1)).length=1:=by rw [List.length_drop];omega
   exact List.length_eq_one_iff.1 this
 ·exact .inl rfl
theorem FD (aG:List (List Nd)):(bI aG).length+(jA aG).length=aG.length:=by
 have:=congrArg RB (lN aG);simpa using this
theorem K_ {aG:List (List Nd)} (h:∀ts∈jA aG,∃n,0<=n/\ts=[⟨9,pR,n⟩]):aP (u6 aG)=(jA aG).flatten/\(aP (u6 aG)).length=(jA aG).length/\∀p,u6 aG=some p->0<=p/\jA aG=[[⟨9,pR,p⟩]]:=by
 rcases FC aG with e|⟨t,e⟩
 ·unfold u6;rw [e];exact ⟨rfl,rfl,fun p hp=>by simp at hp⟩
 ·obtain ⟨n,h0,ht⟩:=h t (by rw [e];simp)
  unfold u6;rw [e,ht];refine ⟨rfl,rfl,fun p hp=>?_⟩;simp [bB] at hp;subst hp;exact ⟨h0,rfl⟩
theorem Cb {x:Nd} {aG:List (List Nd)} (ok:bX x.k x.n=true) (k9:x.k≠9) (tr:Trees (manyN x) aG.flatten aG):
  (x.k=5/\x.n=0/\∃a b,aG=[a,b])\/(av x.k=true/\x.n=(aG.length:Nat)/\aG.length<=50/\(x.k=7->0<aG.length))\/(x.k≠5/\av x.k=false/\aG=[]/\0<=x.k/\x.k<=8/\(x.k≠8->x.k≠0->x.n=0)/\0<=x.n):=by
 have hm:=tr.len;unfold bX at ok;by_cases h5:x.k=5
 ·left
  have:manyN x=2:=by unfold manyN many;simp [h5]
  rw [this] at hm;refine ⟨h5,?_,?_⟩
  ·rw [if_neg (by omega),if_neg (by omega),if_neg (by omega)] at ok
   exact (of_decide_eq_true ok).2.2
  ·match aG,hm with
   |[a,b],_=>exact ⟨a,b,rfl⟩
 ·right
  cases hr:av x.k with
  |true=>
   left;have e:=K9 (y:=x) (by unfold bX;exact ok) hr;have AZ:x.k=6\/x.k=7:=by simpa [av] using hr
   refine ⟨rfl,by rw [<-e,hm];omega,?_,fun h7=>?_⟩
   ·rw [hm]
    rcases AZ with h|h
    ·rw [if_neg (by omega),if_pos h] at ok
     have:=(of_decide_eq_true ok).2;omega
    ·rw [if_neg (by omega),if_neg (by omega),if_pos h] at ok
     have:=(of_decide_eq_true ok).2;omega
   ·rw [if_neg (by omega),if_neg (by omega),if_pos h7] at ok
    have:=(of_decide_eq_true ok).1
    omega
  |false=>
   right;have:manyN x=0:=by unfold manyN many;simp [h5,hr]
   rw [this] at hm;have AZ:x.k≠6/\x.k≠7:=by simpa [av] using hr
   refine ⟨h5,rfl,kZ hm,?_⟩;split at ok
   ·next h=>have:=of_decide_eq_true ok;omega
   ·next h=>
    rw [if_neg AZ.1,if_neg AZ.2] at ok;have:=of_decide_eq_true ok;omega
theorem J_ {aG:List (List Nd)} (h:jA aG=[]):bI aG=aG:=by
 have:=lN aG;rw [h,ER] at this;exact this
theorem nK (l:List (List Nd)):(dW l).length=l.length:=by simp [dW]
theorem OB {ls:List Lb} {us:List Ut} (hl:ls.length=us.length) (h:ls.Pairwise fun a b=>dz a b=true):dY (ls.zip us):=by
 unfold dY;have:(ay (ls.zip us)).Pairwise fun a b=>dz a b=true:=by rw [qD hl];exact h
 exact acK.1 this
theorem EB {ts:List Nd} (h:ko ts):gD (dI ts):=by
 induction h with
 |mk x aG ok k9 tr ch row els tl ih=>
  rw [jM tr,bU];refine ⟨?_,fun p hp=>?_⟩
  ·obtain ⟨t1,t2,t3⟩:=K_ tl
   rcases Cb ok k9 tr with ⟨h5,hn,a,b,rfl⟩|⟨hr,hn,hl,hu⟩|⟨h5,hr,rfl,h0,h8,hn0,hnn⟩
   ·have hr:av x.k=false:=by rw [h5];rfl
    have e:=(els hr).1;have e2:u6 [a,b]=none:=by unfold u6;rw [e];rfl
    rw [J_ e,e2,h5];refine ⟨(show [lA,lB].Nodup by decide),by omega,fun _=>by simp,by omega,⟨by omega,by omega,fun _=>⟨⟨_,_,rfl⟩,rfl⟩,fun e=>absurd rfl e⟩,fun e=>(by simp [av] at e),fun p hp=>(by cases hp),fun e=>(by simp [av] at e),by omega⟩
   ·obtain ⟨r1,r2⟩:=row hr
    have AZ:x.k=6\/x.k=7:=by simpa [av] using hr
    have BL:jk x.k (bI aG)=dW (bI aG):=by unfold jk;rw [if_neg (by omega)]
    have hz:(dW (bI aG)).length=((bI aG).map dI).length:=by rw [nK,aaT]
    have hfl:((dW (bI aG)).zip ((bI aG).map dI)).length=(bI aG).length:=by rw [List.length_zip,nK,aaT,Nat.min_self]
    have hlt:=FD aG;rw [BL];refine ⟨?_,by omega,fun e _=>if_neg e,by omega,⟨by omega,by omega,by omega,fun _ e=>(by rw [hr] at e;cases e)⟩,fun _=>⟨OB hz r1,by rw [qD hz];exact r2⟩,fun p hp=>(t3 p hp).1,fun _=>by rw [hfl,t2];omega,fun h7=>by rw [hfl,t2];have:=hu h7;omega⟩;exact (OB hz r1).nodup
   ·have e2:u6 []=none:=rfl
    have e3:(jk x.k (bI [])).zip ((bI []).map dI)=[]:=by simp [bI,gN]
    rw [e2,e3];refine ⟨ab8,fun _=>⟨rfl,rfl⟩,fun e _=>if_neg e,fun _=>(by split<;>omega),⟨h0,h8,fun e=>absurd e h5,fun _ _=>⟨rfl,rfl⟩⟩,fun e=>(by rw [hr] at e;cases e),fun p hp=>(by cases hp),fun e=>(by rw [hr] at e;cases e),fun e=>by rw [e] at hr;cases hr⟩
  ·obtain ⟨t,ht,hpt⟩:=aaN.1 (yX hp)
   rw [<-hpt];exact ih t ht
theorem ko.fo {ts:List Nd} (h:ko ts):Fo 1 ts:=by
 cases h with
 |mk x aG ok k9 tr ch row els tl=>
  have:=Fo.cons (n:=0) tr.fo Fo.zero;simpa using this
theorem ko.ne {ts:List Nd} (h:ko ts):ts≠[]:=by cases h;simp
theorem Ka {L:List (List Nd)} {tl:Option Int} (h:∀t∈L,(bB t).k≠9):bI (L++(aP tl).map fun x=>[x])=L/\jA (L++(aP tl).map fun x=>[x])=(aP tl).map fun x=>[x]:=by
 cases tl with
 |none=>
  have e:gN L=false:=by
   unfold gN
   cases e:L.getLast? with
   |none=>rfl
   |some t=>simpa using h t (List.mem_of_getLast? e)
  simp [aP,bI,jA,e]
 |some p=>
  have e:gN (L++[[⟨9,pR,p⟩]])=true:=by simp [gN,bB]
  simp [aP,bI,jA,e]
theorem kN (fs:Fl):jv fs=(fs.map fun p=>aB p.1 p.2).flatten:=by
 induction fs with
 |nil=>rw [lT];rfl
 |cons p fs ih=>rw [fq,ih,Bn,Ry]
theorem oU {t:Ut} (s:Lb):(bB (aB s t)).s=s/\(bB (aB s t)).k=t.k:=by
 obtain ⟨k,n,fs,tl⟩:=t;rw [bY];split<;>exact ⟨rfl,rfl⟩
theorem gD.k9 {t:Ut} (h:gD t):t.k≠9:=by
 obtain ⟨k,n,fs,tl⟩:=t;rw [bU] at h;have:=h.1.sh.2.1;show k≠9;omega
noncomputable def jE:Ut->Ut
 | .mk k n fs tl=>.mk k (if k=0 then 0 else n) (fs.attach.map fun p=>(p.1.1,jE p.1.2)) tl
termination_by t=>SizeOf.sizeOf t
decreasing_by exact Ut.fZ p.2
theorem lU (k n:Int) (fs:Fl) (tl:Option Int):jE (.mk k n fs tl)= .mk k (if k=0 then 0 else n) (aI jE fs) tl:=by
 rw [jE]
 congr 1
 exact acL (l:=fs) (f:=fun p:Lb×Ut=>(p.1,jE p.2))
theorem abV (fs:Fl):(ay fs).zip (fs.map fun p=>jE p.2)=aI jE fs:=by
 induction fs with
 |nil=>rfl
 |cons p fs ih=>simp only [ay,aI,Bn,abF] at ih ⊢;rw [ih]
theorem La:∀t,gD t->∀s,ko (aB s t)/\dI (aB s t)=jE t:=by
 refine Ut.ind fun k n fs tl ih h s=>?_;rw [bU] at h;obtain ⟨h,hc⟩:=h;have ih':∀p∈fs,∀s,ko (aB s p.2)/\dI (aB s p.2)=jE p.2:=fun p hp s=>ih p hp (hc p hp) s;obtain ⟨k0,k8,s5,sE⟩:=h.sh;rw [bY,lU]
 cases hr:av k with
 |true=>
  have AZ:k=6\/k=7:=by simpa [av] using hr
  have h9:∀t∈fs.map (fun p=>aB p.1 p.2),(bB t).k≠9:=fun t ht=>by
   obtain ⟨p,hp,rfl⟩:=aaN.1 ht;have:=(oU (t:=p.2) p.1).2;rw [this];exact (hc p hp).k9
  obtain ⟨e1,e2⟩:=Ka (tl:=tl) h9
  have efl:jv fs++aP tl=(fs.map (fun p=>aB p.1 p.2)++(aP tl).map fun x=>[x]).flatten:=by
   rw [List.flatten_append,kN]
   congr 1
   cases tl<;>rfl
  rw [if_pos rfl,efl]
  have hm:manyN ⟨k,s,((fs.length+(aP tl).length:Nat):Int)⟩=fs.length+(aP tl).length:=by
   unfold manyN many;rw [if_neg (by show k≠5;omega),if_pos hr];exact Int.toNat_natCast _
  have tr:Trees (manyN ⟨k,s,((fs.length+(aP tl).length:Nat):Int)⟩) (fs.map (fun p=>aB p.1 p.2)++(aP tl).map fun x=>[x]).flatten (fs.map (fun p=>aB p.1 p.2)++(aP tl).map fun x=>[x]):=by
   refine ⟨by rw [hm];simp,rfl,fun ts hts=>?_⟩;rcases JQ.1 hts with hts|hts
   ·obtain ⟨p,hp,rfl⟩:=aaN.1 hts
    exact (ih' p hp p.1).1.fo
   ·obtain ⟨x,hx,rfl⟩:=aaN.1 hts
    cases tl with
    |none=>cases hx
    |some q=>
     simp only [aP,aaW] at hx;subst hx;rfl
  have el:dW (fs.map fun p=>aB p.1 p.2)=ay fs:=by
   unfold dW ay;rw [abL];exact Vg fun p _=>(oU p.1).1
  constructor
  ·refine .mk _ _ ?_ (by show k≠9;omega) tr (fun ts hts=>?_) (fun _=>?_) (fun e=>by rw [hr] at e;cases e) (fun ts hts=>?_)
   ·have:=h.len hr
    have:=h.un;show bX k _=true;unfold bX;rw [if_neg (by omega)];split
    ·simp;omega
    ·rw [if_pos (by omega)];simp;omega
   ·rw [e1] at hts
    obtain ⟨p,hp,rfl⟩:=aaN.1 hts;exact (ih' p hp p.1).1
   ·rw [e1,el]
    exact ⟨acK.2 (h.row hr).1,(h.row hr).2⟩
   ·rw [e2] at hts
    cases tl with
    |none=>cases hts
    |some q=>
     simp only [aP,Bn,abM,aaW] at hts;exact ⟨q,h.tn q rfl,hts⟩
  ·rw [jM tr,e1]
   have BL:jk k (fs.map fun p=>aB p.1 p.2)=ay fs:=by unfold jk;rw [if_neg (by omega),el]
   have hn:=h.n0 (by omega) (by omega)
   have hmm:(fs.map fun p=>aB p.1 p.2).map dI=fs.map fun p=>jE p.2:=by
    rw [abL];exact Vg fun p hp=>(ih' p hp p.1).2
   have ht:u6 (fs.map (fun p=>aB p.1 p.2)++(aP tl).map fun x=>[x])=tl:=by
    unfold u6;rw [e2]
    cases tl<;>rfl
   rw [hmm,ht];show Ut.mk k (if k=8 then _ else 0) ((jk k _).zip _) tl=_
   rw [BL,abV,if_neg (by omega),if_neg (by omega),hn]
 |false=>
  rw [if_neg (by simp)];by_cases h5:k=5
  ·obtain ⟨⟨a,b,rfl⟩,rfl⟩:=s5 h5
   have hn:=h.n0 (by omega) (by omega);subst hn h5;obtain ⟨a1,a2⟩:=ih' (lA,a) (by simp) pR;obtain ⟨b1,b2⟩:=ih' (lB,b) (by simp) pR
   have efl:nV [(lA,a),(lB,b)]=[aB pR a,aB pR b].flatten:=by
    rw [gT,gT,gH];rfl
   have tr:Trees (manyN ⟨5,s,0⟩) [aB pR a,aB pR b].flatten [aB pR a,aB pR b]:=by
    refine ⟨rfl,rfl,fun ts hts=>?_⟩;simp only [Gz,abo,or_false] at hts;rcases hts with rfl|rfl
    ·exact a1.fo
    ·exact b1.fo
   have e1:=Ka (L:=[aB pR a,aB pR b]) (tl:=none) fun t ht=>by
    have:=fun (u:Ut) (hu:gD u)=>hu.k9;simp only [Gz,abo,or_false] at ht;rcases ht with rfl|rfl
    ·rw [(oU _).2];exact this _ (hc (lA,a) (by simp))
    ·rw [(oU _).2];exact this _ (hc (lB,b) (by simp))
   simp only [aP,abM,ER] at e1;rw [efl];constructor
   ·refine .mk _ _ (by rfl) (by show (5:Int)≠9;decide) tr (fun ts hts=>?_) (fun e=>by cases e) (fun _=>⟨e1.2,fun l hl=>?_⟩) (fun ts hts=>by rw [e1.2] at hts;cases hts)
    ·rw [e1.1] at hts
     simp only [Gz,abo,or_false] at hts;rcases hts with rfl|rfl
     ·exact a1
     ·exact b1
    ·simp only [dW,Bn,abM,Gz,abo,or_false] at hl
     rcases hl with rfl|rfl<;>exact (oU _).1
   ·rw [jM tr,e1.1]
    have ht:u6 [aB pR a,aB pR b]=none:=by unfold u6;rw [e1.2];rfl
    rw [ht];simp only [Bn,abM,a2,b2];rfl
  ·obtain ⟨rfl,rfl⟩:=sE h5 hr
   rw [gH]
   have tr:Trees (manyN ⟨k,s,n⟩) ([]:List (List Nd)).flatten []:=by
    refine ⟨?_,rfl,fun ts hts=>by cases hts⟩;unfold manyN many;rw [if_neg h5,hr];rfl
   have AZ:k≠6/\k≠7:=by simpa [av] using hr
   constructor
   ·refine (show ko (⟨k,s,n⟩::([]:List (List Nd)).flatten) from .mk _ _ ?_ (by show k≠9;omega) tr (fun ts hts=>by simp [bI,gN] at hts) (fun e=>by rw [show av (Nd.mk k s n).k=av k from rfl,hr] at e;cases e) (fun _=>⟨rfl,fun l hl=>by simp [dW] at hl⟩) (fun ts hts=>by simp [jA,gN] at hts))
    show bX k n=true;unfold bX;split
    ·have:=h.n0;have:=h.n8;simp;omega
    ·rw [if_neg AZ.1,if_neg AZ.2];have:=h.n0;simp;omega
   ·rw [show [(⟨k,s,n⟩:Nd)]=⟨k,s,n⟩::([]:List (List Nd)).flatten from rfl,jM tr]
    have e3:(jk k (bI [])).zip ((bI []).map dI)=[]:=by simp [bI,gN]
    show Ut.mk k (if k=8 then n else 0) ((jk k (bI [])).zip ((bI []).map dI)) none=Ut.mk k (if k=0 then 0 else n) [] none;rw [e3]
    congr 1
    have:=h.n0;split<;>split<;>omega
theorem Qf (v:Int):∀t,j_ t->∀s,bL v t↔∃x∈aB s t,bZ x.k=true/\x.n=v:=by
 refine Ut.ind fun k n fs tl ih h s=>?_;rw [iV] at h;obtain ⟨⟨k0,k8,s5,sE⟩,hc⟩:=h;rw [nD,bY]
 have ht:tl=some v↔∃x∈aP tl,bZ x.k=true/\x.n=v:=by
  cases tl with
  |none=>simp [aP]
  |some p=>simp [aP,bZ]
 cases hr:av k with
 |true=>
  have AZ:k=6\/k=7:=by simpa [av] using hr
  rw [if_pos rfl,ht];have hk:bZ k=false:=by unfold bZ;rcases AZ with e|e<;>rw [e]<;>rfl
  constructor
  ·rintro (e|⟨x,hx,e⟩|⟨p,hp,e⟩)
   ·omega
   ·exact ⟨x,abr _ (List.mem_append_right _ hx),e⟩
   ·obtain ⟨x,hx,e⟩:=(ih p hp (hc p hp) p.1).1 e
    exact ⟨x,abr _ (aaR _ (by rw [kN];exact aam.2 ⟨_,aaN.2 ⟨p,hp,rfl⟩,hx⟩)),e⟩
  ·rintro ⟨x,hx,e⟩
   rcases Gz.1 hx with rfl|hx
   ·rw [hk] at e;cases e.1
   ·rcases JQ.1 hx with hx|hx
    ·rw [kN] at hx
     obtain ⟨l,hl,hx⟩:=aam.1 hx;obtain ⟨p,hp,rfl⟩:=aaN.1 hl;exact .inr (.inr ⟨p,hp,(ih p hp (hc p hp) p.1).2 ⟨x,hx,e⟩⟩)
    ·exact .inr (.inl ⟨x,hx,e⟩)
 |false=>
  rw [if_neg (by simp)]
  have hE:∀gs:Fl,nV gs=(gs.map fun p=>aB pR p.2).flatten:=fun gs=>by
   induction gs with
   |nil=>rw [gH];rfl
   |cons p gs ih=>rw [gT,ih,Bn,Ry]
  have ht0:tl=none:=by
   by_cases h5:k=5
   ·exact (s5 h5).2
   ·exact (sE h5 hr).2
  rw [hE];constructor
  ·rintro (⟨e1,e2⟩|e|⟨p,hp,e⟩)
   ·exact ⟨⟨k,s,n⟩,by simp,by rw [e1];rfl,e2⟩
   ·rw [ht0] at e;cases e
   ·obtain ⟨x,hx,e⟩:=(ih p hp (hc p hp) pR).1 e
    exact ⟨x,abr _ (aam.2 ⟨_,aaN.2 ⟨p,hp,rfl⟩,hx⟩),e⟩
  ·rintro ⟨x,hx,e⟩
   rcases Gz.1 hx with rfl|hx
   ·left
    refine ⟨?_,e.2⟩;have:=e.1;simp only [bZ,Bool.or_eq_true,beq_iff_eq] at this;omega
   ·obtain ⟨l,hl,hx⟩:=aam.1 hx
    obtain ⟨p,hp,rfl⟩:=aaN.1 hl;exact .inr (.inr ⟨p,hp,(ih p hp (hc p hp) pR).2 ⟨x,hx,e⟩⟩)
def Ei (U:List Lb):Ut->Prop
 | .mk _ _ fs _=>(∀l∈ay fs,l∈U)/\∀p∈fs,Ei U p.2
termination_by t=>SizeOf.sizeOf t
decreasing_by exact Ut.fZ (by assumption)
theorem uR {U:List Lb} {k n:Int} {fs:Fl} {tl:Option Int}:Ei U (.mk k n fs tl)↔(∀l∈ay fs,l∈U)/\∀p∈fs,Ei U p.2:=by rw [Ei]
def Lc (S:Kn):Ut->Prop
 | .mk k n fs tl=>(k=8->S.L n=none/\n<S.m)/\(∀p,tl=some p->p<S.m/\∃ls,S.L p=some ls/\∀l,l∈ls↔l∈ay fs)/\∀c∈fs,Lc S c.2
termination_by t=>SizeOf.sizeOf t
decreasing_by exact Ut.fZ (by assumption)
theorem FH {S:Kn} {k n:Int} {fs:Fl} {tl:Option Int}:Lc S (.mk k n fs tl)↔(k=8->S.L n=none/\n<S.m)/\(∀p,tl=some p->p<S.m/\∃ls,S.L p=some ls/\∀l,l∈ls↔l∈ay fs)/\∀c∈fs,Lc S c.2:=by rw [Lc]
theorem TG.of {U:List Lb} {S:Kn}:∀t,gD t->Ei U t->Lc S t->TG U S t:=by
 refine Ut.ind fun k n fs tl ih hw hl ht=>?_;rw [bU] at hw;rw [uR] at hl;rw [FH] at ht;obtain ⟨h,hc⟩:=hw;have hk:∀c∈fs,TG U S c.2:=fun c hm=>ih c hm (hc c hm) (hl.2 c hm) (ht.2.2 c hm);refine ⟨⟨?_,?_⟩,?_,?_,?_,?_⟩
 ·rw [bK]
  refine ⟨⟨h.nd,h.lf,fun e=>(ht.1 e).1,h.n0,fun p hp=>?_⟩,fun c hm=>(hk c hm).pend.1⟩;obtain ⟨_,ls,e1,e2⟩:=ht.2.1 p hp;exact ⟨ls,e1,fun l hl=>(e2 l).2 hl⟩
 ·rw [iJ]
  exact ⟨fun e=>(ht.1 e).2,fun p hp=>(ht.2.1 p hp).1,fun c hm=>(hk c hm).pend.2⟩
 ·rw [nR]
  refine ⟨fun q ls hq hL l hl=>?_,fun c hm=>(hk c hm).fu⟩;obtain ⟨_,ls',e1,e2⟩:=ht.2.1 q hq;rw [hL] at e1;injection e1 with e1
  subst e1;exact (e2 l).1 hl
 ·rw [iV]
  exact ⟨h.sh,fun c hm=>(hk c hm).sh⟩
 ·rw [lS]
  exact ⟨h.n8,h.tn,fun c hm=>(hk c hm).nn⟩
 ·rw [gI]
  exact ⟨fun l hm=>⟨hl.1 l hm,fun hr=>(h.row hr).2 l hm⟩,fun c hm=>(hk c hm).lb⟩
def o_ (m0:Int):Ut->Prop
 | .mk k n fs tl=>(k=8->n<m0)/\tl=none/\∀c∈fs,o_ m0 c.2
termination_by t=>SizeOf.sizeOf t
decreasing_by exact Ut.fZ (by assumption)
theorem jF {m0 k n:Int} {fs:Fl} {tl:Option Int}:o_ m0 (.mk k n fs tl)↔(k=8->n<m0)/\tl=none/\∀c∈fs,o_ m0 c.2:=by rw [o_]
theorem o_.ok {S:Kn} {m0:Int} (hL:∀x,x<m0->S.L x=none) (hm:m0<=S.m):∀t,o_ m0 t->Lc S t:=by
 refine Ut.ind fun k n fs tl ih h=>?_;rw [jF] at h;rw [FH];refine ⟨fun e=>⟨hL _ (h.1 e),by have:=h.1 e;omega⟩,fun p hp=>?_,fun c hc=>ih c hc (h.2.2 c hc)⟩;rw [h.2.1] at hp
 cases hp
theorem o_.inst {m0:Int} {τ τ':Va} (h:∀x,x<m0->τ.v x=τ'.v x):∀t,o_ m0 t->Proofs.Ytblfeokjlecgkaa.inst τ t=Proofs.Ytblfeokjlecgkaa.inst τ' t:=by
 refine Ut.ind fun k n fs tl ih ht=>?_;rw [jF] at ht;rw [aK,aK];split
 ·next e=>exact h n (ht.1 e)
 ·rw [ht.2.1,qK fun p hp=>ih p hp (ht.2.2 p hp)]
  rfl
inductive yA where
 |pair (a b:Ut)
 |opn (k:Int) (l:Lb) (v u:Int)
def yA.holds (τ:Va):yA->Prop
 | .pair a b=>bF a b τ
 | .opn k l v u=>∃(R:Fl) (tl:Option Int),τ.v v= .mk k 0 R tl/\aL l R=some (τ.v u)
structure Told (U:List Lb) (m0:Int) (t:Ut):Prop where
 wf:gD t
 lb:Ei U t
 no:o_ m0 t
def yA.Good (U:List Lb) (m0:Int):yA->Prop
 | .pair a b=>Told U m0 a/\Told U m0 b
 | .opn k l v u=>av k=true/\bV k l=true/\l∈U/\0<=v/\v<m0/\0<=u/\u<m0
theorem yA.Good.like {U:List Lb} {m0:Int} {c:yA} (hg:c.Good U m0) {τ τ':Va} (h:∀x,x<m0->τ.v x=τ'.v x) (hc:c.holds τ):c.holds τ':=by
 cases c with
 |pair a b=>
  show Co _ _;rw [<-o_.inst h a hg.1.no,<-o_.inst h b hg.2.no]
  exact hc
 |opn k l v u=>
  obtain ⟨R,tl,e1,e2⟩:=hc;exact ⟨R,tl,by rw [<-h v hg.2.2.2.2.1];exact e1,by rw [<-h u hg.2.2.2.2.2.2];exact e2⟩
theorem Told.tg {U:List Lb} {m0:Int} {S:Kn} {t:Ut} (h:Told U m0 t) (hL:∀x,x<m0->S.L x=none) (hm:m0<=S.m):TG U S t:=TG.of t h.wf h.lb (o_.ok hL hm t h.no)
theorem Most.next {m0:Int} {S S':Kn} {C c:Va->Prop} (h:Most m0 S C) (s:Step S S' c) (hC:∀τ τ':Va,(∀x,x<m0->τ.v x=τ'.v x)->C τ->C τ') (hc:∀τ τ':Va,(∀x,x<m0->τ.v x=τ'.v x)->c τ->c τ'):Most m0 S' fun τ=>C τ/\c τ:=by
 have hm:=h.m;refine ⟨s.inv,Int.le_trans h.m s.le.m,fun x hx=>by rw [s.le.L x (by omega)];exact h.sort x hx,fun τ hτ=>⟨?_,s.co τ hτ⟩,fun τ hs hτ=>?_⟩
 ·obtain ⟨τ0,h0,ha⟩:=s.le.sat τ hτ
  exact hC τ0 τ (fun x hx=>((ha x (by omega)).1).symm) (h.co τ0 h0)
 ·obtain ⟨τ1,h1,e1⟩:=h.gen τ hs hτ.1
  obtain ⟨τ2,h2,a2⟩:=s.gen τ1 h1 (hc τ τ1 e1 hτ.2);exact ⟨τ2,h2,fun x hx=>by rw [e1 x hx];exact (a2 x (by omega)).1⟩
theorem Most.none {m0:Int} {S:Kn} {C c:Va->Prop} (h:Most m0 S C) (d:∀τ,S.Sat τ->¬c τ) (hc:∀τ τ':Va,(∀x,x<m0->τ.v x=τ'.v x)->c τ->c τ'):∀τ:Va,(∀n,iO (τ.v n)/\jT (τ.v n))->¬(C τ/\c τ):=fun τ hs hτ=>by
 obtain ⟨τ1,h1,e1⟩:=h.gen τ hs hτ.1;exact d τ1 h1 (hc τ τ1 e1 hτ.2)
theorem Most.congr {m0:Int} {S:Kn} {C D:Va->Prop} (h:Most m0 S C) (hCD:∀τ,C τ↔D τ):Most m0 S D:=
 ⟨h.inv,h.m,h.sort,fun τ hτ=>(hCD τ).1 (h.co τ hτ),fun τ hs hτ=>h.gen τ hs ((hCD τ).2 hτ)⟩
def Kn.zero (m0:Int):Kn:=⟨fun _=>.none,fun _=>.none,Va.id,m0⟩
theorem FI (U:List Lb) {m0:Int} (h0:0<=m0):KG U (Kn.zero m0):=by
 have i:(Kn.zero m0).Inv:=by
  refine ⟨fun v t h=>(by cases h),fun v t ls h=>(by cases h),fun x _=>rfl,Ew _,?_,fun v _=>⟨rfl,rfl⟩,?_,fun τ hτ _ t ho=>?_⟩
  ·exact fun v t h=>by cases h
  ·exact ⟨fun n hn _=>yP hn,fun p ls _ h=>by cases h⟩
  ·rw [j5]
   refine xU (fun n _=>?_) (fun p ls h=>(by cases h)) t ho;exact aW τ n
 exact ⟨i,.start fun v=>rfl,⟨fun v t h=>(by cases h),fun v t ls h=>(by cases h)⟩,⟨h0,fun v t h=>(by cases h)⟩,⟨fun v t h=>(by cases h),ag_ _⟩,fun v t h=>(by cases h),fun p ls h=>(by cases h)⟩
theorem V_ {m0:Int} (h0:0<=m0):Most m0 (Kn.zero m0) fun _=>True:=
 ⟨(FI [] h0).inv,Int.le_refl _,fun _ _=>rfl,fun _ _=>trivial,fun τ hs _=>⟨τ,⟨⟨fun n _=>hs n,fun p ls h=>by cases h⟩,fun v t h=>by cases h⟩,fun _ _=>rfl⟩⟩
theorem Ld {m0:Int} (h0:0<=m0):((Kn.zero m0).un:Int)=m0:=by
 have:∀n,cnt (fun _=>true) n=n:=fun n=>by
  induction n with
  |zero=>rfl
  |succ n ih=>simp only [cnt,ih,if_pos]
 show ((cnt (fun _=>true) m0.toNat:Nat):Int)=m0;rw [this];omega
theorem Lf {l:Lb} {x:Ut} {R:Fl} (hR:dY R) (hl:l∉ay R) (l':Lb):aL l' (gX (l,x) R)=if l=l' then some x else aL l' R:=by
 have h:=wN (p:=(l,x)) hR hl;rw [zP (tK (l,x) R) h.nodup];rfl
def kH (l:Lb) (R:Fl):Fl:=R.filter fun p=> !decide (p.1=l)
theorem uS {l:Lb} {R:Fl} (h:dY R):dY (kH l R):=abn.filter _ h
theorem wR (l:Lb) (R:Fl):l∉ay (kH l R):=by
 intro h;obtain ⟨p,hp,e⟩:=aaN.1 h;have:=(aaO.1 hp).2;simp [e] at this
theorem Wd {l l':Lb} (R:Fl) (hn:l≠l'):aL l' (kH l R)=aL l' R:=by
 induction R with
 |nil=>rfl
 |cons p R ih=>
  unfold kH at ih ⊢;rw [abA];by_cases e:p.1=l
  ·rw [if_neg (by simp [e]),ih]
   show _=if p.1=l' then _ else _
   rw [if_neg (by rw [e];exact hn)]
  ·rw [if_pos (by simp [e])]
   show (if p.1=l' then _ else _)=if p.1=l' then _ else _
   rw [ih]
theorem Hg {l:Lb} {R:Fl} {x:Ut} (h:dY R) (hx:aL l R=some x):gX (l,x) (kH l R)=R:=by
 refine tN (wN (uS h) (wR l R)) h fun l'=>?_;rw [Lf (uS h) (wR l R)];split
 ·next e=>rw [<-e,hx]
 ·next e=>exact Wd R e
def fV (k:Int) (l:Lb) (u q:Int):Ut:=.mk k 0 [(l,aS u)] (some q)
theorem zY {L:Sorts} {τ:Va} (h:τ.Ok L) {k:Int} {l:Lb} {u q:Int} {ls:List Lb} (hk:av k=true) (hq:L q=some ls) (_hl:l∈ls):
  inst τ (fV k l u q)= .mk k 0 (gX (l,τ.v u) (τ.t q).1) (τ.t q).2:=by
 obtain ⟨k8,_⟩:=bJ hk;unfold fV;rw [aK,if_neg k8]
 have:aZ (aI (inst τ) [(l,aS u)]++(τ.tail (some q)).1)=gX (l,τ.v u) (τ.t q).1:=by
  show gX (l,inst τ (aS u)) (aZ (τ.t q).1)=_;rw [aW,dh (h.t q ls hq).1]
 rw [this];rfl
def Cc (U:List Lb) (S:Kn) (k:Int) (l:Lb) (v u:Int):Prop:=av k=true/\bV k l=true/\l∈U/\0<=v/\(v<S.m/\S.L v=none)/\0<=u/\u<S.m/\S.L u=none
theorem Dr {U:List Lb} {S:Kn} {k:Int} {l:Lb} {v u:Int} (hg:Cc U S k l v u) (h:KG U S):
  KG U (S.aQ [l])/\TG U (S.aQ [l]) (aS v)/\TG U (S.aQ [l]) (fV k l u S.m):=by
 obtain ⟨g1,g2,g3,g4,g5,g6,g7⟩:=hg;obtain ⟨k8,k0,k5,ka,kb⟩:=bJ g1;have hK:=h.aQ [l] (by simp)
 have Wh:∀x,x<S.m/\S.L x=none->(S.aQ [l]).L x=none:=fun x hx=>by
  show (if x=S.m then some [l] else S.L x)=none;rw [if_neg (by omega)];exact hx.2
 have hmm:(S.aQ [l]).m=S.m+1:=rfl;have hv:∀y,0<=y->y<S.m/\S.L y=none->TG U (S.aQ [l]) (aS y):=fun y h1 h2=>hK.var (Wh y h2) h1 (by omega);refine ⟨hK,hv v g4 g5,?_⟩
 have hw:∀y,0<=y->y<S.m/\S.L y=none->gD (aS y)/\Ei U (aS y)/\Lc (S.aQ [l]) (aS y):=fun y h1 h2=>by
  refine ⟨?_,?_,?_⟩
  ·unfold aS
   rw [bU];exact ⟨⟨ab8,fun _=>⟨rfl,rfl⟩,fun e=>absurd rfl e,fun _=>h1,⟨by omega,by omega,fun e=>absurd e (by decide),fun _ _=>⟨rfl,rfl⟩⟩,fun e=>(by cases e),fun p hp=>(by cases hp),fun e=>(by cases e),fun e=>absurd e (by decide)⟩,fun p hp=>by cases hp⟩
  ·unfold aS;rw [uR];exact ⟨fun l hl=>(by cases hl),fun p hp=>(by cases hp)⟩
  ·unfold aS;rw [FH];exact ⟨fun _=>⟨Wh y h2,by omega⟩,fun p hp=>(by cases hp),fun p hp=>(by cases hp)⟩
 obtain ⟨w1,w2,w3⟩:=hw u g6 g7;have hsm:0<=S.m:=h.nn.m;refine TG.of _ ?_ ?_ ?_
 ·unfold fV
  rw [bU];refine ⟨⟨by simp [ay],by omega,fun _=>fun _=>rfl,fun e=>(by omega),⟨ka,kb,fun e=>absurd e k5,fun _ e=>(by rw [g1] at e;cases e)⟩,fun _=>⟨by simp [dY],fun l' hl'=>?_⟩,fun p hp=>?_,fun _=>by simp [aP],fun _=>by simp;omega⟩,fun p hp=>?_⟩
  ·simp [ay] at hl';subst hl';exact g2
  ·injection hp with hp;omega
  ·simp only [Gz,abo,or_false] at hp;subst hp;exact w1
 ·unfold fV
  rw [uR];refine ⟨fun l' hl'=>?_,fun p hp=>?_⟩
  ·simp [ay] at hl';subst hl';exact g3
  ·simp only [Gz,abo,or_false] at hp;subst hp;exact w2
 ·unfold fV
  rw [FH];refine ⟨fun e=>absurd e k8,fun p hp=>?_,fun p hp=>?_⟩
  ·injection hp with hp
   subst hp;refine ⟨by rw [hmm];omega,[l],by show (if S.m=S.m then _ else _)=_;rw [if_pos rfl],fun l'=>by simp [ay]⟩
  ·simp only [Gz,abo,or_false] at hp
   subst hp;exact w3
theorem Te {U:List Lb} {S S':Kn} {k:Int} {l:Lb} {v u:Int} (hg:Cc U S k l v u) (h:KG U S)
  (s:Step (S.aQ [l]) S' (bF (aS v) (fV k l u S.m))):Step S S' (yA.opn k l v u).holds:=by
 obtain ⟨g1,g2,g3,g4,g5,g6,g7⟩:=id hg;have Qg:(S.aQ [l]).L S.m=some [l]:=by show (if S.m=S.m then _ else _)=_;rw [if_pos rfl]
 have Wh:∀x,x<S.m/\S.L x=none->(S.aQ [l]).L x=none:=fun x hx=>by
  show (if x=S.m then some [l] else S.L x)=none;rw [if_neg (by omega)];exact hx.2
 have hmm:(S.aQ [l]).m=S.m+1:=rfl;refine ⟨s.inv,(Kn.qw h.inv [l]).trans s.le,fun τ hτ=>?_,fun τ hτ hc=>?_⟩
 ·have h1:=s.co τ hτ
  obtain ⟨τ0,h0,a0⟩:=s.le.sat τ hτ;have ev:=(a0 v (by omega)).1;have eu:=(a0 u (by omega)).1;have e2:inst τ (fV k l u S.m)=inst τ0 (fV k l u S.m):=a0.inst _ (Dr hg h).2.2.pend.2;unfold bF at h1;rw [e2,aW,ev,zY h0.1 g1 Qg (by simp)] at h1;obtain ⟨st,ri⟩:=h0.1.v v (Wh v g5);obtain ⟨su,ru⟩:=h0.1.v u (Wh u g7);obtain ⟨t1,t2,t3⟩:=h0.1.t _ _ Qg;have hlR:l∉ay (τ0.t S.m).1:=fun hl=>t2 l hl (by simp)
  have e:=h1.eq st (by
   rw [gP];refine ⟨(bJ g1).2.1,fun p hp=>?_⟩;rcases Gz.1 ((tK _ _).mem_iff.1 hp) with rfl|hp
   ·exact su
   ·exact (t3 p hp).1) ri (by
   rw [iI];refine ⟨wN t1 hlR,fun p hp=>?_⟩;rcases Gz.1 ((tK _ _).mem_iff.1 hp) with rfl|hp
   ·exact ru
   ·exact (t3 p hp).2)
  exact ⟨_,_,by rw [ev];exact e,by rw [Lf t1 hlR,if_pos rfl,eu]⟩
 ·obtain ⟨R,tl,e1,e2⟩:=hc
  obtain ⟨st,ri⟩:=hτ.1.v v g5.2;rw [e1] at st ri;rw [gP] at st;rw [iI] at ri
  obtain ⟨h1,a1⟩:=Kn.Inv.xW h.inv (ls:=[l]) hτ (R:=kH l R) (tl:=tl) (uS ri.1) (fun l' hl'=>by
   simp only [Gz,abo,or_false];rintro rfl;exact wR _ R hl') (fun q hq=>⟨st.2 q (aaO.1 hq).1,ri.2 q (aaO.1 hq).1⟩)
  have hco:bF (aS v) (fV k l u S.m) (τ.jh S.m (kH l R,tl)):=by
   unfold bF;rw [zY h1.1 g1 Qg (by simp),aW];have ev:(τ.jh S.m (kH l R,tl)).v v= .mk k 0 R tl:=e1;have eu:(τ.jh S.m (kH l R,tl)).v u=τ.v u:=rfl;have et:(τ.jh S.m (kH l R,tl)).t S.m=(kH l R,tl):=by show (if S.m=S.m then _ else _)=_;rw [if_pos rfl]
   rw [ev,eu,et];show Co _ (.mk k 0 (gX (l,τ.v u) (kH l R)) tl);rw [Hg ri.1 e2];exact Co.refl _
  obtain ⟨τ2,h2,a2⟩:=s.gen _ h1 hco;exact ⟨τ2,h2,a1.trans (a2.mono (by rw [hmm];omega))⟩
theorem Wi {U:List Lb} {S:Kn} {k:Int} {l:Lb} {v u:Int} (hg:Cc U S k l v u) (h:KG U S)
  (d:pX (S.aQ [l]) (aS v) (fV k l u S.m)):∀τ,S.Sat τ->¬(yA.opn k l v u).holds τ:=by
 rintro τ hτ ⟨R,tl,e1,e2⟩;obtain ⟨g1,g2,g3,g4,g5,g6,g7⟩:=hg;have Qg:(S.aQ [l]).L S.m=some [l]:=by show (if S.m=S.m then _ else _)=_;rw [if_pos rfl]
 obtain ⟨st,ri⟩:=hτ.1.v v g5.2;rw [e1] at st ri;rw [gP] at st;rw [iI] at ri
 obtain ⟨h1,a1⟩:=Kn.Inv.xW h.inv (ls:=[l]) hτ (R:=kH l R) (tl:=tl) (uS ri.1) (fun l' hl'=>by
  simp only [Gz,abo,or_false];rintro rfl;exact wR _ R hl') (fun q hq=>⟨st.2 q (aaO.1 hq).1,ri.2 q (aaO.1 hq).1⟩)
 refine d _ h1 ?_;unfold bF;rw [zY h1.1 g1 Qg (by simp),aW];have ev:(τ.jh S.m (kH l R,tl)).v v= .mk k 0 R tl:=e1;have eu:(τ.jh S.m (kH l R,tl)).v u=τ.v u:=rfl;have et:(τ.jh S.m (kH l R,tl)).t S.m=(kH l R,tl):=by show (if S.m=S.m then _ else _)=_;rw [if_pos rfl]
 rw [ev,eu,et];show Co _ (.mk k 0 (gX (l,τ.v u) (kH l R)) tl);rw [Hg ri.1 e2];exact Co.refl _
theorem yA.Good.opn {U:List Lb} {S:Kn} {m0:Int} {k:Int} {l:Lb} {v u:Int} (hg:(yA.opn k l v u).Good U m0) (hL:∀x,x<m0->S.L x=none) (hm:m0<=S.m):Cc U S k l v u:=by
 obtain ⟨g1,g2,g3,g4,g5,g6,g7⟩:=hg;exact ⟨g1,g2,g3,g4,⟨by omega,hL v g5⟩,g6,by omega,hL u g7⟩
theorem abW {U:List Lb} {S:Kn} {m0:Int} {k:Int} {l:Lb} {v u:Int} (hg:(yA.opn k l v u).Good U m0) (h:KG U S) (hL:∀x,x<m0->S.L x=none) (hm:m0<=S.m):
  KG U (S.aQ [l])/\TG U (S.aQ [l]) (aS v)/\TG U (S.aQ [l]) (fV k l u S.m):=Dr (hg.opn hL hm) h
theorem Wj {U:List Lb} {S S':Kn} {m0:Int} {k:Int} {l:Lb} {v u:Int} (hg:(yA.opn k l v u).Good U m0) (h:KG U S) (hL:∀x,x<m0->S.L x=none) (hm:m0<=S.m)
  (s:Step (S.aQ [l]) S' (bF (aS v) (fV k l u S.m))):Step S S' (yA.opn k l v u).holds:=Te (hg.opn hL hm) h s
theorem ZA {U:List Lb} {S:Kn} {m0:Int} {k:Int} {l:Lb} {v u:Int} (hg:(yA.opn k l v u).Good U m0) (h:KG U S) (hL:∀x,x<m0->S.L x=none) (hm:m0<=S.m)
  (d:pX (S.aQ [l]) (aS v) (fV k l u S.m)):∀τ,S.Sat τ->¬(yA.opn k l v u).holds τ:=Wi (hg.opn hL hm) h d
def fK (m0:Int) (S:Kn):Prop:=∀n,0<=n->n<m0->jL (S.σ.v n)<=10000/\lY (S.σ.v n)<=100
def Low (m0:Int) (C:Va->Prop):Prop:=∀τ τ':Va,(∀x,x<m0->τ.v x=τ'.v x)->C τ->C τ'
theorem Low.and {m0:Int} {C D:Va->Prop} (h:Low m0 C) (k:Low m0 D):Low m0 fun τ=>C τ/\D τ:=fun τ τ' e hc=>⟨h τ τ' e hc.1,k τ τ' e hc.2⟩
theorem Low.true (m0:Int):Low m0 fun _=>True:=fun _ _ _ _=>trivial
theorem Lg {m0:Int} {τ:Va} (h:∀n,n<m0->iO (τ.v n)/\jT (τ.v n)) (n:Int):iO ((τ.only m0).v n)/\jT ((τ.only m0).v n):=by
 show iO (if n<m0 then _ else _)/\jT (if n<m0 then _ else _);by_cases hx:n<m0
 ·rw [if_pos hx];exact h n hx
 ·rw [if_neg hx];exact ⟨uO n,Fv n⟩
theorem Kc {m0:Int} (τ:Va) {x:Int} (hx:x<m0):(τ.only m0).v x=τ.v x:=by
 show (if x<m0 then _ else _)=_;rw [if_pos hx]
theorem Most.above {m0:Int} {S:Kn} {C:Va->Prop} (h:Most m0 S C) (hC:Low m0 C) {τ:Va} (hs:∀n,n<m0->iO (τ.v n)/\jT (τ.v n)) (hc:C τ):
  ∃τ',S.Sat τ'/\∀x,x<m0->τ.v x=τ'.v x/\inst τ' (S.σ.v x)=τ.v x:=by
 obtain ⟨τ',h1,e1⟩:=h.gen (τ.only m0) (Lg hs) (hC τ _ (fun x hx=>(Kc τ hx).symm) hc);refine ⟨τ',h1,fun x hx=>?_⟩;have e:=e1 x hx;rw [Kc τ hx] at e;have h2:=h.inv.gen τ' h1.1 h1.2 (aS x) (pV (h.sort x hx));rw [aW,aW] at h2;exact ⟨e,by rw [h2,e]⟩
theorem Most.st {m0:Int} {S:Kn} {C:Va->Prop} (h:Most m0 S C) {n:Int} (hn:n<m0):iO (S.σ.v n)/\jT (S.σ.v n):=h.inv.wf.ok.v n (h.sort n hn)
theorem Most.self {m0:Int} {S:Kn} {C:Va->Prop} (h:Most m0 S C):C S.σ:=h.co _ h.inv.sat
theorem Ya {m0:Int} {S:Kn} {C:Va->Prop} (h:Most m0 S C) (hC:Low m0 C) {τ:Va} (hs:∀n,n<m0->iO (τ.v n)/\jT (τ.v n)) (hc:C τ) (hf:∀n,0<=n->n<m0->jL (τ.v n)<=10000/\lY (τ.v n)<=100):fK m0 S:=fun n h0 hn=>by
 obtain ⟨τ',h1,e⟩:=h.above hC hs hc;obtain ⟨a,b⟩:=SQ τ' (S.σ.v n) S.L (h.inv.wf.v n (h.sort n hn));rw [(e n hn).2] at a b;obtain ⟨c,d⟩:=hf n h0 hn;omega
theorem ZB {m0:Int} {S S':Kn} {C C':Va->Prop} (h:Most m0 S C) (hC:Low m0 C) (h':Most m0 S' C') (hcc:∀τ,C' τ->C τ) (hf:fK m0 S'):fK m0 S:=
 Ya h hC (fun _n hn=>h'.st hn) (hcc _ h'.self) hf
structure Run (U:List Lb) (m0:Int) (C:Va->Prop) (S:Kn):Prop where
 kg:KG U S
 most:Most m0 S C
 low:Low m0 C
 h0:0<=m0
 fit:fK m0 S
def Bad (m0:Int) (C:Va->Prop):Prop:=(∀τ:Va,(∀n,iO (τ.v n)/\jT (τ.v n))->¬C τ)\/∃S,Most m0 S C/\¬fK m0 S
theorem Run.start (U:List Lb) {m0:Int} (h0:0<=m0):Run U m0 (fun _=>True) (Kn.zero m0):=by
 refine ⟨FI U h0,V_ h0,Low.true m0,h0,fun n _ _=>?_⟩;show jL (aS n)<=_/\lY (aS n)<=_;unfold aS;rw [iW,jS,ou,rV];simp
theorem Run.congr {U:List Lb} {m0:Int} {C D:Va->Prop} {S:Kn} (h:Run U m0 C S) (e:∀τ,C τ↔D τ):Run U m0 D S:=
 ⟨h.kg,h.most.congr e,fun τ τ' hx hd=>(e τ').1 (h.low τ τ' hx ((e τ).2 hd)),h.h0,h.fit⟩
theorem Run.next {U:List Lb} {m0:Int} {C c:Va->Prop} {S S':Kn} (h:Run U m0 C S) (hk:KG U S') (s:Step S S' c) (hc:Low m0 c) (hf:fK m0 S'):Run U m0 (fun τ=>C τ/\c τ) S':=
 ⟨hk,h.most.next s h.low hc,h.low.and hc,h.h0,hf⟩
theorem Run.big {U:List Lb} {m0:Int} {C c:Va->Prop} {S S':Kn} (h:Run U m0 C S) (s:Step S S' c) (hc:Low m0 c) (hf:¬fK m0 S'):Bad m0 fun τ=>C τ/\c τ:=
 .inr ⟨S',h.most.next s h.low hc,hf⟩
theorem Run.dis {U:List Lb} {m0:Int} {C c:Va->Prop} {S:Kn} (h:Run U m0 C S) (d:∀τ,S.Sat τ->¬c τ) (hc:Low m0 c):Bad m0 fun τ=>C τ/\c τ:=
 .inl (h.most.none d hc)
theorem Run.Lh {U:List Lb} {m0:Int} {C D:Va->Prop} {S:Kn} (h:Run U m0 D S) (hC:Low m0 C) (hcd:∀τ,D τ->C τ):¬Bad m0 C:=by
 rintro (hb|⟨S',h',hf⟩)
 ·refine hb (S.σ.only m0) (Lg fun n hn=>h.most.st hn) (hC S.σ _ (fun x hx=>(Kc _ hx).symm) (hcd _ h.most.self))
 ·exact hf (ZB h' hC h.most hcd h.fit)
theorem Lh {m0:Int} {C:Va->Prop} (hC:Low m0 C) {τ:Va} (hs:∀n,n<m0->iO (τ.v n)/\jT (τ.v n)) (hc:C τ) (hf:∀n,0<=n->n<m0->jL (τ.v n)<=10000/\lY (τ.v n)<=100):¬Bad m0 C:=by
 rintro (hb|⟨S',h',hn⟩)
 ·exact hb _ (Lg hs) (hC τ _ (fun x hx=>(Kc _ hx).symm) hc)
 ·exact hn (Ya h' hC hs hc hf)
def gU (m0:Nat) (S:Kn):List (List Nd):=(List.range m0).map fun n:Nat=>aB pR (S.σ.v (n:Int))
theorem Qh {m0:Nat} {S S':Kn} {C C':Va->Prop} (h:Most m0 S C) (h':Most m0 S' C') (hk:S.Sh) (hC:Low m0 C) (hcc:∀τ,C τ↔C' τ):lq [] (gU m0 S')=lq [] (gU m0 S):=by
 obtain ⟨ρ,g,hv⟩:=variants h (h'.congr fun τ=>(hcc τ).symm) hC
 have e:gU m0 S'=(gU m0 S).map (List.map (kS ρ)):=by
  unfold gU;rw [abL];refine Vg fun n hn=>?_;have hn:=acN.1 hn;obtain ⟨e1,_⟩:=hv (n:Int) (by omega);show aB _ (S'.σ.v (n:Int))=List.map (kS ρ) (aB _ (S.σ.v (n:Int)));rw [e1,abS ρ _ S.L (h.inv.wf.v _ (h.sort _ (by omega))) (hk.σ.v _ (h.sort _ (by omega)))]
 rw [e];have:=Ou (ρ:=ρ) (g:=g) [] (gU m0 S) (fun m hm=>by cases hm) fun xs hxs x hx hxv=>?_
 ·simpa using this
 ·obtain ⟨n,hn,rfl⟩:=aaN.1 hxs
  have hn:=acN.1 hn;refine (hv (n:Int) (by omega)).2 x.n ?_;exact (Qf x.n _ (hk.σ.v _ (h.sort _ (by omega))) _).2 ⟨x,hx,hxv,rfl⟩
theorem abX {t:Ut} (h:o_ 0 t) (hw:gD t):t.k≠8:=by
 obtain ⟨k,n,fs,tl⟩:=t;rw [jF] at h;rw [bU] at hw;intro e;have:=h.1 e;have:=hw.1.n8 (.inl e);omega
theorem Dt {ls:List Lb} {us:List Ut} (hl:ls.length=us.length) (hn:ls.Nodup) {i:Nat} {l:Lb} {u:Ut} (h1:ls[i]?=some l) (h2:us[i]?=some u):aL l (ls.zip us)=some u:=by
 refine jR (by rw [qD hl];exact hn) ?_;exact Yt (i:=i) (by rw [acC];exact ⟨h1,h2⟩)
theorem aex {ls:List Lb} {us vs:List Ut} (hu:ls.length=us.length) (hv:ls.length=vs.length) (hn:ls.Nodup) {k n:Int} (hk:k≠0) (tl:Option Int):
  Co (.mk k n (ls.zip us) tl) (.mk k n (ls.zip vs) tl)↔∀p∈us.zip vs,Co p.1 p.2:=by
 rw [Fw hk];constructor
 ·rintro ⟨_,h⟩ p hp
  obtain ⟨i,hi⟩:=acr hp;rw [acC] at hi
  have hlt:i<ls.length:=by
   have:=(acO.1 hi.1).1;omega
  have h1:=jr hlt;have:=h ls[i];rw [Dt hu hn h1 hi.1,Dt hv hn h1 hi.2] at this;exact this
 ·intro h
  refine ⟨rfl,fun l=>?_⟩;by_cases hl:l∈ls
  ·obtain ⟨i,hi⟩:=acr hl
   have hlt:=(acO.1 hi).1;have h1:=jr (l:=us) (i:=i) (by omega);have h2:=jr (l:=vs) (i:=i) (by omega);rw [Dt hu hn hi h1,Dt hv hn hi h2];exact h (us[i],vs[i]) (Yt (i:=i) (by rw [acC];exact ⟨h1,h2⟩))
  ·rw [bP.2 (by rw [qD hu];exact hl),bP.2 (by rw [qD hv];exact hl)]
   trivial
def nM (m0:Int) (y:Nd):Bool:= !(y.k==9)&& !(y.k==8&&decide (m0<=y.n))
theorem Wm {k:Int} {rs:List (List Nd)} {l:Lb} (h:l∈jk k rs):l=lA\/l=lB\/l∈dW rs:=by
 unfold jk at h;split at h
 ·simp only [Gz,abo,or_false] at h
  rcases h with h|h
  ·exact .inl h
  ·exact .inr (.inl h)
 ·exact .inr (.inr h)
theorem Wn {ts:List Nd} (h:ts≠[]):bB ts∈ts:=by
 cases ts with
 |nil=>exact absurd rfl h
 |cons x l=>exact acP ..
theorem aey {U:List Lb} (hA:lA∈U) (hB:lB∈U) {ts:List Nd} (h:ko ts):(∀x∈ts,x.s∈U)->Ei U (dI ts):=by
 induction h with
 |mk x aG ok k9 tr ch row els tl ih=>
  intro hU;have hin:∀ts∈bI aG,∀x∈ts,x.s∈U:=fun ts hts y hy=>hU y (abr _ (aam.2 ⟨ts,yV hts,hy⟩));rw [jM tr,uR];refine ⟨fun l hl=>?_,fun p hp=>?_⟩
  ·obtain ⟨q,hq,rfl⟩:=aaN.1 hl
   rcases Wm (List.of_mem_zip hq).1 with e|e|e
   ·rw [e];exact hA
   ·rw [e];exact hB
   ·obtain ⟨t,ht,e⟩:=aaN.1 e
    rw [<-e];exact hin t ht _ (Wn (ch t ht).ne)
  ·obtain ⟨t,ht,hpt⟩:=aaN.1 (yX hp)
   rw [<-hpt];exact ih t ht (hin t ht)
theorem ahd {m0:Int} {ts:List Nd} (h:ko ts):(∀x∈ts,nM m0 x=true)->o_ m0 (dI ts):=by
 induction h with
 |mk x aG ok k9 tr ch row els tl ih=>
  intro hU;rw [jM tr,jF];refine ⟨fun h8=>?_,?_,fun p hp=>?_⟩
  ·have:=hU x (acP ..)
   rw [if_pos h8];simp only [nM,h8,DC,acs,beq_self_eq_true,Bool.true_and,decide_eq_false_iff_not] at this;omega
  ·unfold u6
   rcases FC aG with e|⟨t,e⟩
   ·rw [e];rfl
   ·obtain ⟨n,_,ht⟩:=tl t (by rw [e];simp)
    have hm:(⟨9,pR,n⟩:Nd)∈aG.flatten:=aam.2 ⟨t,(by rw [<-lN aG,e];simp),by rw [ht];simp⟩;have:=hU _ (abr _ hm);simp [nM] at this
  ·obtain ⟨t,ht,hpt⟩:=aaN.1 (yX hp)
   rw [<-hpt];exact ih t ht fun y hy=>hU y (abr _ (aam.2 ⟨t,yV ht,hy⟩))
theorem OC:∀{ls:List Lb} {us:List Ut},bG (ls.zip us)<=(us.map aJ).sum
 |[],us=>by simp [lK]
 |l::ls,[]=>by simp [lK]
 |l::ls,u::us=>by
  rw [abF,cB,Bn,abw];have:=OC (ls:=ls) (us:=us);show aJ u+_<=_;omega
theorem Qi {α:Type} {f g:α->Nat}:∀{l:List α},(∀x∈l,f x<=g x)->(l.map f).sum<=(l.map g).sum
 |[],_=>bN _
 |x::l,h=>by
  rw [Bn,Bn,abw,abw];have:=h x (by simp);have:=Qi (f:=f) (g:=g) (l:=l) fun y hy=>h y (by simp [hy]);omega
theorem qh {ts:List Nd} (h:ko ts):aJ (dI ts)<=ts.length:=by
 induction h with
 |mk x aG ok k9 tr ch row els tl ih=>
  rw [jM tr];rw [kE]
  have h1:bG ((jk x.k (bI aG)).zip ((bI aG).map dI))<=((bI aG).map RB).sum:=by
   refine zk OC ?_;rw [abL];exact Qi (g:=RB) fun t ht=>ih t ht
  have e:aG.flatten.length=((bI aG).map RB).sum+((jA aG).map RB).sum:=by
   rw [<-acQ,<-abl,lN,acT]
  simp only [Bl];split<;>omega
theorem Ce {U:List Lb} {m0:Int} {ts:List Nd} (hA:lA∈U) (hB:lB∈U) (h:ko ts) (hU:∀x∈ts,x.s∈U) (hn:∀x∈ts,nM m0 x=true):Told U m0 (dI ts):=⟨EB h,aey hA hB h hU,ahd h hn⟩
structure Stp where
 a:List Nd
 b:List Nd
 l:Lb
 k:Int
 n:Int
 m:Int
def Stp.cst (x:Stp):yA:=if x.l.size=0 then .pair (dI x.a) (dI x.b) else .opn x.k x.l x.n x.m
def mM (l:List Stp) (τ:Va):Prop:=∀x∈l,x.cst.holds τ
theorem wS (l:List Stp) (x:Stp) (τ:Va):mM (l++[x]) τ↔mM l τ/\x.cst.holds τ:=by
 unfold mM;constructor
 ·intro h;exact ⟨fun y hy=>h y (by simp [hy]),h x (by simp)⟩
 ·rintro ⟨h1,h2⟩ y hy
  rcases JQ.1 hy with hy|hy
  ·exact h1 y hy
  ·simp only [aaW] at hy
   rw [hy];exact h2
structure GoodS (U:List Lb) (m0:Int) (x:Stp):Prop where
 c:x.cst.Good U m0
 pair:x.l.size=0->ko x.a/\ko x.b/\x.a.length<=30/\x.b.length<=30
theorem GoodS.low {U:List Lb} {m0:Int} {x:Stp} (h:GoodS U m0 x):Low m0 x.cst.holds:=fun _ _ e hc=>h.c.like e hc
theorem ZC {U:List Lb} {m0:Int} {l:List Stp} (h:∀x∈l,GoodS U m0 x):Low m0 (mM l):=fun _ _ e hc x hx=>(h x hx).low _ _ e (hc x hx)
def Cg (k:Int) (l:Lb) (x:Nd) (q:Int):List Nd:=[⟨k,pR,2⟩,{x with s:=l},⟨9,pR,q⟩]
theorem abY {k:Int} {l:Lb} {u q:Int} (hk:av k=true) (hl:bV k l=true) (hu:0<=u) (hq:0<=q):ko (Cg k l ⟨8,pR,u⟩ q)/\dI (Cg k l ⟨8,pR,u⟩ q)=fV k l u q:=by
 have AZ:k=6\/k=7:=by simpa [av] using hk
 have hv:ko [(⟨8,l,u⟩:Nd)]:=by
  refine .mk ⟨8,l,u⟩ [] ?_ (by show (8:Int)≠9;decide) ⟨rfl,rfl,by simp⟩ (by simp [bI,gN]) (fun e=>by simp [av] at e) (fun _=>⟨rfl,by simp [dW]⟩) (fun ts hts=>by simp [jA,gN] at hts);show bX 8 u=true;unfold bX;simp;omega
 have e1:bI [[(⟨8,l,u⟩:Nd)],[⟨9,pR,q⟩]]=[[⟨8,l,u⟩]]:=by simp [bI,gN,bB]
 have e2:jA [[(⟨8,l,u⟩:Nd)],[⟨9,pR,q⟩]]=[[⟨9,pR,q⟩]]:=by simp [jA,gN,bB]
 have tr:Trees (manyN ⟨k,pR,2⟩) [[(⟨8,l,u⟩:Nd)],[⟨9,pR,q⟩]].flatten [[(⟨8,l,u⟩:Nd)],[⟨9,pR,q⟩]]:=by
  refine ⟨?_,rfl,fun ts hts=>?_⟩
  ·unfold manyN many
   rw [if_neg (by show k≠5;omega),if_pos hk];rfl
  ·simp only [Gz,abo,or_false] at hts
   rcases hts with rfl|rfl
   ·exact hv.fo
   ·rfl
 have hg:ko (⟨k,pR,2⟩::[[(⟨8,l,u⟩:Nd)],[⟨9,pR,q⟩]].flatten):=by
  refine .mk _ _ ?_ (by show k≠9;omega) tr (fun ts hts=>?_) (fun _=>?_) (fun e=>by rw [hk] at e;cases e) (fun ts hts=>?_)
  ·show bX k 2=true
   unfold bX;rw [if_neg (by omega)];split
   ·rfl
   ·rw [if_pos (by omega)];rfl
  ·rw [e1] at hts
   simp only [aaW] at hts;rw [hts];exact hv
  ·rw [e1]
   simp [dW,bB,hl]
  ·rw [e2] at hts
   simp only [aaW] at hts;exact ⟨q,hq,hts⟩
 refine ⟨hg,?_⟩;show dI (⟨k,pR,2⟩::[[(⟨8,l,u⟩:Nd)],[⟨9,pR,q⟩]].flatten)=_;rw [jM tr,e1];have e3:u6 [[(⟨8,l,u⟩:Nd)],[⟨9,pR,q⟩]]=some q:=by unfold u6;rw [e2];rfl
 rw [e3];have e4:dI [(⟨8,l,u⟩:Nd)]=aS u:=rfl;simp only [Bn,abM,e4,jk,dW,bB];rw [if_neg (by omega),if_neg (by omega)];rfl
theorem Yb {u:Int} (hu:0<=u):ko [(⟨8,pR,u⟩:Nd)]/\dI [(⟨8,pR,u⟩:Nd)]=aS u:=by
 refine ⟨.mk ⟨8,pR,u⟩ [] ?_ (by show (8:Int)≠9;decide) ⟨rfl,rfl,by simp⟩ (by simp [bI,gN]) (fun e=>by simp [av] at e) (fun _=>⟨rfl,by simp [dW]⟩) (fun ts hts=>by simp [jA,gN] at hts),rfl⟩;show bX 8 u=true;unfold bX;simp;omega
theorem lAB:dz lA lB=true:=by decide+kernel
theorem Tf {k n:Int} {fs:Fl} {tl:Option Int} (h:vQ k n fs tl):dY fs:=by
 by_cases h5:k=5
 ·obtain ⟨⟨a,b,rfl⟩,_⟩:=h.sh.2.2.1 h5
  unfold dY;simp [lAB]
 ·cases hr:av k with
  |true=>exact (h.row hr).1
  |false=>
   obtain ⟨rfl,_⟩:=h.sh.2.2.2 h5 hr;exact abn.nil
theorem Ci (τ:Va):∀t,gD t->o_ 0 t->inst τ t=t:=by
 refine Ut.ind fun k n fs tl ih h no=>?_;have h8:k≠8:=abX no h;rw [bU] at h;rw [jF] at no;obtain ⟨_,rfl,nc⟩:=no;rw [aK,if_neg h8,Fq fun p hp=>ih p hp (h.2 p hp) (nc p hp)];show Ut.mk k n (aZ (fs++[])) none=_;rw [ER,dh (Tf h.1)]
def Jp (a b:Ut):Ut:=.mk 5 0 [(lA,a),(lB,b)] none
theorem Du (τ:Va) (a b:Ut):inst τ (Jp a b)=Jp (inst τ a) (inst τ b):=by
 unfold Jp;rw [aK,if_neg (by decide)];show Ut.mk 5 0 (aZ ([(lA,inst τ a),(lB,inst τ b)]++[])) none=_;rw [ER,dh (by unfold dY;simp [lAB])]
theorem ZE:lA≠lB:=by decide
theorem Yc {a b c d:Ut}:Co (Jp a b) (Jp c d)↔Co a c/\Co b d:=by
 unfold Jp;have:=aex (ls:=[lA,lB]) (us:=[a,b]) (vs:=[c,d]) (k:=5) (n:=0) rfl rfl (by simp [ZE]) (by decide) none;simp only [abF,List.zip_nil_right] at this;rw [this];simp
theorem Tg:∀{ls:List Lb} {us:List Ut},pI (ls.zip us)<=(us.map jL).sum
 |[],us=>by simp [ou]
 |l::ls,[]=>by simp [ou]
 |l::ls,u::us=>by
  rw [abF,iC,Bn,abw];have:=Tg (ls:=ls) (us:=us);show jL u+_<=_;omega
theorem ahf {ts:List Nd} (h:ko ts):jL (dI ts)<=ts.length:=by
 induction h with
 |mk x aG ok k9 tr ch row els tl ih=>
  have w:=EB (.mk x aG ok k9 tr ch row els tl);rw [jM tr] at w ⊢;rw [bU] at w;rw [iW]
  have hl:¬50<((jk x.k (bI aG)).zip ((bI aG).map dI)).length:=by
   have h5:=w.1.sh.2.2;by_cases k5:x.k=5
   ·obtain ⟨⟨a,b,e⟩,_⟩:=h5.1 k5
    rw [e];simp
   ·cases hr:av x.k with
    |true=>have:=w.1.len hr;omega
    |false=>
     obtain ⟨e,_⟩:=h5.2 k5 hr;rw [e];simp
  rw [if_neg hl]
  have h1:pI ((jk x.k (bI aG)).zip ((bI aG).map dI))<=((bI aG).map RB).sum:=by
   refine zk Tg ?_;rw [abL];exact Qi (g:=RB) fun t ht=>ih t ht
  have e:aG.flatten.length=((bI aG).map RB).sum+((jA aG).map RB).sum:=by
   rw [<-acQ,<-abl,lN,acT]
  simp only [Bl];omega
def oz:Ut:=.mk 1 0 [] none
theorem Li:iO oz/\jT oz:=by
 unfold oz;rw [gP,iI];exact ⟨⟨by decide,fun p hp=>by cases hp⟩,abn.nil,fun p hp=>by cases hp⟩
theorem ahg {ts:List Nd} (h:ko ts):(bB ts).k≠9:=by
 cases h with
 |mk x aG ok k9 tr ch row els tl=>exact k9
open Classical
theorem attach_map (f:Ut->Ut) (fs:Fl):(fs.attach.map fun p=>(p.1.1,f p.1.2))=aI f fs:=by
 unfold aI;exact acL (l:=fs) (f:=fun p:Lb×Ut=>(p.1,f p.2))
theorem qP (fs:Fl):nV fs=(fs.map fun p=>aB pR p.2).flatten:=by
 induction fs with
 |nil=>rw [gH];rfl
 |cons p fs ih=>rw [gT,ih,Bn,Ry]
theorem Ti (s:Lb) (t:Ut):∃ks,aB s t=⟨t.k,s,(bB (aB s t)).n⟩::ks:=by
 obtain ⟨k,n,fs,tl⟩:=t;rw [bY];split<;>exact ⟨_,rfl⟩
theorem oV (s:Lb) (t:Ut):1<=(aB s t).length:=by
 obtain ⟨ks,h⟩:=Ti s t;rw [h];simp
theorem zZ (s:Lb) (t:Ut):aB s t≠[]:=fun h=>by
 have:=oV s t;rw [h] at this;simp at this
theorem uy (s s':Lb) (t:Ut):(aB s t).length=(aB s' t).length:=by
 obtain ⟨k,n,fs,tl⟩:=t;rw [bY,bY];split<;>simp
theorem Qj {f:Ut->Nat}:∀{fs:Fl},(∀p∈fs,∀s,(aB s p.2).length<=f p.2)->(jv fs).length<=(fs.map fun p=>f p.2).sum/\(nV fs).length<=(fs.map fun p=>f p.2).sum
 |[],_=>by rw [lT,gH];simp
 |p::fs,h=>by
  have h1:=Qj (fs:=fs) fun q hq=>h q (abr _ hq);have h2:=h p (by simp) p.1;have h3:=h p (by simp) pR;rw [fq,gT,A_,A_,Bn,abw];omega
theorem Lj:∀(fs:Fl),pI fs=(fs.map fun p=>jL p.2).sum
 |[]=>by rw [ou];rfl
 |p::fs=>by rw [iC,Lj fs];simp
theorem Tj {α:Type} (f:α->Nat) (B:Nat):∀l:List α,(l.map fun x=>f x*B).sum=(l.map f).sum*B
 |[]=>by simp
 |x::l=>by rw [Bn,abw,Tj f B l,Bn,abw,abU]
theorem Ke {p:Lb×Ut}:∀{fs:Fl},p∈fs->jL p.2<=pI fs
 |[],h=>by cases h
 |q::fs,h=>by
  rw [iC];rcases Gz.1 h with rfl|h
  ·omega
  ·have:=Ke h;omega
theorem FJ:∀t,jL t<=10000->∀s,(aB s t).length<=jL t*2:=by
 refine Ut.ind fun k n fs tl ih h s=>?_;rw [iW] at h ⊢;split at h
 ·omega
 ·next h50=>
  rw [if_neg h50];have h1:∀p∈fs,∀s,(aB s p.2).length<=jL p.2*2:=fun p hp s=>ih p hp (by have:=Ke hp;omega) s;have h2:=Qj (f:=fun t=>jL t*2) h1;rw [Tj (fun p:Lb×Ut=>jL p.2) 2 fs,<-Lj] at h2;have h3:(aP tl).length<=1:=by cases tl<;>simp [aP]
  rw [bY];split
  ·simp only [Bl,A_];omega
  ·simp only [Bl];omega
theorem FK {σ:Va} {k n:Int} {fs:Fl} (h8:k≠8) (hr:dY fs):inst σ (.mk k n fs none)= .mk k n (aI (inst σ) fs) none:=by
 rw [aK,if_neg h8];show Ut.mk k n (aZ (aI (inst σ) fs++[])) none=_;rw [ER,dh (lX hr)]
theorem OD {f:Ut->Ut} {B:Nat}:∀{fs:Fl},(∀p∈fs,∀s,(aB s (f p.2)).length<=(aB s p.2).length*B)->(jv (aI f fs)).length<=(jv fs).length*B/\(nV (aI f fs)).length<=(nV fs).length*B
 |[],_=>by
  have:aI f []=[]:=rfl
  rw [this,lT,gH];simp
 |p::fs,h=>by
  have h1:=OD (fs:=fs) fun q hq=>h q (abr _ hq);have h2:=h p (by simp) p.1;have h3:=h p (by simp) pR;rw [eU,fq,gT,fq,gT];simp only [A_,abU];omega
theorem ZF {m0:Int} {σ:Va} {B:Nat} (hB:1<=B) (h:∀n,0<=n->n<m0->∀s,(aB s (σ.v n)).length<=B):∀t,gD t->o_ m0 t->∀s,(aB s (inst σ t)).length<=(aB s t).length*B:=by
 refine Ut.ind fun k n fs tl ih hw hn s=>?_;rw [bU] at hw;rw [jF] at hn;obtain ⟨h8,rfl,hc⟩:=hn;by_cases e8:k=8
 ·rw [aK,if_pos e8]
  have h1:=h n (hw.1.n8 (.inl e8)) (h8 e8) s;have h2:=oV s (.mk k n fs none);exact zk h1 (by have:=Nat.mul_le_mul_right B h2;omega)
 ·rw [FK e8 (Tf hw.1)]
  have h1:=OD (f:=inst σ) (B:=B) fun p hp s=>ih p hp (hw.2 p hp) (hc p hp) s;rw [bY,bY];split
  ·simp only [Bl,A_,abU,aP,List.length_nil];omega
  ·simp only [Bl,abU];omega
def jU (row:Bool) (x:Fl):List Nd:=if row then jv x else nV x
theorem Tk (r:Bool):jU r []=[]:=by cases r<;>simp [jU,lT,gH]
theorem ZG (r:Bool) (x:Fl) (p:Lb×Ut):jU r (x++[p])=jU r x++aB (if r then p.1 else pR) p.2:=by
 cases r<;>simp [jU,kN,qP]
theorem Ho {r:Bool} {x:Fl} {i:Nat} {p:Lb×Ut} (h:x[i]?=some p):jU r (x.take (i+1))=jU r (x.take i)++aB (if r then p.1 else pR) p.2:=by
 rw [List.take_add_one,h];exact ZG r _ p
theorem Qk (r:Bool) (x:Fl) (i:Nat):(jU r (x.take i)).length<=(jU r x).length:=by
 have h:jU r x=jU r (x.take i)++jU r (x.drop i):=by
  have h1:∀a b:Fl,jU r (a++b)=jU r a++jU r b:=fun a b=>by cases r<;>simp [jU,kN,qP]
  rw [<-h1,List.take_append_drop]
 rw [h];simp
end Go.Proofs.Ytblfeokjlecgkaa
