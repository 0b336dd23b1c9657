/- Laid together by a tool from the texts of this seat: RefF RefG RefH RefL RefK RefM StQ KMap UNode UWalkA. Conditions: each theorem's own. -/
import Derived.Test.YtblfeokjlecgkaaV07
import Derived.Test.YtblfeokjlecgkaaV02
import Derived.Test.YtblfeokjlecgkaaV01
import Derived.MapKept
import Derived.LaidEqlPtr
import Derived.Maps.OwnSet
import Derived.Test.YtblfeokjlecgkaaV05
import Derived.BigQuiet
set_option maxHeartbeats 8000000
namespace Go.Proofs.Ytblfeokjlecgkaa
open _root_.ByteArray renaming empty->pR
open _root_.List renaming mem_singleton->aaW,length_append->A_,getElem?_eq_getElem->jr,length_cons->Bl,mem_append->JQ,getElem?_eq_none->AO,mem_range->acN,getElem?_map->adg,length_map->aaT,length_flatten->acT,map_map->abL,ext_getElem?->adj,map_cons->Bn,cons->adk,length_pos_iff->adx,map_append->abl,mem_map->aaN,mem_cons->Gz,range->adD,map_congr_left->Vg,append_nil->ER,mem_of_getElem?->Yt,mem_append_right->acZ,mem_filter->aaO,Pairwise->abn,nodup_cons->aa5,pairwise_iff_getElem->aaV,pairwise_map->acK,getElem_mem->aal
open Go.RowKit.Below renaming refl->aT,heap_alloc->adM
open Go.Lib renaming hid->aC
open _root_.Array renaming getElem?_eq_some_iff->ade,getElem?_eq_getElem->adF,getElem?_toList->adH,getElem?_modify->adK
open _root_.And renaming intro->Gw
open _root_.Nat renaming add_mul->abU,le_refl->bN,le_trans->zk,mul_le_mul_right->adG
open _root_.Int renaming le_refl->aa1
open _root_.Option renaming map_eq_some_iff->ac4,map_some->abg
open Go.World renaming setCell->adl,cell?->adw
open Go.Value renaming oneCell'->zK
section
variable {U Lo:List Lb} {m0:Int} {X:Int->Prop} {S S':Kn} {a b t:Ut} {k:Int} {x y:Fl} {p q:Option Int} {p0 q0:Int}
theorem kU.ajD (h:kU U Lo m0 X S k x (some p0) y (some q0)) (hpq:p0≠q0) (hre:Reach m0 S p0) (hrq:Reach m0 S q0\/(kT m0 S (.mk k 0 x (some p0))/\iO (.mk k 0 y (some q0))))
  (o1:¬bL p0 (inst (S1 S x y).σ (aH (S1 S x y).m (t1 S k x y)).1)):
  (∃ls,(S2 S k x y p0).L q0=some ls/\(S2 S k x y p0).κ q0=none/\q0<(S2 S k x y p0).m/\iK (S2 S k x y p0) q0 ls (t2 S k x y))/\jT (t2 S k x y)/\
   (bL q0 (inst (S2 S k x y p0).σ (aH (S2 S k x y p0).m (t2 S k x y)).1)->eX m0 S (bF (.mk k 0 x (some p0)) (.mk k 0 y (some q0))))/\
   (¬bL q0 (inst (S2 S k x y p0).σ (aH (S2 S k x y p0).m (t2 S k x y)).1)->
    Done U S ((S2 S k x y p0).aV q0 (t2 S k x y)) (bF (.mk k 0 x (some p0)) (.mk k 0 y (some q0))) (bG (au x y)+bG (au y x))/\dL U Lo m0 X ((S2 S k x y p0).aV q0 (t2 S k x y))/\
     (¬fK m0 ((S2 S k x y p0).aV q0 (t2 S k x y))->eX m0 S (bF (.mk k 0 x (some p0)) (.mk k 0 y (some q0))))):=by
 obtain ⟨k8,k0,_⟩:=bJ h.hk;obtain ⟨j1,_,_,_,_,h1⟩:=h.ab9 hre;obtain ⟨j2,_⟩:=h1 o1;obtain ⟨ls,hl,hqk,S_,rf⟩:∃ls,(S2 S k x y p0).L q0=some ls/\(S2 S k x y p0).κ q0=none/\q0<(S2 S k x y p0).m/\iK (S2 S k x y p0) q0 ls (t2 S k x y):=mY h.j.kg.inv h.ra.of h.rb.of k0 k8 hpq;have vg:=mF h.j.kg.inv h.ga.pend.1;rw [h.ia,iI] at vg;obtain ⟨hpm,xH,kG,hl2,hls⟩:=h.ra.of.tl p0 rfl;obtain ⟨hqm,hqu,ls3,hl3,Yj⟩:=h.rb.of.tl q0 rfl
 have e2:ls=ls3:=by
  have:(S2 S k x y p0).L q0=S.L q0:=rQ hqm;rw [this,hl3] at hl;injection hl with hl
  exact hl.symm
 subst e2;have loa:∀l∈ay x,l∈Lo:=fun l hx=>(h.j.lo p0 kG hl2).2 l ((hls l).2 hx);have lob:∀l∈ay y,l∈Lo:=fun l hy=>(h.j.lo q0 ls hl3).2 l ((Yj l).2 hy);have gF:=h.rwa;rw [mG] at gF
 have hlen:ls.length+(au x y).length<=30:=by
  have h1:=iy (h.j.lo q0 ls hl3).1 fun l hl=>(Yj l).1 hl;have h2:=H_ (x:=y) (y:=x) h.rb.of.vO h.ra.of.vO lob loa;have h3:=h.lo;unfold ay at h1;rw [aaT] at h1;omega
 refine ⟨⟨ls,hl,hqk,S_,rf⟩,by unfold t2;rw [iI];exact ⟨oF h.ra.ri,fun c hc=>vg.2 c (dU hc)⟩,
  fun o2=>oD (OA h.j.kg h.ra h.rb h.hk rfl hpq o1 o2),fun o2=>?_⟩
 have d:=Oy h.j.kg h.ra h.rb h.hk rfl hpq h.sh h.ga.pend h.gb.pend o1 o2
 have hlat:Reach m0 S q0->Reach m0 (S2 S k x y p0) q0:=fun hr=>
  (hr.aQ hqm (rP x y)).later (S:=S1 S x y) (S':=S2 S k x y p0) (β:=Va.id.jh p0 ((inst (S1 S x y).σ (aH (S1 S x y).m (t1 S k x y)).1).fs,(inst (S1 S x y).σ (aH (S1 S x y).m (t1 S k x y)).1).tl)) rfl rfl j1.kg.inv.wf j1.low
 have hL:∀n,n<S.m->((S2 S k x y p0).aV q0 (t2 S k x y)).L n=S.L n:=fun n hn=>rQ hn
 have j3:=j2.aV hqk hl rf d.kg (Ls gF.2) hlen (hrq.imp hlat fun ⟨hh,hs⟩=>⟨Jt h.symm d.kg.inv d.st.le hL (fun τ hτ=>(d.st.co τ hτ).symm) hh hs,by
  have:=hh.st h.j;unfold t2;rw [gP] at this ⊢;exact ⟨k0,fun c hc=>this.2 c (dU hc)⟩⟩)
 have j4:dL U Lo m0 X ((S2 S k x y p0).aV q0 (t2 S k x y)):=j3.wider fun n hn=>hn.1;exact ⟨d,j4,fun hf=>Aa d.st.gen d.kg.inv j4.low h.j.hm hf⟩
def vR (t:Ut):Prop:=gD t\/t= .mk 7 0 [] none
theorem Tx (hk:av k=true) (h:gD (.mk k 0 y q)) (x:Fl) {r:Option Int} (hr:∀z,r=some z->0<=z) (hl:y.length<=30):vR (.mk k 0 (au y x) r):=by
 obtain ⟨k8,k0,k5,k1,k2⟩:=bJ hk;rw [bU] at h;have hlen:(au y x).length<=30:=zk (List.length_filter_le _ _) hl;have ht:(aP r).length<=1:=by cases r<;>simp [aP]
 by_cases he:k=7/\au y x=[]/\r=none
 ·obtain ⟨rfl,e,rfl⟩:=he
  right;rw [e]
 ·left
  have e7:=h.1.row hk;have hsub:∀l,l∈ay (au y x)->l∈ay y:=fun l hl=>(dP.1 hl).1;rw [bU];refine ⟨⟨vP h.1.nd,fun e=>?_,fun _=>fun _=>rfl,fun _=>aa1 _,⟨k1,k2,fun e=>absurd e k5,fun _ e=>?_⟩,fun _=>⟨oF e7.1,fun l hl=>e7.2 l (hsub l hl)⟩,hr,fun _=>by omega,fun e=>?_⟩,fun c hc=>h.2 c (dU hc)⟩
  ·rcases e with e|e<;>omega
  ·rw [hk] at e;cases e
  ·have:au y x≠[]\/r≠none:=by
    by_cases e1:au y x=[]
    ·exact .inr fun e2=>he ⟨e,e1,e2⟩
    ·exact .inl e1
   rcases this with h1|h1
   ·have:=adx.2 h1
    omega
   ·cases r with
    |none=>exact absurd rfl h1
    |some z=>simp [aP]
theorem kU.wf (h:kU U Lo m0 X S k x p y q):gD (.mk k 0 x p)/\gD (.mk k 0 y q):=by
 have ri:=mF h.j.kg.inv h.ga.pend.1;have rj:=mF h.j.kg.inv h.gb.pend.1;rw [h.ia] at ri;rw [h.ib] at rj;exact ⟨EC _ h.ga.pend.1 h.ga.sh ri h.ga.nn h.ga.lb h.rwa,EC _ h.gb.pend.1 h.gb.sh rj h.gb.nn h.gb.lb h.rwb⟩
abbrev dA (S:Kn) (n:Int):Ut:=jl S.L S.σ (l6 S) n
theorem Tz {κ:Int->Option Ut} {L:Sorts} {σ:Va} {m v n:Int} (h:n≠v) (u:Ut) {S:Kn} (hS:S.κ=κ):l6 ⟨upd κ v u,L,σ,m⟩ n=l6 S n:=by
 unfold l6;show (match upd κ v u n with|some t=>t.k|none=>6)=_;rw [bQ h,hS];rfl
theorem Yk (h:S.Inv) {n:Int}:∀ls,S.L n=some ls->l6 S n≠8:=fun ls hl=>by
 unfold l6
 cases e:S.κ n with
 |none=>simp
 |some t=>exact (h.row n t ls e hl).1
theorem TB (h:S.Inv) {v n:Int} (hn:n≠v) (t:Ut):dA (S.eF v t) n=inst (Va.id.iL v (inst S.σ (aH S.m t).1)) (dA S n):=by
 have e:=Lr (L:=S.L) (σ:=S.σ) (β:=Va.id.iL v (inst S.σ (aH S.m t).1)) (kd:=l6 S) (n:=n) (Yk h);rw [show inst (Va.id.iL v (inst S.σ (aH S.m t).1)) (dA S n)=_ from e];unfold dA jl;show (match S.L n with|none=>_|some _=>Ut.mk (l6 (S.eF v t) n) 0 _ _)=_
 cases S.L n with
 |none=>rfl
 |some ls=>
  show Ut.mk (l6 (S.eF v t) n) 0 _ _=Ut.mk (l6 S n) 0 _ _;rw [show l6 (S.eF v t) n=l6 S n from Tz hn _ rfl];rfl
theorem Ia (h:S.Inv) {v:Int} (hv:S.κ v=none) (hl:S.L v=none) (t:Ut):dA (S.eF v t) v=inst S.σ (aH S.m t).1:=by
 unfold dA jl;show (match S.L v with|none=>(S.eF v t).σ.v v|some _=>_)=_;rw [hl];show inst (Va.id.iL v (inst S.σ (aH S.m t).1)) (S.σ.v v)=_;rw [(h.unk v hv).1,aW];show (if v=v then _ else aS v)=_;rw [if_pos rfl]
theorem TD (h:S.Inv) {v n:Int} (hn:n≠v) (t:Ut):dA (S.aV v t) n=inst (Va.id.jh v ((inst S.σ (aH S.m t).1).fs,(inst S.σ (aH S.m t).1).tl)) (dA S n):=by
 have e:=Lr (L:=S.L) (σ:=S.σ) (β:=Va.id.jh v ((inst S.σ (aH S.m t).1).fs,(inst S.σ (aH S.m t).1).tl)) (kd:=l6 S) (n:=n) (Yk h);rw [show inst (Va.id.jh v ((inst S.σ (aH S.m t).1).fs,(inst S.σ (aH S.m t).1).tl)) (dA S n)=_ from e];unfold dA jl;show (match S.L n with|none=>_|some _=>Ut.mk (l6 (S.aV v t) n) 0 _ _)=_
 cases S.L n with
 |none=>rfl
 |some ls=>
  show Ut.mk (l6 (S.aV v t) n) 0 _ _=Ut.mk (l6 S n) 0 _ _;rw [show l6 (S.aV v t) n=l6 S n from Tz hn _ rfl];rfl
theorem Ib (h:S.Inv) {v:Int} {ls:List Lb} (hv:S.κ v=none) (hl:S.L v=some ls) (r:iK S v ls t):dA (S.aV v t) v=inst S.σ (aH S.m t).1:=by
 have e:=OO h r
 have hr:dY (inst S.σ (aH S.m t).1).fs:=by
  have:=yN h.wf.ok _ (jX t S.m ⟨r.ok,r.bd,h.new⟩).2.1;rw [e,iI] at this;rw [e];exact this.1
 have hk:l6 (S.aV v t) v=t.k:=by
  unfold l6;show (match upd S.κ v (aH S.m t).1 v with|some t=>t.k|none=>6)=_;rw [upd_same];exact (oQ (m:=S.m) r.k0).1
 unfold dA jl;show (match S.L v with|none=>_|some _=>Ut.mk (l6 (S.aV v t) v) 0 ((S.aV v t).σ.t v).1 ((S.aV v t).σ.t v).2)=_;rw [hl,hk];simp only
 have e2:(S.aV v t).σ.t v=((inst S.σ (aH S.m t).1).fs,(inst S.σ (aH S.m t).1).tl):=by
  show (aZ (aI _ (S.σ.t v).1++((Va.id.jh v _).tail (S.σ.t v).2).1),((Va.id.jh v _).tail (S.σ.t v).2).2)=_;rw [(h.unk v hv).2];show (aZ ([]++(if v=v then _ else _:Fl×Option Int).1),(if v=v then _ else _:Fl×Option Int).2)=_;rw [if_pos rfl,List.nil_append,dh hr]
 rw [e2,e];rfl
structure fG (S:Kn) (ns:List Int):Prop where
 nd:ns.Nodup
 iff:∀n,n∈ns↔S.κ n≠none
theorem fG.snoc {ns:List Int} (h:fG S ns) {v:Int} (hv:S.κ v=none) {t:Ut} (hκ:S'.κ=upd S.κ v t):fG S' (ns++[v]):=by
 refine ⟨?_,fun n=>?_⟩
 ·rw [List.nodup_append]
  exact ⟨h.nd,by simp,fun a ha b hb e=>by
   simp only [aaW] at hb;rw [e,hb] at ha;exact (h.iff v).1 ha hv⟩
 ·rw [JQ,aaW,h.iff,hκ]
  by_cases e:n=v
  ·rw [e,upd_same]
   simp
  ·rw [bQ e]
   simp [e]
end
theorem Ej {a b:Fl} (h:a.Perm b):(jv a).length=(jv b).length:=by
 induction h with
 |nil=>rfl
 |cons x _ ih=>rw [fq,fq,A_,A_,ih]
 |swap x y l=>rw [fq,fq,fq,fq];simp only [A_];omega
 |trans _ _ h1 h2=>exact h1.trans h2
theorem Ju (a b:Fl):jv (a++b)=jv a++jv b:=by
 rw [kN,kN,kN,abl,List.flatten_append]
theorem Wx {L:Sorts} {τ:Va} {B:Nat} (hB:1<=B) (hv:∀n,L n=none->∀s,(aB s (τ.v n)).length<=B) (ht:∀p ls,L p=some ls->(jv (τ.t p).1).length+1<=B):
  ∀t,dQ L t->j_ t->∀s,(aB s (inst τ t)).length<=(aB s t).length*B:=by
 refine Ut.ind fun k n fs tl ih ho hs s=>?_;rw [bK] at ho;rw [iV] at hs
 have hF:∀gs:Fl,(∀p∈gs,p∈fs)->(jv (aI (inst τ) gs)).length<=(jv gs).length*B/\(nV (aI (inst τ) gs)).length<=(nV gs).length*B:=by
  intro gs
  induction gs with
  |nil=>intro _;exact ⟨by rw [lT];simp [aI,lT],by rw [gH];simp [aI,gH]⟩
  |cons p gs ih2=>
   intro hg;obtain ⟨a,b⟩:=ih2 fun q hq=>hg q (by simp [hq]);have hp:=hg p (by simp);have c:=ih p hp (ho.2 p hp) (hs.2 p hp) p.1;have d:=ih p hp (ho.2 p hp) (hs.2 p hp) pR;rw [eU,fq,fq,gT,gT,A_,A_,A_,A_,abU,abU];exact ⟨Nat.add_le_add c a,Nat.add_le_add d b⟩
 by_cases h8:k=8
 ·rw [aK,if_pos h8]
  have h1:=hv n (ho.1.2.2.1 h8) s;have h2:=oV s (.mk k n fs tl);have:1*B<=(aB s (.mk k n fs tl)).length*B:=adG _ h2;omega
 ·rw [aK,if_neg h8,bY,bY]
  obtain ⟨a,b⟩:=hF fs fun p hp=>hp
  cases hr:av k with
  |true=>
   rw [if_pos rfl,if_pos rfl,Bl,Bl,A_,A_,Ej (eT _),Ju,A_,abU,abU,Nat.one_mul]
   cases tl with
   |none=>
    have e1:(jv (τ.tail none).1).length=0:=by show (jv []).length=0;rw [lT];rfl
    have e2:(aP (τ.tail none).2).length=0:=rfl;rw [e1,e2]
    omega
   |some p=>
    obtain ⟨ls,hl,_⟩:=ho.1.2.2.2.2 p rfl;have h1:=ht p ls hl;have h2:(aP (τ.t p).2).length<=1:=by cases (τ.t p).2<;>simp [aP]
    show (jv (aI (inst τ) fs)).length+(jv (τ.t p).1).length+(aP (τ.t p).2).length+1<=(jv fs).length*B+1*B+B
    omega
  |false=>
   have htl:tl=none:=by
    by_cases h5:k=5
    ·exact (hs.1.2.2.1 h5).2
    ·exact (hs.1.2.2.2 h5 hr).2
   subst htl;rw [if_neg (by simp),if_neg (by simp)];show ((_::nV (aZ (aI (inst τ) fs++[])))).length<=_;rw [ER,Bl,Bl,abU,Nat.one_mul]
   have:(nV (aZ (aI (inst τ) fs))).length=(nV (aI (inst τ) fs)).length:=by
    rw [qP,qP,acT,acT,abL,abL];exact ((eT (aI (inst τ) fs)).map _).sum_nat
   omega
section
variable {U Lo:List Lb} {m0:Int} {X:Int->Prop} {S S0 S':Kn} {a b a0 b0 A B t T:Ut} {D:List Lb}
structure Ic (m0:Int) (S:Kn) (T:Ut):Prop where
 hk:av T.k=true
 ch:∀c∈T.fs,kT m0 S c.2
 st:iO T
 rw:qb T
def nN (U:List Lb) (m0:Int) (S:Kn) (A B:Ut):Prop:=(Hand U m0 S A/\Hand U m0 S B)\/(kT m0 S A/\Ic m0 S B)
theorem nN.fst (h:nN U m0 S A B):Hand U m0 S A:=by
 rcases h with h|h
 ·exact h.1
 ·exact .inl h.1
theorem nN.Wy (h:nN U m0 S A B) (j:dL U Lo m0 X S):qb B:=by
 rcases h with h|h
 ·exact h.2.rw j
 ·exact h.2.rw
theorem nN.child {k n k' n':Int} {fs gs:Fl} {tl tl':Option Int} (h:nN U m0 S (.mk k n fs tl) (.mk k' n' gs tl')) {c d:Lb×Ut} (hc:c∈fs) (hd:d∈gs):nN U m0 S c.2 d.2:=by
 rcases h with h|h
 ·exact .inl ⟨h.1.child hc,h.2.child hd⟩
 ·exact .inl ⟨(Hand.child (.inl h.1) hc),.inl (h.2.ch d hd)⟩
theorem Reach.hand {q:Int} {ls:List Lb} (h:Reach m0 S q) (hl:S.L q=some ls):∀c∈(S.σ.t q).1,kT m0 S c.2:=fun c hc=>by
 obtain ⟨x,x0,x1,_,h3⟩:=h;obtain ⟨k,gs,_,hs,hg⟩:=h3 ls hl;exact ⟨x,x0,x1,(Sub.child (hg c hc) (.here _)).trans hs⟩
theorem Ic.later (h:Ic m0 S T) (g:TG U S T) (j:dL U Lo m0 X S) (j':dL U Lo m0 X S') (l:S.Le S'):Ic m0 S' (inst S'.σ T):=by
 have g':=g.later l;refine ⟨?_,?_,rH j'.kg.inv.wf.ok _ g'.pend.1 h.st,rZ j'.rw _ g'.pend.1 h.rw⟩
 ·have k8:=(bJ h.hk).1
  have hk:=h.hk;obtain ⟨k,n,fs,tl⟩:=T;have k8:k≠8:=k8;rw [aK,if_neg k8];exact hk
 ·have hch:=h.ch
  have k8:=(bJ h.hk).1;have hnn:=g'.nn;have ho0:=g'.pend;obtain ⟨k,n,fs,tl⟩:=T;have k8:k≠8:=k8;have ho:dQ S'.L (.mk k n fs tl)/\jf S'.m (.mk k n fs tl):=ho0;rw [bK,iJ] at ho;rw [lS] at hnn;rw [aK,if_neg k8];intro c hc;have hc:c∈aZ (aI (inst S'.σ) fs++(S'.σ.tail tl).1):=hc;rw [dX] at hc;rcases JQ.1 hc with hc|hc
  ·obtain ⟨d,hd,rfl⟩:=aaN.1 hc
   exact (hch d hd).later j j'.kg.inv l
  ·cases tl with
   |none=>cases hc
   |some q=>
    obtain ⟨ls,hl,_⟩:=ho.1.1.2.2.2.2 q rfl;rcases j'.re q (hnn.2.1 q rfl) (ho.2.2.1 q rfl) with r|r
    ·exact r.hand hl c hc
    ·have hc:c∈(S'.σ.t q).1:=hc
     rw [(j'.kg.inv.unk q r.2).2] at hc
     cases hc
theorem nN.later (h:nN U m0 S A B) (g:TG U S B) (j:dL U Lo m0 X S) (j':dL U Lo m0 X S') (l:S.Le S'):nN U m0 S' (inst S'.σ A) (inst S'.σ B):=by
 rcases h with h|h
 ·exact .inl ⟨h.1.later j j'.kg.inv l,h.2.later j j'.kg.inv l⟩
 ·exact .inr ⟨h.1.later j j'.kg.inv l,h.2.later g j j' l⟩
theorem Ic.len (h:Ic m0 S T) (hf:fK m0 S) (s:Lb):(aB s T).length<=600002:=by
 have hch:=h.ch;have hrw:=h.rw;have hk:=h.hk;obtain ⟨k,n,fs,tl⟩:=T;rw [mG] at hrw;have hk:av k=true:=hk;have h30:=(hrw.1 hk).1
 have hF:∀gs:Fl,(∀p∈gs,p∈fs)->(jv gs).length<=gs.length*20000:=by
  intro gs
  induction gs with
  |nil=>intro _;simp [lT]
  |cons p gs ih=>
   intro hg;have h1:=ih fun q hq=>hg q (by simp [hq]);have h2:=(hch p (hg p (by simp))).len hf p.1;rw [fq,A_,Bl];omega
 have h1:=hF fs fun p hp=>hp;have h2:(aP tl).length<=1:=by cases tl<;>simp [aP]
 have h3:fs.length*20000<=30*20000:=adG _ h30;rw [bY,if_pos hk];simp only [Bl,A_];omega
theorem nN.len (h:nN U m0 S A B) (hf:fK m0 S) (s:Lb):(aB s A).length<=600002/\(aB s B).length<=600002:=by
 rcases h with h|h
 ·have:=h.1.len hf s
  have:=h.2.len hf s;omega
 ·have:=h.1.len hf s
  have:=h.2.len hf s;omega
structure oW (U Lo:List Lb) (m0:Int) (X:Int->Prop) (S:Kn) (a b:Ut):Prop where
 j:dL U Lo m0 X S
 fit:fK m0 S
 lo:Lo.length<=30
 ga:TG U S a
 gb:TG U S b
 pair:nN U m0 S (inst S.σ a) (inst S.σ b)
 mb:S.m+(S.un:Int)+2*(aJ a+aJ b:Nat)<=1000000
theorem oW.wf (h:oW U Lo m0 X S a b):gD (inst S.σ a)/\gD (inst S.σ b):=by
 have g1:=h.ga.res h.j.kg;have g2:=h.gb.res h.j.kg;exact ⟨EC _ g1.pend.1 g1.sh (mF h.j.kg.inv h.ga.pend.1) g1.nn g1.lb (h.pair.fst.rw h.j),EC _ g2.pend.1 g2.sh (mF h.j.kg.inv h.gb.pend.1) g2.nn g2.lb (h.pair.Wy h.j)⟩
theorem oW.dyn (h:oW U Lo m0 X S a b):aJ (inst S.σ a)=aJ a/\aJ (inst S.σ b)=aJ b:=
 ⟨qQ h.j.kg.inv.wf.ok _ h.ga.pend.1,qQ h.j.kg.inv.wf.ok _ h.gb.pend.1⟩
theorem oW.back (h:oW U Lo m0 X S a b) {n:Nat} (d:Done U S S' (bF (inst S.σ a) (inst S.σ b)) n):Done U S S' (bF a b) n:=
 d.eqv (h.ga.res h.j.kg).pend h.ga.pend (h.gb.res h.j.kg).pend h.gb.pend (nE h.j.kg.inv h.ga.pend.1).symm (nE h.j.kg.inv h.gb.pend.1).symm
theorem oW.ab_ (h:oW U Lo m0 X S a b) (d:eX m0 S (bF (inst S.σ a) (inst S.σ b))):eX m0 S (bF a b):=
 EF d (nE h.j.kg.inv h.ga.pend.1).symm (nE h.j.kg.inv h.gb.pend.1).symm
theorem oW.afS (h:oW U Lo m0 X S a b) (hk:(inst S.σ a).k=0\/(inst S.σ b).k=0) (n:Nat):Done U S S (bF a b) n:=by
 rcases hk with hk|hk
 ·exact h.back (.none h.j.kg (zU h.j.kg.inv hk) n)
 ·exact h.back (.none h.j.kg (zU h.j.kg.inv hk).symm n)
theorem oW.same (h:oW U Lo m0 X S a b) (ha:(inst S.σ a).k=8) (hb:(inst S.σ b).k=8) (hn:(inst S.σ a).n=(inst S.σ b).n) (n:Nat):Done U S S (bF a b) n:=by
 have e1:=(FN h.j.kg h.ga ha).1;have e2:=(FN h.j.kg h.gb hb).1;refine h.back (.none h.j.kg ?_ n);rw [e1,e2,hn];exact Jo h.j.kg.inv _
theorem oW.kinds (h:oW U Lo m0 X S a b) (hk:(inst S.σ a).k≠(inst S.σ b).k) (a0:(inst S.σ a).k≠0) (a8:(inst S.σ a).k≠8) (b0:(inst S.σ b).k≠0) (b8:(inst S.σ b).k≠8):eX m0 S (bF a b):=
 h.ab_ (oD (Fx hk a0 a8 b0 b8))
theorem t_ (j:dL U Lo m0 X S) (g:TG U S t) (h8:(inst S.σ t).k=8):S.κ (inst S.σ t).n=none/\S.L (inst S.σ t).n=none/\0<=(inst S.σ t).n/\(inst S.σ t).n<S.m/\inst S.σ t=aS (inst S.σ t).n:=by
 have gr:=g.res j.kg;obtain ⟨e,hk⟩:=FN j.kg g h8;generalize inst S.σ t=T at*;obtain ⟨k,n,fs,tl⟩:=T;have h8:k=8:=h8;have ho:dQ S.L (.mk k n fs tl)/\jf S.m (.mk k n fs tl):=gr.pend;have hn:=gr.nn;rw [bK,iJ] at ho;rw [lS] at hn;exact ⟨hk,ho.1.1.2.2.1 h8,hn.1 (.inl h8),ho.2.1 h8,e⟩
theorem oW.ajE (h:oW U Lo m0 X S a b) (h8:(inst S.σ a).k=8) (b0:(inst S.σ b).k≠0) (hn:(inst S.σ b).k=8->(inst S.σ b).n≠(inst S.σ a).n):wV U Lo m0 X S (inst S.σ a).n (inst S.σ b):=by
 obtain ⟨v1,v2,v3,v4,e⟩:=t_ h.j h.ga h8;have hp:=h.pair.fst;rw [e] at hp;exact ⟨h.j,h.fit,v1,v2,v3,v4,hp.Ki h.j v1 v2,h.gb.res h.j.kg,h.pair.Wy h.j,b0,fun e8=>⟨(FN h.j.kg h.gb e8).2,hn e8⟩⟩
theorem oW.ajF (h:oW U Lo m0 X S a b) (h8:(inst S.σ b).k=8) (a0:(inst S.σ a).k≠0) (a8:(inst S.σ a).k≠8):wV U Lo m0 X S (inst S.σ b).n (inst S.σ a):=by
 obtain ⟨v1,v2,v3,v4,e⟩:=t_ h.j h.gb h8
 have hp:Hand U m0 S (inst S.σ b):=by
  rcases h.pair with p|p
  ·exact p.2
  ·have:=p.2.hk
   rw [h8] at this
   cases this
 rw [e] at hp;exact ⟨h.j,h.fit,v1,v2,v3,v4,hp.Ki h.j v1 v2,h.ga.res h.j.kg,h.pair.fst.rw h.j,a0,fun e8=>absurd e8 a8⟩
end
section
variable {U Lo:List Lb} {m0:Int} {X:Int->Prop} {S S0 S':Kn} {a b a0 b0:Ut} {D:List Lb} {i:Nat}
def r_ (S0:Kn) (a b:Ut) (S:Kn) (c d:Ut):Prop:=
 S.un+(aJ c+aJ d)<S0.un+(aJ a+aJ b)\/S.un+(aJ c+aJ d)=S0.un+(aJ a+aJ b)/\gL (inst S.σ c)+gL (inst S.σ d)<gL (inst S0.σ a)+gL (inst S0.σ b)
theorem oW.res (h:oW U Lo m0 X S a b):oW U Lo m0 X S (inst S.σ a) (inst S.σ b):=
 ⟨h.j,h.fit,h.lo,h.ga.res h.j.kg,h.gb.res h.j.kg,by rw [kJ h.j.kg.inv h.ga.pend.1,kJ h.j.kg.inv h.gb.pend.1];exact h.pair,by rw [h.dyn.1,h.dyn.2];exact h.mb⟩
theorem r_.res {c d:Ut} (h:oW U Lo m0 X S0 a b) (l:r_ S0 (inst S0.σ a) (inst S0.σ b) S c d):r_ S0 a b S c d:=by
 unfold r_ at*;rw [h.dyn.1,h.dyn.2,kJ h.j.kg.inv h.ga.pend.1,kJ h.j.kg.inv h.gb.pend.1] at l;exact l
structure Cm (U Lo:List Lb) (m0:Int) (X:Int->Prop) (S0 S:Kn) (a0 b0:Ut) (D:List Lb):Prop where
 h0:oW U Lo m0 X S0 a0 b0
 ri:ow U S0 S a0 b0 D
 j:dL U Lo m0 X S
 fit:fK m0 S
 hk:av a0.k=true
 hab:b0.k=a0.k
theorem Cm.start (h:oW U Lo m0 X S a0 b0) (hk:av a0.k=true) (hab:b0.k=a0.k):Cm U Lo m0 X S S a0 b0 []:=
 ⟨h,.start h.j.kg a0 b0,h.j,h.fit,hk,hab⟩
theorem Cm.pair (h:Cm U Lo m0 X S0 S a0 b0 D):nN U m0 S (inst S.σ a0) (inst S.σ b0):=by
 have:=h.h0.pair.later (h.h0.gb.res h.h0.j.kg) h.h0.j h.j h.ri.lp.le
 rwa [qR h.h0.j.kg.inv h.j.kg.inv h.ri.lp.le h.h0.ga.pend.1 h.h0.ga.pend.2,qR h.h0.j.kg.inv h.j.kg.inv h.ri.lp.le h.h0.gb.pend.1 h.h0.gb.pend.2] at this
theorem Dy {f g:Ut->Ut} {x y:Fl}:au (aI f x) (aI g y)=aI f (au x y):=by
 unfold au;rw [fJ];unfold aI;rw [List.filter_map];rfl
theorem Cm.known (h:Cm U Lo m0 X S0 S a0 b0 D):∃x p y q,dK U S a0 x p/\dK U S b0 y q/\inst S.σ a0= .mk a0.k 0 (aI (inst S.σ) x) p/\inst S.σ b0= .mk a0.k 0 (aI (inst S.σ) y) q:=by
 obtain ⟨x,p,r⟩:=Qn h.j.kg h.hk (h.h0.ga.later h.ri.lp.le);obtain ⟨y,q,r2⟩:=Qn h.j.kg (t:=b0) (by rw [h.hab];exact h.hk) (h.h0.gb.later h.ri.lp.le);have e:=r2.is;rw [h.hab] at e;exact ⟨x,p,y,q,r,r2,r.is,e⟩
theorem Cm.wf (h:Cm U Lo m0 X S0 S a0 b0 D):gD (inst S.σ a0)/\gD (inst S.σ b0):=by
 have ga:=h.h0.ga.later h.ri.lp.le;have gb:=h.h0.gb.later h.ri.lp.le;have g1:=ga.res h.j.kg;have g2:=gb.res h.j.kg;exact ⟨EC _ g1.pend.1 g1.sh (mF h.j.kg.inv ga.pend.1) g1.nn g1.lb (h.pair.fst.rw h.j),EC _ g2.pend.1 g2.sh (mF h.j.kg.inv gb.pend.1) g2.nn g2.lb (h.pair.Wy h.j)⟩
theorem Cm.child (h:Cm U Lo m0 X S0 S a0 b0 D) {x:Fl} {p:Option Int} {y:Fl} {q:Option Int} (r:dK U S a0 x p) (r2:dK U S b0 y q) {l:Lb} {c d:Ut} (hl:l∉D) (hc:aL l (aI (inst S.σ) x)=some c) (hd:aL l (aI (inst S.σ) y)=some d):
  oW U Lo m0 X S c d/\r_ S0 a0 b0 S c d/\(∀S',Done U S S' (bF c d) (aJ c+aJ d)->dL U Lo m0 X S'->fK m0 S'->Cm U Lo m0 X S0 S' a0 b0 (l::D))/\(eX m0 S (bF c d)->eX m0 S0 (bF a0 b0)):=by
 have i:=h.j.kg.inv;have hAm:=bR hc;have hBm:=bR hd;rw [iw] at hc hd;obtain ⟨c1,hc1,rfl⟩:=ac4.1 hc;obtain ⟨d1,hd1,rfl⟩:=ac4.1 hd;have gc:=r.el (l,c1) (bR hc1);have gd:=r2.el (l,d1) (bR hd1);have ec:=qQ i.wf.ok _ gc.pend.1;have ed:=qQ i.wf.ok _ gd.pend.1;have tc:=kJ i gc.pend.1;have td:=kJ i gd.pend.1;have e1:=mZ hl hc1;have e2:=mZ hl hd1;rw [iD r,iD r] at e1;rw [iD r2,iD r2] at e2;have hm:=h.ri.m;have hmb:=h.h0.mb;have hp:=h.pair;have rb:=r2.is;rw [h.hab] at rb;rw [r.is,rb] at hp;have hp2:=hp.child hAm hBm;have ag:oW U Lo m0 X S (inst S.σ c1) (inst S.σ d1):=⟨h.j,h.fit,h.h0.lo,gc.res h.j.kg,gd.res h.j.kg,by rw [tc,td];exact hp2,by rw [ec,ed];simp only at*;omega⟩;refine ⟨ag,?_,fun S' d j' f'=>?_,fun n=>?_⟩
 ·unfold r_
  rw [ec,ed,tc,td];rcases h.ri.less r r2 hl hc1 hd1 with e|⟨e,rfl,e3⟩
  ·exact .inl e
  ·exact .inr ⟨e,e3⟩
 ·rw [ec,ed] at d
  have d2:=d.eqv (a':=c1) (b':=d1) (gc.res h.j.kg).pend gc.pend (gd.res h.j.kg).pend gd.pend (nE i gc.pend.1).symm (nE i gd.pend.1).symm;exact ⟨h.h0,h.ri.next h.h0.ga.pend h.h0.gb.pend r r2 h.hk h.hab hl hc1 hd1 d2,j',f',h.hk,h.hab⟩
 ·have n2:eX m0 S (bF c1 d1):=EF n (nE i gc.pend.1).symm (nE i gd.pend.1).symm
  have r2':=r2.of;rw [h.hab] at r2';exact Ck h.ri.lp h.h0.ga.pend h.h0.gb.pend h.h0.j.hm (BP r.of r2' (bJ h.hk).2.1 hc1 hd1) n2
theorem Cm.ends (h:Cm U Lo m0 X S0 S a0 b0 D) {x:Fl} {p:Option Int} {y:Fl} {q:Option Int} (r:dK U S a0 x p) (r2:dK U S b0 y q) (hD:∀l,l∈ay x->l∈ay y->l∈D):
  kU U Lo m0 X S a0.k (aI (inst S.σ) x) p (aI (inst S.σ) y) q/\(∀p0,p=some p0->Reach m0 S p0)/\
   (∀q0,q=some q0->Reach m0 S q0\/(kT m0 S (.mk a0.k 0 (aI (inst S.σ) x) p)/\iO (.mk a0.k 0 (aI (inst S.σ) y) q)))/\
   (∀S',Done U S S' (bF (.mk a0.k 0 (aI (inst S.σ) x) p) (.mk a0.k 0 (aI (inst S.σ) y) q)) (bG (au (aI (inst S.σ) x) (aI (inst S.σ) y))+bG (au (aI (inst S.σ) y) (aI (inst S.σ) x)))->Done U S0 S' (bF a0 b0) (aJ a0+aJ b0))/\
   (eX m0 S (bF (.mk a0.k 0 (aI (inst S.σ) x) p) (.mk a0.k 0 (aI (inst S.σ) y) q))->eX m0 S0 (bF a0 b0)):=by
 have i:=h.j.kg.inv;have ga:=h.h0.ga.later h.ri.lp.le;have gb:=h.h0.gb.later h.ri.lp.le;have eA:=r.is;have eB:=r2.is;rw [h.hab] at eB;have kA:av (inst S.σ a0).k=true:=by rw [eA];exact h.hk
 have kB:av (inst S.σ b0).k=true:=by rw [eB];exact h.hk
 have ra:=dK.res h.j.kg ga kA;have rb:=dK.res h.j.kg gb kB;have tA:=ga.res h.j.kg;have tB:=gb.res h.j.kg;have wA:=kJ i ga.pend.1;have wB:=kJ i gb.pend.1;have hp:=h.pair;have qA:=nE i ga.pend.1;have qB:=nE i gb.pend.1;have rwA:=h.pair.fst.rw h.j;have Wy:=h.pair.Wy h.j;have k8:=(bJ h.hk).1;rw [eA] at ra tA wA hp qA rwA;rw [eB] at rb tB wB hp qB Wy;have hsh:=h.ri.shared r r2 hD
 have en:kU U Lo m0 X S a0.k (aI (inst S.σ) x) p (aI (inst S.σ) y) q:=by
  refine ⟨h.j,h.fit,h.h0.lo,h.hk,ra,rb,tA,tB,wA,wB,fun l c d hc hd τ hτ=>?_,rwA,Wy⟩;rw [iw] at hc hd;obtain ⟨c1,hc1,rfl⟩:=ac4.1 hc;obtain ⟨d1,hd1,rfl⟩:=ac4.1 hd;have gc:=r.el (l,c1) (bR hc1);have gd:=r2.el (l,d1) (bR hd1);rw [nE i gc.pend.1 τ hτ,nE i gd.pend.1 τ hτ];exact hsh l c1 d1 hc1 hd1 τ hτ
 refine ⟨en,fun p0 hp0=>?_,fun q0 hq0=>?_,fun S' d=>?_,fun n=>?_⟩
 ·obtain ⟨_,e2,ls,e3,_⟩:=r.of.tl p0 hp0
  have:=hp.fst;rw [hp0] at this;exact this.Kj h.j k8 e2 e3
 ·obtain ⟨_,e2,ls,e3,_⟩:=r2.of.tl q0 hq0
  rcases hp with hp|hp
  ·have:=hp.2
   rw [hq0] at this;exact .inl (this.Kj h.j k8 e2 e3)
  ·exact .inr ⟨hp.1,hp.2.st⟩
 ·have d2:=d.eqv (a':=a0) (b':=b0) tA.pend ga.pend tB.pend gb.pend qA.symm qB.symm
  have e1:bG (au (aI (inst S.σ) x) (aI (inst S.σ) y))=bG (au x y):=by
   rw [Dy];exact tZ fun c hc=>qQ i.wf.ok _ (r.el c (dU hc)).pend.1
  have e2:bG (au (aI (inst S.σ) y) (aI (inst S.σ) x))=bG (au y x):=by
   rw [Dy];exact tZ fun c hc=>qQ i.wf.ok _ (r2.el c (dU hc)).pend.1
  rw [e1,e2] at d2;exact h.ri.stop h.h0.ga.pend h.h0.gb.pend r r2 d2
 ·exact Ck h.ri.lp h.h0.ga.pend h.h0.gb.pend h.h0.j.hm (fun τ _ hc=>hc) (EF n qA.symm qB.symm)
structure Nt (U Lo:List Lb) (m0:Int) (X:Int->Prop) (S0 S:Kn) (a0 b0:Ut) (i:Nat):Prop where
 h0:oW U Lo m0 X S0 a0 b0
 ra:inst S0.σ a0=a0
 rb:inst S0.σ b0=b0
 ki:qC U S0 S a0 b0 i
 j:dL U Lo m0 X S
 fit:fK m0 S
 like:Like a0 b0
theorem Nt.start (h:oW U Lo m0 X S a0 b0) (ra:inst S.σ a0=a0) (rb:inst S.σ b0=b0) (l:Like a0 b0):Nt U Lo m0 X S S a0 b0 0:=
 ⟨h,ra,rb,.start h.j.kg a0 b0,h.j,h.fit,l⟩
theorem TG.mem {t:Ut} (g:TG U S t) {c:Lb×Ut} (hc:c∈t.fs):TG U S c.2:=by
 obtain ⟨k,n,fs,tl⟩:=t;exact g.child hc
theorem nN.mem {A B:Ut} (h:nN U m0 S A B) {c d:Lb×Ut} (hc:c∈A.fs) (hd:d∈B.fs):nN U m0 S c.2 d.2:=by
 obtain ⟨k,n,fs,tl⟩:=A;obtain ⟨k2,n2,fs2,tl2⟩:=B;exact h.child hc hd
theorem Nt.child (h:Nt U Lo m0 X S0 S a0 b0 i) {c d:Lb×Ut} (hc:a0.fs[i]?=some c) (hd:b0.fs[i]?=some d):
  oW U Lo m0 X S c.2 d.2/\r_ S0 a0 b0 S c.2 d.2/\(∀S',Done U S S' (bF c.2 d.2) (aJ c.2+aJ d.2)->dL U Lo m0 X S'->fK m0 S'->Nt U Lo m0 X S0 S' a0 b0 (i+1))/\(eX m0 S (bF c.2 d.2)->eX m0 S0 (bF a0 b0)):=by
 have mc:=Yt hc;have md:=Yt hd;have gc:=h.h0.ga.mem mc;have gd:=h.h0.gb.mem md;have hp:=h.h0.pair;rw [h.ra,h.rb] at hp;have hp2:=(hp.mem mc md).later gd h.h0.j h.j h.ki.lp.le;have hm:=h.ki.m;have hmb:=h.h0.mb;have e1:=qO hc;have e2:=qO hd;have ag:oW U Lo m0 X S c.2 d.2:=⟨h.j,h.fit,h.h0.lo,gc.later h.ki.lp.le,gd.later h.ki.lp.le,hp2,by omega⟩;refine ⟨ag,?_,fun S' s j' f'=>⟨h.h0,h.ra,h.rb,h.ki.next h.like h.h0.ga h.h0.gb hc hd s,j',f',h.like⟩,fun n=>?_⟩
 ·rcases h.ki.less h.like h.h0.ga h.h0.gb hc hd with e|⟨e,rfl,e3⟩
  ·exact .inl e
  ·exact .inr ⟨e,e3⟩
 ·exact Ck h.ki.lp h.h0.ga.pend h.h0.gb.pend h.h0.j.hm (fun τ _ hc'=>(h.like.iff h.h0.ga h.h0.gb τ).1 hc' i c d hc hd) n
theorem Nt.stop (h:Nt U Lo m0 X S0 S a0 b0 i) (hi:a0.fs.length<=i):Done U S0 S (bF a0 b0) (aJ a0+aJ b0):=h.ki.stop h.like h.h0.ga h.h0.gb hi
end
section
variable {U Lo:List Lb} {m0:Int} {X:Int->Prop} {S S' Sp:Kn} {l:List Stp} {x:Stp} {ns:List Int}
structure iB (U Lo:List Lb) (m0:Int) (l:List Stp) (S:Kn) (ns:List Int):Prop where
 run:oC U m0 l S
 j:dL U Lo m0 (fun _=>False) S
 num:fG S ns
theorem iB.start (U Lo:List Lb) {m0:Int} (h0:0<=m0):iB U Lo m0 [] (Kn.zero m0) []:=by
 refine ⟨.start U h0,⟨FI U h0,h0,aa1 _,fun _ _=>rfl,fun p ls hp=>(by cases hp),⟨fun n _=>yY n,fun p ls hp=>(by cases hp)⟩,fun n n0 n1=>.inl ⟨n,n0,n1,fun _=>.here _,fun ls hl=>(by cases hl)⟩⟩,⟨List.nodup_nil,fun n=>⟨fun h=>(by cases h),fun h=>absurd rfl h⟩⟩⟩
theorem iB.no (h:iB U Lo m0 l S ns) (g:GoodS U m0 x) (n:eX m0 S x.cst.holds) (hp:oC U m0 (l++[x]) Sp):False:=by
 have hc:=hp.run.most.self;rw [wS] at hc;obtain ⟨τ',h1,h2⟩:=h.run.run.most.above h.run.run.low (τ:=Sp.σ) (fun n hn=>hp.run.most.st hn) hc.1
 exact n τ' h1 (g.low _ _ (fun y hy=>(h2 y hy).1) hc.2) fun n n0 n1=>by
  rw [<-(h2 n n1).1];exact hp.run.fit n n0 n1
theorem Yl:∀(t:Ut) (s:Lb),aJ t<=(aB s t).length:=by
 refine Ut.ind fun k n fs tl ih s=>?_
 have hF:∀gs:Fl,(∀p∈gs,p∈fs)->bG gs<=(jU (av k) gs).length:=by
  intro gs
  induction gs with
  |nil=>intro _;rw [lK];omega
  |cons p gs ih2=>
   intro hg;have h1:=ih2 fun q hq=>hg q (by simp [hq]);have h2:=ih p (hg p (by simp)) pR
   have e:(jU (av k) (p::gs)).length=(aB pR p.2).length+(jU (av k) gs).length:=by
    unfold jU
    cases av k with
    |true=>rw [if_pos rfl,if_pos rfl,fq,A_,uy _ pR]
    |false=>rw [if_neg (by simp),if_neg (by simp),gT,A_]
   rw [cB];omega
 have h1:=hF fs fun p hp=>hp;have h2:=iP s k n fs tl;rw [kE];split<;>omega
theorem iB.ZT (h:iB U Lo m0 l S ns) (g:GoodS U m0 x) (hx:x.l.size=0) {ns':List Int} (d:Done U S S' (bF (dI x.a) (dI x.b)) (aJ (dI x.a)+aJ (dI x.b))) (j':dL U Lo m0 (fun _=>False) S') (f':fK m0 S') (n':fG S' ns'):iB U Lo m0 (l++[x]) S' ns':=
 ⟨(h.run.pair g hx d).1 f',j',n'⟩
theorem ZU (hx:x.l.size=0):x.cst.holds=bF (dI x.a) (dI x.b):=by
 unfold Stp.cst;rw [if_pos hx];rfl
theorem Lu (hx:x.l.size≠0):x.cst= .opn x.k x.l x.n x.m:=by
 unfold Stp.cst;rw [if_neg hx]
theorem iB.opn (h:iB U Lo m0 l S ns) (g:GoodS U m0 x) (hx:x.l.size≠0) (hl:l.length<=12) (h8:m0<=8) (hlo:Lo.length<=30) (hL:x.l∈Lo):
  Cc U S x.k x.l x.n x.m/\oW U Lo m0 (fun n=>n=S.m) (S.aQ [x.l]) (aS x.n) (fV x.k x.l x.m S.m)/\fG (S.aQ [x.l]) ns:=by
 have hc:=g.c;rw [Lu hx] at hc;have FP:Cc U S x.k x.l x.n x.m:=hc.opn h.j.low h.j.hm;obtain ⟨g1,g2,g3,g4,g5,g6,g7,g8⟩:=id FP;obtain ⟨k8,k0,_⟩:=bJ g1;obtain ⟨_,_,_,_,c5,_,c7⟩:=hc;obtain ⟨o1,o2,o3⟩:=Dr FP h.j.kg
 have j1:=(h.j.aQ [x.l] (by simp) (by simp) (fun a ha=>by
  simp only [aaW] at ha;rw [ha];exact hL) hlo).wider (X':=fun n=>n=S.m) fun n hn=>hn.elim False.elim id
 have hfr:S.κ S.m=none:=h.j.kg.inv.free (aa1 _)
 have e:inst (S.aQ [x.l]).σ (fV x.k x.l x.m S.m)= .mk x.k 0 [(x.l,S.σ.v x.m)] (some S.m):=by
  unfold fV;rw [aK,if_neg k8];show Ut.mk x.k 0 (aZ (aI (inst S.σ) [(x.l,aS x.m)]++(S.σ.t S.m).1)) (S.σ.t S.m).2=_;rw [(h.j.kg.inv.unk _ hfr).2];show Ut.mk x.k 0 (aZ ([(x.l,inst S.σ (aS x.m))]++[])) (some S.m)=_;rw [aW,ER];rfl
 have hm:=h.run.m;have hun:=zV h.j.kg.inv h.j.kg.nn [x.l];have d1:aJ (aS x.n)=0:=wQ _ (uO _)
 have d2:aJ (fV x.k x.l x.m S.m)=0:=wQ _ (by
  unfold fV;rw [gP]
  exact ⟨k0,fun p hp=>by
   simp only [aaW] at hp;rw [hp];exact uO _⟩)
 have hmf:(S.aQ [x.l]).m=S.m+1:=rfl;refine ⟨FP,⟨j1,h.run.run.fit,hlo,o2,o3,.inr ⟨⟨x.n,g4,c5,by rw [aW];exact .here _⟩,?_⟩,by rw [d1,d2,hmf];omega⟩,⟨h.num.nd,h.num.iff⟩⟩;rw [e];refine ⟨g1,fun c hc=>?_,?_,?_⟩
 ·have hc:c∈[(x.l,S.σ.v x.m)]:=hc
  simp only [aaW] at hc;rw [hc];exact ⟨x.m,g6,c7,.here _⟩
 ·rw [gP]
  exact ⟨k0,fun c hc=>by
   simp only [aaW] at hc;rw [hc];exact (h.j.kg.inv.wf.ok.v x.m (h.j.low _ c7)).1⟩
 ·rw [mG]
  exact ⟨fun _=>⟨by simp,fun _=>by simp⟩,fun c hc=>by
   simp only [aaW] at hc;rw [hc];exact h.j.rw.v x.m (h.j.low _ c7)⟩
theorem iB.acd (h:iB U Lo m0 l S ns) (g:GoodS U m0 x) (hx:x.l.size≠0) {ns':List Int} (d:Done U (S.aQ [x.l]) S' (bF (aS x.n) (fV x.k x.l x.m S.m)) (aJ (aS x.n)+aJ (fV x.k x.l x.m S.m))) (j':dL U Lo m0 (fun n=>n=S.m) S') (f':fK m0 S') (n':fG S' ns'):iB U Lo m0 (l++[x]) S' ns':=by
 refine ⟨(h.run.opn g hx d).1 f',⟨j'.kg,j'.h0,j'.hm,j'.low,j'.lo,j'.rw,fun n n0 n1=>?_⟩,n'⟩;rcases j'.re n n0 n1 with r|⟨e,hk⟩
 ·exact .inl r
 ·left
  have hc:=g.c;rw [Lu hx] at hc;have FP:Cc U S x.k x.l x.n x.m:=hc.opn h.j.low h.j.hm;obtain ⟨g1,g2,g3,g4,g5,g6,g7,g8⟩:=id FP;obtain ⟨k8,k0,_⟩:=bJ g1;obtain ⟨_,_,_,_,c5,_,c7⟩:=hc;obtain ⟨o1,o2,o3⟩:=Dr FP h.j.kg;have co:=d.st.co S'.σ d.kg.inv.sat;have t2:=o2.later d.st.le;have t3:=o3.later d.st.le
  have e1:=Co.eq co (rH j'.kg.inv.wf.ok _ t2.pend.1 (uO _)) (rH j'.kg.inv.wf.ok _ t3.pend.1 (by
   unfold fV;rw [gP]
   exact ⟨k0,fun p hp=>by
    simp only [aaW] at hp;rw [hp];exact uO _⟩)) (mF j'.kg.inv t2.pend.1) (mF j'.kg.inv t3.pend.1)
  rw [aW] at e1;unfold fV at e1;rw [aK,if_neg k8] at e1;have e1:S'.σ.v x.n= .mk x.k 0 (aZ (aI (inst S'.σ) [(x.l,aS x.m)]++(S'.σ.t S.m).1)) (S'.σ.t S.m).2:=e1
  have Qg:S'.L S.m=some [x.l]:=by
   rw [d.st.le.L S.m (show S.m<S.m+1 by omega)];show (if S.m=S.m then _ else _)=_;rw [if_pos rfl]
  rw [e];refine ⟨x.n,g4,c5,fun hn=>(by rw [Qg] at hn;cases hn),fun _ _=>?_⟩;rw [e1]
  exact ⟨x.k,_,k8,.here _,fun c hc=>by
   rw [dX];exact acZ _ hc⟩
theorem Wz (hg:Cc U S x.k x.l x.n x.m) (h:KG U S) (hm:m0<=S.m) (d:eX m0 (S.aQ [x.l]) (bF (aS x.n) (fV x.k x.l x.m S.m))):eX m0 S (yA.opn x.k x.l x.n x.m).holds:=by
 intro τ hτ ⟨R,tl,e1,e2⟩ hv;obtain ⟨g1,g2,g3,g4,g5,g6,g7⟩:=hg;have Qg:(S.aQ [x.l]).L S.m=some [x.l]:=by show (if S.m=S.m then _ else _)=_;rw [if_pos rfl]
 obtain ⟨st,ri⟩:=hτ.1.v x.n g5.2;rw [e1] at st ri;rw [gP] at st;rw [iI] at ri
 obtain ⟨h1,a1⟩:=Kn.Inv.xW h.inv (ls:=[x.l]) hτ (R:=kH x.l R) (tl:=tl) (uS ri.1) (fun l' hl'=>by
  simp only [Gz,List.not_mem_nil,or_false];rintro rfl;exact wR _ R hl') (fun q hq=>⟨st.2 q (aaO.1 hq).1,ri.2 q (aaO.1 hq).1⟩)
 refine d _ h1 ?_ (ED a1 hm hv);unfold bF;rw [zY h1.1 g1 Qg (by simp),aW];have ev:(τ.jh S.m (kH x.l R,tl)).v x.n= .mk x.k 0 R tl:=e1;have eu:(τ.jh S.m (kH x.l R,tl)).v x.m=τ.v x.m:=rfl;have et:(τ.jh S.m (kH x.l R,tl)).t S.m=(kH x.l R,tl):=by show (if S.m=S.m then _ else _)=_;rw [if_pos rfl]
 rw [ev,eu,et];show Co _ (.mk x.k 0 (gX (x.l,τ.v x.m) (kH x.l R)) tl);rw [Hg ri.1 e2];exact Co.refl _
end
def xI (ls:List ByteArray) (done:ByteArray):Nat->Option Nat
 |0=>none
 |i+1=>if dz done (lab ls i)=true then (match xI ls done i with
   |none=>some i
   |some b=>if dz (lab ls i) (lab ls b)=true then some i else some b) else xI ls done i
def ahn:Option Nat->Int
 |none=> -1
 |some b=>(b:Int)
theorem Ym {ls:List ByteArray} {done:ByteArray} {i:Nat} (h:dz done (lab ls i)=false):xI ls done (i+1)=xI ls done i:=by
 simp [xI,h]
theorem Lv {ls:List ByteArray} {done:ByteArray} {i:Nat} (h:dz done (lab ls i)=true) (hb:xI ls done i=none):xI ls done (i+1)=some i:=by
 simp [xI,h,hb]
theorem OQ {ls:List ByteArray} {done:ByteArray} {i b:Nat} (h:dz done (lab ls i)=true) (hb:xI ls done i=some b) (hl:dz (lab ls i) (lab ls b)=true):xI ls done (i+1)=some i:=by
 simp [xI,h,hb,hl]
theorem OT {ls:List ByteArray} {done:ByteArray} {i b:Nat} (h:dz done (lab ls i)=true) (hb:xI ls done i=some b) (hl:dz (lab ls i) (lab ls b)=false):xI ls done (i+1)=some b:=by
 simp [xI,h,hb,hl]
theorem EG {a b:ByteArray} (h:dz a b=true):dz b a=false:=by
 cases hb:dz b a
 ·rfl
 ·have:=og h hb
  rw [fP] at this
  cases this
theorem yZ (ls:List ByteArray) (done:ByteArray):∀n,match xI ls done n with
  |none=>∀i,i<n->dz done (lab ls i)=false
  |some b=>b<n/\dz done (lab ls b)=true/\∀i,i<n->dz done (lab ls i)=true->dz (lab ls i) (lab ls b)=false
 |0=>fun i h=>by omega
 |n+1=>by
  have ih:=yZ ls done n
  cases h:dz done (lab ls n)
  ·rw [Ym h]
   cases hb:xI ls done n with
   |none=>
    rw [hb] at ih;intro i hi;by_cases hin:i=n
    ·rw [hin];exact h
    ·exact ih i (by omega)
   |some b=>
    rw [hb] at ih;refine ⟨by omega,ih.2.1,fun i hi hd=>?_⟩;by_cases hin:i=n
    ·rw [hin,h] at hd;cases hd
    ·exact ih.2.2 i (by omega) hd
  ·cases hb:xI ls done n with
   |none=>
    rw [Lv h hb];rw [hb] at ih;refine ⟨by omega,h,fun i hi hd=>?_⟩;by_cases hin:i=n
    ·rw [hin];exact fP _
    ·rw [ih i (by omega)] at hd;cases hd
   |some b=>
    rw [hb] at ih
    cases hl:dz (lab ls n) (lab ls b)
    ·rw [OT h hb hl]
     refine ⟨by omega,ih.2.1,fun i hi hd=>?_⟩;by_cases hin:i=n
     ·rw [hin];exact hl
     ·exact ih.2.2 i (by omega) hd
    ·rw [OQ h hb hl]
     refine ⟨by omega,h,fun i hi hd=>?_⟩;by_cases hin:i=n
     ·rw [hin];exact fP _
     ·exact uL (ih.2.2 i (by omega) hd) (EG hl)
structure DR (ls:List ByteArray) (k:Nat) (os:List Nat) (done:ByteArray):Prop where
 len:os.length=k
 rng:∀i∈os,i<ls.length
 asc:os.Pairwise fun i j=>dz (lab ls i) (lab ls j)=true
 le:∀i∈os,dz done (lab ls i)=false
 cov:∀i,i<ls.length->dz done (lab ls i)=true\/∃j∈os,lab ls j=lab ls i
theorem WA {s:ByteArray} (h:s.toList≠[]):dz pR s=true:=by
 unfold dz;rw [oN]
 cases hs:s.toList with
 |nil=>exact absurd hs h
 |cons x xs=>
  rw [show pR.toList=[] from by rw [ByteArray.toList_eq];rfl];exact decide_eq_true (List.nil_lt_cons x xs)
theorem DR.start {ls:List ByteArray} (h:∀i,i<ls.length->(lab ls i).toList≠[]):DR ls 0 [] pR:=
 ⟨rfl,fun i hi=>by simp at hi,abn.nil,fun i hi=>by simp at hi,fun i hi=>Or.inl (WA (h i hi))⟩
theorem DR.step {ls:List ByteArray} {k b:Nat} {os:List Nat} {done:ByteArray} (h:DR ls k os done) (hb:xI ls done ls.length=some b):DR ls (k+1) (os++[b]) (lab ls b):=by
 have hs:=yZ ls done ls.length;rw [hb] at hs;obtain ⟨hbl,hdb,hmin⟩:=hs
 have hlt:∀i∈os,dz (lab ls i) (lab ls b)=true:=fun i hi=>by
  cases hc:dz (lab ls i) (lab ls b)
  ·have:=uL (h.le i hi) hc
   rw [hdb] at this
   cases this
  ·rfl
 refine ⟨by simp [h.len],fun i hi=>?_,?_,fun i hi=>?_,fun i hi=>?_⟩
 ·rcases JQ.1 hi with hi|hi
  ·exact h.rng i hi
  ·rw [aaW.1 hi];exact hbl
 ·rw [List.pairwise_append]
  exact ⟨h.asc,List.pairwise_singleton _ _,fun i hi j hj=>by rw [aaW.1 hj];exact hlt i hi⟩
 ·rcases JQ.1 hi with hi|hi
  ·exact EG (hlt i hi)
  ·rw [aaW.1 hi];exact fP _
 ·cases hd:dz done (lab ls i)
  ·rcases h.cov i hi with hc|⟨j,hj,he⟩
   ·rw [hd] at hc;cases hc
   ·exact Or.inr ⟨j,by simp [hj],he⟩
  ·have h1:=hmin i hi hd
   cases h2:dz (lab ls b) (lab ls i)
   ·exact Or.inr ⟨b,by simp,(xQ h1 h2).symm⟩
   ·exact Or.inl rfl
theorem DR.nodup {ls:List ByteArray} {k:Nat} {os:List Nat} {done:ByteArray} (h:DR ls k os done):os.Nodup:=
 h.asc.imp fun {i j} hij e=>by rw [e,fP] at hij;cases hij
theorem DR.perm {ls:List ByteArray} {os:List Nat} {done:ByteArray} (h:DR ls ls.length os done):os.Perm (adD ls.length):=by
 refine (List.perm_ext_iff_of_nodup h.nodup List.nodup_range).2 fun i=>⟨fun hi=>acN.2 (h.rng i hi),fun hi=>?_⟩;by_cases hm:i∈os
 ·exact hm
 ·exfalso
  have hi':=acN.1 hi;have h1:(i::os).Nodup:=aa5.2 ⟨hm,h.nodup⟩
  have h2:=h1.length_le_of_subset (l₂:=adD ls.length) (fun j hj=>by
   rcases Gz.1 hj with rfl|hj
   ·exact hi
   ·exact acN.2 (h.rng j hj))
  simp [h.len] at h2;omega
theorem Lx {ls:List ByteArray} {i:Nat} (h:i<ls.length):lab ls i=ls[i]:=by
 unfold lab;rw [jr h];rfl
theorem DR.twice {ls:List ByteArray} {k:Nat} {os:List Nat} {done:ByteArray} (h:DR ls k os done) (hk:k<ls.length) (hb:xI ls done ls.length=none):¬ls.Nodup:=by
 intro hn;have hs:=yZ ls done ls.length;rw [hb] at hs
 have hsub:∀i,i<ls.length->i∈os:=fun i hi=>by
  rcases h.cov i hi with hc|⟨j,hj,he⟩
  ·rw [hs i hi] at hc;cases hc
  ·have hjl:=h.rng j hj
   rw [Lx hjl,Lx hi] at he
   have:j=i:=by
    rcases Nat.lt_trichotomy j i with hlt|he'|hlt
    ·exact absurd he ((aaV.1 hn) j i hjl hi hlt)
    ·exact he'
    ·exact absurd he.symm ((aaV.1 hn) i j hi hjl hlt)
   rw [<-this];exact hj
 have h2:=(List.nodup_range (n:=ls.length)).length_le_of_subset (l₂:=os) (fun i hi=>hsub i (acN.1 hi));simp [h.len] at h2;omega
theorem ahp {d s:ByteArray} (h:dz d s=false):Op.bytesLess s.toList d.toList=true\/(Op.bytesLess s.toList d.toList=false/\(s.toList==d.toList)=true):=by
 cases hb:Op.bytesLess s.toList d.toList
 ·refine .inr ⟨rfl,?_⟩
  have:=xQ h hb;rw [this];simp
 ·exact .inl rfl
theorem Qq {d s:ByteArray} (h:dz d s=true):Op.bytesLess s.toList d.toList=false/\(s.toList==d.toList)=false:=by
 refine ⟨EG h,?_⟩
 cases he:(s.toList==d.toList)
 ·rfl
 ·rw [beq_iff_eq] at he
  unfold dz at h;rw [he] at h;have h2:=fP d;unfold dz at h2;rw [h2] at h
  cases h
theorem Qr {a F:Fl} (h:dY a) (hp:a.Perm F):a=aZ F:=by
 have hF:(ay F).Nodup:=(List.Perm.nodup_iff (show (ay a).Perm (ay F) from hp.map _)).1 h.nodup;refine tN h (kR hF) fun l=>?_;rw [kL hF];exact zP hp h.nodup
def y7 (F:Fl) (i:Nat):Lb×Ut:=(F[i]?).getD (pR,aS 0)
theorem uT {F:Fl} {i:Nat} {p:Lb×Ut} (h:F[i]?=some p):y7 F i=p:=by unfold y7;rw [h];rfl
theorem Cn (F:Fl) (i:Nat):lab (ay F) i=(y7 F i).1:=by
 unfold lab y7 ay;rw [adg]
 cases F[i]?<;>rfl
theorem ace {F:Fl} {os:List Nat} {done:ByteArray} (h:DR (ay F) F.length os done):os.map (y7 F)=aZ F:=by
 refine Qr ?_ ?_
 ·unfold dY
  rw [acK];exact h.asc.imp fun {i j} hij=>by rw [Cn,Cn] at hij;exact hij
 ·have hl:(ay F).length=F.length:=by unfold ay;rw [aaT]
  have h2:DR (ay F) (ay F).length os done:=by rw [hl];exact h
  have h3:=h2.perm.map (y7 F);rw [hl] at h3;refine h3.trans (List.Perm.of_eq ?_);refine adj fun i=>?_;rw [adg];by_cases hi:i<F.length
  ·rw [List.getElem?_range hi]
   show some (y7 F i)=F[i]?;rw [jr hi,uT (jr hi)]
  ·rw [AO (by simp;omega),AO (by omega)]
   rfl
theorem TH {f:Lb×Ut->Nat}:∀{fs gs:Fl},(ay fs).Nodup->(∀c∈fs,c∈gs)->(fs.map f).sum<=(gs.map f).sum
 |[],_,_,_=>by simp
 |c::fs,gs,hn,h=>by
  obtain ⟨l1,l2,rfl⟩:=List.append_of_mem (h c (by simp));have hn1:=aa5.1 hn
  have:=TH (f:=f) (fs:=fs) (gs:=l1++l2) hn1.2 fun d hd=>by
   have:=h d (by simp [hd]);rcases JQ.1 this with h|h
   ·exact List.mem_append_left _ h
   ·rcases Gz.1 h with rfl|h
    ·exact absurd (aaN.2 ⟨d,hd,rfl⟩) hn1.1
    ·exact acZ _ h
  simp only [Bn,List.sum_cons,abl,List.sum_append] at*;omega
theorem FQ (fs:Fl):(jv fs).length=(fs.map fun p=>(aB p.1 p.2).length).sum:=by
 rw [kN,acT,abL];rfl
section
variable {U Lo:List Lb} {m0:Int} {X:Int->Prop} {S:Kn} {n:Int}
theorem Reach.len (h:Reach m0 S n) (j:dL U Lo m0 X S) (hf:fK m0 S):(S.L n=none->∀s,(aB s (S.σ.v n)).length<=20000)/\∀ls,S.L n=some ls->av (l6 S n)=true->(jv (S.σ.t n).1).length+1<=20001:=by
 obtain ⟨x,x0,x1,h2,h3⟩:=h;refine ⟨fun hl s=>kT.len ⟨x,x0,x1,h2 hl⟩ hf s,fun ls hl hr=>?_⟩;obtain ⟨k,gs,k8,hs,hg⟩:=h3 ls hl;have h4:=kT.len ⟨x,x0,x1,hs⟩ hf pR;have h5:=iP pR k 0 gs (S.σ.t n).2;have h6:=TH (f:=fun p=>(aB pR p.2).length) (j.kg.inv.wf.ok.t n ls hl).1.nodup hg
 have h7:(jU (av k) gs).length=(gs.map fun p=>(aB pR p.2).length).sum:=by
  unfold jU
  cases av k with
  |true=>
   rw [if_pos rfl,FQ]
   exact congrArg List.sum (Vg fun p _=>uy _ _ _)
  |false=>
   rw [if_neg (by simp),qP,acT,abL];rfl
 have h8:(jv (S.σ.t n).1).length=((S.σ.t n).1.map fun p=>(aB pR p.2).length).sum:=by
  rw [FQ];exact congrArg List.sum (Vg fun p _=>uy _ _ _)
 omega
theorem Dz (h:KG U S) {ls:List Lb} (hl:S.L n=some ls):av (l6 S n)=true:=by
 unfold l6
 cases e:S.κ n with
 |none=>rfl
 |some t=>
  have hne:=h.ne n ls hl
  cases ls with
  |nil=>exact absurd rfl hne
  |cons l ls=>
   have:=(h.lb n t e).2 _ hl l (by simp);show av t.k=true;unfold bV at this;unfold av;split at this
   ·next e=>simp [e]
   ·split at this
    ·next e=>simp [e]
    ·cases this
theorem OU (j:dL U Lo m0 X S) (hf:fK m0 S) (h0:0<=n) (hm:n<S.m) (hk:S.κ n≠none) (s:Lb):(aB s (dA S n)).length<=20003:=by
 have hr:Reach m0 S n:=by
  rcases j.re n h0 hm with r|r
  ·exact r
  ·exact absurd r.2 hk
 obtain ⟨a,b⟩:=hr.len j hf;unfold dA jl
 cases hl:S.L n with
 |none=>
  have:=a hl s;show (aB s (S.σ.v n)).length<=20003
  omega
 |some ls=>
  have h1:=b ls hl (Dz j.kg hl);show (aB s (.mk (l6 S n) 0 (S.σ.t n).1 (S.σ.t n).2)).length<=20003;rw [bY,if_pos (Dz j.kg hl)];have:(aP (S.σ.t n).2).length<=1:=by cases (S.σ.t n).2<;>simp [aP]
  simp only [Bl,A_];omega
theorem aeN {a b:Ut} (h:Sub a b) (hb:gD b):gD a:=by
 induction h with
 |here=>exact hb
 |child hp _ ih=>rw [bU] at hb;exact ih (hb.2 _ hp)
theorem WB (h:KG U S):∀q ls t,S.L q=some ls->S.κ q=some t->∀l∈ay (S.σ.t q).1,bV t.k l=true:=by
 obtain ⟨rk,r0,r1⟩:=h.rk
 have:∀(N:Nat) q ls t,rk q<=N->S.L q=some ls->S.κ q=some t->∀l∈ay (S.σ.t q).1,bV t.k l=true:=by
  intro N
  induction N with
  |zero=>intro q ls t hN hl hk;have:=(r1 q t hk).1;omega
  |succ N ih=>
   intro q ls t hN hl hk l hm;have e:=(h.inv.model q t hk).2 ls hl;obtain ⟨e8,e0,_,e3⟩:=h.inv.row q t ls hk hl;have hlb:=(h.lb q t hk).1;have hlr:=(h.lb q t hk).2 ls hl;have hne:=h.ne q ls hl
   have hkr:av t.k=true:=by
    have:=Dz (n:=q) h hl;unfold l6 at this;rw [hk] at this;exact this
   obtain ⟨k,n,fs,tl⟩:=t;have e8:k≠8:=e8;rw [aK,if_neg e8] at e;rw [gI] at hlb;rw [e] at hm;have hm:l∈ay (aZ (aI (inst S.σ) fs++(S.σ.tail tl).1)):=hm;rw [kI,dZ,fJ] at hm;rcases JQ.1 hm with hm|hm
   ·exact (hlb.1 l hm).2 hkr
   ·cases tl with
    |none=>cases hm
    |some q'=>
     obtain ⟨ls',hl',hs'⟩:=e3 q' rfl
     cases hk':S.κ q' with
     |none=>
      have hm:l∈ay (S.σ.t q').1:=hm;rw [(h.inv.unk q' hk').2] at hm
      cases hm
     |some t'=>
      have h1:=ih q' ls' t' (by have:=(r1 q _ hk).2.2 ls q' hl rfl;omega) hl' hk' l hm
      obtain ⟨l0,hl0⟩:∃l0,l0∈ls:=by
       cases ls with
       |nil=>exact absurd rfl hne
       |cons a _=>exact ⟨a,by simp⟩
      have h2:=hlr l0 hl0;have h3:=(h.lb q' t' hk').2 ls' hl' l0 (hs' l0 hl0);have:k=t'.k:=BS h2 h3;show bV k l=true;rw [this];exact h1
 intro q ls t hl hk;exact this (rk q) q ls t (bN _) hl hk
theorem LC (j:dL U Lo m0 X S) (h0:0<=n) (hm:n<S.m) (hk:S.κ n≠none):vR (dA S n):=by
 have hre:Reach m0 S n:=by
  rcases j.re n h0 hm with r|r
  ·exact r
  ·exact absurd r.2 hk
 have hvw:∀x,0<=x->x<S.m->S.L x=none->gD (S.σ.v x):=fun x x0 x1 hl=>by
  have:=Kh j.kg j.rw (j.kg.var hl x0 x1) (yY x)
  rwa [aW] at this
 unfold dA jl
 cases hl:S.L n with
 |none=>exact .inl (hvw n h0 hm hl)
 |some ls=>
  show vR (.mk (l6 S n) 0 (S.σ.t n).1 (S.σ.t n).2);have hr:=Dz j.kg hl;obtain ⟨k8,k0,k5,k1,k2⟩:=bJ hr;obtain ⟨o1,o2,o3⟩:=j.kg.inv.wf.ok.t n ls hl;obtain ⟨r1,r2⟩:=j.rw.t n ls hl;obtain ⟨x,x0,x1,_,h3⟩:=hre;obtain ⟨k,gs,g8,hs,hg⟩:=h3 ls hl;have hw:=aeN hs (hvw x x0 (Int.lt_of_lt_of_le x1 j.hm) (j.low x x1));rw [bU] at hw
  have hlab:∀l∈ay (S.σ.t n).1,bV (l6 S n) l=true:=by
   cases e:S.κ n with
   |none=>exact absurd e hk
   |some t=>
    have:=WB j.kg n ls t hl e;unfold l6;rw [e];exact this
  have ht:(aP (S.σ.t n).2).length<=1:=by cases (S.σ.t n).2<;>simp [aP]
  have htn:=hw.1.tn;obtain ⟨F,r,hR⟩:∃F r,S.σ.t n=(F,r):=⟨_,_,rfl⟩;rw [hR] at o1 r1 hg hlab ht htn ⊢;by_cases he:l6 S n=7/\F=[]/\r=none
  ·obtain ⟨e1,e2,e3⟩:=he
   right;show Ut.mk (l6 S n) 0 F r=_;rw [e1,e2,e3]
  ·left
   have h30:F.length<=30:=by have:ls.length+F.length<=30:=r1;omega
   show gD (.mk (l6 S n) 0 F r);rw [bU];refine ⟨⟨o1.nodup,fun e=>?_,fun _=>fun _=>rfl,fun _=>aa1 _,⟨k1,k2,fun e=>absurd e k5,fun _ e=>?_⟩,fun _=>⟨o1,hlab⟩,htn,fun _=>by have:(aP r).length<=1:=ht;omega,fun e=>?_⟩,fun c hc=>hw.2 c (hg c hc)⟩
   ·rcases e with e|e<;>omega
   ·rw [hr] at e;cases e
   ·have:F≠[]\/r≠none:=by
     by_cases e1:F=[]
     ·exact .inr fun e2=>he ⟨e,e1,e2⟩
     ·exact .inl e1
    rcases this with h1|h1
    ·have:=adx.2 h1
     omega
    ·cases r with
     |none=>exact absurd rfl h1
     |some z=>simp [aP]
theorem fG.len {ns:List Int} (h:fG S ns) (i:S.Inv) (nn:S.Nn):(ns.length:Int)<=S.m/\∀n∈ns,0<=n/\n<S.m:=by
 have hb:∀n∈ns,0<=n/\n<S.m:=fun n hn=>by
  cases e:S.κ n with
  |none=>exact absurd e ((h.iff n).1 hn)
  |some t=>exact ⟨(nn.d n t e).1,(i.dom n t e).1⟩
 refine ⟨?_,hb⟩
 have h1:(ns.map Int.toNat).Nodup:=by
  unfold List.Nodup;rw [acK];exact h.nd.imp_of_mem fun {a b} ha hb' hab e=>hab (by have:=hb a ha;have:=hb b hb';omega)
 have h2:=h1.length_le_of_subset (l₂:=adD S.m.toNat) fun j hj=>by
  obtain ⟨a,ha,rfl⟩:=aaN.1 hj;have:=hb a ha;rw [acN];omega
 rw [aaT,List.length_range] at h2;have:=nn.m;omega
end
def afU (s:Lb):List Nd->List Nd
 |[]=>[]
 |x::xs=>⟨x.k,s,x.n⟩::xs
theorem Yn (s s':Lb) (t:Ut):afU s (aB s' t)=aB s t:=by
 obtain ⟨k,n,fs,tl⟩:=t;rw [bY,bY];split<;>rfl
theorem acf (s:Lb) (t:Ut):PW (aB s t)=aB pR t:=by
 obtain ⟨k,n,fs,tl⟩:=t;rw [bY,bY];split<;>rfl
theorem uD (s:Lb):aB s (.mk 7 0 [] none)=[⟨7,s,0⟩]:=by
 rw [bY,if_pos (by rfl),lT];rfl
theorem Ab {t:Ut} (h:vR t) (m:Int) (s:Lb):gG m (aB s t)=aB s (aH m t).1/\m+(jc (aB s t):Nat)=(aH m t).2:=by
 rcases h with h|rfl
 ·exact Wu t h m s
 ·rw [uD,fF,if_neg (by decide),dw,uD]
  exact ⟨rfl,by simp [jc]⟩
theorem acg {t:Ut} (h:gD t):kY (gM (aB pR t))=true↔OP t:=Tv h
theorem TI:∀(t:Ut) (m:Int) (s:Lb),j_ t->(aB s (aH m t).1).length=(aB s t).length:=by
 refine Ut.ind fun k n fs tl ih m s hs=>?_;rw [iV] at hs;rw [fF];split
 ·next h0=>
  have h1:=hs.1.2.2.2 (by omega) (by rw [h0];rfl);rw [h1.1,bY,bY,h0];simp [av,gH]
 ·have hF:∀(gs:Fl) (m:Int),(∀p∈gs,p∈fs)->(jv (cK m gs).1).length=(jv gs).length/\(nV (cK m gs).1).length=(nV gs).length:=by
   intro gs
   induction gs with
   |nil=>intro m _;rw [dw];exact ⟨rfl,rfl⟩
   |cons p gs ih2=>
    intro m hg;have hp:=hg p (by simp);obtain ⟨a,b⟩:=ih2 (aH m p.2).2 fun q hq=>hg q (by simp [hq]);rw [b_,fq,fq,gT,gT];simp only [A_];rw [a,b,ih p hp m p.1 (hs.2 p hp),ih p hp m pR (hs.2 p hp)];exact ⟨rfl,rfl⟩
  obtain ⟨a,b⟩:=hF fs m fun p hp=>hp;rw [bY,bY,Dx];split
  ·simp only [Bl,A_]
   rw [a]
  ·simp only [Bl]
   rw [b]
theorem TJ {k:Int} {fs:Fl} {tl:Option Int} (h:zW k fs tl) (hr:av k=false):dY fs/\tl=none:=by
 by_cases h5:k=5
 ·obtain ⟨⟨a,b,e⟩,e2⟩:=h.2.2.1 h5
  rw [e];refine ⟨?_,e2⟩;unfold dY;rw [List.pairwise_cons];refine ⟨fun q hq=>?_,by simp⟩;simp only [aaW] at hq;rw [hq];exact lAB
 ·obtain ⟨e,e2⟩:=h.2.2.2 h5 hr
  rw [e];exact ⟨abn.nil,e2⟩
theorem ZV {τ:Va} {k n:Int} {fs:Fl} {tl:Option Int} (h:zW k fs tl) (h8:k≠8) (hr:av k=false):inst τ (.mk k n fs tl)= .mk k n (aI (inst τ) fs) none:=by
 obtain ⟨h1,rfl⟩:=TJ h hr;exact FK h8 h1
def sV (enc:Int->Ut) (ns:List Int):List (Int×List Nd):=ns.map fun j=>(j,aB pR (enc j))
theorem ZW (enc:Int->Ut) (ns:List Int):(sV enc ns).length=ns.length:=aaT ..
theorem LH {enc:Int->Ut} {ns:List Int} {i:Nat} {n:Int} (h:ns[i]?=some n):(sV enc ns)[i]?=some (n,aB pR (enc n)):=by
 unfold sV;rw [adg,h];rfl
theorem TK {enc enc':Int->Ut} {ns:List Int} (h:∀j∈ns,enc j=enc' j):sV enc ns=sV enc' ns:=
 Vg fun j hj=>by rw [h j hj]
theorem LJ (enc:Int->Ut) (ns:List Int) (n:Int):sV enc (ns++[n])=sV enc ns++[(n,aB pR (enc n))]:=by
 unfold sV;rw [abl];rfl
structure Ac (L:Sorts) (τ:Va) (kd:Int->Int) (ns:List Int):Prop where
 v:∀j,j∉ns->L j=none->τ.v j=aS j
 t:∀j,j∉ns->∀ls,L j=some ls->τ.t j=([],some j)
 wv:∀j∈ns,L j=none->gD (τ.v j)
 wt:∀j∈ns,∀ls,L j=some ls->vR (.mk (kd j) 0 (τ.t j).1 (τ.t j).2)/\av (kd j)=true
 len:∀j∈ns,(aB pR (jl L τ kd j)).length<=700000
theorem Cq {U Lo:List Lb} {m0:Int} {X:Int->Prop} {S:Kn} {ns:List Int} (j:dL U Lo m0 X S) (hf:fK m0 S) (hn:fG S ns):Ac S.L S.σ (l6 S) ns:=by
 have hk:∀n,n∉ns->S.κ n=none:=fun n h=>by
  cases e:S.κ n with
  |none=>rfl
  |some t=>exact absurd ((hn.iff n).2 (by rw [e];simp)) h
 have hb:=(hn.len j.kg.inv j.kg.nn).2;refine ⟨fun n h _=>(j.kg.inv.unk n (hk n h)).1,fun n h _ _=>(j.kg.inv.unk n (hk n h)).2,fun n h hl=>?_,fun n h ls hl=>⟨?_,Dz j.kg hl⟩,fun n h=>?_⟩
 ·have:=Kh j.kg j.rw (j.kg.var hl (hb n h).1 (hb n h).2) (yY n)
  rwa [aW] at this
 ·have:=LC j (hb n h).1 (hb n h).2 ((hn.iff n).1 h)
  unfold dA jl at this;rw [hl] at this;exact this
 ·have:=OU j hf (hb n h).1 (hb n h).2 ((hn.iff n).1 h) pR
  exact zk this (by omega)
theorem ach {L:Sorts} {v:Int} {u:Ut} (hl:L v=none) (hw:gD u) (hu:(aB pR u).length<=700000) (kd:Int->Int):Ac L (Va.id.iL v u) kd [v]:=by
 have e:(Va.id.iL v u).v v=u:=by show (if v=v then u else aS v)=u;rw [if_pos rfl]
 refine ⟨fun n h _=>?_,fun n h _ _=>rfl,fun n h _=>?_,fun n h ls hls=>?_,fun n h=>?_⟩
 ·show (if n=v then u else aS n)=aS n
  rw [if_neg (by simpa using h)]
 ·simp only [aaW] at h
  rw [h,e];exact hw
 ·simp only [aaW] at h
  rw [h,hl] at hls;cases hls
 ·simp only [aaW] at h
  rw [h];unfold jl;rw [hl];show (aB pR ((Va.id.iL v u).v v)).length<=_;rw [e];exact hu
theorem aci {L:Sorts} {p:Int} {ls:List Lb} {k:Int} {F:Fl} {r:Option Int} (hl:L p=some ls) (hw:vR (.mk k 0 F r)) (hr:av k=true) (hu:(aB pR (.mk k 0 F r)).length<=700000):Ac L (Va.id.jh p (F,r)) (fun _=>k) [p]:=by
 have e:(Va.id.jh p (F,r)).t p=(F,r):=by show (if p=p then (F,r) else _)=_;rw [if_pos rfl]
 refine ⟨fun n h _=>rfl,fun n h _ _=>?_,fun n h hls=>?_,fun n h ls hls=>?_,fun n h=>?_⟩
 ·show (if n=p then (F,r) else ([],some n))=([],some n)
  rw [if_neg (by simpa using h)]
 ·simp only [aaW] at h
  rw [h,hl] at hls;cases hls
 ·simp only [aaW] at h
  rw [h,e];exact ⟨hw,hr⟩
 ·simp only [aaW] at h
  rw [h];unfold jl;rw [hl];show (aB pR (.mk k 0 ((Va.id.jh p (F,r)).t p).1 ((Va.id.jh p (F,r)).t p).2)).length<=_;rw [e];exact hu
open Go.MapKept Go.ChangeMaps
section
variable {κ:Type} [DecidableEq κ]
def mO (a:κ):List (κ×Value)->Nat->Option (Nat×Value)
 |[],_=>none
 |p::l,i=>if a=p.1 then some (i,p.2) else mO a l (i+1)
def kV (kf:κ->Value) (es:List MapEntry) (l:List (κ×Value)):Prop:=es.map (fun e=>(e.key,e.val))=l.map (fun p=>(kf p.1,p.2))
def nS (a:κ) (v:Value):List (κ×Value)->List (κ×Value)
 |[]=>[(a,v)]
 |p::l=>if a=p.1 then (p.1,v)::l else p::nS a v l
theorem x9 {a:κ} {v:Value}:∀{l:List (κ×Value)} {n:Nat},mO a l n=none->nS a v l=l++[(a,v)]
 |[],_,_=>rfl
 |p::l,n,h=>by
  simp only [mO] at h;split at h
  ·cases h
  ·next e=>simp only [nS,if_neg e,x9 h,List.cons_append]
theorem Jv {a:κ} {v:Value}:∀{l:List (κ×Value)} {n j:Nat} {z:Value},mO a l n=some (j,z)->∃k,j=n+k/\k<l.length/\l[k]?=some (a,z)/\nS a v l=l.set k (a,v)
 |p::l,n,j,z,h=>by
  simp only [mO] at h;split at h
  ·next e=>
   injection h with h
   injection h with h1 h2
   subst h1 h2 e;exact ⟨0,rfl,by simp,rfl,by simp [nS]⟩
  ·next e=>
   obtain ⟨k,h1,h2,h3,h4⟩:=Jv (v:=v) h;exact ⟨k+1,by omega,by simp;omega,by simpa using h3,by simp [nS,e,h4]⟩
def oZ (a:κ) (l:List (κ×Value)):Option Value:=(mO a l 0).map (·.2)
theorem LM (a:κ):∀(l:List (κ×Value)) (n m:Nat),(mO a l n).map (·.2)=(mO a l m).map (·.2)
 |[],_,_=>rfl
 |p::l,n,m=>by
  simp only [mO];split
  ·rfl
  ·exact LM a l (n+1) (m+1)
theorem FR (a:κ):oZ a []=none:=rfl
theorem wm (a:κ) (p:κ×Value) (l:List (κ×Value)):oZ a (p::l)=if a=p.1 then some p.2 else oZ a l:=by
 unfold oZ;simp only [mO];split
 ·rfl
 ·exact LM a l 1 0
theorem Cr (a b:κ) (v:Value):∀l:List (κ×Value),oZ b (nS a v l)=if b=a then some v else oZ b l
 |[]=>by simp only [nS,wm,FR]
 |p::l=>by
  simp only [nS];by_cases e:a=p.1
  ·rw [if_pos e,wm,wm]
   simp only;rw [<-e];split<;>simp_all
  ·rw [if_neg e,wm,wm,Cr a b v l]
   by_cases e2:b=p.1
   ·rw [if_pos e2,if_pos e2,if_neg]
    rintro rfl;exact e e2
   ·rw [if_neg e2,if_neg e2]
def jV (kf:κ->Value) (w:World) (b:Nat) (l:List (κ×Value)):Prop:=∃es clock,w.heap[b]?=some (.map es clock)/\kV kf es.toList l
structure yB (P:Program) (kt:TypeId) (kf:κ->Value) (w:World) (a:κ) (l:List (κ×Value)):Prop where
 find:∀es,kV kf es l->(Instr.findKey kt (kf a) es).run P w= .ok (mO a l 0) w
 check:∀em,(Instr.checkKey em 10000 kt (kf a)).run P w= .ok () w
 same:Instr.sameBits 10000 (kf a) (kf a)=true
variable {P:Program} {w:World} {kt mt et:TypeId} {kf:κ->Value} {a:κ} {b:Nat} {l:List (κ×Value)}
theorem jV.lookup (hM:jV kf w b l) (K:yB P kt kf w a l) (hm:P.underlying mt=some (.map kt et)) (z:Value) (hz:(zeroValue et).run P w= .ok z w) (ok:Bool):
  (Instr.lookup mt (.map (some b)) (kf a) ok).run P w= .ok (if ok then .tuple #[(oZ a l).getD z,.bool (oZ a l).isSome] else (oZ a l).getD z) w:=by
 obtain ⟨es,clock,hb,hks⟩:=hM;have hf:=K.find es.toList hks;have hc:=K.check es.isEmpty;have hg:(getObj b).run P w= .ok (.map es clock) w:=MapKept.run_getObj_map hb;unfold Instr.lookup oZ;simp only [Sem.run_bind,run_underlying hm,Result.andThen_ok,hg,Sem.run_pure,hc,hf]
 cases hfl:mO a l 0 with
 |none=>
  simp only [Sem.run_bind,hz,Result.andThen_ok,Sem.run_pure]
  cases ok<;>rfl
 |some r=>
  cases ok<;>rfl
theorem jV.update (hM:jV kf w b l) (K:yB P kt kf w a l) (hm:P.underlying mt=some (.map kt et)) (v:Value):
  ∃w',(Instr.mapUpdate mt (.map (some b)) (kf a) v).run P w= .ok () w'/\jV kf w' b (nS a v l)/\w.grownBy w' (some b):=by
 obtain ⟨es,clock,hb,hks⟩:=hM;have hf:=K.find es.toList hks;have hc:=K.check false;have hg:(getObj b).run P w= .ok (.map es clock) w:=MapKept.run_getObj_map hb;have hgrow:∀o,w.grownBy (setBlock w b o) (some b):=fun o=>⟨rfl,rfl,rfl,by simp [setBlock],fun j _ hj=>heap_setBlock_other hb _ (fun e=>hj (by rw [e]))⟩
 cases hfl:mO a l 0 with
 |none=>
  refine ⟨setBlock w b (.map (es.push {key:=kf a,val:=v,born:=clock}) (clock+1)),?_,⟨_,_,heap_setBlock_same hb _,?_⟩,hgrow _⟩
  ·rw [hfl] at hf
   simp [Instr.mapUpdate,run_underlying hm,hg,hc,hf,MapKept.run_setObj_map _ hb,Result.andThen,setBlock]
  ·rw [x9 hfl]
   unfold kV at hks ⊢
   simp [hks]
 |some r=>
  obtain ⟨j,z⟩:=r;obtain ⟨k,h1,h2,h3,h4⟩:=Jv (v:=v) hfl;rw [Nat.zero_add] at h1;subst h1;rw [hfl] at hf
  have hlen:es.toList.length=l.length:=by
   have:=congrArg List.length hks;simpa using this
  have hj:j<es.size:=by have:=hlen;simp at this;omega
  have hkey:es[j].key=kf a:=by
   have h5:=congrArg (fun x:List (Value×Value)=>x[j]?) hks;simp only [adg,h3,abg] at h5;rw [adH,adF hj] at h5;simp only [abg,Option.some.injEq,Prod.mk.injEq] at h5;exact h5.1
  refine ⟨setBlock w b (.map (es.modify j fun e=>{e with key:=kf a,val:=v}) clock),?_,⟨_,_,heap_setBlock_same hb _,?_⟩,hgrow _⟩
  ·simp [Instr.mapUpdate,run_underlying hm,hg,hc,hf,adF hj,hkey,Instr.keyThatStays,K.same,MapKept.run_setObj_map _ hb,Result.andThen,setBlock]
  ·rw [h4]
   unfold kV at hks ⊢;apply adj;intro q;have h5:=congrArg (fun x:List (Value×Value)=>x[q]?) hks;simp only [adg,adH,adK] at h5 ⊢;rw [List.getElem?_set];by_cases hq:j=q
   ·subst hq
    rw [if_pos rfl,if_pos rfl,if_pos h2,adF hj];rfl
   ·rw [if_neg hq,if_neg hq]
    exact h5
omit [DecidableEq κ] in
theorem jV.lt (hM:jV kf w b l):b<w.heap.size:=by
 obtain ⟨es,clock,hb,_⟩:=hM;exact (ade.1 hb).1
theorem uE {ops:Array Oper} {rest:List Oper} {o:Oper} {ac:Act} {Q:Exit->Act->World->Prop} (hg:o.guard=none) (m x:Operand) (ok:Bool) (hop:o.op=Op.lookup mt m x ok)
  (hM:jV kf w b l) (K:yB P kt kf w a l) (ht:P.underlying mt=some (.map kt et)) (z:Value) (hz:(zeroValue et).run P w= .ok z w) (hm:ac.eval m= .map (some b)) (hx:ac.eval x=kf a)
  (h:wpList P ops Q rest (ac.put o.dst (if ok then .tuple #[(oZ a l).getD z,.bool (oZ a l).isSome] else (oZ a l).getD z)) w):wpList P ops Q (o::rest) ac w:=by
 refine wpList_plain hg fun K' hK'=>?_;have hrun:=hM.lookup K ht z hz ok;unfold Oper.wp;simp [execOp,hop,hm,hx,hrun,Result.andThen];exact hK' _ _ h
theorem sw {ops:Array Oper} {rest:List Oper} {o:Oper} {ac:Act} {Q:Exit->Act->World->Prop} (hg:o.guard=none) (m x v:Operand) (hop:o.op=Op.mapUpdate mt m x v)
  (hM:jV kf w b l) (K:yB P kt kf w a l) (ht:P.underlying mt=some (.map kt et)) (val:Value) (hm:ac.eval m= .map (some b)) (hx:ac.eval x=kf a) (hv:ac.eval v=val)
  (h:∀w',jV kf w' b (nS a val l)->w.grownBy w' (some b)->wpList P ops Q rest (ac.put o.dst undef) w'):wpList P ops Q (o::rest) ac w:=by
 refine wpList_plain hg fun K' hK'=>?_;obtain ⟨w',hrun,r1,r2⟩:=hM.update K ht val;unfold Oper.wp;simp [execOp,hop,hm,hx,hv,hrun,Result.andThen];exact hK' _ _ (h w' r1 r2)
end
def ik (n:Int):Value:=.int .i64 n
def sk (s:ByteArray):Value:=.string s
def pk (b:Nat):Value:=.pointer (some ⟨b,0,none⟩)
section
variable {P:Program} {w:World} {kt:TypeId}
theorem Ad {κ:Type} [DecidableEq κ] {kf:κ->Value} {d:TypeDesc} {a:κ} (hs:∀c,Instr.sameNow d (kf a) (kf c)=some (decide (a=c))):∀(es:List MapEntry) (l:List (κ×Value)) (n:Nat),kV kf es l->Instr.findNow d (kf a) es n=some (mO a l n)
 |[],[],_,_=>rfl
 |[],_::_,_,h=>by simp [kV] at h
 |_::_,[],_,h=>by simp [kV] at h
 |x::es,p::l,n,h=>by
  simp only [kV,Bn,adk.injEq,Prod.mk.injEq] at h;obtain ⟨⟨h1,h2⟩,h3⟩:=h;have ih:=Ad hs es l (n+1) h3;unfold Instr.findNow mO;rw [h1,hs];by_cases e:a=p.1
  ·rw [if_pos e,decide_eq_true e,h2]
  ·rw [if_neg e,decide_eq_false e]
   exact ih
theorem LP (hk:P.underlying kt=some (.int .i64)) (n:Int) (l:List (Int×Value)):yB P kt ik w n l:=by
 refine ⟨fun es h=>run_findKey hk (Ad (fun c=>?_) es l 0 h),fun em=>?_,?_⟩
 ·simp only [Instr.sameNow,ik,if_true]
  congr 1
 ·have:∀d:Nat,(Instr.checkKey em (d+1) kt (ik n)).run P w= .ok () w:=fun d=>by simp [Instr.checkKey,ik,run_underlying hk]
  exact this 9999
 ·simp [Instr.sameBits,ik]
theorem LQ (hk:P.underlying kt=some .string) (s:ByteArray) (l:List (ByteArray×Value)):yB P kt sk w s l:=by
 have hbeq:∀a b:ByteArray,(a==b)=decide (a=b):=fun a b=>by
  cases a with
  |mk x=>
   cases b with
   |mk y=>
    show (x==y)=_;rw [Bool.eq_iff_iff];simp
 refine ⟨fun es h=>run_findKey hk (Ad (fun c=>?_) es l 0 h),fun em=>?_,?_⟩
 ·simp only [Instr.sameNow,sk]
  rw [hbeq]
 ·have:∀d:Nat,(Instr.checkKey em (d+1) kt (sk s)).run P w= .ok () w:=fun d=>by simp [Instr.checkKey,sk,run_underlying hk]
  exact this 9999
 ·simp [Instr.sameBits,sk,hbeq]
def Plain (w:World) (b:Nat):Prop:=∃c t,w.heap[b]?=some (.cells c t (0,0))
variable {e:TypeId} {i:TypeInfo}
theorem acj (hk:P.underlying kt=some (.pointer e)) (hi:P.info? e=some i) (hn:i.size≠0) {a b:Nat} (ha:Plain w a) (hb:Plain w b):(Op.equal kt (pk a) (pk b)).run P w= .ok (decide (a=b)) w:=by
 obtain ⟨ca,ta,ha⟩:=ha;obtain ⟨cb,tb,hb⟩:=hb;by_cases h:a=b
 ·subst h
  rw [decide_eq_true rfl]
  have:∀d:Nat,(Op.equalIn (d+1) kt (pk a) (pk a)).run P w= .ok true w:=fun d=>by
   simp [Op.equalIn,pk,run_underlying hk,sizeOf,typeInfo,hi,run_sameAddr_same]
  exact this 9999
 ·rw [decide_eq_false h]
  have hne:(⟨a,0,none⟩:Addr)≠⟨b,0,none⟩:=by simp
  have:∀d:Nat,(Op.equalIn (d+1) kt (pk a) (pk b)).run P w= .ok false w:=fun d=>by
   simp [Op.equalIn,pk,run_underlying hk,sizeOf,typeInfo,hi,hn,run_sameAddr_other w hne ha hb]
  exact this 9999
theorem AP (hk:P.underlying kt=some (.pointer e)) (hi:P.info? e=some i) (hn:i.size≠0) {a:Nat} (ha:Plain w a):
  ∀(es:List MapEntry) (l:List (Nat×Value)) (n:Nat),kV pk es l->(∀p∈l,Plain w p.1)->(Instr.findAsking kt (pk a) es n).run P w= .ok (mO a l n) w
 |[],[],_,_,_=>rfl
 |[],_::_,_,h,_=>by simp [kV] at h
 |_::_,[],_,h,_=>by simp [kV] at h
 |x::es,p::l,n,h,hp=>by
  simp only [kV,Bn,adk.injEq,Prod.mk.injEq] at h;obtain ⟨⟨h1,h2⟩,h3⟩:=h;have ih:=AP hk hi hn ha es l (n+1) h3 fun q hq=>hp q (by simp [hq]);have he:=acj hk hi hn ha (hp p (by simp));unfold Instr.findAsking mO;simp only [Sem.run_bind,h1,he,Result.andThen_ok];by_cases e:a=p.1
  ·rw [if_pos e]
   simp [e,h2]
  ·rw [if_neg e]
   simp [e,ih]
theorem EH (hk:P.underlying kt=some (.pointer e)) (hi:P.info? e=some i) (hn:i.size≠0) {a:Nat} (ha:Plain w a) {l:List (Nat×Value)} (hp:∀p∈l,Plain w p.1):yB P kt pk w a l:=by
 refine ⟨fun es h=>?_,fun em=>?_,?_⟩
 ·have hf:=AP hk hi hn ha es l 0 h hp
  cases es with
  |nil=>
   cases l with
   |nil=>simp [Instr.findKey,run_underlying hk,Instr.findNow,mO]
   |cons p l=>simp [kV] at h
  |cons x es=>
   cases l with
   |nil=>simp [kV] at h
   |cons p l=>
    have hx:x.key=pk p.1:=by
     simp only [kV,Bn,adk.injEq,Prod.mk.injEq] at h;exact h.1.1
    simp [Instr.findKey,run_underlying hk,Instr.findNow,hx,pk,Instr.sameNow] at hf ⊢;exact hf
 ·have:∀d:Nat,(Instr.checkKey em (d+1) kt (pk a)).run P w= .ok () w:=fun d=>by simp [Instr.checkKey,pk,run_underlying hk]
  exact this 9999
 ·simp [Instr.sameBits,pk]
end
open Go.RowKit
structure Fr (X:Nat->Prop) (w w':World):Prop where
 os:w'.os=w.os
 tape:w'.tape=w.tape
 output:w'.output=w.output
 size:w.heap.size<=w'.heap.size
 block:∀k,k<w.heap.size->¬X k->w'.heap[k]?=w.heap[k]?
section
variable {X Y:Nat->Prop} {w w' w2:World}
theorem Fr.refl (X:Nat->Prop) (w:World):Fr X w w:=⟨rfl,rfl,rfl,bN _,fun _ _ _=>rfl⟩
theorem Fr.trans (h:Fr X w w') (k:Fr X w' w2):Fr X w w2:=
 ⟨k.os.trans h.os,k.tape.trans h.tape,k.output.trans h.output,zk h.size k.size,fun i hi hx=>(k.block i (by have:=h.size;omega) hx).trans (h.block i hi hx)⟩
theorem Fr.mono (h:Fr X w w') (hxy:∀k,X k->Y k):Fr Y w w':=⟨h.os,h.tape,h.output,h.size,fun k hk hy=>h.block k hk fun hx=>hy (hxy k hx)⟩
theorem Fr.new (h:Fr X w w') (k:Fr Y w' w2) (hy:∀b,Y b->X b\/w.heap.size<=b):Fr X w w2:=
 ⟨k.os.trans h.os,k.tape.trans h.tape,k.output.trans h.output,zk h.size k.size,fun i hi hx=>(k.block i (by have:=h.size;omega) fun e=>by rcases hy i e with e|e<;>first|exact hx e|omega).trans (h.block i hi hx)⟩
theorem Fr.below (h:Below w.heap.size w w'):Fr X w w':=⟨h.os,h.tape,h.output,h.size,fun k hk _=>h.block k hk⟩
theorem Fr.grown {row:Option Nat} (h:w.grownBy w' row) (hX:∀k,row=some k->X k):Fr X w w':=
 ⟨h.os,h.tape,h.output,h.size,fun k hk hx=>h.block k hk fun e=>hx (hX k e.symm)⟩
theorem Fr.alloc (h:Fr X w w') (o:Obj):Fr X w (w'.alloc o):=h.trans (Fr.below ((aT _ _).alloc (bN _) o))
theorem Fr.drewN (h:Fr X w w') (n:Nat):Fr X w (w'.drewN n):=⟨h.os,h.tape,h.output,h.size,h.block⟩
theorem Fr.setCell (h:Fr X w w') {p:Addr} (hp:X p.block\/w.heap.size<=p.block) (u:Value):Fr X w (w'.setCell p u):=
 ⟨h.os,h.tape,h.output,by have:=h.size;simpa [adl] using this,fun k hk hx=>by
  rw [Below.heap_setCell _ _ _ _ (by rintro rfl;rcases hp with e|e;exact hx e;omega)];exact h.block k hk hx⟩
theorem Fr.toBelow (h:Fr X w w') (hX:∀k,X k->w.heap.size<=k):Below w.heap.size w w':=
 ⟨h.os,h.tape,h.output,h.size,fun k hk=>h.block k hk fun e=>by have:=hX k e;omega⟩
end
def lC (b:Nat):List Value:=[pk b]
def nT (s:ByteArray):List Value:=[.string s]
def jY (c:ByteArray×Nat):List Value:=[.string c.1,pk c.2]
theorem uf (b:Nat):(lC b).length=1:=rfl
theorem y9 (s:ByteArray):(nT s).length=1:=rfl
theorem jO (c:ByteArray×Nat):(jY c).length=2:=rfl
theorem OV (b:Nat):∀u∈lC b,u.oneCell'=true:=by simp [lC,pk,zK]
theorem OW (s:ByteArray):∀u∈nT s,u.oneCell'=true:=by simp [nT,zK]
theorem ZX (c:ByteArray×Nat):∀u∈jY c,u.oneCell'=true:=by simp [jY,pk,zK]
def dH {α:Type} (X:Nat->Prop) (size:Nat) (enc:α->List Value) (w:World) (A:Option Addr) (l:List α):Prop:=
 l≠[]->∃b o,A=some ⟨b,o,none⟩/\¬X b/\b<w.heap.size/\∀(i:Nat) (x:α),l[i]?=some x->∀(j:Nat) (u:Value),(enc x)[j]?=some u->w.cell? ⟨b,o+i*size+j,none⟩=some u
section
variable {α:Type} {X Y:Nat->Prop} {size:Nat} {enc:α->List Value} {w w':World} {A:Option Addr} {l:List α}
theorem dH.nil:dH X size enc w A ([]:List α):=fun h=>absurd rfl h
theorem dH.fr (h:dH X size enc w A l) (hf:Fr Y w w') (hY:∀k,k<w.heap.size->Y k->X k):dH X size enc w' A l:=fun hne=>by
 obtain ⟨b,o,rfl,hx,hb,hr⟩:=h hne;refine ⟨b,o,rfl,hx,by have:=hf.size;omega,fun i x hi j u hj=>?_⟩;rw [World.cell?_of_block (w:=w) (hf.block b hb fun e=>hx (hY b hb e))];exact hr i x hi j u hj
theorem dH.more (h:dH X size enc w A l) (hY:∀k,k<w.heap.size->Y k->X k):dH Y size enc w A l:=fun hne=>by
 obtain ⟨b,o,rfl,hx,hb,hr⟩:=h hne;exact ⟨b,o,rfl,fun e=>hx (hY b hb e),hb,hr⟩
theorem dH.read (h:dH X size enc w A l):aX size enc w w.heap.size A l:=fun hne=>by
 obtain ⟨b,o,e,hx,hb,hr⟩:=h hne;exact ⟨b,o,e,hb,hr⟩
theorem dH.uF {e base cap:Nat} (hk:∀x,(enc x).length=size) (h:aA e size enc w base A cap l) (hX:∀k,base<=k->k<w.heap.size->¬X k):dH X size enc w A l:=fun hne=>by
 obtain ⟨b,o,rfl,hb,hr⟩:=h.read hk hne;have hlen:0<l.length:=adx.2 hne;have:=h.block b (by rfl);exact ⟨b,o,rfl,hX b this.1 this.2,hb,hr⟩
end
def cO (X:Nat->Prop) (w:World) (v:Value):Option Int->Prop
 |none=>v= .pointer none
 |some q=>∃b,v=pk b/\¬X b/\w.heap[b]?=some (.cells #[.int .i64 9,.int .i64 q,.slice none 0 0,.slice none 0 0,.pointer none] 105 (0,0))
inductive aF (X:Nat->Prop) (w:World):Nat->Ut->Prop
 |mk (b:Nat) (k n:Int) (fs:Fl) (tl:Option Int) (A B:Option Addr) (ls:List ByteArray) (bs:List Nat) (ca cb:Nat) (tv:Value)
   (hx:¬X b) (hb:w.heap[b]?=some (.cells #[.int .i64 k,.int .i64 n,.slice A ls.length ca,.slice B bs.length cb,tv] 105 (0,0)))
   (hn:ls.length=bs.length) (hl:av k=true->ls=ay fs) (hA:dH X 1 nT w A ls) (hB:dH X 1 lC w B bs)
   (hlen:bs.length=fs.length) (hk:∀(i:Nat) (p:Lb×Ut) (c:Nat),fs[i]?=some p->bs[i]?=some c->aF X w c p.2) (ht:cO X w tv tl):aF X w b (.mk k n fs tl)
section
variable {X Y:Nat->Prop} {w w':World} {b:Nat} {t:Ut}
theorem cO.fr {v:Value} {tl:Option Int} (h:cO X w v tl) (hf:Fr Y w w') (hY:∀k,k<w.heap.size->Y k->X k):cO X w' v tl:=by
 cases tl with
 |none=>exact h
 |some q=>
  obtain ⟨b,e,hx,hb⟩:=h;have hlt:b<w.heap.size:=(ade.1 hb).1;exact ⟨b,e,hx,(hf.block b hlt fun z=>hx (hY b hlt z)).trans hb⟩
theorem cO.more {v:Value} {tl:Option Int} (h:cO X w v tl) (hY:∀k,k<w.heap.size->Y k->X k):cO Y w v tl:=by
 cases tl with
 |none=>exact h
 |some q=>
  obtain ⟨b,e,hx,hb⟩:=h;have hlt:b<w.heap.size:=(ade.1 hb).1;exact ⟨b,e,fun z=>hx (hY b hlt z),hb⟩
theorem aF.lt (h:aF X w b t):b<w.heap.size:=by
 cases h with
 |mk _ _ _ _ _ _ _ _ _ _ _ _ _ hb=>exact (ade.1 hb).1
theorem aF.out (h:aF X w b t):¬X b:=by
 cases h with
 |mk _ _ _ _ _ _ _ _ _ _ _ _ hx=>exact hx
theorem aF.plain (h:aF X w b t):Plain w b:=by
 cases h with
 |mk _ _ _ _ _ _ _ _ _ _ _ _ _ hb=>exact ⟨_,_,hb⟩
theorem aF.fr (h:aF X w b t) (hf:Fr Y w w') (hY:∀k,k<w.heap.size->Y k->X k):aF X w' b t:=by
 induction h with
 |mk b k n fs tl A B ls bs ca cb tv hx hb hn hl hA hB hlen hk ht ih=>
  have hlt:b<w.heap.size:=(ade.1 hb).1;exact .mk b k n fs tl A B ls bs ca cb tv hx ((hf.block b hlt fun z=>hx (hY b hlt z)).trans hb) hn hl (hA.fr hf hY) (hB.fr hf hY) hlen ih (ht.fr hf hY)
theorem aF.more (h:aF X w b t) (hY:∀k,k<w.heap.size->Y k->X k):aF Y w b t:=by
 induction h with
 |mk b k n fs tl A B ls bs ca cb tv hx hb hn hl hA hB hlen hk ht ih=>
  have hlt:b<w.heap.size:=(ade.1 hb).1;exact .mk b k n fs tl A B ls bs ca cb tv (fun z=>hx (hY b hlt z)) hb hn hl (hA.more hY) (hB.more hY) hlen ih (ht.more hY)
end
theorem dH.WC {α:Type} {X X':Nat->Prop} {size:Nat} {enc:α->List Value} {w:World} {A:Option Addr} {l l':List α} (h:dH X size enc w A l) (h':dH X' size enc w A l') (hl:l.length=l'.length)
  (inj:∀x y,(∀(j:Nat) (u:Value),(enc x)[j]?=some u->∀v,(enc y)[j]?=some v->u=v)->x=y):l=l':=by
 apply adj;intro i;rcases Nat.lt_or_ge i l.length with hi|hi
 ·have hi':i<l'.length:=by omega
  rw [jr hi,jr hi'];obtain ⟨b,o,e,_,_,hr⟩:=h (by rintro rfl;simp at hi);obtain ⟨b',o',e',_,_,hr'⟩:=h' (by rintro rfl;simp at hi');rw [e] at e';injection e' with e'
  injection e' with e1 e2 _
  subst e1 e2
  congr 1
  refine inj _ _ fun j u hu v hv=>?_;have h1:=hr i _ (jr hi) j u hu;have h2:=hr' i _ (jr hi') j v hv;rw [h1] at h2;injection h2
 ·rw [AO hi,AO (by omega)]
theorem ZY (x y:Nat) (h:∀(j:Nat) (u:Value),(lC x)[j]?=some u->∀v,(lC y)[j]?=some v->u=v):x=y:=by
 have:=h 0 _ rfl _ rfl;simpa [pk] using this
theorem Z0 (x y:ByteArray) (h:∀(j:Nat) (u:Value),(nT x)[j]?=some u->∀v,(nT y)[j]?=some v->u=v):x=y:=by
 have:=h 0 _ rfl _ rfl;simpa using this
theorem cO.WC {X X':Nat->Prop} {w:World} {v:Value} {tl tl':Option Int} (h:cO X w v tl) (h':cO X' w v tl'):tl=tl':=by
 cases tl with
 |none=>
  cases tl' with
  |none=>rfl
  |some q=>
   obtain ⟨b,e,_⟩:=h';have h:v= .pointer none:=h;rw [h] at e
   simp [pk] at e
 |some q=>
  obtain ⟨b,e,_,hb⟩:=h
  cases tl' with
  |none=>
   have h':v= .pointer none:=h';rw [h'] at e
   simp [pk] at e
  |some q'=>
   obtain ⟨b',e',_,hb'⟩:=h';rw [e] at e';have:b=b':=by simpa [pk] using e'
   subst this;rw [hb] at hb';simp at hb';rw [hb']
theorem aF.WC {X X':Nat->Prop} {w:World} {b:Nat} {t t':Ut} (h:aF X w b t) (h':aF X' w b t') (hs:j_ t) (hs':j_ t'):t=t':=by
 induction h generalizing t' with
 |mk b k n fs tl A B ls bs ca cb tv hx hb hn hl hA hB hlen hk ht ih=>
  cases h' with
  |mk _ k' n' fs' tl' A' B' ls' bs' Nu cb' tv' hx' hb' hn' hl' hA' hB' hlen' hk' ht'=>
   rw [hb] at hb';simp only [Option.some.injEq,Obj.cells.injEq,Array.mk.injEq,adk.injEq,Value.int.injEq,Value.slice.injEq,true_and,and_true] at hb';obtain ⟨rfl,rfl,⟨rfl,e1,rfl⟩,⟨rfl,e2,rfl⟩,rfl⟩:=hb';have el:=hA.WC hA' e1 Z0;have eb:=hB.WC hB' e2 ZY;subst el eb;have et:=ht.WC ht';subst et;rw [iV] at hs hs'
   congr 1
   have eLb:ay fs=ay fs':=by
    cases hr:av k with
    |true=>rw [<-hl hr,<-hl' hr]
    |false=>
     obtain ⟨⟨_,_,a5,a6⟩,_⟩:=hs;obtain ⟨⟨_,_,b5,b6⟩,_⟩:=hs';by_cases h5:k=5
     ·obtain ⟨⟨_,_,rfl⟩,_⟩:=a5 h5
      obtain ⟨⟨_,_,rfl⟩,_⟩:=b5 h5;rfl
     ·rw [(a6 h5 hr).1,(b6 h5 hr).1]
   have aoW:fs.length=fs'.length:=by omega
   apply adj;intro i;rcases Nat.lt_or_ge i fs.length with hi|hi
   ·have hi':i<fs'.length:=by omega
    have h1:=jr hi;have h2:=jr hi';rw [h1,h2];have hc:bs[i]?=some (bs[i]'(by omega)):=jr (by omega);have e3:=ih i _ _ h1 hc (hk' i _ _ h2 hc) (hs.2 _ (aal hi)) (hs'.2 _ (aal hi'))
    have e4:fs[i].1=fs'[i].1:=by
     have a1:(ay fs)[i]?=some fs[i].1:=by simp [ay,h1]
     have a2:(ay fs')[i]?=some fs'[i].1:=by simp [ay,h2]
     rw [eLb,a2] at a1;injection a1 with a1
     exact a1.symm
    exact congrArg some (Prod.ext e4 e3)
   ·rw [AO hi,AO (by omega)]
structure bH (X:Nat->Prop) (s m:Nat) (first:Int) (w:World) (S:Kn):Prop where
 ne:s≠m
 xs:X s
 xm:X m
 st:w.heap[s]?=some (.cells #[.int .i64 first,.int .i64 S.m,.map (some m)] 87 (0,0))
 map:∃l,jV ik w m l/\∀n:Int,match S.κ n with
  |none=>oZ n l=none
  |some t=>∃b,oZ n l=some (pk b)/\aF X w b t
theorem bH.fr {X:Nat->Prop} {s m:Nat} {first:Int} {w w':World} {S:Kn} {Y:Nat->Prop} (h:bH X s m first w S) (hf:Fr Y w w') (hY:∀k,k<w.heap.size->Y k->X k/\k≠s/\k≠m):bH X s m first w' S:=by
 obtain ⟨h1,hx1,hx2,h2,l,⟨es,clock,h3,h4⟩,h5⟩:=h
 have e:∀{b:Nat} {o:Obj},(b=s\/b=m)->w.heap[b]?=some o->w'.heap[b]?=some o:=fun {b o} hbs hb=>by
  have hlt:b<w.heap.size:=(ade.1 hb).1
  rw [hf.block b hlt fun hy=>by
   obtain ⟨_,a1,a2⟩:=hY b hlt hy;rcases hbs with e|e
   ·exact a1 e
   ·exact a2 e]
  exact hb
 refine ⟨h1,hx1,hx2,e (.inl rfl) h2,l,⟨es,clock,e (.inr rfl) h3,h4⟩,fun n=>?_⟩;have:=h5 n
 cases hk:S.κ n with
 |none=>rw [hk] at this;exact this
 |some t=>
  rw [hk] at this;obtain ⟨b,hb,hn⟩:=this;exact ⟨b,hb,hn.fr hf fun k hk hy=>(hY k hk hy).1⟩
theorem bH.more {X Y:Nat->Prop} {s m:Nat} {first:Int} {w:World} {S:Kn} (h:bH X s m first w S) (hs:Y s) (hm:Y m) (hY:∀k,k<w.heap.size->Y k->X k):bH Y s m first w S:=by
 obtain ⟨h1,_,_,h2,l,h3,h5⟩:=h;refine ⟨h1,hs,hm,h2,l,h3,fun n=>?_⟩;have:=h5 n
 cases hk:S.κ n with
 |none=>rw [hk] at this;exact this
 |some t=>
  rw [hk] at this;obtain ⟨b,hb,hn⟩:=this;exact ⟨b,hb,hn.more hY⟩
theorem ahq (w:World):(zeroValue 93).run Try.prog w= .ok (.pointer none) w:=by kernel_rfl
theorem LV (w:World) (m:Nat) (l:List (Int×Value)) (n:Int) (h:jV ik w m l):
  (Instr.lookup 85 (.map (some m)) (.int .i64 n) false).run Try.prog w= .ok ((oZ n l).getD (.pointer none)) w:=
 h.lookup (LP Try.underlying3 n l) Try.underlying85 _ (ahq w) false
theorem yc (k:Int) (w:World):
  Calls Try.prog 102 #[.int .i64 k] w fun e w'=>e= .returned (.bool (av k))/\w=w':=by
 go_enter Try.func102,Try.ntmps102;go_wp2
 all_goals go_ret
 all_goals exact ⟨aN (by simp_all [av]),rfl⟩
def wu (k n:Int):Obj:=.cells #[.int .i64 k,.int .i64 n,.slice none 0 0,.slice none 0 0,.pointer none] 105 (0,0)
def iU (first next:Int) (m:Nat):Obj:=.cells #[.int .i64 first,.int .i64 next,.map (some m)] 87 (0,0)
theorem TL (n:Int) (w:World):
  Calls Try.prog 17 #[.int .i64 n] w fun e w'=>∃s m,e= .returned (pk s)/\w.heap.size<=s/\w.heap.size<=m/\s≠m/\w'.heap[s]?=some (iU n n m)/\jV ik w' m []/\Below w.heap.size w w':=by
 have hmm:=@run_makeMap Try.prog;go_enter Try.func17,Try.ntmps17;go_wp2_with fail;go_ret;refine ⟨w.heap.size+1,w.heap.size,by simp [pk],by omega,by omega,by omega,?_,?_,?_⟩
 ·show ((w.alloc (Obj.map #[] 0)).alloc _).heap[w.heap.size+1]?=_
  rw [show w.heap.size+1=(w.alloc (Obj.map #[] 0)).heap.size by simp];exact heap_alloc_new _ _
 ·exact ⟨#[],0,(adM _ _ _ (by simp)).trans (heap_alloc_new w _),rfl⟩
 ·exact ((aT _ _).alloc (bN _) _).alloc (by simp) _
theorem yg (s m:Nat) (first next k:Int) (w:World) (hs:w.heap[s]?=some (iU first next m)) (h0: -9223372036854775808<=next) (h1:next+1<=9223372036854775807):
  Calls Try.prog 70 #[pk s,.int .i64 k] w fun e w'=>∃b,e= .returned (pk b)/\w.heap.size<=b/\w'.heap[b]?=some (wu k next)/\
   w'.heap[s]?=some (iU first (next+1) m)/\Fr (fun x=>x=s) w w':=by
 have c1:w.cell? ⟨s,1,none⟩=some (.int .i64 next):=by simp [adw,hs,iU]
 have f1:w.frozen? ⟨s,1,none⟩=false:=by simp [World.frozen?,hs,iU]
 have hlt:s<w.heap.size:=(ade.1 hs).1;unfold pk;go_enter Try.func70,Try.ntmps70;go_wp2_with fail;go_ret;refine ⟨w.heap.size,rfl,bN _,?_,?_,?_⟩
 ·have:=heap_alloc_new (w.setCell ⟨s,1,none⟩ (.int .i64 (next+1))) (wu k next)
  simpa [adl,wu] using this
 ·have h2:∀(W:World) (o:Obj),s<W.heap.size->(W.alloc o).heap[s]?=W.heap[s]?:=fun W o h=>adM W o s h
  rw [h2 _ _ (by simpa [adl] using hlt)];simp only [adl,adK,hs,if_true,abg,iU];rfl
 ·exact ((Fr.refl (fun x=>x=s) w).setCell (p:=⟨s,1,none⟩) (.inl rfl) _).alloc _
theorem bH.known {X:Nat->Prop} {s m:Nat} {first:Int} {w:World} {S:Kn} (h:bH X s m first w S) (n:Int):∃v,(∀j,(Instr.lookup 85 (.map (some m)) (.int .i64 n) false).run Try.prog (w.drewN j)= .ok v (w.drewN j))/\
  match S.κ n with
  |none=>v= .pointer none
  |some t=>∃b,v=pk b/\aF X w b t:=by
 obtain ⟨h1,_,_,h2,l,h3,h4⟩:=h;refine ⟨_,fun j=>LV (w.drewN j) m l n h3,?_⟩;have:=h4 n
 cases hk:S.κ n with
 |none=>rw [hk] at this;simp only [this];rfl
 |some t=>
  rw [hk] at this;obtain ⟨b,e,hn⟩:=this;exact ⟨b,by simp only [e];rfl,hn⟩
theorem aF.cells {X:Nat->Prop} {w:World} {b:Nat} {t:Ut} (h:aF X w b t):w.cell? ⟨b,0,none⟩=some (.int .i64 t.k)/\w.cell? ⟨b,1,none⟩=some (.int .i64 t.n):=by
 cases h with
 |mk _ k n fs tl A B ls bs ca cb tv hx hb=>exact ⟨by simp [adw,hb,Ut.k],by simp [adw,hb,Ut.n]⟩
theorem bH.cell {X:Nat->Prop} {s m:Nat} {first:Int} {w:World} {S:Kn} (h:bH X s m first w S):w.cell? ⟨s,2,none⟩=some (.map (some m))/\w.cell? ⟨s,1,none⟩=some (.int .i64 S.m)/\w.cell? ⟨s,0,none⟩=some (.int .i64 first):=by
 simp [adw,h.st]
def FT (r:Int->Nat) (v:Value) (w:World):Nat:=match v with
 | .pointer (some a)=>(match w.cell? ⟨a.block,0,none⟩,w.cell? ⟨a.block,1,none⟩ with
  |some (.int _ k),some (.int _ n)=>if k=8 then r n else 0
  |_,_=>0)
 |_=>0
theorem FU {X:Nat->Prop} {w:World} {b:Nat} {t:Ut} (h:aF X w b t) (r:Int->Nat):FT r (.pointer (some ⟨b,0,none⟩)) w=if t.k=8 then r t.n else 0:=by
 obtain ⟨h1,h2⟩:=h.cells;simp [FT,h1,h2]
theorem bH.aU {X:Nat->Prop} {s m:Nat} {first:Int} {w w':World} {S:Kn} (h:bH X s m first w S) (hb:Below w.heap.size w w'):bH X s m first w' S:=h.fr (Fr.below (X:=fun _=>False) hb) fun _ _ e=>e.elim
theorem aF.aU {X:Nat->Prop} {w w':World} {b:Nat} {t:Ut} (h:aF X w b t) (hb:Below w.heap.size w w'):aF X w' b t:=h.fr (Fr.below (X:=fun _=>False) hb) fun _ _ e=>e.elim
theorem za (X:Nat->Prop) (s m:Nat) (first:Int) (w:World) (S:Kn) (hS:bH X s m first w S) (hR:S.Rk) (b:Nat) (t u:Ut) (hb:aF X w b t) (hl:Looks S t u):
  Calls Try.prog 101 #[pk s,pk b] w fun e w'=>∃c,e= .returned (pk c)/\aF X w' c u/\Below w.heap.size w w':=by
 obtain ⟨r,_,hr2⟩:=hR;have HR:=aC hr2;have HM:=aC (Gw hb (Gw hS (Gw hl (aT w.heap.size w))));clear hS hb hl hr2;unfold pk;go_enter Try.func101,Try.ntmps101;go_wp2_with fail;go_loopw [1] (fun s1 wr=>∃(c:Nat) (x:Ut),s1= .pointer (some ⟨c,0,none⟩)/\Hid (aF X wr c x/\bH X s m first wr S/\Looks S x u/\Below w.heap.size w wr)) (fun s1 wr=>FT r s1 wr)
 case atStart=>exact ⟨b,t,rfl,HM⟩
 case round=>
  obtain ⟨c,x,rfl,M⟩:=hrel;obtain ⟨c0,c1⟩:=M.out.1.cells;obtain ⟨s2,_,_⟩:=M.out.2.1.cell;obtain ⟨v,hv,hv2⟩:=M.out.2.1.known x.n;have HV:=aC hv2;clear HM hv2;by_cases h8:x.k=8
  ·have H8:=aC h8
   have hd:decide (x.k=8)=true:=by simp [h8]
   have hq:(x.k==8)=true:=by simp [h8]
   clear h8
   cases hk:S.κ x.n with
   |none=>
    have Z4:v= .pointer none:=by have:=HV.out;rw [hk] at this;exact this
    subst Z4;go_wp2_with fail;go_quiet (fail);go_wp2_with fail;go_ret
    have hxu:x=u:=by
     cases M.out.2.2.1 with
     |here=>rfl
     |more _ s _ _ hk2 _=>rw [hk] at hk2;cases hk2
    subst hxu
    exact ⟨c,rfl,M.out.1.aU (below_drewN (aT _ _) _),dJ M.out.2.2.2 _⟩
   |some y=>
    have hy:∃d,v=pk d/\aF X wr d y:=by have:=HV.out;rw [hk] at this;exact this
    obtain ⟨d,rfl,hd2⟩:=hy
    have hyu:Looks S y u:=by
     cases M.out.2.2.1 with
     |here _ hn=>rw [hn H8.out] at hk;cases hk
     |more _ s _ _ hk2 hl2=>rw [hk] at hk2;injection hk2 with e;subst e;exact hl2
    have M2:=aC (Gw hd2 (Gw M.out.2.1 (Gw hyu M.out.2.2.2)))
    have hlt:=aC (show (if y.k=8 then r y.n else 0)<r x.n by
     obtain ⟨z1,z2,_⟩:=HR.out x.n y hk;split
     ·next h=>exact z2 h
     ·exact z1)
    have HC:=aC M.out.1;clear hd2 hyu HV hk;unfold pk at hv;go_wp2_with fail;go_quiet (fail);go_wp2_with fail;go_quiet (fail);go_wp2_with fail;go_roundw
    case rel=>exact ⟨d,y,rfl,aC ⟨(M2.out.1.aU (below_drewN (aT _ _) _)).aU (below_drewN (aT _ _) _),(M2.out.2.1.aU (below_drewN (aT _ _) _)).aU (below_drewN (aT _ _) _),M2.out.2.2.1,dJ (dJ M2.out.2.2.2 _) _⟩⟩
    case measure=>
     show FT r (.pointer (some ⟨d,0,none⟩)) ((wr.drewN _).drewN _)<FT r (.pointer (some ⟨c,0,none⟩)) wr;rw [FU ((M2.out.1.aU (below_drewN (aT _ _) _)).aU (below_drewN (aT _ _) _)),FU HC.out,if_pos H8.out];exact hlt.out
  ·have hd:decide (x.k=8)=false:=by simp [h8]
   have hq:(x.k==8)=false:=by simp [h8]
   have H8:=aC h8;clear h8 hv;go_wp2_with fail;go_quiet (fail);go_wp2_with fail;go_ret
   have hxu:x=u:=by
    cases M.out.2.2.1 with
    |here=>rfl
    |more _ s _ h8 hk2 _=>exact absurd h8 H8.out
   subst hxu;exact ⟨c,rfl,M.out.1.aU (below_drewN (aT _ _) _),dJ M.out.2.2.2 _⟩
end Go.Proofs.Ytblfeokjlecgkaa
