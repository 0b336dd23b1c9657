/- Laid together by a tool from the texts of this seat: UniA. Conditions: each theorem's own. -/
import Derived.Test.YtblfeokjlecgkaaV02
namespace Go.Proofs.Ytblfeokjlecgkaa
open _root_.List renaming mem_map->aaN,mem_append->JQ,mem_cons->Gz,pairwise_cons->aa2,map_cons->Bn,nil_append->RU,cons_append->Gx,append_nil->ER,nodup_cons->aa5,nodup_append->aa6
open _root_.Int renaming le_refl->aa1,lt_of_lt_of_le->aa3,le_trans->aa4
open _root_.Classical renaming byContradiction->aax
abbrev Lb:=ByteArray
inductive Ut where
 |mk (k n:Int) (fs:List (Lb×Ut)) (tl:Option Int)
def Ut.k:Ut->Int| .mk k _ _ _=>k
def Ut.n:Ut->Int| .mk _ n _ _=>n
def Ut.fs:Ut->List (Lb×Ut)| .mk _ _ fs _=>fs
def Ut.tl:Ut->Option Int| .mk _ _ _ tl=>tl
theorem Ut.fZ {k n:Int} {fs:List (Lb×Ut)} {tl:Option Int} {p:Lb×Ut} (h:p∈fs):SizeOf.sizeOf p.2<SizeOf.sizeOf (Ut.mk k n fs tl):=by
 have h1:=List.sizeOf_lt_of_mem h;have h2:SizeOf.sizeOf p.2<SizeOf.sizeOf p:=by cases p;simp;omega
 simp;omega
theorem Ut.ind {P:Ut->Prop} (h:∀k n fs tl,(∀p∈fs,P p.2)->P (.mk k n fs tl)):∀t,P t
 | .mk k n fs tl=>h k n fs tl fun p _hp=>Ut.ind h p.2
termination_by t=>SizeOf.sizeOf t
decreasing_by exact Ut.fZ _hp
def gX (p:Lb×Ut):List (Lb×Ut)->List (Lb×Ut)
 |[]=>[p]
 |q::l=>if dz q.1 p.1=true then q::gX p l else p::q::l
def aZ:List (Lb×Ut)->List (Lb×Ut)
 |[]=>[]
 |p::l=>gX p (aZ l)
structure Va where
 v:Int->Ut
 t:Int->List (Lb×Ut)×Option Int
def Va.tail (τ:Va):Option Int->List (Lb×Ut)×Option Int
 |none=>([],none)
 |some p=>τ.t p
def inst (τ:Va):Ut->Ut
 | .mk k n fs tl=>if k=8 then τ.v n else .mk k n (aZ (fs.map (fun p=>(p.1,inst τ p.2))++(τ.tail tl).1)) (τ.tail tl).2
termination_by t=>SizeOf.sizeOf t
decreasing_by exact Ut.fZ (by assumption)
theorem abH (τ:Va) (k n:Int) (fs:List (Lb×Ut)) (tl:Option Int):inst τ (.mk k n fs tl)=if k=8 then τ.v n else .mk k n (aZ (fs.map (fun p=>(p.1,inst τ p.2))++(τ.tail tl).1)) (τ.tail tl).2:=by
 rw [inst]
abbrev Fl:=List (Lb×Ut)
theorem jB {p q:Lb×Ut} {l:Fl} (h:dz q.1 p.1=true):gX p (q::l)=q::gX p l:=by simp [gX,h]
theorem jC {p q:Lb×Ut} {l:Fl} (h:dz q.1 p.1=false):gX p (q::l)=p::q::l:=by simp [gX,h]
theorem tK (p:Lb×Ut):∀l:Fl,(gX p l).Perm (p::l)
 |[]=>.refl _
 |q::l=>by
  unfold gX;split
  ·exact ((tK p l).cons q).trans (.swap p q l)
  ·exact .refl _
theorem eT:∀l:Fl,(aZ l).Perm l
 |[]=>.refl _
 |p::l=>(tK p (aZ l)).trans ((eT l).cons p)
theorem kK (l:Fl):(aZ l).length=l.length:=(eT l).length_eq
theorem dX {l:Fl} {p:Lb×Ut}:p∈aZ l↔p∈l:=(eT l).mem_iff
theorem KQ {a b:Lb×Ut} (h:a.1≠b.1):∀s:Fl,gX a (gX b s)=gX b (gX a s)
 |[]=>by
  simp only [gX]
  cases h1:dz b.1 a.1<;>cases h2:dz a.1 b.1<;>simp
  ·exact absurd (xQ h2 h1) h
  ·have:=og h1 h2
   rw [fP] at this
   cases this
 |q::s=>by
  cases h1:dz q.1 b.1<;>cases h2:dz q.1 a.1
  ·rw [jC h1,jC h2]
   cases h3:dz b.1 a.1
   ·rw [jC h3]
    cases h4:dz a.1 b.1
    ·exact absurd (xQ h4 h3) h
    ·rw [jB h4,jC h1]
   ·rw [jB h3,jC h2]
    cases h4:dz a.1 b.1
    ·rw [jC h4]
    ·have:=og h3 h4
     rw [fP] at this
     cases this
  ·rw [jC h1,jB h2]
   have h3:dz b.1 a.1=true:=by
    cases h3:dz b.1 a.1
    ·have:=uL h1 h3
     rw [h2] at this
     cases this
    ·rfl
   rw [jB h3,jB h2,jC h1]
  ·rw [jB h1,jC h2]
   have h3:dz a.1 b.1=true:=by
    cases h3:dz a.1 b.1
    ·have:=uL h2 h3
     rw [h1] at this
     cases this
    ·rfl
   rw [jC h2,jB h3,jB h1]
  ·rw [jB h1,jB h2,jB h2,jB h1,KQ h s]
def vF (l s:Fl):Fl:=l.foldr gX s
theorem vX (a b:Fl):aZ (a++b)=vF a (aZ b):=by
 induction a with
 |nil=>rfl
 |cons p a ih=>simp only [Gx,aZ,ih];rfl
theorem Oe (s:Fl) (a:Lb×Ut):∀l:Fl,vF (gX a l) s=gX a (vF l s)
 |[]=>rfl
 |q::l=>by
  cases h:dz q.1 a.1
  ·rw [jC h];rfl
  ·rw [jB h]
   show gX q (vF (gX a l) s)=gX a (gX q (vF l s));rw [Oe s a l,KQ];rintro e;rw [e,fP] at h
   cases h
theorem GJ (s:Fl):∀l:Fl,vF (aZ l) s=vF l s
 |[]=>rfl
 |p::l=>by
  show vF (gX p (aZ l)) s=gX p (vF l s);rw [Oe,GJ s l]
theorem Zi (l:Fl):aZ (aZ l)=aZ l:=by
 have h:=GJ [] l
 have e:∀l:Fl,vF l []=aZ l:=fun l=>by
  have:=vX l [];rw [ER] at this;exact this.symm
 rw [e,e] at h;exact h
theorem KR (a b:Fl):aZ (aZ a++b)=aZ (a++b):=by rw [vX,vX,GJ]
theorem Jk (a b:Fl):aZ (a++aZ b)=aZ (a++b):=by rw [vX,vX,Zi]
def aI (f:Ut->Ut) (l:Fl):Fl:=l.map fun p=>(p.1,f p.2)
theorem vN (f:Ut->Ut) (a b:Fl):aI f (a++b)=aI f a++aI f b:=by simp [aI]
theorem wM (f g:Ut->Ut) (l:Fl):aI f (aI g l)=aI (fun t=>f (g t)) l:=by simp [aI]
theorem eU (f:Ut->Ut) (p:Lb×Ut) (l:Fl):aI f (p::l)=(p.1,f p.2)::aI f l:=rfl
theorem qK {f g:Ut->Ut} {l:Fl} (h:∀p∈l,f p.2=g p.2):aI f l=aI g l:=List.map_congr_left fun p hp=>by rw [h p hp]
theorem Fq {f:Ut->Ut} {l:Fl} (h:∀p∈l,f p.2=p.2):aI f l=l:=by
 induction l with
 |nil=>rfl
 |cons p l ih=>rw [eU,h p (by simp),ih fun q hq=>h q (by simp [hq])]
theorem Og (f:Ut->Ut) (p:Lb×Ut):∀l:Fl,aI f (gX p l)=gX (p.1,f p.2) (aI f l)
 |[]=>rfl
 |q::l=>by
  cases h:dz q.1 p.1
  ·rw [jC h,eU,eU,jC (by exact h)]
  ·rw [jB h,eU,eU,jB (by exact h),Og f p l]
theorem tL (f:Ut->Ut):∀l:Fl,aI f (aZ l)=aZ (aI f l)
 |[]=>rfl
 |p::l=>by
  show aI f (gX p (aZ l))=gX _ (aZ (aI f l));rw [Og,tL f l]
theorem aK (τ:Va) (k n:Int) (fs:Fl) (tl:Option Int):inst τ (.mk k n fs tl)=if k=8 then τ.v n else .mk k n (aZ (aI (inst τ) fs++(τ.tail tl).1)) (τ.tail tl).2:=abH τ k n fs tl
def Va.comp (τ σ:Va):Va:=⟨fun v=>inst τ (σ.v v),fun p=>(aZ (aI (inst τ) (σ.t p).1++(τ.tail (σ.t p).2).1),(τ.tail (σ.t p).2).2)⟩
theorem VL (τ σ:Va) (tl:Option Int):(τ.comp σ).tail tl=(aZ (aI (inst τ) (σ.tail tl).1++(τ.tail (σ.tail tl).2).1),(τ.tail (σ.tail tl).2).2):=by
 cases tl with
 |none=>rfl
 |some p=>rfl
theorem j5 (τ σ:Va):∀t,inst τ (inst σ t)=inst (τ.comp σ) t:=
 Ut.ind fun k n fs tl ih=>by
  by_cases h:k=8
  ·rw [aK σ,if_pos h,aK (τ.comp σ),if_pos h]
   rfl
  ·rw [aK σ,if_neg h,aK τ,if_neg h,aK (τ.comp σ),if_neg h,VL]
   congr 1
   rw [tL,KR,Jk,vN,wM,List.append_assoc]
   congr 2
   exact qK ih
def aL (l:Lb):Fl->Option Ut
 |[]=>none
 |p::r=>if p.1=l then some p.2 else aL l r
def ay (l:Fl):List Lb:=l.map (·.1)
theorem kF (l:Lb):∀a b:Fl,aL l (a++b)=(aL l a).or (aL l b)
 |[],b=>by simp [aL]
 |p::a,b=>by
  simp only [Gx,aL];split
  ·rfl
  ·exact kF l a b
theorem iw (l:Lb) (f:Ut->Ut):∀a:Fl,aL l (aI f a)=(aL l a).map f
 |[]=>rfl
 |p::a=>by
  rw [eU];simp only [aL];split
  ·rfl
  ·exact iw l f a
theorem fJ (f:Ut->Ut) (a:Fl):ay (aI f a)=ay a:=by simp [ay,aI]
theorem dZ (a b:Fl):ay (a++b)=ay a++ay b:=by simp [ay]
theorem bR {l:Lb}:∀{a:Fl} {x:Ut},aL l a=some x->(l,x)∈a
 |p::a,x,h=>by
  simp only [aL] at h;split at h
  ·next e=>
   injection h with h
   subst e h;simp
  ·exact List.mem_cons_of_mem _ (bR h)
theorem jJ {l:Lb} {a:Fl} {x:Ut} (h:aL l a=some x):l∈ay a:=aaN.2 ⟨_,bR h,rfl⟩
theorem bP {l:Lb}:∀{a:Fl},aL l a=none↔l∉ay a
 |[]=>by simp [aL,ay]
 |p::a=>by
  simp only [aL,ay,Bn,Gz];split
  ·next e=>simp [e]
  ·next hne=>
   have:=bP (l:=l) (a:=a);unfold ay at this;rw [this];constructor
   ·rintro h (e|h2)
    ·exact hne e.symm
    ·exact h h2
   ·intro h h2
    exact h (.inr h2)
theorem jR {l:Lb} {x:Ut}:∀{a:Fl},(ay a).Nodup->(l,x)∈a->aL l a=some x
 |p::a,hn,h=>by
  simp only [ay,Bn,aa5] at hn;simp only [aL];rcases Gz.1 h with rfl|h
  ·simp
  ·rw [if_neg]
   ·exact jR hn.2 h
   ·rintro e
    exact hn.1 (aaN.2 ⟨(l,x),h,e.symm⟩)
theorem zP {l:Lb} {a b:Fl} (h:a.Perm b) (hn:(ay a).Nodup):aL l a=aL l b:=by
 have hn2:(ay b).Nodup:=(h.map (fun p:Lb×Ut=>p.1)).nodup_iff.1 hn
 cases hb:aL l b with
 |none=>
  rw [bP] at hb ⊢
  exact fun hm=>hb ((h.map (·.1)).mem_iff.1 hm)
 |some x=>exact jR hn (h.mem_iff.2 (bR hb))
theorem kL {l:Lb} {a:Fl} (hn:(ay a).Nodup):aL l (aZ a)=aL l a:=(zP (eT a).symm hn).symm
def dY (a:Fl):Prop:=a.Pairwise fun p q=>dz p.1 q.1=true
theorem dY.nodup {a:Fl} (h:dY a):(ay a).Nodup:=by
 unfold ay;refine List.pairwise_map.2 (h.imp fun {p q} h e=>?_);rw [e,fP] at h
 cases h
theorem wN {p:Lb×Ut}:∀{l:Fl},dY l->p.1∉ay l->dY (gX p l)
 |[],_,_=>by simp [gX,dY]
 |q::l,h,hn=>by
  simp only [ay,Bn,Gz,not_or] at hn;obtain ⟨h1,h2⟩:=aa2.1 h
  cases hq:dz q.1 p.1
  ·rw [jC hq]
   have hpq:dz p.1 q.1=true:=by
    cases hpq:dz p.1 q.1
    ·exact absurd (xQ hpq hq) hn.1
    ·rfl
   refine aa2.2 ⟨fun r hr=>?_,h⟩;rcases Gz.1 hr with rfl|hr
   ·exact hpq
   ·exact og hpq (h1 r hr)
  ·rw [jB hq]
   refine aa2.2 ⟨fun r hr=>?_,wN h2 hn.2⟩;rcases Gz.1 ((tK p l).mem_iff.1 hr) with rfl|hr
   ·exact hq
   ·exact h1 r hr
theorem kR:∀{a:Fl},(ay a).Nodup->dY (aZ a)
 |[],_=>by simp [aZ,dY]
 |p::a,h=>by
  simp only [ay,Bn,aa5] at h;refine wN (kR h.2) ?_;intro hm;exact h.1 (((eT a).map (·.1)).mem_iff.1 hm)
theorem dh:∀{a:Fl},dY a->aZ a=a
 |[],_=>rfl
 |p::a,h=>by
  obtain ⟨h1,h2⟩:=aa2.1 h;show gX p (aZ a)=_;rw [dh h2]
  cases a with
  |nil=>rfl
  |cons q a=>
   rw [jC];have:=h1 q (by simp)
   cases hq:dz q.1 p.1
   ·rfl
   ·have:=og this hq
    rw [fP] at this
    cases this
theorem tN:∀{a b:Fl},dY a->dY b->(∀l,aL l a=aL l b)->a=b
 |[],[],_,_,_=>rfl
 |[],q::b,_,_,h=>by have:=h q.1;simp [aL] at this
 |p::a,[],_,_,h=>by have:=h p.1;simp [aL] at this
 |p::a,q::b,ha,hb,h=>by
  obtain ⟨a1,a2⟩:=aa2.1 ha;obtain ⟨b1,b2⟩:=aa2.1 hb
  have hpq:p.1=q.1:=by
   apply aax;intro hne;have h1:=h p.1;simp only [aL,if_pos] at h1;rw [if_neg (fun e=>hne e.symm)] at h1;have h2:=h q.1;simp only [aL,if_pos] at h2;rw [if_neg hne] at h2;have h3:=b1 _ (bR h1.symm);have h4:=a1 _ (bR h2);have:=og h3 h4;rw [fP] at this
   cases this
  obtain ⟨p1,p2⟩:=p;obtain ⟨q1,q2⟩:=q;subst hpq;have h1:=h p1;simp only [aL,if_pos] at h1;injection h1 with h1
  subst h1
  congr 1
  refine tN a2 b2 fun l=>?_;by_cases e:p1=l
  ·subst e
   have n1:aL p1 a=none:=by
    rw [bP];intro hm;obtain ⟨r,hr,e⟩:=aaN.1 hm;have:=a1 r hr;rw [e,fP] at this
    cases this
   have n2:aL p1 b=none:=by
    rw [bP];intro hm;obtain ⟨r,hr,e⟩:=aaN.1 hm;have:=b1 r hr;rw [e,fP] at this
    cases this
   rw [n1,n2]
  ·have h2:=h l
   simp only [aL] at h2;rw [if_neg e,if_neg e] at h2;exact h2
abbrev Sorts:=Int->Option (List Lb)
def Dg (L:Sorts) (k n:Int) (fs:Fl) (tl:Option Int):Prop:=
 (ay fs).Nodup/\(k=0\/k=8->fs=[]/\tl=none)/\(k=8->L n=none)/\(k≠8->k≠0->n=0)/\∀p,tl=some p->∃ls,L p=some ls/\∀l∈ay fs,l∈ls
def dQ (L:Sorts):Ut->Prop
 | .mk k n fs tl=>Dg L k n fs tl/\∀p∈fs,dQ L p.2
termination_by t=>SizeOf.sizeOf t
decreasing_by exact Ut.fZ (by assumption)
theorem bK {L:Sorts} {k n:Int} {fs:Fl} {tl:Option Int}:dQ L (.mk k n fs tl)↔Dg L k n fs tl/\∀p∈fs,dQ L p.2:=by rw [dQ]
def iO:Ut->Prop
 | .mk k _ fs _=>k≠0/\∀p∈fs,iO p.2
termination_by t=>SizeOf.sizeOf t
decreasing_by exact Ut.fZ (by assumption)
theorem gP {k n:Int} {fs:Fl} {tl:Option Int}:iO (.mk k n fs tl)↔k≠0/\∀p∈fs,iO p.2:=by rw [iO]
def jT:Ut->Prop
 | .mk _ _ fs _=>dY fs/\∀p∈fs,jT p.2
termination_by t=>SizeOf.sizeOf t
decreasing_by exact Ut.fZ (by assumption)
theorem iI {k n:Int} {fs:Fl} {tl:Option Int}:jT (.mk k n fs tl)↔dY fs/\∀p∈fs,jT p.2:=by rw [jT]
def jf (m:Int):Ut->Prop
 | .mk k n fs tl=>(k=8->n<m)/\(∀p,tl=some p->p<m)/\∀p∈fs,jf m p.2
termination_by t=>SizeOf.sizeOf t
decreasing_by exact Ut.fZ (by assumption)
theorem iJ {m k n:Int} {fs:Fl} {tl:Option Int}:jf m (.mk k n fs tl)↔(k=8->n<m)/\(∀p,tl=some p->p<m)/\∀p∈fs,jf m p.2:=by rw [jf]
theorem gQ {m m':Int} (h:m<=m'):∀t,jf m t->jf m' t:=
 Ut.ind fun k n fs tl ih hb=>by
  rw [iJ] at hb ⊢;exact ⟨fun hk=>by have:=hb.1 hk;omega,fun p hp=>by have:=hb.2.1 p hp;omega,fun p hp=>ih p hp (hb.2.2 p hp)⟩
structure Va.Ok (L:Sorts) (τ:Va):Prop where
 v:∀n,L n=none->iO (τ.v n)/\jT (τ.v n)
 t:∀p ls,L p=some ls->dY (τ.t p).1/\(∀l∈ay (τ.t p).1,l∉ls)/\∀q∈(τ.t p).1,iO q.2/\jT q.2
section
variable {L:Sorts} {τ τ':Va}
theorem xS (h:τ.Ok L) {k n:Int} {fs:Fl} {tl:Option Int} (ho:Dg L k n fs tl):(ay (aI (inst τ) fs++(τ.tail tl).1)).Nodup:=by
 rw [dZ,fJ]
 cases tl with
 |none=>simpa [Va.tail,ay] using ho.1
 |some p=>
  obtain ⟨ls,hls,hsub⟩:=ho.2.2.2.2 p rfl;obtain ⟨h1,h2,_⟩:=h.t p ls hls;exact aa6.2 ⟨ho.1,h1.nodup,fun a ha b hb e=>h2 b hb (by rw [<-e];exact hsub a ha)⟩
theorem yN (h:τ.Ok L):∀t,dQ L t->jT (inst τ t):=
 Ut.ind fun k n fs tl ih ho=>by
  rw [bK] at ho;rw [aK];split
  ·next hk=>exact (h.v n (ho.1.2.2.1 hk)).2
  ·rw [iI]
   refine ⟨kR (xS h ho.1),fun p hp=>?_⟩;rw [dX] at hp;rcases JQ.1 hp with hp|hp
   ·obtain ⟨q,hq,rfl⟩:=aaN.1 hp
    exact ih q hq (ho.2 q hq)
   ·cases tl with
    |none=>simp [Va.tail] at hp
    |some r=>
     obtain ⟨ls,hls,_⟩:=ho.1.2.2.2.2 r rfl;exact ((h.t r ls hls).2.2 p hp).2
theorem rH (h:τ.Ok L):∀t,dQ L t->iO t->iO (inst τ t):=
 Ut.ind fun k n fs tl ih ho hs=>by
  rw [bK] at ho;rw [gP] at hs;rw [aK];split
  ·next hk=>exact (h.v n (ho.1.2.2.1 hk)).1
  ·rw [gP]
   refine ⟨hs.1,fun p hp=>?_⟩;rw [dX] at hp;rcases JQ.1 hp with hp|hp
   ·obtain ⟨q,hq,rfl⟩:=aaN.1 hp
    exact ih q hq (ho.2 q hq) (hs.2 q hq)
   ·cases tl with
    |none=>simp [Va.tail] at hp
    |some r=>
     obtain ⟨ls,hls,_⟩:=ho.1.2.2.2.2 r rfl;exact ((h.t r ls hls).2.2 p hp).1
theorem Dh (h:τ.Ok L) {k n:Int} {fs:Fl} {tl:Option Int} (ho:Dg L k n fs tl) (l:Lb):
  aL l (aZ (aI (inst τ) fs++(τ.tail tl).1))=((aL l fs).map (inst τ)).or (aL l (τ.tail tl).1):=by
 rw [kL (xS h ho),kF,iw]
def Alike (m:Int) (τ τ':Va):Prop:=∀n,n<m->τ.v n=τ'.v n/\τ.t n=τ'.t n
theorem Alike.refl (m:Int) (τ:Va):Alike m τ τ:=fun _ _=>⟨rfl,rfl⟩
theorem Alike.trans {m:Int} {τ τ' τ'':Va} (h:Alike m τ τ') (k:Alike m τ' τ''):Alike m τ τ'':=fun n hn=>⟨(h n hn).1.trans (k n hn).1,(h n hn).2.trans (k n hn).2⟩
theorem Alike.mono {m m':Int} (h:Alike m τ τ') (hm:m'<=m):Alike m' τ τ':=fun n hn=>h n (by omega)
theorem Alike.tail {m:Int} (h:Alike m τ τ') {tl:Option Int} (hb:∀p,tl=some p->p<m):τ.tail tl=τ'.tail tl:=by
 cases tl with
 |none=>rfl
 |some p=>exact (h p (hb p rfl)).2
theorem Alike.inst {m:Int} (h:Alike m τ τ'):∀t,jf m t->Proofs.Ytblfeokjlecgkaa.inst τ t=Proofs.Ytblfeokjlecgkaa.inst τ' t:=
 Ut.ind fun k n fs tl ih hb=>by
  rw [iJ] at hb;rw [aK,aK,h.tail hb.2.1,qK fun p hp=>ih p hp (hb.2.2 p hp)];split
  ·next hk=>exact (h n (hb.1 hk)).1
  ·rfl
end
inductive Co:Ut->Ut->Prop
 |dl (n:Int) (fs:Fl) (tl:Option Int) (b:Ut):Co (.mk 0 n fs tl) b
 |dr (n:Int) (fs:Fl) (tl:Option Int) (a:Ut):Co a (.mk 0 n fs tl)
 |nd (k n:Int) (fs gs:Fl) (tl:Option Int) (h:∀l,(aL l fs).isSome=(aL l gs).isSome) (hc:∀l x y,aL l fs=some x->aL l gs=some y->Co x y):Co (.mk k n fs tl) (.mk k n gs tl)
theorem Co.symm {a b:Ut} (h:Co a b):Co b a:=by
 induction h with
 |dl n fs tl b=>exact .dr _ _ _ _
 |dr n fs tl a=>exact .dl _ _ _ _
 |nd k n fs gs tl h hc ih=>exact .nd k n gs fs tl (fun l=>(h l).symm) fun l x y hx hy=>ih l y x hy hx
theorem Co.refl:∀t,Co t t:=
 Ut.ind fun k n fs tl ih=>.nd k n fs fs tl (fun _=>rfl) fun l x y hx hy=>by
  rw [hx] at hy;injection hy with hy
  subst hy;exact ih (l,x) (bR hx)
theorem Co.eq {a b:Ut} (h:Co a b):iO a->iO b->jT a->jT b->a=b:=by
 induction h with
 |dl n fs tl b=>intro h;rw [gP] at h;exact absurd rfl h.1
 |dr n fs tl a=>intro _ h;rw [gP] at h;exact absurd rfl h.1
 |nd k n fs gs tl h hc ih=>
  intro s1 s2 r1 r2;rw [gP] at s1 s2;rw [iI] at r1 r2
  congr 1
  refine tN r1.1 r2.1 fun l=>?_;have hl:=h l
  cases h1:aL l fs with
  |none=>
   rw [h1] at hl
   cases h2:aL l gs with
   |none=>rfl
   |some y=>rw [h2] at hl;cases hl
  |some x=>
   rw [h1] at hl
   cases h2:aL l gs with
   |none=>rw [h2] at hl;cases hl
   |some y=>rw [ih l x y h1 h2 (s1.2 _ (bR h1)) (s2.2 _ (bR h2)) (r1.2 _ (bR h1)) (r2.2 _ (bR h2))]
mutual
def aH (m:Int):Ut->Ut×Int
 | .mk k n fs tl=>if k=0 then (.mk 8 m [] none,m+1) else (.mk k n (cK m fs).1 tl,(cK m fs).2)
termination_by t=>SizeOf.sizeOf t
def cK (m:Int):Fl->Fl×Int
 |[]=>([],m)
 |p::fs=>((p.1,(aH m p.2).1)::(cK (aH m p.2).2 fs).1,(cK (aH m p.2).2 fs).2)
termination_by fs=>SizeOf.sizeOf fs
decreasing_by all_goals first|(simp;omega)|(obtain ⟨a,b⟩:=p;simp;omega)
end
theorem fF (m k n:Int) (fs:Fl) (tl:Option Int):aH m (.mk k n fs tl)=if k=0 then (.mk 8 m [] none,m+1) else (.mk k n (cK m fs).1 tl,(cK m fs).2):=by rw [aH]
theorem dw (m:Int):cK m []=([],m):=by rw [cK]
theorem b_ (m:Int) (p:Lb×Ut) (fs:Fl):cK m (p::fs)=((p.1,(aH m p.2).1)::(cK (aH m p.2).2 fs).1,(cK (aH m p.2).2 fs).2):=by rw [cK]
theorem jg:∀(fs:Fl) (m:Int),ay (cK m fs).1=ay fs
 |[],m=>by rw [dw]
 |p::fs,m=>by
  rw [b_];have:=jg fs (aH m p.2).2;unfold ay at this ⊢;simp only [Bn,this]
theorem Oh {P:Int->Ut->Prop} {Q:Int->Ut->Ut->Int->Prop} {fs:Fl} (hs:∀p∈fs,∀m,P m p.2->m<=(aH m p.2).2/\Q m p.2 (aH m p.2).1 (aH m p.2).2) (hP:∀m m' t,m<=m'->P m t->P m' t):
  ∀m,(∀p∈fs,P m p.2)->m<=(cK m fs).2/\∀q∈(cK m fs).1,∃p∈fs,∃a b,m<=a/\b<=(cK m fs).2/\Q a p.2 q.2 b:=by
 induction fs with
 |nil=>intro m _;rw [dw];exact ⟨aa1 _,fun q hq=>by simp at hq⟩
 |cons p fs ih=>
  intro m h;obtain ⟨h1,h2⟩:=hs p (by simp) m (h p (by simp));obtain ⟨h3,h4⟩:=ih (fun p hp=>hs p (by simp [hp])) (aH m p.2).2 (fun q hq=>hP _ _ _ h1 (h q (by simp [hq])));rw [b_];refine ⟨by simp only;omega,fun q hq=>?_⟩;rcases Gz.1 hq with rfl|hq
  ·exact ⟨p,by simp,m,(aH m p.2).2,aa1 _,h3,h2⟩
  ·obtain ⟨r,hr,a,b,ha,hb,hQ⟩:=h4 q hq
   exact ⟨r,by simp [hr],a,b,by omega,hb,hQ⟩
theorem jX {L:Sorts}:∀(t:Ut) (m:Int),(dQ L t/\jf m t/\∀x,m<=x->L x=none)->m<=(aH m t).2/\(dQ L (aH m t).1/\iO (aH m t).1/\jf (aH m t).2 (aH m t).1):=
 Ut.ind fun k n fs tl ih m ⟨ho,hb,hL⟩=>by
  rw [fF];by_cases hk:k=0
  ·rw [if_pos hk]
   simp only;refine ⟨by omega,?_,?_,?_⟩
   ·rw [bK]
    exact ⟨⟨by simp [ay],fun _=>⟨rfl,rfl⟩,fun _=>hL m (aa1 _),fun h=>absurd rfl h,fun p hp=>by cases hp⟩,fun p hp=>by simp at hp⟩
   ·rw [gP]
    exact ⟨by decide,fun p hp=>by simp at hp⟩
   ·rw [iJ]
    exact ⟨fun _=>by omega,fun p hp=>by simp at hp,fun p hp=>by simp at hp⟩
  ·rw [if_neg hk]
   rw [bK] at ho;rw [iJ] at hb;obtain ⟨h1,h2⟩:=Oh (P:=fun m t=>dQ L t/\jf m t/\∀x,m<=x->L x=none) (Q:=fun a t t' b=>dQ L t'/\iO t'/\jf b t') (fs:=fs) ih (fun m m' t hm ⟨a,b,c⟩=>⟨a,gQ hm t b,fun x hx=>c x (by omega)⟩) m (fun p hp=>⟨ho.2 p hp,hb.2.2 p hp,hL⟩);simp only;refine ⟨h1,?_,?_,?_⟩
   ·rw [bK]
    refine ⟨⟨?_,?_,ho.1.2.2.1,ho.1.2.2.2.1,?_⟩,fun q hq=>?_⟩
    ·rw [jg];exact ho.1.1
    ·intro h
     obtain ⟨e1,e2⟩:=ho.1.2.1 h;subst e1;exact ⟨by rw [dw],e2⟩
    ·rw [jg];exact ho.1.2.2.2.2
    ·obtain ⟨p,hp,a,b,_,_,hQ⟩:=h2 q hq
     exact hQ.1
   ·rw [gP]
    refine ⟨hk,fun q hq=>?_⟩;obtain ⟨p,hp,a,b,_,_,hQ⟩:=h2 q hq;exact hQ.2.1
   ·rw [iJ]
    refine ⟨fun h=>by have:=hb.1 h;omega,fun p hp=>by have:=hb.2.1 p hp;omega,fun q hq=>?_⟩;obtain ⟨p,hp,a,b,_,hbb,hQ⟩:=h2 q hq;exact gQ hbb _ hQ.2.2
def Va.iL (τ:Va) (m:Int) (T:Ut):Va:=⟨fun n=>if n=m then T else τ.v n,τ.t⟩
theorem Va.Ok.iL {L:Sorts} {τ:Va} (h:τ.Ok L) {m:Int} {T:Ut} (hs:iO T) (hr:jT T):(τ.iL m T).Ok L:=
 ⟨fun n hn=>by
  show iO (if n=m then T else τ.v n)/\jT (if n=m then T else τ.v n);split
  ·exact ⟨hs,hr⟩
  ·exact h.v n hn,h.t⟩
structure Ext (L:Sorts) (m m':Int) (τ τ':Va):Prop where
 ok:τ'.Ok L
 lo:Alike m τ τ'
 hi:∀x,m'<=x->τ'.v x=τ.v x
 t:τ'.t=τ.t
theorem Ext.refl {L:Sorts} {m m':Int} {τ:Va} (h:τ.Ok L):Ext L m m' τ τ:=⟨h,Alike.refl _ _,fun _ _=>rfl,rfl⟩
theorem Ext.trans {L:Sorts} {m m1 m2:Int} {τ τ1 τ2:Va} (h1:Ext L m m1 τ τ1) (h2:Ext L m1 m2 τ1 τ2) (hm:m<=m1) (hm2:m1<=m2):Ext L m m2 τ τ2:=
 ⟨h2.ok,h1.lo.trans (h2.lo.mono hm),fun x hx=>(h2.hi x hx).trans (h1.hi x (by omega)),h2.t.trans h1.t⟩
theorem Ext.tail {L:Sorts} {m m':Int} {τ τ':Va} (h:Ext L m m' τ τ') (tl:Option Int):τ'.tail tl=τ.tail tl:=by
 cases tl with
 |none=>rfl
 |some p=>show τ'.t p=τ.t p;rw [h.t]
theorem ag4 {L:Sorts} {fs:Fl} (ih:∀p∈fs,∀(m:Int) (τ:Va) (T:Ut),τ.Ok L->dQ L p.2->jf m p.2->(∀x,m<=x->L x=none)->Co T (inst τ p.2)->iO T->jT T->∃τ',Ext L m (aH m p.2).2 τ τ'/\inst τ' (aH m p.2).1=T):
  ∀(m:Int) (τ:Va) (G:Lb->Ut),τ.Ok L->(∀p∈fs,dQ L p.2/\jf m p.2)->(∀x,m<=x->L x=none)->(∀p∈fs,Co (G p.1) (inst τ p.2)/\iO (G p.1)/\jT (G p.1))->
   ∃τ',Ext L m (cK m fs).2 τ τ'/\aI (inst τ') (cK m fs).1=fs.map fun p=>(p.1,G p.1):=by
 induction fs with
 |nil=>intro m τ G h _ _ _;rw [dw];exact ⟨τ,Ext.refl h,rfl⟩
 |cons p fs ih2=>
  intro m τ G h ho hL hG;obtain ⟨o1,b1⟩:=ho p (by simp);obtain ⟨g1,g2,g3⟩:=hG p (by simp);obtain ⟨τ1,e1,i1⟩:=ih p (by simp) m τ (G p.1) h o1 b1 hL g1 g2 g3;obtain ⟨k1,k2,k3,k4⟩:=jX p.2 m ⟨o1,b1,hL⟩
  obtain ⟨τ2,e2,i2⟩:=ih2 (fun p hp=>ih p (by simp [hp])) (aH m p.2).2 τ1 G e1.ok (fun q hq=>⟨(ho q (by simp [hq])).1,gQ k1 _ (ho q (by simp [hq])).2⟩) (fun x hx=>hL x (by omega)) (fun q hq=>by
   obtain ⟨q1,q2,q3⟩:=hG q (by simp [hq]);rw [e1.lo.inst q.2 (ho q (by simp [hq])).2] at q1;exact ⟨q1,q2,q3⟩)
  have k5:(aH m p.2).2<=(cK (aH m p.2).2 fs).2:=by
   refine (Oh (P:=fun m t=>dQ L t/\jf m t/\∀x,m<=x->L x=none) (Q:=fun _ _ _ _=>True) (fs:=fs) (fun q hq m' hm'=>⟨(jX q.2 m' hm').1,trivial⟩) (fun m m' t hm ⟨a,b,c⟩=>⟨a,gQ hm t b,fun x hx=>c x (by omega)⟩) _ (fun q hq=>?_)).1;exact ⟨(ho q (by simp [hq])).1,gQ k1 _ (ho q (by simp [hq])).2,fun x hx=>hL x (by omega)⟩
  rw [b_];refine ⟨τ2,e1.trans e2 k1 k5,?_⟩;rw [eU,i2];show (p.1,inst τ2 (aH m p.2).1)::_=(p.1,G p.1)::_;rw [<-e2.lo.inst _ k4,i1]
theorem fill {L:Sorts}:∀(t:Ut) (m:Int) (τ:Va) (T:Ut),τ.Ok L->dQ L t->jf m t->(∀x,m<=x->L x=none)->Co T (inst τ t)->iO T->jT T->∃τ',Ext L m (aH m t).2 τ τ'/\inst τ' (aH m t).1=T:=
 Ut.ind fun k n fs tl ih m τ T h ho hb hL hc hs hr=>by
  rw [bK] at ho;rw [iJ] at hb;rw [fF];by_cases hk:k=0
  ·rw [if_pos hk]
   refine ⟨τ.iL m T,⟨h.iL hs hr,fun x hx=>⟨?_,rfl⟩,fun x hx=>?_,rfl⟩,?_⟩
   ·show τ.v x=if x=m then T else τ.v x
    rw [if_neg (by omega)]
   ·show (if x=m then T else τ.v x)=τ.v x
    rw [if_neg (by omega)]
   ·simp only
    rw [aK,if_pos rfl];show (if m=m then T else _)=T;rw [if_pos rfl]
  ·rw [if_neg hk]
   by_cases h8:k=8
   ·obtain ⟨e1,e2⟩:=ho.1.2.1 (.inr h8)
    subst e1 e2;refine ⟨τ,Ext.refl h,?_⟩;rw [dw];rw [aK,if_pos h8] at hc ⊢;obtain ⟨v1,v2⟩:=h.v n (ho.1.2.2.1 h8);exact (hc.eq hs v1 hr v2).symm
   ·rw [aK,if_neg h8] at hc
    have hfs:=xS h ho.1;have hget:=Dh h ho.1;generalize hF:aZ (aI (inst τ) fs++(τ.tail tl).1)=F at*;generalize hT2:(τ.tail tl).2=tl2 at*
    cases hc with
    |dl n2 fs2 tl3 b=>rw [gP] at hs;exact absurd rfl hs.1
    |dr n2 fs2 tl3 a=>exact absurd rfl hk
    |nd k2 n2 gs _ _ hsome hco=>
     rw [gP] at hs;rw [iI] at hr
     have hG:∀p∈fs,∃x,aL p.1 gs=some x/\Co x (inst τ p.2):=fun p hp=>by
      have e1:aL p.1 F=some (inst τ p.2):=by
       rw [hget,jR ho.1.1 (show (p.1,p.2)∈fs from hp)];rfl
      have e2:=hsome p.1;rw [e1] at e2
      cases hx:aL p.1 gs with
      |none=>rw [hx] at e2;cases e2
      |some x=>exact ⟨x,rfl,hco p.1 x _ hx e1⟩
     obtain ⟨τ',e,i⟩:=ag4 ih m τ (fun l=>(aL l gs).getD (.mk 1 0 [] none)) h (fun p hp=>⟨ho.2 p hp,hb.2.2 p hp⟩) hL (fun p hp=>by
      obtain ⟨x,hx,hxc⟩:=hG p hp;simp only [hx,Option.getD_some];exact ⟨hxc,hs.2 _ (bR hx),hr.2 _ (bR hx)⟩)
     refine ⟨τ',e,?_⟩;simp only;rw [aK,if_neg h8,i,e.tail,hT2]
     congr 1
     have hl:ay (fs.map fun p=>(p.1,(aL p.1 gs).getD (.mk 1 0 [] none)))=ay (aI (inst τ) fs):=by simp [ay,aI]
     have hn2:(ay ((fs.map fun p=>(p.1,(aL p.1 gs).getD (.mk 1 0 [] none)))++(τ.tail tl).1)).Nodup:=by
      rw [dZ,hl,<-dZ];exact hfs
     refine tN (kR hn2) hr.1 fun l=>?_;rw [kL hn2,kF]
     cases hlf:aL l fs with
     |some x=>
      obtain ⟨y,hy,_⟩:=hG (l,x) (bR hlf)
      have:aL l (fs.map fun p=>(p.1,(aL p.1 gs).getD (.mk 1 0 [] none)))=some y:=by
       refine jR ?_ (aaN.2 ⟨(l,x),bR hlf,by simp [hy]⟩);rw [hl,fJ];exact ho.1.1
      rw [this,hy]
      rfl
     |none=>
      have:aL l (fs.map fun p=>(p.1,(aL p.1 gs).getD (.mk 1 0 [] none)))=none:=by
       rw [bP,hl,fJ,<-bP];exact hlf
      rw [this];have e1:aL l F=aL l (τ.tail tl).1:=by rw [hget,hlf];rfl
      have e2:=hsome l;rw [e1] at e2
      cases hx:aL l (τ.tail tl).1 with
      |none=>
       rw [hx] at e2
       cases hy:aL l gs with
       |none=>rfl
       |some y=>rw [hy] at e2;cases e2
      |some x=>
       rw [hx] at e2
       cases hy:aL l gs with
       |none=>rw [hy] at e2;cases e2
       |some y=>
        have ajr:=hco l y x hy (e1.trans hx)
        cases tl with
        |none=>simp [Va.tail,aL] at hx
        |some p=>
         obtain ⟨ls,hls,_⟩:=ho.1.2.2.2.2 p rfl;obtain ⟨_,_,t3⟩:=h.t p ls hls;obtain ⟨t4,t5⟩:=t3 _ (bR hx);rw [ajr.eq (hs.2 _ (bR hy)) t4 (hr.2 _ (bR hy)) t5];rfl
theorem xU {L:Sorts} {τ τ':Va} (hv:∀n,L n=none->τ.v n=τ'.v n) (ht:∀p ls,L p=some ls->τ.t p=τ'.t p):∀t,dQ L t->inst τ t=inst τ' t:=
 Ut.ind fun k n fs tl ih ho=>by
  rw [bK] at ho
  have e:τ.tail tl=τ'.tail tl:=by
   cases tl with
   |none=>rfl
   |some p=>obtain ⟨ls,hls,_⟩:=ho.1.2.2.2.2 p rfl;exact ht p ls hls
  rw [aK,aK,e,qK fun p hp=>ih p hp (ho.2 p hp)];split
  ·next hk=>exact hv n (ho.1.2.2.1 hk)
  ·rfl
structure Va.Wf (L:Sorts) (σ:Va):Prop where
 ok:σ.Ok L
 v:∀n,L n=none->dQ L (σ.v n)
 t:∀p ls,L p=some ls->(∀q∈(σ.t p).1,dQ L q.2)/\∀q,(σ.t p).2=some q->∃ls',L q=some ls'/\(∀l∈ls,l∈ls')/\∀l∈ay (σ.t p).1,l∈ls'
theorem kI {l:Lb} {a:Fl}:l∈ay (aZ a)↔l∈ay a:=((eT a).map (fun p:Lb×Ut=>p.1)).mem_iff
theorem rJ {L:Sorts} {σ:Va} (h:σ.Wf L):∀t,dQ L t->dQ L (inst σ t):=
 Ut.ind fun k n fs tl ih ho=>by
  rw [bK] at ho;rw [aK];split
  ·next hk=>exact h.v n (ho.1.2.2.1 hk)
  ·next hk=>
   rw [bK];refine ⟨⟨(kR (xS h.ok ho.1)).nodup,fun h2=>?_,fun e=>absurd e hk,ho.1.2.2.2.1,fun q hq=>?_⟩,fun p hp=>?_⟩
   ·rcases h2 with h2|h2
    ·obtain ⟨e1,e2⟩:=ho.1.2.1 (.inl h2)
     subst e1 e2;exact ⟨rfl,rfl⟩
    ·exact absurd h2 hk
   ·cases tl with
    |none=>simp [Va.tail] at hq
    |some p=>
     obtain ⟨ls,hls,hsub⟩:=ho.1.2.2.2.2 p rfl;obtain ⟨ls',h1,h2,h3⟩:=(h.t p ls hls).2 q hq;refine ⟨ls',h1,fun l hl=>?_⟩;rw [kI,dZ,fJ] at hl;rcases JQ.1 hl with hl|hl
     ·exact h2 l (hsub l hl)
     ·exact h3 l hl
   ·rw [dX] at hp
    rcases JQ.1 hp with hp|hp
    ·obtain ⟨q,hq,rfl⟩:=aaN.1 hp
     exact ih q hq (ho.2 q hq)
    ·cases tl with
     |none=>simp [Va.tail] at hp
     |some r=>
      obtain ⟨ls,hls,_⟩:=ho.1.2.2.2.2 r rfl;exact (h.t r ls hls).1 p hp
def SE (p:Int):Ut:=.mk 6 0 [] (some p)
def aS (v:Int):Ut:=.mk 8 v [] none
theorem pV {L:Sorts} {v:Int} (h:L v=none):dQ L (aS v):=by
 unfold aS;rw [bK];exact ⟨⟨by simp [ay],fun _=>⟨rfl,rfl⟩,fun _=>h,fun h=>absurd rfl h,fun p hp=>by cases hp⟩,fun p hp=>by simp at hp⟩
theorem abI {L:Sorts} {p:Int} {ls:List Lb} (h:L p=some ls):dQ L (SE p):=by
 unfold SE;rw [bK];refine ⟨⟨by simp [ay],(fun h=>?_),(fun h=>?_),(fun _ _=>rfl),(fun q hq=>?_)⟩,fun p hp=>by simp at hp⟩
 ·rcases h with h|h<;>exact absurd h (by decide)
 ·exact absurd h (by decide)
 ·cases hq
  exact ⟨ls,h,fun l hl=>by simp [ay] at hl⟩
theorem aW (τ:Va) (v:Int):inst τ (aS v)=τ.v v:=by
 unfold aS;rw [aK,if_pos rfl]
theorem Oi {L:Sorts} {τ:Va} (h:τ.Ok L) {p:Int} {ls:List Lb} (hp:L p=some ls):inst τ (SE p)= .mk 6 0 (τ.t p).1 (τ.t p).2:=by
 unfold SE;rw [aK,if_neg (by decide)];show Ut.mk 6 0 (aZ ([]++(τ.t p).1)) (τ.t p).2=_;rw [RU,dh (h.t p ls hp).1]
theorem uO (v:Int):iO (aS v):=by unfold aS;rw [gP];exact ⟨by decide,fun p hp=>by simp at hp⟩
theorem Fv (v:Int):jT (aS v):=by unfold aS;rw [iI];exact ⟨by simp [dY],fun p hp=>by simp at hp⟩
def Va.id:Va:=⟨aS,fun p=>([],some p)⟩
theorem Ew (L:Sorts):Va.id.Wf L:=
 ⟨⟨fun n _=>⟨uO n,Fv n⟩,fun p ls _=>⟨by simp [Va.id,dY],fun l hl=>by simp [Va.id,ay] at hl,fun q hq=>by simp [Va.id] at hq⟩⟩,
  fun n hn=>pV hn,fun p ls hp=>⟨fun q hq=>by simp [Va.id] at hq,fun q hq=>by
   simp only [Va.id,Option.some.injEq] at hq;subst hq;exact ⟨ls,hp,fun l hl=>hl,fun l hl=>by simp [Va.id,ay] at hl⟩⟩⟩
theorem abJ {L:Sorts} {τ σ:Va} (hτ:τ.Ok L) (hσ:σ.Wf L):(τ.comp σ).Ok L:=by
 refine ⟨fun n hn=>⟨rH hτ _ (hσ.v n hn) (hσ.ok.v n hn).1,yN hτ _ (hσ.v n hn)⟩,fun p ls hp=>?_⟩;obtain ⟨h1,h2⟩:=hσ.t p ls hp;obtain ⟨g1,g2,g3⟩:=hσ.ok.t p ls hp
 have XZ:(ay (aI (inst τ) (σ.t p).1++(τ.tail (σ.t p).2).1)).Nodup/\∀l∈ay (aI (inst τ) (σ.t p).1++(τ.tail (σ.t p).2).1),l∉ls:=by
  rw [dZ,fJ]
  cases hq:(σ.t p).2 with
  |none=>exact ⟨by simpa [Va.tail,ay] using g1.nodup,fun l hl=>g2 l (by simpa [Va.tail,ay] using hl)⟩
  |some q=>
   obtain ⟨ls',k1,k2,k3⟩:=h2 q hq;obtain ⟨t1,t2,_⟩:=hτ.t q ls' k1;refine ⟨aa6.2 ⟨g1.nodup,t1.nodup,fun a ha b hb e=>t2 b hb (by rw [<-e];exact k3 a ha)⟩,fun l hl hls=>?_⟩;rcases JQ.1 hl with hl|hl
   ·exact g2 l hl hls
   ·exact t2 l hl (k2 l hls)
 refine ⟨kR XZ.1,fun l hl=>?_,fun q hq=>?_⟩
 ·exact XZ.2 l (kI.1 hl)
 ·have hq:q∈aZ (aI (inst τ) (σ.t p).1++(τ.tail (σ.t p).2).1):=hq
  rw [dX] at hq;rcases JQ.1 hq with hq|hq
  ·obtain ⟨r,hr,rfl⟩:=aaN.1 hq
   exact ⟨rH hτ _ (h1 r hr) (g3 r hr).1,yN hτ _ (h1 r hr)⟩
  ·cases hq2:(σ.t p).2 with
   |none=>rw [hq2] at hq;simp [Va.tail] at hq
   |some s=>
    rw [hq2] at hq;obtain ⟨ls',k1,_⟩:=h2 s hq2;exact (hτ.t s ls' k1).2.2 q hq
theorem SF {L:Sorts} {τ σ:Va} (hτ:τ.Wf L) (hσ:σ.Wf L):(τ.comp σ).Wf L:=by
 refine ⟨abJ hτ.ok hσ,fun n hn=>rJ hτ _ (hσ.v n hn),fun p ls hp=>?_⟩;obtain ⟨h1,h2⟩:=hσ.t p ls hp;refine ⟨fun q hq=>?_,fun q hq=>?_⟩
 ·have hq:q∈aZ (aI (inst τ) (σ.t p).1++(τ.tail (σ.t p).2).1):=hq
  rw [dX] at hq;rcases JQ.1 hq with hq|hq
  ·obtain ⟨r,hr,rfl⟩:=aaN.1 hq
   exact rJ hτ _ (h1 r hr)
  ·cases hq2:(σ.t p).2 with
   |none=>rw [hq2] at hq;simp [Va.tail] at hq
   |some s=>
    rw [hq2] at hq;obtain ⟨ls',k1,_⟩:=h2 s hq2;exact (hτ.t s ls' k1).1 q hq
 ·have hq:(τ.tail (σ.t p).2).2=some q:=hq
  cases hq2:(σ.t p).2 with
  |none=>rw [hq2] at hq;simp [Va.tail] at hq
  |some s=>
   rw [hq2] at hq;obtain ⟨ls',k1,k2,k3⟩:=h2 s hq2;obtain ⟨kG,j1,j2,j3⟩:=(hτ.t s ls' k1).2 q hq;refine ⟨kG,j1,fun l hl=>j2 l (k2 l hl),fun l hl=>?_⟩;have hl:l∈ay (aZ (aI (inst τ) (σ.t p).1++(τ.tail (σ.t p).2).1)):=hl;rw [kI,dZ,fJ,hq2] at hl;rcases JQ.1 hl with hl|hl
   ·exact j2 l (k3 l hl)
   ·exact j3 l hl
def Model (L:Sorts) (κ:Int->Option Ut) (τ:Va):Prop:=
 ∀v t,κ v=some t->(L v=none->τ.v v=inst τ t)/\∀ls,L v=some ls->τ.t v=((inst τ t).fs,(inst τ t).tl)
structure Va.Bd (L:Sorts) (m:Int) (σ:Va):Prop where
 v:∀n,n<m->L n=none->jf m (σ.v n)
 t:∀p ls,p<m->L p=some ls->(∀q∈(σ.t p).1,jf m q.2)/\∀q,(σ.t p).2=some q->q<m
theorem yO {L:Sorts} {m:Int} {σ:Va} (h:σ.Bd L m):∀t,dQ L t->jf m t->jf m (inst σ t):=
 Ut.ind fun k n fs tl ih ho hb=>by
  rw [bK] at ho;rw [iJ] at hb;rw [aK];split
  ·next hk=>exact h.v n (hb.1 hk) (ho.1.2.2.1 hk)
  ·next hk=>
   rw [iJ]
   have ht:(∀q∈(σ.tail tl).1,jf m q.2)/\∀q,(σ.tail tl).2=some q->q<m:=by
    cases tl with
    |none=>exact ⟨fun q hq=>by simp [Va.tail] at hq,fun q hq=>by simp [Va.tail] at hq⟩
    |some p=>
     obtain ⟨ls,hls,_⟩:=ho.1.2.2.2.2 p rfl;exact h.t p ls (hb.2.1 p rfl) hls
   refine ⟨fun e=>absurd e hk,ht.2,fun q hq=>?_⟩;rw [dX] at hq;rcases JQ.1 hq with hq|hq
   ·obtain ⟨r,hr,rfl⟩:=aaN.1 hq
    exact ih r hr (ho.2 r hr) (hb.2.2 r hr)
   ·exact ht.1 q hq
theorem SG {L:Sorts} {m:Int} {τ σ:Va} (hτ:τ.Bd L m) (hσ:σ.Bd L m) (hw:σ.Wf L):(τ.comp σ).Bd L m:=by
 refine ⟨fun n hn hl=>yO hτ _ (hw.v n hl) (hσ.v n hn hl),fun p ls hp hls=>?_⟩;obtain ⟨h1,h2⟩:=hσ.t p ls hp hls;obtain ⟨w1,w2⟩:=hw.t p ls hls
 have ht:(∀q∈(τ.tail (σ.t p).2).1,jf m q.2)/\∀q,(τ.tail (σ.t p).2).2=some q->q<m:=by
  cases hq2:(σ.t p).2 with
  |none=>exact ⟨fun q hq=>by simp [Va.tail] at hq,fun q hq=>by simp [Va.tail] at hq⟩
  |some s=>
   obtain ⟨ls',k1,_⟩:=w2 s hq2;exact hτ.t s ls' (h2 s hq2) k1
 refine ⟨fun q hq=>?_,ht.2⟩;have hq:q∈aZ (aI (inst τ) (σ.t p).1++(τ.tail (σ.t p).2).1):=hq;rw [dX] at hq;rcases JQ.1 hq with hq|hq
 ·obtain ⟨r,hr,rfl⟩:=aaN.1 hq
  exact yO hτ _ (w1 r hr) (h1 r hr)
 ·exact ht.1 q hq
structure Kn where
 κ:Int->Option Ut
 L:Sorts
 σ:Va
 m:Int
structure Kn.Inv (S:Kn):Prop where
 dom:∀v t,S.κ v=some t->v<S.m/\dQ S.L t/\iO t/\jf S.m t
 row:∀v t ls,S.κ v=some t->S.L v=some ls->t.k≠8/\t.k≠0/\(∀l∈ay t.fs,l∉ls)/\∀q,t.tl=some q->∃ls',S.L q=some ls'/\∀l∈ls,l∈ls'
 new:∀x,S.m<=x->S.L x=none
 wf:S.σ.Wf S.L
 model:Model S.L S.κ S.σ
 unk:∀v,S.κ v=none->S.σ.v v=aS v/\S.σ.t v=([],some v)
 bd:S.σ.Bd S.L S.m
 gen:∀τ,τ.Ok S.L->Model S.L S.κ τ->∀t,dQ S.L t->inst τ (inst S.σ t)=inst τ t
def Kn.Sat (S:Kn) (τ:Va):Prop:=τ.Ok S.L/\Model S.L S.κ τ
theorem Kn.Inv.free {S:Kn} (h:S.Inv) {x:Int} (hx:S.m<=x):S.κ x=none:=by
 cases hk:S.κ x with
 |none=>rfl
 |some t=>have:=(h.dom x t hk).1;omega
theorem yP {m v:Int} (h:v<m):jf m (aS v):=by
 unfold aS;rw [iJ];exact ⟨fun _=>h,(fun p hp=>by cases hp),(fun p hp=>by simp at hp)⟩
theorem Kn.Inv.BK {S:Kn} (h:S.Inv) {m':Int} (hm:S.m<=m'):S.σ.Bd S.L m':=by
 refine ⟨fun n hn hl=>?_,fun p ls hp hls=>?_⟩
 ·by_cases hx:n<S.m
  ·exact gQ hm _ (h.bd.v n hx hl)
  ·rw [(h.unk n (h.free (by omega))).1]
   exact yP hn
 ·by_cases hx:p<S.m
  ·obtain ⟨a,b⟩:=h.bd.t p ls hx hls
   exact ⟨fun q hq=>gQ hm _ (a q hq),fun q hq=>aa3 (b q hq) hm⟩
  ·rw [h.new p (by omega)] at hls
   cases hls
theorem Kn.Inv.sat {S:Kn} (h:S.Inv):S.Sat S.σ:=⟨h.wf.ok,h.model⟩
theorem xV {L:Sorts} {κ κ':Int->Option Ut} {τ:Va} (h:Model L κ' τ) (hk:∀v t,κ v=some t->κ' v=some t):Model L κ τ:=fun v t hv=>h v t (hk v t hv)
theorem oP {L:Sorts} {κ:Int->Option Ut} {τ τ':Va} {m:Int} (h:Model L κ τ) (ha:Alike m τ τ') (hd:∀v t,κ v=some t->v<m/\jf m t):Model L κ τ':=fun v t hv=>by
 obtain ⟨h1,h2⟩:=hd v t hv;obtain ⟨a1,a2⟩:=ha v h1;obtain ⟨g1,g2⟩:=h v t hv;exact ⟨fun hl=>by rw [<-a1,g1 hl,ha.inst t h2],fun ls hls=>by rw [<-a2,g2 ls hls,ha.inst t h2]⟩
mutual
def gL:Ut->Nat
 | .mk _ _ fs _=>1+nQ fs
termination_by t=>SizeOf.sizeOf t
def nQ:Fl->Nat
 |[]=>0
 |p::fs=>gL p.2+nQ fs
termination_by fs=>SizeOf.sizeOf fs
decreasing_by all_goals first|(simp;omega)|(obtain ⟨a,b⟩:=p;simp;omega)
end
theorem rM (k n:Int) (fs:Fl) (tl:Option Int):gL (.mk k n fs tl)=1+nQ fs:=by rw [gL.eq_def]
theorem Zj:nQ []=0:=by rw [nQ.eq_def]
theorem mX (p:Lb×Ut) (fs:Fl):nQ (p::fs)=gL p.2+nQ fs:=by rw [nQ.eq_def]
theorem rO:∀a b:Fl,nQ (a++b)=nQ a+nQ b
 |[],b=>by rw [Zj];simp
 |p::a,b=>by rw [Gx,mX,mX,rO a b];omega
theorem zQ {a b:Fl} (h:a.Perm b):nQ a=nQ b:=by
 induction h with
 |nil=>rfl
 |cons x _ ih=>rw [mX,mX,ih]
 |swap x y l=>rw [mX,mX,mX,mX];omega
 |trans _ _ h1 h2=>exact h1.trans h2
theorem tO {p:Lb×Ut}:∀{a:Fl},p∈a->gL p.2<=nQ a
 |q::a,h=>by
  rw [mX];rcases Gz.1 h with rfl|h
  ·omega
  ·have:=tO h;omega
def bL (v:Int):Ut->Prop
 | .mk k n fs tl=>(k=8/\n=v)\/tl=some v\/∃p,∃(_:p∈fs),bL v p.2
termination_by t=>SizeOf.sizeOf t
decreasing_by exact Ut.fZ (by assumption)
theorem nD {v k n:Int} {fs:Fl} {tl:Option Int}:bL v (.mk k n fs tl)↔(k=8/\n=v)\/tl=some v\/∃p∈fs,bL v p.2:=by
 rw [bL];simp only [exists_prop]
theorem Zk {L:Sorts} {τ:Va} {v:Int} (hl:L v=none):∀t,dQ L t->bL v t->gL (τ.v v)<=gL (inst τ t)/\(t.k≠8->gL (τ.v v)<gL (inst τ t)):=
 Ut.ind fun k n fs tl ih ho h=>by
  rw [bK] at ho;rw [nD] at h;rw [aK];rcases h with ⟨hk,hn⟩|h|⟨p,hp,h⟩
  ·subst hn
   rw [if_pos hk];exact ⟨Nat.le_refl _,fun h=>absurd hk h⟩
  ·obtain ⟨ls,hls,_⟩:=ho.1.2.2.2.2 v h
   rw [hl] at hls
   cases hls
  ·have h8:k≠8:=fun h8=>by
    rw [(ho.1.2.1 (.inr h8)).1] at hp;simp at hp
   rw [if_neg h8,rM,zQ (eT _),rO];have h1:=(ih p hp (ho.2 p hp) h).1;have h2:gL (inst τ p.2)<=nQ (aI (inst τ) fs):=tO (p:=(p.1,inst τ p.2)) (aaN.2 ⟨p,hp,rfl⟩);exact ⟨by omega,fun _=>by omega⟩
theorem VN {L:Sorts} {τ:Va} {v:Int} {ls:List Lb} (hl:L v=some ls):∀t,dQ L t->bL v t->nQ (τ.t v).1<gL (inst τ t):=
 Ut.ind fun k n fs tl ih ho h=>by
  rw [bK] at ho;rw [nD] at h;rw [aK];rcases h with ⟨hk,hn⟩|h|⟨p,hp,h⟩
  ·subst hn
   rw [ho.1.2.2.1 hk] at hl
   cases hl
  ·have h8:k≠8:=fun h8=>by
    rw [(ho.1.2.1 (.inr h8)).2] at h
    cases h
   rw [if_neg h8,rM,zQ (eT _),rO];subst h;show nQ (τ.t v).1<1+(_+nQ (τ.t v).1);omega
  ·have h8:k≠8:=fun h8=>by
    rw [(ho.1.2.1 (.inr h8)).1] at hp;simp at hp
   rw [if_neg h8,rM,zQ (eT _),rO];have h1:=ih p hp (ho.2 p hp) h;have h2:gL (inst τ p.2)<=nQ (aI (inst τ) fs):=tO (p:=(p.1,inst τ p.2)) (aaN.2 ⟨p,hp,rfl⟩);omega
theorem Zl {L:Sorts} {v:Int} {X:Ut}:∀t,dQ L t->jT t->¬bL v t->inst (Va.id.iL v X) t=t:=
 Ut.ind fun k n fs tl ih ho hr h=>by
  rw [bK] at ho;rw [iI] at hr;rw [nD] at h;rw [aK];split
  ·next hk=>
   obtain ⟨e1,e2⟩:=ho.1.2.1 (.inr hk);subst e1 e2 hk;show (if n=v then X else aS n)=_;rw [if_neg fun e=>h (.inl ⟨rfl,e⟩)];rfl
  ·have e:(Va.id.iL v X).tail tl=([],tl):=by cases tl<;>rfl
   rw [e,Fq fun p hp=>ih p hp (ho.2 p hp) (hr.2 p hp) fun hc=>h (.inr (.inr ⟨p,hp,hc⟩)),ER,dh hr.1]
theorem Oj {L:Sorts} {l:Lb}:∀(fs:Fl) (m:Int),(∀p∈fs,dQ L p.2/\jf m p.2)->(∀x,m<=x->L x=none)->
  match aL l fs with
  |none=>aL l (cK m fs).1=none
  |some x=>∃m',m<=m'/\jf m' x/\aL l (cK m fs).1=some (aH m' x).1
 |[],m,_,_=>by rw [dw];rfl
 |p::fs,m,h,hL=>by
  rw [b_];simp only [aL];by_cases e:p.1=l
  ·rw [if_pos e,if_pos e]
   exact ⟨m,aa1 _,(h p (by simp)).2,rfl⟩
  ·rw [if_neg e,if_neg e]
   have hm:=(jX p.2 m ⟨(h p (by simp)).1,(h p (by simp)).2,hL⟩).1;have ih:=Oj (l:=l) fs (aH m p.2).2 (fun q hq=>⟨(h q (by simp [hq])).1,gQ hm _ (h q (by simp [hq])).2⟩) (fun x hx=>hL x (by omega))
   cases hg:aL l fs with
   |none=>rw [hg] at ih;exact ih
   |some x=>
    rw [hg] at ih;obtain ⟨m',h1,h2,h3⟩:=ih;exact ⟨m',by omega,h2,h3⟩
theorem X0 {L:Sorts} {τ:Va} (hτ:τ.Ok L):∀(t:Ut) (m:Int),dQ L t->jf m t->(∀x,m<=x->L x=none)->Co (inst τ (aH m t).1) (inst τ t):=
 Ut.ind fun k n fs tl ih m ho hb hL=>by
  obtain ⟨_,ho',_,_⟩:=jX (.mk k n fs tl) m ⟨ho,hb,hL⟩;rw [fF] at ho' ⊢;by_cases hk:k=0
  ·subst hk
   rw [if_pos rfl,aK τ 0,if_neg (show ¬(0:Int)=8 by decide)];exact .dr _ _ _ _
  ·rw [if_neg hk] at ho' ⊢
   simp only at ho' ⊢;rw [bK] at ho ho';rw [iJ] at hb;rw [aK,aK];by_cases h8:k=8
   ·rw [if_pos h8,if_pos h8]
    exact Co.refl _
   ·rw [if_neg h8,if_neg h8]
    have g1:=Dh hτ ho.1;have g2:=Dh hτ ho'.1;have hg:=fun l=>Oj (L:=L) (l:=l) fs m (fun p hp=>⟨ho.2 p hp,hb.2.2 p hp⟩) hL;refine .nd _ _ _ _ _ (fun l=>?_) fun l x y hx hy=>?_
    ·rw [g1,g2]
     have:=hg l
     cases hf:aL l fs with
     |none=>rw [hf] at this;simp only at this;rw [this]
     |some z=>rw [hf] at this;obtain ⟨m',_,_,e⟩:=this;rw [e];rfl
    ·rw [g2] at hx
     rw [g1] at hy;have:=hg l
     cases hf:aL l fs with
     |none=>
      rw [hf] at this hy;simp only at this;rw [this] at hx;simp only [Option.map_none,Option.none_or] at hx hy;rw [hx] at hy;injection hy with hy
      subst hy
      exact Co.refl _
     |some z=>
      rw [hf] at this hy;obtain ⟨m',h1,h2,e⟩:=this;rw [e] at hx;simp only [Option.map_some,Option.some_or,Option.some.injEq] at hx hy;subst hx hy;exact ih (l,z) (bR hf) m' (ho.2 _ (bR hf)) h2 fun x hx=>hL x (by omega)
def upd (κ:Int->Option Ut) (v:Int) (t:Ut):Int->Option Ut:=fun u=>if u=v then some t else κ u
theorem upd_same (κ:Int->Option Ut) (v:Int) (t:Ut):upd κ v t v=some t:=by simp [upd]
theorem bQ {κ:Int->Option Ut} {v u:Int} {t:Ut} (h:u≠v):upd κ v t u=κ u:=by simp [upd,h]
theorem abK {L:Sorts} {v:Int} {X:Ut} (ho:dQ L X) (hs:iO X) (hr:jT X):(Va.id.iL v X).Wf L:=
 ⟨(Ew L).ok.iL hs hr,fun n hn=>by
  show dQ L (if n=v then X else aS n);split
  ·exact ho
  ·exact pV hn,(Ew L).t⟩
def Kn.eF (S:Kn) (v:Int) (t:Ut):Kn:=
 ⟨upd S.κ v (aH S.m t).1,S.L,(Va.id.iL v (inst S.σ (aH S.m t).1)).comp S.σ,(aH S.m t).2⟩
section
variable {S:Kn} {v:Int} {t:Ut}
theorem Kn.Inv.eF (h:S.Inv) (hv:S.κ v=none) (hl:S.L v=none) (pW:v<S.m) (ho:dQ S.L t) (hb:jf S.m t) (oh:¬bL v (inst S.σ (aH S.m t).1)):(S.eF v t).Inv:=by
 obtain ⟨hm,ho',hs',hb'⟩:=jX t S.m ⟨ho,hb,h.new⟩;have hR:=rJ h.wf _ ho';have hRs:=rH h.wf.ok _ ho' hs';have hRr:=yN h.wf.ok _ ho';have hβ:=abK (v:=v) hR hRs hRr;have hne:∀u s,S.κ u=some s->u≠v:=fun u s hu e=>by rw [e,hv] at hu;cases hu
 refine ⟨fun u s hu=>?_,fun u s ls hu hls=>?_,fun x hx=>h.new x (aa4 hm hx),SF hβ h.wf,fun u s hu=>?_,fun u hu=>?_,SG ?_ (h.BK hm) h.wf,fun τ hτ hmod s hs=>?_⟩
 ·by_cases e:u=v
  ·subst e
   have hu:upd S.κ u (aH S.m t).1 u=some s:=hu;rw [upd_same] at hu;injection hu with hu
   subst hu;exact ⟨aa3 pW hm,ho',hs',hb'⟩
  ·have hu:upd S.κ v (aH S.m t).1 u=some s:=hu
   rw [bQ e] at hu;obtain ⟨a,b,c,d⟩:=h.dom u s hu;exact ⟨aa3 a hm,b,c,gQ hm _ d⟩
 ·have hls:S.L u=some ls:=hls
  have e:u≠v:=fun e=>by rw [e,hl] at hls;cases hls
  have hu:upd S.κ v (aH S.m t).1 u=some s:=hu;rw [bQ e] at hu;exact h.row u s ls hu hls
 ·have hu:upd S.κ v (aH S.m t).1 u=some s:=hu
  show (S.L u=none->inst _ (S.σ.v u)=inst (Va.comp _ S.σ) s)/\∀ls,S.L u=some ls->(Va.comp _ S.σ).t u=_;by_cases e:u=v
  ·subst e
   rw [upd_same] at hu;injection hu with hu
   subst hu;refine ⟨fun _=>?_,fun ls hls=>by rw [hl] at hls;cases hls⟩;rw [(h.unk u hv).1,aW,<-j5,Zl _ hR hRr oh];show (if u=u then _ else _)=_;rw [if_pos rfl]
  ·rw [bQ e] at hu
   obtain ⟨g1,g2⟩:=h.model u s hu;refine ⟨fun BL=>by rw [g1 BL,j5],fun ls hls=>?_⟩;have h8:=(h.row u s ls hu hls).1;show (Va.comp _ S.σ).t u=((inst (Va.comp (Va.id.iL v (inst S.σ (aH S.m t).1)) S.σ) s).fs,(inst (Va.comp (Va.id.iL v (inst S.σ (aH S.m t).1)) S.σ) s).tl);rw [<-j5];show (aZ (aI _ (S.σ.t u).1++_),_)=_;rw [g2 ls hls];obtain ⟨k,n,fs,tl⟩:=s;have h8:k≠8:=h8;rw [aK S.σ,if_neg h8];rw [aK _ k,if_neg h8];rfl
 ·have hu:upd S.κ v (aH S.m t).1 u=none:=hu
  have e:u≠v:=fun e=>by rw [e,upd_same] at hu;cases hu
  rw [bQ e] at hu;obtain ⟨g1,g2⟩:=h.unk u hu;refine ⟨?_,?_⟩
  ·show inst _ (S.σ.v u)=_
   rw [g1,aW];show (if u=v then _ else aS u)=_;rw [if_neg e]
  ·show (aZ (aI _ (S.σ.t u).1++_),_)=_
   rw [g2];rfl
 ·refine ⟨fun n hn hln=>?_,fun p ls hp hls=>⟨fun q hq=>by simp [Va.iL,Va.id] at hq,fun q hq=>?_⟩⟩
  ·show jf _ (if n=v then _ else aS n)
   split
   ·exact yO (h.BK hm) _ ho' hb'
   ·exact yP hn
  ·simp only [Va.iL,Va.id,Option.some.injEq] at hq
   subst hq;exact hp
 ·have KS:Model S.L S.κ τ:=xV hmod fun u s hu=>by
   show upd S.κ v (aH S.m t).1 u=some s;rw [bQ (hne u s hu)];exact hu
  show inst τ (inst (Va.comp _ S.σ) s)=inst τ s;rw [<-j5,j5 τ];rw [xU (L:=S.L) (τ':=τ) (fun n hn=>?_) (fun p ls hp=>?_) _ (rJ h.wf s hs)]
  ·exact h.gen τ hτ KS s hs
  ·show inst τ (if n=v then _ else aS n)=τ.v n
   split
   ·next e=>
    subst e;rw [h.gen τ hτ KS _ ho'];exact (((hmod n (aH S.m t).1 (upd_same _ _ _)).1) hn).symm
   ·exact aW τ n
  ·show (aZ ([]++(τ.t p).1),(τ.t p).2)=τ.t p
   rw [RU,dh (hτ.t p ls hp).1]
theorem Kn.SH (hv:S.κ v=none) {τ:Va} (hτ:(S.eF v t).Sat τ):S.Sat τ:=
 ⟨hτ.1,xV hτ.2 fun u s hu=>by
  have e:u≠v:=fun e=>by rw [e,hv] at hu;cases hu
  show upd S.κ v (aH S.m t).1 u=some s;rw [bQ e];exact hu⟩
theorem Kn.Inv.Zm (h:S.Inv) (hl:S.L v=none) (ho:dQ S.L t) (hb:jf S.m t) {τ:Va} (hτ:(S.eF v t).Sat τ):Co (τ.v v) (inst τ t):=by
 have:=(hτ.2 v _ (upd_same _ _ _)).1 hl;rw [this];exact X0 hτ.1 t S.m ho hb h.new
theorem Kn.Inv.VO (h:S.Inv) (hv:S.κ v=none) (hl:S.L v=none) (pW:v<S.m) (ho:dQ S.L t) (hb:jf S.m t) {τ:Va} (hτ:S.Sat τ) (hc:Co (τ.v v) (inst τ t)):
  ∃τ',(S.eF v t).Sat τ'/\Alike S.m τ τ':=by
 obtain ⟨a,b⟩:=hτ.1.v v hl;obtain ⟨τ',e,i⟩:=fill t S.m τ (τ.v v) hτ.1 ho hb h.new hc a b;refine ⟨τ',⟨e.ok,fun u s hu=>?_⟩,e.lo⟩;have hu:upd S.κ v (aH S.m t).1 u=some s:=hu;by_cases eu:u=v
 ·subst eu
  rw [upd_same] at hu;injection hu with hu
  subst hu
  exact ⟨fun _=>by rw [i];exact (e.lo u pW).1.symm,fun ls hls=>by
   have hls:S.L u=some ls:=hls;rw [hl] at hls
   cases hls⟩
 ·rw [bQ eu] at hu
  exact oP hτ.2 e.lo (fun u s hu=>⟨(h.dom u s hu).1,(h.dom u s hu).2.2.2⟩) u s hu
theorem Kn.Inv.VP (h:S.Inv) (hl:S.L v=none) (pW:v<S.m) (ho:dQ S.L t) (hb:jf S.m t) (oh:bL v (inst S.σ (aH S.m t).1)) (h8:(inst S.σ (aH S.m t).1).k≠8) {τ:Va} (hτ:S.Sat τ):¬Co (τ.v v) (inst τ t):=fun hc=>by
 obtain ⟨a,b⟩:=hτ.1.v v hl;obtain ⟨τ',e,i⟩:=fill t S.m τ (τ.v v) hτ.1 ho hb h.new hc a b;obtain ⟨hm,ho',hs',hb'⟩:=jX t S.m ⟨ho,hb,h.new⟩;have h1:=(Zk (τ:=τ') hl _ (rJ h.wf _ ho') oh).2 h8;rw [h.gen τ' e.ok (oP hτ.2 e.lo fun u s hu=>⟨(h.dom u s hu).1,(h.dom u s hu).2.2.2⟩) _ ho',i,(e.lo v pW).1] at h1;omega
end
theorem vY {L L':Sorts} {m:Int} (hL:∀x,x<m->L' x=L x):∀t,jf m t->dQ L t->dQ L' t:=
 Ut.ind fun k n fs tl ih hb ho=>by
  rw [iJ] at hb;rw [bK] at ho ⊢;refine ⟨⟨ho.1.1,ho.1.2.1,fun hk=>?_,ho.1.2.2.2.1,fun p hp=>?_⟩,fun p hp=>ih p hp (hb.2.2 p hp) (ho.2 p hp)⟩
  ·rw [hL n (hb.1 hk)];exact ho.1.2.2.1 hk
  ·rw [hL p (hb.2.1 p hp)];exact ho.1.2.2.2.2 p hp
def Va.jh (τ:Va) (m:Int) (T:Fl×Option Int):Va:=⟨τ.v,fun n=>if n=m then T else τ.t n⟩
def Kn.aQ (S:Kn) (ls:List Lb):Kn:=⟨S.κ,fun x=>if x=S.m then some ls else S.L x,S.σ,S.m+1⟩
structure Kn.Le (S S':Kn):Prop where
 m:S.m<=S'.m
 κ:∀v t,S.κ v=some t->S'.κ v=some t
 L:∀x,x<S.m->S'.L x=S.L x
 sat:∀τ,S'.Sat τ->∃τ0,S.Sat τ0/\Alike S.m τ τ0
theorem Kn.Le.refl (S:Kn):S.Le S:=⟨aa1 _,fun _ _ h=>h,fun _ _=>rfl,fun τ h=>⟨τ,h,Alike.refl _ _⟩⟩
theorem Kn.Le.trans {S S1 S2:Kn} (h:S.Le S1) (k:S1.Le S2):S.Le S2:=
 ⟨aa4 h.m k.m,fun v t hv=>k.κ v t (h.κ v t hv),fun x hx=>(k.L x (aa3 hx h.m)).trans (h.L x hx),fun τ hτ=>by
  obtain ⟨τ1,h1,a1⟩:=k.sat τ hτ;obtain ⟨τ0,h0,a0⟩:=h.sat τ1 h1;exact ⟨τ0,h0,(a1.mono h.m).trans a0⟩⟩
section
variable {S:Kn} {v:Int} {t:Ut}
theorem Kn.Zn (h:S.Inv) (hv:S.κ v=none) (ho:dQ S.L t) (hb:jf S.m t):S.Le (S.eF v t):=
 ⟨(jX t S.m ⟨ho,hb,h.new⟩).1,fun u s hu=>by
  have e:u≠v:=fun e=>by rw [e,hv] at hu;cases hu
  show upd S.κ v (aH S.m t).1 u=some s;rw [bQ e];exact hu,fun _ _=>rfl,fun τ hτ=>⟨τ,Kn.SH hv hτ,Alike.refl _ _⟩⟩
theorem Kn.zR {ls:List Lb} (h:S.Inv) {τ:Va} (hτ:(S.aQ ls).Sat τ):S.Sat (τ.iL S.m (aS S.m))/\Alike S.m τ (τ.iL S.m (aS S.m)):=by
 have ha:Alike S.m τ (τ.iL S.m (aS S.m)):=fun x hx=>⟨by
  show τ.v x=if x=S.m then _ else τ.v x
  rw [if_neg (by omega)],rfl⟩
 refine ⟨⟨⟨fun n hn=>?_,fun p ls' hp=>?_⟩,?_⟩,ha⟩
 ·show iO (if n=S.m then _ else τ.v n)/\jT (if n=S.m then _ else τ.v n)
  split
  ·exact ⟨uO _,Fv _⟩
  ·next hne=>
   refine hτ.1.v n ?_;show (if n=S.m then some ls else S.L n)=none;rw [if_neg hne];exact hn
 ·refine hτ.1.t p ls' ?_
  show (if p=S.m then some ls else S.L p)=some ls';rw [if_neg]
  ·exact hp
  ·rintro rfl
   rw [h.new S.m (aa1 _)] at hp
   cases hp
 ·have hm:Model S.L S.κ τ:=fun u s hu=>by
   have VQ:=(h.dom u s hu).1;have g:(if u=S.m then some ls else S.L u)=S.L u:=if_neg (by omega);obtain ⟨g1,g2⟩:=hτ.2 u s hu;exact ⟨fun hl=>g1 (by show (if u=S.m then some ls else S.L u)=none;rw [g];exact hl),fun ls' hls=>g2 ls' (by show (if u=S.m then some ls else S.L u)=some ls';rw [g];exact hls)⟩
  exact oP hm ha fun u s hu=>⟨(h.dom u s hu).1,(h.dom u s hu).2.2.2⟩
theorem Kn.Inv.aQ (h:S.Inv) (ls:List Lb):(S.aQ ls).Inv:=by
 have yQ:∀x,x<S.m->(S.aQ ls).L x=S.L x:=fun x hx=>by
  show (if x=S.m then some ls else S.L x)=S.L x;rw [if_neg (by omega)]
 have hLm:(S.aQ ls).L S.m=some ls:=by
  show (if S.m=S.m then some ls else S.L S.m)=some ls;rw [if_pos rfl]
 have hLn:∀n,(S.aQ ls).L n=none->S.L n=none/\n≠S.m:=fun n hn=>by
  have hne:n≠S.m:=by
   rintro rfl;rw [hLm] at hn
   cases hn
  have hn:(if n=S.m then some ls else S.L n)=none:=hn;rw [if_neg hne] at hn;exact ⟨hn,hne⟩
 have hLs:∀p ls',(S.aQ ls).L p=some ls'->p≠S.m->S.L p=some ls'/\p<S.m:=fun p ls' hp hne=>by
  have hp:(if p=S.m then some ls else S.L p)=some ls':=hp;rw [if_neg hne] at hp;refine ⟨hp,?_⟩;apply aax;intro hge;rw [h.new p (by omega)] at hp
  cases hp
 have VQ:=h.unk S.m (h.free (aa1 _));refine ⟨fun u s hu=>?_,fun u s ls' hu hls=>?_,fun x hx=>?_,⟨⟨fun n hn=>h.wf.ok.v n (hLn n hn).1,fun p ls' hp=>?_⟩,fun n hn=>?_,fun p ls' hp=>?_⟩,fun u s hu=>?_,h.unk,⟨fun n hn hl=>?_,fun p ls' hp hls=>?_⟩,fun τ hτ hmod s hs=>?_⟩
 ·obtain ⟨a,b,c,d⟩:=h.dom u s hu
  exact ⟨by show u<S.m+1;omega,vY yQ _ d b,c,gQ (by show S.m<=S.m+1;omega) _ d⟩
 ·obtain ⟨a,b,c,d⟩:=h.dom u s hu
  rw [yQ u a] at hls;obtain ⟨r1,r2,r3,r4⟩:=h.row u s ls' hu hls;refine ⟨r1,r2,r3,fun q hq=>?_⟩;obtain ⟨kG,k1,k2⟩:=r4 q hq;refine ⟨kG,?_,k2⟩;obtain ⟨k,n,fs,tl⟩:=s;rw [iJ] at d;rw [yQ q (d.2.1 q hq)];exact k1
 ·have hx:S.m+1<=x:=hx
  show (if x=S.m then some ls else S.L x)=none;rw [if_neg (by omega)];exact h.new x (by omega)
 ·by_cases e:p=S.m
  ·subst e
   show dY (S.σ.t S.m).1/\(∀l∈ay (S.σ.t S.m).1,l∉ls')/\∀q∈(S.σ.t S.m).1,iO q.2/\jT q.2;rw [VQ.2];exact ⟨by simp [dY],fun l hl=>by simp [ay] at hl,fun q hq=>by simp at hq⟩
  ·exact h.wf.ok.t p ls' (hLs p ls' hp e).1
 ·by_cases hx:n<S.m
  ·exact vY yQ _ (h.bd.v n hx (hLn n hn).1) (h.wf.v n (hLn n hn).1)
  ·show dQ _ (S.σ.v n)
   rw [(h.unk n (h.free (by omega))).1];exact pV hn
 ·by_cases e:p=S.m
  ·subst e
   show (∀q∈(S.σ.t S.m).1,_)/\∀q,(S.σ.t S.m).2=some q->_;rw [VQ.2];refine ⟨fun q hq=>by simp at hq,fun q hq=>?_⟩;simp only [Option.some.injEq] at hq;subst hq;refine ⟨ls',hp,fun l hl=>hl,fun l hl=>?_⟩;have hl:l∈ay (S.σ.t S.m).1:=hl;rw [VQ.2] at hl;simp [ay] at hl
  ·obtain ⟨hls,hlt⟩:=hLs p ls' hp e
   obtain ⟨w1,w2⟩:=h.wf.t p ls' hls;obtain ⟨b1,b2⟩:=h.bd.t p ls' hlt hls;refine ⟨fun q hq=>vY yQ _ (b1 q hq) (w1 q hq),fun q hq=>?_⟩;obtain ⟨kG,k1,k2⟩:=w2 q hq;exact ⟨kG,by rw [yQ q (b2 q hq)];exact k1,k2⟩
 ·obtain ⟨a,b,c,d⟩:=h.dom u s hu
  rw [yQ u a];exact h.model u s hu
 ·by_cases hx:n<S.m
  ·exact gQ (by show S.m<=S.m+1;omega) _ (h.bd.v n hx (hLn n hl).1)
  ·have hn:n<S.m+1:=hn
   exact absurd (show n=S.m by omega) (hLn n hl).2
 ·by_cases e:p=S.m
  ·subst e
   show (∀q∈(S.σ.t S.m).1,_)/\∀q,(S.σ.t S.m).2=some q->_;rw [VQ.2];refine ⟨fun q hq=>by simp at hq,fun q hq=>?_⟩;simp only [Option.some.injEq] at hq;subst hq;exact hp
  ·obtain ⟨hls,hlt⟩:=hLs p ls' hls e
   obtain ⟨b1,b2⟩:=h.bd.t p ls' hlt hls;exact ⟨fun q hq=>gQ (by show S.m<=S.m+1;omega) _ (b1 q hq),fun q hq=>by have:=b2 q hq;show q<S.m+1;omega⟩
 ·obtain ⟨⟨o0,m0⟩,a0⟩:=Kn.zR (ls:=ls) h ⟨hτ,hmod⟩
  show inst τ (inst S.σ s)=inst τ s;rw [j5];refine xU (L:=(S.aQ ls).L) (fun n hn=>?_) (fun p ls' hp=>?_) s hs
  ·show inst τ (S.σ.v n)=τ.v n
   obtain ⟨hl,hne⟩:=hLn n hn;by_cases hx:n<S.m
   ·have:=h.gen _ o0 m0 (aS n) (pV hl)
    rw [aW,aW] at this;rw [a0.inst _ (h.bd.v n hx hl),this];exact (a0 n hx).1.symm
   ·rw [(h.unk n (h.free (by omega))).1,aW]
  ·by_cases e:p=S.m
   ·subst e
    show (aZ (aI _ (S.σ.t S.m).1++(τ.tail (S.σ.t S.m).2).1),(τ.tail (S.σ.t S.m).2).2)=τ.t S.m;rw [VQ.2];show (aZ ([]++(τ.t S.m).1),(τ.t S.m).2)=τ.t S.m;rw [RU,dh (hτ.t S.m ls' hp).1]
   ·obtain ⟨hls,hlt⟩:=hLs p ls' hp e
    have h1:=h.gen _ o0 m0 (SE p) (abI hls);rw [Oi h.wf.ok hls,Oi o0 hls,aK,if_neg (by decide)] at h1;obtain ⟨b1,b2⟩:=h.bd.t p ls' hlt hls;rw [<-a0.tail b2,<-qK fun q hq=>a0.inst _ (b1 q hq)] at h1;injection h1 with _ _ h1 h2
    show (aZ (aI _ (S.σ.t p).1++(τ.tail (S.σ.t p).2).1),(τ.tail (S.σ.t p).2).2)=τ.t p;rw [h1,h2];rfl
theorem Kn.qw (h:S.Inv) (ls:List Lb):S.Le (S.aQ ls):=
 ⟨by show S.m<=S.m+1;omega,fun _ _ hu=>hu,fun x hx=>by
  show (if x=S.m then some ls else S.L x)=S.L x;rw [if_neg (by omega)],fun τ hτ=>⟨_,Kn.zR h hτ⟩⟩
theorem Kn.Inv.xW (h:S.Inv) {ls:List Lb} {τ:Va} (hτ:S.Sat τ) {R:Fl} {tl:Option Int} (hR:dY R) (hd:∀l∈ay R,l∉ls) (hs:∀q∈R,iO q.2/\jT q.2):
  (S.aQ ls).Sat (τ.jh S.m (R,tl))/\Alike S.m τ (τ.jh S.m (R,tl)):=by
 have ha:Alike S.m τ (τ.jh S.m (R,tl)):=fun x hx=>⟨rfl,by
  show τ.t x=if x=S.m then _ else τ.t x
  rw [if_neg (by omega)]⟩
 refine ⟨⟨⟨fun n hn=>hτ.1.v n ?_,fun p ls' hp=>?_⟩,fun u s hu=>?_⟩,ha⟩
 ·have hn:(if n=S.m then some ls else S.L n)=none:=hn
  split at hn
  ·cases hn
  ·exact hn
 ·have hp:(if p=S.m then some ls else S.L p)=some ls':=hp
  show dY (if p=S.m then (R,tl) else τ.t p).1/\(∀l∈ay (if p=S.m then (R,tl) else τ.t p).1,l∉ls')/\∀q∈(if p=S.m then (R,tl) else τ.t p).1,iO q.2/\jT q.2;split at hp
  ·next e=>
   injection hp with hp
   subst hp;rw [if_pos e];exact ⟨hR,hd,hs⟩
  ·next e=>
   rw [if_neg e];exact hτ.1.t p ls' hp
 ·have VQ:=(h.dom u s hu).1
  have g:(S.aQ ls).L u=S.L u:=by
   show (if u=S.m then some ls else S.L u)=S.L u;rw [if_neg (by omega)]
  rw [g];exact oP hτ.2 ha (fun u s hu=>⟨(h.dom u s hu).1,(h.dom u s hu).2.2.2⟩) u s hu
end
theorem Zo {L:Sorts} {p:Int} {X:Fl×Option Int}:∀t,dQ L t->jT t->¬bL p t->inst (Va.id.jh p X) t=t:=
 Ut.ind fun k n fs tl ih ho hr h=>by
  rw [bK] at ho;rw [iI] at hr;rw [nD] at h;rw [aK];split
  ·next hk=>
   obtain ⟨e1,e2⟩:=ho.1.2.1 (.inr hk);subst e1 e2 hk;rfl
  ·have e:(Va.id.jh p X).tail tl=([],tl):=by
    cases tl with
    |none=>rfl
    |some q=>
     show (if q=p then X else ([],some q))=_;rw [if_neg];rintro rfl;exact h (.inr (.inl rfl))
   rw [e,Fq fun q hq=>ih q hq (ho.2 q hq) (hr.2 q hq) fun hc=>h (.inr (.inr ⟨q,hq,hc⟩)),ER,dh hr.1]
def Kn.aV (S:Kn) (p:Int) (t:Ut):Kn:=
 ⟨upd S.κ p (aH S.m t).1,S.L,(Va.id.jh p ((inst S.σ (aH S.m t).1).fs,(inst S.σ (aH S.m t).1).tl)).comp S.σ,(aH S.m t).2⟩
theorem oQ {m:Int} {t:Ut} (hk:t.k≠0):(aH m t).1.k=t.k/\(aH m t).1.n=t.n/\ay (aH m t).1.fs=ay t.fs/\(aH m t).1.tl=t.tl:=by
 obtain ⟨k,n,fs,tl⟩:=t;have hk:k≠0:=hk;rw [fF,if_neg hk];exact ⟨rfl,rfl,jg fs m,rfl⟩
structure iK (S:Kn) (p:Int) (ls:List Lb) (t:Ut):Prop where
 k8:t.k≠8
 k0:t.k≠0
 n:t.n=0
 d:∀l∈ay t.fs,l∉ls
 q:∀q,t.tl=some q->q≠p/\S.κ q=none/\∃ls',S.L q=some ls'/\∀l∈ls,l∈ls'
 ok:dQ S.L t
 bd:jf S.m t
section
variable {S:Kn} {p:Int} {ls:List Lb} {t:Ut}
theorem iK.inst (h:S.Inv) (r:iK S p ls t):∃F,Proofs.Ytblfeokjlecgkaa.inst S.σ (aH S.m t).1= .mk t.k 0 F t.tl/\∀l,l∈ay F->l∉ls:=by
 obtain ⟨e1,e2,e3,e4⟩:=oQ (m:=S.m) r.k0;generalize (aH S.m t).1=t' at*;obtain ⟨k,n,fs,tl⟩:=t';have e1:k=t.k:=e1;have e2:n=t.n:=e2;have e3:ay fs=ay t.fs:=e3;have e4:tl=t.tl:=e4
 have ht:S.σ.tail tl=([],tl):=by
  cases tl with
  |none=>rfl
  |some q=>
   obtain ⟨_,h2,_⟩:=r.q q e4.symm;exact (h.unk q h2).2
 refine ⟨aZ (aI (Proofs.Ytblfeokjlecgkaa.inst S.σ) fs++[]),by rw [aK,if_neg (by rw [e1];exact r.k8),ht,<-e4,e1,e2,r.n],fun l hl=>?_⟩;rw [kI,dZ,fJ] at hl;rcases JQ.1 hl with hl|hl
 ·exact r.d l (by show l∈ay t.fs;rw [<-e3];exact hl)
 ·simp [ay] at hl
theorem Kn.Inv.aV (h:S.Inv) (hp:S.κ p=none) (hl:S.L p=some ls) (hpm:p<S.m) (r:iK S p ls t) (oh:¬bL p (inst S.σ (aH S.m t).1)):(S.aV p t).Inv:=by
 obtain ⟨hm,ho',hs',hb'⟩:=jX t S.m ⟨r.ok,r.bd,h.new⟩;obtain ⟨F,hF,hFd⟩:=r.inst h;obtain ⟨e1,e2,e3,e4⟩:=oQ (m:=S.m) r.k0;have hR:=rJ h.wf _ ho';have hRs:=rH h.wf.ok _ ho' hs';have hRr:=yN h.wf.ok _ ho';have hRb:=yO (h.BK hm) _ ho' hb'
 have hS:S.aV p t=⟨upd S.κ p (aH S.m t).1,S.L,(Va.id.jh p (F,t.tl)).comp S.σ,(aH S.m t).2⟩:=by
  unfold Kn.aV;rw [hF];rfl
 have hno:=Zo (X:=(F,t.tl)) _ hR hRr oh;rw [hF] at hR hRs hRr hRb oh hno;rw [bK] at hR;rw [gP] at hRs;rw [iI] at hRr;rw [iJ] at hRb
 have hβ:(Va.id.jh p (F,t.tl)).Wf S.L:=by
  refine ⟨⟨(Ew S.L).ok.v,fun q ls' hq=>?_⟩,(Ew S.L).v,fun q ls' hq=>?_⟩
  ·show dY (if q=p then (F,t.tl) else _).1/\(∀l∈ay (if q=p then (F,t.tl) else _).1,l∉ls')/\∀x∈(if q=p then (F,t.tl) else _).1,_
   by_cases e:q=p
   ·rw [if_pos e]
    subst e;rw [hl] at hq;injection hq with hq
    subst hq;exact ⟨hRr.1,hFd,fun x hx=>⟨hRs.2 x hx,hRr.2 x hx⟩⟩
   ·rw [if_neg e]
    exact (Ew S.L).ok.t q ls' hq
  ·show (∀x∈(if q=p then (F,t.tl) else _).1,_)/\∀s,(if q=p then (F,t.tl) else _).2=some s->∃kG,S.L s=some kG/\(∀l∈ls',l∈kG)/\∀l∈ay (if q=p then (F,t.tl) else _).1,l∈kG
   by_cases e:q=p
   ·rw [if_pos e]
    subst e;rw [hl] at hq;injection hq with hq
    subst hq;refine ⟨hR.2,fun s hs=>?_⟩;obtain ⟨_,_,kG,k1,k2⟩:=r.q s hs;obtain ⟨ls3,k3,k4⟩:=hR.1.2.2.2.2 s hs;rw [k1] at k3;injection k3 with k3
    subst k3;exact ⟨kG,k1,k2,k4⟩
   ·rw [if_neg e]
    exact (Ew S.L).t q ls' hq
 rw [hS];have hne:∀u s,S.κ u=some s->u≠p:=fun u s hu e=>by rw [e,hp] at hu;cases hu
 refine ⟨fun u s hu=>?_,fun u s ls' hu hls=>?_,fun x hx=>h.new x (aa4 hm hx),SF hβ h.wf,fun u s hu=>?_,fun u hu=>?_,SG ?_ (h.BK hm) h.wf,fun τ hτ hmod s hs=>?_⟩
 ·have hu:upd S.κ p (aH S.m t).1 u=some s:=hu
  by_cases e:u=p
  ·subst e
   rw [upd_same] at hu;injection hu with hu
   subst hu;exact ⟨aa3 hpm hm,ho',hs',hb'⟩
  ·rw [bQ e] at hu
   obtain ⟨a,b,c,d⟩:=h.dom u s hu;exact ⟨aa3 a hm,b,c,gQ hm _ d⟩
 ·have hls:S.L u=some ls':=hls
  have hu:upd S.κ p (aH S.m t).1 u=some s:=hu;by_cases e:u=p
  ·subst e
   rw [upd_same] at hu;injection hu with hu
   subst hu;rw [hl] at hls;injection hls with hls
   subst hls;refine ⟨by rw [e1];exact r.k8,by rw [e1];exact r.k0,fun l hl2=>r.d l (by rw [<-e3];exact hl2),fun q hq=>?_⟩;obtain ⟨_,_,kG,k1,k2⟩:=r.q q (by rw [<-e4];exact hq);exact ⟨kG,k1,k2⟩
  ·rw [bQ e] at hu
   exact h.row u s ls' hu hls
 ·have hu:upd S.κ p (aH S.m t).1 u=some s:=hu
  show (S.L u=none->inst _ (S.σ.v u)=inst (Va.comp _ S.σ) s)/\∀ls',S.L u=some ls'->(Va.comp (Va.id.jh p (F,t.tl)) S.σ).t u=((inst (Va.comp (Va.id.jh p (F,t.tl)) S.σ) s).fs,(inst (Va.comp (Va.id.jh p (F,t.tl)) S.σ) s).tl);by_cases e:u=p
  ·subst e
   rw [upd_same] at hu;injection hu with hu
   subst hu;refine ⟨(fun BL=>by rw [hl] at BL;cases BL),(fun ls' hls=>?_)⟩;rw [<-j5,hF,hno];show (aZ (aI _ (S.σ.t u).1++(Va.tail _ (S.σ.t u).2).1),(Va.tail _ (S.σ.t u).2).2)=(F,t.tl);rw [(h.unk u hp).2];show (aZ ([]++(if u=u then (F,t.tl) else _).1),(if u=u then (F,t.tl) else _).2)=(F,t.tl);rw [if_pos rfl,RU,dh hRr.1]
  ·rw [bQ e] at hu
   obtain ⟨g1,g2⟩:=h.model u s hu;refine ⟨fun BL=>by rw [g1 BL,j5],fun ls' hls=>?_⟩;have h8:=(h.row u s ls' hu hls).1;rw [<-j5];show (aZ (aI _ (S.σ.t u).1++_),_)=_;rw [g2 ls' hls];obtain ⟨k,n,fs,tl⟩:=s;have h8:k≠8:=h8;rw [aK S.σ,if_neg h8];rw [aK _ k,if_neg h8];rfl
 ·have hu:upd S.κ p (aH S.m t).1 u=none:=hu
  have e:u≠p:=fun e=>by rw [e,upd_same] at hu;cases hu
  rw [bQ e] at hu;obtain ⟨g1,g2⟩:=h.unk u hu;refine ⟨?_,?_⟩
  ·show inst _ (S.σ.v u)=_
   rw [g1,aW];rfl
  ·show (aZ (aI _ (S.σ.t u).1++(Va.tail _ (S.σ.t u).2).1),(Va.tail _ (S.σ.t u).2).2)=_
   rw [g2];show (aZ ([]++(if u=p then _ else ([],some u)).1),(if u=p then _ else ([],some u)).2)=_;rw [if_neg e];rfl
 ·refine ⟨fun n hn hln=>yP hn,fun q ls' hq hls=>?_⟩
  show (∀x∈(if q=p then (F,t.tl) else ([],some q)).1,_)/\∀s,(if q=p then (F,t.tl) else ([],some q)).2=some s->_;by_cases e:q=p
  ·rw [if_pos e]
   exact ⟨hRb.2.2,hRb.2.1⟩
  ·rw [if_neg e]
   refine ⟨fun x hx=>by simp at hx,fun s hs=>?_⟩;simp only [Option.some.injEq] at hs;subst hs;exact hq
 ·have KS:Model S.L S.κ τ:=xV hmod fun u s hu=>by
   show upd S.κ p (aH S.m t).1 u=some s;rw [bQ (hne u s hu)];exact hu
  show inst τ (inst (Va.comp _ S.σ) s)=inst τ s;rw [<-j5,j5 τ];rw [xU (L:=S.L) (τ':=τ) (fun n hn=>?_) (fun q ls' hq=>?_) _ (rJ h.wf s hs)]
  ·exact h.gen τ hτ KS s hs
  ·exact aW τ n
  ·show (aZ (aI (inst τ) (if q=p then (F,t.tl) else ([],some q)).1++(τ.tail (if q=p then (F,t.tl) else ([],some q)).2).1),(τ.tail (if q=p then (F,t.tl) else ([],some q)).2).2)=τ.t q
   by_cases e:q=p
   ·rw [if_pos e]
    subst e;have h1:=(hmod q (aH S.m t).1 (upd_same _ _ _)).2 ls' hq;have h2:=h.gen τ hτ KS _ ho';rw [hF,aK,if_neg r.k8] at h2;rw [h1,<-h2];rfl
   ·rw [if_neg e]
    show (aZ ([]++(τ.t q).1),(τ.t q).2)=τ.t q;rw [RU,dh (hτ.t q ls' hq).1]
theorem Kn.xX (hp:S.κ p=none) {τ:Va} (hτ:(S.aV p t).Sat τ):S.Sat τ:=
 ⟨hτ.1,xV hτ.2 fun u s hu=>by
  have e:u≠p:=fun e=>by rw [e,hp] at hu;cases hu
  show upd S.κ p (aH S.m t).1 u=some s;rw [bQ e];exact hu⟩
theorem Kn.vZ (h:S.Inv) (hp:S.κ p=none) (r:iK S p ls t):S.Le (S.aV p t):=
 ⟨(jX t S.m ⟨r.ok,r.bd,h.new⟩).1,fun u s hu=>by
  have e:u≠p:=fun e=>by rw [e,hp] at hu;cases hu
  show upd S.κ p (aH S.m t).1 u=some s;rw [bQ e];exact hu,fun _ _=>rfl,fun τ hτ=>⟨τ,Kn.xX hp hτ,Alike.refl _ _⟩⟩
theorem VR {τ:Va} {k n:Int} {fs:Fl} {tl:Option Int} (h8:k≠8):(inst τ (.mk k n fs tl))= .mk k n (inst τ (.mk k n fs tl)).fs (inst τ (.mk k n fs tl)).tl:=by
 rw [aK,if_neg h8];rfl
theorem Kn.Inv.GK (h:S.Inv) (hl:S.L p=some ls) (r:iK S p ls t) {τ:Va} (hτ:(S.aV p t).Sat τ):Co (.mk t.k 0 (τ.t p).1 (τ.t p).2) (inst τ t):=by
 have h1:=(hτ.2 p _ (upd_same _ _ _)).2 ls hl;have h2:=X0 hτ.1 t S.m r.ok r.bd h.new;obtain ⟨e1,e2,_,_⟩:=oQ (m:=S.m) r.k0;have e3:=r.n;generalize (aH S.m t).1=t' at*;obtain ⟨k,n,fs,tl⟩:=t';rw [h1];have h8:k≠8:=by intro e;exact r.k8 (by rw [<-e1];exact e)
 rw [VR h8] at h2;have hk:k=t.k:=e1;have hn:n=0:=Eq.trans (show n=t.n from e2) e3;rw [hk,hn] at h2;rw [hk,hn];exact h2
theorem Kn.Inv.wO (h:S.Inv) (hp:S.κ p=none) (hl:S.L p=some ls) (hpm:p<S.m) (r:iK S p ls t) {τ:Va} (hτ:S.Sat τ) (hc:Co (.mk t.k 0 (τ.t p).1 (τ.t p).2) (inst τ t)):
  ∃τ',(S.aV p t).Sat τ'/\Alike S.m τ τ':=by
 obtain ⟨a,b,c⟩:=hτ.1.t p ls hl;obtain ⟨τ',e,i⟩:=fill t S.m τ _ hτ.1 r.ok r.bd h.new hc (by rw [gP];exact ⟨r.k0,fun q hq=>(c q hq).1⟩) (by rw [iI];exact ⟨a,fun q hq=>(c q hq).2⟩);refine ⟨τ',⟨e.ok,fun u s hu=>?_⟩,e.lo⟩;have hu:upd S.κ p (aH S.m t).1 u=some s:=hu;by_cases eu:u=p
 ·subst eu
  rw [upd_same] at hu;injection hu with hu
  subst hu;refine ⟨fun BL=>?_,fun ls' hls=>?_⟩
  ·have BL:S.L u=none:=BL
   rw [hl] at BL
   cases BL
  ·rw [i,<-(e.lo u hpm).2]
   rfl
 ·rw [bQ eu] at hu
  exact oP hτ.2 e.lo (fun u s hu=>⟨(h.dom u s hu).1,(h.dom u s hu).2.2.2⟩) u s hu
theorem Kn.Inv.BM (h:S.Inv) (hl:S.L p=some ls) (hpm:p<S.m) (r:iK S p ls t) (oh:bL p (inst S.σ (aH S.m t).1)) {τ:Va} (hτ:S.Sat τ):¬Co (.mk t.k 0 (τ.t p).1 (τ.t p).2) (inst τ t):=fun hc=>by
 obtain ⟨a,b,c⟩:=hτ.1.t p ls hl;obtain ⟨τ',e,i⟩:=fill t S.m τ _ hτ.1 r.ok r.bd h.new hc (by rw [gP];exact ⟨r.k0,fun q hq=>(c q hq).1⟩) (by rw [iI];exact ⟨a,fun q hq=>(c q hq).2⟩);obtain ⟨hm,ho',hs',hb'⟩:=jX t S.m ⟨r.ok,r.bd,h.new⟩;obtain ⟨F,hF,_⟩:=r.inst h;have hR:=rJ h.wf _ ho';have h1:=h.gen τ' e.ok (oP hτ.2 e.lo fun u s hu=>⟨(h.dom u s hu).1,(h.dom u s hu).2.2.2⟩) _ ho';rw [hF] at h1 oh hR;rw [i,aK,if_neg r.k8,(e.lo p hpm).2] at h1;injection h1 with _ _ h1 _
 have h2:=congrArg nQ h1;rw [zQ (eT _),rO] at h2;rw [bK] at hR;rw [nD] at oh;rcases oh with ⟨hk,_⟩|ht|⟨q,hq,hoc⟩
 ·exact r.k8 hk
 ·exact (r.q p ht).1 rfl
 ·have h3:=VN (τ:=τ') hl _ (hR.2 q hq) hoc
  have h4:gL (inst τ' q.2)<=nQ (aI (inst τ') F):=tO (p:=(q.1,inst τ' q.2)) (aaN.2 ⟨q,hq,rfl⟩);omega
end
end Go.Proofs.Ytblfeokjlecgkaa
