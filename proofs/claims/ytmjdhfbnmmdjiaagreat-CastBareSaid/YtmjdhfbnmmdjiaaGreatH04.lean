/- Laid together by a tool from the texts of this seat: RightEq Print Pure PEnd Shelf. Conditions: each theorem's own. -/
import Derived.Test.YtmjdhfbnmmdjiaaGreatH03
import Derived.Lib.ItoaNum
import Derived.Lib.ItoaLen
import Derived.Shelf.Small.Bits
import Derived.Shelf.Strconv.Itoa0
import Derived.Shelf.Sort.Plain
import Derived.Shelf.Slices.Equal
import Derived.Shelf.Slices.In.SortNone
import Derived.Shelf.Slices.Empties2
import Derived.Ground.SlsfProg
import Derived.Shelf.SlSortCmp.Insertion
import Derived.Shelf.SlSortCmp.SiftDown1
import Derived.Shelf.SlSortCmp.HeapSort1
import Derived.Shelf.SlSortCmp.Insertion1
import Derived.Shelf.SlSortCmp.Median1
import Derived.Shelf.SlSortCmp.Pivot1
import Derived.Shelf.SlSortCmp.ReverseRange1
import Derived.Shelf.SlSortCmp.PartialInsertion1
import Derived.Shelf.SlSortCmp.PartitionEqual1
import Derived.Shelf.SlSortCmp.Partition1
import Derived.Shelf.SlSortCmp.Pdq1
import Derived.Shelf.SlSortCmp.Whole1
import Derived.Shelf.SlSortCmp.NoneTotal
import Derived.Test.YtmjdhfbnmmdjiaaGreatProg
import Derived.Shelf.Spec.SlicesGrow
import Derived.Ground.Names8Prog
set_option maxHeartbeats 8000000
set_option maxRecDepth 100000
namespace Go.Proofs.YtmjdhfbnmmdjiaaGreat
open _root_.ByteArray renaming empty->dQ
open _root_.List renaming append_assoc->kV,length_append->lS,singleton_append->lW,append_nil->mO,drop_zero->nE,length_cons->oG,drop_drop->oO,mem_append->pU,getElem?_append_right->kg,mem_cons->qm,all_eq_true->qz
open _root_.Bool renaming and_eq_true->eZ,eq_iff_iff->dL,or_eq_true->nZ,true_and->f_
open Go.Lib renaming hid->aB
open Go.ByteArray renaming toList_eq->dA
theorem lq:∀(x y:List UInt8),Op.bytesLess x y=decide (x<y)
 |[],[]=>by simp [Op.bytesLess]
 |_::_,[]=>by simp [Op.bytesLess]
 |[],_::_=>by simp [Op.bytesLess]
 |a::x,b::y=>by
  rw [Op.bytesLess,lq x y];simp only [List.cons_lt_cons_iff];by_cases h1:a<b<;>by_cases h2:a=b<;>by_cases h3:x<y<;>simp [h1,h2,h3]
theorem O9 (a b:ByteArray):leS a b= !Op.bytesLess b.toList a.toList:=by
 unfold leS;rw [lq,lq,dL];simp only [nZ,decide_eq_true_eq,beq_iff_eq,Bool.not_eq_true',decide_eq_false_iff_not];rw [List.not_lt,List.le_iff_lt_or_eq]
theorem tO {k:Int} {s:ByteArray} (hr:bF k=true) (hl:bP k s=true):s.toList≠[]:=by
 intro he;rw [dA] at he;simp only [bF,nZ,beq_iff_eq] at hr;rcases hr with rfl|rfl
 ·simp [bP,oJ,he,lY] at hl
 ·simp [bP,uU,he,lY] at hl
theorem AO {x y p:Nd} {k n:Nat} {last:ByteArray} (hx:dP x.k x.n=true) (hn:n=manyN x) (hk:k<n) (h0:k=0->last=dQ) (hp:0<k->p.s=last):
  ig x y p k n=yF x k last y:=by
 have hm:=kC hx;unfold ig yF;by_cases h9:y.k=9
 ·rw [if_pos h9,if_pos h9]
  cases hr:bF x.k
  ·simp
  ·have hmn:many x.k x.n=x.n:=by
    unfold many;rw [if_neg (by rintro h5;rw [h5] at hr;simp [bF] at hr),if_pos hr]
   rw [hmn] at hm
   have:decide (k+1=n)= !decide ((k:Int)<x.n-1):=by
    rw [dL];simp;omega
   rw [this]
 ·rw [if_neg h9,if_neg h9]
  cases hl:bP x.k y.s
  ·simp
  ·cases hr:bF x.k
   ·simp
   ·simp only [f_]
    congr 1
    rw [O9];by_cases hk0:0<k
    ·rw [hp hk0]
     simp [hk0]
    ·have hk0':k=0:=by omega
     rw [h0 hk0'];have hpos:=tO hr hl;have he:dQ.toList=[]:=by rw [dA];rfl
     rw [he]
     cases hy:y.s.toList with
     |nil=>exact absurd hy hpos
     |cons c cs=>simp [hk0',Op.bytesLess]
theorem V8:∀(ps:List Nd) (n p:Nat) (ys:List Nd),bC ps->Fo (n+1) ps->endGo (ps++ys) ((n+1:Nat):Int) p=p+ps.length:=by
 intro ps
 induction ps with
 |nil=>intro n p ys _ h;cases h
 |cons x ps ih=>
  intro n p ys hok h;have h':skip ps (n+manyN x)=some []:=h;have hm:=kC (hok x (by simp));simp only [List.cons_append,endGo];rw [hm];by_cases hz:n+manyN x=0
  ·rw [if_pos (by omega)]
   rw [hz,iX] at h';injection h' with h'
   subst h';simp
  ·rw [if_neg (by omega)]
   obtain ⟨m,hm'⟩:∃m,n+manyN x=m+1:=⟨n+manyN x-1,by omega⟩;rw [hm'] at h';have:=ih m (p+1) ys (fun y hy=>hok y (by simp [hy])) h';rw [show (((n+1:Nat):Int)-1+(manyN x:Int))=((m+1:Nat):Int) by omega,this];simp only [oG];omega
theorem iY {T ts rest:List Nd} {i:Nat} (h:T.drop i=ts++rest) (hok:bC ts) (hf:Fo 1 ts):endGo (T.drop i) 1 i=i+ts.length:=by
 rw [h];exact V8 ts 0 i rest hok hf
theorem iD {T ts rest:List Nd} {i:Nat} (h:T.drop i=ts++rest):T.drop (i+ts.length)=rest:=by
 rw [<-oO,h,List.drop_left]
theorem lC {T ts rest:List Nd} {i:Nat} (h:T.drop i=ts++rest) (hp:0<ts.length):i<T.length:=by
 have:=congrArg List.length h;rw [List.length_drop,lS] at this;omega
theorem jP {T rest:List Nd} {i:Nat} {x:Nd} (h:T.drop i=x::rest):T[i]?=some x:=by
 have:(T.drop i)[0]?=some x:=by rw [h];rfl
 rwa [List.getElem?_drop,Nat.add_zero] at this
def qJ:List Int->List Int
 |[]=>[]
 |b::r=>settle r (b-1)
theorem uX (st:List Int) (n:Nat):settle st (n:Int)=if n=0 then qJ st else (n:Int)::st:=by
 cases st with
 |nil=>
  simp only [settle,qJ];by_cases h:n=0
  ·subst h;simp
  ·rw [if_neg (by omega),if_neg h]
 |cons b r=>
  simp only [settle,qJ];by_cases h:n=0
  ·subst h;simp
  ·rw [if_neg (by omega),if_neg h]
structure UY (T:List Nd) (f i j:Nat) (ts rest:List Nd):Prop where
 at_:T.drop i=ts++rest
 ej:j=i+ts.length
 fo:Fo 1 ts
 ok:bC ts
 lab:∀p,i<=p->p<j->gM T p=true
 sh:∀st:List Int,st.length+f=100->dI (T.drop i) st=dI rest (qJ st)
theorem MJ {T:List Nd} {f:Nat} (ih:∀i j,eG T f i=some j->∃ts rest,UY T f i j ts rest) (x:Nd) (hx:dP x.k x.n=true):
  ∀(todo k:Nat) (last:ByteArray) (at_ j:Nat),jU (eG T f) T x todo k last at_=some j->k+todo=manyN x->(k=0->last=dQ)->
   ∃ks rest,T.drop at_=ks++rest/\j=at_+ks.length/\Fo todo ks/\bC ks/\(∀p,at_<=p->p<j->gM T p=true)/\
    (∀st:List Int,st.length+(f+1)=100->dI (T.drop at_) (settle st (todo:Int))=dI rest (qJ st))/\
    (aV T todo at_).length=todo/\
    (∀pre:List Nat,pre.length=k->(0<k->(xW T (pre++aV T todo at_) (k-1)).s=last)->lg T x (pre++aV T todo at_) todo k=true):=by
 intro todo
 induction todo with
 |zero=>
  intro k last at_ j h hk h0;simp only [jU,Option.some.injEq] at h;subst h;refine ⟨[],T.drop at_,rfl,rfl,rfl,(fun x hx=>by cases hx),(fun p h1 h2=>by omega),fun st _=>?_,rfl,fun pre _ _=>rfl⟩
  rw [uX,if_pos rfl]
 |succ todo YP=>
  intro k last at_ j h hk h0;simp only [jU] at h;split at h
  ·cases h
  ·rename_i y hy
   split at h
   ·rename_i hc
    split at h
    ·cases h
    ·rename_i at' htr
     obtain ⟨ts,rest,ht⟩:=ih _ _ htr;have hjt:=ht.ej;subst hjt;obtain ⟨ks,rest',h1,h2,h3,h4,h5,h6,h7,h8⟩:=YP (k+1) y.s _ j h (by omega) (fun h=>by omega);have hrest:rest=ks++rest':=by rw [<-h1,iD ht.at_]
     have hlt:at_<T.length:=aP hy;have hend:=iY ht.at_ ht.ok ht.fo;have hkg:aV T (todo+1) at_=at_::aV T todo (at_+ts.length):=by rw [eH hlt,hend]
     refine ⟨ts++ks,rest',by rw [ht.at_,hrest,kV],by rw [h2,lS];omega,?_,?_,?_,?_,?_,?_⟩
     ·rw [Nat.add_comm];exact ht.fo.append h3
     ·intro z hz
      rcases pU.1 hz with hz|hz
      ·exact ht.ok z hz
      ·exact h4 z hz
     ·intro p hp1 hp2
      by_cases hp:p<at_+ts.length
      ·exact ht.lab p hp1 hp
      ·exact h5 p (by omega) hp2
     ·intro st hst
      rw [uX,if_neg (by omega),ht.sh (((todo+1:Nat):Int)::st) (by simp;omega),<-h6 st hst,h1,hrest];simp only [qJ]
      congr 2
      omega
     ·rw [hkg];simp [h7]
     ·intro pre hpre Gv
      rw [hkg] at Gv ⊢;have hlen:(pre++at_::aV T todo (at_+ts.length)).length=manyN x:=by simp [h7];omega
      have hnd:xW T (pre++at_::aV T todo (at_+ts.length)) k=y:=by
       unfold xW;rw [kg (by omega)];simp [hpre,hy]
      have hrec:=h8 (pre++[at_]) (by simp [hpre]) (fun _=>by
       rw [kV,lW,Nat.add_sub_cancel,hnd])
      rw [kV,lW] at hrec;simp only [lg];rw [hrec,hnd,hlen,AO hx rfl (by omega) h0 Gv,hc];rfl
   ·cases h
theorem sN {T:List Nd}:∀(f i j:Nat),eG T f i=some j->∃ts rest,UY T f i j ts rest:=by
 intro f
 induction f with
 |zero=>intro i j h;cases h
 |succ f ih=>
  intro i j h;simp only [eG] at h;split at h
  ·cases h
  ·rename_i x hx
   split at h
   ·rename_i hok
    have hmn:(many x.k x.n).toNat=manyN x:=rfl;rw [hmn] at h;obtain ⟨ks,rest,h1,h2,h3,h4,h5,h6,h7,h8⟩:=MJ ih x hok (manyN x) 0 dQ (i+1) j h (by omega) (fun _=>rfl);have hd:T.drop i=x::T.drop (i+1):=drop_cons hx;refine ⟨x::ks,rest,⟨by rw [hd,h1];rfl,by rw [h2];simp;omega,?_,?_,?_,?_⟩⟩
    ·have:=Fo.cons (n:=0) h3 Fo.zero
     rwa [mO] at this
    ·intro z hz
     rcases qm.1 hz with rfl|hz
     ·exact hok
     ·exact h4 z hz
    ·intro p hp1 hp2
     by_cases hp:p=i
     ·subst hp
      unfold gM;rw [hx]
      have hkr:eu T (p:Int)=aV T (manyN x) (p+1):=by
       unfold eu;rw [if_neg (by omega)];simp [hx,manyN]
      simp only [hkr];rw [h7,kC hok];have:=h8 [] rfl (fun h=>by omega);rw [List.nil_append] at this;rw [this];simp
     ·exact h5 p (by omega) hp2
    ·intro st hst
     rw [hd];simp only [dI,mX];rw [if_neg (by omega),kC hok];exact h6 st hst
   ·cases h
theorem RU {T:List Nd} (hok:bC T) (hlab:∀p,p<T.length->gM T p=true):
  ∀(n i:Nat),T.length-i<=n->i<T.length->∃ts rest,T.drop i=ts++rest/\Fo 1 ts/\bC ts:=by
 intro n
 induction n with
 |zero=>intro i h1 h2;omega
 |succ n ih=>
  intro i h1 h2;obtain ⟨x,hx⟩:=aJ h2;have hl:=hlab i h2;unfold gM at hl;rw [hx] at hl
  have hkr:eu T (i:Int)=aV T (manyN x) (i+1):=by
   unfold eu;rw [if_neg (by omega)];simp [hx,manyN]
  simp only [hkr,eZ,decide_eq_true_eq] at hl;have hlen:=hl.1;rw [kC (hok x (gH hx))] at hlen
  have key:∀(todo at_:Nat),i<at_->(aV T todo at_).length=todo->∃ks rest,T.drop at_=ks++rest/\Fo todo ks/\bC ks:=by
   intro todo
   induction todo with
   |zero=>intro at_ _ _;exact ⟨[],_,rfl,rfl,fun z hz=>by cases hz⟩
   |succ todo YP=>
    intro at_ ha hk;by_cases hlt:at_<T.length
    ·obtain ⟨ts,rest,h3,h4,h5⟩:=ih at_ (by omega) hlt
     rw [eH hlt,iY h3 h5 h4] at hk;obtain ⟨ks,rest',h6,h7,h8⟩:=YP (at_+ts.length) (by omega) (by simpa using hk);rw [iD h3] at h6;refine ⟨ts++ks,rest',by rw [h3,h6,kV],by rw [Nat.add_comm];exact h4.append h7,?_⟩;intro z hz;rcases pU.1 hz with hz|hz
     ·exact h5 z hz
     ·exact h8 z hz
    ·rw [ES hlt] at hk
     cases hk
  obtain ⟨ks,rest,h3,h4,h5⟩:=key (manyN x) (i+1) (by omega) (by omega);refine ⟨x::ks,rest,by rw [drop_cons hx,h3];rfl,?_,?_⟩
  ·have:=Fo.cons (n:=0) h4 Fo.zero
   rwa [mO] at this
  ·intro z hz
   rcases qm.1 hz with rfl|hz
   ·exact hok _ (gH hx)
   ·exact h5 z hz
theorem iK {a b:List Nd} (h:bC (a++b)):bC a:=fun x hx=>h x (by simp [hx])
theorem je {a b:List Nd} (h:bC (a++b)):bC b:=fun x hx=>h x (by simp [hx])
theorem O_ {T:List Nd} {f:Nat}
  (ih:∀(i:Nat) (ts rest:List Nd) (st:List Int),T.drop i=ts++rest->Fo 1 ts->st.length+f=100->eG T f i=some (i+ts.length)\/dI (T.drop i) st=false) (x:Nd) (hx:dP x.k x.n=true):
  ∀(todo k:Nat) (last:ByteArray) (at_:Nat) (ks rest:List Nd) (pre:List Nat) (st:List Int),T.drop at_=ks++rest->Fo todo ks->bC ks->k+todo=manyN x->(k=0->last=dQ)->pre.length=k->
   (0<k->(xW T (pre++aV T todo at_) (k-1)).s=last)->lg T x (pre++aV T todo at_) todo k=true->st.length+(f+1)=100->
   jU (eG T f) T x todo k last at_=some (at_+ks.length)\/dI (T.drop at_) (settle st (todo:Int))=false:=by
 intro todo
 induction todo with
 |zero=>
  intro k last at_ ks rest pre st hd hf _ _ _ _ _ _ _;have:=hf.fK;subst this
  exact .inl rfl
 |succ todo YP=>
  intro k last at_ ks rest pre st hd hf Pb hk h0 hpre Gv hlab hst;obtain ⟨ts,ks',rfl,hts,hks⟩:=hf.first;have hd':T.drop at_=ts++(ks'++rest):=by rw [hd,kV]
  have hlt:at_<T.length:=lC hd' hts.pos;obtain ⟨y,hy⟩:=aJ hlt;have hend:=iY hd' (iK Pb) hts;have hkg:aV T (todo+1) at_=at_::aV T todo (at_+ts.length):=by rw [eH hlt,hend]
  rw [hkg] at Gv hlab
  have hnd:xW T (pre++at_::aV T todo (at_+ts.length)) k=y:=by
   unfold xW;rw [kg (by omega)];simp [hpre,hy]
  have afd:(aV T todo (at_+ts.length)).length=todo:=by
   have key:∀(todo at_:Nat) (ks rest:List Nd),T.drop at_=ks++rest->Fo todo ks->bC ks->(aV T todo at_).length=todo:=by
    intro todo
    induction todo with
    |zero=>intro _ _ _ _ _ _;rfl
    |succ todo ih2=>
     intro at_ ks rest hd hf hok2;obtain ⟨t1,k1,rfl,ht1,hk1⟩:=hf.first;have hd2:T.drop at_=t1++(k1++rest):=by rw [hd,kV]
     rw [eH (lC hd2 ht1.pos),iY hd2 (iK hok2) ht1];simp [ih2 _ k1 rest (iD hd2) hk1 (je hok2)]
   exact key todo _ ks' rest (iD hd') hks (je Pb)
  have hlen:(pre++at_::aV T todo (at_+ts.length)).length=manyN x:=by simp [afd];omega
  simp only [lg,eZ] at hlab;obtain ⟨hl1,hl2⟩:=hlab;rw [hnd,hlen,AO hx rfl (by omega) h0 Gv] at hl1;rcases ih at_ ts _ (((todo+1:Nat):Int)::st) hd' hts (by simp;omega) with hT|hS
  ·have ako:=sN _ _ _ hT
   obtain ⟨ts2,afe,ht⟩:=ako;have hsh:=ht.sh (((todo+1:Nat):Int)::st) (by simp;omega);have DR:ts2.length=ts.length:=by have:=ht.ej;omega
   have acr:afe=ks'++rest:=by
    have h1:=ht.at_;rw [hd'] at h1;exact (List.append_inj h1 DR.symm).2.symm
   have hr:=YP (k+1) y.s (at_+ts.length) ks' rest (pre++[at_]) st (iD hd') hks (je Pb) (by omega) (fun h=>by omega) (by simp [hpre]) (fun _=>by
    rw [kV,lW,Nat.add_sub_cancel,hnd]) (by rw [kV,lW];exact hl2) hst
   rcases hr with hr|hr
   ·left
    simp only [jU,hy];rw [if_pos hl1,hT];simp only;rw [show ((k:Int)+1)=((k+1:Nat):Int) by omega,hr,lS,Nat.add_assoc]
   ·right
    rw [uX,if_neg (by omega),hsh,acr,<-iD hd'];simp only [qJ];rw [show (((todo+1:Nat):Int)-1)=(todo:Int) by omega];exact hr
  ·right
   rw [uX,if_neg (by omega)];exact hS
theorem Pd {T:List Nd} (hok:bC T) (hlab:∀p,p<T.length->gM T p=true):
  ∀(f i:Nat) (ts rest:List Nd) (st:List Int),T.drop i=ts++rest->Fo 1 ts->st.length+f=100->eG T f i=some (i+ts.length)\/dI (T.drop i) st=false:=by
 intro f
 induction f with
 |zero=>
  intro i ts rest st hd hf hst;right;have hlt:=lC hd hf.pos;obtain ⟨x,hx⟩:=aJ hlt;rw [drop_cons hx];simp only [dI]
  rw [if_pos (by omega)]
 |succ f ih=>
  intro i ts rest st hd hf hst;have hlt:=lC hd hf.pos;obtain ⟨x,hx⟩:=aJ hlt;have UZ:=hok x (gH hx)
  match ts,hd,hf with
  |[],hd,hf=>cases hf
  |y::ks0,hd,hf=>
   obtain ⟨ks,rs,rfl,hks,hrs⟩:=hf.rA;have:=hrs.fK;subst this
   have hxy:x=y:=by
    have h1:=drop_cons hx;rw [hd] at h1;injection h1 with h1 _
    exact h1.symm
   subst hxy;rw [mO] at hd hf ⊢
   have hd1:T.drop (i+1)=ks++rest:=by
    have h1:=drop_cons hx;rw [hd] at h1;injection h1 with _ h1
    exact h1.symm
   have Pb:bC ks:=fun z hz=>hok z (by
    have:z∈T.drop (i+1):=by rw [hd1];simp [hz]
    exact List.mem_of_mem_drop this)
   have hl:=hlab i hlt;unfold gM at hl;rw [hx] at hl
   have hkr:eu T (i:Int)=aV T (manyN x) (i+1):=by
    unfold eu;rw [if_neg (by omega)];simp [hx,manyN]
   simp only [hkr,eZ,decide_eq_true_eq] at hl;have hlen:=hl.1;rw [kC UZ] at hlen;have hlen':(aV T (manyN x) (i+1)).length=manyN x:=by omega
   rw [hlen'] at hl;have hkp:=O_ ih x UZ (manyN x) 0 dQ (i+1) ks rest [] st hd1 hks Pb (by omega) (fun _=>rfl) rfl (fun h=>by omega) hl.2 hst;rcases hkp with hkp|hkp
   ·left
    simp only [eG,hx];rw [if_pos UZ];have hmn:(many x.k x.n).toNat=manyN x:=rfl;rw [hmn];have h0:((0:Nat):Int)=0:=rfl;rw [h0] at hkp;rw [hkp];simp;omega
   ·right
    rw [drop_cons hx];simp only [dI,mX];rw [if_neg (by omega),kC UZ];exact hkp
theorem EY {T:List Nd}:∀(d i:Nat),rz T d i=true↔∀p,i<=p->p<i+d->gM T p=true:=by
 intro d
 induction d with
 |zero=>intro i;simp [rz];intro p h1 h2;omega
 |succ d ih=>
  intro i;simp only [rz,eZ,ih];constructor
  ·rintro ⟨h1,h2⟩ p h3 h4
   by_cases hp:p=i
   ·subst hp;exact h1
   ·exact h2 p (by omega) (by omega)
  ·intro h
   exact ⟨h i (Nat.le_refl _) (by omega),fun p h3 h4=>h p (by omega) (by omega)⟩
theorem right_eq (T:List Nd):iC T=zV T:=by
 unfold iC zV
 cases hlen:decide (T.length<=10000)
 ·simp
 cases hroot:q9 T
 ·simp
 have hpos:0<T.length:=by
  cases T with
  |nil=>cases hroot
  |cons x xs=>simp
 simp only [f_];rw [dL];simp only [eZ,decide_eq_true_eq];constructor
 ·rintro ⟨⟨⟨hall,hend⟩,hsh⟩,hlab⟩
  have hok:bC T:=fun x hx=>qz.1 hall x hx;have YQ:∀p,p<T.length->gM T p=true:=fun p hp=>(EY T.length 0).1 hlab p (by omega) (by omega);obtain ⟨ts,rest,hd,hf,akp⟩:=RU hok YQ T.length 0 (by omega) hpos;rcases Pd hok YQ 100 0 ts rest [] hd hf rfl with h|h
  ·have he:=iY hd akp hf
   have afg:sF T ((0:Nat):Int)=(T.length:Int):=hend;rw [zW hpos] at afg;rw [h]
   congr 1
   omega
  ·rw [nE,hsh] at h
   cases h
 ·intro h
  obtain ⟨ts,rest,ht⟩:=sN _ _ _ h;have hej:=ht.ej;have hd:=ht.at_;rw [nE] at hd;have hl:=congrArg List.length hd;rw [lS] at hl;have hrest:rest=[]:=List.eq_nil_of_length_eq_zero (by omega);subst hrest;rw [mO] at hd;refine ⟨⟨⟨?_,?_⟩,?_⟩,?_⟩
  ·rw [qz]
   intro x hx;exact ht.ok x (by rw [<-hd];exact hx)
  ·show sF T ((0:Nat):Int)=(T.length:Int)
   rw [zW hpos,iY ht.at_ ht.ok ht.fo];omega
  ·have:=ht.sh [] rfl
   rw [nE] at this;rw [this];rfl
  ·rw [EY]
   intro p h1 h2;exact ht.lab p h1 (by omega)
def Gw (x:Nd):List UInt8:=
 if x.k=0 then [63] else if x.k=1 then [105,110,116] else if x.k=2 then [98,111,111,108] else if x.k=3 then [115,116,114,105,110,103] else
 if x.k=4 then [117,110,105,116] else if x.k=8 then 39::Lib.itoa x.n else 46::46::Lib.itoa x.n
def bV (xs:List Nd):List Nd:=(skip xs 1).getD []
def aD (xs:List Nd):Nd:=xs.head?.getD default
def fT (pr:List Nd->List UInt8) (sep:List UInt8):Nat->List UInt8->List Nd->List UInt8
 |0,_,_=>[]
 |d+1,akq,ys=>akq++((if (aD ys).k=9 then [] else (aD ys).s.data.toList++[58,32])++(pr ys++fT pr sep d sep (bV ys)))
def iN:Nat->List Nd->List UInt8
 |0,_=>[]
 |_+1,[]=>[]
 |f+1,x::ys=>
  if x.k=5 then (if (aD ys).k=5 then 40::(iN f ys++[41]) else iN f ys)++([32,45,62,32]++iN f (bV ys))
  else if x.k=6 then 123::(fT (iN f) [44,32] (manyN x) [] ys++[125])
  else if x.k=7 then 91::(fT (iN f) [32,124,32] (manyN x) [] ys++[93])
  else Gw x
theorem gB {ts rest:List Nd} (h:Fo 1 ts):bV (ts++rest)=rest:=by
 unfold bV;rw [h.pass];rfl
theorem uY (s:ByteArray):s.data.toList.length=s.size:=rfl
theorem wY {T:List Nd} {i:Nat} {x:Nd} (h:T[i]?=some x):aD (T.drop i)=x:=by
 rw [drop_cons h];rfl
theorem Gx {T:List Nd} {f i j:Nat} (h:eG T f i=some j):∃x,T[i]?=some x:=by
 cases f with
 |zero=>cases h
 |succ f=>
  simp only [eG] at h;split at h
  ·cases h
  ·exact ⟨_,by assumption⟩
theorem yK {T:List Nd} {f i j:Nat} (h:eG T f i=some j):bV (T.drop i)=T.drop j:=by
 obtain ⟨ts,rest,ht⟩:=sN _ _ _ h;rw [ht.at_,gB ht.fo,ht.ej,iD ht.at_]
theorem rJ {tr:Nat->Option Nat} {T:List Nd} {x:Nd} {d at_ j:Nat} {k:Int} {last:ByteArray} (h:jU tr T x (d+1) k last at_=some j):
  ∃y at',T[at_]?=some y/\tr at_=some at'/\jU tr T x d (k+1) y.s at'=some j:=by
 simp only [jU] at h;split at h
 ·cases h
 ·rename_i y hy
  split at h
  ·split at h
   ·cases h
   ·rename_i at' hat
    exact ⟨y,at',hy,hat,h⟩
  ·cases h
theorem EZ {T:List Nd} {f g:Nat} (x:Nd) (ih:∀i j,eG T f i=some j->i<j/\(j-i<=g->eG T g i=some j)):
  ∀(d:Nat) (k:Int) (last:ByteArray) (i j:Nat),jU (eG T f) T x d k last i=some j->i<=j/\(j-i<=g->jU (eG T g) T x d k last i=some j):=by
 intro d
 induction d with
 |zero=>
  intro k last i j h;simp only [jU,Option.some.injEq] at h;subst h
  exact ⟨Nat.le_refl _,fun _=>rfl⟩
 |succ d ihd=>
  intro k last i j h;simp only [jU] at h ⊢;split at h
  ·cases h
  ·rename_i y hy
   split at h
   ·rename_i hc
    split at h
    ·cases h
    ·rename_i at' hat
     obtain ⟨h1,h2⟩:=ih i at' hat;obtain ⟨h3,h4⟩:=ihd (k+1) y.s at' j h;refine ⟨by omega,fun hg=>?_⟩;simp only [hc,if_true,h2 (by omega)];exact h4 (by omega)
   ·cases h
theorem Pe {T:List Nd}:∀(f g i j:Nat),eG T f i=some j->i<j/\(j-i<=g->eG T g i=some j):=by
 intro f
 induction f with
 |zero=>intro g i j h;cases h
 |succ f ih=>
  intro g i j h;simp only [eG] at h;split at h
  ·cases h
  ·rename_i x hx
   split at h
   ·rename_i hok
    have hle:i+1<=j:=by
     have:=(EZ (f:=f) (g:=0) x (fun i' j' h'=>ih 0 i' j' h') _ _ _ _ _ h).1;exact this
    refine ⟨hle,fun hg=>?_⟩
    match g,hg with
    |0,hg=>omega
    |g+1,hg=>
     have:=(EZ (f:=f) (g:=g) x (fun i' j' h'=>ih g i' j' h') _ _ _ _ _ h).2 (by omega);simp only [eG,hx];rw [if_pos hok];exact this
   ·cases h
theorem MK {T:List Nd} (h:zV T=true):eG T 100 0=some T.length/\T.length<=10000/\∃x ys,T=x::ys/\x.s=dQ/\x.k≠9:=by
 unfold zV at h;simp only [eZ,decide_eq_true_eq] at h;obtain ⟨⟨h1,h2⟩,h3⟩:=h;refine ⟨h3,h1,?_⟩
 match T,h2 with
 |x::ys,h2=>
  unfold q9 at h2;simp at h2;exact ⟨x,ys,rfl,h2.1,h2.2⟩
open Go.RowKit
theorem oZ {x:Nd} (h:dP x.k x.n=true):manyN x<=50:=by
 have h1:=rG h;have h2:=kC h;omega
theorem qK (A:Option Addr) (c:Nat) (T ts rest:List Nd) (i:Nat) (w:World) (ha:bJ w w.heap.size A T) (hl:T.length<=1000000000) (hd:T.drop i=ts++rest) (hok:bC ts) (hf:Fo 1 ts):
  Calls Tryz.prog 120 #[.slice A T.length c,.int .i64 (i:Int)] w fun e w'=>e= .returned (.int .i64 ((i+ts.length:Nat):Int))/\Below w.heap.size w w':=by
 have hi:i<T.length:=lC hd hf.pos;have Hd:=aB hd;have n_:=aB hok;have Hf:=aB hf;clear hd hok hf;have h0':(0:Int)<=(i:Int):=by omega
 have h1':(i:Int)<(T.length:Int):=by omega
 have hd0:decide ((i:Int)<0)=false:=by simp
 have hd1:decide (T.length<=i)=false:=by simp;omega
 go_enter Tryz.func120,Tryz.ntmps120;go_wp2_with fail
 go_loopw [1,5] (fun i1 o5 wr=>∃(p n:Nat) (ps:List Nd),i1= .int .i64 p/\o5= .int .i64 n/\Hid (T.drop p=ps++rest/\bC ps/\Fo n ps)/\p+ps.length=i+ts.length/\i<=p/\p<=T.length/\n<=1+50*(p-i)/\Below w.heap.size w wr)
  (fun i1 _ _=>T.length-(intOf i1).toNat)
 case atStart=>exact ⟨i,1,ts,rfl,rfl,aB ⟨Hd.out,n_.out,Hf.out⟩,rfl,Nat.le_refl _,by omega,by omega,Below.refl _ _⟩
 case round=>
  obtain ⟨p,n,ps,rfl,rfl,hgood,hsum,hip,hpl,hnb,hbel⟩:=hrel
  cases n with
  |zero=>
   have hps:=hgood.out.2.2.fK;subst hps;simp at hsum;subst hsum;go_wp2_with fail;go_ret
   exact ⟨rfl,hbel⟩
  |succ n=>
   obtain ⟨x,ys,rfl⟩:∃x ys,ps=x::ys:=by
    cases ps with
    |nil=>exact absurd hgood.out.2.2.MI (by omega)
    |cons x ys=>exact ⟨x,ys,rfl⟩
   obtain ⟨g1,g2,g3⟩:=hgood.out;have hx:=jP (rest:=ys++rest) g1;have aqe:=aP hx;have hm:=(KI (g2 x (by simp))).trans (kC (g2 x (by simp)));have U0:=oZ (g2 x (by simp));have dX:=aB (show T.drop (p+1)=ys++rest/\bC ys/\Fo (n+manyN x) ys from ⟨by rw [<-oO,g1];rfl,fun z hz=>g2 z (by simp [hz]),g3⟩);have Hm:=aB hm;obtain ⟨b1,o1,rfl,hb1,c10,c11,c12⟩:=((ha.below hbel).more hbel.size).at_ hx;simp only [oG] at hsum;clear hx g1 g2 g3 hgood hm;generalize hM:manyN x=M at*;clear hM;go_wp2_with (go_at_call 141;refine (KJ _ _ _ _).mono ?_;rintro e w1 ⟨rfl,hbx⟩;rw [Hm.out]);go_roundw
   case rel=>exact ⟨p+1,n+M,ys,by go_num,by go_num,dX,by omega,by omega,by omega,by omega,ah hbel hbx⟩
   case measure=>simp [intOf];omega
end Go.Proofs.YtmjdhfbnmmdjiaaGreat
namespace Go.Proofs
open Go.Shelf
def Tryz.lays190_ren:Go.Shelf.Ren:=⟨fun|190=>123|125=>146|258=>145|128=>163|129=>164|302=>154|303=>155|304=>156|305=>157|306=>158|307=>159|308=>160|309=>161|310=>162|333=>176|329=>177|330=>178|334=>179|335=>180|336=>151|344=>185|n=>n,fun|31=>39|9=>9|3=>3|46=>153|0=>0|51=>169|53=>171|4=>4|183=>161|182=>160|131=>166|5=>5|218=>179|222=>183|228=>187|229=>188|n=>n,fun|n=>n⟩
theorem Tryz.lays190:Go.Proofs.Lays.n190 Tryz.prog Tryz.lays190_ren:={
 mixed:=by kernel_rfl
 f125:=Tryz.func146.trans (congrArg some (by kernel_rfl))
 f128:=Tryz.func163.trans (congrArg some (by kernel_rfl))
 f129:=Tryz.func164.trans (congrArg some (by kernel_rfl))
 f190:=Tryz.func123.trans (congrArg some (by kernel_rfl))
 f258:=Tryz.func145.trans (congrArg some (by kernel_rfl))
 f302:=Tryz.func154.trans (congrArg some (by kernel_rfl))
 f303:=Tryz.func155.trans (congrArg some (by kernel_rfl))
 f304:=Tryz.func156.trans (congrArg some (by kernel_rfl))
 f305:=Tryz.func157.trans (congrArg some (by kernel_rfl))
 f306:=Tryz.func158.trans (congrArg some (by kernel_rfl))
 f307:=Tryz.func159.trans (congrArg some (by kernel_rfl))
 f308:=Tryz.func160.trans (congrArg some (by kernel_rfl))
 f309:=Tryz.func161.trans (congrArg some (by kernel_rfl))
 f310:=Tryz.func162.trans (congrArg some (by kernel_rfl))
 f329:=Tryz.func177.trans (congrArg some (by kernel_rfl))
 f330:=Tryz.func178.trans (congrArg some (by kernel_rfl))
 f333:=Tryz.func176.trans (congrArg some (by kernel_rfl))
 f334:=Tryz.func179.trans (congrArg some (by kernel_rfl))
 f335:=Tryz.func180.trans (congrArg some (by kernel_rfl))
 f336:=Tryz.func151.trans (congrArg some (by kernel_rfl))
 f344:=Tryz.func185.trans (congrArg some (by kernel_rfl))
 t0:=Tryz.underlying0
 a0:=Tryz.isAgg0
 z0:=Tryz.sizeOf0
 v0:=Tryz.zeroValue0
 t3:=Tryz.underlying3
 a3:=Tryz.isAgg3
 z3:=Tryz.sizeOf3
 v3:=Tryz.zeroValue3
 t4:=Tryz.underlying4
 a4:=Tryz.isAgg4
 z4:=Tryz.sizeOf4
 v4:=Tryz.zeroValue4
 t5:=Tryz.underlying5
 a5:=Tryz.isAgg5
 z5:=Tryz.sizeOf5
 v5:=Tryz.zeroValue5
 t9:=Tryz.underlying9
 a9:=Tryz.isAgg9
 z9:=Tryz.sizeOf9
 v9:=Tryz.zeroValue9
 t31:=Tryz.underlying39
 a31:=Tryz.isAgg39
 z31:=Tryz.sizeOf39
 v31:=Tryz.zeroValue39
 t46:=Tryz.underlying153
 a46:=Tryz.isAgg153
 z46:=Tryz.sizeOf153
 v46:=Tryz.zeroValue153
 t51:=Tryz.underlying169
 a51:=Tryz.isAgg169
 z51:=Tryz.sizeOf169
 v51:=Tryz.zeroValue169
 t53:=Tryz.underlying171
 a53:=Tryz.isAgg171
 z53:=Tryz.sizeOf171
 v53:=Tryz.zeroValue171
 t131:=Tryz.underlying166
 a131:=Tryz.isAgg166
 z131:=Tryz.sizeOf166
 v131:=Tryz.zeroValue166
 t182:=Tryz.underlying160
 a182:=Tryz.isAgg160
 z182:=Tryz.sizeOf160
 v182:=Tryz.zeroValue160
 t183:=Tryz.underlying161
 a183:=Tryz.isAgg161
 z183:=Tryz.sizeOf161
 v183:=Tryz.zeroValue161
 t218:=Tryz.underlying179
 a218:=Tryz.isAgg179
 z218:=Tryz.sizeOf179
 v218:=Tryz.zeroValue179
 t222:=Tryz.underlying183
 a222:=Tryz.isAgg183
 z222:=Tryz.sizeOf183
 v222:=Tryz.zeroValue183
 t228:=Tryz.underlying187
 a228:=Tryz.isAgg187
 z228:=Tryz.sizeOf187
 v228:=Tryz.zeroValue187
 t229:=Tryz.underlying188
 a229:=Tryz.isAgg188
 z229:=Tryz.sizeOf188
 v229:=Tryz.zeroValue188}
open Go.Sort Go.RowKit in
theorem Tryz.slices_Sort_string (blk off cap:Nat) (ss:List (List UInt8)) (w:World) (hH:Holds encStr w blk off ss.toArray) (hblk:blk<w.heap.size) (hsz:ss.length<4611686018427387904):
  Calls Tryz.prog 123 #[.slice (some ⟨blk,off,none⟩) ss.length cap] w fun e w'=>
   e= .returned (.tuple #[])/\∃n os,w'=grow (putRow encStr (Sort.ahead w n) blk off (ss.mergeSort fun x y=>decide (x<=y)).toArray) os:=Any.slices_Sort_string Tryz.lays190 blk off cap ss w hH hblk hsz
def Tryz.lays193_ren:Go.Shelf.Ren:=⟨fun|193=>125|n=>n,fun|31=>39|9=>9|4=>4|3=>3|0=>0|n=>n,fun|n=>n⟩
theorem Tryz.lays193:Go.Proofs.Lays.n193 Tryz.prog Tryz.lays193_ren:={
 mixed:=by kernel_rfl
 f193:=Tryz.func125.trans (congrArg some (by kernel_rfl))
 t0:=Tryz.underlying0
 a0:=Tryz.isAgg0
 z0:=Tryz.sizeOf0
 v0:=Tryz.zeroValue0
 t3:=Tryz.underlying3
 a3:=Tryz.isAgg3
 z3:=Tryz.sizeOf3
 v3:=Tryz.zeroValue3
 t4:=Tryz.underlying4
 a4:=Tryz.isAgg4
 z4:=Tryz.sizeOf4
 v4:=Tryz.zeroValue4
 t9:=Tryz.underlying9
 a9:=Tryz.isAgg9
 z9:=Tryz.sizeOf9
 v9:=Tryz.zeroValue9
 t31:=Tryz.underlying39
 a31:=Tryz.isAgg39
 z31:=Tryz.sizeOf39
 v31:=Tryz.zeroValue39}
open Go.RowKit Go.Lib in
theorem Tryz.slices_Equal_string (b1 o1 n c b2 o2 m d:Nat) (xs ys:List ByteArray) (w:World) (hx:n<=xs.length) (hy:m<=ys.length) (hbig:n<=9223372036854775807) (hbig2:m<=9223372036854775807) (hc1:∀j,j<xs.length->w.cell? ⟨b1,o1+j,none⟩=some (.string (xs.getD j ByteArray.empty))) (hc2:∀j,j<ys.length->w.cell? ⟨b2,o2+j,none⟩=some (.string (ys.getD j ByteArray.empty))):
  Calls Tryz.prog 125 #[.slice (some ⟨b1,o1,none⟩) n c,.slice (some ⟨b2,o2,none⟩) m d] w fun e w'=>e= .returned (.bool (decide (xs.take n=ys.take m)))/\∃q,w'=w.drewN q:=Any.slices_Equal_string Tryz.lays193 b1 o1 n c b2 o2 m d xs ys w hx hy hbig hbig2 hc1 hc2
open Go.RowKit Go.Lib in
theorem Tryz.slices_Equal_string_empty (a1 a2:Option Addr) (c m d:Nat) (w:World) (hbig2:m<=9223372036854775807):
  Calls Tryz.prog 125 #[.slice a1 0 c,.slice a2 m d] w fun e w'=>e= .returned (.bool (decide (m=0)))/\w'=w:=Any.slices_Equal_string_empty Tryz.lays193 a1 a2 c m d w hbig2
open Go.RowKit Go.Sort in
theorem Tryz.slices_Sort_string_none (p:Option Addr) (cap:Nat) (w:World):
  Calls Tryz.prog 123 #[.slice p 0 cap] w fun e w'=>e= .returned (.tuple #[])/\w'=w:=Any.slices_Sort_string_none Tryz.lays190 p cap w
open Go.RowKit Go.Lib in
theorem Tryz.slices_Equal_string_lens (a1 a2:Option Addr) (n c m d:Nat) (w:World) (hnm:n≠m):
  Calls Tryz.prog 125 #[.slice a1 n c,.slice a2 m d] w fun e w'=>e= .returned (.bool false)/\w'=w:=Any.slices_Equal_string_lens Tryz.lays193 a1 a2 n c m d w hnm
def Tryz.growN_ren:Go.Shelf.Ren:=⟨fun|4=>137|n=>n,fun|22=>28|25=>49|3=>3|4=>4|9=>9|20=>20|0=>0|n=>n,fun|n=>n⟩
theorem Tryz.growN:Go.Proofs.Lays8.n4 Tryz.prog Tryz.growN_ren:={
 mixed:=by kernel_rfl
 f4:=⟨Tryz.f137.name,by decide,Tryz.func137.trans (congrArg some (by kernel_rfl))⟩
 t0:=Tryz.underlying0
 a0:=Tryz.isAgg0
 z0:=Tryz.sizeOf0
 v0:=Tryz.zeroValue0
 t3:=Tryz.underlying3
 a3:=Tryz.isAgg3
 z3:=Tryz.sizeOf3
 v3:=Tryz.zeroValue3
 t4:=Tryz.underlying4
 a4:=Tryz.isAgg4
 z4:=Tryz.sizeOf4
 v4:=Tryz.zeroValue4
 t9:=Tryz.underlying9
 a9:=Tryz.isAgg9
 z9:=Tryz.sizeOf9
 v9:=Tryz.zeroValue9
 t20:=Tryz.underlying20
 a20:=Tryz.isAgg20
 z20:=Tryz.sizeOf20
 v20:=Tryz.zeroValue20
 t22:=Tryz.underlying28
 a22:=Tryz.isAgg28
 z22:=Tryz.sizeOf28
 v22:=Tryz.zeroValue28}
def Tryz.growP_ren:Go.Shelf.Ren:=⟨fun|4=>109|n=>n,fun|22=>24|25=>33|3=>3|4=>4|9=>9|20=>20|0=>0|n=>n,fun|n=>n⟩
theorem Tryz.growP:Go.Proofs.Lays8.n4 Tryz.prog Tryz.growP_ren:={
 mixed:=by kernel_rfl
 f4:=⟨Tryz.f109.name,by decide,Tryz.func109.trans (congrArg some (by kernel_rfl))⟩
 t0:=Tryz.underlying0
 a0:=Tryz.isAgg0
 z0:=Tryz.sizeOf0
 v0:=Tryz.zeroValue0
 t3:=Tryz.underlying3
 a3:=Tryz.isAgg3
 z3:=Tryz.sizeOf3
 v3:=Tryz.zeroValue3
 t4:=Tryz.underlying4
 a4:=Tryz.isAgg4
 z4:=Tryz.sizeOf4
 v4:=Tryz.zeroValue4
 t9:=Tryz.underlying9
 a9:=Tryz.isAgg9
 z9:=Tryz.sizeOf9
 v9:=Tryz.zeroValue9
 t20:=Tryz.underlying20
 a20:=Tryz.isAgg20
 z20:=Tryz.sizeOf20
 v20:=Tryz.zeroValue20
 t22:=Tryz.underlying24
 a22:=Tryz.isAgg24
 z22:=Tryz.sizeOf24
 v22:=Tryz.zeroValue24}
def Tryz.laysSlF6_f130_ren:Go.Shelf.Ren:=⟨fun|6=>130|15=>146|14=>150|28=>163|29=>164|20=>168|21=>169|22=>170|23=>171|24=>172|25=>173|26=>174|27=>175|46=>182|47=>177|48=>178|49=>183|50=>184|57=>186|n=>n,fun|22=>50|24=>3|25=>141|3=>3|39=>153|0=>0|53=>169|55=>171|4=>4|46=>161|45=>160|50=>166|5=>5|9=>9|66=>179|70=>183|76=>187|77=>188|n=>n,fun|n=>n⟩
theorem Tryz.laysSlF6_f130:Go.Proofs.SlLaysF.n6 Tryz.prog Tryz.laysSlF6_f130_ren:={
 mixed:=by kernel_rfl
 f6:=⟨Tryz.f130.name,by decide,Tryz.func130.trans (congrArg some (by kernel_rfl))⟩
 f14:=⟨Tryz.f150.name,by decide,Tryz.func150.trans (congrArg some (by kernel_rfl))⟩
 f15:=Tryz.func146.trans (congrArg some (by kernel_rfl))
 f20:=⟨Tryz.f168.name,by decide,Tryz.func168.trans (congrArg some (by kernel_rfl))⟩
 f21:=⟨Tryz.f169.name,by decide,Tryz.func169.trans (congrArg some (by kernel_rfl))⟩
 f22:=⟨Tryz.f170.name,by decide,Tryz.func170.trans (congrArg some (by kernel_rfl))⟩
 f23:=⟨Tryz.f171.name,by decide,Tryz.func171.trans (congrArg some (by kernel_rfl))⟩
 f24:=⟨Tryz.f172.name,by decide,Tryz.func172.trans (congrArg some (by kernel_rfl))⟩
 f25:=⟨Tryz.f173.name,by decide,Tryz.func173.trans (congrArg some (by kernel_rfl))⟩
 f26:=⟨Tryz.f174.name,by decide,Tryz.func174.trans (congrArg some (by kernel_rfl))⟩
 f27:=⟨Tryz.f175.name,by decide,Tryz.func175.trans (congrArg some (by kernel_rfl))⟩
 f28:=Tryz.func163.trans (congrArg some (by kernel_rfl))
 f29:=Tryz.func164.trans (congrArg some (by kernel_rfl))
 f46:=⟨Tryz.f182.name,by decide,Tryz.func182.trans (congrArg some (by kernel_rfl))⟩
 f47:=Tryz.func177.trans (congrArg some (by kernel_rfl))
 f48:=Tryz.func178.trans (congrArg some (by kernel_rfl))
 f49:=⟨Tryz.f183.name,by decide,Tryz.func183.trans (congrArg some (by kernel_rfl))⟩
 f50:=⟨Tryz.f184.name,by decide,Tryz.func184.trans (congrArg some (by kernel_rfl))⟩
 f57:=⟨Tryz.f186.name,by decide,Tryz.func186.trans (congrArg some (by kernel_rfl))⟩
 t0:=Tryz.underlying0
 a0:=Tryz.isAgg0
 z0:=Tryz.sizeOf0
 v0:=Tryz.zeroValue0
 t3:=Tryz.underlying3
 a3:=Tryz.isAgg3
 z3:=Tryz.sizeOf3
 v3:=Tryz.zeroValue3
 t4:=Tryz.underlying4
 a4:=Tryz.isAgg4
 z4:=Tryz.sizeOf4
 v4:=Tryz.zeroValue4
 t5:=Tryz.underlying5
 a5:=Tryz.isAgg5
 z5:=Tryz.sizeOf5
 v5:=Tryz.zeroValue5
 t9:=Tryz.underlying9
 a9:=Tryz.isAgg9
 z9:=Tryz.sizeOf9
 v9:=Tryz.zeroValue9
 t22:=Tryz.underlying50
 a22:=Tryz.isAgg50
 z22:=Tryz.sizeOf50
 v22:=Tryz.zeroValue50
 a24:=Tryz.isAgg3
 z24:=Tryz.sizeOf3
 t25:=Tryz.underlying141
 a25:=Tryz.isAgg141
 z25:=Tryz.sizeOf141
 v25:=Tryz.zeroValue141
 t39:=Tryz.underlying153
 a39:=Tryz.isAgg153
 z39:=Tryz.sizeOf153
 v39:=Tryz.zeroValue153
 t45:=Tryz.underlying160
 a45:=Tryz.isAgg160
 z45:=Tryz.sizeOf160
 v45:=Tryz.zeroValue160
 t46:=Tryz.underlying161
 a46:=Tryz.isAgg161
 z46:=Tryz.sizeOf161
 v46:=Tryz.zeroValue161
 t50:=Tryz.underlying166
 a50:=Tryz.isAgg166
 z50:=Tryz.sizeOf166
 v50:=Tryz.zeroValue166
 t53:=Tryz.underlying169
 a53:=Tryz.isAgg169
 z53:=Tryz.sizeOf169
 v53:=Tryz.zeroValue169
 t55:=Tryz.underlying171
 a55:=Tryz.isAgg171
 z55:=Tryz.sizeOf171
 v55:=Tryz.zeroValue171
 t66:=Tryz.underlying179
 a66:=Tryz.isAgg179
 z66:=Tryz.sizeOf179
 v66:=Tryz.zeroValue179
 t70:=Tryz.underlying183
 a70:=Tryz.isAgg183
 z70:=Tryz.sizeOf183
 v70:=Tryz.zeroValue183
 t76:=Tryz.underlying187
 a76:=Tryz.isAgg187
 z76:=Tryz.sizeOf187
 v76:=Tryz.zeroValue187
 t77:=Tryz.underlying188
 a77:=Tryz.isAgg188
 z77:=Tryz.sizeOf188
 v77:=Tryz.zeroValue188}
open Go.RowKit Go.Lib Go.Sort in
theorem Tryz.slices_SortFunc {α:Type} [Inhabited α] (enc:α->Value) (h1:OneCell enc) (cf:α->α->Int) (hO:SWO (ltOf cf)) (g:Nat) (cb:Array Value) (blk off cap:Nat) (d:Array α) (w:World) (eg:∀args w,(callFunc g args).run Tryz.prog w= .ok (.enter g args) w) (hcmp:CmpLays1 Tryz.prog g cb enc cf blk off d.size w) (hH:Holds enc w blk off d) (hblk:blk<w.heap.size) (hsz:d.size<4611686018427387904):
  Calls Tryz.prog 130 #[.slice (some ⟨blk,off,none⟩) d.size cap,.func (.func g) #[] cb] w fun e w'=>
   e= .returned (.tuple #[])/\∃d' n os,PermIn 0 d.size d d'/\SortedIn (ltOf cf) 0 d.size d'/\w'=sortWorld enc w blk off n d' os:=Any.slices_SortFunc Tryz.laysSlF6_f130 enc h1 cf hO g cb blk off cap d w eg hcmp hH hblk hsz
def Tryz.laysSlF06_f130_ren:Go.Shelf.Ren:=⟨fun|6=>130|15=>146|14=>150|28=>163|29=>164|20=>168|21=>169|22=>170|23=>171|24=>172|25=>173|26=>174|27=>175|46=>182|47=>177|48=>178|49=>183|50=>184|57=>186|n=>n,fun|22=>50|24=>3|25=>141|3=>3|39=>153|0=>0|53=>169|55=>171|4=>4|46=>161|45=>160|50=>166|5=>5|9=>9|66=>179|70=>183|76=>187|77=>188|n=>n,fun|n=>n⟩
theorem Tryz.laysSlF06_f130:Go.Proofs.SlLaysF0.n6 Tryz.prog Tryz.laysSlF06_f130_ren:={
 mixed:=by kernel_rfl
 f6:=⟨Tryz.f130.name,by decide,Tryz.func130.trans (congrArg some (by kernel_rfl))⟩
 f14:=⟨Tryz.f150.name,by decide,Tryz.func150.trans (congrArg some (by kernel_rfl))⟩
 f15:=Tryz.func146.trans (congrArg some (by kernel_rfl))
 f20:=⟨Tryz.f168.name,by decide,Tryz.func168.trans (congrArg some (by kernel_rfl))⟩
 f21:=⟨Tryz.f169.name,by decide,Tryz.func169.trans (congrArg some (by kernel_rfl))⟩
 f22:=⟨Tryz.f170.name,by decide,Tryz.func170.trans (congrArg some (by kernel_rfl))⟩
 f23:=⟨Tryz.f171.name,by decide,Tryz.func171.trans (congrArg some (by kernel_rfl))⟩
 f24:=⟨Tryz.f172.name,by decide,Tryz.func172.trans (congrArg some (by kernel_rfl))⟩
 f25:=⟨Tryz.f173.name,by decide,Tryz.func173.trans (congrArg some (by kernel_rfl))⟩
 f26:=⟨Tryz.f174.name,by decide,Tryz.func174.trans (congrArg some (by kernel_rfl))⟩
 f27:=⟨Tryz.f175.name,by decide,Tryz.func175.trans (congrArg some (by kernel_rfl))⟩
 f28:=Tryz.func163.trans (congrArg some (by kernel_rfl))
 f29:=Tryz.func164.trans (congrArg some (by kernel_rfl))
 f46:=⟨Tryz.f182.name,by decide,Tryz.func182.trans (congrArg some (by kernel_rfl))⟩
 f47:=Tryz.func177.trans (congrArg some (by kernel_rfl))
 f48:=Tryz.func178.trans (congrArg some (by kernel_rfl))
 f49:=⟨Tryz.f183.name,by decide,Tryz.func183.trans (congrArg some (by kernel_rfl))⟩
 f50:=⟨Tryz.f184.name,by decide,Tryz.func184.trans (congrArg some (by kernel_rfl))⟩
 f57:=⟨Tryz.f186.name,by decide,Tryz.func186.trans (congrArg some (by kernel_rfl))⟩
 t0:=Tryz.underlying0
 a0:=Tryz.isAgg0
 z0:=Tryz.sizeOf0
 v0:=Tryz.zeroValue0
 t3:=Tryz.underlying3
 a3:=Tryz.isAgg3
 z3:=Tryz.sizeOf3
 v3:=Tryz.zeroValue3
 t4:=Tryz.underlying4
 a4:=Tryz.isAgg4
 z4:=Tryz.sizeOf4
 v4:=Tryz.zeroValue4
 t5:=Tryz.underlying5
 a5:=Tryz.isAgg5
 z5:=Tryz.sizeOf5
 v5:=Tryz.zeroValue5
 t9:=Tryz.underlying9
 a9:=Tryz.isAgg9
 z9:=Tryz.sizeOf9
 v9:=Tryz.zeroValue9
 t22:=Tryz.underlying50
 a22:=Tryz.isAgg50
 z22:=Tryz.sizeOf50
 v22:=Tryz.zeroValue50
 t25:=Tryz.underlying141
 a25:=Tryz.isAgg141
 z25:=Tryz.sizeOf141
 v25:=Tryz.zeroValue141
 t39:=Tryz.underlying153
 a39:=Tryz.isAgg153
 z39:=Tryz.sizeOf153
 v39:=Tryz.zeroValue153
 t45:=Tryz.underlying160
 a45:=Tryz.isAgg160
 z45:=Tryz.sizeOf160
 v45:=Tryz.zeroValue160
 t46:=Tryz.underlying161
 a46:=Tryz.isAgg161
 z46:=Tryz.sizeOf161
 v46:=Tryz.zeroValue161
 t50:=Tryz.underlying166
 a50:=Tryz.isAgg166
 z50:=Tryz.sizeOf166
 v50:=Tryz.zeroValue166
 t53:=Tryz.underlying169
 a53:=Tryz.isAgg169
 z53:=Tryz.sizeOf169
 v53:=Tryz.zeroValue169
 t55:=Tryz.underlying171
 a55:=Tryz.isAgg171
 z55:=Tryz.sizeOf171
 v55:=Tryz.zeroValue171
 t66:=Tryz.underlying179
 a66:=Tryz.isAgg179
 z66:=Tryz.sizeOf179
 v66:=Tryz.zeroValue179
 t70:=Tryz.underlying183
 a70:=Tryz.isAgg183
 z70:=Tryz.sizeOf183
 v70:=Tryz.zeroValue183
 t76:=Tryz.underlying187
 a76:=Tryz.isAgg187
 z76:=Tryz.sizeOf187
 v76:=Tryz.zeroValue187
 t77:=Tryz.underlying188
 a77:=Tryz.isAgg188
 z77:=Tryz.sizeOf188
 v77:=Tryz.zeroValue188}
open Go.RowKit Go.Lib Go.Sort in
theorem Tryz.slices_SortFunc_none {α:Type} [Inhabited α] (p:Option Addr) (cap:Nat) (fv:Value) (w:World):
  Calls Tryz.prog 130 #[.slice p 0 cap,fv] w fun e w'=>e= .returned (.tuple #[])/\w'=w:=AnyF.slices_SortFunc_none Tryz.laysSlF06_f130 p cap fv w
end Go.Proofs
