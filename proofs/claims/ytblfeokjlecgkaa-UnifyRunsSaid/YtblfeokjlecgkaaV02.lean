/- Laid together by a tool from the texts of this seat: RightEq Print PEnd Shelf Concat Make Part PKids RowA Sort Pure PureA PureP Trees Mem Off Figures PrintR Ask TKids CompactT Joined PutP Few Fresh RFresh Ra13. Conditions: each theorem's own. -/
import Derived.Test.YtblfeokjlecgkaaV01
import Derived.Lib.ItoaNum
import Derived.Lib.ItoaLen
import Derived.Shelf.Small.Bits
import Derived.Shelf.Strconv.Itoa0
import Derived.Shelf.Sort.Plain
import Derived.Shelf.Slices.Turned
import Derived.Ground.Names2Prog
import Derived.Shelf.Slices.CompactI
import Derived.Shelf.Slices.SearchI
import Derived.Shelf.Slices.Cells
import Derived.Shelf.Slices.In.SortNone
import Derived.Ground.SlsfProg
import Derived.Shelf.SlSortCmp.Insertion
import Derived.Shelf.SlSortCmp.SiftDown1
import Derived.Shelf.SlSortCmp.HeapSort1
import Derived.Shelf.SlSortCmp.Insertion1
import Derived.Shelf.SlSortCmp.Median1
import Derived.Shelf.SlSortCmp.Pivot1
import Derived.Shelf.SlSortCmp.ReverseRange1
import Derived.Shelf.SlSortCmp.PartialInsertion1
import Derived.Shelf.SlSortCmp.PartitionEqual1
import Derived.Shelf.SlSortCmp.Partition1
import Derived.Shelf.SlSortCmp.Pdq1
import Derived.Shelf.SlSortCmp.Whole1
import Derived.Shelf.SlSortCmp.NoneTotal
import Derived.Test.YtblfeokjlecgkaaProg
import Derived.Shelf.Spec.SlicesGrow
import Derived.Ground.Names8Prog
import Derived.Lib.SliceRun
import Derived.BigQuiet
import Derived.Laws.EntriesVeiled
import Derived.Laws.IdiomStrings
import Derived.IntWalk
import Derived.ArgAppend
import Derived.Deep.RegionHeld
import Derived.Lib.BufferWrite
set_option maxHeartbeats 8000000
set_option maxRecDepth 100000
namespace Go.Proofs.Ytblfeokjlecgkaa
open Go.Lib renaming hid->aC
open _root_.List renaming length_append->A_,flatMap_cons->jy,append_assoc->Dq,append_nil->ER,replicate->EY,cons_append->Gx,length_cons->Bl,mem_cons->Gz,take_add_one->GZ,set_append_right->Iq,length_set->IJ,drop_drop->Jl,mem_append->JQ,singleton_append->JW,drop_zero->Kk,eq_nil_of_length_eq_zero->kZ,take_append_drop->KO,take_length->M9,getElem?_cons_succ->Oo,take_left->Qa,flatten_cons->Ry,length_take->zH,not_lt->Rz,drop_left->RA,length->RB,getElem?_drop->RD,getElem?_append_right->zA,nil_append->RU,all_eq_true->SI,getElem?_set_self->Ve,map_congr_left->Vg,length_drop->VF,flatten_append->WS,set_set->Xq,find?_eq_none->XV
open _root_.ByteArray renaming empty->pR
open _root_.Nat renaming le_refl->bN,zero_le->h_,zero_add->iE,add_sub_cancel->DX,add_comm->AA,sub_self->Vf
open Go.RowKit.Below renaming refl->aT
open Go.World renaming ownsRow->lM
open _root_.Bool renaming and_eq_true->DC,eq_iff_iff->AQ,or_eq_true->Vh,true_and->bW
open Go.Value renaming slice->aO
open _root_.And renaming intro->Gw
open Go.ByteArray renaming toList_eq->yH
theorem oN:∀(x y:List UInt8),Op.bytesLess x y=decide (x<y)
 |[],[]=>by simp [Op.bytesLess]
 |_::_,[]=>by simp [Op.bytesLess]
 |[],_::_=>by simp [Op.bytesLess]
 |a::x,b::y=>by
  rw [Op.bytesLess,oN x y];simp only [List.cons_lt_cons_iff];by_cases h1:a<b<;>by_cases h2:a=b<;>by_cases h3:x<y<;>simp [h1,h2,h3]
theorem RX (a b:ByteArray):YP a b= !Op.bytesLess b.toList a.toList:=by
 unfold YP;rw [oN,oN,AQ];simp only [Vh,decide_eq_true_eq,beq_iff_eq,Bool.not_eq_true',decide_eq_false_iff_not];rw [Rz,List.le_iff_lt_or_eq]
theorem Vq {k:Int} {s:ByteArray} (hr:av k=true) (hl:eZ k s=true):s.toList≠[]:=by
 intro he;rw [yH] at he;simp only [av,Vh,beq_iff_eq] at hr;rcases hr with rfl|rfl
 ·simp [eZ,wC,he,Ep] at hl
 ·simp [eZ,Bp,he,Ep] at hl
theorem D7 {x y p:Nd} {k n:Nat} {last:ByteArray} (hx:bX x.k x.n=true) (hn:n=manyN x) (hk:k<n) (h0:k=0->last=pR) (hp:0<k->p.s=last):
  iZ x y p k n=uJ x k last y:=by
 have hm:=nH hx;unfold iZ uJ;by_cases h9:y.k=9
 ·rw [if_pos h9,if_pos h9]
  cases hr:av x.k
  ·simp
  ·have hmn:many x.k x.n=x.n:=by
    unfold many;rw [if_neg (by rintro h5;rw [h5] at hr;simp [av] at hr),if_pos hr]
   rw [hmn] at hm
   have:decide (k+1=n)= !decide ((k:Int)<x.n-1):=by
    rw [AQ];simp;omega
   rw [this]
 ·rw [if_neg h9,if_neg h9]
  cases hl:eZ x.k y.s
  ·simp
  ·cases hr:av x.k
   ·simp
   ·simp only [bW]
    congr 1
    rw [RX];by_cases hk0:0<k
    ·rw [hp hk0]
     simp [hk0]
    ·have hk0':k=0:=by omega
     rw [h0 hk0'];have hpos:=Vq hr hl;have he:pR.toList=[]:=by rw [yH];rfl
     rw [he]
     cases hy:y.s.toList with
     |nil=>exact absurd hy hpos
     |cons c cs=>simp [hk0',Op.bytesLess]
theorem YW:∀(ps:List Nd) (n p:Nat) (ys:List Nd),dF ps->Fo (n+1) ps->endGo (ps++ys) ((n+1:Nat):Int) p=p+ps.length:=by
 intro ps
 induction ps with
 |nil=>intro n p ys _ h;cases h
 |cons x ps ih=>
  intro n p ys hok h;have h':skip ps (n+manyN x)=some []:=h;have hm:=nH (hok x (by simp));simp only [Gx,endGo];rw [hm];by_cases hz:n+manyN x=0
  ·rw [if_pos (by omega)]
   rw [hz,n_] at h';injection h' with h'
   subst h';simp
  ·rw [if_neg (by omega)]
   obtain ⟨m,hm'⟩:∃m,n+manyN x=m+1:=⟨n+manyN x-1,by omega⟩;rw [hm'] at h';have:=ih m (p+1) ys (fun y hy=>hok y (by simp [hy])) h';rw [show (((n+1:Nat):Int)-1+(manyN x:Int))=((m+1:Nat):Int) by omega,this];simp only [Bl];omega
theorem jI {T ts rest:List Nd} {i:Nat} (h:T.drop i=ts++rest) (hok:dF ts) (hf:Fo 1 ts):endGo (T.drop i) 1 i=i+ts.length:=by
 rw [h];exact YW ts 0 i rest hok hf
theorem kP {T ts rest:List Nd} {i:Nat} (h:T.drop i=ts++rest):T.drop (i+ts.length)=rest:=by
 rw [<-Jl,h,RA]
theorem nA {T ts rest:List Nd} {i:Nat} (h:T.drop i=ts++rest) (hp:0<ts.length):i<T.length:=by
 have:=congrArg RB h;rw [VF,A_] at this;omega
theorem Nf {T rest:List Nd} {i:Nat} {x:Nd} (h:T.drop i=x::rest):T[i]?=some x:=by
 have:(T.drop i)[0]?=some x:=by rw [h];rfl
 rwa [RD,Nat.add_zero] at this
def tC:List Int->List Int
 |[]=>[]
 |b::r=>settle r (b-1)
theorem xO (st:List Int) (n:Nat):settle st (n:Int)=if n=0 then tC st else (n:Int)::st:=by
 cases st with
 |nil=>
  simp only [settle,tC];by_cases h:n=0
  ·subst h;simp
  ·rw [if_neg (by omega),if_neg h]
 |cons b r=>
  simp only [settle,tC];by_cases h:n=0
  ·subst h;simp
  ·rw [if_neg (by omega),if_neg h]
structure XM (T:List Nd) (f i j:Nat) (ts rest:List Nd):Prop where
 at_:T.drop i=ts++rest
 ej:j=i+ts.length
 fo:Fo 1 ts
 ok:dF ts
 lab:∀p,i<=p->p<j->iN T p=true
 sh:∀st:List Int,st.length+f=100->d_ (T.drop i) st=d_ rest (tC st)
theorem PV {T:List Nd} {f:Nat} (ih:∀i j,lW T f i=some j->∃ts rest,XM T f i j ts rest) (x:Nd) (hx:bX x.k x.n=true):
  ∀(todo k:Nat) (last:ByteArray) (at_ j:Nat),ql (lW T f) T x todo k last at_=some j->k+todo=manyN x->(k=0->last=pR)->
   ∃ks rest,T.drop at_=ks++rest/\j=at_+ks.length/\Fo todo ks/\dF ks/\(∀p,at_<=p->p<j->iN T p=true)/\
    (∀st:List Int,st.length+(f+1)=100->d_ (T.drop at_) (settle st (todo:Int))=d_ rest (tC st))/\
    (bE T todo at_).length=todo/\
    (∀pre:List Nat,pre.length=k->(0<k->(AJ T (pre++bE T todo at_) (k-1)).s=last)->mI T x (pre++bE T todo at_) todo k=true):=by
 intro todo
 induction todo with
 |zero=>
  intro k last at_ j h hk h0;simp only [ql,Option.some.injEq] at h;subst h;refine ⟨[],T.drop at_,rfl,rfl,rfl,(fun x hx=>by cases hx),(fun p h1 h2=>by omega),fun st _=>?_,rfl,fun pre _ _=>rfl⟩
  rw [xO,if_pos rfl]
 |succ todo iht=>
  intro k last at_ j h hk h0;simp only [ql] at h;split at h
  ·cases h
  ·rename_i y hy
   split at h
   ·rename_i hc
    split at h
    ·cases h
    ·rename_i at' htr
     obtain ⟨ts,rest,ht⟩:=ih _ _ htr;have hjt:=ht.ej;subst hjt;obtain ⟨ks,rest',h1,h2,h3,h4,h5,h6,h7,h8⟩:=iht (k+1) y.s _ j h (by omega) (fun h=>by omega);have hrest:rest=ks++rest':=by rw [<-h1,kP ht.at_]
     have hlt:at_<T.length:=bf hy;have hend:=jI ht.at_ ht.ok ht.fo;have hkg:bE T (todo+1) at_=at_::bE T todo (at_+ts.length):=by rw [iH hlt,hend]
     refine ⟨ts++ks,rest',by rw [ht.at_,hrest,Dq],by rw [h2,A_];omega,?_,?_,?_,?_,?_,?_⟩
     ·rw [AA];exact ht.fo.append h3
     ·intro z hz
      rcases JQ.1 hz with hz|hz
      ·exact ht.ok z hz
      ·exact h4 z hz
     ·intro p hp1 hp2
      by_cases hp:p<at_+ts.length
      ·exact ht.lab p hp1 hp
      ·exact h5 p (by omega) hp2
     ·intro st hst
      rw [xO,if_neg (by omega),ht.sh (((todo+1:Nat):Int)::st) (by simp;omega),<-h6 st hst,h1,hrest];simp only [tC]
      congr 2
      omega
     ·rw [hkg];simp [h7]
     ·intro pre hpre Kz
      rw [hkg] at Kz ⊢;have hlen:(pre++at_::bE T todo (at_+ts.length)).length=manyN x:=by simp [h7];omega
      have hnd:AJ T (pre++at_::bE T todo (at_+ts.length)) k=y:=by
       unfold AJ;rw [zA (by omega)];simp [hpre,hy]
      have hrec:=h8 (pre++[at_]) (by simp [hpre]) (fun _=>by
       rw [Dq,JW,DX,hnd])
      rw [Dq,JW] at hrec;simp only [mI];rw [hrec,hnd,hlen,D7 hx rfl (by omega) h0 Kz,hc];rfl
   ·cases h
theorem Fa {T:List Nd}:∀(f i j:Nat),lW T f i=some j->∃ts rest,XM T f i j ts rest:=by
 intro f
 induction f with
 |zero=>intro i j h;cases h
 |succ f ih=>
  intro i j h;simp only [lW] at h;split at h
  ·cases h
  ·rename_i x hx
   split at h
   ·rename_i hok
    have hmn:(many x.k x.n).toNat=manyN x:=rfl;rw [hmn] at h;obtain ⟨ks,rest,h1,h2,h3,h4,h5,h6,h7,h8⟩:=PV ih x hok (manyN x) 0 pR (i+1) j h (by omega) (fun _=>rfl);have hd:T.drop i=x::T.drop (i+1):=drop_cons hx;refine ⟨x::ks,rest,⟨by rw [hd,h1];rfl,by rw [h2];simp;omega,?_,?_,?_,?_⟩⟩
    ·have:=Fo.cons (n:=0) h3 Fo.zero
     rwa [ER] at this
    ·intro z hz
     rcases Gz.1 hz with rfl|hz
     ·exact hok
     ·exact h4 z hz
    ·intro p hp1 hp2
     by_cases hp:p=i
     ·subst hp
      unfold iN;rw [hx]
      have hkr:iq T (p:Int)=bE T (manyN x) (p+1):=by
       unfold iq;rw [if_neg (by omega)];simp [hx,manyN]
      simp only [hkr];rw [h7,nH hok];have:=h8 [] rfl (fun h=>by omega);rw [RU] at this;rw [this];simp
     ·exact h5 p (by omega) hp2
    ·intro st hst
     rw [hd];simp only [d_,uK];rw [if_neg (by omega),nH hok];exact h6 st hst
   ·cases h
theorem Vr {T:List Nd} (hok:dF T) (hlab:∀p,p<T.length->iN T p=true):
  ∀(n i:Nat),T.length-i<=n->i<T.length->∃ts rest,T.drop i=ts++rest/\Fo 1 ts/\dF ts:=by
 intro n
 induction n with
 |zero=>intro i h1 h2;omega
 |succ n ih=>
  intro i h1 h2;obtain ⟨x,hx⟩:=aD h2;have hl:=hlab i h2;unfold iN at hl;rw [hx] at hl
  have hkr:iq T (i:Int)=bE T (manyN x) (i+1):=by
   unfold iq;rw [if_neg (by omega)];simp [hx,manyN]
  simp only [hkr,DC,decide_eq_true_eq] at hl;have hlen:=hl.1;rw [nH (hok x (jQ hx))] at hlen
  have key:∀(todo at_:Nat),i<at_->(bE T todo at_).length=todo->∃ks rest,T.drop at_=ks++rest/\Fo todo ks/\dF ks:=by
   intro todo
   induction todo with
   |zero=>intro at_ _ _;exact ⟨[],_,rfl,rfl,fun z hz=>by cases hz⟩
   |succ todo iht=>
    intro at_ ha hk;by_cases hlt:at_<T.length
    ·obtain ⟨ts,rest,h3,h4,h5⟩:=ih at_ (by omega) hlt
     rw [iH hlt,jI h3 h5 h4] at hk;obtain ⟨ks,rest',h6,h7,h8⟩:=iht (at_+ts.length) (by omega) (by simpa using hk);rw [kP h3] at h6;refine ⟨ts++ks,rest',by rw [h3,h6,Dq],by rw [AA];exact h4.append h7,?_⟩;intro z hz;rcases JQ.1 hz with hz|hz
     ·exact h5 z hz
     ·exact h8 z hz
    ·rw [I6 hlt] at hk
     cases hk
  obtain ⟨ks,rest,h3,h4,h5⟩:=key (manyN x) (i+1) (by omega) (by omega);refine ⟨x::ks,rest,by rw [drop_cons hx,h3];rfl,?_,?_⟩
  ·have:=Fo.cons (n:=0) h4 Fo.zero
   rwa [ER] at this
  ·intro z hz
   rcases Gz.1 hz with rfl|hz
   ·exact hok _ (jQ hx)
   ·exact h5 z hz
theorem xP {a b:List Nd} (h:dF (a++b)):dF a:=fun x hx=>h x (by simp [hx])
theorem vK {a b:List Nd} (h:dF (a++b)):dF b:=fun x hx=>h x (by simp [hx])
theorem RY {T:List Nd} {f:Nat}
  (ih:∀(i:Nat) (ts rest:List Nd) (st:List Int),T.drop i=ts++rest->Fo 1 ts->st.length+f=100->lW T f i=some (i+ts.length)\/d_ (T.drop i) st=false) (x:Nd) (hx:bX x.k x.n=true):
  ∀(todo k:Nat) (last:ByteArray) (at_:Nat) (ks rest:List Nd) (pre:List Nat) (st:List Int),T.drop at_=ks++rest->Fo todo ks->dF ks->k+todo=manyN x->(k=0->last=pR)->pre.length=k->
   (0<k->(AJ T (pre++bE T todo at_) (k-1)).s=last)->mI T x (pre++bE T todo at_) todo k=true->st.length+(f+1)=100->
   ql (lW T f) T x todo k last at_=some (at_+ks.length)\/d_ (T.drop at_) (settle st (todo:Int))=false:=by
 intro todo
 induction todo with
 |zero=>
  intro k last at_ ks rest pre st hd hf _ _ _ _ _ _ _;have:=hf.wG;subst this
  exact .inl rfl
 |succ todo iht=>
  intro k last at_ ks rest pre st hd hf RZ hk h0 hpre Kz hlab hst;obtain ⟨ts,ks',rfl,hts,hks⟩:=hf.first;have hd':T.drop at_=ts++(ks'++rest):=by rw [hd,Dq]
  have hlt:at_<T.length:=nA hd' hts.pos;obtain ⟨y,hy⟩:=aD hlt;have hend:=jI hd' (xP RZ) hts;have hkg:bE T (todo+1) at_=at_::bE T todo (at_+ts.length):=by rw [iH hlt,hend]
  rw [hkg] at Kz hlab
  have hnd:AJ T (pre++at_::bE T todo (at_+ts.length)) k=y:=by
   unfold AJ;rw [zA (by omega)];simp [hpre,hy]
  have agV:(bE T todo (at_+ts.length)).length=todo:=by
   have key:∀(todo at_:Nat) (ks rest:List Nd),T.drop at_=ks++rest->Fo todo ks->dF ks->(bE T todo at_).length=todo:=by
    intro todo
    induction todo with
    |zero=>intro _ _ _ _ _ _;rfl
    |succ todo ih2=>
     intro at_ ks rest hd hf hok2;obtain ⟨t1,k1,rfl,ht1,hk1⟩:=hf.first;have hd2:T.drop at_=t1++(k1++rest):=by rw [hd,Dq]
     rw [iH (nA hd2 ht1.pos),jI hd2 (xP hok2) ht1];simp [ih2 _ k1 rest (kP hd2) hk1 (vK hok2)]
   exact key todo _ ks' rest (kP hd') hks (vK RZ)
  have hlen:(pre++at_::bE T todo (at_+ts.length)).length=manyN x:=by simp [agV];omega
  simp only [mI,DC] at hlab;obtain ⟨hl1,hl2⟩:=hlab;rw [hnd,hlen,D7 hx rfl (by omega) h0 Kz] at hl1;rcases ih at_ ts _ (((todo+1:Nat):Int)::st) hd' hts (by simp;omega) with hT|hS
  ·have ai6:=Fa _ _ _ hT
   obtain ⟨ts2,agW,ht⟩:=ai6;have hsh:=ht.sh (((todo+1:Nat):Int)::st) (by simp;omega);have uX:ts2.length=ts.length:=by have:=ht.ej;omega
   have aem:agW=ks'++rest:=by
    have h1:=ht.at_;rw [hd'] at h1;exact (List.append_inj h1 uX.symm).2.symm
   have hr:=iht (k+1) y.s (at_+ts.length) ks' rest (pre++[at_]) st (kP hd') hks (vK RZ) (by omega) (fun h=>by omega) (by simp [hpre]) (fun _=>by
    rw [Dq,JW,DX,hnd]) (by rw [Dq,JW];exact hl2) hst
   rcases hr with hr|hr
   ·left
    simp only [ql,hy];rw [if_pos hl1,hT];simp only;rw [show ((k:Int)+1)=((k+1:Nat):Int) by omega,hr,A_,Nat.add_assoc]
   ·right
    rw [xO,if_neg (by omega),hsh,aem,<-kP hd'];simp only [tC];rw [show (((todo+1:Nat):Int)-1)=(todo:Int) by omega];exact hr
  ·right
   rw [xO,if_neg (by omega)];exact hS
theorem R3 {T:List Nd} (hok:dF T) (hlab:∀p,p<T.length->iN T p=true):
  ∀(f i:Nat) (ts rest:List Nd) (st:List Int),T.drop i=ts++rest->Fo 1 ts->st.length+f=100->lW T f i=some (i+ts.length)\/d_ (T.drop i) st=false:=by
 intro f
 induction f with
 |zero=>
  intro i ts rest st hd hf hst;right;have hlt:=nA hd hf.pos;obtain ⟨x,hx⟩:=aD hlt;rw [drop_cons hx];simp only [d_]
  rw [if_pos (by omega)]
 |succ f ih=>
  intro i ts rest st hd hf hst;have hlt:=nA hd hf.pos;obtain ⟨x,hx⟩:=aD hlt;have XO:=hok x (jQ hx)
  match ts,hd,hf with
  |[],hd,hf=>cases hf
  |y::yL,hd,hf=>
   obtain ⟨ks,rs,rfl,hks,hrs⟩:=hf.PU;have:=hrs.wG;subst this
   have hxy:x=y:=by
    have h1:=drop_cons hx;rw [hd] at h1;injection h1 with h1 _
    exact h1.symm
   subst hxy;rw [ER] at hd hf ⊢
   have hd1:T.drop (i+1)=ks++rest:=by
    have h1:=drop_cons hx;rw [hd] at h1;injection h1 with _ h1
    exact h1.symm
   have RZ:dF ks:=fun z hz=>hok z (by
    have:z∈T.drop (i+1):=by rw [hd1];simp [hz]
    exact List.mem_of_mem_drop this)
   have hl:=hlab i hlt;unfold iN at hl;rw [hx] at hl
   have hkr:iq T (i:Int)=bE T (manyN x) (i+1):=by
    unfold iq;rw [if_neg (by omega)];simp [hx,manyN]
   simp only [hkr,DC,decide_eq_true_eq] at hl;have hlen:=hl.1;rw [nH XO] at hlen;have hlen':(bE T (manyN x) (i+1)).length=manyN x:=by omega
   rw [hlen'] at hl;have hkp:=RY ih x XO (manyN x) 0 pR (i+1) ks rest [] st hd1 hks RZ (by omega) (fun _=>rfl) rfl (fun h=>by omega) hl.2 hst;rcases hkp with hkp|hkp
   ·left
    simp only [lW,hx];rw [if_pos XO];have hmn:(many x.k x.n).toNat=manyN x:=rfl;rw [hmn];have h0:((0:Nat):Int)=0:=rfl;rw [h0] at hkp;rw [hkp];simp;omega
   ·right
    rw [drop_cons hx];simp only [d_,uK];rw [if_neg (by omega),nH XO];exact hkp
theorem I_ {T:List Nd}:∀(d i:Nat),uw T d i=true↔∀p,i<=p->p<i+d->iN T p=true:=by
 intro d
 induction d with
 |zero=>intro i;simp [uw];intro p h1 h2;omega
 |succ d ih=>
  intro i;simp only [uw,DC,ih];constructor
  ·rintro ⟨h1,h2⟩ p h3 h4
   by_cases hp:p=i
   ·subst hp;exact h1
   ·exact h2 p (by omega) (by omega)
  ·intro h
   exact ⟨h i (bN _) (by omega),fun p h3 h4=>h p (by omega) (by omega)⟩
theorem right_eq (T:List Nd):iR T=kY T:=by
 unfold iR kY
 cases hlen:decide (T.length<=10000)
 ·simp
 cases hroot:rD T
 ·simp
 have hpos:0<T.length:=by
  cases T with
  |nil=>cases hroot
  |cons x xs=>simp
 simp only [bW];rw [AQ];simp only [DC,decide_eq_true_eq];constructor
 ·rintro ⟨⟨⟨hall,hend⟩,hsh⟩,hlab⟩
  have hok:dF T:=fun x hx=>SI.1 hall x hx;have abp:∀p,p<T.length->iN T p=true:=fun p hp=>(I_ T.length 0).1 hlab p (by omega) (by omega);obtain ⟨ts,rest,hd,hf,R4⟩:=Vr hok abp T.length 0 (by omega) hpos;rcases R3 hok abp 100 0 ts rest [] hd hf rfl with h|h
  ·have he:=jI hd R4 hf
   have agX:wE T ((0:Nat):Int)=(T.length:Int):=hend;rw [yJ hpos] at agX;rw [h]
   congr 1
   omega
  ·rw [Kk,hsh] at h
   cases h
 ·intro h
  obtain ⟨ts,rest,ht⟩:=Fa _ _ _ h;have hej:=ht.ej;have hd:=ht.at_;rw [Kk] at hd;have hl:=congrArg RB hd;rw [A_] at hl;have hrest:rest=[]:=kZ (by omega);subst hrest;rw [ER] at hd;refine ⟨⟨⟨?_,?_⟩,?_⟩,?_⟩
  ·rw [SI]
   intro x hx;exact ht.ok x (by rw [<-hd];exact hx)
  ·show wE T ((0:Nat):Int)=(T.length:Int)
   rw [yJ hpos,jI ht.at_ ht.ok ht.fo];omega
  ·have:=ht.sh [] rfl
   rw [Kk] at this;rw [this];rfl
  ·rw [I_]
   intro p h1 h2;exact ht.lab p h1 (by omega)
def Bz (xs:List Nd):List Nd:=(skip xs 1).getD []
def bB (xs:List Nd):Nd:=xs.head?.getD default
theorem Df {ts rest:List Nd} (h:Fo 1 ts):Bz (ts++rest)=rest:=by
 unfold Bz;rw [h.pass];rfl
open Go.RowKit
theorem vV {x:Nd} (h:bX x.k x.n=true):manyN x<=50:=by
 have h1:=Bt h;have h2:=nH h;omega
theorem YX (A:Option Addr) (c:Nat) (T ts rest:List Nd) (i:Nat) (w:World) (ha:aM w w.heap.size A T) (hl:T.length<=1000000) (hd:T.drop i=ts++rest) (hok:dF ts) (hf:Fo 1 ts):
  Calls Try.prog 130 #[.slice A T.length c,.int .i64 (i:Int)] w fun e w'=>e= .returned (.int .i64 ((i+ts.length:Nat):Int))/\Below w.heap.size w w':=by
 have hi:i<T.length:=nA hd hf.pos;have Hd:=aC hd;have yw:=aC hok;have Hf:=aC hf;clear hd hok hf;have h0':(0:Int)<=(i:Int):=by omega
 have h1':(i:Int)<(T.length:Int):=by omega
 have hd0:decide ((i:Int)<0)=false:=by simp
 have hd1:decide (T.length<=i)=false:=by simp;omega
 go_enter Try.func130,Try.ntmps130;go_wp2_with fail
 go_loopw [1,5] (fun i1 o5 wr=>∃(p n:Nat) (ps:List Nd),i1= .int .i64 p/\o5= .int .i64 n/\Hid (T.drop p=ps++rest/\dF ps/\Fo n ps)/\p+ps.length=i+ts.length/\i<=p/\p<=T.length/\n<=1+50*(p-i)/\Below w.heap.size w wr)
  (fun i1 _ _=>T.length-(intOf i1).toNat)
 case atStart=>exact ⟨i,1,ts,rfl,rfl,aC ⟨Hd.out,yw.out,Hf.out⟩,rfl,bN _,by omega,by omega,aT _ _⟩
 case round=>
  obtain ⟨p,n,ps,rfl,rfl,hgood,hsum,Vs,hpl,hnb,hbel⟩:=hrel
  cases n with
  |zero=>
   have hps:=hgood.out.2.2.wG;subst hps;simp at hsum;subst hsum;go_wp2_with fail;go_ret
   exact ⟨rfl,hbel⟩
  |succ n=>
   obtain ⟨x,ys,rfl⟩:∃x ys,ps=x::ys:=by
    cases ps with
    |nil=>exact absurd hgood.out.2.2.PS (by omega)
    |cons x ys=>exact ⟨x,ys,rfl⟩
   obtain ⟨g1,g2,g3⟩:=hgood.out;have hx:=Nf (rest:=ys++rest) g1;have aoN:=bf hx;have hm:=(NW (g2 x (by simp))).trans (nH (g2 x (by simp)));have XP:=vV (g2 x (by simp));have qg:=aC (show T.drop (p+1)=ys++rest/\dF ys/\Fo (n+manyN x) ys from ⟨by rw [<-Jl,g1];rfl,fun z hz=>g2 z (by simp [hz]),g3⟩);have Hm:=aC hm;obtain ⟨b1,o1,rfl,hb1,c10,c11,c12⟩:=((ha.below hbel).more hbel.size).at_ hx;simp only [Bl] at hsum;clear hx g1 g2 g3 hgood hm;generalize hM:manyN x=M at*;clear hM;go_wp2_with (go_at_call 125;refine (NY _ _ _ _).mono ?_;rintro e w1 ⟨rfl,hbx⟩;rw [Hm.out]);go_roundw
   case rel=>exact ⟨p+1,n+M,ys,by go_num,by go_num,qg,by omega,by omega,by omega,by omega,ah hbel hbx⟩
   case measure=>simp [intOf];omega
end Go.Proofs.Ytblfeokjlecgkaa
namespace Go.Proofs
open Go.Shelf
def Try.growN_ren:Go.Shelf.Ren:=⟨fun|4=>114|n=>n,fun|22=>34|25=>48|3=>3|4=>4|9=>9|20=>20|0=>0|n=>n,fun|n=>n⟩
theorem Try.growN:Go.Proofs.Lays8.n4 Try.prog Try.growN_ren:={
 mixed:=by kernel_rfl
 f4:=⟨Try.f114.name,by decide,Try.func114.trans (congrArg some (by kernel_rfl))⟩
 t0:=Try.underlying0
 a0:=Try.isAgg0
 z0:=Try.sizeOf0
 v0:=Try.zeroValue0
 t3:=Try.underlying3
 a3:=Try.isAgg3
 z3:=Try.sizeOf3
 v3:=Try.zeroValue3
 t4:=Try.underlying4
 a4:=Try.isAgg4
 z4:=Try.sizeOf4
 v4:=Try.zeroValue4
 t9:=Try.underlying9
 a9:=Try.isAgg9
 z9:=Try.sizeOf9
 v9:=Try.zeroValue9
 t20:=Try.underlying20
 a20:=Try.isAgg20
 z20:=Try.sizeOf20
 v20:=Try.zeroValue20
 t22:=Try.underlying34
 a22:=Try.isAgg34
 z22:=Try.sizeOf34
 v22:=Try.zeroValue34}
end Go.Proofs
namespace Go.Proofs.Ytblfeokjlecgkaa
open Go.Lib renaming hid->aC
open _root_.List renaming length_append->A_,flatMap_cons->jy,append_assoc->Dq,append_nil->ER,replicate->EY,cons_append->Gx,length_cons->Bl,mem_cons->Gz,take_add_one->GZ,set_append_right->Iq,length_set->IJ,drop_drop->Jl,mem_append->JQ,singleton_append->JW,drop_zero->Kk,eq_nil_of_length_eq_zero->kZ,take_append_drop->KO,take_length->M9,getElem?_cons_succ->Oo,take_left->Qa,flatten_cons->Ry,length_take->zH,not_lt->Rz,drop_left->RA,length->RB,getElem?_drop->RD,getElem?_append_right->zA,nil_append->RU,all_eq_true->SI,getElem?_set_self->Ve,map_congr_left->Vg,length_drop->VF,flatten_append->WS,set_set->Xq,find?_eq_none->XV
open _root_.ByteArray renaming empty->pR
open _root_.Nat renaming le_refl->bN,zero_le->h_,zero_add->iE,add_sub_cancel->DX,add_comm->AA,sub_self->Vf
open Go.RowKit.Below renaming refl->aT
open Go.World renaming ownsRow->lM
open _root_.Bool renaming and_eq_true->DC,eq_iff_iff->AQ,or_eq_true->Vh,true_and->bW
open Go.Value renaming slice->aO
open _root_.And renaming intro->Gw
open Go.ByteArray renaming toList_eq->yH
open Go.RowKit
theorem YZ (n:Nat) (hn:n<=1000000) (w:World):
  Calls Try.prog 114 #[.slice none 0 0,.int .i64 (n:Int)] w fun e w'=>∃A cap,e= .returned (.slice A 0 cap)/\fA w' w.heap.size A cap []/\Below w.heap.size w w':=by
 by_cases h0:n=0
 ·subst h0
  refine (Any8.slices_Grow_room Try.growN none 0 0 0 w (bN _) (by omega) (by omega) (by omega)).mono ?_;rintro e w' ⟨rfl,rfl⟩;exact ⟨none,0,rfl,aA.nil,aT _ _⟩
 ·obtain ⟨i0,hi,hz0,hz1,hz2⟩:=info_parts Vk
  refine (Any8.slices_Grow_grow Try.growN i0 _ hi hz0 (by rw [hz1];decide) none 0 0 n [] w (bN _) (by omega) (by rw [hz2];omega) (by omega) (by simp) (fun _=>rfl) (by intro a h;cases h)).mono ?_;rintro e w' ⟨rfl,rfl⟩;refine ⟨_,_,rfl,?_,(aT _ _:Below w.heap.size w w).drew.alloc (by simp) _⟩
  exact World.ownsRow_made w.drew _ _ (bN _) (grownCap_le_maxLen w _ _ _ (by unfold maxLen;omega)) (by
   have:=grownCap_ge w (0+n) 0 48;rw [Array.size_append,Array.size_append,size_zeroCells,size_zeroCells];show 0+(0+n-0)*3+(grownCap w (0+n) 0 48-(0+n))*3=grownCap w (0+n) 0 48*3;omega)
theorem aA.lower {α:Type} {e size:Nat} {enc:α->List Value} {w:World} {base base':Nat} {A:Option Addr} {cap:Nat} {l:List α} (h:aA e size enc w base A cap l) (hb:base'<=base):aA e size enc w base' A cap l:=by
 refine ⟨h.1,?_⟩;rcases h.2 with h|⟨g,cap',cur,hv,hbg,hr⟩
 ·exact .inl h
 ·exact .inr ⟨g,cap',cur,hv,Nat.le_trans hb hbg,hr⟩
def rE (w:World) (B:Nat) (vs:List (Option Addr×Nat×Nat)) (xss:List (List Nd)):Prop:=
 vs.length=xss.length/\∀(i:Nat) (v:Option Addr×Nat×Nat) (xs:List Nd),vs[i]?=some v->xss[i]?=some xs->v.2.1=xs.length/\aM w B v.1 xs
theorem wH {xss:List (List Nd)} {k:Nat} {xs:List Nd} (h:xss[k]?=some xs):(xss.take (k+1)).flatten=(xss.take k).flatten++xs:=by
 rw [GZ,h];simp
theorem tF (xss:List (List Nd)) (k:Nat):(xss.take k).flatten.length<=xss.flatten.length:=by
 conv=>rhs;rw [<-KO k xss]
 rw [WS,A_];omega
theorem R5 (A:Option Addr) (c:Nat) (vs:List (Option Addr×Nat×Nat)) (xss:List (List Nd)) (w:World) (hr:sZ w w.heap.size A vs) (hS:rE w w.heap.size vs xss) (hv:vs.length<=1000) (hlen:xss.flatten.length<=1000000):
  Calls Try.prog 72 #[.slice A vs.length c] w fun e w'=>
   ∃A' cap',e= .returned (.slice A' xss.flatten.length cap')/\fA w' w.heap.size A' cap' xss.flatten/\Below w.heap.size w w':=by
 have HS:=aC hS.2;have R6:=hS.1;clear hS;go_enter Try.func72,Try.ntmps72;go_wp2_with fail
 go_loopw [3,11] (fun s3 i11 wr=>∃(k n:Nat),s3= .int .i64 n/\i11= .int .i64 k/\k<=vs.length/\n<=1000000/\Below w.heap.size w wr/\Hid (n=(xss.take k).flatten.length))
  (fun _ i11 _=>vs.length-(intOf i11).toNat)
 case atStart=>exact ⟨0,0,rfl,rfl,h_ _,by omega,aT _ _,aC (by simp)⟩
 case round=>
  obtain ⟨k,n,rfl,rfl,hk,hn6,hbel,hn⟩:=hrel;have zr:=hbel.size;by_cases hlt:k<vs.length
  ·obtain ⟨v,hvk⟩:=aD hlt
   obtain ⟨xs,hxk⟩:=aD (show k<xss.length by omega);obtain ⟨hvl,_⟩:=HS.out k v xs hvk hxk;obtain ⟨b1,o1,rfl,hb1,c10⟩:=hr.slice hvk;have abq:=(hbel.cell (p:=⟨b1,o1+k,none⟩) hb1).trans c10;have hstep:=wH hxk;have hle:=tF xss (k+1)
   have hle2:n+xs.length<=1000000:=by
    rw [hstep,A_,<-hn.out] at hle;omega
   have BA:=aC hstep;rw [hvl] at abq;have ai7:b1<wr.heap.size:=by omega
   clear hvk hxk hstep c10 hle;go_wp2_with fail;go_roundw
   case rel=>exact ⟨k+1,n+xs.length,by go_num,by go_num,by omega,hle2,hbel,aC (by rw [BA.out,A_,<-hn.out])⟩
   case measure=>simp [intOf];omega
  ·have hkk:k=vs.length:=by omega
   have hnn:n=xss.flatten.length:=by rw [hn.out,hkk,R6,M9]
   subst hnn;clear hn;generalize hL:xss.flatten.length=L at*;have HL:=aC hL;clear hL;go_wp2_with fail;refine (YZ L hn6 wr).mono ?_;rintro e w1 ⟨A1,afH,rfl,hown1,uW⟩;have XQ:=ah hbel uW;have hown0:fA w1 w.heap.size A1 afH []:=aA.lower hown1 hbel.size;go_wp2_with fail;clear hown1 uW hbel zr hlt hkk
   go_loopw [6,27] (fun s6 i27 wr=>∃(k n:Nat) (A':Option Addr) (cap':Nat),s6= .slice A' n cap'/\i27= .int .i64 k/\k<=vs.length/\Hid (n=(xss.take k).flatten.length)/\fA wr w.heap.size A' cap' (xss.take k).flatten/\Below w.heap.size w wr)
    (fun _ i27 _=>vs.length-(intOf i27).toNat)
   case atStart=>exact ⟨0,0,A1,afH,rfl,rfl,h_ _,aC (by simp),by simpa using hown0,XQ⟩
   case round=>
    clear hown0 XQ;obtain ⟨k,n,A',cap',rfl,rfl,hk,hn,hown,hbel⟩:=hrel;have zr:=hbel.size;by_cases hlt:k<vs.length
    ·obtain ⟨v,hvk⟩:=aD hlt
     obtain ⟨xs,hxk⟩:=aD (show k<xss.length by omega);obtain ⟨hvl,Ng⟩:=HS.out k v xs hvk hxk;obtain ⟨b1,o1,rfl,hb1,c10⟩:=hr.slice hvk;have abq:=(hbel.cell (p:=⟨b1,o1+k,none⟩) hb1).trans c10;have hstep:=wH hxk;have hle:=tF xss (k+1)
     have hle2:n+xs.length<=1000000:=by
      rw [hstep,A_,<-hn.out,HL.out] at hle;omega
     have BA:=aC hstep;rw [hvl] at abq;have ai7:b1<wr.heap.size:=by omega
     generalize hys:(xss.take k).flatten=ys at hn hown;have Hys:=aC hys;have hn':=hn.out;subst hn';clear hvk hxk hstep c10 hle hys hn;go_wp2_with (at_builtin;refine eH rfl (.tmp 31) (.tmp 32) rfl w.heap.size (l:=ys) rfl hown (l2:=xs) rfl (Ng.below hbel) (by omega) (by omega) ?_;intro A2 cap2 w3 hown3 hg3 _);have mW:=eG hbel hg3 (fun k hk=>(aA.block hown k hk).1);go_roundw
     case rel=>exact ⟨k+1,_,A2,cap2,rfl,by go_num,by omega,aC (by rw [BA.out,Hys.out,A_]),by rw [BA.out,Hys.out];exact hown3,mW⟩
     case measure=>simp [intOf];omega
    ·have hkk:k=vs.length:=by omega
     have htk:xss.take k=xss:=by rw [hkk,R6,M9]
     rw [htk] at hown hn;have hn':=hn.out;subst hn';clear hn;go_wp2_with fail;go_ret;rw [<-HL.out];exact ⟨A',cap',rfl,hown,hbel⟩
def Nd.name (x:Nd) (s:ByteArray):Nd:=⟨x.k,s,x.n⟩
theorem D8 (s:ByteArray) (x:Nd):∀(l:List Nd) (j:Nat),l[j]?=some x->(l.set j (x.name s)).flatMap iQ=(l.flatMap iQ).set (j*3+1) (.string s)
 |[],j,h=>by simp at h
 |y::l,0,h=>by
  simp at h;subst h;rw [List.set_cons_zero,jy,jy]
  rfl
 |y::l,j+1,h=>by
  rw [Oo] at h;rw [List.set_cons_succ,jy,jy,D8 s x l j h,Iq _ _ (by rw [lJ];omega),lJ,show (j+1)*3+1-3=j*3+1 by omega]
theorem aA.ai9 {w:World} {base:Nat} {A:Option Addr} {cap:Nat} {l:List Nd} (h:fA w base A cap l) {j:Nat} {x:Nd} (hx:l[j]?=some x) (s:ByteArray):
  ∃g,A=some ⟨g,0,none⟩/\base<=g/\g<w.heap.size/\w.cell? ⟨g,j*3+1,none⟩=some (.string x.s)/\w.frozen? ⟨g,j*3+1,none⟩=false/\
   fA (w.setCell ⟨g,j*3+1,none⟩ (.string s)) base A cap (l.set j (x.name s))/\w.grownBy (w.setCell ⟨g,j*3+1,none⟩ (.string s)) (some g):=by
 obtain ⟨b,o,hA,hb,_,hc,_⟩:=(aA.g_ h).at_ hx;have h':w.ownsRow base 48 3 (.slice A l.length cap) l.length (l.flatMap iQ):=h;rcases h'.2 with ⟨hv,hn⟩|⟨g,cap',cur,hv,hbg,hg,hnc,hcm,hcs,htake⟩
 ·injection hv with hA' hl hc'
  rw [hA'] at hA
  cases hA
 ·injection hv with hA' hl hc'
  subst hA';injection hA with hA
  injection hA with hA1 hA2 hA3
  subst hA1;rw [<-hA2,iE] at hc;obtain ⟨h2,h3⟩:=lM.stored h' (j*3+1) (.string s);refine ⟨g,rfl,hbg,hb,hc,lM.frozenAt h' _,?_,h3⟩;show (w.setCell ⟨g,j*3+1,none⟩ (.string s)).ownsRow base 48 3 (.slice (some ⟨g,0,none⟩) (l.set j (x.name s)).length cap) (l.set j (x.name s)).length ((l.set j (x.name s)).flatMap iQ);rw [IJ,D8 s x l j hx];exact h2
theorem aM.part {w:World} {B b o:Nat} {T ts rest:List Nd} {i:Nat} (h:aM w B (some ⟨b,o,none⟩) T) (hd:T.drop i=ts++rest):aM w B (some ⟨b,o+i*3,none⟩) ts:=fun hne=>by
 have hT:T≠[]:=by rintro rfl;simp at hd;exact hne hd.1
 obtain ⟨b',o',hA,hB,hr⟩:=h hT;injection hA with hA
 injection hA with h1 h2 h3
 subst h1 h2
 have key:∀(j:Nat) (x:Nd),ts[j]?=some x->T[i+j]?=some x:=fun j x hx=>by
  rw [<-RD,hd,List.getElem?_append_left (bf hx)];exact hx
 refine ⟨b,o+i*3,rfl,hB,⟨fun j x hx=>?_,fun j x hx=>?_,fun j x hx=>?_⟩⟩
 ·have:=hr.c0 (i+j) x (key j x hx);rw [show o+(i+j)*3=o+i*3+j*3 by omega] at this;exact this
 ·have:=hr.c1 (i+j) x (key j x hx);rw [show o+(i+j)*3=o+i*3+j*3 by omega] at this;exact this
 ·have:=hr.c2 (i+j) x (key j x hx);rw [show o+(i+j)*3=o+i*3+j*3 by omega] at this;exact this
def jP (w:World) (xs:List Nd) (e:Ending) (w':World):Prop:=∃A' cap',e= .returned (.slice A' xs.length cap')/\fA w' w.heap.size A' cap' xs/\Below w.heap.size w w'
theorem BD (w:World) (x:Nd):aM (w.alloc (.cells #[.int .i64 x.k,.string x.s,.int .i64 x.n] 48)) (w.heap.size+1) (some ⟨w.heap.size,0,none⟩) [x]:=by
 refine aX.g_ (fun _=>⟨w.heap.size,0,rfl,by omega,fun i y hy j u hu=>?_⟩)
 match i,hy with
 |0,hy=>
  simp at hy;subst hy
  match j,hu with
  |0,hu=>simp [iQ] at hu;subst hu;simp
  |1,hu=>simp [iQ] at hu;subst hu;simp
  |2,hu=>simp [iQ] at hu;subst hu;simp
  |j+3,hu=>simp [iQ] at hu
 |i+1,hy=>simp at hy
theorem R7 (w:World) (v1 v2 v3:Option Addr×Nat×Nat):sZ (w.alloc (.cells #[.slice v1.1 v1.2.1 v1.2.2,.slice v2.1 v2.2.1 v2.2.2,.slice v3.1 v3.2.1 v3.2.2] 34)) (w.heap.size+1) (some ⟨w.heap.size,0,none⟩) [v1,v2,v3]:=fun _=>by
 refine ⟨w.heap.size,0,rfl,by omega,fun i x hx j u hu=>?_⟩
 have hj:j=0:=by
  have:=bf hu;rw [jq] at this;omega
 subst hj;simp [encS] at hu;subst hu
 match i,hx with
 |0,hx=>simp at hx;subst hx;simp
 |1,hx=>simp at hx;subst hx;simp
 |2,hx=>simp at hx;subst hx;simp
 |i+3,hx=>simp at hx
theorem rF (w:World) (x:Nd):fA (w.alloc (.cells #[.int .i64 x.k,.string x.s,.int .i64 x.n] 48)) w.heap.size (some ⟨w.heap.size,0,none⟩) 1 [x]:=
 ⟨rfl,.inr ⟨w.heap.size,1,_,rfl,bN _,heap_alloc_new w _,bN _,by simp [maxLen],rfl,rfl⟩⟩
def PW:List Nd->List Nd
 |[]=>[]
 |x::xs=>x.name pR::xs
theorem Nh (xs:List Nd):(PW xs).length=xs.length:=by cases xs<;>rfl
theorem Y0 (w:World) (base n:Nat) (hn:n<=1000000) (hbase:base<=w.heap.size):
  ∃w',(Instr.makeSlice 76 (.int .i64 (n:Int)) (.int .i64 (n:Int))).run Try.prog w= .ok (.slice (some ⟨w.heap.size,0,none⟩) n n) w'/\sU w' base (some ⟨w.heap.size,0,none⟩) n (EY n 0)/\w.grownBy w' none:=by
 obtain ⟨i0,hi,hz0,hz1,hz2⟩:=info_parts abb;obtain ⟨w',h1,h2,h3⟩:=run_makeSlice_full (w:=w) base 76 3 i0 _ 1 Try.underlying76 hi hz0 hz1 .i64 .i64 n (by omega) (by rw [hz2];omega) (by unfold maxLen;omega) hbase;refine ⟨w',h1,?_,h3⟩;show w'.ownsRow base 3 1 (.slice (some ⟨w.heap.size,0,none⟩) (EY n (0:Int)).length n) (EY n (0:Int)).length ((EY n (0:Int)).flatMap encI);rw [List.length_replicate,yx,List.map_replicate]
 have e:(madeCells (Value.int .i64 0).cells (n*1)).toList=EY n (Value.int .i64 0):=by
  rw [Nat.mul_one];exact toList_madeCells_one _ _
 rw [<-e];exact h2
theorem KE {α:Type} (l:List α) (k:Nat) (x:α) (h:k<l.length):(l.set k x).take (k+1)=l.take k++[x]:=by
 rw [GZ,List.take_set_of_le (bN _),Ve h];rfl
theorem R8 {w w':World} (h:w.grownBy w' none):Below w.heap.size w w':=
 (aT w.heap.size w).grown h (bN _) fun k hk=>by cases hk
theorem Vt (A:Option Addr) (c:Nat) (T ks rest:List Nd) (x:Nd) (i:Nat) (w:World) (ha:aM w w.heap.size A T) (hl:T.length<=1000000) (hx:T[i]?=some x) (hxo:bX x.k x.n=true) (hd:T.drop (i+1)=ks++rest) (hok:dF ks) (hf:Fo (manyN x) ks):
  Calls Try.prog 104 #[.slice A T.length c,.int .i64 (i:Int)] w fun e w'=>
   ∃A' cap',e= .returned (.slice A' (nY (bE T (manyN x) (i+1))).length cap')/\sU w' w.heap.size A' cap' (nY (bE T (manyN x) (i+1)))/\Below w.heap.size w w':=by
 have hi:=bf hx;obtain ⟨b1,o1,rfl,hb1,c10,c11,c12⟩:=ha.at_ hx;have Hm:=aC ((NW hxo).trans (nH hxo));have XP:=vV hxo;have Hd:=aC hd;have yw:=aC hok;have Hf:=aC hf;have Hx:=aC hx;clear hd hok hf hx hxo;have h0':(0:Int)<=(i:Int):=by omega
 have h1':(i:Int)<(T.length:Int):=by omega
 have hd0:decide ((i:Int)<0)=false:=by simp
 have hd1:decide (T.length<=i)=false:=by simp;omega
 generalize hM:manyN x=M at*;go_enter Try.func104,Try.ntmps104;go_wp2_with (go_at_call 125;refine (NY _ _ _ _).mono ?_;rintro e w1 ⟨rfl,hbx⟩;rw [Hm.out]);have hbel0:Below w.heap.size w w1:=hbx;obtain ⟨w2,hmk,hown2,R9⟩:=Y0 w1 w.heap.size M (by omega) hbx.size;rw [hmk];have nZ:=ah hbx (R8 R9);have z2:=nZ.size;generalize hG:w1.heap.size=G at*;go_wp2_with fail
 go_loopw [6,26] (fun i6 k26 wr=>∃(k at_:Nat) (L:List Int) (ps:List Nd),i6= .int .i64 at_/\k26= .int .i64 k/\k<=M/\L.length=M/\at_<=T.length/\Hid (T.drop at_=ps++rest/\dF ps/\Fo (M-k) ps)/\
   sU wr w.heap.size (some ⟨G,0,none⟩) M L/\Below w.heap.size w wr/\Hid (L.take k++nY (bE T (M-k) at_)=nY (bE T M (i+1))))
  (fun _ k26 _=>M-(intOf k26).toNat)
 case atStart=>exact ⟨0,i+1,EY M 0,ks,rfl,rfl,h_ _,by simp,hi,aC ⟨Hd.out,yw.out,Hf.out⟩,hown2,nZ,aC (by simp)⟩
 case round=>
  clear hown2 nZ z2 hmk R9;obtain ⟨k,at_,L,ps,rfl,rfl,hkM,hLl,aiV,hps,hown,hbel,hgood⟩:=hrel;have zr:=hbel.size;by_cases hlt:k<M
  ·obtain ⟨d,hd'⟩:∃d,M-k=d+1:=⟨M-k-1,by omega⟩
   obtain ⟨p1,p2,p3⟩:=hps.out;rw [hd'] at p3;obtain ⟨ts,ps',rfl,hts,afI⟩:=p3.first;rw [Dq] at p1;have ai_:=nA p1 hts.pos
   have hle:at_+ts.length<=T.length:=by
    have:=congrArg RB p1;rw [VF,A_] at this;omega
   have aja:=aC (show T.drop (at_+ts.length)=ps'++rest/\dF ps'/\Fo (M-(k+1)) ps' from ⟨kP p1,vK p2,by rw [show M-(k+1)=d by omega];exact afI⟩);have Ky:=aC (fun W h=>YX (some ⟨b1,o1,none⟩) c T ts (ps'++rest) at_ W h hl p1 (xP p2) hts)
   have qg:Hid ((L.set k (at_:Int)).take (k+1)++nY (bE T (M-(k+1)) (at_+ts.length))=nY (bE T M (i+1))):=aC (by
    rw [<-hgood.out,hd',iH ai_,jI p1 (xP p2) hts,show M-(k+1)=d by omega,KE _ _ _ (by omega)];simp [nY])
   clear hd' p1 p2 p3 hts afI hps hgood;obtain ⟨g,hg,hbg,aoO,⟨m,hm,hcell⟩,hfz,hown3,aoP⟩:=hown.afG (j:=k) (by omega) (at_:Int);injection hg with hg
   injection hg with hg1 _ _
   subst hg1;have mW:=kD (p:=⟨G,k,none⟩) hbel hbg (.int .i64 (at_:Int));have hlen3:(L.set k (at_:Int)).length=M:=by simp [hLl]
   clear hm;go_wp2_with (go_at_call 130;refine (Ky.out _ ((ha.below mW).more mW.size)).mono ?_;rintro e w4 ⟨rfl,hb4⟩);have qm:=aA.below hown3 hb4 (bN _);go_roundw
   case rel=>exact ⟨k+1,at_+ts.length,L.set k (at_:Int),ps',rfl,by go_num,by omega,hlen3,hle,aja,qm,ah mW hb4,qg⟩
   case measure=>simp [intOf];omega
  ·have hkk:k=M:=by omega
   subst hkk
   have hout:L=nY (bE T k (i+1)):=by
    rw [<-hgood.out,Vf,<-hLl,M9];simp [bE,nY]
   clear hgood hps;go_wp2_with fail;go_ret;rw [<-hout];exact ⟨_,_,by rw [hLl];rfl,hown,hbel⟩
theorem Er (s:ByteArray) (w:World):Calls Try.prog 171 #[.string s] w fun e w'=>e= .returned (.bool false)/\w=w':=by
 go_enter Try.func171,Try.ntmps171;go_wp2_with fail;go_ret;exact ⟨aN (by simp),rfl⟩
def AL (a b:ByteArray):Int:=if Op.bytesLess a.toList b.toList=true then-1 else if (a.toList==b.toList)=true then 0 else 1
theorem PX (a b:ByteArray) (w:World):Calls Try.prog 135 #[.string a,.string b] w fun e w'=>e= .returned (.int .i64 (AL a b))/\w=w':=by
 cases h1:Op.bytesLess a.toList b.toList
 ·cases h2:a.toList==b.toList
  ·have hc:=aC (show AL a b=1 by unfold AL;rw [h1,h2];rfl)
   go_enter Try.func135,Try.ntmps135;go_wp2_with (go_at_call 171;refine (Er _ _).mono ?_;rintro e w1 ⟨rfl,rfl⟩);go_ret;exact ⟨pQ (by rw [hc.out]),rfl⟩
  ·have hc:=aC (show AL a b=0 by unfold AL;rw [h1,h2];rfl)
   go_enter Try.func135,Try.ntmps135;go_wp2_with (go_at_call 171;refine (Er _ _).mono ?_;rintro e w1 ⟨rfl,rfl⟩);go_ret;exact ⟨pQ (by rw [hc.out]),rfl⟩
 ·have hc:=aC (show AL a b= -1 by unfold AL;rw [h1];rfl)
  go_enter Try.func135,Try.ntmps135;go_wp2_with (go_at_call 171;refine (Er _ _).mono ?_;rintro e w1 ⟨rfl,rfl⟩);go_ret;exact ⟨pQ (by rw [hc.out]),rfl⟩
def lab (ls:List ByteArray) (i:Nat):ByteArray:=(ls[i]?).getD pR
def dz (a b:ByteArray):Bool:=Op.bytesLess a.toList b.toList
theorem fP (a:ByteArray):dz a a=false:=by
 unfold dz;rw [oN];simp [List.lt_irrefl]
theorem og {a b c:ByteArray} (h:dz a b=true) (k:dz b c=true):dz a c=true:=by
 unfold dz at*;rw [oN,decide_eq_true_eq] at*;exact List.lt_trans h k
theorem uL {a b c:ByteArray} (h:dz a b=false) (k:dz b c=false):dz a c=false:=by
 unfold dz at*;rw [oN,decide_eq_false_iff_not,Rz] at*;exact List.le_trans k h
theorem xQ {a b:ByteArray} (h:dz a b=false) (k:dz b a=false):a=b:=by
 unfold dz at*;rw [oN,decide_eq_false_iff_not,Rz] at*;have e:a.toList=b.toList:=List.le_antisymm k h;rw [yH,yH] at e
 cases a;cases b;simpa using Array.toList_inj.1 e
theorem PY {T:List Nd} (h:kY T=true):lW T 100 0=some T.length/\T.length<=10000/\∃x ys,T=x::ys/\x.s=pR/\x.k≠9:=by
 unfold kY at h;simp only [DC,decide_eq_true_eq] at h;obtain ⟨⟨h1,h2⟩,h3⟩:=h;refine ⟨h3,h1,?_⟩
 match T,h2 with
 |x::ys,h2=>
  unfold rD at h2;simp at h2;exact ⟨x,ys,rfl,h2.1,h2.2⟩
theorem aA.cZ {α:Type} {e size:Nat} {enc:α->List Value} {w:World} {base:Nat} {A:Option Addr} {cap:Nat} {l:List α} (h:aA e size enc w base A cap l):l.length<=cap:=by
 rcases h.2 with ⟨hv,hn⟩|⟨g,cap',cur,hv,_,_,hnc,_⟩
 ·rw [hn];exact h_ _
 ·injection hv with _ _ hc
  rw [hc];exact hnc
structure Trees (n:Nat) (ks:List Nd) (aG:List (List Nd)):Prop where
 len:aG.length=n
 flat:aG.flatten=ks
 one:∀ts∈aG,Fo 1 ts
def bC:Nat->List Nd->List (List Nd)
 |0,_=>[]
 |n+1,xs=>xs.take (xs.length-(Bz xs).length)::bC n (Bz xs)
theorem Ja:∀(n:Nat) (ks r:List Nd),Fo n ks->bC n (ks++r)=bC n ks/\Trees n ks (bC n ks)
 |0,ks,r,h=>by
  have:=h.wG;subst this
  exact ⟨rfl,rfl,rfl,fun ts hts=>by simp [bC] at hts⟩
 |n+1,ks,r,h=>by
  obtain ⟨ts,rs,rfl,h1,h2⟩:=h.first;obtain ⟨e1,e2⟩:=Ja n rs r h2;have hr1:Bz (ts++(rs++r))=rs++r:=Df h1;have hr2:Bz (ts++rs)=rs:=Df h1
  have s1:bC (n+1) (ts++rs++r)=ts::bC n rs:=by
   simp only [bC];rw [Dq,hr1,e1]
   congr 1
   rw [A_,DX];exact Qa
  have s2:bC (n+1) (ts++rs)=ts::bC n rs:=by
   simp only [bC];rw [hr2,A_,DX]
   congr 1
   exact Qa
  refine ⟨by rw [s1,s2],?_⟩;rw [s2];refine ⟨by simp [e2.len],by simp [e2.flat],fun t ht=>?_⟩;rcases Gz.1 ht with rfl|ht
  ·exact h1
  ·exact e2.one t ht
theorem vW {n:Nat} {ks:List Nd} (h:Fo n ks):Trees n ks (bC n ks):=(Ja n ks [] h).2
theorem Trees.fo {n:Nat} {ks:List Nd} {aG:List (List Nd)} (h:Trees n ks aG):Fo n ks:=by
 obtain ⟨h1,h2,h3⟩:=h;subst h1 h2
 induction aG with
 |nil=>exact Fo.zero
 |cons t aG ih=>
  rw [Ry,Bl,AA];exact (h3 t (by simp)).append (ih fun ts hts=>h3 ts (by simp [hts]))
theorem Trees.uniq {n:Nat} {ks:List Nd} {aG:List (List Nd)} (h:Trees n ks aG):aG=bC n ks:=by
 obtain ⟨h1,h2,h3⟩:=h;subst h1 h2
 induction aG with
 |nil=>rfl
 |cons t aG ih=>
  rw [Ry,Bl];simp only [bC];rw [Df (h3 t (by simp)),A_,DX,Qa,<-ih fun ts hts=>h3 ts (by simp [hts])]
theorem wI {aG:List (List Nd)} {k:Nat} {ts:List Nd} (h:aG[k]?=some ts):(aG.drop k).flatten=ts++(aG.drop (k+1)).flatten:=by
 rw [drop_cons h,Ry]
def Keep (P:World->Prop):Prop:=∀w w':World,P w->Below w.heap.size w w'->P w'
theorem Keep.and {P Q:World->Prop} (h:Keep P) (k:Keep Q):Keep fun w=>P w/\Q w:=fun w w' hp hb=>⟨h w w' hp.1 hb,k w w' hp.2 hb⟩
theorem Vu {α:Type} (size:Nat) (enc:α->List Value) (A:Option Addr) (l:List α):Keep fun w=>aX size enc w w.heap.size A l:=fun _ _ h hb=>(h.below hb).more hb.size
def Off (A B:Option Addr):Prop:=∀a b,A=some a->B=some b->a.block≠b.block
theorem Off.symm {A B:Option Addr} (h:Off A B):Off B A:=fun a b ha hb e=>h b a hb ha e.symm
theorem Off.app {A A' X:Option Addr} {n c n' c' N:Nat} (h:Off A X) (hA:(aO A' n' c').ownBlock=(aO A n c).ownBlock\/(aO A' n' c').ownBlock=some N) (hX:∀x,X=some x->x.block<N):Off A' X:=fun a x ha hx e=>by
 subst ha hx;rcases hA with hA|hA
 ·obtain ⟨b,hb,hbe⟩:=bA (hA.symm.trans (show (aO (some a) n' c').ownBlock=some a.block from rfl))
  exact h b x hb rfl (by rw [hbe,e])
 ·have:a.block=N:=by simpa [Value.ownBlock] using hA
  have:=hX x rfl;omega
theorem aA.lt {α:Type} {e size base:Nat} {enc:α->List Value} {w:World} {A:Option Addr} {cap:Nat} {l:List α} (h:aA e size enc w base A cap l):∀a,A=some a->base<=a.block/\a.block<w.heap.size:=fun a ha=>by
 subst ha;exact aA.block h a.block rfl
theorem GD {α:Type} {e size base n c:Nat} {enc:α->List Value} {A X:Option Addr} {cap:Nat} {l:List α} {w w':World} (h:aA e size enc w base X cap l) (hg:w.grownBy w' ((aO A n c).ownBlock)) (ho:Off A X):aA e size enc w' base X cap l:=
 aA.kept h hg fun k hk a ha e2=>by
  obtain ⟨b,hb,hbe⟩:=bA hk;exact ho b a hb ha (by rw [hbe,e2])
theorem below_app {w w':World} {B n c:Nat} {A:Option Addr} (hg:w.grownBy w' ((aO A n c).ownBlock)) (hB:B<=w.heap.size) (hA:∀a,A=some a->B<=a.block):Below B w w':=
 (aT B w).grown hg hB fun k hk=>by
  obtain ⟨a,ha,hab⟩:=bA hk;rw [<-hab];exact hA a ha
def sub (T:List Nd) (i:Nat):List Nd:=(T.drop i).take (endGo (T.drop i) 1 i-i)
variable (A:Option Addr) (c:Nat) (T:List Nd) (i:Int) (w:World)
def vq (vs:List (Option Addr×Nat×Nat)) (i:Nat):Option Addr×Nat×Nat:=(vs[i]?).getD (none,0,0)
theorem D9 (l:List (Option Addr×Nat×Nat)):l.flatMap encS=l.map fun v=>aO v.1 v.2.1 v.2.2:=by
 induction l with
 |nil=>rfl
 |cons a l ih=>rw [jy,ih];rfl
def dW (aG:List (List Nd)):List ByteArray:=aG.map fun t=>(bB t).s
theorem aA.ajb {w:World} {base:Nat} {A:Option Addr} {cap:Nat} {l:List (Option Addr×Nat×Nat)} (h:vE w base A cap l) {j:Nat} (hj:j<l.length) (v:Option Addr×Nat×Nat):
  ∃g,A=some ⟨g,0,none⟩/\base<=g/\g<w.heap.size/\(∃m,l[j]?=some m/\w.cell? ⟨g,j,none⟩=some (.slice m.1 m.2.1 m.2.2))/\w.frozen? ⟨g,j,none⟩=false/\
   vE (w.setCell ⟨g,j,none⟩ (.slice v.1 v.2.1 v.2.2)) base A cap (l.set j v)/\w.grownBy (w.setCell ⟨g,j,none⟩ (.slice v.1 v.2.1 v.2.2)) (some g):=by
 obtain ⟨m,hm⟩:=aD hj;obtain ⟨b,o,hA,hb,hc⟩:=aX.slice (aA.read jq h) hm;have h':w.ownsRow base 34 1 (.slice A l.length cap) l.length (l.flatMap encS):=h;rcases h'.2 with ⟨hv,hn⟩|⟨g,cap',cur,hv,hbg,hg,hnc,hcm,hcs,htake⟩
 ·injection hv with hA' hl hc'
  rw [hA'] at hA
  cases hA
 ·injection hv with hA' hl hc'
  subst hA';injection hA with hA
  injection hA with hA1 hA2 hA3
  subst hA1;rw [<-hA2,iE] at hc;obtain ⟨h2,h3⟩:=lM.stored h' j (.slice v.1 v.2.1 v.2.2);refine ⟨g,rfl,hbg,hb,⟨m,hm,hc⟩,lM.frozenAt h' j,?_,h3⟩;show (w.setCell ⟨g,j,none⟩ (.slice v.1 v.2.1 v.2.2)).ownsRow base 34 1 (.slice (some ⟨g,0,none⟩) (l.set j v).length cap) (l.set j v).length ((l.set j v).flatMap encS);rw [IJ,D9,List.map_set,<-D9];exact h2
def gN (aG:List (List Nd)):Bool:=match aG.getLast? with
 |none=>false
 |some t=>(bB t).k==9
def tq (aG:List (List Nd)) (i:Nat):List Nd:=(aG[i]?).getD []
def bI (aG:List (List Nd)):List (List Nd):=if gN aG then aG.take (aG.length-1) else aG
def jA (aG:List (List Nd)):List (List Nd):=if gN aG then aG.drop (aG.length-1) else []
theorem lN (aG:List (List Nd)):bI aG++jA aG=aG:=by
 unfold bI jA;split
 ·exact KO _ _
 ·simp
def XR (n:Int) (aG:List (List Nd)):Bool:=match jA aG with
 |[]=>false
 |t::_=>(bB t).n==n
def ajc (n:Int) (uk xk:Int) (outs:List (List Nd)):Bool:=XR n outs&&uk !=xk
def ajd (n:Int) (uk xk:Int) (nO outs:List (List Nd)):Bool:=XR n outs&&(!decide (dW (bI outs++bI nO)).Nodup&&uk==xk)
def aje (n:Int) (nO outs:List (List Nd)):Nat:=if XR n outs then (bI outs++bI nO).length+(jA nO).length else outs.length
def ajf (n:Int) (nO outs:List (List Nd)):Bool:=decide (50<aje n nO outs)
theorem below_grown {w w':World} (h:Below w.heap.size w w') (row:Option Nat):w.grownBy w' row:=⟨h.os,h.tape,h.output,h.size,fun k hk _=>h.block k hk⟩
inductive yM:Nat->Nd->Int->ByteArray->Nat->List Nd->Prop
 |nil (f:Nat) (x:Nd) (k:Int) (last:ByteArray):yM f x k last 0 []
 |cons {f:Nat} {x:Nd} {k:Int} {last:ByteArray} {d:Nat} {y:Nd} {ks rs:List Nd} (ho:bX y.k y.n=true) (hc:uJ x k last y=true)
   (h1:yM f y 0 pR (manyN y) ks) (h2:yM (f+1) x (k+1) y.s d rs):yM (f+1) x k last (d+1) (y::(ks++rs))
theorem yM.fo {f:Nat} {x:Nd} {k:Int} {last:ByteArray} {d:Nat} {ks:List Nd} (h:yM f x k last d ks):Fo d ks:=by
 induction h with
 |nil=>exact Fo.zero
 |cons ho hc h1 h2 i1 i2=>exact Fo.cons i1 i2
theorem yM.ok {f:Nat} {x:Nd} {k:Int} {last:ByteArray} {d:Nat} {ks:List Nd} (h:yM f x k last d ks):dF ks:=by
 induction h with
 |nil=>intro y hy;simp at hy
 |cons ho hc h1 h2 i1 i2=>
  intro z hz;simp only [Gz,JQ] at hz;rcases hz with rfl|hz|hz
  ·exact ho
  ·exact i1 z hz
  ·exact i2 z hz
theorem Y2 {T:List Nd} {f:Nat} (x:Nd)
  (ih:∀i j,lW T f i=some j->∃(g:Nat) (y:Nd) (ks rest:List Nd),f=g+1/\T.drop i=y::(ks++rest)/\j=i+1+ks.length/\yM g y 0 pR (manyN y) ks/\bX y.k y.n=true):
  ∀(d:Nat) (k:Int) (last:ByteArray) (i j:Nat),ql (lW T f) T x d k last i=some j->∃ks rest,T.drop i=ks++rest/\j=i+ks.length/\yM f x k last d ks:=by
 intro d
 induction d with
 |zero=>
  intro k last i j h;simp only [ql,Option.some.injEq] at h
  exact ⟨[],T.drop i,rfl,by simp [h],.nil _ _ _ _⟩
 |succ d ihd=>
  intro k last i j h;simp only [ql] at h;split at h
  ·cases h
  ·rename_i y hy
   split at h
   ·rename_i hc
    split at h
    ·cases h
    ·rename_i at' hat
     obtain ⟨g,y',ks,rest,rfl,hd,rfl,hr,ho⟩:=ih i at' hat;rw [drop_cons hy] at hd;injection hd with e1 e2
     subst e1;obtain ⟨rs,rest',hd2,rfl,hr2⟩:=ihd (k+1) y.s _ j h;have e3:T.drop (i+1+ks.length)=rest:=by rw [<-Jl,e2,RA]
     rw [e3] at hd2;refine ⟨y::(ks++rs),rest',?_,by simp;omega,.cons ho hc hr hr2⟩;rw [drop_cons hy,e2,hd2];simp
   ·cases h
theorem Y6 {T:List Nd}:∀(f i j:Nat),lW T f i=some j->∃(g:Nat) (y:Nd) (ks rest:List Nd),f=g+1/\T.drop i=y::(ks++rest)/\j=i+1+ks.length/\yM g y 0 pR (manyN y) ks/\bX y.k y.n=true:=by
 intro f
 induction f with
 |zero=>intro i j h;cases h
 |succ f ih=>
  intro i j h;simp only [lW] at h;split at h
  ·cases h
  ·rename_i y hy
   split at h
   ·rename_i ho
    obtain ⟨ks,rest,hd,rfl,hr⟩:=Y2 y ih _ _ _ _ _ h;exact ⟨f,y,ks,rest,rfl,by rw [drop_cons hy,hd],by omega,hr,ho⟩
   ·cases h
theorem yM.ql {f:Nat} {x:Nd} {k:Int} {last:ByteArray} {d:Nat} {ks:List Nd} (h:yM f x k last d ks):
  ∀(T rest:List Nd) (i:Nat),T.drop i=ks++rest->ql (lW T f) T x d k last i=some (i+ks.length):=by
 induction h with
 |nil=>intro T rest i hd;simp [Go.Proofs.Ytblfeokjlecgkaa.ql]
 |@cons f x k last d y ks rs ho hc h1 h2 i1 i2=>
  intro T rest i hd;have hd0:T.drop i=y::(ks++(rs++rest)):=by rw [hd];simp
  have hy:T[i]?=some y:=by
   have:=congrArg (fun l=>l[0]?) hd0;simpa using this
  have hd1:T.drop (i+1)=ks++(rs++rest):=by
   rw [drop_cons hy] at hd0;injection hd0
  have hd2:T.drop (i+1+ks.length)=rs++rest:=by rw [<-Jl,hd1,RA]
  have ht:lW T (f+1) i=some (i+1+ks.length):=by
   simp only [lW,hy];rw [if_pos ho];exact i1 T _ _ hd1
  simp only [Go.Proofs.Ytblfeokjlecgkaa.ql,hy,ht];rw [if_pos hc,i2 T rest _ hd2];simp;omega
structure IsR (T:List Nd) (y:Nd) (ks:List Nd):Prop where
 eq:T=y::ks
 len:T.length<=10000
 s:y.s=pR
 k:y.k≠9
 ok:bX y.k y.n=true
 rt:yM 99 y 0 pR (manyN y) ks
theorem XT {T:List Nd} (h:kY T=true):∃y ks,IsR T y ks:=by
 obtain ⟨ht,hl,x,ys,rfl,hs,hk⟩:=PY h;obtain ⟨g,y,ks,rest,hg,hd,hj,hr,ho⟩:=Y6 _ _ _ ht;have:g=99:=by omega
 subst this;have hd':x::ys=y::(ks++rest):=hd;injection hd' with e1 e2
 subst e1
 have:rest=[]:=by
  rw [e2] at hj;simp at hj;exact kZ (by omega)
 subst this;rw [ER] at e2;subst e2;exact ⟨x,ys,rfl,hl,hs,hk,ho,hr⟩
theorem IsR.right {T:List Nd} {y:Nd} {ks:List Nd} (h:IsR T y ks):kY T=true:=by
 have key:∀f,yM f y 0 pR (manyN y) ks->lW T (f+1) 0=some T.length:=by
  intro f hf;have hd:T.drop 1=ks++[]:=by rw [h.eq];simp
  have:=hf.ql T [] 1 hd;have hy:T[0]?=some y:=by rw [h.eq];rfl
  have hlen:T.length=1+ks.length:=by rw [h.eq];simp;omega
  simp only [lW,hy];rw [if_pos h.ok,hlen];exact this
 have ht:lW T 100 0=some T.length:=key 99 h.rt;unfold kY;simp only [DC,decide_eq_true_eq];refine ⟨⟨h.len,?_⟩,ht⟩;rw [h.eq];unfold rD;simp [h.s,h.k]
theorem Y7 {P:List Nd->Prop} (h:∀(x:Nd) (aG:List (List Nd)),Trees (manyN x) aG.flatten aG->(∀ts∈aG,P ts)->P (x::aG.flatten)):∀ts,Fo 1 ts->P ts:=by
 have key:∀(N:Nat) (ts:List Nd),ts.length<=N->Fo 1 ts->P ts:=by
  intro N
  induction N with
  |zero=>
   intro ts hl hf;have:=hf.pos
   omega
  |succ N ih=>
   intro ts hl hf
   match ts,hf with
   |[],hf=>cases hf
   |x::ys,hf=>
    obtain ⟨ks,rs,rfl,hks,hrs⟩:=hf.PU;have:=hrs.wG;subst this;rw [ER] at hl ⊢;have ht:=vW hks;rw [<-ht.flat];refine h x _ (by rw [ht.flat];exact ht) fun t hm=>ih t ?_ (ht.one t hm);have hle:t.length<=(bC (manyN x) ks).flatten.length:=List.Sublist.length_le (List.sublist_flatten_of_mem hm);rw [ht.flat] at hle;simp at hl;omega
 exact fun ts hf=>key ts.length ts (bN _) hf
def agZ (s:ByteArray):List Nd->List Nd
 |[]=>[]
 |x::ys=>x.name s::ys
def afJ (t:List Nd):List (List Nd)->List (List Nd)
 |[]=>[t]
 |s::l=>if dz (bB s).s (bB t).s=true then s::afJ t l else t::s::l
def afK:List (List Nd)->List (List Nd)
 |[]=>[]
 |t::l=>afJ t (afK l)
def aen (n:Int) (x:Nd) (nO outs:List (List Nd)):List Nd:=
 if XR n outs then ⟨x.k,x.s,((bI outs++bI nO).length+(jA nO).length:Nat)⟩::(afK (bI outs++bI nO)++jA nO).flatten
 else ⟨x.k,x.s,(outs.length:Nat)⟩::outs.flatten
def N8 (n:Int) (u:List Nd) (nO:List (List Nd)):Nat->List Nd->List Nd×Bool×Bool×Bool
 |0,_=>([],false,false,false)
 |_+1,[]=>([],false,false,false)
 |f+1,x::ks=>
  if x.k=8/\x.n=n then (agZ x.s u,false,false,false)
  else
   let rs:=(bC (manyN x) ks).map (N8 n u nO f)
   let outs:=rs.map (·.1)
   if av x.k=true then (aen n x nO outs,rs.any (·.2.1)||ajc n (bB u).k x.k outs,rs.any (·.2.2.1)||ajd n (bB u).k x.k nO outs,rs.any (·.2.2.2)||ajf n nO outs)
   else (x::outs.flatten,rs.any (·.2.1),rs.any (·.2.2.1),rs.any (·.2.2.2))
theorem Y8 (xs:List Nd):(Bz xs).length<=xs.length:=by
 unfold Bz
 cases h:skip xs 1 with
 |none=>simp
 |some ys=>
  obtain ⟨ps,rfl,_⟩:=Bw _ _ _ h;simp
theorem lQ:∀(d:Nat) (ks ts:List Nd),ts∈bC d ks->ts.length<=ks.length
 |0,ks,ts,h=>by simp [bC] at h
 |d+1,ks,ts,h=>by
  simp only [bC,Gz] at h;rcases h with rfl|h
  ·simp
  ·have:=lQ d _ _ h
   have:=Y8 ks;omega
theorem ag0 (n:Int) (u:List Nd) (nO:List (List Nd)):∀(f g:Nat) (ts:List Nd),ts.length<=f->ts.length<=g->N8 n u nO f ts=N8 n u nO g ts:=by
 intro f
 induction f with
 |zero=>
  intro g ts h _;have:ts=[]:=kZ (by omega);subst this
  cases g<;>rfl
 |succ f ih=>
  intro g ts h hg
  match ts,g,h,hg with
  |[],0,_,_=>rfl
  |[],g+1,_,_=>rfl
  |x::ks,g+1,h,hg=>
   have e:(bC (manyN x) ks).map (N8 n u nO f)=(bC (manyN x) ks).map (N8 n u nO g):=by
    refine Vg fun t ht=>ih g t ?_ ?_
    ·have:=lQ _ _ _ ht
     simp at h;omega
    ·have:=lQ _ _ _ ht
     simp at hg;omega
   simp only [N8,e]
theorem Fb {y:Nd} {ks:List Nd} (h:Fo (manyN y) ks) (d:Nat) (rs:List Nd):bC (d+1) (y::(ks++rs))=(y::ks)::bC d rs:=by
 have hf:Fo 1 (y::ks):=by
  have:=Fo.cons (n:=0) (x:=y) h Fo.zero;simpa using this
 have e:y::(ks++rs)=(y::ks)++rs:=rfl;simp only [bC];rw [e,Df hf,A_,DX,Qa]
theorem abt {y:Nd} (ho:bX y.k y.n=true) (hr:av y.k=true):(⟨y.k,y.s,(manyN y:Nat)⟩:Nd)=y:=by
 obtain ⟨M,hM,_,hn⟩:=vU ho;have:manyN y=M:=by unfold manyN;rw [hM];simp
 rw [this,<-hn hr]
theorem Jb {o:List Nd} {outs:List (List Nd)} (h:outs≠[]):gN (o::outs)=gN outs:=by
 unfold gN
 cases outs with
 |nil=>exact absurd rfl h
 |cons a l=>rw [List.getLast?_cons_cons]
theorem Y9 {o:List Nd} {outs:List (List Nd)} (h:outs≠[]):jA (o::outs)=jA outs:=by
 unfold jA;rw [Jb h];split
 ·cases outs with
  |nil=>exact absurd rfl h
  |cons a l=>simp
 ·rfl
theorem Y_ {o:List Nd} {outs:List (List Nd)} (h:outs≠[]):bI (o::outs)=o::bI outs:=by
 unfold bI;rw [Jb h];split
 ·cases outs with
  |nil=>exact absurd rfl h
  |cons a l=>simp
 ·rfl
section
variable {n:Int} {u:List Nd} {nO:List (List Nd)}
theorem wJ {t:List Nd} {l:List (List Nd)} (h:t∈bI l):t∈l:=by
 rw [<-lN l];exact List.mem_append_left _ h
end
def grd:Nat->List Nd->List Nd
 |0,_=>[]
 |_+1,[]=>[]
 |f+1,x::ks=>
  if x.k=8\/(x.k=7/\(bI (bC (manyN x) ks)).length=0) then [⟨4,x.s,0⟩]
  else (if av x.k=true then ⟨x.k,x.s,((bI (bC (manyN x) ks)).length:Nat)⟩ else x)::((bI (bC (manyN x) ks)).map (grd f)).flatten
def gM (ts:List Nd):List Nd:=grd ts.length ts
theorem Za:∀(f g:Nat) (ts:List Nd),ts.length<=f->ts.length<=g->grd f ts=grd g ts:=by
 intro f
 induction f with
 |zero=>
  intro g ts h _;have:ts=[]:=kZ (by omega);subst this
  cases g<;>rfl
 |succ f ih=>
  intro g ts h hg
  match ts,g,h,hg with
  |[],0,_,_=>rfl
  |[],g+1,_,_=>rfl
  |x::ks,g+1,h,hg=>
   have e:(bI (bC (manyN x) ks)).map (grd f)=(bI (bC (manyN x) ks)).map (grd g):=by
    refine Vg fun t ht=>ih g t ?_ ?_
    ·have:=lQ _ _ _ (wJ ht)
     simp at h;omega
    ·have:=lQ _ _ _ (wJ ht)
     simp at hg;omega
   simp only [grd,e]
theorem abu {f:Nat} {ts:List Nd} (h:ts.length<=f):grd f ts=gM ts:=Za _ _ _ h (bN _)
theorem Es (x:Nd) (ks:List Nd):gM (x::ks)=if x.k=8\/(x.k=7/\(bI (bC (manyN x) ks)).length=0) then [⟨4,x.s,0⟩]
  else (if av x.k=true then ⟨x.k,x.s,((bI (bC (manyN x) ks)).length:Nat)⟩ else x)::((bI (bC (manyN x) ks)).map gM).flatten:=by
 have e:(bI (bC (manyN x) ks)).map (grd ks.length)=(bI (bC (manyN x) ks)).map gM:=
  Vg fun t ht=>abu (lQ _ _ _ (wJ ht))
 show grd (ks.length+1) (x::ks)=_;simp only [grd,e]
theorem N_ (l:List (List Nd)):(bI l).flatten.length<=l.flatten.length:=by
 have:=congrArg (fun z=>(List.flatten z).length) (lN l);simp only [WS,A_] at this;omega
theorem zM {p:List Nd->List Nd}:∀{l:List (List Nd)},(∀t∈l,(p t).length<=t.length)->(l.map p).flatten.length<=l.flatten.length
 |[],_=>by simp
 |t::l,h=>by
  have h1:=h t (by simp);have h2:=zM (p:=p) (l:=l) fun s hs=>h s (List.mem_cons_of_mem _ hs);simp only [List.map_cons,Ry,A_];omega
theorem R_:∀ts,Fo 1 ts->(gM ts).length<=ts.length:=
 Y7 fun x aG ht ih=>by
  rw [Es,<-ht.uniq];split
  ·simp
  ·have h1:=zM (p:=gM) fun t (hm:t∈bI aG)=>ih t (wJ hm)
   have h2:=N_ aG;simp only [Bl];omega
theorem aeo (l:List (List Nd)):(bI l).length<=l.length:=by
 unfold bI;split
 ·rw [zH];omega
 ·exact bN _
def xR (n:Int) (l:List Int) (k:Nat):Bool:=decide (n∈l.drop k)
theorem P5 {n m:Int} {l:List Int} {k:Nat} (h:l[k]?=some m):xR n l k=(m==n||xR n l (k+1)):=by
 unfold xR;rw [drop_cons h];by_cases e:m=n
 ·simp [e]
 ·have e':¬n=m:=fun h=>e h.symm
  simp [e,e']
theorem Sb {n:Int} {l:List Int} {k:Nat} (h:¬k<l.length):xR n l k=false:=by
 unfold xR;rw [List.drop_eq_nil_of_le (by omega)];simp
theorem XU (A:Option Addr) (c Ba:Nat) (l:List Int) (n:Int) (w:World) (ha:Kr w Ba A l) (hl:l.length<=9223372036854775807):
  Calls Try.prog 44 #[.slice A l.length c,.int .i64 n] w fun e w'=>e= .returned (.bool (decide (n∈l)))/\w=w':=by
 have h0:Hid (xR n l 0=decide (n∈l)):=aC (by unfold xR;rw [Kk]);go_enter Try.func44,Try.ntmps44;go_wp2_with fail;go_loop [5] (fun i=>∃k:Nat,k<=l.length/\i= .int .i64 k/\Hid (xR n l k=decide (n∈l))) (fun i=>l.length-(intOf i).toNat)
 case atStart=>exact ⟨0,h_ _,rfl,h0⟩
 case round=>
  clear h0;obtain ⟨k,hk,rfl,hgood⟩:=hrel;by_cases hp:k<l.length
  ·obtain ⟨m,hm⟩:=aD hp
   have hstep:=aC (P5 (n:=n) hm);obtain ⟨b,o,rfl,hb,c0⟩:=aX.int ha hm;clear hm
   cases e:(m==n)
   ·have E:=aC e
    go_wp2_with fail;go_round
    case rel=>exact ⟨k+1,hp,by go_num,aC (by rw [<-hgood.out,hstep.out,E.out];rfl)⟩
    case measure=>simp [intOf];omega
   ·have E:=aC e
    go_wp2_with fail;go_ret;exact ⟨aN (by rw [<-hgood.out,hstep.out,E.out];rfl),rfl⟩
  ·have hend:=aC (Sb (n:=n) hp)
   go_wp2_with fail;go_ret;exact ⟨aN (by rw [<-hgood.out,hend.out]),rfl⟩
def vL (x:Nd):Bool:=decide (x.s.size<=100)
def Jc (xs:List Nd) (m:Int):Bool:=decide ((xs.length:Int)<=m)&&(xs.all vL&&iR xs)
theorem Jd {xs:List Nd} {m:Int} (h:Jc xs m=true):(xs.length:Int)<=m/\(∀x∈xs,x.s.size<=100)/\iR xs=true:=by
 unfold Jc at h;simp only [DC,decide_eq_true_eq,SI] at h;exact ⟨h.1,fun x hx=>of_decide_eq_true (h.2.1 x hx),h.2.2⟩
theorem abv (A:Option Addr) (c:Nat) (xs:List Nd) (m:Int) (w:World) (ha:aM w w.heap.size A xs) (hl:xs.length<=9223372036854775807) (hs:∀x∈xs,x.s.size<=9223372036854775807):
  Calls Try.prog 50 #[.slice A xs.length c,.int .i64 m] w fun e w'=>e= .returned (.bool (Jc xs m))/\Below w.heap.size w w':=by
 have Hs:=aC hs;clear hs;by_cases h0:(xs.length:Int)<=m
 ·have h0':¬m<(xs.length:Int):=by omega
  have H0:=aC h0;clear h0;go_enter Try.func50,Try.ntmps50;go_wp2_with fail;go_loop [5] (fun i=>∃k:Nat,k<=xs.length/\i= .int .i64 k/\Hid (wD vL xs k=xs.all vL)) (fun i=>xs.length-(intOf i).toNat)
  case atStart=>exact ⟨0,h_ _,rfl,aC rfl⟩
  case round=>
   clear h0';obtain ⟨k,hk,rfl,hgood⟩:=hrel;by_cases hp:k<xs.length
   ·obtain ⟨x,hx⟩:=aD hp
    have hstep:=aC (D5 (p:=vL) hx);have hxs:=Hs.out x (List.mem_of_getElem? hx);obtain ⟨b1,o1,rfl,hb1,c10,c11,c12⟩:=ha.at_ hx;clear hx;by_cases I8:x.s.size<=100
    ·have Vn:¬(100:Int)<(x.s.size:Int):=by omega
     have H:=aC I8;clear I8;go_wp2_with fail;go_round
     case rel=>exact ⟨k+1,hp,by go_num,aC (by rw [<-hgood.out,hstep.out];simp [vL,H.out])⟩
     case measure=>simp [intOf];omega
    ·have Vn:(100:Int)<(x.s.size:Int):=by omega
     have H:=aC I8;clear I8;go_wp2_with fail;go_ret
     exact ⟨aN (by
      have e:xs.all vL=false:=by rw [<-hgood.out,hstep.out];simp [vL,H.out]
      unfold Jc;rw [e];simp),aT _ _⟩
   ·have hend:=aC (EZ (p:=vL) hp)
    go_wp2_with fail;refine (Bv A c xs _ ha hl Hs.out).mono ?_;rintro e w1 ⟨rfl,hb⟩;go_wp2_with fail;go_ret
    exact ⟨aN (by
     have e:xs.all vL=true:=by rw [<-hgood.out,hend.out]
     unfold Jc;rw [e,decide_eq_true H0.out];simp),hb⟩
 ·have h0':m<(xs.length:Int):=by omega
  have H0:=aC h0;clear h0;go_enter Try.func50,Try.ntmps50;go_wp2_with fail;go_ret;exact ⟨aN (by unfold Jc;rw [decide_eq_false (by have:=H0.out;omega)];rfl),aT _ _⟩
def gG:Int->List Nd->List Nd
 |_,[]=>[]
 |n,x::xs=>if x.k=0 then ⟨8,x.s,n⟩::gG (n+1) xs else x::gG n xs
def jc:List Nd->Nat
 |[]=>0
 |x::xs=>(if x.k=0 then 1 else 0)+jc xs
theorem qo (x:Nd) (xs:List Nd):jc (x::xs)=(if x.k=0 then 1 else 0)+jc xs:=rfl
theorem vM (n:Int) (x:Nd) (xs:List Nd):gG n (x::xs)=if x.k=0 then ⟨8,x.s,n⟩::gG (n+1) xs else x::gG n xs:=rfl
theorem uM:∀(n:Int) (xs:List Nd),(gG n xs).length=xs.length
 |_,[]=>rfl
 |n,x::xs=>by
  unfold gG;split<;>simp [uM]
theorem Sc:∀xs:List Nd,jc xs<=xs.length
 |[]=>bN _
 |x::xs=>by
  have:=Sc xs;unfold jc;split<;>simp<;>omega
theorem Fe:∀(a b:List Nd),jc (a++b)=jc a+jc b
 |[],b=>by simp [jc]
 |x::a,b=>by
  rw [Gx,qo,qo,Fe a b];omega
theorem KF {xs:List Nd} {i:Nat} {x:Nd} (h:xs[i]?=some x):jc (xs.take (i+1))=jc (xs.take i)+if x.k=0 then 1 else 0:=by
 rw [GZ,h,Fe];simp [jc]
def nC (n:Int) (xs:List Nd) (i:Nat):List Nd:=gG n (xs.take i)++xs.drop i
theorem mJ:∀(n:Int) (a b:List Nd),gG n (a++b)=gG n a++gG (n+(jc a:Nat)) b
 |n,[],b=>by simp [gG,jc]
 |n,x::a,b=>by
  rw [Gx,vM,vM,qo];by_cases hx:x.k=0
  ·have e:n+1+(jc a:Nat)=n+((1+jc a:Nat):Int):=by push_cast;omega
   rw [if_pos hx,if_pos hx,if_pos hx,mJ (n+1) a b,Gx,e]
  ·rw [if_neg hx,if_neg hx,if_neg hx,mJ n a b,Gx,iE]
theorem Ni (n:Int) (xs:List Nd):nC n xs 0=xs:=by simp [nC,gG]
theorem P6 (n:Int) (xs:List Nd):nC n xs xs.length=gG n xs:=by simp [nC]
theorem P7 (n:Int) (xs:List Nd) (i:Nat):(nC n xs i).length=xs.length:=by
 unfold nC;rw [A_,uM,<-A_,KO]
theorem Je {n:Int} {xs:List Nd} {i:Nat} {x:Nd} (h:xs[i]?=some x):(nC n xs i)[i]?=some x:=by
 have hi:=bf h;unfold nC;have hl:(gG n (xs.take i)).length=i:=by rw [uM,zH];omega
 rw [zA (by omega),hl,Vf,RD];simpa using h
theorem D_ {n:Int} {xs:List Nd} {i:Nat} {x:Nd} (h:xs[i]?=some x):nC n xs (i+1)=(nC n xs i).set i (if x.k=0 then ⟨8,x.s,n+(jc (xs.take i):Nat)⟩ else x):=by
 have hi:=bf h;have hl:(gG n (xs.take i)).length=i:=by rw [uM,zH];omega
 unfold nC;rw [GZ,h,mJ,Iq _ _ (by omega),hl,Vf,drop_cons h,Dq]
 congr 1
 by_cases hx:x.k=0
 ·simp [gG,hx]
 ·simp [gG,hx]
theorem Ea (v:Int) (x:Nd):∀(l:List Nd) (j:Nat),l[j]?=some x->(l.set j ⟨v,x.s,x.n⟩).flatMap iQ=(l.flatMap iQ).set (j*3) (.int .i64 v)
 |[],j,h=>by simp at h
 |y::l,0,h=>by
  simp at h;subst h;rw [List.set_cons_zero,jy,jy]
  rfl
 |y::l,j+1,h=>by
  rw [Oo] at h;rw [List.set_cons_succ,jy,jy,Ea v x l j h,Iq _ _ (by rw [lJ];omega),lJ,show (j+1)*3-3=j*3 by omega]
theorem aA.ajg {w:World} {base:Nat} {A:Option Addr} {cap:Nat} {l:List Nd} (h:fA w base A cap l) {j:Nat} {x:Nd} (hx:l[j]?=some x) (v:Int):
  ∃g,A=some ⟨g,0,none⟩/\base<=g/\g<w.heap.size/\w.cell? ⟨g,j*3,none⟩=some (.int .i64 x.k)/\w.frozen? ⟨g,j*3,none⟩=false/\
   fA (w.setCell ⟨g,j*3,none⟩ (.int .i64 v)) base A cap (l.set j ⟨v,x.s,x.n⟩)/\w.grownBy (w.setCell ⟨g,j*3,none⟩ (.int .i64 v)) (some g):=by
 obtain ⟨b,o,hA,hb,c0,c1,c2⟩:=(aA.g_ h).at_ hx;have hc:=c0;have h':w.ownsRow base 48 3 (.slice A l.length cap) l.length (l.flatMap iQ):=h;rcases h'.2 with ⟨hv,hn⟩|⟨g,cap',cur,hv,hbg,hg,hnc,hcm,hcs,htake⟩
 ·injection hv with hA' hl hc'
  rw [hA'] at hA
  cases hA
 ·injection hv with hA' hl hc'
  subst hA';injection hA with hA
  injection hA with hA1 hA2 hA3
  subst hA1;rw [<-hA2,iE] at hc;obtain ⟨h2,h3⟩:=lM.stored h' (j*3) (.int .i64 v);refine ⟨g,rfl,hbg,hb,hc,lM.frozenAt h' _,?_,h3⟩;show (w.setCell ⟨g,j*3,none⟩ (.int .i64 v)).ownsRow base 48 3 (.slice (some ⟨g,0,none⟩) (l.set j ⟨v,x.s,x.n⟩).length cap) (l.set j ⟨v,x.s,x.n⟩).length ((l.set j ⟨v,x.s,x.n⟩).flatMap iQ);rw [IJ,Ea v x l j hx];exact h2
theorem Eb (v:Int) (x:Nd):∀(l:List Nd) (j:Nat),l[j]?=some x->(l.set j ⟨x.k,x.s,v⟩).flatMap iQ=(l.flatMap iQ).set (j*3+2) (.int .i64 v)
 |[],j,h=>by simp at h
 |y::l,0,h=>by
  simp at h;subst h;rw [List.set_cons_zero,jy,jy]
  rfl
 |y::l,j+1,h=>by
  rw [Oo] at h;rw [List.set_cons_succ,jy,jy,Eb v x l j h,Iq _ _ (by rw [lJ];omega),lJ,show (j+1)*3+2-3=j*3+2 by omega]
theorem aA.Fg {w:World} {base:Nat} {A:Option Addr} {cap:Nat} {l:List Nd} (h:fA w base A cap l) {j:Nat} {x:Nd} (hx:l[j]?=some x) (v:Int):
  ∃g,A=some ⟨g,0,none⟩/\base<=g/\g<w.heap.size/\w.cell? ⟨g,j*3+2,none⟩=some (.int .i64 x.n)/\w.frozen? ⟨g,j*3+2,none⟩=false/\
   fA (w.setCell ⟨g,j*3+2,none⟩ (.int .i64 v)) base A cap (l.set j ⟨x.k,x.s,v⟩)/\w.grownBy (w.setCell ⟨g,j*3+2,none⟩ (.int .i64 v)) (some g):=by
 obtain ⟨b,o,hA,hb,c0,c1,c2⟩:=(aA.g_ h).at_ hx;have hc:=c2;have h':w.ownsRow base 48 3 (.slice A l.length cap) l.length (l.flatMap iQ):=h;rcases h'.2 with ⟨hv,hn⟩|⟨g,cap',cur,hv,hbg,hg,hnc,hcm,hcs,htake⟩
 ·injection hv with hA' hl hc'
  rw [hA'] at hA
  cases hA
 ·injection hv with hA' hl hc'
  subst hA';injection hA with hA
  injection hA with hA1 hA2 hA3
  subst hA1;rw [<-hA2,iE] at hc;obtain ⟨h2,h3⟩:=lM.stored h' (j*3+2) (.int .i64 v);refine ⟨g,rfl,hbg,hb,hc,lM.frozenAt h' _,?_,h3⟩;show (w.setCell ⟨g,j*3+2,none⟩ (.int .i64 v)).ownsRow base 48 3 (.slice (some ⟨g,0,none⟩) (l.set j ⟨x.k,x.s,v⟩).length cap) (l.set j ⟨x.k,x.s,v⟩).length ((l.set j ⟨x.k,x.s,v⟩).flatMap iQ);rw [IJ,Eb v x l j hx];exact h2
theorem set_self {α:Type} {l:List α} {k:Nat} {x:α} (h:l[k]?=some x):l.set k x=l:=by
 refine List.ext_getElem? fun i=>?_;rw [List.getElem?_set];split
 ·next e=>
  subst e;rw [if_pos (bf h),h]
 ·rfl
def ag1 (w:World) (xs:List Nd) (n:Int) (e:Ending) (w':World):Prop:=∃A' cap',e= .returned (.tuple #[.slice A' xs.length cap',.int .i64 n])/\fA w' w.heap.size A' cap' xs/\Below w.heap.size w w'
theorem Ec (v:ByteArray) (x:Nd):∀(l:List Nd) (j:Nat),l[j]?=some x->(l.set j ⟨x.k,v,x.n⟩).flatMap iQ=(l.flatMap iQ).set (j*3+1) (.string v)
 |[],j,h=>by simp at h
 |y::l,0,h=>by
  simp at h;subst h;rw [List.set_cons_zero,jy,jy]
  rfl
 |y::l,j+1,h=>by
  rw [Oo] at h;rw [List.set_cons_succ,jy,jy,Ec v x l j h,Iq _ _ (by rw [lJ];omega),lJ,show (j+1)*3+1-3=j*3+1 by omega]
theorem aA.Sg {w:World} {base:Nat} {A:Option Addr} {cap:Nat} {l:List Nd} (h:fA w base A cap l) {j:Nat} {x:Nd} (hx:l[j]?=some x) (v:ByteArray):
  ∃g,A=some ⟨g,0,none⟩/\base<=g/\g<w.heap.size/\w.cell? ⟨g,j*3+1,none⟩=some (.string x.s)/\w.frozen? ⟨g,j*3+1,none⟩=false/\
   fA (w.setCell ⟨g,j*3+1,none⟩ (.string v)) base A cap (l.set j ⟨x.k,v,x.n⟩)/\w.grownBy (w.setCell ⟨g,j*3+1,none⟩ (.string v)) (some g):=by
 obtain ⟨b,o,hA,hb,c0,c1,c2⟩:=(aA.g_ h).at_ hx;have hc:=c1;have h':w.ownsRow base 48 3 (.slice A l.length cap) l.length (l.flatMap iQ):=h;rcases h'.2 with ⟨hv,hn⟩|⟨g,cap',cur,hv,hbg,hg,hnc,hcm,hcs,htake⟩
 ·injection hv with hA' hl hc'
  rw [hA'] at hA
  cases hA
 ·injection hv with hA' hl hc'
  subst hA';injection hA with hA
  injection hA with hA1 hA2 hA3
  subst hA1;rw [<-hA2,iE] at hc;obtain ⟨h2,h3⟩:=lM.stored h' (j*3+1) (.string v);refine ⟨g,rfl,hbg,hb,hc,lM.frozenAt h' _,?_,h3⟩;show (w.setCell ⟨g,j*3+1,none⟩ (.string v)).ownsRow base 48 3 (.slice (some ⟨g,0,none⟩) (l.set j ⟨x.k,v,x.n⟩).length cap) (l.set j ⟨x.k,v,x.n⟩).length ((l.set j ⟨x.k,v,x.n⟩).flatMap iQ);rw [IJ,Ec v x l j hx];exact h2
theorem aA.aep {w:World} {base:Nat} {A:Option Addr} {cap:Nat} {l:List Nd} (h:fA w base A cap l) {j:Nat} {x:Nd} (hx:l[j]?=some x) (y:Nd):
  ∃g,A=some ⟨g,0,none⟩/\base<=g/\g<w.heap.size/\(w.cell? ⟨g,j*3,none⟩=some (.int .i64 x.k)/\w.frozen? ⟨g,j*3,none⟩=false)/\(w.cell? ⟨g,j*3+1,none⟩=some (.string x.s)/\w.frozen? ⟨g,j*3+1,none⟩=false)/\(w.cell? ⟨g,j*3+2,none⟩=some (.int .i64 x.n)/\w.frozen? ⟨g,j*3+2,none⟩=false)/\
   Hid (fA (((w.setCell ⟨g,j*3,none⟩ (.int .i64 y.k)).setCell ⟨g,j*3+1,none⟩ (.string y.s)).setCell ⟨g,j*3+2,none⟩ (.int .i64 y.n)) base A cap (l.set j y)/\
    w.grownBy (((w.setCell ⟨g,j*3,none⟩ (.int .i64 y.k)).setCell ⟨g,j*3+1,none⟩ (.string y.s)).setCell ⟨g,j*3+2,none⟩ (.int .i64 y.n)) (some g)):=by
 obtain ⟨g,rfl,hbg,hg,ck,fk,h1,g1⟩:=aA.ajg h hx y.k;obtain ⟨gs,es,_,_,cs,fs,_,_⟩:=aA.Sg h hx y.s;injection es with es
 injection es with es _ _
 subst es;obtain ⟨gm,em,_,_,cm,fm,_,_⟩:=aA.Fg h hx y.n;injection em with em
 injection em with em _ _
 subst em;refine ⟨g,rfl,hbg,hg,⟨ck,fk⟩,⟨cs,fs⟩,⟨cm,fm⟩,?_⟩;have hx2:(l.set j ⟨y.k,x.s,x.n⟩)[j]?=some ⟨y.k,x.s,x.n⟩:=by rw [Ve (bf hx)]
 obtain ⟨g4,e4,_,_,_,_,h4,g2⟩:=aA.Sg h1 hx2 y.s;injection e4 with e4
 injection e4 with e4 _ _
 subst e4;rw [Xq] at h4;have hx3:(l.set j ⟨y.k,y.s,x.n⟩)[j]?=some ⟨y.k,y.s,x.n⟩:=by rw [Ve (bf hx)]
 obtain ⟨g5,e5,_,_,_,_,h5,g3⟩:=aA.Fg h4 hx3 y.n;injection e5 with e5
 injection e5 with e5 _ _
 subst e5;rw [Xq] at h5;exact aC ⟨h5,fD (fD g1 g2) g3⟩
theorem Si (A:Option Addr) (c:Nat) (xs:List Nd) (n:Int) (w:World) (ha:aM w w.heap.size A xs) (hl:xs.length<=1000000) (hn0:0<=n) (hn1:n<=1000000):
  Calls Try.prog 136 #[.slice A xs.length c,.int .i64 n] w (ag1 w (gG n xs) (n+(jc xs:Nat))):=by
 have Ha:=aC ha;have hown0:=aC (dV 48 3 iQ w);have hb0:=aC (ak (aT w.heap.size w) (.cells #[] 48));clear ha;go_enter Try.func136,Try.ntmps136;go_wp2_with (at_builtin;refine eH rfl (.tmp 8) (.tmp 9) rfl w.heap.size (l:=[]) rfl hown0.out (l2:=xs) rfl (Ha.out.below hb0.out) (by simp;omega) (by simp) ?_;intro A1 c1 w1 hown1 hg1 _);rw [RU] at hown1;have M:=aC (Gw hown1 (eG hb0.out hg1 (fun k hk=>(aA.block hown0.out k hk).1)));clear hown1 hg1 hown0 hb0
 go_loopw [1,7] (fun s1 s7 wr=>∃k d:Nat,s1= .int .i64 (n+d)/\s7= .int .i64 k/\k<=xs.length/\d<=1000000/\Hid (d=jc (xs.take k))/\Hid (fA wr w.heap.size A1 c1 (nC n xs k)/\Below w.heap.size w wr))
  (fun _ s7 _=>xs.length-(intOf s7).toNat)
 case atStart=>exact ⟨0,0,by simp,rfl,h_ _,by omega,aC (by simp [jc]),aC ⟨by rw [Ni];exact M.out.1,M.out.2⟩⟩
 case round=>
  clear M;obtain ⟨k,d,rfl,rfl,hk,hd6,hd,M⟩:=hrel;by_cases hp:k<xs.length
  ·obtain ⟨x,hx⟩:=aD hp
   have Hx:=aC hx;obtain ⟨g,rfl,hbg,hg,⟨ck,fk⟩,⟨cs,fs⟩,⟨cm,fm⟩,M2⟩:=aA.aep M.out.1 (Je (n:=n) hx) ⟨8,x.s,n+d⟩;have hfl:=aC (P7 n xs k);clear hx
   cases h0:(x.k==0)
   ·have H0:=aC h0
    go_wp2_with fail;go_roundw
    case rel=>exact ⟨k+1,d,rfl,by go_num,hp,hd6,aC (by
     rw [hd.out,KF Hx.out,if_neg (by simpa using H0.out)];rfl),aC ⟨by
     rw [D_ Hx.out,if_neg (by simpa using H0.out),set_self (Je Hx.out)];exact M.out.1,M.out.2⟩⟩
    case measure=>simp [intOf];omega
   ·have H0:=aC h0
    have hdx:d<=k:=by
     have:=Sc (xs.take k);rw [zH] at this;have:=hd.out;omega
    go_wp2_with fail;go_roundw
    case rel=>exact ⟨k+1,d+1,by go_num,by go_num,hp,by omega,aC (by
     rw [hd.out,KF Hx.out,if_pos (by simpa using H0.out)]),aC ⟨by
     rw [D_ Hx.out,if_pos (by simpa using H0.out),<-hd.out];exact M2.out.1,M.out.2.grown M2.out.2 M.out.2.size (fun q hq=>by cases hq;exact hbg)⟩⟩
    case measure=>simp [intOf];omega
  ·have hkk:k=xs.length:=by omega
   subst hkk;go_wp2_with fail;go_ret2;have e:=P6 n xs;refine ⟨A1,c1,?_,?_,M.out.2⟩
   ·rw [uM,hd.out,M9]
    rfl
   ·rw [<-e];exact M.out.1
theorem Sj (A:Option Addr) (c:Nat) (x:Nd) (ks:List Nd) (w:World) (ha:aM w w.heap.size A (x::ks)) (hl:(x::ks).length<=1000000):
  Calls Try.prog 138 #[.slice A (x::ks).length c] w (jP w (PW (x::ks))):=by
 have Ha:=aC ha;have hown0:=aC (dV 48 3 iQ w);have hb0:=aC (ak (aT w.heap.size w) (.cells #[] 48));clear ha;obtain ⟨xs,hxs⟩:∃xs,xs=x::ks:=⟨_,rfl⟩;have HX:=aC hxs;rw [<-hxs] at Ha hl ⊢;have hpos:0<xs.length:=by rw [hxs];simp
 clear hxs;go_enter Try.func138,Try.ntmps138;go_wp2_with (at_builtin;refine eH rfl (.tmp 4) (.tmp 5) rfl w.heap.size (l:=[]) rfl hown0.out (l2:=xs) rfl (Ha.out.below hb0.out) (by simp;omega) (by simp) ?_;intro A1 c1 w1 hown1 hg1 _;rw [RU] at hown1;have B1:=aC (eG hb0.out hg1 (fun k hk=>(aA.block hown0.out k hk).1));obtain ⟨g,rfl,hbg,hg,e1,e2,qm,Jf⟩:=aA.Sg hown1 (j:=0) (x:=x) (by rw [HX.out];rfl) pR;have K4:=aC (Gw qm (Gw Jf hbg));clear hown1 hg1 qm Jf;simp only [Nat.zero_mul,iE] at e1 e2);go_ret;refine ⟨some ⟨g,0,none⟩,c1,?_,?_,?_⟩
 ·rw [Nh];simp
 ·have h:=K4.out.1
  have e:xs.set 0 ⟨x.k,pR,x.n⟩=PW xs:=by rw [HX.out];rfl
  rw [e] at h;exact h
 ·exact B1.out.grown K4.out.2.1 B1.out.size (fun q hq=>by cases hq;exact K4.out.2.2)
abbrev QV:=Int×(Option Addr×Nat×Nat)
def BF (q:QV):List Value:=[.int .i64 q.1,.slice q.2.1 q.2.2.1 q.2.2.2]
abbrev Et (w:World) (B:Nat) (A:Option Addr) (l:List QV):Prop:=aX 2 BF w B A l
def Tab (w:World) (B:Nat) (vs:List QV) (ts:List (Int×List Nd)):Prop:=vs.length=ts.length/\∀(i:Nat) (v:QV) (t:Int×List Nd),vs[i]?=some v->ts[i]?=some t->v.1=t.1/\v.2.2.1=t.2.length/\t.2.length<=v.2.2.2/\aM w B v.2.1 t.2
theorem Tab.below {w w':World} {B:Nat} {vs:List QV} {ts:List (Int×List Nd)} (h:Tab w B vs ts) (hb:Below B w w'):Tab w' B vs ts:=
 ⟨h.1,fun i v t hv ht=>by obtain ⟨a,b,c,d⟩:=h.2 i v t hv ht;exact ⟨a,b,c,d.below hb⟩⟩
theorem Et.at_ {w:World} {B:Nat} {A:Option Addr} {l:List QV} (h:Et w B A l) {i:Nat} {v:QV} (hn:l[i]?=some v):
  ∃b o,A=some ⟨b,o,none⟩/\b<B/\w.cell? ⟨b,o+i*2,none⟩=some (.int .i64 v.1)/\w.cell? ⟨b,o+i*2+1,none⟩=some (.slice v.2.1 v.2.2.1 v.2.2.2):=by
 obtain ⟨b,o,e,h1,h2⟩:=h (by rintro rfl;simp at hn);have h3:=h2 i v hn;exact ⟨b,o,e,h1,h3 0 _ rfl,h3 1 _ rfl⟩
def Eu (ts:List (Int×List Nd)) (n:Int):Option (List Nd):=(ts.find? fun p=>decide (p.1=n)).map (·.2)
def Zb (r:Option (List Nd)) (w:World) (e:Ending) (w':World):Prop:=Below w.heap.size w w'/\match r with
 |none=>e= .returned (.tuple #[.slice none 0 0,.bool false])
 |some t=>∃A c,e= .returned (.tuple #[.slice A t.length c,.bool true])/\aM w' w.heap.size A t/\t.length<=c
theorem Sk {ts:List (Int×List Nd)} {n:Int} (h:∀p∈ts,p.1≠n):Eu ts n=none:=by
 unfold Eu;rw [XV.2 fun p hp=>by simpa using h p hp];rfl
theorem Vv {ts:List (Int×List Nd)} {n:Int} {i:Nat} {t:Int×List Nd} (h:∀p∈ts.take i,p.1≠n) (ht:ts[i]?=some t) (e:t.1=n):Eu ts n=some t.2:=by
 unfold Eu
 have:ts=ts.take i++t::ts.drop (i+1):=by
  rw [<-drop_cons ht,KO]
 rw [this,List.find?_append,XV.2 fun p hp=>by simpa using h p hp,List.find?_cons_of_pos (by simpa using e)];rfl
theorem Jg (f x:Int) (L:Option Addr) (c:Nat) (vs:List QV) (ts:List (Int×List Nd)) (n:Int) (w:World) (hL:Et w w.heap.size L vs) (hT:Tab w w.heap.size vs ts) (hl:vs.length<=1000000):
  Calls Try.prog 99 #[.agg #[.int .i64 f,.int .i64 x,.slice L vs.length c],.int .i64 n] w (Zb (Eu ts n) w):=by
 have HB:=aC (ak (aT w.heap.size w) (.cells #[.int .i64 f,.int .i64 x,.slice L vs.length c] 29));have H:=aC (Gw hL hT);have Vw:=aC hT.1;clear hL hT;go_enter Try.func99,Try.ntmps99;go_wp2_with fail;go_loopw [6] (fun s6 wr=>∃i:Nat,s6= .int .i64 i/\i<=vs.length/\wr=w.alloc (.cells #[.int .i64 f,.int .i64 x,.slice L vs.length c] 29)/\Hid (∀p∈ts.take i,p.1≠n)) (fun s6 _=>vs.length-(intOf s6).toNat)
 case atStart=>exact ⟨0,rfl,h_ _,rfl,aC (by simp)⟩
 case round=>
  obtain ⟨i,rfl,hi,rfl,M⟩:=hrel;by_cases hp:i<vs.length
  ·obtain ⟨v,hv⟩:=aD hp
   obtain ⟨t,ht⟩:=aD (show i<ts.length by rw [<-Vw.out];exact hp);obtain ⟨h1,h2,h3,h4⟩:=H.out.2.2 i v t hv ht;obtain ⟨b,o,rfl,zb,c0,c1⟩:=H.out.1.at_ hv;obtain ⟨vn,va,vl,vc⟩:=v;simp only at h1 h2 h3 h4 c0 c1;subst h1 h2;have Ht:=aC (Gw ht (Gw h3 h4));clear hv ht h3 h4
   cases hn:(t.1==n) with
   |true=>
    have HN:=aC hn;go_wp2_with fail;go_ret2;refine ⟨HB.out,?_⟩;rw [Vv M.out Ht.out.1 (by simpa using HN.out)]
    exact ⟨va,vc,by first|rfl|trivial,Ht.out.2.2.below HB.out,Ht.out.2.1⟩
   |false=>
    have HN:=aC hn;go_wp2_with fail;go_roundw
    case rel=>exact ⟨i+1,by go_num,hp,by first|rfl|trivial,aC (by
     intro p hpm;rw [GZ,Ht.out.1] at hpm;rcases JQ.1 hpm with h|h
     ·exact M.out p h
     ·simp at h
      rw [h];simpa using HN.out)⟩
    case measure=>simp [intOf];omega
  ·have HM:=aC (show ∀p∈ts,p.1≠n by
    have h:=M.out
    rwa [List.take_of_length_le (by rw [<-Vw.out];omega)] at h)
   go_wp2_with fail;go_ret2;refine ⟨HB.out,?_⟩;rw [Sk HM.out]
   first|rfl|trivial
end Go.Proofs.Ytblfeokjlecgkaa
