/- Laid together by a tool from the texts of this seat: ChF ChG Sort RowB RowP. Conditions: each theorem's own. -/
import Derived.Test.YtmjdhfbnmmdjiaaGreatH07
import Derived.Test.YtmjdhfbnmmdjiaaGreatH05
set_option maxHeartbeats 8000000
set_option maxRecDepth 100000
namespace Go.Proofs.YtmjdhfbnmmdjiaaGreat
open Go.Lib renaming hid->aB
open _root_.And renaming intro->DF
open Go.RowKit.Below renaming refl->aI
open _root_.ByteArray renaming empty->dQ
open _root_.List renaming length_cons->oG,append_nil->mO,range->MQ,mem_cons_of_mem->OM,take_of_length_le->ji,getElem?_cons_succ->OO,length_map->OX,getElem?_eq_getElem->bS,append_assoc->kV,length_append->lS,take_left->uJ,take_add_one->yj,mem_of_getElem?->O8,map_cons->RH,getElem?_eq_some_iff->RQ,drop_eq_getElem_cons->aU,map_map->Sm,getElem?_map->Tz,length_take->jm,getElem?_eq_none->VQ,drop_zero->nE,pairwise_iff_getElem->WX
open _root_.Nat renaming zero_le->cu,le_refl->aK,add_sub_cancel->sP
open Go.World renaming block_lt_of_cell?->FD,size_alloc->FT
open Go.Value renaming slice->gq
open Go.ByteArray renaming toList_eq->dA
open _root_.Array renaming getElem?_modify->U3,getElem?_eq_getElem->Ve
open Go.RowKit
def aW:List Nd->List (List Nd)
 |[]=>[]
 |x::xt=>bA (manyN x) xt
def xZ:List Nd:=[⟨0,dQ,0⟩]
def iP (t:List Nd):Option (List Nd×List Nd):=
 if (aD t).k=0 then some (xZ,xZ) else
 if (aD t).k=5 then some (eO ((aW t).headD []),eO ((aW t).tail.headD [])) else none
def bG (t:List Nd) (s:ByteArray):Option (List Nd):=
 if (aD t).k=0 then some xZ else
 if bF (aD t).k=true then ((aW t).find? fun ts=>(aD ts).s.toList==s.toList).map eO else none
def kN (t:List Nd):Option (List ByteArray):=
 if (aD t).k=0 then some [] else
 if (aD t).k=7 then some ((aW t).map fun ts=>(aD ts).s) else none
theorem vG {T:List Nd}:∀(n at_:Nat) (ks rest:List Nd),T.drop at_=ks++rest->bC ks->Fo n ks->∀(j pos:Nat),(aV T n at_)[j]?=some pos->∃ts r,(bA n ks)[j]?=some ts/\T.drop pos=ts++r/\Fo 1 ts/\bC ts
 |0,_,_,_,_,_,_,j,pos,h=>by simp [aV] at h
 |n+1,at_,ks,rest,hd,hok,hf,j,pos,h=>by
  obtain ⟨ts,rs,rfl,h1,h2⟩:=hf.first;rw [kV] at hd;have hlt:at_<T.length:=lC hd h1.pos;have h3:=iY hd (iK hok) h1;unfold aV at h;rw [if_pos hlt,h3] at h;have hr:bV (ts++rs)=rs:=gB h1
  have hs:bA (n+1) (ts++rs)=ts::bA n rs:=by
   show (ts++rs).take ((ts++rs).length-(bV (ts++rs)).length)::bA n (bV (ts++rs))=_;rw [hr,lS,sP,uJ]
  cases j with
  |zero=>
   simp at h;subst h
   exact ⟨ts,rs++rest,by rw [hs];rfl,hd,h1,iK hok⟩
  |succ j=>
   rw [OO] at h;obtain ⟨us,r,e1,e2,e3,e4⟩:=vG n (at_+ts.length) rs rest (iD hd) (je hok) h2 j pos h;exact ⟨us,r,by rw [hs,OO];exact e1,e2,e3,e4⟩
theorem yS:∀(n:Nat) (ks:List Nd),(bA n ks).length=n
 |0,_=>rfl
 |n+1,ks=>by simp [bA,yS n]
theorem KV {α:Type} {p:α->Bool}:∀(l:List α),(l.findIdx? p=none/\l.find? p=none)\/∃k x,l.findIdx? p=some k/\l[k]?=some x/\l.find? p=some x
 |[]=>.inl ⟨rfl,rfl⟩
 |x::l=>by
  cases hp:p x with
  |true=>exact .inr ⟨0,x,by simp [List.findIdx?_cons,hp],rfl,by simp [hp]⟩
  |false=>
   rcases KV (p:=p) l with ⟨h1,h2⟩|⟨k,y,h1,h2,h3⟩
   ·exact .inl ⟨by simp [List.findIdx?_cons,hp,h1],by simp [hp,h2]⟩
   ·exact .inr ⟨k+1,y,by simp [List.findIdx?_cons,hp,h1],by simpa using h2,by simp [hp,h3]⟩
theorem Pq (A:Option Addr) (c:Nat) (x:Nd) (xt:List Nd) (w:World) (ha:bJ w w.heap.size A (x::xt)):
  Calls Tryz.prog 116 #[.slice A (x::xt).length c] w fun e w'=>e= .returned (.bool (bF x.k))/\Below w.heap.size w w':=by
 obtain ⟨b,o,rfl,hb,c0,_,_⟩:=ha.at_ (i:=0) (x:=x) rfl;rw [show o+0*3=o by omega] at c0;clear ha;simp only [oG];go_enter Tryz.func116,Tryz.ntmps116;by_cases h6:x.k=6
 ·have b6:(x.k==6)=true:=by simp [h6]
  have hr:bF x.k=true:=by simp [bF,h6]
  have HR:=aB hr;clear h6 hr;go_wp2_with fail;go_ret;exact ⟨by rw [HR.out];rfl,aI _ _⟩
 ·have b6:(x.k==6)=false:=by simp [h6]
  have hr:bF x.k=(x.k==7):=by simp [bF,h6]
  have HR:=aB hr;clear h6 hr;go_wp2_with fail;go_ret;exact ⟨by rw [HR.out];rfl,aI _ _⟩
theorem Zj (w:World):dF ((w.alloc (.cells #[.int .i64 0,.string dQ,.int .i64 0] 49)).alloc (.cells #[.int .i64 0,.string dQ,.int .i64 0] 49)) w.heap.size (some ⟨w.heap.size+1,0,none⟩) 1 xZ:=by
 have h:=wC (w.alloc (.cells #[.int .i64 0,.string dQ,.int .i64 0] 49)) ⟨0,dQ,0⟩;rw [FT] at h;exact ay.lower h (by omega)
def Wy (t:List Nd) (w:World) (e:Ending) (w':World):Prop:=
 Below w.heap.size w w'/\match iP t with
  |some (a,b)=>∃A1 c1 A2 c2,e= .returned (.tuple #[.slice A1 a.length c1,.slice A2 b.length c2,.int .i64 0])/\dF w' w.heap.size A1 c1 a/\dF w' w.heap.size A2 c2 b
  |none=>e= .returned (.tuple #[.slice none 0 0,.slice none 0 0,.int .i64 9])
theorem DX (A:Option Addr) (c:Nat) (t:List Nd) (w:World) (ha:bJ w w.heap.size A t) (g:Gd t) (hc:t.length<=c):
  Calls Tryz.prog 98 #[.slice A t.length c] w (Wy t w):=by
 rcases t with _|⟨x,xt⟩
 ·exact absurd g.fo.pos (by simp)
 obtain ⟨b,o,rfl,hb,c0,_,_⟩:=ha.at_ (i:=0) (x:=x) rfl;rw [show o+0*3=o by omega] at c0;have HA:=aB (DF ha g);have hl:=g.len;simp only [oG] at hl hc;clear ha g;simp only [oG];go_enter Tryz.func98,Tryz.ntmps98;by_cases h0:x.k=0
 ·have b0:(x.k==0)=true:=by simp [h0]
  have HR:Hid (iP (x::xt)=some (xZ,xZ)):=aB (by simp [iP,aD,h0]);clear h0;go_wp2_with fail;go_ret3;refine ⟨au (au (aI _ _) _) _,?_⟩;rw [HR.out];exact ⟨_,1,_,1,rfl,ay.alloc (wC w ⟨0,dQ,0⟩) _,Zj w⟩
 ·have b0:(x.k==0)=false:=by simp [h0]
  by_cases h5:x.k=5
  ·have b5:(x.k==5)=true:=by simp [h5]
   have hm:manyN x=2:=by simp [manyN,many,h5]
   have hk:=HA.out.2.fo.kids;rw [hm] at hk
   obtain ⟨ta,tb,hxt,f1,f3⟩:∃ta tb,xt=ta++tb/\Fo 1 ta/\Fo 1 tb:=by
    obtain ⟨ta,rs,e1,f1,f2⟩:=hk.first;exact ⟨ta,rs,e1,f1,f2⟩
   have ok1:bC (ta++tb):=fun z hz=>HA.out.2.ok z (OM _ (by rw [hxt];exact hz))
   have HR:Hid (iP (x::xt)=some (eO ta,eO tb)):=aB (by
    have e1:bV (ta++tb)=tb:=gB f1;have e2:bV (tb++[])=[]:=gB f3;rw [mO] at e2;simp [iP,aD,h5,aW,hm,bA,hxt,e1,e2])
   have HP1:=aB (DT (some ⟨b,o,none⟩) c (x::xt) ta tb 1 w HA.out.1 HA.out.2.len (by simp;omega) hxt (iK ok1) f1);have Pv:=aB (fun v (hv:Below w.heap.size w v)=>qK (some ⟨b,o,none⟩) c (x::xt) ta tb 1 v ((HA.out.1.below hv).more hv.size) HA.out.2.len hxt (iK ok1) f1);have DY:=aB (fun v (hv:Below w.heap.size w v)=>DT (some ⟨b,o,none⟩) c (x::xt) tb [] (1+ta.length) v ((HA.out.1.below hv).more hv.size) HA.out.2.len (by simp;omega) (by rw [Nat.add_comm,List.drop_succ_cons,hxt,List.drop_left,mO]) (je ok1) f3);obtain ⟨la,hla⟩:∃la,la=1+ta.length:=⟨_,rfl⟩;rw [<-hla] at Pv DY;clear hm hk f1 f3 ok1 h0 h5 hxt hla;go_wp2_with fail;refine HP1.out.mono ?_;rintro e w1 ⟨A1,c1,rfl,hown1,hb1⟩;have H1:=aB (DF hown1 hb1);clear hown1 hb1;go_wp2_with fail;refine (Pv.out _ H1.out.2).mono ?_;rintro e w2 ⟨rfl,hb2⟩;have H2:Hid (dF w2 w.heap.size A1 c1 (eO ta)/\Below w.heap.size w w2):=aB ⟨H1.out.1.below hb2 (aK _),ah H1.out.2 hb2⟩;clear hb2;go_wp2_with fail;refine (DY.out w2 H2.out.2).mono ?_;rintro e w3 ⟨A3,c3,rfl,hown3,hb3⟩;have H3:Hid (dF w3 w.heap.size A1 c1 (eO ta)/\dF w3 w.heap.size A3 c3 (eO tb)/\Below w.heap.size w w3):=aB ⟨H2.out.1.below hb3 (aK _),ay.lower hown3 H2.out.2.size,ah H2.out.2 hb3⟩;clear hown3 hb3;go_wp2_with fail;go_ret3;refine ⟨H3.out.2.2,?_⟩;rw [HR.out];exact ⟨_,_,_,_,rfl,H3.out.1,H3.out.2.1⟩
  ·have b5:(x.k==5)=false:=by simp [h5]
   have HR:Hid (iP (x::xt)=none):=aB (by simp [iP,aD,h0,h5]);clear h0 h5;go_wp2_with fail;go_ret3;exact ⟨aI _ _,by rw [HR.out];rfl⟩
def akG (w:World) (K:FuncId) (c1 c2:Value) (v:Value) (p:Bool):Prop:=∀w',Below w.heap.size w w'->Calls Tryz.prog K #[v,c1,c2] w' fun e w''=>e= .returned (.bool p)/\Below w'.heap.size w' w''
theorem Wz {α:Type} {p:α->Bool} {xs:List α} {i:Nat} {x:α} (hx:xs[i]?=some x) (h:(xs.take i).any p=false):(xs.take (i+1)).any p=p x:=by
 rw [yj,hx,List.any_append,h];simp
theorem Fa {α:Type} {p:α->Bool}:∀{xs:List α} {i:Nat} {x:α},xs[i]?=some x->p x=true->(xs.take i).any p=false->xs.findIdx? p=some i
 |[],i,x,h,_,_=>by simp at h
 |y::ys,0,x,h,hp,_=>by
  simp at h;subst h
  simp [List.findIdx?_cons,hp]
 |y::ys,i+1,x,h,hp,ht=>by
  rw [OO] at h;rw [List.take_succ_cons,List.any_cons,Bool.or_eq_false_iff] at ht;simp [List.findIdx?_cons,ht.1,Fa h hp ht.2]
theorem WB (K:FuncId) (c1 c2:Value) (eg:∀args w,(callFunc K args).run Tryz.prog w= .ok (.enter K args) w) (p:Int->Bool) (A:Option Addr) (c:Nat) (xs:List Int) (w:World) (hx:mW w w.heap.size A xs) (hl:xs.length<=1000000) (hp:∀x∈xs,akG w K c1 c2 (.int .i64 x) (p x)):
  Calls Tryz.prog 114 #[.slice A xs.length c,.func (.func K) #[] #[c1,c2]] w fun e w'=>((xs.findIdx? p=none/\e= .returned (.int .i64 (-1)))\/∃k:Nat,xs.findIdx? p=some k/\e= .returned (.int .i64 (k:Int)))/\Below w.heap.size w w':=by
 have H:=aB hx;have HP:=aB hp;clear hx hp;go_enter Tryz.func114,Tryz.ntmps114;go_upto_region 2 with fail
 go_loopw [5,8] (fun _ s8 wr=>∃i:Nat,s8= .int .i64 i/\i<=xs.length/\Hid ((xs.take i).any p=false/\Below w.heap.size w wr)) (fun _ s8 _=>xs.length-(Lib.intOf s8).toNat)
 case atStart=>exact ⟨0,rfl,cu _,aB ⟨rfl,aI _ _⟩⟩
 case round=>
  obtain ⟨i,rfl,hi,HR⟩:=hrel;by_cases hl2:i<xs.length
  ·obtain ⟨x,hx⟩:=aJ hl2
   obtain ⟨b,o,rfl,hb,hc⟩:=aS.below H.out HR.out.2 (fun e=>by rw [e] at hx;simp at hx)
   have c0:wr.cell? ⟨b,o+i,none⟩=some (.int .i64 x):=by
    have:=hc i x hx 0 _ rfl
    rwa [Nat.mul_one,Nat.add_zero] at this
   have HQ:=aB (HP.out x (O8 hx) wr HR.out.2);have HX:=aB hx;have hwi:IntKind.i64.wrap ((i:Int)+1)=((i+1:Nat):Int):=IntWalk.i64_in _ (by omega);clear hc hx;go_wp2_with fail;refine HQ.out.mono ?_;rintro e w1 ⟨rfl,hb1⟩;have HB1:=aB (ah HR.out.2 hb1);clear hb1
   cases hpx:p x with
   |true=>
    have HA:Hid (xs.findIdx? p=some i):=aB (Fa HX.out hpx HR.out.1);clear hpx;go_wp2_with fail;go_ret
    exact ⟨.inr ⟨i,HA.out,rfl⟩,HB1.out⟩
   |false=>
    have HA:Hid ((xs.take (i+1)).any p=false):=aB (by rw [Wz HX.out HR.out.1,hpx]);clear hpx;go_wp2_with fail;go_roundw
    case rel=>exact ⟨i+1,rfl,hl2,aB ⟨HA.out,HB1.out⟩⟩
    case measure=>simp [Lib.intOf];omega
  ·go_wp2_with fail
   go_ret;refine ⟨.inl ⟨?_,rfl⟩,HR.out.2⟩;have:=HR.out.1;rw [ji (by omega)] at this;rw [List.findIdx?_eq_none_iff];intro x hx
   cases h:p x with
   |false=>rfl
   |true=>rw [List.any_eq_true.2 ⟨x,hx,h⟩] at this;cases this
theorem uZ {T:List Nd}:∀(n at_:Nat) (ks rest:List Nd),T.drop at_=ks++rest->bC ks->Fo n ks->(aV T n at_).map (fun pos=>aD (T.drop pos))=(bA n ks).map aD
 |0,_,_,_,_,_,_=>rfl
 |n+1,at_,ks,rest,hd,hok,hf=>by
  obtain ⟨ts,rs,rfl,h1,h2⟩:=hf.first;rw [kV] at hd;have hlt:at_<T.length:=lC hd h1.pos;have h3:=iY hd (iK hok) h1;have hr:bV (ts++rs)=rs:=gB h1
  have hs:bA (n+1) (ts++rs)=ts::bA n rs:=by
   show (ts++rs).take ((ts++rs).length-(bV (ts++rs)).length)::bA n (bV (ts++rs))=_;rw [hr,lS,sP,uJ]
  have hh:aD (T.drop at_)=aD ts:=by
   rw [hd]
   match ts,h1.pos with
   |x::xt,_=>rfl
  rw [eH hlt,h3,hs,RH,RH,hh,uZ n (at_+ts.length) rs rest (iD hd) (je hok) h2]
theorem R8:∀args w,(callFunc 115 args).run Tryz.prog w= .ok (.enter 115 args) w:=fun _ _=>by kernel_rfl
theorem Pw (p0 p1:Nat) (A:Option Addr) (c:Nat) (T:List Nd) (s:ByteArray) (x:Nd) (i:Nat) (w:World) (hx:T[i]?=some x) (ha:bJ w w.heap.size A T) (h0:w.cell? ⟨p0,0,none⟩=some (.slice A T.length c)) (h1:w.cell? ⟨p1,0,none⟩=some (.string s)):
  Calls Tryz.prog 115 #[.int .i64 (i:Int),.pointer (some ⟨p0,0,none⟩),.pointer (some ⟨p1,0,none⟩)] w fun e w'=>e= .returned (.bool (x.s.toList==s.toList))/\Below w.heap.size w w':=by
 obtain ⟨b,o,rfl,hb,_,c1,_⟩:=ha.at_ hx;have hi:=aP hx;have e0:∀n,(w.drewN n).cell? ⟨p0,0,none⟩=some (.slice (some ⟨b,o,none⟩) T.length c):=fun n=>h0;have e1:∀n,(w.drewN n).cell? ⟨p1,0,none⟩=some (.string s):=fun n=>h1;have e2:∀n,(w.drewN n).cell? ⟨b,o+i*3+1,none⟩=some (.string x.s):=fun n=>c1;clear ha hx h0 h1 c1;go_enter Tryz.func115,Tryz.ntmps115;go_upto_region 1 with fail
 go_quiet (fail);go_wp2_with fail;go_ret;exact ⟨rfl,below_drewN (aI _ _) _⟩
def GK (t:List Nd) (s:ByteArray) (w:World) (e:Ending) (w':World):Prop:=
 Below w.heap.size w w'/\match bG t s with
  |some u=>∃A1 c1,e= .returned (.tuple #[.slice A1 u.length c1,.int .i64 0])/\dF w' w.heap.size A1 c1 u
  |none=>e= .returned (.tuple #[.slice none 0 0,.int .i64 9])
theorem R9 {x:Nd} {xt:List Nd} (g:Gd (x::xt)) (s:ByteArray):
  ((cB (aV (x::xt) (manyN x) 1)).findIdx? (fun n=>(aD ((x::xt).drop n.toNat)).s.toList==s.toList)=none/\(aW (x::xt)).find? (fun ts=>(aD ts).s.toList==s.toList)=none)\/
  ∃(k pos:Nat) (ts r:List Nd),(cB (aV (x::xt) (manyN x) 1)).findIdx? (fun n=>(aD ((x::xt).drop n.toNat)).s.toList==s.toList)=some k/\(cB (aV (x::xt) (manyN x) 1))[k]?=some (pos:Int)/\(x::xt).drop pos=ts++r/\Fo 1 ts/\bC ts/\
   (aW (x::xt)).find? (fun ts=>(aD ts).s.toList==s.toList)=some ts:=by
 have hok:bC xt:=fun z hz=>g.ok z (OM _ hz);have hd:(x::xt).drop 1=xt++[]:=by rw [mO];rfl
 have hm:=uZ (manyN x) 1 xt [] hd hok g.fo.kids
 have e1:(cB (aV (x::xt) (manyN x) 1)).findIdx? (fun n=>(aD ((x::xt).drop n.toNat)).s.toList==s.toList)=(bA (manyN x) xt).findIdx? (fun ts=>(aD ts).s.toList==s.toList):=by
  have h1:=congrArg (fun l=>l.findIdx? (fun y:Nd=>y.s.toList==s.toList)) hm;simp only [List.findIdx?_map] at h1;unfold cB;rw [List.findIdx?_map];exact h1
 rcases KV (p:=fun ts=>(aD ts).s.toList==s.toList) (bA (manyN x) xt) with ⟨h1,h2⟩|⟨k,ts,h1,h2,h3⟩
 ·exact .inl ⟨e1.trans h1,h2⟩
 ·have hlen:k<(aV (x::xt) (manyN x) 1).length:=by
   have:=congrArg List.length hm;rw [OX,OX] at this;rw [this];exact aP h2
  obtain ⟨pos,hpos⟩:=aJ hlen;obtain ⟨ts',r,f1,f2,f3,f4⟩:=vG (manyN x) 1 xt [] hd hok g.fo.kids k pos hpos;rw [h2] at f1;injection f1 with f1
  subst f1;exact .inr ⟨k,pos,ts,r,e1.trans h1,p8 hpos,f2,f3,f4,h3⟩
theorem sQ (x:Nd) (xt:List Nd) (s:ByteArray):bG (x::xt) s=if x.k=0 then some xZ else
 if bF x.k=true then ((aW (x::xt)).find? fun ts=>(aD ts).s.toList==s.toList).map eO else none:=rfl
theorem t_ (A:Option Addr) (c:Nat) (t:List Nd) (s:ByteArray) (w:World) (ha:bJ w w.heap.size A t) (g:Gd t) (hc:t.length<=c):
  Calls Tryz.prog 91 #[.slice A t.length c,.string s] w (GK t s w):=by
 rcases t with _|⟨x,xt⟩
 ·exact absurd g.fo.pos (by simp)
 obtain ⟨b,o,rfl,hb,c0,_,_⟩:=ha.at_ (i:=0) (x:=x) rfl;rw [show o+0*3=o by omega] at c0;have HA:=aB (DF ha g);have hl:=g.len;simp only [oG] at hl hc;clear ha g;simp only [oG];go_enter Tryz.func91,Tryz.ntmps91;go_upto_region 1 with fail
 obtain ⟨w1,hw1⟩:∃w1,w1=((w.alloc (.cells #[.slice (some ⟨b,o,none⟩) (xt.length+1) c] 28)).alloc (.cells #[.string s] 9)):=⟨_,rfl⟩;have hb1:Below w.heap.size w w1:=by rw [hw1];exact au (au (aI _ _) _) _
 have k0:w1.cell? ⟨w.heap.size,0,none⟩=some (.slice (some ⟨b,o,none⟩) (xt.length+1) c):=by rw [hw1];simp
 have k1:w1.cell? ⟨w.heap.size+1,0,none⟩=some (.string s):=by
  have h:=heap_alloc_new (w.alloc (.cells #[.slice (some ⟨b,o,none⟩) (xt.length+1) c] 28)) (.cells #[.string s] 9);rw [<-hw1,FT] at h;simp [World.cell?,h]
 have hz1:w1.heap.size=w.heap.size+2:=by rw [hw1];simp
 rw [<-hw1];clear hw1;have HB1:=aB hb1;have HK:=aB (DF k0 (DF k1 hz1));have c0':=(hb1.cell (p:=⟨b,o,none⟩) hb).trans c0;clear hb1 c0;by_cases h0:x.k=0
 ·have b0:(x.k==0)=true:=by simp [h0]
  have HR:Hid (bG (x::xt) s=some xZ):=aB (by simp [bG,aD,h0]);clear h0;go_wp2_with fail;go_ret2;refine ⟨au HB1.out _,?_⟩;rw [HR.out];have h:=wC w1 ⟨0,dQ,0⟩;rw [HK.out.2.2] at h;exact ⟨_,1,rfl,ay.lower h (by omega)⟩
 ·have b0:(x.k==0)=false:=by simp [h0]
  have hd:(x::xt).drop 1=xt++[]:=by rw [mO];rfl
  have hok:bC xt:=fun z hz=>HA.out.2.ok z (OM _ hz);have hxo:=HA.out.2.ok x (by simp);have Hk:=aB (Bq (some ⟨b,o,none⟩) c (x::xt) xt [] x 0 w1 ((HA.out.1.below HB1.out).more HB1.out.size) HA.out.2.len rfl hxo hd hok HA.out.2.fo.kids);have HF:=aB (R9 HA.out.2 s);have FU:=aB (fun j hj=>Bo (xs:=x::xt) (manyN x) 1 j hj);have HLen:Hid ((cB (aV (x::xt) (manyN x) 1)).length=manyN x/\manyN x<=50):=aB ⟨by rw [mh];exact wZ _ _ xt [] hd hok HA.out.2.fo.kids,oZ hxo⟩;have H0:=aB h0;obtain ⟨L,hL⟩:∃L,L=cB (aV (x::xt) (manyN x) (0+1)):=⟨_,rfl⟩;have HLe:Hid (L=cB (aV (x::xt) (manyN x) 1)):=aB hL;rw [<-hL] at Hk;rw [<-HLe.out] at HF HLen;clear h0 hd hok hxo hL;go_wp2_with fail;refine Hk.out.mono ?_;rintro e w2 ⟨A2,c2,rfl,hown2,hb2⟩;have HB2:=aB (ah HB1.out hb2);have jr:=(hb2.cell (p:=⟨w.heap.size,0,none⟩) (by show w.heap.size<_;omega)).trans k0;have k1':=(hb2.cell (p:=⟨w.heap.size+1,0,none⟩) (by show w.heap.size+1<_;omega)).trans k1;have hrd:=ay.read dK hown2;have J3:=aB hrd
  have akI:=aB (WB 115 (.pointer (some ⟨w.heap.size,0,none⟩)) (.pointer (some ⟨w.heap.size+1,0,none⟩)) R8 (fun n=>(aD ((x::xt).drop n.toNat)).s.toList==s.toList) A2 c2 L w2 hrd (by have:=HLen.out;omega) (by
   intro n hn v hv;rw [HLe.out] at hn;obtain ⟨j,hj,rfl⟩:=List.mem_map.1 hn;have hjl:=FU.out j hj;obtain ⟨y,hy⟩:=aJ hjl
   have hh:aD ((x::xt).drop j)=y:=by
    obtain ⟨_,h2⟩:=RQ.1 hy;rw [aU hjl];exact h2
   have:=Pw w.heap.size (w.heap.size+1) (some ⟨b,o,none⟩) c (x::xt) s y j v hy ((HA.out.1.below (ah HB2.out hv)).more (ah HB2.out hv).size) ((hv.cell (by have:=hb2.size;show w.heap.size<_;omega)).trans jr) ((hv.cell (by have:=hb2.size;show w.heap.size+1<_;omega)).trans k1');show Calls _ _ _ _ (fun e w''=>e= .returned (.bool ((aD ((x::xt).drop ((j:Int)).toNat)).s.toList==s.toList))/\_);rw [show ((j:Int)).toNat=j from rfl,hh];exact this))
  have HZ:Hid (w.heap.size+2<=w2.heap.size):=aB (by have:=hb2.size;omega);clear hown2 hb2 hrd k0 k1 c0' hz1;go_wp2_with fail;refine akI.out.mono ?_;rintro e w3 ⟨hk,hb3⟩;have HB3:=aB (ah HB2.out hb3);have k0:=(hb3.cell (p:=⟨w.heap.size,0,none⟩) (by have:=HZ.out;show w.heap.size<_;omega)).trans jr;have HR3:=aB (aS.more (aS.below J3.out hb3) hb3.size);clear jr k1' hb3;rcases hk with ⟨hn,rfl⟩|⟨k,hk,rfl⟩
  ·have HR:Hid (bG (x::xt) s=none):=aB (by
    rcases HF.out with ⟨_,h2⟩|⟨k,_,_,_,h1,_⟩
    ·rw [sQ,if_neg H0.out,h2]
     split<;>rfl
    ·rw [hn] at h1;cases h1)
   clear hn;go_wp2_with fail;go_ret2;exact ⟨HB3.out,by rw [HR.out];rfl⟩
  ·obtain ⟨pos,ts,r,hLk,hdp,hf1,hok1,hfind⟩:∃(pos:Nat) (ts r:List Nd),L[k]?=some (pos:Int)/\(x::xt).drop pos=ts++r/\Fo 1 ts/\bC ts/\(aW (x::xt)).find? (fun ts=>(aD ts).s.toList==s.toList)=some ts:=by
    rcases HF.out with ⟨h1,_⟩|⟨k2,pos,ts,r,h1,h2,h3,h4,h5,h6⟩
    ·rw [hk] at h1;cases h1
    ·rw [hk] at h1
     injection h1 with h1
     subst h1;exact ⟨pos,ts,r,h2,h3,h4,h5,h6⟩
   have hkl:=aP hLk;obtain ⟨lb,lo,rfl,hlb,hlc⟩:=aS.int HR3.out hLk;have HIs:=aB (Pq (some ⟨b,o,none⟩) c x xt w3 ((HA.out.1.below HB3.out).more HB3.out.size));have HC:=aB (DF hLk (DF hdp (DF hf1 (DF hok1 (DF hfind (DF hlc (DF hlb hkl)))))));clear hLk hdp hf1 hok1 hfind hk hlc;go_wp2_with fail;refine HIs.out.mono ?_;rintro e w4 ⟨rfl,hb4⟩;have jS:=aB (ah HB3.out hb4);have jr:=(hb4.cell (p:=⟨w.heap.size,0,none⟩) (by have:=HZ.out;have:=HB3.out.size;have:=FD _ _ k0;exact this)).trans k0;have hlc:=(hb4.cell (p:=⟨lb,lo+k,none⟩) hlb).trans HC.out.2.2.2.2.2.1;clear k0 hb4
   cases hr:bF x.k with
   |false=>
    have HR:Hid (bG (x::xt) s=none):=aB (by rw [sQ,if_neg H0.out,if_neg (by rw [hr];simp)]);clear hr;go_wp2_with fail;go_ret2
    exact ⟨jS.out,by rw [HR.out];rfl⟩
   |true=>
    have HR:Hid (bG (x::xt) s=some (eO ts)):=aB (by rw [sQ,if_neg H0.out,if_pos hr,HC.out.2.2.2.2.1];rfl);clear hr;go_upto_region 7 with fail
    obtain ⟨SS,hSS⟩:∃SS:World->Prop,SS=fun v=>v.cell? ⟨w.heap.size,0,none⟩=some (.slice (some ⟨b,o,none⟩) (xt.length+1) c)/\v.cell? ⟨lb,lo+k,none⟩=some (.int .i64 (pos:Int)):=⟨_,rfl⟩;obtain ⟨wd,hwd⟩:∃wd,wd=w4.drew:=⟨_,rfl⟩;have bM:Hid (Below w.heap.size w wd):=aB (by rw [hwd];exact jS.out.drew);have hsd:SS wd:=by rw [hSS,hwd];exact ⟨jr,hlc⟩
    have Hpt:=aB (DT (some ⟨b,o,none⟩) c (x::xt) ts r pos wd ((HA.out.1.below bM.out).more bM.out.size) HA.out.2.len (by simp;omega) HC.out.2.1 HC.out.2.2.2.1 HC.out.2.2.1);refine aG (S:=SS) [5] (by kernel_rfl) (by rw [<-hwd];exact hsd) (fun hHeld=>?_);rw [<-hwd] at hHeld ⊢;clear hwd jr hlc;refine aM 0 [5,6,7] (some 27) rfl rfl ?_;refine aM 1 [3,4,5,6,7] (some 28) rfl rfl ?_;refine aM 2 [3,4,5,6,7] (some 29) rfl rfl ?_;refine aM 3 [4,5,6,7] (some 30) rfl rfl ?_;refine aM 4 [5,6,7] (some 31) rfl rfl ?_;refine aY 5 (some 32) rfl rfl (by kernel_rfl) (by rfl) (by kernel_rfl) Hpt.out ?_;rintro e wf ⟨A5,c5,rfl,hown5,hb5⟩;have HP:Hid (dF wf w.heap.size A5 c5 (eO ts)/\Below w.heap.size w wf):=aB ⟨ay.lower hown5 bM.out.size,ah bM.out hb5⟩;refine ⟨_,rfl,?_,?_⟩
    ·rw [hSS] at hsd ⊢
     exact ⟨(hb5.cell (FD _ _ hsd.1)).trans hsd.1,(hb5.cell (FD _ _ hsd.2)).trans hsd.2⟩
    clear hown5 hb5;refine aA ?_;refine aX 6 (some 4) rfl rfl (by kernel_rfl) (by rfl) (by go_simp;first|with_reducible rfl|(constructor<;>with_reducible rfl)) (zL (by kernel_rfl)) ?_;refine aA ?_;refine aX 7 (some 5) rfl rfl (by kernel_rfl) (by rfl) (by go_simp;first|with_reducible rfl|(constructor<;>with_reducible rfl)) (zL (by kernel_rfl)) ?_;refine aA ?_;refine bB (by kernel_rfl) ?_ _;clear hHeld hsd;go_wp2_with fail;go_ret2;refine ⟨HP.out.2,?_⟩;rw [HR.out];exact ⟨_,_,rfl,HP.out.1⟩
abbrev dG (w:World) (base:Nat) (A:Option Addr) (cap:Nat) (l:List ByteArray):Prop:=ay 9 1 tZ w base A cap l
theorem DZ (s:ByteArray):∀u∈tZ s,u.oneCell'=true:=by
 intro u hu;simp [tZ] at hu;subst hu;rfl
theorem GL:(Tryz.prog.info? 9).map (fun i=>(i.zero,i.size,i.bytes))=some (some (.string dQ),1,16):=by kernel_rfl
theorem l6 (w:World) (s:ByteArray):p9 (w.alloc (.cells #[.string s] 9)) (w.heap.size+1) (some ⟨w.heap.size,0,none⟩) [s]:=fun _=>by
 refine ⟨w.heap.size,0,rfl,by omega,fun i x hx j u hu=>?_⟩
 match i,hx with
 |0,hx=>
  simp at hx;subst hx
  have hj:j=0:=by
   have:=aP hu;rw [jA] at this;omega
  subst hj;simp [tZ] at hu;subst hu
  simp
 |i+1,hx=>simp at hx
section
variable {w:World} {ops:Array Oper} {rest:List Oper} {o:Oper} {a:Act} {Q:Exit->Act->World->Prop}
theorem nG (hgd:o.guard=none) (s x:Operand)
  (ho:o.op= .call {callee:=.builtin .append,args:=#[s,x],argTypes:=#[39,39]})
  (base:Nat) {A:Option Addr} {cap m n:Nat} {l:List ByteArray} (hm:l.length=m) (hs:a.eval s= .slice A m cap) (hown:dG w base A cap l) {B:Nat} {A2:Option Addr} {c:Nat} {l2:List ByteArray} (hn:l2.length=n) (hx:a.eval x= .slice A2 n c) (hr:p9 w B A2 l2)
  (hlen:m+n<=1000000000000) (hbase:base<=w.heap.size)
  (h:∀A' cap' w',dG w' base A' cap' (l++l2)->w.grownBy w' ((gq A l.length cap).ownBlock)->
   ((gq A' (l.length+l2.length) cap').ownBlock=(gq A l.length cap).ownBlock\/(gq A' (l.length+l2.length) cap').ownBlock=some w.heap.size)->wpList Tryz.prog ops Q rest (a.put o.dst (.slice A' (m+n) cap')) w'):wpList Tryz.prog ops Q (o::rest) a w:=by
 subst hm hn;obtain ⟨i0,hi,hz0,hz1,hz2⟩:=info_parts GL;exact mV w jA DZ hgd s x 39 ho base 9 i0 _ 16 Tryz.underlying39 hi hz0 hz1 hz2 rfl (by decide) hs hown hx hr (by unfold maxLen;omega) (by omega) hbase h
end
def WC (t:List Nd) (w:World) (e:Ending) (w':World):Prop:=
 Below w.heap.size w w'/\match kN t with
  |some l=>∃A1 c1,e= .returned (.tuple #[.slice A1 l.length c1,.int .i64 0])/\dG w' w.heap.size A1 c1 l
  |none=>e= .returned (.tuple #[.slice none 0 0,.int .i64 9])
theorem WE (A:Option Addr) (c:Nat) (t:List Nd) (w:World) (ha:bJ w w.heap.size A t) (g:Gd t) (hc:t.length<=c):
  Calls Tryz.prog 124 #[.slice A t.length c] w (WC t w):=by
 rcases t with _|⟨x,xt⟩
 ·exact absurd g.fo.pos (by simp)
 obtain ⟨b,o,rfl,hb,c0,_,_⟩:=ha.at_ (i:=0) (x:=x) rfl;rw [show o+0*3=o by omega] at c0;have HA:=aB (DF ha g);have hl:=g.len;simp only [oG] at hl hc;clear ha g;simp only [oG];go_enter Tryz.func124,Tryz.ntmps124;by_cases h0:x.k=0
 ·have b0:(x.k==0)=true:=by simp [h0]
  have HR:Hid (kN (x::xt)=some []):=aB (if_pos h0);clear h0;go_wp2_with fail;go_ret2;refine ⟨aI _ _,?_⟩;rw [HR.out];exact ⟨none,0,rfl,ay.nil⟩
 ·have b0:(x.k==0)=false:=by simp [h0]
  by_cases h7:x.k=7
  ·have b7:(x.k==7)=true:=by simp [h7]
   have hd:(x::xt).drop 1=xt++[]:=by rw [mO];rfl
   have hok:bC xt:=fun z hz=>HA.out.2.ok z (OM _ hz);have hxo:=HA.out.2.ok x (by simp);have Hk:=aB (Bq (some ⟨b,o,none⟩) c (x::xt) xt [] x 0 w HA.out.1 HA.out.2.len rfl hxo hd hok HA.out.2.fo.kids);have HH:=aB (uZ (manyN x) 1 xt [] hd hok HA.out.2.fo.kids);have FU:=aB (fun j hj=>Bo (xs:=x::xt) (manyN x) 1 j hj);have HLen:Hid ((cB (aV (x::xt) (manyN x) 1)).length=manyN x/\manyN x<=50):=aB ⟨by rw [mh];exact wZ _ _ xt [] hd hok HA.out.2.fo.kids,oZ hxo⟩
   have HR:Hid (kN (x::xt)=some ((aW (x::xt)).map fun ts=>(aD ts).s)):=aB (by
    show (if x.k=0 then _ else if x.k=7 then _ else _)=_;rw [if_neg h0,if_pos h7])
   clear h0 h7 hd hok hxo;go_wp2_with fail;refine Hk.out.mono ?_;rintro e w2 ⟨A2,c2,rfl,hown2,hb2⟩;have HB2:=aB hb2;have J3:=aB (ay.read dK hown2);have Pv:=aB (ay.lt hown2);clear hown2 hb2;obtain ⟨n,hn⟩:∃n,n=manyN x:=⟨_,rfl⟩;obtain ⟨L,hL⟩:∃L,L=aV (x::xt) (manyN x) 1:=⟨_,rfl⟩;have cO:Hid ((cB L).length=n/\L.length=n):=aB ⟨by rw [hL,hn];exact HLen.out.1,by rw [hL,hn,<-mh];exact HLen.out.1⟩;have Zk:n<=50:=by rw [hn];exact HLen.out.2
   rw [<-hL] at J3 FU HH
   have HRs:Hid ((aW (x::xt)).map (fun ts=>(aD ts).s)=L.map fun pos=>(aD ((x::xt).drop pos)).s):=aB (by
    have:=congrArg (List.map Nd.s) HH.out;rw [Sm,Sm] at this;exact this.symm)
   obtain ⟨R,hR⟩:∃R,R=(aW (x::xt)).map fun ts=>(aD ts).s:=⟨_,rfl⟩;rw [<-hR] at HR HRs;have J4:Hid (R.length=n):=aB (by rw [HRs.out,OX];exact cO.out.2);simp only [Nat.zero_add];rw [<-hL,cO.out.1];clear hL hn hR;go_upto_region 7 with fail
   go_loopw [4,18] (fun s4 s18 wr=>∃(k:Nat) (A':Option Addr) (c':Nat),k<=n/\s4= .slice A' k c'/\s18= .int .i64 k/\Hid (dG wr w2.heap.size A' c' (R.take k)/\Below w2.heap.size w2 wr)) (fun _ s18 _=>n-(Lib.intOf s18).toNat)
   case atStart=>exact ⟨0,none,0,cu _,rfl,rfl,aB ⟨ay.nil,aI _ _⟩⟩
   case round=>
    obtain ⟨k,A',c',hk,rfl,rfl,HI⟩:=hrel;by_cases hlt:k<n
    ·obtain ⟨pos,hpos⟩:=aJ (l:=L) (i:=k) (by rw [cO.out.2];exact hlt)
     have hpl:=FU.out pos (O8 hpos);obtain ⟨y,hy⟩:=aJ hpl
     have hRk:R[k]?=some y.s:=by
      rw [HRs.out,Tz,hpos];obtain ⟨_,h2⟩:=RQ.1 hy;show some (aD ((x::xt).drop pos)).s=_;rw [aU hpl,h2];rfl
     obtain ⟨lb,lo,rfl,hlb,hlc⟩:=aS.int (aS.below J3.out HI.out.2) (p8 hpos);obtain ⟨_,_,eA,_,_,ny,_⟩:=((HA.out.1.below HB2.out).more HB2.out.size |>.below HI.out.2).at_ hy;injection eA with eA
     injection eA with eA1 eA2 _
     subst eA1 eA2;simp only [oG] at hpl;have HC:=aB (DF hRk hlt);have htl:(R.take k).length=k:=by rw [jm,J4.out];omega
     have HT:=aB htl;clear hpos hy hRk htl;go_wp2_with (at_builtin;refine nG rfl (.tmp 22) (.tmp 28) rfl w2.heap.size (m:=k) (n:=1) HT.out rfl (ay.alloc HI.out.1 _) (l2:=[y.s]) rfl rfl (l6 _ _) (by omega) (by have:=HI.out.2.size;simp;omega) ?_;intro A5 c5 w5 hown5 hg5 _)
     have wF:Hid (dG w5 w2.heap.size A5 c5 (R.take (k+1))/\Below w2.heap.size w2 w5):=aB (by
      refine ⟨?_,iB (au HI.out.2 _) hg5 fun q hq=>(ay.block HI.out.1 q hq).1⟩;rw [yj,HC.out.1];exact hown5)
     clear hown5 hg5;go_wp2_with fail;go_roundw
     case rel=>exact ⟨k+1,A5,c5,HC.out.2,by go_num,by go_num,wF⟩
     case measure=>simp [Lib.intOf];omega
    ·have hkn:k=n:=by omega
     have HQ:Hid (dG wr w.heap.size A' c' R/\Below w.heap.size w wr/\R.length=k):=aB (by
      refine ⟨?_,ah HB2.out HI.out.2,by rw [J4.out,hkn]⟩;have:=HI.out.1;rw [ji (by rw [J4.out];omega)] at this;exact ay.lower this HB2.out.size)
     clear hkn;go_wp2_with fail;go_ret2;refine ⟨HQ.out.2.1,?_⟩;rw [HR.out];exact ⟨A',c',by rw [HQ.out.2.2];rfl,HQ.out.1⟩
  ·have b7:(x.k==7)=false:=by simp [h7]
   have HR:Hid (kN (x::xt)=none):=aB (by
    show (if x.k=0 then _ else if x.k=7 then _ else _)=_;rw [if_neg h0,if_neg h7])
   clear h0 h7;go_wp2_with fail;go_ret2;exact ⟨aI _ _,by rw [HR.out];rfl⟩
def lab (ls:List ByteArray) (i:Nat):ByteArray:=(ls[i]?).getD dQ
theorem zZ {ls:List ByteArray} {i:Nat} (h:i<ls.length):ls[i]?=some (lab ls i):=by
 unfold lab;rw [bS h];rfl
def GN {n:Nat} (i:Fin n):Value:=.int .i64 ((i.val:Nat):Int)
def cfF (ls:List ByteArray) (n:Nat) (i j:Fin n):Int:=AU (lab ls i.val) (lab ls j.val)
def kU (a b:ByteArray):Bool:=Op.bytesLess a.toList b.toList
theorem CF (ls:List ByteArray) (n:Nat) (i j:Fin n):ltOf (cfF ls n) i j=kU (lab ls i.val) (lab ls j.val):=by
 unfold ltOf cfF AU kU
 cases h:Op.bytesLess (lab ls i.val).toList (lab ls j.val).toList
 ·simp
  split<;>omega
 ·simp
theorem Fb (a:ByteArray):kU a a=false:=by
 unfold kU;rw [lq];simp [List.lt_irrefl]
theorem Bv {a b c:ByteArray} (h:kU a b=true) (k:kU b c=true):kU a c=true:=by
 unfold kU at*;rw [lq,decide_eq_true_eq] at*;exact List.lt_trans h k
theorem Fe {a b c:ByteArray} (h:kU a b=false) (k:kU b c=false):kU a c=false:=by
 unfold kU at*;rw [lq,decide_eq_false_iff_not,List.not_lt] at*;exact List.le_trans k h
theorem MU {a b:ByteArray} (h:kU a b=false) (k:kU b a=false):a=b:=by
 unfold kU at*;rw [lq,decide_eq_false_iff_not,List.not_lt] at*;have e:a.toList=b.toList:=List.le_antisymm k h;rw [dA,dA] at e
 cases a;cases b;simpa using Array.toList_inj.1 e
theorem swo (ls:List ByteArray) (n:Nat):Go.Sort.SWO (ltOf (cfF ls n)) where
 irrefl x:=by rw [CF];exact Fb _
 trans x y z h k:=by rw [CF] at*;exact Bv h k
 ntrans x y z h k:=by rw [CF] at*;exact Fe h k
section
variable {α:Type} [Inhabited α] (enc:α->Value) (w:World) (g m:Nat) (d:Array α) (os:Array Obj)
theorem qL:w.grownBy (sortWorld enc w g 0 m d os) (some g) where
 os:=rfl
 tape:=rfl
 output:=rfl
 size:=by
  show w.heap.size<=((Go.Sort.putRow enc (Go.Sort.ahead w m) g 0 d).heap++os).size;rw [Array.size_append];show w.heap.size<=(w.heap.modify g _).size+_;rw [Array.size_modify];omega
 block k hk hne:=by
  show ((w.heap.modify g _)++os)[k]?=w.heap[k]?;rw [Array.getElem?_append_left (by rw [Array.size_modify];exact hk),U3,if_neg (fun e=>hne (by rw [e]))]
theorem wG {c:Array Value} {e:TypeId} {fr:Nat×Nat} (h:w.heap[g]?=some (.cells c e fr)):(sortWorld enc w g 0 m d os).heap[g]?=some (.cells (Go.Sort.putCells enc 0 d c) e fr):=by
 have hk:=lt_of_block h;show ((w.heap.modify g _)++os)[g]?=_;rw [Array.getElem?_append_left (by rw [Array.size_modify];exact hk),U3,if_pos rfl,h];rfl
end
theorem ay.sorted {n:Nat} {w:World} {base g cap:Nat} {L:List Int} (h:eX w base (some ⟨g,0,none⟩) cap L) (hL:L.length=n) [Inhabited (Fin n)] (d:Array (Fin n)) (hd:d.size=n) (m:Nat) (os:Array Obj):
  eX (sortWorld GN w g 0 m d os) base (some ⟨g,0,none⟩) cap (cB (d.toList.map Fin.val)):=by
 have hl2:(cB (d.toList.map Fin.val)).length=L.length:=by simp [cB,hd,hL]
 have h':w.ownsRow base 3 1 (.slice (some ⟨g,0,none⟩) L.length cap) L.length (L.flatMap encI):=h;show (sortWorld GN w g 0 m d os).ownsRow base 3 1 (.slice (some ⟨g,0,none⟩) (cB (d.toList.map Fin.val)).length cap) (cB (d.toList.map Fin.val)).length ((cB (d.toList.map Fin.val)).flatMap encI);rw [hl2];rcases h'.2 with ⟨hv,hn⟩|⟨g',cap',cur,hv,hbg,hg,hnc,hcm,hcs,htake⟩
 ·cases hv
 ·injection hv with hA' hl hc'
  injection hA' with hA'
  injection hA' with hA1
  subst hA1 hc';refine ⟨by rw [jJ dK,hl2],.inr ⟨g,cap,_,rfl,hbg,wG GN w g m d os hg,hnc,hcm,by simp [Go.Sort.putCells];omega,?_⟩⟩;apply List.ext_getElem?;intro k;by_cases hk:k<n
  ·rw [List.getElem?_take_of_lt (by omega)]
   have hkc:k<cur.size:=by omega
   have hkd:k<d.size:=by omega
   rw [ru];simp only [Go.Sort.putCells,Array.getElem?_toList,Array.getElem?_mapIdx,Ve hkc,Option.map_some,Tz,cB,Ve hkd];rw [if_pos ⟨cu _,by omega⟩,Nat.sub_zero,getElem!_pos d k hkd];rfl
  ·rw [VQ (by rw [jm];omega),VQ (by rw [jJ dK,hl2];omega)]
def acC (p:Bool) (e:Ending):Prop:=∃i:Int,e= .returned (.int .i64 i)/\(p=true->0<=i)/\(p=false->i= -1)
theorem WG (kind:Int) (s:ByteArray) (g:Nat) (w:World) (hg:w.cell? ⟨g,0,none⟩=some (.int .i64 kind)):
  Calls Tryz.prog 126 #[.string s,.pointer (some ⟨g,0,none⟩)] w fun e w'=>e= .returned (.bool (!bP kind s))/\Below w.heap.size w w':=by
 go_enter Tryz.func126,Tryz.ntmps126;go_wp2_with (go_at_call 127;refine (MB _ _ _).mono ?_;rintro e w1 ⟨rfl,hbx⟩);go_ret;exact ⟨rfl,hbx⟩
theorem J5 (A:Option Addr) (c:Nat) (ls:List ByteArray) (kind:Int) (g:Nat) (w:World) (ha:p9 w w.heap.size A ls) (hg:w.cell? ⟨g,0,none⟩=some (.int .i64 kind)) (hgl:g<w.heap.size) (hl:ls.length<=9223372036854775807):
  Calls Tryz.prog 149 #[.slice A ls.length c,.func (.func 126) #[] #[.pointer (some ⟨g,0,none⟩)]] w fun e w'=>acC (lF kind ls 0) e/\Below w.heap.size w w':=by
 have Hg:=aB hg;clear hg;go_enter Tryz.func149,Tryz.ntmps149;go_wp2_with fail;go_loopw [8] (fun i w'=>∃k:Nat,k<=ls.length/\i= .int .i64 k/\Below w.heap.size w w'/\Hid (lF kind ls k=lF kind ls 0)) (fun i _=>ls.length-(intOf i).toNat)
 case atStart=>exact ⟨0,cu _,rfl,aI _ _,aB rfl⟩
 case round=>
  obtain ⟨k,hk,rfl,hbel,hgood⟩:=hrel;by_cases hp:k<ls.length
  ·obtain ⟨x,hx⟩:=aJ hp
   have hstep:=aB (J2 (kind:=kind) hx);obtain ⟨b1,o1,rfl,hb1,c10⟩:=aS.str (aS.more (aS.below ha hbel) hbel.size) hx;have hg':=aB ((hbel.cell (p:=⟨g,0,none⟩) hgl).trans Hg.out);clear hx
   cases he:bP kind x
   all_goals
    have He:=aB he;clear he;go_wp2_with (go_at_call 126;refine (WG kind x g _ hg'.out).mono ?_;rintro e w1 ⟨rfl,hbx⟩;rw [He.out])
   ·go_ret
    refine ⟨⟨_,rfl,fun _=>by omega,fun h=>?_⟩,ah hbel hbx⟩;rw [<-hgood.out,hstep.out,He.out] at h
    cases h
   ·go_roundw
    case rel=>exact ⟨k+1,hp,by go_num,ah hbel hbx,aB (by rw [<-hgood.out,hstep.out,He.out,Bool.not_true,Bool.false_or])⟩
    case measure=>simp [intOf];omega
  ·have hend:=aB (MR (kind:=kind) hp)
   go_wp2_with fail;go_ret;refine ⟨⟨_,rfl,fun h=>?_,fun _=>rfl⟩,hbel⟩;rw [<-hgood.out,hend.out] at h
   cases h
theorem D5 (A:Option Addr) (c:Nat) (ls:List ByteArray) (kind:Int) (g:Nat) (w:World) (ha:p9 w w.heap.size A ls) (hg:w.cell? ⟨g,0,none⟩=some (.int .i64 kind)) (hgl:g<w.heap.size) (hl:ls.length<=9223372036854775807):
  Calls Tryz.prog 129 #[.slice A ls.length c,.func (.func 126) #[] #[.pointer (some ⟨g,0,none⟩)]] w fun e w'=>e= .returned (.bool (lF kind ls 0))/\Below w.heap.size w w':=by
 have Hg:=aB hg;clear hg
 cases hp:lF kind ls 0
 all_goals
  have Hp:=aB hp;go_enter Tryz.func129,Tryz.ntmps129;go_wp2_with (go_at_call 149;refine (J5 A c ls kind g _ ha Hg.out hgl hl).mono ?_;rintro e w1 ⟨⟨i,rfl,h1,h2⟩,hbx⟩;have H1:=aB h1;have H2:=aB h2;clear h1 h2);go_ret
 ·exact ⟨aO (by rw [H2.out Hp.out];rfl),hbx⟩
 ·exact ⟨aO (by have:=H1.out Hp.out;simpa using this),hbx⟩
theorem WH (A:Option Addr) (c:Nat) (ls:List ByteArray) (g i j:Nat) (a b:ByteArray) (w:World) (hg:w.cell? ⟨g,0,none⟩=some (.slice A ls.length c)) (ha:p9 w w.heap.size A ls) (hi:ls[i]?=some a) (hj:ls[j]?=some b) (_hl:ls.length<=1000000):
  Calls Tryz.prog 131 #[.int .i64 (i:Int),.int .i64 (j:Int),.pointer (some ⟨g,0,none⟩)] w fun e w'=>e= .returned (.int .i64 (AU a b))/\∃q,w'=w.drewN q:=by
 obtain ⟨b1,o1,rfl,hb1,c10⟩:=aS.str ha hi;obtain ⟨_,_,he,_,c11⟩:=aS.str ha hj;simp only [Option.some.injEq,Addr.mk.injEq,and_true] at he;obtain ⟨rfl,rfl⟩:=he;have hil:=aP hi;have hjl:=aP hj;clear hi hj;go_enter Tryz.func131,Tryz.ntmps131;go_wp2_with fail
 go_quiet (first
  |(go_at_call 132;go_loud (refine Calls.quiet_of_same ((MS _ _ _).mono fun e w1 h=>⟨h.1,h.2.symm⟩))))
 go_wp2_with fail;go_ret;exact ⟨rfl,_,rfl⟩
theorem WI (A:Option Addr) (c:Nat) (ls:List ByteArray) (n gl g cap base B:Nat) (w:World) (hn:ls.length=n) (hn6:n<=1000000)
  (hgl:w.cell? ⟨gl,0,none⟩=some (.slice A n c)) (hne:gl≠g) (ha:p9 w B A ls) (hB:B<=g) (hown:eX w base (some ⟨g,0,none⟩) cap (cB (MQ n))):
  Calls Tryz.prog 130 #[.slice (some ⟨g,0,none⟩) n cap,.func (.func 131) #[] #[.pointer (some ⟨gl,0,none⟩)]] w fun e w'=>e= .returned (.tuple #[])/\
   ∃os:List Nat,os.Perm (MQ n)/\os.Pairwise (fun i j=>kU (lab ls j) (lab ls i)=false)/\eX w' base (some ⟨g,0,none⟩) cap (cB os)/\w.grownBy w' (some g):=by
 match n,hn,hgl,hown with
 |0,hn,hgl,hown=>
  refine (Tryz.slices_SortFunc_none (α:=Nat) (some ⟨g,0,none⟩) cap _ w).mono ?_;rintro e w' ⟨rfl,rfl⟩
  exact ⟨rfl,[],by simp,.nil,hown,⟨rfl,rfl,rfl,aK _,fun _ _ _=>rfl⟩⟩
 |n+1,hn,hgl,hown=>
  have Pk:=(ay.block hown g rfl).2;have aql:=FD w _ hgl;have hrange:(cB (MQ (n+1))).length=n+1:=by simp [cB]
  have hd:(List.finRange (n+1)).toArray.size=n+1:=by simp
  have hdl:∀j (hj:j<n+1),(List.finRange (n+1)).toArray[j]! =⟨j,hj⟩:=fun j hj=>by
   rw [getElem!_pos _ j (by simpa using hj)];simp
  have H:=Tryz.slices_SortFunc (α:=Fin (n+1)) GN (fun _=>rfl) (cfF ls (n+1)) (swo ls _) 131 #[.pointer (some ⟨gl,0,none⟩)] g 0 cap (List.finRange (n+1)).toArray w
   (enters_of Tryz.func131 (by kernel_rfl) rfl)
   (CmpReads.lays fun m os dk hdk x y=>by
    rw [hd] at hdk;have hgr:=qL GN w g m dk os;have hxl:x.val<ls.length:=by rw [hn];exact x.isLt
    have hyl:y.val<ls.length:=by rw [hn];exact y.isLt
    have ha2:p9 (sortWorld GN w g 0 m dk os) (sortWorld GN w g 0 m dk os).heap.size A ls:=fun hne2=>by
     obtain ⟨b,o,rfl,hb,hc⟩:=ha hne2;exact ⟨b,o,rfl,Nat.lt_of_lt_of_le (by omega) hgr.size,fun i s hs j u hu=>hgr.cell (hc i s hs j u hu) (by simp;omega)⟩
    exact WH A c ls gl x.val y.val (lab ls x.val) (lab ls y.val) _ (by rw [hn];exact hgr.cell hgl (by simp;omega)) ha2 (zZ hxl) (zZ hyl) (by omega))
   (fun j hj=>by
    rw [hd] at hj;rw [hdl j hj];have hj2:(cB (MQ (n+1)))[j]?=some (j:Int):=by simp [cB,hj]
    obtain ⟨b,o,hA,_,hc⟩:=aS.int (ay.read dK hown) hj2;injection hA with hA
    injection hA with h1 h2 _
    subst h1 h2;exact ⟨hc,by rw [Nat.zero_add];exact World.ownsRow.frozenAt hown j⟩)
   Pk (by rw [hd];omega)
  rw [hd] at H;refine H.mono ?_;rintro e w' ⟨rfl,d',k,os,⟨hs,_,hperm⟩,Zl,rfl⟩;rw [hd] at hs;refine ⟨rfl,d'.toList.map Fin.val,?_,?_,ay.sorted hown hrange d' hs k os,qL _ _ _ _ _ _⟩
  ·have e1:(d'.extract 0 (n+1)).toList=d'.toList:=by
    rw [Array.toList_extract,List.extract_eq_take_drop,Nat.sub_zero,nE];exact ji (by simp;omega)
   have e2:((List.finRange (n+1)).toArray.extract 0 (n+1)).toList=List.finRange (n+1):=by
    rw [Array.toList_extract,List.extract_eq_take_drop,Nat.sub_zero,nE];exact ji (by simp)
   rw [e1,e2] at hperm;refine (hperm.map Fin.val).trans (List.Perm.of_eq ?_);apply List.ext_getElem
   ·simp
   ·intro i h1 h2;simp
  ·rw [List.pairwise_map,WX]
   intro i j hi hj hij;have hi':i<d'.size:=by simpa using hi
   have hj':j<d'.size:=by simpa using hj
   have:=Zl i j (cu _) hij (by omega);rw [CF,getElem!_pos d' i hi',getElem!_pos d' j hj'] at this;simpa using this
def g_ (s:ByteArray):List Nd->List Nd
 |[]=>[]
 |x::ys=>x.name s::ys
def CG (ls:List ByteArray) (xss:List (List Nd)) (i:Nat):List Nd:=g_ (lab ls i) ((xss[i]?).getD [])
def D6 (kind:Int) (ls:List ByteArray) (xss:List (List Nd)) (os:List Nat):List Nd:=⟨kind,dQ,(xss.length:Int)⟩::os.flatMap (CG ls xss)
def jZ (kind:Int) (ls:List ByteArray) (n:Nat):Bool:= !bF kind|| !decide (ls.length=n)||decide (50<n)||(decide (kind=7)&&decide (n=0))||lF kind ls 0
def Zm (kind:Int) (ls:List ByteArray) (xss:List (List Nd)) (w:World) (e:Ending) (w':World):Prop:=
 Below w.heap.size w w'/\
 ((jZ kind ls xss.length=true/\e= .returned (.tuple #[.slice none 0 0,.int .i64 1]))\/
  (jZ kind ls xss.length=false/\¬ls.Nodup/\e= .returned (.tuple #[.slice none 0 0,.int .i64 7]))\/
  (jZ kind ls xss.length=false/\∃(os:List Nat) (A':Option Addr) (cap':Nat),os.Perm (MQ xss.length)/\os.Pairwise (fun i j=>kU (lab ls i) (lab ls j)=true)/\
   e= .returned (.tuple #[.slice A' (D6 kind ls xss os).length cap',.int .i64 0])/\dF w' w.heap.size A' cap' (D6 kind ls xss os)))
theorem R_ {ls:List ByteArray} {os:List Nat} (h:os.Pairwise (fun i j=>kU (lab ls j) (lab ls i)=false))
  (hd:∀(j a b:Nat),os[j]?=some a->os[j+1]?=some b->lab ls a≠lab ls b):os.Pairwise (fun i j=>kU (lab ls i) (lab ls j)=true):=by
 rw [WX] at h ⊢;intro i j hi hj hij
 cases hlt:kU (lab ls os[i]) (lab ls os[j])
 ·exfalso
  have h1:i+1<os.length:=by omega
  have hle1:=h i (i+1) hi h1 (by omega)
  have hge:kU (lab ls os[i]) (lab ls os[i+1])=false:=by
   by_cases hj1:j=i+1
   ·subst hj1;exact hlt
   ·exact Fe hlt (h (i+1) j h1 hj (by omega))
  exact hd i _ _ (bS hi) (bS h1) (MU hge hle1)
 ·rfl
end Go.Proofs.YtmjdhfbnmmdjiaaGreat
