/- Laid together by a tool from the texts of this seat: PxL Figures PrintR. Conditions: each theorem's own. -/
import Derived.Test.YtmjdhfbnmmdjiaaGreatH34
import Derived.Test.YtmjdhfbnmmdjiaaGreatH01
import Derived.Lib.ItoaLen
import Derived.Laws.IdiomStrings
import Derived.Test.YtmjdhfbnmmdjiaaGreatH04
import Derived.Test.YtmjdhfbnmmdjiaaGreatH02
set_option maxHeartbeats 8000000
set_option maxRecDepth 100000
namespace Go.Proofs.YtmjdhfbnmmdjiaaGreat
open Go.Lib renaming hid->aB
open _root_.List renaming length_append->lS,length_nil->aas,length_cons->oG,mem_append->pU,mem_of_getElem?->O8,getElem?_append_right->kg,append_nil->mO,drop_zero->nE
open Go.RowKit.Below renaming refl->aI
open _root_.ByteArray renaming empty->dQ
open _root_.Bool renaming or_eq_false_iff->abS
def gX (x:List Pt):Prop:=∀q∈x,q.T.length<=5000000/\q.U.length<=5000000
theorem gX.nil:gX []:=fun q hq=>by cases hq
theorem gX.cons {p:Pt} {x:List Pt} (hp:p.T.length<=5000000/\p.U.length<=5000000) (h:gX x):gX (p::x):=fun q hq=>by
 rcases List.mem_cons.1 hq with rfl|hq
 ·exact hp
 ·exact h q hq
theorem gX.app {x y:List Pt} (h:gX x) (k:gX y):gX (x++y):=fun q hq=>by
 rcases pU.1 hq with hq|hq
 ·exact h q hq
 ·exact k q hq
theorem gX.lb {x:List Pt} (h:gX x) (s:ByteArray):gX (bQ s x):=by
 cases x with
 |nil=>exact h
 |cons p x=>exact .cons (p:={p with lb:=s}) (h p (by simp)) fun q hq=>h q (by simp [hq])
theorem gX.to {x:List Pt} {t u:List Nd} (h:gX x) (ht:t.length<=5000000) (hu:u.length<=5000000):gX (toM x t u):=by
 unfold toM;split
 ·exact h
 ·exact .cons (by simp only [mg,jM];exact ⟨ht,hu⟩) (h.lb _)
theorem gX.num:∀(n:Nat) (x:List Pt),gX x->gX (fQ n x)
 |_,[],h=>h
 |n,p::x,h=>by
  have hp:=h p (by simp);have hx:gX x:=fun q hq=>h q (by simp [hq]);show gX (mF Pt.k _ n (p::x));rw [mF];split
  ·exact .cons hp (gX.num (n+1) x hx)
  ·exact .cons hp (gX.num n x hx)
theorem dN.num:∀(n:Nat) (x:List Pt),dN x->dN (fQ n x)
 |_,[],h=>h
 |n,p::x,h=>by
  have hp:=h p (by simp);have hx:dN x:=fun q hq=>h q (by simp [hq]);show dN (mF Pt.k _ n (p::x));rw [mF];split
  ·exact fE hp (dN.num (n+1) x hx)
  ·exact fE hp (dN.num n x hx)
theorem Yd {t:List Nd} (h:t.length<=5000000):(aT t).length<=5000000:=by
 unfold aT;split
 ·decide
 ·exact h
section
variable {nx:kW} (H:∀env a x t b,nx env a=some (x,t,b)->gX x/\t.length<=5000000)
include H
theorem JC (es:List Pt) (env:Env):∀(n a:Nat) (xs:List Pt) (fs:List fB) (ys:List Pt) (gs:List fB) (b:Nat),gX xs->jo nx es env n a xs fs=some (ys,gs,b)->gX ys
 |0,a,xs,fs,ys,gs,b,hx,h=>by
  unfold jo at h;injection h with h
  injection h with h _
  rw [<-h]
  exact hx
 |n+1,a,xs,fs,ys,gs,b,hx,h=>by
  obtain ⟨x,y,t,c,_,h1,h2⟩:=Bd h;exact JC es env n c _ _ ys gs b (hx.app (H _ _ _ _ _ h1).1) h2
theorem FJ (es:List Pt) (hes:gX es) (env:Env) (u:List Nd):∀(n a:Nat) (l L:List Br) (b:Nat),(∀e∈l,(e.1.T.length<=5000000/\e.1.U.length<=5000000)/\gX e.2.1/\e.2.2.length<=5000000)->iI nx es env u n a l=some (L,b)->∀e∈L,(e.1.T.length<=5000000/\e.1.U.length<=5000000)/\gX e.2.1/\e.2.2.length<=5000000
 |0,a,l,L,b,hl,h=>by
  unfold iI at h;injection h with h
  injection h with h _
  rw [<-h]
  exact hl
 |n+1,a,l,L,b,hl,h=>by
  obtain ⟨x,v,y,t,c,hx,_,h1,h2⟩:=zC h;refine FJ es hes env u n c _ L b (fun e he=>?_) h2;rcases pU.1 he with he|he
  ·exact hl e he
  ·simp at he
   subst he;exact ⟨hes x (O8 hx),H _ _ _ _ _ h1⟩
theorem Ye (es:List Pt) (hes:gX es) (env:Env) (p:Pt) (hp:p∈es) (a:Nat) (x:List Pt) (t:List Nd) (b:Nat) (h:dJ nx es env p a=some (x,t,b)):gX x:=by
 have hpl:=hes p hp;unfold dJ at h;by_cases h0:p.k=0
 ·rw [if_pos h0] at h
  unfold Vd at h;injection h with h
  injection h with h _
  rw [<-h];exact .cons hpl .nil
 rw [if_neg h0] at h;by_cases h1:p.k=1
 ·rw [if_pos h1] at h
  unfold Ef at h;rw [Option.map_eq_some_iff] at h;obtain ⟨u,_,h⟩:=h;injection h with h _
  rw [<-h];exact .cons hpl .nil
 rw [if_neg h1] at h;by_cases h2:p.k=2
 ·rw [if_pos h2] at h
  obtain ⟨y,u,c,k1,h⟩:=bD h;injection h with h
  injection h with h _
  rw [<-h];exact .cons hpl (H _ _ _ _ _ k1).1
 rw [if_neg h2] at h;by_cases h3:p.k=3
 ·rw [if_pos h3] at h
  obtain ⟨y,u,c,k1,h⟩:=bD h;obtain ⟨z,v,d,k2,h⟩:=bD h;split at h
  ·cases h
  ·split at h
   ·rename_i hl
    injection h with h
    injection h with h _
    rw [<-h];exact .cons hpl (((H _ _ _ _ _ k1).1.to (H _ _ _ _ _ k1).2 (Yd (H _ _ _ _ _ k1).2)).app ((H _ _ _ _ _ k2).1.to (H _ _ _ _ _ k2).2 hl))
   ·cases h
 rw [if_neg h3] at h;by_cases h4:p.k=4
 ·rw [if_pos h4] at h
  obtain ⟨y,u,c,k1,h⟩:=bD h;obtain ⟨z,v,d,k2,h⟩:=bD h;injection h with h
  injection h with h _
  rw [<-h];exact .cons hpl (((H _ _ _ _ _ k1).1.to (H _ _ _ _ _ k1).2 hpl.1).app (H _ _ _ _ _ k2).1)
 rw [if_neg h4] at h;by_cases h5:p.k=5
 ·rw [if_pos h5] at h
  obtain ⟨y,u,c,k1,h⟩:=bD h;obtain ⟨z,v,d,k2,h⟩:=bD h;injection h with h
  injection h with h _
  rw [<-h];exact .cons hpl (((H _ _ _ _ _ k1).1.to (H _ _ _ _ _ k1).2 hpl.2).app (H _ _ _ _ _ k2).1)
 rw [if_neg h5] at h;by_cases h6:p.k=6
 ·rw [if_pos h6] at h
  obtain ⟨y,u,c,k1,h⟩:=bD h;obtain ⟨z,v,d,k2,h⟩:=bD h;obtain ⟨z2,v2,d2,k3,h⟩:=bD h;split at h
  ·split at h
   ·rename_i hl
    injection h with h
    injection h with h _
    rw [<-h];exact .cons hpl (((H _ _ _ _ _ k1).1.to (H _ _ _ _ _ k1).2 (by decide)).app (((H _ _ _ _ _ k2).1.to (H _ _ _ _ _ k2).2 hl).app ((H _ _ _ _ _ k3).1.to (H _ _ _ _ _ k3).2 hl)))
   ·cases h
  ·cases h
 rw [if_neg h6] at h;by_cases h7:p.k=7
 ·rw [if_pos h7] at h
  obtain ⟨_,y,u,c,v,e,l',d,m,k1,_,k2,k3,_,k4,k5⟩:=Fz h;injection k5 with k5 _
  rw [k5];have hB:=FJ H es hes env v _ _ [] _ _ (fun e he=>by cases he) k3;refine ((gX.cons hpl ((H _ _ _ _ _ k1).1.to (H _ _ _ _ _ k1).2 k2.2))).app fun q hq=>?_;obtain ⟨e',he',hq⟩:=List.mem_flatMap.1 hq;obtain ⟨j1,j2,j3⟩:=hB e' he';exact (gX.cons j1 (j2.to j3 k4)) q hq
 rw [if_neg h7] at h;by_cases h9:p.k=9
 ·rw [if_pos h9] at h
  obtain ⟨y,u,c,k1,h⟩:=bD h;obtain ⟨z,v,d,k2,h⟩:=bD h;injection h with h
  injection h with h _
  rw [<-h];have hb:(aH (cZ p.nm)).length<=5000000:=by simp [aH]
  exact .cons hpl (((H _ _ _ _ _ k1).1.to (H _ _ _ _ _ k1).2 hb).app ((H _ _ _ _ _ k2).1.to (H _ _ _ _ _ k2).2 hb))
 rw [if_neg h9] at h;by_cases h10:p.k=10
 ·rw [if_pos h10] at h
  unfold xK at h;split at h
  ·split at h
   ·cases h
   ·rename_i xs fs c hc
    split at h
    ·injection h with h
     injection h with h _
     rw [<-h];exact JC H es env _ _ _ _ _ _ _ (.cons hpl .nil) hc
    ·cases h
  ·cases h
 rw [if_neg h10] at h;by_cases h11:p.k=11
 ·rw [if_pos h11] at h
  obtain ⟨y,u,c,k1,h⟩:=bD h;split at h
  ·cases h
  ·injection h with h
   injection h with h _
   rw [<-h];exact .cons hpl (H _ _ _ _ _ k1).1
 rw [if_neg h11] at h;by_cases h12:p.k=12
 ·rw [if_pos h12] at h
  obtain ⟨y,u,c,k1,h⟩:=bD h;split at h
  ·cases h
  ·split at h
   ·rename_i hl
    injection h with h
    injection h with h _
    rw [<-h];exact .cons hpl ((H _ _ _ _ _ k1).1.to (H _ _ _ _ _ k1).2 hl.2)
   ·cases h
 rw [if_neg h12] at h;by_cases jT:p.k=13
 ·rw [if_pos jT] at h
  obtain ⟨y,u,c,k1,h⟩:=bD h;injection h with h
  injection h with h _
  rw [<-h];exact ((H _ _ _ _ _ k1).1.to (H _ _ _ _ _ k1).2 hpl.1).lb _
 rw [if_neg jT] at h;by_cases gW:p.k=14
 ·rw [if_pos gW] at h
  obtain ⟨y,u,c,k1,h⟩:=bD h;injection h with h
  injection h with h _
  rw [<-h];exact .cons hpl (H _ _ _ _ _ k1).1
 rw [if_neg gW] at h
 cases h
end
theorem Rj:∀(f:Nat) (es:List Pt),gX es->∀(env:Env) (a:Nat) (x:List Pt) (t:List Nd) (b:Nat),cst f es env a=some (x,t,b)->gX x/\t.length<=5000000
 |0,_,_,_,_,_,_,_,h=>by cases h
 |f+1,es,hes,env,a,x,t,b,h=>by
  have hg:=Dk _ _ _ _ _ _ _ h;obtain ⟨p,hp,_,_,hw,_⟩:=wP h;exact ⟨Ye (Rj f es hes) es hes env p (O8 hp) (a+1) x t b hw,hg.tl⟩
open Go.RowKit
theorem Dt (w:World) (z:Int) (c:UInt8) (hz:z=c.toNat):
  (convert 131 9 (.slice (some ⟨w.heap.size,0,none⟩) 1 1)).run Tryz.prog (w.alloc (.cells #[.int .u8 z] 5))= .ok (.string ⟨#[c]⟩) (w.alloc (.cells #[.int .u8 z] 5)):=by
 have h:=run_convert_bytes_back (P:=Tryz.prog) (w.alloc (.cells #[.int .u8 z] 5)) 131 9 5 ⟨w.heap.size,0,none⟩ 1 [c] Tryz.underlying131 Tryz.underlying5 Tryz.underlying9 (by
  intro j hj;have hj0:j=0:=by simpa using hj
  subst hj0;rw [hz];exact World.cell?_alloc_new _ _ _ _)
 exact h
theorem Cc {m:Nat} (h:¬9<m):Lib.decDigits m=[UInt8.ofNat (48+m)]:=by
 rw [Lib.decDigits,dif_pos (by omega)]
theorem Rk {m:Nat} (h:9<m):Lib.decDigits m=Lib.decDigits (m / 10)++[UInt8.ofNat (48+m % 10)]:=by
 rw [Lib.decDigits,dif_neg (by omega)]
theorem Ai {d:Nat} (h:d<=9):((UInt8.ofNat (48+d)).toNat:Int)=48+(d:Int):=by
 rw [UInt8.toNat_ofNat_of_lt' (by show 48+d<256;omega)];omega
theorem Rm {n m:Nat} {t:ByteArray} (hn:n<=9223372036854775807) (h:Lib.decDigits m++t.data.toList=Lib.decDigits n):t.size<=20:=by
 have h1:=congrArg List.length h;rw [lS,Lib.decDigits_length,Lib.decDigits_length] at h1;have h2:=Lib.nDigits_le20 n (by omega);have h3:t.data.toList.length=t.size:=rfl;omega
theorem Du (n:Nat) (hn:n<=9223372036854775807) (w:World):
  Calls Tryz.prog 94 #[.int .i64 (n:Int)] w fun e w'=>e= .returned (.string ⟨(Lib.decDigits n).toArray⟩)/\Below w.heap.size w w':=by
 go_enter Tryz.func94,Tryz.ntmps94;go_wp2_with fail
 go_loopw [0,3] (fun a0 s3 wr=>∃(m:Nat) (t:ByteArray),a0= .int .i64 m/\s3= .string t/\m<=n/\Below w.heap.size w wr/\Hid (Lib.decDigits m++t.data.toList=Lib.decDigits n))
  (fun a0 _ _=>(intOf a0).toNat)
 case atStart=>exact ⟨n,_,rfl,rfl,Nat.le_refl _,aI _ _,aB (by simp)⟩
 case round=>
  obtain ⟨m,t,rfl,rfl,hm,hbel,hgood⟩:=hrel;have ajG:(0:Int)<=(m:Int) % 10:=by omega
  have ajH:(m:Int) % 10<=9:=by omega
  have hts:=Rm hn hgood.out;by_cases h9:9<m
  ·have h9i:(9:Int)<(m:Int):=by omega
   have dX:=Rk h9;have hz:=Ai (show m % 10<=9 by omega);generalize UInt8.ofNat (48+m % 10)=c at*;have xR:=aB dX;have Ur:=Dt wr (48+(m:Int) % 10) c (by rw [hz];simp);clear dX hz;go_wp2_with fail;go_roundw
   case rel=>exact ⟨m / 10,⟨#[c]⟩++t,by go_num,rfl,by omega,au hbel _,aB (by rw [<-hgood.out,xR.out,ByteArray.data_append];simp)⟩
   case measure=>simp [intOf];omega
  ·have h9i:¬(9:Int)<(m:Int):=by omega
   have dX:=Cc h9;have hz:=Ai (show m<=9 by omega);generalize UInt8.ofNat (48+m)=c at*;have xR:=aB dX;have Ur:=Dt wr (48+(m:Int)) c (by rw [hz]);clear dX hz;go_wp2_with fail;go_ret;exact ⟨tL (by rw [<-hgood.out,xR.out];apply ByteArray.ext;simp [ByteArray.data_append]),au hbel _⟩
theorem VP {s:ByteArray} {l:List UInt8} (h:s.data.toList=l):s=⟨l.toArray⟩:=by
 obtain ⟨⟨x⟩⟩:=s;simp only at h;rw [h]
theorem Mg (n:Nat):Lib.itoa (n:Int)=Lib.decDigits n:=by
 unfold Lib.itoa;rw [if_neg (by omega)];rfl
theorem Ut (x:Nd) (hok:dP x.k x.n=true) (hn:x.n<=9223372036854775807) (h5:x.k≠5) (hr:bF x.k=false) (w:World):
  Calls Tryz.prog 63 #[.agg #[.int .i64 x.k,.string x.s,.int .i64 x.n]] w fun e w'=>e= .returned (.string ⟨(Gw x).toArray⟩)/\Below w.heap.size w w':=by
 obtain ⟨k,s,n⟩:=x;simp only at hok hn h5 hr ⊢
 have hk9:0<=k/\k<=9:=by
  unfold dP at hok;split at hok
  ·omega
  split at hok
  ·omega
  split at hok
  ·omega
  ·simp at hok;omega
 have h6:k≠6:=by rintro rfl;cases hr
 have h7:k≠7:=by rintro rfl;cases hr
 clear hr;have hk:(k=8\/k=9)\/k=0\/k=1\/k=2\/k=3\/k=4:=by omega
 clear h5 h6 h7 hk9;rcases hk with hk|hk
 ·have hn0:0<=n:=by
   rcases hk with rfl|rfl<;>simpa [dP] using hok
  obtain ⟨m,rfl⟩:=Int.eq_ofNat_of_zero_le hn0;clear hok hn0;have hlen:=Lib.nDigits_le20 m (by omega);rw [<-Lib.decDigits_length] at hlen;obtain ⟨t,ht⟩:∃t:ByteArray,t=⟨(Lib.decDigits m).toArray⟩:=⟨_,rfl⟩;have hts:t.size<=20:=by rw [ht];simpa [ByteArray.size] using hlen
  have Ht:=aB ht;clear ht hlen;rcases hk with rfl|rfl
  ·go_enter Tryz.func63,Tryz.ntmps63
   go_wp2_with fail;refine (Du m (by omega) _).mono ?_;rintro e w1 ⟨rfl,hb⟩;rw [<-Ht.out];have hbel:=(au (aI w.heap.size w) (.cells #[.int .i64 8,.string s,.int .i64 m] 49)).trans (hb.mono (by simp));clear hb;go_wp2_with fail;go_ret;exact ⟨tL (by rw [Ht.out];simp only [Gw];rw [Mg];apply ByteArray.ext;simp [ByteArray.data_append]),hbel⟩
  ·go_enter Tryz.func63,Tryz.ntmps63
   go_wp2_with fail;refine (Du m (by omega) _).mono ?_;rintro e w1 ⟨rfl,hb⟩;rw [<-Ht.out];have hbel:=(au (aI w.heap.size w) (.cells #[.int .i64 9,.string s,.int .i64 m] 49)).trans (hb.mono (by simp));clear hb;go_wp2_with fail;go_ret;exact ⟨tL (by rw [Ht.out];simp only [Gw];rw [Mg];apply ByteArray.ext;simp [ByteArray.data_append]),hbel⟩
 ·clear hok hn
  rcases hk with rfl|rfl|rfl|rfl|rfl
  all_goals
   go_enter Tryz.func63,Tryz.ntmps63;go_wp2_with fail;go_ret;exact ⟨rfl,au (aI _ _) _⟩
def OB (f:Nat):Prop:=∀(i j c:Nat) (A:Option Addr) (T:List Nd) (w:World),eG T f i=some j->bJ w w.heap.size A T->T.length<=1000000->bC T->
 (∀x∈T,x.Ok)->(iN f (T.drop i)).length<=1000000000->
 Calls Tryz.prog 44 #[.slice A T.length c,.int .i64 (i:Int)] w fun e w'=>e= .returned (.string ⟨(iN f (T.drop i)).toArray⟩)/\Below w.heap.size w w'
theorem wS {T:List Nd} {f i j:Nat} (h:eG T f i=some j):i<T.length/\endGo (T.drop i) 1 i=j:=by
 obtain ⟨ts,rest,ht⟩:=sN _ _ _ h;exact ⟨lC ht.at_ ht.fo.pos,by rw [iY ht.at_ ht.ok ht.fo,ht.ej]⟩
theorem zR {T:List Nd} {i:Nat} {x:Nd} (hx:T[i]?=some x):eu T (i:Int)=aV T (manyN x) (i+1):=by
 unfold eu manyN;rw [if_neg (by omega)];simp [hx]
theorem Ku (i c:Nat) (A:Option Addr) (T:List Nd) (w:World) (x:Nd) (hx:T[i]?=some x) (h5:x.k≠5) (hr:bF x.k=false) (ha:bJ w w.heap.size A T) (hl:T.length<=1000000) (hok:bC T) (xS:∀x∈T,x.Ok):
  Calls Tryz.prog 44 #[.slice A T.length c,.int .i64 (i:Int)] w fun e w'=>e= .returned (.string ⟨(Gw x).toArray⟩)/\Below w.heap.size w w':=by
 have hi:=aP hx;have Hx:=aB hx;have n_:=aB hok;have Hxo:=aB (hok x (gH hx));have hxn:=(xS x (gH hx)).n1;have h5b:(x.k==5)=false:=by simpa using h5
 have FR:(x.k !=6)=true:=by
  simp only [bF,abS] at hr;simpa using hr.1
 have wX:(x.k !=7)=true:=by
  simp only [bF,abS] at hr;simpa using hr.2
 have H5:=aB h5;have Hr:=aB hr;have hi0:¬(i:Int)<0:=by omega
 have hi1:¬(T.length:Int)<=(i:Int):=by omega
 clear hx hok xS h5 hr;go_enter Tryz.func44,Tryz.ntmps44;go_wp2_with fail;refine (tN A c T i w ha hl n_.out).mono ?_;rintro e w1 ⟨A',cap',rfl,_,hb1⟩;obtain ⟨b1,o1,rfl,hlt,c10,c11,c12⟩:=((ha.below hb1).more hb1.size).at_ Hx.out;generalize (cB (eu T i)).length=L;go_wp2_with fail;refine (Ut x Hxo.out hxn H5.out Hr.out _).mono ?_;rintro e w2 ⟨rfl,hb2⟩;go_wp2_with fail;go_ret;exact ⟨rfl,ah hb1 hb2⟩
theorem JD (f:Nat) (hN:OB f) (i j1 j c:Nat) (A:Option Addr) (T:List Nd) (w:World) (x:Nd) (hx:T[i]?=some x) (h5:x.k=5) (h1:eG T f (i+1)=some j1) (h2:eG T f j1=some j) (ha:bJ w w.heap.size A T) (hl:T.length<=1000000) (hok:bC T) (xS:∀x∈T,x.Ok)
  (hlen:((if (aD (T.drop (i+1))).k=5 then 40::(iN f (T.drop (i+1))++[41]) else iN f (T.drop (i+1)))++([32,45,62,32]++iN f (T.drop j1))).length<=1000000000):
  Calls Tryz.prog 44 #[.slice A T.length c,.int .i64 (i:Int)] w fun e w'=>e= .returned (.string ⟨((if (aD (T.drop (i+1))).k=5 then 40::(iN f (T.drop (i+1))++[41]) else iN f (T.drop (i+1)))++([32,45,62,32]++iN f (T.drop j1))).toArray⟩)/\Below w.heap.size w w':=by
 generalize vC:((if (aD (T.drop (i+1))).k=5 then 40::(iN f (T.drop (i+1))++[41]) else iN f (T.drop (i+1)))++([32,45,62,32]++iN f (T.drop j1)))=txt at*;have HN:=aB hN;have hi:=aP hx;have Hx:=aB hx;have n_:=aB hok;have oh:=aB xS;have H1:=aB h1;have H2:=aB h2;obtain ⟨k,s,n⟩:=x;simp only at h5;subst h5;obtain ⟨y,hy⟩:=Gx h1;rw [wY hy] at vC;have amW:=aB vC;have Hy:=aB hy;obtain ⟨hi1,he1⟩:=wS h1;obtain ⟨hj1,_⟩:=wS h2
 have hkk:cB (eu T (i:Int))=[((i+1:Nat):Int),((j1:Nat):Int)]:=by
  rw [zR hx,show manyN (⟨5,s,n⟩:Nd)=2 from rfl,eH hi1,he1,eH hj1];rfl
 have Hkk:=aB hkk;have hi0:¬(i:Int)<0:=by omega
 have aeT:¬(T.length:Int)<=(i:Int):=by omega
 obtain ⟨sa,hsa⟩:∃s:ByteArray,s=⟨(iN f (T.drop (i+1))).toArray⟩:=⟨_,rfl⟩;obtain ⟨sb,hsb⟩:∃s:ByteArray,s=⟨(iN f (T.drop j1)).toArray⟩:=⟨_,rfl⟩;have hla:sa.size=(iN f (T.drop (i+1))).length:=by rw [hsa];simp [ByteArray.size]
 have hlb:sb.size=(iN f (T.drop j1)).length:=by rw [hsb];simp [ByteArray.size]
 have amX:sa.size<=1000000000/\sb.size<=1000000000:=by
  rw [hla,hlb];rw [<-vC] at hlen;split at hlen<;>simp at hlen<;>omega
 obtain ⟨hba,hbb⟩:=amX;have hpa:(iN f (T.drop (i+1))).length<=1000000000:=by omega
 have hpb:(iN f (T.drop j1)).length<=1000000000:=by omega
 have Hsa:=aB hsa;have Hsb:=aB hsb;clear hx hok xS h1 h2 hy he1 hkk hsa hsb hla hlb hN hlen vC
 cases h5:(y.k==5)
 all_goals
  have H5:=aB h5;go_enter Tryz.func44,Tryz.ntmps44;go_wp2_with fail;refine (tN A c T i w ha hl n_.out).mono ?_;rintro e w1 ⟨A',cap',rfl,hown,hb1⟩;rw [Hkk.out] at hown ⊢;have ha1:=(ha.below hb1).more hb1.size;have hown1:=ay.read dK hown;obtain ⟨b1,o1,rfl,hlt,c10,c11,c12⟩:=ha1.at_ Hx.out;obtain ⟨_,_,hee,_,Rn,d11,d12⟩:=ha1.at_ Hy.out;simp only [Option.some.injEq,Addr.mk.injEq,and_true] at hee;obtain ⟨rfl,rfl⟩:=hee;obtain ⟨b2,o2,rfl,hlt2,k0⟩:=aS.int hown1 (i:=0) rfl;obtain ⟨_,_,hee,_,k1⟩:=aS.int hown1 (i:=1) rfl;simp only [Option.some.injEq,Addr.mk.injEq,and_true] at hee;obtain ⟨rfl,rfl⟩:=hee;rw [Nat.add_zero] at k0;have hl2:([((i+1:Nat):Int),((j1:Nat):Int)]:List Int).length=2:=rfl;rw [hl2];clear hl2 hown;go_wp2_with fail;have hcall:=HN.out (i+1) j1 c (some ⟨b1,o1,none⟩) T w1 H1.out ha1 hl n_.out oh.out hpa;rw [<-Hsa.out,Int.natCast_add,Int.natCast_one] at hcall;refine hcall.mono ?_;rintro e w2 ⟨rfl,hb2⟩;clear hcall;obtain ⟨hc2,hf2⟩:=YB hb2;have am2:=ah hb1 hb2;have ha2:=(ha1.below hb2).more hb2.size;have z2:=hb2.size;go_wp2_with fail;have hcall:=HN.out j1 j c (some ⟨b1,o1,none⟩) T w2 H2.out ha2 hl n_.out oh.out hpb;rw [<-Hsb.out] at hcall;refine hcall.mono ?_;rintro e w3 ⟨rfl,hb3⟩;clear hcall;go_wp2_with fail;go_ret;refine ⟨tL ?_,ah am2 hb3⟩;have h5':=H5.out;simp only [beq_iff_eq,beq_eq_false_iff_ne] at h5';rw [<-amW.out,Hsa.out,Hsb.out]
  first|rw [if_neg h5']|rw [if_pos h5']
  apply ByteArray.ext;simp [ByteArray.data_append]
theorem xU {T:List Nd} {f:Nat} {x:Nd}:∀(d:Nat) (k:Int) (last:ByteArray) (i j:Nat),jU (eG T f) T x d k last i=some j->(aV T d i).length=d
 |0,_,_,_,_,_=>rfl
 |d+1,k,last,i,j,h=>by
  obtain ⟨y,at',_,hat,hk⟩:=rJ h;obtain ⟨hal,hae⟩:=wS hat;rw [eH hal,hae,oG,xU d _ _ _ _ hk]
theorem Kv (f:Nat) (hN:OB f) (i j c m:Nat) (A:Option Addr) (T:List Nd) (w:World) (x:Nd) (hx:T[i]?=some x) (h5:x.k=6) (hm:manyN x=m) (U0:m<=50) (h1:jU (eG T f) T x m 0 dQ (i+1)=some j) (ha:bJ w w.heap.size A T) (hl:T.length<=1000000) (hok:bC T) (xS:∀x∈T,x.Ok)
  (hlen:(123::(fT (iN f) [44,32] m [] (T.drop (i+1))++[125])).length<=1000000000):
  Calls Tryz.prog 44 #[.slice A T.length c,.int .i64 (i:Int)] w fun e w'=>e= .returned (.string ⟨(123::(fT (iN f) [44,32] m [] (T.drop (i+1))++[125])).toArray⟩)/\Below w.heap.size w w':=by
 generalize hfull:(123::(fT (iN f) [44,32] m [] (T.drop (i+1))++[125]))=full at*;have Uu:=aB hfull;rw [<-hfull] at hlen;have HN:=aB hN;have hi:=aP hx;have Hx:=aB hx;have n_:=aB hok;have oh:=aB xS;have H1:=aB h1;have Ir:Hid (eu T (i:Int)=aV T m (i+1)):=aB (by rw [zR hx,hm]);have hX:=aB h5;have hi0:¬(i:Int)<0:=by omega
 have aeT:¬(T.length:Int)<=(i:Int):=by omega
 simp only [oG,lS,aas] at hlen;clear hx hok xS h1 hN hm h5 hfull;go_enter Tryz.func44,Tryz.ntmps44;go_wp2_with fail;refine (tN A c T i w ha hl n_.out).mono ?_;rintro e w1 ⟨A',cap',rfl,hown,hb1⟩;have ha1:=(ha.below hb1).more hb1.size;have hown1:=ay.read dK hown;obtain ⟨b1,o1,rfl,hlt,c10,c11,c12⟩:=ha1.at_ Hx.out;rw [hX.out] at c10;have hK:=aB (xU (T:=T) (f:=f) (x:=x) m 0 dQ (i+1) j H1.out);rw [Ir.out] at hown1 ⊢;have Uv:(cB (aV T m (i+1))).length=m:=by rw [mh];exact hK.out
 rw [Uv];have Ng:=aB Uv;clear hown Uv;generalize hG:aV T m (i+1)=G at*;have HG:=aB hG;clear hG Ir hK;go_wp2_with fail
 go_loopw [10,11] (fun s10 k11 wr=>∃(k at_:Nat) (s:ByteArray) (last:ByteArray) (pre:List Nat),s10= .string s/\k11= .int .i64 k/\k<=m/\Hid (jU (eG T f) T x (m-k) k last at_=some j)/\Below w1.heap.size w1 wr/\
   Hid (G=pre++aV T (m-k) at_/\pre.length=k)/\s.size+(fT (iN f) [44,32] (m-k) (if k=0 then [] else [44,32]) (T.drop at_)).length<=999999999/\
   Hid (s.data.toList++fT (iN f) [44,32] (m-k) (if k=0 then [] else [44,32]) (T.drop at_)=123::fT (iN f) [44,32] m [] (T.drop (i+1))))
  (fun _ k11 _=>m-(intOf k11).toNat)
 case atStart=>exact ⟨0,i+1,_,dQ,[],rfl,rfl,Nat.zero_le _,aB H1.out,aI _ _,aB ⟨by rw [<-HG.out];rfl,rfl⟩,by simp [ByteArray.size_mk'];omega,aB rfl⟩
 case round=>
  obtain ⟨k,at_,s,last,pre,rfl,rfl,hkm,kr,hbel,hpre,hsz,vC⟩:=hrel;have har:=(ha1.below hbel).more hbel.size;have hor:=(aS.below hown1 hbel).more hbel.size;by_cases hlt':k<m
  ·obtain ⟨d,hd⟩:∃d,m-k=d+1:=⟨m-k-1,by omega⟩
   rw [hd] at kr hpre vC hsz;obtain ⟨y,at',hy,hat,Dv⟩:=rJ kr.out;have Hk':=aB Dv;obtain ⟨hal,hae⟩:=wS hat
   have hGk:G[k]?=some at_:=by
    rw [hpre.out.1,eH hal,kg (by rw [hpre.out.2];exact Nat.le_refl _),hpre.out.2];simp
   have hpre':Hid (G=(pre++[at_])++aV T d at'/\(pre++[at_]).length=k+1):=aB ⟨by rw [hpre.out.1,eH hal,hae];simp,by simp [hpre.out.2]⟩;have hrest:=yK hat
   have htx:fT (iN f) [44,32] (d+1) (if k=0 then [] else [44,32]) (T.drop at_)=(if k=0 then [] else [44,32])++((if y.k=9 then [] else y.s.data.toList++[58,32])++(iN f (T.drop at_)++fT (iN f) [44,32] d [44,32] (T.drop at'))):=by
    simp only [fT];rw [wY hy,hrest]
   rw [htx] at hsz;have Htx:=aB htx;obtain ⟨bk,ok,hke,_,kc⟩:=aS.int hor (p8 hGk);obtain ⟨b3,o3,hee,_,Rn,d11,d12⟩:=har.at_ hy;simp only [Option.some.injEq,Addr.mk.injEq,and_true] at hee;obtain ⟨rfl,rfl⟩:=hee;subst hke;have Hat:=aB hat;have Hd:=aB hd;obtain ⟨st,hst⟩:∃s:ByteArray,s=⟨(iN f (T.drop at_)).toArray⟩:=⟨_,rfl⟩;have hsl:st.size=(iN f (T.drop at_)).length:=by rw [hst];simp [ByteArray.size]
   simp only [lS] at hsz;rw [<-hsl] at hsz;have hpl:(iN f (T.drop at_)).length<=1000000000:=by omega
   have Hst:=aB hst;have Hsl:=aB hsl;have hy0:=uY y.s;rw [hy0] at*;obtain ⟨r,hr⟩:∃r,r=(fT (iN f) [44,32] d [44,32] (T.drop at')).length:=⟨_,rfl⟩;rw [<-hr] at hsz;have Hr:=aB hr;clear hat hd hst hsl hy hae hGk hrest htx kr Dv hpre hr;by_cases hk0:k=0
   all_goals
    have Gt:=aB hk0;by_cases h9:y.k=9
   all_goals
    have H9:=aB h9
    first|(have O7:¬(0:Int)<(k:Int):=by omega)|(have O7:(0:Int)<(k:Int):=by omega)
    first|(have OY:(y.k !=9)=true:=by simpa using h9)|(have OY:(y.k !=9)=false:=by simpa using h9)
    first|rw [if_pos hk0] at hsz|rw [if_neg hk0] at hsz
    first|rw [if_pos h9] at hsz|rw [if_neg h9] at hsz
    simp only [lS,oG,aas,uY] at hsz;clear hk0 h9;go_wp2_with fail;have hcall:=HN.out at_ at' c (some ⟨b1,o1,none⟩) T wr Hat.out har hl n_.out oh.out hpl;rw [<-Hst.out] at hcall;refine hcall.mono ?_;rintro e w2 ⟨rfl,hb2⟩;clear hcall;go_wp2_with fail;go_roundw
    case rel=>
     refine ⟨k+1,at',_,y.s,pre++[at_],rfl,by go_num,by omega,aB (by rw [show m-(k+1)=d by have:=Hd.out;omega];exact Hk'.out),ah hbel hb2,aB (by rw [show m-(k+1)=d by have:=Hd.out;omega];exact hpre'.out),?_,aB ?_⟩
     ·rw [if_neg (by omega),show m-(k+1)=d by have:=Hd.out;omega,<-Hr.out]
      simp [ByteArray.size_mk'];omega
     ·rw [if_neg (by omega),show m-(k+1)=d by have:=Hd.out;omega,<-vC.out,Htx.out]
      first|rw [if_pos Gt.out]|rw [if_neg Gt.out]
      first|rw [if_pos H9.out]|rw [if_neg H9.out]
      rw [Hst.out];simp [ByteArray.data_append]
    case measure=>simp [intOf];omega
  ·have JE:m-k=0:=by omega
   rw [JE] at vC hsz;have Hkm:=aB JE;simp only [fT,aas] at hsz;clear JE;go_wp2_with fail;go_ret;refine ⟨tL ?_,ah hb1 hbel⟩;have ht2:=vC.out;simp only [fT,mO] at ht2;rw [<-Uu.out];refine VP ?_;rw [ByteArray.data_append,Array.toList_append,ht2];simp
theorem Kw (f:Nat) (hN:OB f) (i j c m:Nat) (A:Option Addr) (T:List Nd) (w:World) (x:Nd) (hx:T[i]?=some x) (h5:x.k=7) (hm:manyN x=m) (U0:m<=50) (h1:jU (eG T f) T x m 0 dQ (i+1)=some j) (ha:bJ w w.heap.size A T) (hl:T.length<=1000000) (hok:bC T) (xS:∀x∈T,x.Ok)
  (hlen:(91::(fT (iN f) [32,124,32] m [] (T.drop (i+1))++[93])).length<=1000000000):
  Calls Tryz.prog 44 #[.slice A T.length c,.int .i64 (i:Int)] w fun e w'=>e= .returned (.string ⟨(91::(fT (iN f) [32,124,32] m [] (T.drop (i+1))++[93])).toArray⟩)/\Below w.heap.size w w':=by
 generalize hfull:(91::(fT (iN f) [32,124,32] m [] (T.drop (i+1))++[93]))=full at*;have Uu:=aB hfull;rw [<-hfull] at hlen;have HN:=aB hN;have hi:=aP hx;have Hx:=aB hx;have n_:=aB hok;have oh:=aB xS;have H1:=aB h1;have Ir:Hid (eu T (i:Int)=aV T m (i+1)):=aB (by rw [zR hx,hm]);have hX:=aB h5;have hi0:¬(i:Int)<0:=by omega
 have aeT:¬(T.length:Int)<=(i:Int):=by omega
 simp only [oG,lS,aas] at hlen;clear hx hok xS h1 hN hm h5 hfull;go_enter Tryz.func44,Tryz.ntmps44;go_wp2_with fail;refine (tN A c T i w ha hl n_.out).mono ?_;rintro e w1 ⟨A',cap',rfl,hown,hb1⟩;have ha1:=(ha.below hb1).more hb1.size;have hown1:=ay.read dK hown;obtain ⟨b1,o1,rfl,hlt,c10,c11,c12⟩:=ha1.at_ Hx.out;rw [hX.out] at c10;have hK:=aB (xU (T:=T) (f:=f) (x:=x) m 0 dQ (i+1) j H1.out);rw [Ir.out] at hown1 ⊢;have Uv:(cB (aV T m (i+1))).length=m:=by rw [mh];exact hK.out
 rw [Uv];have Ng:=aB Uv;clear hown Uv;generalize hG:aV T m (i+1)=G at*;have HG:=aB hG;clear hG Ir hK;go_wp2_with fail
 go_loopw [10,11] (fun s10 k11 wr=>∃(k at_:Nat) (s:ByteArray) (last:ByteArray) (pre:List Nat),s10= .string s/\k11= .int .i64 k/\k<=m/\Hid (jU (eG T f) T x (m-k) k last at_=some j)/\Below w1.heap.size w1 wr/\
   Hid (G=pre++aV T (m-k) at_/\pre.length=k)/\s.size+(fT (iN f) [32,124,32] (m-k) (if k=0 then [] else [32,124,32]) (T.drop at_)).length<=999999999/\
   Hid (s.data.toList++fT (iN f) [32,124,32] (m-k) (if k=0 then [] else [32,124,32]) (T.drop at_)=91::fT (iN f) [32,124,32] m [] (T.drop (i+1))))
  (fun _ k11 _=>m-(intOf k11).toNat)
 case atStart=>exact ⟨0,i+1,_,dQ,[],rfl,rfl,Nat.zero_le _,aB H1.out,aI _ _,aB ⟨by rw [<-HG.out];rfl,rfl⟩,by simp [ByteArray.size_mk'];omega,aB rfl⟩
 case round=>
  obtain ⟨k,at_,s,last,pre,rfl,rfl,hkm,kr,hbel,hpre,hsz,vC⟩:=hrel;have har:=(ha1.below hbel).more hbel.size;have hor:=(aS.below hown1 hbel).more hbel.size;by_cases hlt':k<m
  ·obtain ⟨d,hd⟩:∃d,m-k=d+1:=⟨m-k-1,by omega⟩
   rw [hd] at kr hpre vC hsz;obtain ⟨y,at',hy,hat,Dv⟩:=rJ kr.out;have Hk':=aB Dv;obtain ⟨hal,hae⟩:=wS hat
   have hGk:G[k]?=some at_:=by
    rw [hpre.out.1,eH hal,kg (by rw [hpre.out.2];exact Nat.le_refl _),hpre.out.2];simp
   have hpre':Hid (G=(pre++[at_])++aV T d at'/\(pre++[at_]).length=k+1):=aB ⟨by rw [hpre.out.1,eH hal,hae];simp,by simp [hpre.out.2]⟩;have hrest:=yK hat
   have htx:fT (iN f) [32,124,32] (d+1) (if k=0 then [] else [32,124,32]) (T.drop at_)=(if k=0 then [] else [32,124,32])++((if y.k=9 then [] else y.s.data.toList++[58,32])++(iN f (T.drop at_)++fT (iN f) [32,124,32] d [32,124,32] (T.drop at'))):=by
    simp only [fT];rw [wY hy,hrest]
   rw [htx] at hsz;have Htx:=aB htx;obtain ⟨bk,ok,hke,_,kc⟩:=aS.int hor (p8 hGk);obtain ⟨b3,o3,hee,_,Rn,d11,d12⟩:=har.at_ hy;simp only [Option.some.injEq,Addr.mk.injEq,and_true] at hee;obtain ⟨rfl,rfl⟩:=hee;subst hke;have Hat:=aB hat;have Hd:=aB hd;obtain ⟨st,hst⟩:∃s:ByteArray,s=⟨(iN f (T.drop at_)).toArray⟩:=⟨_,rfl⟩;have hsl:st.size=(iN f (T.drop at_)).length:=by rw [hst];simp [ByteArray.size]
   simp only [lS] at hsz;rw [<-hsl] at hsz;have hpl:(iN f (T.drop at_)).length<=1000000000:=by omega
   have Hst:=aB hst;have Hsl:=aB hsl;have hy0:=uY y.s;rw [hy0] at*;obtain ⟨r,hr⟩:∃r,r=(fT (iN f) [32,124,32] d [32,124,32] (T.drop at')).length:=⟨_,rfl⟩;rw [<-hr] at hsz;have Hr:=aB hr;clear hat hd hst hsl hy hae hGk hrest htx kr Dv hpre hr;by_cases hk0:k=0
   all_goals
    have Gt:=aB hk0;by_cases h9:y.k=9
   all_goals
    have H9:=aB h9
    first|(have O7:¬(0:Int)<(k:Int):=by omega)|(have O7:(0:Int)<(k:Int):=by omega)
    first|(have OY:(y.k !=9)=true:=by simpa using h9)|(have OY:(y.k !=9)=false:=by simpa using h9)
    first|rw [if_pos hk0] at hsz|rw [if_neg hk0] at hsz
    first|rw [if_pos h9] at hsz|rw [if_neg h9] at hsz
    simp only [lS,oG,aas,uY] at hsz;clear hk0 h9;go_wp2_with fail;have hcall:=HN.out at_ at' c (some ⟨b1,o1,none⟩) T wr Hat.out har hl n_.out oh.out hpl;rw [<-Hst.out] at hcall;refine hcall.mono ?_;rintro e w2 ⟨rfl,hb2⟩;clear hcall;go_wp2_with fail;go_roundw
    case rel=>
     refine ⟨k+1,at',_,y.s,pre++[at_],rfl,by go_num,by omega,aB (by rw [show m-(k+1)=d by have:=Hd.out;omega];exact Hk'.out),ah hbel hb2,aB (by rw [show m-(k+1)=d by have:=Hd.out;omega];exact hpre'.out),?_,aB ?_⟩
     ·rw [if_neg (by omega),show m-(k+1)=d by have:=Hd.out;omega,<-Hr.out]
      simp [ByteArray.size_mk'];omega
     ·rw [if_neg (by omega),show m-(k+1)=d by have:=Hd.out;omega,<-vC.out,Htx.out]
      first|rw [if_pos Gt.out]|rw [if_neg Gt.out]
      first|rw [if_pos H9.out]|rw [if_neg H9.out]
      rw [Hst.out];simp [ByteArray.data_append]
    case measure=>simp [intOf];omega
  ·have JE:m-k=0:=by omega
   rw [JE] at vC hsz;have Hkm:=aB JE;simp only [fT,aas] at hsz;clear JE;go_wp2_with fail;go_ret;refine ⟨tL ?_,ah hb1 hbel⟩;have ht2:=vC.out;simp only [fT,mO] at ht2;rw [<-Uu.out];refine VP ?_;rw [ByteArray.data_append,Array.toList_append,ht2];simp
theorem Mh:∀f,OB f
 |0=>by intro i j c A T w h;cases h
 |f+1=>by
  have HN:=Mh f;intro i j c A T w uF ha hl hok xS hlen;obtain ⟨x,hx⟩:=Gx uF;simp only [eG,hx] at uF;split at uF
  ·rename_i vX
   rw [drop_cons hx] at hlen ⊢;by_cases h5:x.k=5
   ·have hm:(many x.k x.n).toNat=2:=by unfold many;simp [h5]
    rw [hm] at uF;obtain ⟨y,j1,hy,h1,am3⟩:=rJ uF;obtain ⟨y2,j2,hy2,h2,aeU⟩:=rJ am3;simp only [jU,Option.some.injEq] at aeU;subst aeU;simp only [iN,if_pos h5,yK h1] at hlen ⊢;exact JD f HN i j1 j2 c A T w x hx h5 h1 h2 ha hl hok xS hlen
   ·by_cases h6:x.k=6
    ·have h50:manyN x<=50:=by
      have hmm:=kC vX;have:=rG vX;omega
     simp only [iN,if_neg h5,if_pos h6] at hlen ⊢;exact Kv f HN i j c (manyN x) A T w x hx h6 rfl h50 uF ha hl hok xS hlen
    ·by_cases h7:x.k=7
     ·have h50:manyN x<=50:=by
       have hmm:=kC vX;have:=rG vX;omega
      simp only [iN,if_neg h5,if_neg h6,if_pos h7] at hlen ⊢;exact Kw f HN i j c (manyN x) A T w x hx h7 rfl h50 uF ha hl hok xS hlen
     ·simp only [iN,if_neg h5,if_neg h6,if_neg h7] at hlen ⊢
      exact Ku i c A T w x hx h5 (by simp [bF,h6,h7]) ha hl hok xS
  ·cases uF
theorem zS (j c:Nat) (A:Option Addr) (T:List Nd) (w:World) (uF:eG T 100 0=some j) (ha:bJ w w.heap.size A T) (hl:T.length<=1000000) (hok:bC T) (xS:∀x∈T,x.Ok) (hlen:(iN 100 T).length<=1000000000):
  Calls Tryz.prog 30 #[.slice A T.length c] w fun e w'=>e= .returned (.string ⟨(iN 100 T).toArray⟩)/\Below w.heap.size w w':=by
 have h:=Mh 100 0 j c A T w uF ha hl hok xS (by rw [nE];exact hlen);rw [nE,Int.natCast_zero] at h;have H:=aB h;clear h hok xS uF;go_enter Tryz.func30,Tryz.ntmps30;go_wp2_with fail;refine H.out.mono ?_;rintro e w1 ⟨rfl,hb⟩;go_wp2_with fail;go_ret;exact ⟨rfl,hb⟩
end Go.Proofs.YtmjdhfbnmmdjiaaGreat
