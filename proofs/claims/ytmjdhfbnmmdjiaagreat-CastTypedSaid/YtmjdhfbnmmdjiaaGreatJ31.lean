/- Laid together by a tool from the texts of this seat: PxL Figures PrintR. Conditions: each theorem's own. -/
import Derived.Test.YtmjdhfbnmmdjiaaGreatJ30
import Derived.Test.YtmjdhfbnmmdjiaaGreatJ01
import Derived.Lib.ItoaLen
import Derived.Laws.IdiomStrings
import Derived.Test.YtmjdhfbnmmdjiaaGreatJ04
import Derived.Test.YtmjdhfbnmmdjiaaGreatJ02
set_option maxHeartbeats 8000000
set_option maxRecDepth 100000
namespace Go.Proofs.YtmjdhfbnmmdjiaaGreat
open Go.Lib renaming hid->aD
open _root_.List renaming length_append->jX,length_nil->aap,length_cons->mX,mem_append->nV,mem_of_getElem?->Ox,getElem?_append_right->jd,append_nil->lI,drop_zero->l8
open Go.RowKit.Below renaming refl->aF
open _root_.ByteArray renaming empty->bZ
open _root_.Bool renaming or_eq_false_iff->aaU
def iX (x:List Pt):Prop:=∀q∈x,q.T.length<=5000000/\q.U.length<=5000000
theorem iX.nil:iX []:=fun q hq=>by cases hq
theorem iX.cons {p:Pt} {x:List Pt} (hp:p.T.length<=5000000/\p.U.length<=5000000) (h:iX x):iX (p::x):=fun q hq=>by
 rcases List.mem_cons.1 hq with rfl|hq
 ·exact hp
 ·exact h q hq
theorem iX.app {x y:List Pt} (h:iX x) (k:iX y):iX (x++y):=fun q hq=>by
 rcases nV.1 hq with hq|hq
 ·exact h q hq
 ·exact k q hq
theorem iX.lb {x:List Pt} (h:iX x) (s:ByteArray):iX (gP s x):=by
 cases x with
 |nil=>exact h
 |cons p x=>exact .cons (p:={p with lb:=s}) (h p (by simp)) fun q hq=>h q (by simp [hq])
theorem iX.to {x:List Pt} {t u:List Nd} (h:iX x) (ht:t.length<=5000000) (hu:u.length<=5000000):iX (toM x t u):=by
 unfold toM;split
 ·exact h
 ·exact .cons (by simp only [n_,jE];exact ⟨ht,hu⟩) (h.lb _)
theorem iX.num:∀(n:Nat) (x:List Pt),iX x->iX (iw n x)
 |_,[],h=>h
 |n,p::x,h=>by
  have hp:=h p (by simp);have hx:iX x:=fun q hq=>h q (by simp [hq]);show iX (jT Pt.k _ n (p::x));rw [jT];split
  ·exact .cons hp (iX.num (n+1) x hx)
  ·exact .cons hp (iX.num n x hx)
theorem dZ.num:∀(n:Nat) (x:List Pt),dZ x->dZ (iw n x)
 |_,[],h=>h
 |n,p::x,h=>by
  have hp:=h p (by simp);have hx:dZ x:=fun q hq=>h q (by simp [hq]);show dZ (jT Pt.k _ n (p::x));rw [jT];split
  ·exact fu hp (dZ.num (n+1) x hx)
  ·exact fu hp (dZ.num n x hx)
theorem VW {t:List Nd} (h:t.length<=5000000):(aV t).length<=5000000:=by
 unfold aV;split
 ·decide
 ·exact h
section
variable {nx:kP} (H:∀env a x t b,nx env a=some (x,t,b)->iX x/\t.length<=5000000)
include H
theorem IB (es:List Pt) (env:Env):∀(n a:Nat) (xs:List Pt) (fs:List eT) (ys:List Pt) (gs:List eT) (b:Nat),iX xs->gy nx es env n a xs fs=some (ys,gs,b)->iX ys
 |0,a,xs,fs,ys,gs,b,hx,h=>by
  unfold gy at h;injection h with h
  injection h with h _
  rw [<-h]
  exact hx
 |n+1,a,xs,fs,ys,gs,b,hx,h=>by
  obtain ⟨x,y,t,c,_,h1,h2⟩:=zT h;exact IB es env n c _ _ ys gs b (hx.app (H _ _ _ _ _ h1).1) h2
theorem El (es:List Pt) (hes:iX es) (env:Env) (u:List Nd):∀(n a:Nat) (l L:List Br) (b:Nat),(∀e∈l,(e.1.T.length<=5000000/\e.1.U.length<=5000000)/\iX e.2.1/\e.2.2.length<=5000000)->fI nx es env u n a l=some (L,b)->∀e∈L,(e.1.T.length<=5000000/\e.1.U.length<=5000000)/\iX e.2.1/\e.2.2.length<=5000000
 |0,a,l,L,b,hl,h=>by
  unfold fI at h;injection h with h
  injection h with h _
  rw [<-h]
  exact hl
 |n+1,a,l,L,b,hl,h=>by
  obtain ⟨x,v,y,t,c,hx,_,h1,h2⟩:=yH h;refine El es hes env u n c _ L b (fun e he=>?_) h2;rcases nV.1 he with he|he
  ·exact hl e he
  ·simp at he
   subst he;exact ⟨hes x (Ox hx),H _ _ _ _ _ h1⟩
theorem VY (es:List Pt) (hes:iX es) (env:Env) (p:Pt) (hp:p∈es) (a:Nat) (x:List Pt) (t:List Nd) (b:Nat) (h:dG nx es env p a=some (x,t,b)):iX x:=by
 have hpl:=hes p hp;unfold dG at h;by_cases h0:p.k=0
 ·rw [if_pos h0] at h
  unfold OQ at h;injection h with h
  injection h with h _
  rw [<-h];exact .cons hpl .nil
 rw [if_neg h0] at h;by_cases h1:p.k=1
 ·rw [if_pos h1] at h
  unfold Ap at h;rw [Option.map_eq_some_iff] at h;obtain ⟨u,_,h⟩:=h;injection h with h _
  rw [<-h];exact .cons hpl .nil
 rw [if_neg h1] at h;by_cases h2:p.k=2
 ·rw [if_pos h2] at h
  obtain ⟨y,u,c,k1,h⟩:=bH h;injection h with h
  injection h with h _
  rw [<-h];exact .cons hpl (H _ _ _ _ _ k1).1
 rw [if_neg h2] at h;by_cases h3:p.k=3
 ·rw [if_pos h3] at h
  obtain ⟨y,u,c,k1,h⟩:=bH h;obtain ⟨z,v,d,k2,h⟩:=bH h;split at h
  ·cases h
  ·split at h
   ·rename_i hl
    injection h with h
    injection h with h _
    rw [<-h];exact .cons hpl (((H _ _ _ _ _ k1).1.to (H _ _ _ _ _ k1).2 (VW (H _ _ _ _ _ k1).2)).app ((H _ _ _ _ _ k2).1.to (H _ _ _ _ _ k2).2 hl))
   ·cases h
 rw [if_neg h3] at h;by_cases h4:p.k=4
 ·rw [if_pos h4] at h
  obtain ⟨y,u,c,k1,h⟩:=bH h;obtain ⟨z,v,d,k2,h⟩:=bH h;injection h with h
  injection h with h _
  rw [<-h];exact .cons hpl (((H _ _ _ _ _ k1).1.to (H _ _ _ _ _ k1).2 hpl.1).app (H _ _ _ _ _ k2).1)
 rw [if_neg h4] at h;by_cases h5:p.k=5
 ·rw [if_pos h5] at h
  obtain ⟨y,u,c,k1,h⟩:=bH h;obtain ⟨z,v,d,k2,h⟩:=bH h;injection h with h
  injection h with h _
  rw [<-h];exact .cons hpl (((H _ _ _ _ _ k1).1.to (H _ _ _ _ _ k1).2 hpl.2).app (H _ _ _ _ _ k2).1)
 rw [if_neg h5] at h;by_cases h6:p.k=6
 ·rw [if_pos h6] at h
  obtain ⟨y,u,c,k1,h⟩:=bH h;obtain ⟨z,v,d,k2,h⟩:=bH h;obtain ⟨z2,v2,d2,k3,h⟩:=bH h;split at h
  ·split at h
   ·rename_i hl
    injection h with h
    injection h with h _
    rw [<-h];exact .cons hpl (((H _ _ _ _ _ k1).1.to (H _ _ _ _ _ k1).2 (by decide)).app (((H _ _ _ _ _ k2).1.to (H _ _ _ _ _ k2).2 hl).app ((H _ _ _ _ _ k3).1.to (H _ _ _ _ _ k3).2 hl)))
   ·cases h
  ·cases h
 rw [if_neg h6] at h;by_cases h7:p.k=7
 ·rw [if_pos h7] at h
  obtain ⟨_,y,u,c,v,e,l',d,m,k1,_,k2,k3,_,k4,k5⟩:=Eb h;injection k5 with k5 _
  rw [k5];have hB:=El H es hes env v _ _ [] _ _ (fun e he=>by cases he) k3;refine ((iX.cons hpl ((H _ _ _ _ _ k1).1.to (H _ _ _ _ _ k1).2 k2.2))).app fun q hq=>?_;obtain ⟨e',he',hq⟩:=List.mem_flatMap.1 hq;obtain ⟨j1,j2,j3⟩:=hB e' he';exact (iX.cons j1 (j2.to j3 k4)) q hq
 rw [if_neg h7] at h;by_cases h9:p.k=9
 ·rw [if_pos h9] at h
  obtain ⟨y,u,c,k1,h⟩:=bH h;obtain ⟨z,v,d,k2,h⟩:=bH h;injection h with h
  injection h with h _
  rw [<-h];have hb:(ay (dD p.nm)).length<=5000000:=by simp [ay]
  exact .cons hpl (((H _ _ _ _ _ k1).1.to (H _ _ _ _ _ k1).2 hb).app ((H _ _ _ _ _ k2).1.to (H _ _ _ _ _ k2).2 hb))
 rw [if_neg h9] at h;by_cases h10:p.k=10
 ·rw [if_pos h10] at h
  unfold uP at h;split at h
  ·split at h
   ·cases h
   ·rename_i xs fs c hc
    split at h
    ·injection h with h
     injection h with h _
     rw [<-h];exact IB H es env _ _ _ _ _ _ _ (.cons hpl .nil) hc
    ·cases h
  ·cases h
 rw [if_neg h10] at h;by_cases h11:p.k=11
 ·rw [if_pos h11] at h
  obtain ⟨y,u,c,k1,h⟩:=bH h;split at h
  ·cases h
  ·injection h with h
   injection h with h _
   rw [<-h];exact .cons hpl (H _ _ _ _ _ k1).1
 rw [if_neg h11] at h;by_cases h12:p.k=12
 ·rw [if_pos h12] at h
  obtain ⟨y,u,c,k1,h⟩:=bH h;split at h
  ·cases h
  ·split at h
   ·rename_i hl
    injection h with h
    injection h with h _
    rw [<-h];exact .cons hpl ((H _ _ _ _ _ k1).1.to (H _ _ _ _ _ k1).2 hl.2)
   ·cases h
 rw [if_neg h12] at h;by_cases pG:p.k=13
 ·rw [if_pos pG] at h
  obtain ⟨y,u,c,k1,h⟩:=bH h;injection h with h
  injection h with h _
  rw [<-h];exact ((H _ _ _ _ _ k1).1.to (H _ _ _ _ _ k1).2 hpl.1).lb _
 rw [if_neg pG] at h;by_cases rQ:p.k=14
 ·rw [if_pos rQ] at h
  obtain ⟨y,u,c,k1,h⟩:=bH h;injection h with h
  injection h with h _
  rw [<-h];exact .cons hpl (H _ _ _ _ _ k1).1
 rw [if_neg rQ] at h
 cases h
end
theorem PK:∀(f:Nat) (es:List Pt),iX es->∀(env:Env) (a:Nat) (x:List Pt) (t:List Nd) (b:Nat),cst f es env a=some (x,t,b)->iX x/\t.length<=5000000
 |0,_,_,_,_,_,_,_,h=>by cases h
 |f+1,es,hes,env,a,x,t,b,h=>by
  have hg:=BP _ _ _ _ _ _ _ h;obtain ⟨p,hp,_,_,hw,_⟩:=vJ h;exact ⟨VY (PK f es hes) es hes env p (Ox hp) (a+1) x t b hw,hg.tl⟩
open Go.RowKit
theorem Ca (w:World) (z:Int) (c:UInt8) (hz:z=c.toNat):
  (convert 131 9 (.slice (some ⟨w.heap.size,0,none⟩) 1 1)).run Tryz.prog (w.alloc (.cells #[.int .u8 z] 5))= .ok (.string ⟨#[c]⟩) (w.alloc (.cells #[.int .u8 z] 5)):=by
 have h:=run_convert_bytes_back (P:=Tryz.prog) (w.alloc (.cells #[.int .u8 z] 5)) 131 9 5 ⟨w.heap.size,0,none⟩ 1 [c] Tryz.underlying131 Tryz.underlying5 Tryz.underlying9 (by
  intro j hj;have hj0:j=0:=by simpa using hj
  subst hj0;rw [hz];exact World.cell?_alloc_new _ _ _ _)
 exact h
theorem AL {m:Nat} (h:¬9<m):Lib.decDigits m=[UInt8.ofNat (48+m)]:=by
 rw [Lib.decDigits,dif_pos (by omega)]
theorem PL {m:Nat} (h:9<m):Lib.decDigits m=Lib.decDigits (m / 10)++[UInt8.ofNat (48+m % 10)]:=by
 rw [Lib.decDigits,dif_neg (by omega)]
theorem zu {d:Nat} (h:d<=9):((UInt8.ofNat (48+d)).toNat:Int)=48+(d:Int):=by
 rw [UInt8.toNat_ofNat_of_lt' (by show 48+d<256;omega)];omega
theorem PN {n m:Nat} {t:ByteArray} (hn:n<=9223372036854775807) (h:Lib.decDigits m++t.data.toList=Lib.decDigits n):t.size<=20:=by
 have h1:=congrArg List.length h;rw [jX,Lib.decDigits_length,Lib.decDigits_length] at h1;have h2:=Lib.nDigits_le20 n (by omega);have h3:t.data.toList.length=t.size:=rfl;omega
theorem Cb (n:Nat) (hn:n<=9223372036854775807) (w:World):
  Calls Tryz.prog 94 #[.int .i64 (n:Int)] w fun e w'=>e= .returned (.string ⟨(Lib.decDigits n).toArray⟩)/\Below w.heap.size w w':=by
 go_enter Tryz.func94,Tryz.ntmps94;go_wp2_with fail
 go_loopw [0,3] (fun a0 s3 wr=>∃(m:Nat) (t:ByteArray),a0= .int .i64 m/\s3= .string t/\m<=n/\Below w.heap.size w wr/\Hid (Lib.decDigits m++t.data.toList=Lib.decDigits n))
  (fun a0 _ _=>(intOf a0).toNat)
 case atStart=>exact ⟨n,_,rfl,rfl,Nat.le_refl _,aF _ _,aD (by simp)⟩
 case round=>
  obtain ⟨m,t,rfl,rfl,hm,hbel,hgood⟩:=hrel;have ahq:(0:Int)<=(m:Int) % 10:=by omega
  have ahr:(m:Int) % 10<=9:=by omega
  have hts:=PN hn hgood.out;by_cases h9:9<m
  ·have h9i:(9:Int)<(m:Int):=by omega
   have dW:=PL h9;have hz:=zu (show m % 10<=9 by omega);generalize UInt8.ofNat (48+m % 10)=c at*;have wK:=aD dW;have Sg:=Ca wr (48+(m:Int) % 10) c (by rw [hz];simp);clear dW hz;go_wp2_with fail;go_roundw
   case rel=>exact ⟨m / 10,⟨#[c]⟩++t,by go_num,rfl,by omega,aj hbel _,aD (by rw [<-hgood.out,wK.out,ByteArray.data_append];simp)⟩
   case measure=>simp [intOf];omega
  ·have h9i:¬(9:Int)<(m:Int):=by omega
   have dW:=AL h9;have hz:=zu (show m<=9 by omega);generalize UInt8.ofNat (48+m)=c at*;have wK:=aD dW;have Sg:=Ca wr (48+(m:Int)) c (by rw [hz]);clear dW hz;go_wp2_with fail;go_ret;exact ⟨r9 (by rw [<-hgood.out,wK.out];apply ByteArray.ext;simp [ByteArray.data_append]),aj hbel _⟩
theorem TV {s:ByteArray} {l:List UInt8} (h:s.data.toList=l):s=⟨l.toArray⟩:=by
 obtain ⟨⟨x⟩⟩:=s;simp only at h;rw [h]
theorem Kv (n:Nat):Lib.itoa (n:Int)=Lib.decDigits n:=by
 unfold Lib.itoa;rw [if_neg (by omega)];rfl
theorem Si (x:Nd) (hok:dR x.k x.n=true) (hn:x.n<=9223372036854775807) (h5:x.k≠5) (hr:bK x.k=false) (w:World):
  Calls Tryz.prog 63 #[.agg #[.int .i64 x.k,.string x.s,.int .i64 x.n]] w fun e w'=>e= .returned (.string ⟨(Fe x).toArray⟩)/\Below w.heap.size w w':=by
 obtain ⟨k,s,n⟩:=x;simp only at hok hn h5 hr ⊢
 have hk9:0<=k/\k<=9:=by
  unfold dR at hok;split at hok
  ·omega
  split at hok
  ·omega
  split at hok
  ·omega
  ·simp at hok;omega
 have h6:k≠6:=by rintro rfl;cases hr
 have h7:k≠7:=by rintro rfl;cases hr
 clear hr;have hk:(k=8\/k=9)\/k=0\/k=1\/k=2\/k=3\/k=4:=by omega
 clear h5 h6 h7 hk9;rcases hk with hk|hk
 ·have hn0:0<=n:=by
   rcases hk with rfl|rfl<;>simpa [dR] using hok
  obtain ⟨m,rfl⟩:=Int.eq_ofNat_of_zero_le hn0;clear hok hn0;have hlen:=Lib.nDigits_le20 m (by omega);rw [<-Lib.decDigits_length] at hlen;obtain ⟨t,ht⟩:∃t:ByteArray,t=⟨(Lib.decDigits m).toArray⟩:=⟨_,rfl⟩;have hts:t.size<=20:=by rw [ht];simpa [ByteArray.size] using hlen
  have Ht:=aD ht;clear ht hlen;rcases hk with rfl|rfl
  ·go_enter Tryz.func63,Tryz.ntmps63
   go_wp2_with fail;refine (Cb m (by omega) _).mono ?_;rintro e w1 ⟨rfl,hb⟩;rw [<-Ht.out];have hbel:=(aj (aF w.heap.size w) (.cells #[.int .i64 8,.string s,.int .i64 m] 49)).trans (hb.mono (by simp));clear hb;go_wp2_with fail;go_ret;exact ⟨r9 (by rw [Ht.out];simp only [Fe];rw [Kv];apply ByteArray.ext;simp [ByteArray.data_append]),hbel⟩
  ·go_enter Tryz.func63,Tryz.ntmps63
   go_wp2_with fail;refine (Cb m (by omega) _).mono ?_;rintro e w1 ⟨rfl,hb⟩;rw [<-Ht.out];have hbel:=(aj (aF w.heap.size w) (.cells #[.int .i64 9,.string s,.int .i64 m] 49)).trans (hb.mono (by simp));clear hb;go_wp2_with fail;go_ret;exact ⟨r9 (by rw [Ht.out];simp only [Fe];rw [Kv];apply ByteArray.ext;simp [ByteArray.data_append]),hbel⟩
 ·clear hok hn
  rcases hk with rfl|rfl|rfl|rfl|rfl
  all_goals
   go_enter Tryz.func63,Tryz.ntmps63;go_wp2_with fail;go_ret;exact ⟨rfl,aj (aF _ _) _⟩
def MZ (f:Nat):Prop:=∀(i j c:Nat) (A:Option Addr) (T:List Nd) (w:World),eD T f i=some j->bO w w.heap.size A T->T.length<=1000000->bI T->
 (∀x∈T,x.Ok)->(iD f (T.drop i)).length<=1000000000->
 Calls Tryz.prog 44 #[.slice A T.length c,.int .i64 (i:Int)] w fun e w'=>e= .returned (.string ⟨(iD f (T.drop i)).toArray⟩)/\Below w.heap.size w w'
theorem vN {T:List Nd} {f i j:Nat} (h:eD T f i=some j):i<T.length/\endGo (T.drop i) 1 i=j:=by
 obtain ⟨ts,rest,ht⟩:=rJ _ _ _ h;exact ⟨mH ht.at_ ht.fo.pos,by rw [jL ht.at_ ht.ok ht.fo,ht.ej]⟩
theorem yX {T:List Nd} {i:Nat} {x:Nd} (hx:T[i]?=some x):fK T (i:Int)=aZ T (manyN x) (i+1):=by
 unfold fK manyN;rw [if_neg (by omega)];simp [hx]
theorem Jm (i c:Nat) (A:Option Addr) (T:List Nd) (w:World) (x:Nd) (hx:T[i]?=some x) (h5:x.k≠5) (hr:bK x.k=false) (ha:bO w w.heap.size A T) (hl:T.length<=1000000) (hok:bI T) (wL:∀x∈T,x.Ok):
  Calls Tryz.prog 44 #[.slice A T.length c,.int .i64 (i:Int)] w fun e w'=>e= .returned (.string ⟨(Fe x).toArray⟩)/\Below w.heap.size w w':=by
 have hi:=aU hx;have Hx:=aD hx;have nJ:=aD hok;have Hxo:=aD (hok x (gB hx));have hxn:=(wL x (gB hx)).n1;have h5b:(x.k==5)=false:=by simpa using h5
 have Ep:(x.k !=6)=true:=by
  simp only [bK,aaU] at hr;simpa using hr.1
 have vR:(x.k !=7)=true:=by
  simp only [bK,aaU] at hr;simpa using hr.2
 have H5:=aD h5;have Hr:=aD hr;have hi0:¬(i:Int)<0:=by omega
 have hi1:¬(T.length:Int)<=(i:Int):=by omega
 clear hx hok wL h5 hr;go_enter Tryz.func44,Tryz.ntmps44;go_wp2_with fail;refine (su A c T i w ha hl nJ.out).mono ?_;rintro e w1 ⟨A',cap',rfl,_,hb1⟩;obtain ⟨b1,o1,rfl,hlt,c10,c11,c12⟩:=((ha.below hb1).more hb1.size).at_ Hx.out;generalize (dw (fK T i)).length=L;go_wp2_with fail;refine (Si x Hxo.out hxn H5.out Hr.out _).mono ?_;rintro e w2 ⟨rfl,hb2⟩;go_wp2_with fail;go_ret;exact ⟨rfl,au hb1 hb2⟩
theorem IC (f:Nat) (hN:MZ f) (i j1 j c:Nat) (A:Option Addr) (T:List Nd) (w:World) (x:Nd) (hx:T[i]?=some x) (h5:x.k=5) (h1:eD T f (i+1)=some j1) (h2:eD T f j1=some j) (ha:bO w w.heap.size A T) (hl:T.length<=1000000) (hok:bI T) (wL:∀x∈T,x.Ok)
  (hlen:((if (aQ (T.drop (i+1))).k=5 then 40::(iD f (T.drop (i+1))++[41]) else iD f (T.drop (i+1)))++([32,45,62,32]++iD f (T.drop j1))).length<=1000000000):
  Calls Tryz.prog 44 #[.slice A T.length c,.int .i64 (i:Int)] w fun e w'=>e= .returned (.string ⟨((if (aQ (T.drop (i+1))).k=5 then 40::(iD f (T.drop (i+1))++[41]) else iD f (T.drop (i+1)))++([32,45,62,32]++iD f (T.drop j1))).toArray⟩)/\Below w.heap.size w w':=by
 generalize uw:((if (aQ (T.drop (i+1))).k=5 then 40::(iD f (T.drop (i+1))++[41]) else iD f (T.drop (i+1)))++([32,45,62,32]++iD f (T.drop j1)))=txt at*;have HN:=aD hN;have hi:=aU hx;have Hx:=aD hx;have nJ:=aD hok;have nL:=aD wL;have H1:=aD h1;have H2:=aD h2;obtain ⟨k,s,n⟩:=x;simp only at h5;subst h5;obtain ⟨y,hy⟩:=Fg h1;rw [vS hy] at uw;have akx:=aD uw;have Hy:=aD hy;obtain ⟨hi1,he1⟩:=vN h1;obtain ⟨hj1,_⟩:=vN h2
 have hkk:dw (fK T (i:Int))=[((i+1:Nat):Int),((j1:Nat):Int)]:=by
  rw [yX hx,show manyN (⟨5,s,n⟩:Nd)=2 from rfl,fB hi1,he1,fB hj1];rfl
 have Hkk:=aD hkk;have hi0:¬(i:Int)<0:=by omega
 have acN:¬(T.length:Int)<=(i:Int):=by omega
 obtain ⟨sa,hsa⟩:∃s:ByteArray,s=⟨(iD f (T.drop (i+1))).toArray⟩:=⟨_,rfl⟩;obtain ⟨sb,hsb⟩:∃s:ByteArray,s=⟨(iD f (T.drop j1)).toArray⟩:=⟨_,rfl⟩;have hla:sa.size=(iD f (T.drop (i+1))).length:=by rw [hsa];simp [ByteArray.size]
 have hlb:sb.size=(iD f (T.drop j1)).length:=by rw [hsb];simp [ByteArray.size]
 have aky:sa.size<=1000000000/\sb.size<=1000000000:=by
  rw [hla,hlb];rw [<-uw] at hlen;split at hlen<;>simp at hlen<;>omega
 obtain ⟨hba,hbb⟩:=aky;have hpa:(iD f (T.drop (i+1))).length<=1000000000:=by omega
 have hpb:(iD f (T.drop j1)).length<=1000000000:=by omega
 have Hsa:=aD hsa;have Hsb:=aD hsb;clear hx hok wL h1 h2 hy he1 hkk hsa hsb hla hlb hN hlen uw
 cases h5:(y.k==5)
 all_goals
  have H5:=aD h5;go_enter Tryz.func44,Tryz.ntmps44;go_wp2_with fail;refine (su A c T i w ha hl nJ.out).mono ?_;rintro e w1 ⟨A',cap',rfl,hown,hb1⟩;rw [Hkk.out] at hown ⊢;have ha1:=(ha.below hb1).more hb1.size;have hown1:=aB.read eP hown;obtain ⟨b1,o1,rfl,hlt,c10,c11,c12⟩:=ha1.at_ Hx.out;obtain ⟨_,_,hee,_,d10,d11,d12⟩:=ha1.at_ Hy.out;simp only [Option.some.injEq,Addr.mk.injEq,and_true] at hee;obtain ⟨rfl,rfl⟩:=hee;obtain ⟨b2,o2,rfl,hlt2,k0⟩:=bf.int hown1 (i:=0) rfl;obtain ⟨_,_,hee,_,k1⟩:=bf.int hown1 (i:=1) rfl;simp only [Option.some.injEq,Addr.mk.injEq,and_true] at hee;obtain ⟨rfl,rfl⟩:=hee;rw [Nat.add_zero] at k0;have hl2:([((i+1:Nat):Int),((j1:Nat):Int)]:List Int).length=2:=rfl;rw [hl2];clear hl2 hown;go_wp2_with fail;have hcall:=HN.out (i+1) j1 c (some ⟨b1,o1,none⟩) T w1 H1.out ha1 hl nJ.out nL.out hpa;rw [<-Hsa.out,Int.natCast_add,Int.natCast_one] at hcall;refine hcall.mono ?_;rintro e w2 ⟨rfl,hb2⟩;clear hcall;obtain ⟨hc2,hf2⟩:=Wm hb2;have akE:=au hb1 hb2;have ha2:=(ha1.below hb2).more hb2.size;have z2:=hb2.size;go_wp2_with fail;have hcall:=HN.out j1 j c (some ⟨b1,o1,none⟩) T w2 H2.out ha2 hl nJ.out nL.out hpb;rw [<-Hsb.out] at hcall;refine hcall.mono ?_;rintro e w3 ⟨rfl,hb3⟩;clear hcall;go_wp2_with fail;go_ret;refine ⟨r9 ?_,au akE hb3⟩;have h5':=H5.out;simp only [beq_iff_eq,beq_eq_false_iff_ne] at h5';rw [<-akx.out,Hsa.out,Hsb.out]
  first|rw [if_neg h5']|rw [if_pos h5']
  apply ByteArray.ext;simp [ByteArray.data_append]
theorem wM {T:List Nd} {f:Nat} {x:Nd}:∀(d:Nat) (k:Int) (last:ByteArray) (i j:Nat),jK (eD T f) T x d k last i=some j->(aZ T d i).length=d
 |0,_,_,_,_,_=>rfl
 |d+1,k,last,i,j,h=>by
  obtain ⟨y,at',_,hat,hk⟩:=qI h;obtain ⟨hal,hae⟩:=vN hat;rw [fB hal,hae,mX,wM d _ _ _ _ hk]
theorem Jo (f:Nat) (hN:MZ f) (i j c m:Nat) (A:Option Addr) (T:List Nd) (w:World) (x:Nd) (hx:T[i]?=some x) (h5:x.k=6) (hm:manyN x=m) (SK:m<=50) (h1:jK (eD T f) T x m 0 bZ (i+1)=some j) (ha:bO w w.heap.size A T) (hl:T.length<=1000000) (hok:bI T) (wL:∀x∈T,x.Ok)
  (hlen:(123::(fO (iD f) [44,32] m [] (T.drop (i+1))++[125])).length<=1000000000):
  Calls Tryz.prog 44 #[.slice A T.length c,.int .i64 (i:Int)] w fun e w'=>e= .returned (.string ⟨(123::(fO (iD f) [44,32] m [] (T.drop (i+1))++[125])).toArray⟩)/\Below w.heap.size w w':=by
 generalize hfull:(123::(fO (iD f) [44,32] m [] (T.drop (i+1))++[125]))=full at*;have Sj:=aD hfull;rw [<-hfull] at hlen;have HN:=aD hN;have hi:=aU hx;have Hx:=aD hx;have nJ:=aD hok;have nL:=aD wL;have H1:=aD h1;have Gg:Hid (fK T (i:Int)=aZ T m (i+1)):=aD (by rw [yX hx,hm]);have hX:=aD h5;have hi0:¬(i:Int)<0:=by omega
 have acN:¬(T.length:Int)<=(i:Int):=by omega
 simp only [mX,jX,aap] at hlen;clear hx hok wL h1 hN hm h5 hfull;go_enter Tryz.func44,Tryz.ntmps44;go_wp2_with fail;refine (su A c T i w ha hl nJ.out).mono ?_;rintro e w1 ⟨A',cap',rfl,hown,hb1⟩;have ha1:=(ha.below hb1).more hb1.size;have hown1:=aB.read eP hown;obtain ⟨b1,o1,rfl,hlt,c10,c11,c12⟩:=ha1.at_ Hx.out;rw [hX.out] at c10;have hK:=aD (wM (T:=T) (f:=f) (x:=x) m 0 bZ (i+1) j H1.out);rw [Gg.out] at hown1 ⊢;have Sk:(dw (aZ T m (i+1))).length=m:=by rw [nK];exact hK.out
 rw [Sk];have Ls:=aD Sk;clear hown Sk;generalize hG:aZ T m (i+1)=G at*;have HG:=aD hG;clear hG Gg hK;go_wp2_with fail
 go_loopw [10,11] (fun s10 k11 wr=>∃(k at_:Nat) (s:ByteArray) (last:ByteArray) (pre:List Nat),s10= .string s/\k11= .int .i64 k/\k<=m/\Hid (jK (eD T f) T x (m-k) k last at_=some j)/\Below w1.heap.size w1 wr/\
   Hid (G=pre++aZ T (m-k) at_/\pre.length=k)/\s.size+(fO (iD f) [44,32] (m-k) (if k=0 then [] else [44,32]) (T.drop at_)).length<=999999999/\
   Hid (s.data.toList++fO (iD f) [44,32] (m-k) (if k=0 then [] else [44,32]) (T.drop at_)=123::fO (iD f) [44,32] m [] (T.drop (i+1))))
  (fun _ k11 _=>m-(intOf k11).toNat)
 case atStart=>exact ⟨0,i+1,_,bZ,[],rfl,rfl,Nat.zero_le _,aD H1.out,aF _ _,aD ⟨by rw [<-HG.out];rfl,rfl⟩,by simp [ByteArray.size_mk'];omega,aD rfl⟩
 case round=>
  obtain ⟨k,at_,s,last,pre,rfl,rfl,hkm,jY,hbel,hpre,hsz,uw⟩:=hrel;have har:=(ha1.below hbel).more hbel.size;have hor:=(bf.below hown1 hbel).more hbel.size;by_cases hlt':k<m
  ·obtain ⟨d,hd⟩:∃d,m-k=d+1:=⟨m-k-1,by omega⟩
   rw [hd] at jY hpre uw hsz;obtain ⟨y,at',hy,hat,Cc⟩:=qI jY.out;have Hk':=aD Cc;obtain ⟨hal,hae⟩:=vN hat
   have Z0:G[k]?=some at_:=by
    rw [hpre.out.1,fB hal,jd (by rw [hpre.out.2];exact Nat.le_refl _),hpre.out.2];simp
   have hpre':Hid (G=(pre++[at_])++aZ T d at'/\(pre++[at_]).length=k+1):=aD ⟨by rw [hpre.out.1,fB hal,hae];simp,by simp [hpre.out.2]⟩;have hrest:=xE hat
   have htx:fO (iD f) [44,32] (d+1) (if k=0 then [] else [44,32]) (T.drop at_)=(if k=0 then [] else [44,32])++((if y.k=9 then [] else y.s.data.toList++[58,32])++(iD f (T.drop at_)++fO (iD f) [44,32] d [44,32] (T.drop at'))):=by
    simp only [fO];rw [vS hy,hrest]
   rw [htx] at hsz;have Htx:=aD htx;obtain ⟨bk,ok,hke,_,kc⟩:=bf.int hor (sw Z0);obtain ⟨b3,o3,hee,_,d10,d11,d12⟩:=har.at_ hy;simp only [Option.some.injEq,Addr.mk.injEq,and_true] at hee;obtain ⟨rfl,rfl⟩:=hee;subst hke;have Hat:=aD hat;have Hd:=aD hd;obtain ⟨st,hst⟩:∃s:ByteArray,s=⟨(iD f (T.drop at_)).toArray⟩:=⟨_,rfl⟩;have hsl:st.size=(iD f (T.drop at_)).length:=by rw [hst];simp [ByteArray.size]
   simp only [jX] at hsz;rw [<-hsl] at hsz;have hpl:(iD f (T.drop at_)).length<=1000000000:=by omega
   have Z4:=aD hst;have Hsl:=aD hsl;have hy0:=ug y.s;rw [hy0] at*;obtain ⟨r,hr⟩:∃r,r=(fO (iD f) [44,32] d [44,32] (T.drop at')).length:=⟨_,rfl⟩;rw [<-hr] at hsz;have Hr:=aD hr;clear hat hd hst hsl hy hae Z0 hrest htx jY Cc hpre hr;by_cases hk0:k=0
   all_goals
    have E_:=aD hk0;by_cases h9:y.k=9
   all_goals
    have H9:=aD h9
    first|(have Nn:¬(0:Int)<(k:Int):=by omega)|(have Nn:(0:Int)<(k:Int):=by omega)
    first|(have Nf:(y.k !=9)=true:=by simpa using h9)|(have Nf:(y.k !=9)=false:=by simpa using h9)
    first|rw [if_pos hk0] at hsz|rw [if_neg hk0] at hsz
    first|rw [if_pos h9] at hsz|rw [if_neg h9] at hsz
    simp only [jX,mX,aap,ug] at hsz;clear hk0 h9;go_wp2_with fail;have hcall:=HN.out at_ at' c (some ⟨b1,o1,none⟩) T wr Hat.out har hl nJ.out nL.out hpl;rw [<-Z4.out] at hcall;refine hcall.mono ?_;rintro e w2 ⟨rfl,hb2⟩;clear hcall;go_wp2_with fail;go_roundw
    case rel=>
     refine ⟨k+1,at',_,y.s,pre++[at_],rfl,by go_num,by omega,aD (by rw [show m-(k+1)=d by have:=Hd.out;omega];exact Hk'.out),au hbel hb2,aD (by rw [show m-(k+1)=d by have:=Hd.out;omega];exact hpre'.out),?_,aD ?_⟩
     ·rw [if_neg (by omega),show m-(k+1)=d by have:=Hd.out;omega,<-Hr.out]
      simp [ByteArray.size_mk'];omega
     ·rw [if_neg (by omega),show m-(k+1)=d by have:=Hd.out;omega,<-uw.out,Htx.out]
      first|rw [if_pos E_.out]|rw [if_neg E_.out]
      first|rw [if_pos H9.out]|rw [if_neg H9.out]
      rw [Z4.out];simp [ByteArray.data_append]
    case measure=>simp [intOf];omega
  ·have IE:m-k=0:=by omega
   rw [IE] at uw hsz;have Hkm:=aD IE;simp only [fO,aap] at hsz;clear IE;go_wp2_with fail;go_ret;refine ⟨r9 ?_,au hb1 hbel⟩;have ht2:=uw.out;simp only [fO,lI] at ht2;rw [<-Sj.out];refine TV ?_;rw [ByteArray.data_append,Array.toList_append,ht2];simp
theorem Jp (f:Nat) (hN:MZ f) (i j c m:Nat) (A:Option Addr) (T:List Nd) (w:World) (x:Nd) (hx:T[i]?=some x) (h5:x.k=7) (hm:manyN x=m) (SK:m<=50) (h1:jK (eD T f) T x m 0 bZ (i+1)=some j) (ha:bO w w.heap.size A T) (hl:T.length<=1000000) (hok:bI T) (wL:∀x∈T,x.Ok)
  (hlen:(91::(fO (iD f) [32,124,32] m [] (T.drop (i+1))++[93])).length<=1000000000):
  Calls Tryz.prog 44 #[.slice A T.length c,.int .i64 (i:Int)] w fun e w'=>e= .returned (.string ⟨(91::(fO (iD f) [32,124,32] m [] (T.drop (i+1))++[93])).toArray⟩)/\Below w.heap.size w w':=by
 generalize hfull:(91::(fO (iD f) [32,124,32] m [] (T.drop (i+1))++[93]))=full at*;have Sj:=aD hfull;rw [<-hfull] at hlen;have HN:=aD hN;have hi:=aU hx;have Hx:=aD hx;have nJ:=aD hok;have nL:=aD wL;have H1:=aD h1;have Gg:Hid (fK T (i:Int)=aZ T m (i+1)):=aD (by rw [yX hx,hm]);have hX:=aD h5;have hi0:¬(i:Int)<0:=by omega
 have acN:¬(T.length:Int)<=(i:Int):=by omega
 simp only [mX,jX,aap] at hlen;clear hx hok wL h1 hN hm h5 hfull;go_enter Tryz.func44,Tryz.ntmps44;go_wp2_with fail;refine (su A c T i w ha hl nJ.out).mono ?_;rintro e w1 ⟨A',cap',rfl,hown,hb1⟩;have ha1:=(ha.below hb1).more hb1.size;have hown1:=aB.read eP hown;obtain ⟨b1,o1,rfl,hlt,c10,c11,c12⟩:=ha1.at_ Hx.out;rw [hX.out] at c10;have hK:=aD (wM (T:=T) (f:=f) (x:=x) m 0 bZ (i+1) j H1.out);rw [Gg.out] at hown1 ⊢;have Sk:(dw (aZ T m (i+1))).length=m:=by rw [nK];exact hK.out
 rw [Sk];have Ls:=aD Sk;clear hown Sk;generalize hG:aZ T m (i+1)=G at*;have HG:=aD hG;clear hG Gg hK;go_wp2_with fail
 go_loopw [10,11] (fun s10 k11 wr=>∃(k at_:Nat) (s:ByteArray) (last:ByteArray) (pre:List Nat),s10= .string s/\k11= .int .i64 k/\k<=m/\Hid (jK (eD T f) T x (m-k) k last at_=some j)/\Below w1.heap.size w1 wr/\
   Hid (G=pre++aZ T (m-k) at_/\pre.length=k)/\s.size+(fO (iD f) [32,124,32] (m-k) (if k=0 then [] else [32,124,32]) (T.drop at_)).length<=999999999/\
   Hid (s.data.toList++fO (iD f) [32,124,32] (m-k) (if k=0 then [] else [32,124,32]) (T.drop at_)=91::fO (iD f) [32,124,32] m [] (T.drop (i+1))))
  (fun _ k11 _=>m-(intOf k11).toNat)
 case atStart=>exact ⟨0,i+1,_,bZ,[],rfl,rfl,Nat.zero_le _,aD H1.out,aF _ _,aD ⟨by rw [<-HG.out];rfl,rfl⟩,by simp [ByteArray.size_mk'];omega,aD rfl⟩
 case round=>
  obtain ⟨k,at_,s,last,pre,rfl,rfl,hkm,jY,hbel,hpre,hsz,uw⟩:=hrel;have har:=(ha1.below hbel).more hbel.size;have hor:=(bf.below hown1 hbel).more hbel.size;by_cases hlt':k<m
  ·obtain ⟨d,hd⟩:∃d,m-k=d+1:=⟨m-k-1,by omega⟩
   rw [hd] at jY hpre uw hsz;obtain ⟨y,at',hy,hat,Cc⟩:=qI jY.out;have Hk':=aD Cc;obtain ⟨hal,hae⟩:=vN hat
   have Z0:G[k]?=some at_:=by
    rw [hpre.out.1,fB hal,jd (by rw [hpre.out.2];exact Nat.le_refl _),hpre.out.2];simp
   have hpre':Hid (G=(pre++[at_])++aZ T d at'/\(pre++[at_]).length=k+1):=aD ⟨by rw [hpre.out.1,fB hal,hae];simp,by simp [hpre.out.2]⟩;have hrest:=xE hat
   have htx:fO (iD f) [32,124,32] (d+1) (if k=0 then [] else [32,124,32]) (T.drop at_)=(if k=0 then [] else [32,124,32])++((if y.k=9 then [] else y.s.data.toList++[58,32])++(iD f (T.drop at_)++fO (iD f) [32,124,32] d [32,124,32] (T.drop at'))):=by
    simp only [fO];rw [vS hy,hrest]
   rw [htx] at hsz;have Htx:=aD htx;obtain ⟨bk,ok,hke,_,kc⟩:=bf.int hor (sw Z0);obtain ⟨b3,o3,hee,_,d10,d11,d12⟩:=har.at_ hy;simp only [Option.some.injEq,Addr.mk.injEq,and_true] at hee;obtain ⟨rfl,rfl⟩:=hee;subst hke;have Hat:=aD hat;have Hd:=aD hd;obtain ⟨st,hst⟩:∃s:ByteArray,s=⟨(iD f (T.drop at_)).toArray⟩:=⟨_,rfl⟩;have hsl:st.size=(iD f (T.drop at_)).length:=by rw [hst];simp [ByteArray.size]
   simp only [jX] at hsz;rw [<-hsl] at hsz;have hpl:(iD f (T.drop at_)).length<=1000000000:=by omega
   have Z4:=aD hst;have Hsl:=aD hsl;have hy0:=ug y.s;rw [hy0] at*;obtain ⟨r,hr⟩:∃r,r=(fO (iD f) [32,124,32] d [32,124,32] (T.drop at')).length:=⟨_,rfl⟩;rw [<-hr] at hsz;have Hr:=aD hr;clear hat hd hst hsl hy hae Z0 hrest htx jY Cc hpre hr;by_cases hk0:k=0
   all_goals
    have E_:=aD hk0;by_cases h9:y.k=9
   all_goals
    have H9:=aD h9
    first|(have Nn:¬(0:Int)<(k:Int):=by omega)|(have Nn:(0:Int)<(k:Int):=by omega)
    first|(have Nf:(y.k !=9)=true:=by simpa using h9)|(have Nf:(y.k !=9)=false:=by simpa using h9)
    first|rw [if_pos hk0] at hsz|rw [if_neg hk0] at hsz
    first|rw [if_pos h9] at hsz|rw [if_neg h9] at hsz
    simp only [jX,mX,aap,ug] at hsz;clear hk0 h9;go_wp2_with fail;have hcall:=HN.out at_ at' c (some ⟨b1,o1,none⟩) T wr Hat.out har hl nJ.out nL.out hpl;rw [<-Z4.out] at hcall;refine hcall.mono ?_;rintro e w2 ⟨rfl,hb2⟩;clear hcall;go_wp2_with fail;go_roundw
    case rel=>
     refine ⟨k+1,at',_,y.s,pre++[at_],rfl,by go_num,by omega,aD (by rw [show m-(k+1)=d by have:=Hd.out;omega];exact Hk'.out),au hbel hb2,aD (by rw [show m-(k+1)=d by have:=Hd.out;omega];exact hpre'.out),?_,aD ?_⟩
     ·rw [if_neg (by omega),show m-(k+1)=d by have:=Hd.out;omega,<-Hr.out]
      simp [ByteArray.size_mk'];omega
     ·rw [if_neg (by omega),show m-(k+1)=d by have:=Hd.out;omega,<-uw.out,Htx.out]
      first|rw [if_pos E_.out]|rw [if_neg E_.out]
      first|rw [if_pos H9.out]|rw [if_neg H9.out]
      rw [Z4.out];simp [ByteArray.data_append]
    case measure=>simp [intOf];omega
  ·have IE:m-k=0:=by omega
   rw [IE] at uw hsz;have Hkm:=aD IE;simp only [fO,aap] at hsz;clear IE;go_wp2_with fail;go_ret;refine ⟨r9 ?_,au hb1 hbel⟩;have ht2:=uw.out;simp only [fO,lI] at ht2;rw [<-Sj.out];refine TV ?_;rw [ByteArray.data_append,Array.toList_append,ht2];simp
theorem Kw:∀f,MZ f
 |0=>by intro i j c A T w h;cases h
 |f+1=>by
  have HN:=Kw f;intro i j c A T w tC ha hl hok wL hlen;obtain ⟨x,hx⟩:=Fg tC;simp only [eD,hx] at tC;split at tC
  ·rename_i uU
   rw [drop_cons hx] at hlen ⊢;by_cases h5:x.k=5
   ·have hm:(many x.k x.n).toNat=2:=by unfold many;simp [h5]
    rw [hm] at tC;obtain ⟨y,j1,hy,h1,akF⟩:=qI tC;obtain ⟨y2,j2,hy2,h2,acO⟩:=qI akF;simp only [jK,Option.some.injEq] at acO;subst acO;simp only [iD,if_pos h5,xE h1] at hlen ⊢;exact IC f HN i j1 j2 c A T w x hx h5 h1 h2 ha hl hok wL hlen
   ·by_cases h6:x.k=6
    ·have h50:manyN x<=50:=by
      have hmm:=j4 uU;have:=qG uU;omega
     simp only [iD,if_neg h5,if_pos h6] at hlen ⊢;exact Jo f HN i j c (manyN x) A T w x hx h6 rfl h50 tC ha hl hok wL hlen
    ·by_cases h7:x.k=7
     ·have h50:manyN x<=50:=by
       have hmm:=j4 uU;have:=qG uU;omega
      simp only [iD,if_neg h5,if_neg h6,if_pos h7] at hlen ⊢;exact Jp f HN i j c (manyN x) A T w x hx h7 rfl h50 tC ha hl hok wL hlen
     ·simp only [iD,if_neg h5,if_neg h6,if_neg h7] at hlen ⊢
      exact Jm i c A T w x hx h5 (by simp [bK,h6,h7]) ha hl hok wL
  ·cases tC
theorem yY (j c:Nat) (A:Option Addr) (T:List Nd) (w:World) (tC:eD T 100 0=some j) (ha:bO w w.heap.size A T) (hl:T.length<=1000000) (hok:bI T) (wL:∀x∈T,x.Ok) (hlen:(iD 100 T).length<=1000000000):
  Calls Tryz.prog 30 #[.slice A T.length c] w fun e w'=>e= .returned (.string ⟨(iD 100 T).toArray⟩)/\Below w.heap.size w w':=by
 have h:=Kw 100 0 j c A T w tC ha hl hok wL (by rw [l8];exact hlen);rw [l8,Int.natCast_zero] at h;have H:=aD h;clear h hok wL tC;go_enter Tryz.func30,Tryz.ntmps30;go_wp2_with fail;refine H.out.mono ?_;rintro e w1 ⟨rfl,hb⟩;go_wp2_with fail;go_ret;exact ⟨rfl,hb⟩
end Go.Proofs.YtmjdhfbnmmdjiaaGreat
