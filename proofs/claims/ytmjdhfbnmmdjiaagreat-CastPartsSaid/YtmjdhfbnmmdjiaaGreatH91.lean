/- The law CastParts. -/
import Derived.Test.YtmjdhfbnmmdjiaaGreatH37
namespace Go.Proofs.YtmjdhfbnmmdjiaaGreat
open Go.Lib renaming hid->aB
open _root_.List renaming mem_of_getElem?->O8
open Go.RowKit
set_option maxRecDepth 100000 in
set_option maxHeartbeats 4000000 in
theorem JR (A EA:Option Addr) (c ec:Nat) (bs:List Bn) (env:Env) (es:List Pt) (w:World) (h:oH w A EA bs env es):
  Calls Tryz.prog 8 #[.slice A bs.length c,.slice EA es.length ec] w fun e w'=>e= .returned (.bool true)/\Below w.heap.size w w':=by
 have HGv:=aB (xE (fun _=>False) A EA c ec bs env es w h.rd h.hv h.sz h.hx h.len);have H:=aB h;clear h;go_enter Tryz.func8,Tryz.ntmps8;go_wp2_with fail;refine HGv.out.mono ?_;rintro e w1 ⟨b,rfl,hq,hb1⟩;have HQ:=aB hq;have HB1:=aB hb1;clear hq hb1
 cases b
 ·go_wp2_with fail
  refine (dU w1).mono ?_;rintro e w2 ⟨rfl,hb2⟩;have HB2:=aB (ah HB1.out hb2);clear hb2;go_wp2_with fail;go_ret;exact ⟨rfl,HB2.out⟩
 have HG:=aB (HQ.out rfl);have HS:Hid (env.length<=20/\es.length<=1000000/\dN es/\es≠[]):=aB ⟨HG.out.env.1,by have:=HG.out.few.1;omega,HG.out.ok,HG.out.right.ne⟩;rcases HG.out.res with ⟨t,x,t',hc⟩|⟨i,er,hr,he⟩
 ·have HC:=aB hc
  clear hc;have HE2:=aB ((H.out.below HB1.out).UF (c:=c) (ec:=ec) HS.out.2.2.1 HS.out.2.2.2 HS.out.1 HS.out.2.1 HC.out.iT HC.out.Dr.c);have OJ:Hid ((fQ 0 x).length<=1000000):=aB (HC.out.ab7 HG.out).1;have Yx:=aB HC.out.okX;have hXp:0<(fQ 0 x).length:=List.length_pos_iff.2 HC.out.neX;have Ns:=aB HC.out.parts;obtain ⟨X,hX⟩:∃X,X=fQ 0 x:=⟨_,rfl⟩;rw [<-hX] at HE2 OJ Yx Ns hXp;clear hX;go_wp2_with fail;refine HE2.out.mono ?_;rintro e w3 ⟨hb3,XA,xc,UA,uc,rfl,hxv,hu⟩;have HB3:=aB (ah HB1.out hb3);have H3:Hid (kF w3 (fun _=>False) XA X):=aB hxv.exF;clear hb3 hxv hu HE2;dsimp only;have hll:es.length<=1000000:=HS.out.2.1;have hlX:X.length<=1000000:=OJ.out;have hXi:(0:Int)<(X.length:Int):=by omega
  go_wp2_with fail;go_loopw [8,9] (fun o8 o9 wr=>∃(b:Bool) (k:Nat),o8= .bool b/\o9= .int .i64 k/\k<=es.length/\Hid (Below w3.heap.size w3 wr/\(b=false->∀m y,m<k->es[m]?=some y->y.k≠13/\y.k≠14))) (fun _ o9 _=>es.length-(Lib.intOf o9).toNat)
  case atStart=>exact ⟨false,0,rfl,rfl,by omega,aB ⟨Below.refl _ _,fun _ m e hm=>by omega⟩⟩
  case round=>
   obtain ⟨b,k,rfl,rfl,hk,HI⟩:=hrel;by_cases hlt:k<es.length
   ·obtain ⟨y,hy⟩:=aJ hlt
    have HA:=aB (H.out.below (ah HB3.out HI.out.1));obtain ⟨eb,eo,rfl,hb,_,⟨UA1,uc1,yX,yY,_,_,c0,_⟩,_⟩:=HA.out.hx k y hy;have HY:=aB hy;have hk0:(0:Int)<=(k:Int):=by omega
    have hk1:(k:Int)<(es.length:Int):=by omega
    clear hy
    cases b
    ·by_cases gW:y.k=14
     ·have OG:(y.k==14)=true:=by simp [gW]
      rw [gW] at c0;clear gW;go_wp2_with fail;go_roundw
      case rel=>exact ⟨true,k+1,rfl,by go_num,by omega,aB ⟨HI.out.1,fun h=>by cases h⟩⟩
      case measure=>simp [Lib.intOf];omega
     ·have OG:(y.k==14)=false:=by simp [gW]
      have RD:=aB gW;clear gW;by_cases jT:y.k=13
      ·rw [jT] at c0
       clear jT OG;go_wp2_with fail;go_roundw
       case rel=>exact ⟨true,k+1,rfl,by go_num,by omega,aB ⟨HI.out.1,fun h=>by cases h⟩⟩
       case measure=>simp [Lib.intOf];omega
      ·have q13:(y.k==13)=false:=by simp [jT]
       have anq:=aB jT;clear jT;go_wp2_with fail;go_roundw
       case rel=>exact ⟨false,k+1,rfl,by go_num,by omega,aB ⟨HI.out.1,fun _ m z hm hz=>by
        rcases Nat.lt_or_ge m k with h5|h5
        ·exact HI.out.2 rfl m z h5 hz
        ·have:m=k:=by omega
         subst this;rw [HY.out] at hz;injection hz with hz
         subst hz;exact ⟨anq.out,RD.out⟩⟩⟩
       case measure=>simp [Lib.intOf];omega
    ·go_wp2_with fail
     go_roundw
     case rel=>exact ⟨true,k+1,rfl,by go_num,by omega,aB ⟨HI.out.1,fun h=>by cases h⟩⟩
     case measure=>simp [Lib.intOf];omega
   have hke:k=es.length:=by omega
   cases b
   ·obtain ⟨hle,hpf⟩:=Ns.out (fun p hp=>by
     obtain ⟨m,hm⟩:=List.mem_iff_getElem?.1 hp;exact HI.out.2 rfl m p (by rw [hke];exact aP hm) hm)
    have HPF:=aB hpf;have jS:Hid (Below w3.heap.size w3 wr):=aB HI.out.1;clear hpf hke HI Ns;go_wp2_with fail;go_loopw [10] (fun vJ wi=>∃(k:Nat),vJ= .int .i64 k/\k<=X.length/\Hid (Below w3.heap.size w3 wi)) (fun vJ _=>X.length-(Lib.intOf vJ).toNat)
    case atStart=>exact ⟨0,rfl,by omega,aB jS.out⟩
    case round=>
     obtain ⟨i,rfl,hi,HI⟩:=hrel;by_cases hlt:i<X.length
     ·obtain ⟨q,hq⟩:=aJ hlt
      obtain ⟨l,hl⟩:=HPF.out i q hq;have HL:=aB hl;have Ie:=aB (lX (fun _=>False) XA xc X i q _ (H3.out.fr (Fr.below HI.out:Fr (fun _=>False) w3 _) fun q hq=>.inl hq) hlX Yx.out hq);rw [hl.kids,mh] at Ie;have ang:=hl.len;have nX:=aB hq;clear hl hq;have hi0:(0:Int)<=(i:Int):=by omega
      have hi1:(i:Int)<(X.length:Int):=by omega
      go_wp2_with fail;refine Ie.out.mono ?_;rintro e w5 ⟨LA,lc,rfl,hown,hb5⟩;have J3:=aB (ay.read dK hown);have qB:Hid (Below w3.heap.size w3 w5):=aB (ah HI.out hb5);clear hown hb5 Ie;go_wp2_with fail;go_loopw [12] (fun UR wj=>∃(j:Nat),UR= .int .i64 j/\j<=l.length/\Hid (Below w5.heap.size w5 wj)) (fun UR _=>l.length-(Lib.intOf UR).toNat)
      case atStart=>exact ⟨0,rfl,by omega,aB (Below.refl _ _)⟩
      case round=>
       obtain ⟨j,rfl,hj,HJ⟩:=hrel;by_cases hlj:j<l.length
       ·obtain ⟨d,hd⟩:=aJ hlj
        have hdl:=HL.out.lt d (O8 hd);obtain ⟨r,hr⟩:=aJ hdl;have HNo:Hid ((q.k=11\/q.k=2\/q.k=10\/q.k=14)->r.k≠14):=aB fun h=>HL.out.no h d (O8 hd) r hr;obtain ⟨lb,lo,rfl,hlb,hlc⟩:=aS.int (aS.below J3.out HJ.out) (p8 hd);have OL:=aB (H3.out.fr (Fr.below (ah qB.out HJ.out):Fr (fun _=>False) w3 _) fun q hq=>.inl hq);obtain ⟨xb,xo,rfl,hxb,_,⟨_,_,_,_,_,_,c0,_⟩,_⟩:=OL.out i q nX.out;obtain ⟨xb2,xo2,he,ar2,_,⟨_,_,_,_,_,_,d0,_⟩,_⟩:=OL.out d r hr;injection he with he
        injection he with e1 e2
        subst e1 e2;have hd0:(0:Int)<=(d:Int):=by omega
        have hd1:(d:Int)<(X.length:Int):=by omega
        have hj0:(0:Int)<=(j:Int):=by omega
        have hj1:(j:Int)<(l.length:Int):=by omega
        clear hd hr hdl;by_cases hw:q.k=11\/q.k=2\/q.k=10\/q.k=14
        ·have r14:(r.k==14)=false:=by simpa using HNo.out hw
         clear HNo;rcases hw with hw|hw|hw|hw<;>rw [hw] at c0<;>clear hw
         ·go_wp2_with fail
          go_roundw
          case rel=>exact ⟨j+1,by go_num,by omega,aB HJ.out⟩
          case measure=>simp [Lib.intOf];omega
         ·go_wp2_with fail
          go_roundw
          case rel=>exact ⟨j+1,by go_num,by omega,aB HJ.out⟩
          case measure=>simp [Lib.intOf];omega
         ·go_wp2_with fail
          go_roundw
          case rel=>exact ⟨j+1,by go_num,by omega,aB HJ.out⟩
          case measure=>simp [Lib.intOf];omega
         ·go_wp2_with fail
          go_roundw
          case rel=>exact ⟨j+1,by go_num,by omega,aB HJ.out⟩
          case measure=>simp [Lib.intOf];omega
        ·have n11:(q.k==11)=false:=by simpa using fun h=>hw (.inl h)
         have n2:(q.k==2)=false:=by simpa using fun h=>hw (.inr (.inl h))
         have n10:(q.k==10)=false:=by simpa using fun h=>hw (.inr (.inr (.inl h)))
         have n14:(q.k==14)=false:=by simpa using fun h=>hw (.inr (.inr (.inr h)))
         clear hw HNo;go_wp2_with fail;go_roundw
         case rel=>exact ⟨j+1,by go_num,by omega,aB HJ.out⟩
         case measure=>simp [Lib.intOf];omega
       have OL:=aB (H3.out.fr (Fr.below (ah qB.out HJ.out):Fr (fun _=>False) w3 _) fun q hq=>.inl hq);obtain ⟨xb,xo,rfl,hxb,_,⟨_,_,_,_,_,_,c0,_⟩,_⟩:=OL.out i q nX.out;have q13:(q.k==13)=false:=by simpa using HL.out.k13
       by_cases gW:q.k=14
       ·have h1:=HL.out.one gW
        have OG:(q.k==14)=true:=by simp [gW]
        have hl1:((l.length:Int) !=1)=false:=by rw [h1];rfl
        clear gW;go_wp2_with fail;go_roundw
        case rel=>exact ⟨i+1,by go_num,by omega,aB (ah qB.out HJ.out)⟩
        case measure=>simp [Lib.intOf];omega
       ·have OG:(q.k==14)=false:=by simp [gW]
        clear gW;go_wp2_with fail;go_roundw
        case rel=>exact ⟨i+1,by go_num,by omega,aB (ah qB.out HJ.out)⟩
        case measure=>simp [Lib.intOf];omega
     have BO:=aB (ah HB3.out HI.out);clear HI;go_wp2_with fail;refine (dU _).mono ?_;rintro e w7 ⟨rfl,l8⟩;have gI:=aB (ah BO.out l8);have hge:(es.length:Int)<=(X.length:Int):=by omega
     clear l8;go_wp2_with fail;go_ret;exact ⟨rfl,gI.out⟩
   ·have jS:Hid (Below w.heap.size w wr):=aB (ah HB3.out HI.out.1)
    clear hke HI Ns;go_wp2_with fail;go_loopw [10] (fun vJ wi=>vJ= .int .i64 0/\Hid (Below w.heap.size w wi)) (fun _ _=>0)
    case atStart=>exact ⟨rfl,aB jS.out⟩
    case round=>
     obtain ⟨rfl,HI⟩:=hrel;have HW:=aB HI.out;clear HI;go_wp2_with fail;refine (dU _).mono ?_;rintro e w7 ⟨rfl,l8⟩;have gI:=aB (ah HW.out l8);clear l8;by_cases hle:es.length<=X.length
     ·have hge:(es.length:Int)<=(X.length:Int):=by omega
      clear hle;go_wp2_with fail;go_ret;exact ⟨rfl,gI.out⟩
     ·have hge:¬(es.length:Int)<=(X.length:Int):=by omega
      clear hle;go_wp2_with fail;refine (dU _).mono ?_;rintro e w8 ⟨rfl,ni⟩;have dV:=aB (ah gI.out ni);clear ni;go_wp2_with fail;go_ret;exact ⟨rfl,dV.out⟩
 ·have her:er≠0:=by omega
  have HR:=aB (And.intro hr her);have hen:(er !=0)=true:=by simp [her]
  clear hr he;have HE2:=aB ((H.out.below HB1.out).UE (c:=c) (ec:=ec) HS.out.2.2.1 HS.out.1 HS.out.2.1 HR.out.2 HR.out.1);go_wp2_with fail;refine HE2.out.mono ?_;rintro e w3 ⟨hb3,rfl⟩;have HB3:=aB (ah HB1.out hb3);clear hb3 HE2;go_wp2_with fail;refine (dU w3).mono ?_;rintro e w4 ⟨rfl,hb4⟩;have jS:=aB (ah HB3.out hb4);clear hb4;go_wp2_with fail;go_ret;exact ⟨rfl,jS.out⟩
end Go.Proofs.YtmjdhfbnmmdjiaaGreat
