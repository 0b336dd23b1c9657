/- The law CastStatic. -/
import Derived.Test.YtmjdhfbnmmdjiaaGreatH38
namespace Go.Proofs.YtmjdhfbnmmdjiaaGreat
open Go.Lib renaming hid->aB
open _root_.List renaming mem_of_getElem?->O8
open Go.RowKit
set_option maxRecDepth 100000 in
set_option maxHeartbeats 4000000 in
theorem F9 (A EA:Option Addr) (c ec:Nat) (bs:List Bn) (env:Env) (es:List Pt) (w:World) (h:oH w A EA bs env es):
  Calls Tryz.prog 7 #[.slice A bs.length c,.slice EA es.length ec] w fun e w'=>e= .returned (.bool true)/\Below w.heap.size w w':=by
 have HGv:=aB (xE (fun _=>False) A EA c ec bs env es w h.rd h.hv h.sz h.hx h.len);have H:=aB h;have hbe:bs.length=env.length:=h.hv.1;have HBE:=aB hbe;clear h hbe;go_enter Tryz.func7,Tryz.ntmps7;go_wp2_with fail;refine HGv.out.mono ?_;rintro e w1 ⟨b,rfl,hq,hb1⟩;have HQ:=aB hq;have HB1:=aB hb1;clear hq hb1
 cases b
 ·go_wp2_with fail
  refine (dU w1).mono ?_;rintro e w2 ⟨rfl,hb2⟩;have HB2:=aB (ah HB1.out hb2);clear hb2;go_wp2_with fail;go_ret;exact ⟨rfl,HB2.out⟩
 have HG:=aB (HQ.out rfl);have HS:Hid (env.length<=20/\es.length<=1000000/\dN es/\es≠[]):=aB ⟨HG.out.env.1,by have:=HG.out.few.1;omega,HG.out.ok,HG.out.right.ne⟩;have ar3:bs.length<=20:=by have:=HS.out.1;have:=HBE.out;omega
 have hll:es.length<=1000000:=HS.out.2.1;go_wp2_with fail;go_loopw [5] (fun o5 wr=>∃(k:Nat),o5= .int .i64 k/\k<=bs.length/\Hid (Below w.heap.size w wr/\∀m e,m<k->env[m]?=some e->jI e.2=true)) (fun o5 _=>bs.length-(Lib.intOf o5).toNat)
 case atStart=>exact ⟨0,rfl,by omega,aB ⟨HB1.out,fun m e hm=>by omega⟩⟩
 case round=>
  obtain ⟨k,rfl,hk,HI⟩:=hrel;by_cases hlt:k<bs.length
  ·obtain ⟨bn,hbn⟩:=aJ hlt
   obtain ⟨e0,he0⟩:=aJ (show k<env.length by rw [<-HBE.out];exact hlt);have HA:=aB (H.out.below HI.out.1);obtain ⟨_,ae1,ZR⟩:=HA.out.hv.2 k bn e0 hbn he0;obtain ⟨g,o,rfl,hgl,c0,c1⟩:=aS.bnd HA.out.rd hbn;have HSt:=aB (wV bn.A bn.c wr.heap.size e0.2 wr ZR.ty.eY (by have:=(HA.out.sz.2 e0 (O8 he0)).2.1;omega));rw [<-ae1] at HSt;have HE0:=aB he0;clear hbn he0 ae1 ZR c0;go_wp2_with fail;refine HSt.out.mono ?_;rintro e w3 ⟨rfl,rfl⟩
   cases hs0:jI e0.2
   ·go_wp2_with fail
    refine (dU _).mono ?_;rintro e w2 ⟨rfl,hb2⟩;have HB2:=aB (ah HI.out.1 hb2);clear hb2;go_wp2_with fail;go_ret;exact ⟨rfl,HB2.out⟩
   ·have HS0:=aB hs0
    clear hs0;go_wp2_with fail;go_roundw
    case rel=>exact ⟨k+1,by go_num,by omega,aB ⟨HI.out.1,fun m y hm hy2=>by
     rcases Nat.lt_or_ge m k with h5|h5
     ·exact HI.out.2 m y h5 hy2
     ·have:m=k:=by omega
      subst this;rw [HE0.out] at hy2;injection hy2 with hy2
      subst hy2;exact HS0.out⟩⟩
    case measure=>simp [Lib.intOf];omega
  have hke:k=bs.length:=by omega
  have HEA:Hid (∀e∈env,jI e.2=true):=aB (kH fun m e hm=>HI.out.2 m e (by rw [hke,HBE.out];exact hm));have HB3:Hid (Below w.heap.size w wr):=aB HI.out.1;clear hke HI;go_wp2_with fail;go_loopw [6] (fun o6 wi=>∃(k:Nat),o6= .int .i64 k/\k<=es.length/\Hid (Below w.heap.size w wi/\∀m x,m<k->es[m]?=some x->jI x.T=true/\jI x.U=true/\x.k≠14)) (fun o6 _=>es.length-(Lib.intOf o6).toNat)
  case atStart=>exact ⟨0,rfl,by omega,aB ⟨HB3.out,fun m e hm=>by omega⟩⟩
  case round=>
   obtain ⟨k2,rfl,hk2,HI⟩:=hrel;by_cases hlt2:k2<es.length
   ·obtain ⟨x,hx⟩:=aJ hlt2
    have HA:=aB (H.out.below HI.out.1);obtain ⟨eb,eo,rfl,hb,_,⟨UA1,uc1,yX,yY,hT,hU,c0,_,_,_,_,_,c6,c7⟩,_⟩:=HA.out.hx k2 x hx;have hlx:=HG.out.ab6 x (O8 hx);have HS1:=aB (wV UA1 uc1 wr.heap.size x.T wr hT.ty.eY (by omega));have HS2:=aB (wV yX yY wr.heap.size x.U wr hU.ty.eY (by omega));have ZU:=aB hx;have hz0:(0:Int)<=(k2:Int):=by omega
    have hz1:(k2:Int)<(es.length:Int):=by omega
    clear hx hT hU hlx;go_wp2_with fail;refine HS1.out.mono ?_;rintro e w3 ⟨rfl,rfl⟩
    cases hs1:jI x.T
    ·go_wp2_with fail
     refine (dU _).mono ?_;rintro e w2 ⟨rfl,hb2⟩;have HB2:=aB (ah HI.out.1 hb2);clear hb2;go_wp2_with fail;go_ret;exact ⟨rfl,HB2.out⟩
    ·have anr:=aB hs1
     clear hs1;go_wp2_with fail;refine HS2.out.mono ?_;rintro e w3 ⟨rfl,rfl⟩
     cases hs2:jI x.U
     ·go_wp2_with fail
      refine (dU _).mono ?_;rintro e w2 ⟨rfl,hb2⟩;have HB2:=aB (ah HI.out.1 hb2);clear hb2;go_wp2_with fail;go_ret;exact ⟨rfl,HB2.out⟩
     ·have ant:=aB hs2
      clear hs2;by_cases gW:x.k=14
      ·rw [gW] at c0
       clear gW;go_wp2_with fail;refine (dU _).mono ?_;rintro e w2 ⟨rfl,hb2⟩;have HB2:=aB (ah HI.out.1 hb2);clear hb2;go_wp2_with fail;go_ret;exact ⟨rfl,HB2.out⟩
      ·have OG:(x.k==14)=false:=by simp [gW]
       have RD:=aB gW;clear gW;go_wp2_with fail;go_roundw
       case rel=>exact ⟨k2+1,by go_num,by omega,aB ⟨HI.out.1,fun m y hm hy2=>by
        rcases Nat.lt_or_ge m k2 with h5|h5
        ·exact HI.out.2 m y h5 hy2
        ·have:m=k2:=by omega
         subst this;rw [ZU.out] at hy2;injection hy2 with hy2
         subst hy2;exact ⟨anr.out,ant.out,RD.out⟩⟩⟩
       case measure=>simp [Lib.intOf];omega
   have hke2:k2=es.length:=by omega
   have HAS:Hid (zQ env es/\∀p∈es,p.k≠14):=aB ⟨⟨HEA.out,kH fun m x hm hx=>⟨(HI.out.2 m x (by rw [hke2];exact hm) hx).1,(HI.out.2 m x (by rw [hke2];exact hm) hx).2.1⟩⟩,kH fun m x hm hx=>(HI.out.2 m x (by rw [hke2];exact hm) hx).2.2⟩;have jS:Hid (Below w.heap.size w wr):=aB HI.out.1;clear hke2 HI;rcases HG.out.res with ⟨t,x,t',hc⟩|⟨i,er,hr,he⟩
   rotate_left
   ·have her:er≠0:=by omega
    have HR:=aB (And.intro hr her);have hen:(er !=0)=true:=by simp [her]
    clear hr he;have HE2:=aB ((H.out.below jS.out).UE (c:=c) (ec:=ec) HS.out.2.2.1 HS.out.1 HS.out.2.1 HR.out.2 HR.out.1);go_wp2_with fail;refine HE2.out.mono ?_;rintro e w3 ⟨hb3,rfl⟩;have qB:=aB (ah jS.out hb3);clear hb3 HE2;go_wp2_with fail;refine (dU w3).mono ?_;rintro e w4 ⟨rfl,hb4⟩;have BO:=aB (ah qB.out hb4);clear hb4;go_wp2_with fail;go_ret;exact ⟨rfl,BO.out⟩
   ·have HC:=aB hc
    obtain ⟨hid,hbr,hrt,hno⟩:=hc.still HG.out HAS.out.1 HAS.out.2;have HE2:=aB ((H.out.below jS.out).UF (c:=c) (ec:=ec) HS.out.2.2.1 HS.out.2.2.2 HS.out.1 HS.out.2.1 HC.out.iT HC.out.Dr.c);have OJ:Hid (Rv (fQ 0 x)):=aB (HC.out.ab7 HG.out);rw [hid] at HE2 OJ;have hxl:=OJ.out.1;have Yt:=aB (And.intro hbr (And.intro hrt hno));clear hc hid hbr hrt hno;go_wp2_with fail;refine HE2.out.mono ?_;rintro e w3 ⟨hb3,XA,xc,UA,uc,rfl,hxv,hu⟩;have qB:=aB (ah jS.out hb3);have H3:Hid (kF w3 (fun _=>False) XA x):=aB hxv.exF;clear hb3 hxv hu HE2;dsimp only;go_wp2_with fail;go_loopw [10] (fun vJ wi=>∃(k:Nat),vJ= .int .i64 k/\k<=x.length/\Hid (Below w3.heap.size w3 wi)) (fun vJ _=>x.length-(Lib.intOf vJ).toNat)
    case atStart=>exact ⟨0,rfl,by omega,aB (Below.refl _ _)⟩
    case round=>
     obtain ⟨k3,rfl,hk3,HI⟩:=hrel;by_cases hlt3:k3<x.length
     ·obtain ⟨q,hq⟩:=aJ hlt3
      have OL:=aB (H3.out.fr (Fr.below HI.out:Fr (fun _=>False) w3 _) fun q hq=>.inl hq);obtain ⟨xb,xo,rfl,hxb,_,⟨_,_,_,_,_,_,c0,_⟩,_⟩:=OL.out k3 q hq;have hn:=Yt.out.2.2 q (O8 hq);have q13:(q.k==13)=false:=by simpa using hn.1
      have OG:(q.k==14)=false:=by simpa using hn.2
      have hz0:(0:Int)<=(k3:Int):=by omega
      have hz1:(k3:Int)<(x.length:Int):=by omega
      clear hq hn;go_wp2_with fail;go_roundw
      case rel=>exact ⟨k3+1,by go_num,by omega,aB HI.out⟩
      case measure=>simp [Lib.intOf];omega
     have BO:=aB HI.out;clear HI;go_wp2_with fail;refine (dU _).mono ?_;rintro e w7 ⟨rfl,l8⟩;have gI:=aB (ah BO.out l8);have HA7:=aB (H.out.below (ah qB.out gI.out));have Ay:=aB (Ch EA ec es w7 HA7.out.hx HS.out.2.2.1 HS.out.2.1 es.length 0 es.length x ByteArray.empty w7 (by omega) Yt.out.1 (Below.refl _ _));clear l8;go_wp2_with fail;refine Ay.out.mono ?_;rintro e w8 ⟨A8,c8,v8,rfl,uw,JL,ni⟩;rw [Yt.out.2.1] at JL;have HX8:Hid (kF w8 (fun _=>False) A8 x):=aB (dz.ex (JL.fr (Fr.below ni:Fr (fun _=>False) w7 w8) fun q hq=>.inl hq) (ay.read fH uw));have dV:=aB (ah gI.out ni);have Ta:=aB (JH (fun _=>False) XA A8 xc c8 x w8 (H3.out.fr (Fr.below dV.out:Fr (fun _=>False) w3 _) fun q hq=>.inl hq) HX8.out OJ.out);clear uw JL ni Ay;go_wp2_with fail;refine Ta.out.mono ?_;rintro e w9 ⟨rfl,xg⟩;have pK:=aB (ah qB.out (ah dV.out xg));clear xg;go_wp2_with fail;go_ret;exact ⟨rfl,pK.out⟩
end Go.Proofs.YtmjdhfbnmmdjiaaGreat
