/- The law CastBare. -/
import Derived.Test.YtmjdhfbnmmdjiaaGreatH39
import Derived.Test.YtmjdhfbnmmdjiaaGreatH38
namespace Go.Proofs.YtmjdhfbnmmdjiaaGreat
open Go.Lib renaming hid->aB
open _root_.ByteArray renaming empty->dQ
open _root_.And renaming intro->DF
open Go.RowKit.Below renaming refl->aI
open _root_.List renaming mem_of_getElem?->O8
open Go.RowKit
set_option maxRecDepth 100000 in
set_option maxHeartbeats 4000000 in
theorem KH (A EA:Option Addr) (c ec:Nat) (bs:List Bn) (env:Env) (es:List Pt) (w:World) (h:oH w A EA bs env es):
  Calls Tryz.prog 6 #[.slice A bs.length c,.slice EA es.length ec] w fun e w'=>e= .returned (.bool true)/\Below w.heap.size w w':=by
 have HGv:=aB (xE (fun _=>False) A EA c ec bs env es w h.rd h.hv h.sz h.hx h.len);have H:=aB h;clear h;go_enter Tryz.func6,Tryz.ntmps6;go_wp2_with fail;refine HGv.out.mono ?_;rintro e w1 ⟨b,rfl,hq,hb1⟩;have HQ:=aB hq;have HB1:=aB hb1;clear hq hb1
 cases b
 ·go_wp2_with fail
  refine (dU w1).mono ?_;rintro e w2 ⟨rfl,hb2⟩;have HB2:=aB (ah HB1.out hb2);clear hb2;go_wp2_with fail;go_ret;exact ⟨rfl,HB2.out⟩
 have HG:=aB (HQ.out rfl);have HS:Hid (env.length<=20/\es.length<=1000000/\dN es/\es≠[]):=aB ⟨HG.out.env.1,by have:=HG.out.few.1;omega,HG.out.ok,HG.out.right.ne⟩;have hll:es.length<=1000000:=HS.out.2.1;go_wp2_with fail;go_loopw [5] (fun o5 wi=>∃(k:Nat),o5= .int .i64 k/\k<=es.length/\Hid (Below w.heap.size w wi/\∀m x,m<k->es[m]?=some x->x.k≠14)) (fun o5 _=>es.length-(Lib.intOf o5).toNat)
 case atStart=>exact ⟨0,rfl,by omega,aB ⟨HB1.out,fun m e hm=>by omega⟩⟩
 case round=>
  obtain ⟨k2,rfl,hk2,HI⟩:=hrel;by_cases hlt2:k2<es.length
  ·obtain ⟨x,hx⟩:=aJ hlt2
   have HA:=aB (H.out.below HI.out.1);obtain ⟨eb,eo,rfl,hb,_,⟨UA1,uc1,yX,yY,_,_,c0,_⟩,_⟩:=HA.out.hx k2 x hx;have ZU:=aB hx;have hz0:(0:Int)<=(k2:Int):=by omega
   have hz1:(k2:Int)<(es.length:Int):=by omega
   clear hx;by_cases gW:x.k=14
   ·rw [gW] at c0
    clear gW;go_wp2_with fail;refine (dU _).mono ?_;rintro e w2 ⟨rfl,hb2⟩;have HB2:=aB (ah HI.out.1 hb2);clear hb2;go_wp2_with fail;go_ret;exact ⟨rfl,HB2.out⟩
   ·have OG:(x.k==14)=false:=by simp [gW]
    have RD:=aB gW;clear gW;go_wp2_with fail;go_roundw
    case rel=>exact ⟨k2+1,by go_num,by omega,aB ⟨HI.out.1,fun m y hm hy2=>by
     rcases Nat.lt_or_ge m k2 with h5|h5
     ·exact HI.out.2 m y h5 hy2
     ·have:m=k2:=by omega
      subst this;rw [ZU.out] at hy2;injection hy2 with hy2
      subst hy2;exact RD.out⟩⟩
    case measure=>simp [Lib.intOf];omega
  have hke2:k2=es.length:=by omega
  have HAS:Hid (∀p∈es,p.k≠14):=aB (kH fun m x hm hx=>HI.out.2 m x (by rw [hke2];exact hm) hx);have jS:Hid (Below w.heap.size w wr):=aB HI.out.1;clear hke2 HI;rcases HG.out.res with ⟨t,x,t',hc⟩|⟨i,er,hr,he⟩
  rotate_left
  ·have her:er≠0:=by omega
   have HR:=aB (DF hr her);have hen:(er !=0)=true:=by simp [her]
   clear hr he;have HE2:=aB ((H.out.below jS.out).UE (c:=c) (ec:=ec) HS.out.2.2.1 HS.out.1 HS.out.2.1 HR.out.2 HR.out.1);go_wp2_with fail;refine HE2.out.mono ?_;rintro e w3 ⟨hb3,rfl⟩;have qB:=aB (ah jS.out hb3);clear hb3 HE2;go_wp2_with fail;refine (dU w3).mono ?_;rintro e w4 ⟨rfl,hb4⟩;have BO:=aB (ah qB.out hb4);clear hb4;go_wp2_with fail;go_ret;exact ⟨rfl,BO.out⟩
  ·have HC:=aB hc
   obtain ⟨adK,hea,⟨Z,hz1,hz2,hz3⟩,hfa⟩:=hc.bare HG.out HAS.out;have HE2:=aB ((H.out.below jS.out).UF (c:=c) (ec:=ec) HS.out.2.2.1 HS.out.2.2.2 HS.out.1 HS.out.2.1 HC.out.iT HC.out.Dr.c);have OJ:Hid (Rv (fQ 0 x)):=aB (HC.out.ab7 HG.out);have Yx:=aB HC.out.okX;have hXp:0<(fQ 0 x).length:=List.length_pos_iff.2 HC.out.neX;obtain ⟨X,hX⟩:∃X,X=fQ 0 x:=⟨_,rfl⟩;rw [<-hX] at HE2 OJ Yx hXp adK hea hz2 hfa;have HZ:=aB (DF hz1 (DF hz2 hz3));have HFa:=aB hfa;have HEa:Hid (lI (X.drop 0) 1 0=X.length):=aB (oN _ _ _ _ hea);clear hX hc hea hz1 hz2 hz3 hfa;go_wp2_with fail;refine HE2.out.mono ?_;rintro e w3 ⟨hb3,XA,xc,UA,uc,rfl,hxv,hu⟩;have qB:=aB (ah jS.out hb3);have H3:Hid (kF w3 (fun _=>False) XA X):=aB hxv.exF;clear hb3 hxv hu HE2;dsimp only;have hX0:((X.length:Int)==0)=false:=by rw [beq_eq_false_iff_ne];omega
   have hX1:¬(1000:Int)<(X.length:Int):=by omega
   have Qb:=aB (BG (fun _=>False) XA xc X 0 w3 H3.out (by omega) Yx.out (by omega));rw [HEa.out] at Qb;go_wp2_with fail;refine Qb.out.mono ?_;rintro e w4 ⟨rfl,hb4⟩;have BO:=aB hb4;have Ay:=aB (Ch XA xc X w4 (H3.out.fr (Fr.below hb4:Fr (fun _=>False) w3 w4) fun q hq=>.inl hq) Yx.out (by omega) X.length 0 X.length Z dQ w4 (by omega) HZ.out.2.1 (aI _ _));clear hb4 Qb;go_wp2_with fail;refine Ay.out.mono ?_;rintro e w5 ⟨A5,c5,v5,rfl,hown5,ae2,hb5⟩;have gI:=aB (ah BO.out hb5);have HX5:Hid (kF w5 (fun _=>False) A5 (bQ dQ Z)):=aB (dz.ex (ae2.fr (Fr.below hb5:Fr (fun _=>False) w4 w5) fun q hq=>.inl hq) (ay.read fH hown5));have HA5:=aB (H.out.below (ah qB.out gI.out));have PY:=aB (Ch EA ec es w5 HA5.out.hx HS.out.2.2.1 HS.out.2.1 es.length 0 es.length Z dQ w5 (by omega) HZ.out.1 (aI _ _));clear hown5 ae2 hb5 Ay;go_wp2_with fail;refine PY.out.mono ?_;rintro e w6 ⟨A6,c6,v6,rfl,hown6,ae3,hb6⟩;have OL:Hid (kF w6 (fun _=>False) A6 (bQ dQ Z)):=aB (dz.ex (ae3.fr (Fr.below hb6:Fr (fun _=>False) w5 w6) fun q hq=>.inl hq) (ay.read fH hown6));have dV:=aB (ah gI.out hb6);have Ta:=aB (JH (fun _=>False) A5 A6 c5 c6 (bQ dQ Z) w6 (HX5.out.fr (Fr.below hb6:Fr (fun _=>False) w5 w6) fun q hq=>.inl hq) OL.out HZ.out.2.2);rw [dW] at Ta;clear hown6 ae3 hb6 PY HX5;go_wp2_with fail;refine Ta.out.mono ?_;rintro e w7 ⟨rfl,l8⟩;have pK:=aB (ah dV.out l8);clear l8 Ta OL HEa;go_wp2_with fail
   go_loopw [9,10] (fun o9 vJ wi=>∃(k N:Nat),o9= .int .i64 N/\vJ= .int .i64 k/\k<=X.length/\N<=k/\Hid (N=qZ x k/\Below w3.heap.size w3 wi)) (fun _ vJ _=>X.length-(Lib.intOf vJ).toNat)
   case atStart=>exact ⟨0,0,rfl,rfl,by omega,by omega,aB ⟨rfl,pK.out⟩⟩
   case round=>
    obtain ⟨k,N,rfl,rfl,hk,hNk,HI⟩:=hrel;by_cases hlt:k<X.length
    ·obtain ⟨q,hq⟩:=aJ hlt
     have HXr:=aB (H3.out.fr (Fr.below HI.out.2:Fr (fun _=>False) w3 _) fun q hq=>.inl hq);obtain ⟨xb,xo,rfl,hxb,_,⟨TA,tc,yX,yY,hT,hU,c0,c1,c2,c3,c4,c5,c6,c7⟩,_⟩:=HXr.out k q hq;have pQ:=aB (DF hT hU);have HFq:=aB (HFa.out k q hq);have hql:=OJ.out.2 q (O8 hq);have hz0:(0:Int)<=(k:Int):=by omega
     have hz1:(k:Int)<(X.length:Int):=by omega
     clear hT hU hq;go_upto_region 18 with fail
     obtain ⟨w8,hw8⟩:∃w8,w8=wr.alloc (.cells #[.int .i64 q.k,.string q.lb,.string q.nm,.string q.bd,.int .i64 q.mn,.int .i64 q.num,.slice TA q.T.length tc,.slice yX q.U.length yY] 33):=⟨_,rfl⟩;obtain ⟨P,hP⟩:∃P,P=wr.heap.size:=⟨_,rfl⟩;have ni:Below wr.heap.size wr w8:=by rw [hw8];exact au (aI _ _) _
     have hbl:w8.heap[P]?=some (.cells #[.int .i64 q.k,.string q.lb,.string q.nm,.string q.bd,.int .i64 q.mn,.int .i64 q.num,.slice TA q.T.length tc,.slice yX q.U.length yY] 33 (0,0)):=by rw [hw8,hP];exact heap_alloc_new _ _
     have hs8:P<w8.heap.size:=by rw [hw8,hP];simp
     have HP:Hid (∀v,Below w8.heap.size w8 v->v.cell? ⟨P,0,none⟩=some (.int .i64 q.k)/\v.cell? ⟨P,5,none⟩=some (.int .i64 q.num)/\v.cell? ⟨P,6,none⟩=some (.slice TA q.T.length tc)/\v.cell? ⟨P,7,none⟩=some (.slice yX q.U.length yY)):=aB fun v hv=>by
      refine ⟨(hv.cell (p:=⟨P,0,none⟩) hs8).trans ?_,(hv.cell (p:=⟨P,5,none⟩) hs8).trans ?_,(hv.cell (p:=⟨P,6,none⟩) hs8).trans ?_,(hv.cell (p:=⟨P,7,none⟩) hs8).trans ?_⟩<;>simp [World.cell?,hbl]
     have Mw:=aB ni;have V3:Hid (Below w3.heap.size w3 w8):=aB (ah HI.out.2 ni);rw [<-hw8,<-hP];clear hw8 hP ni hbl hs8 c0 c1 c2 c3 c4 c5 c6 c7;obtain ⟨p0,p5,p6,p7⟩:=HP.out w8 (aI _ _);by_cases gW:q.k=14
     rotate_left
     ·have OG:(q.k !=14)=true:=by simp [gW]
      have za:Hid (N=qZ x (k+1)):=aB (by rw [HFq.out.2 gW];exact HI.out.1);clear gW;go_wp2_with fail;go_roundw
      case rel=>exact ⟨k+1,N,rfl,by go_num,by omega,by omega,aB ⟨za.out,V3.out⟩⟩
      case measure=>simp [Lib.intOf];omega
     obtain ⟨hbf,hcn⟩:=HFq.out.1 gW;have GJ:Hid (acf (qZ x k) q):=aB hbf;have za:Hid (N+1=qZ x (k+1)):=aB (by rw [hcn,HI.out.1]);have Ri:q.num=(N:Int)+1:=by rw [hbf.num,<-HI.out.1]
     have hT0:((q.T.length:Int)==0)=false:=by have:=hbf.T.fo.pos;rw [beq_eq_false_iff_ne];omega
     have hU0:((q.U.length:Int)==0)=false:=by have:=hbf.U.fo.pos;rw [beq_eq_false_iff_ne];omega
     have HSa:=aB (fun v (hv:Below wr.heap.size wr v)=>Bj TA yX tc yY q.T q.U v ((pQ.out.1.ty.eY.below hv).more hv.size) ((pQ.out.2.ty.eY.below hv).more hv.size) (by omega));rw [hbf.same] at HSa;have HAg:=aB (fun v (hv:Below wr.heap.size wr v)=>RB q.T.length TA yX tc yY q.T q.U v (Nat.le_refl _) ((pQ.out.1.ty.eY.below hv).more hv.size) ((pQ.out.2.ty.eY.below hv).more hv.size) hbf.T hbf.U hql.1 hql.2 pQ.out.1.cap pQ.out.2.cap);rw [hbf.ag] at HAg;rw [gW] at p0;rw [Ri] at p5;clear gW hbf hcn Ri;go_wp2_with fail;refine (HSa.out w8 Mw.out).mono ?_;rintro e w9 ⟨rfl,xg⟩;have Va:=aB xg;clear p0 p5 p6 p7;obtain ⟨p0,p5,p6,p7⟩:=HP.out w9 xg;clear xg HSa;go_wp2_with fail;refine (HAg.out w9 (ah Mw.out Va.out)).mono ?_;rintro e cK ⟨rfl,zo⟩;have Ip:=aB (ah Va.out zo);have anw:Hid (bJ cK cK.heap.size TA q.T):=aB ((pQ.out.1.ty.eY.below (ah Mw.out Ip.out)).more (ah Mw.out Ip.out).size);clear p0 p5 p6 p7;obtain ⟨p0,p5,p6,p7⟩:=HP.out cK Ip.out;clear zo HAg;have HNk:Hid (N+1<=k+1):=aB (by omega);go_wp2_with fail;go_loopw [12] (fun UR wk=>∃(j:Nat),UR= .int .i64 j/\j<=q.T.length/\Hid (wk=cK)) (fun UR _=>q.T.length-(Lib.intOf UR).toNat)
     case atStart=>exact ⟨0,rfl,by omega,aB rfl⟩
     case round=>
      obtain ⟨j,rfl,hj,HJ⟩:=hrel;have hwk:=HJ.out;subst hwk;by_cases hlj:j<q.T.length
      ·obtain ⟨y,hy⟩:=aJ hlj
       obtain ⟨yb,yo,rfl,hyb,y0,_,y2⟩:=anw.out.at_ hy;have hys:=GJ.out.site y (O8 hy);have hj0:(0:Int)<=(j:Int):=by omega
       have hj1:(j:Int)<(q.T.length:Int):=by omega
       clear hy;by_cases hk0:y.k=0
       ·have hn0:=hys hk0
        rw [hk0] at y0;rw [hn0] at y2;clear hk0 hn0 hys;go_wp2_with fail;go_roundw
        case rel=>exact ⟨j+1,by go_num,by omega,aB (by trivial)⟩
        case measure=>simp [Lib.intOf];omega
       ·have hkb:(y.k==0)=false:=by simp [hk0]
        clear hk0 hys;go_wp2_with fail;go_roundw
        case rel=>exact ⟨j+1,by go_num,by omega,aB (by trivial)⟩
        case measure=>simp [Lib.intOf];omega
      go_wp2_with fail;go_roundw
      case rel=>exact ⟨k+1,N+1,by go_num,by go_num,by omega,HNk.out,aB ⟨za.out,ah V3.out Ip.out⟩⟩
      case measure=>simp [Lib.intOf];omega
    have Mw:=aB (ah qB.out HI.out.2);clear HI;go_wp2_with fail;refine (dU _).mono ?_;rintro e w7 ⟨rfl,l8⟩;have V3:=aB (ah Mw.out l8);clear l8;go_wp2_with fail;go_ret;exact ⟨rfl,V3.out⟩
end Go.Proofs.YtmjdhfbnmmdjiaaGreat
