/- Laid together by a tool from the texts of this seat: PrE. Conditions: each theorem's own. -/
import Derived.Test.YtmjdhfbnmmdjiaaGreatH16
import Derived.Test.YtmjdhfbnmmdjiaaGreatH34
import Derived.Test.YtmjdhfbnmmdjiaaGreatH35
set_option maxHeartbeats 8000000
set_option maxRecDepth 100000
namespace Go.Proofs.YtmjdhfbnmmdjiaaGreat
open Go.Lib renaming hid->aB
open Go.World renaming cell?->DI,block_lt_of_cell?->FD,size_alloc->FT
open Go.RowKit.Below renaming refl->aI
open _root_.Array renaming getElem?_eq_some_iff->aai
open _root_.Nat renaming le_trans->vV,le_refl->aK,lt_of_lt_of_le->Yy,zero_le->cu,mul_one->abV,add_zero->h_
open _root_.List renaming getElem?_map->Tz,length_take->jm,take_add_one->yj,mem_cons->qm,not_mem_nil->aaC
open Go.Value renaming slice->gq
open Go Go.RowKit
theorem Ky (n:Nat) (hn:n<=9223372036854775807) (w:World):
  Calls Tryz.prog 106 #[.int .i64 (n:Int)] w fun e w'=>e= .returned (.string ⟨(Lib.decDigits n).toArray⟩)/\Below w.heap.size w w':=by
 go_enter Tryz.func106,Tryz.ntmps106;go_wp2_with fail
 go_loopw [0,3] (fun a0 s3 wr=>∃(m:Nat) (t:ByteArray),a0= .int .i64 m/\s3= .string t/\m<=n/\Below w.heap.size w wr/\Hid (Lib.decDigits m++t.data.toList=Lib.decDigits n))
  (fun a0 _ _=>(Lib.intOf a0).toNat)
 case atStart=>exact ⟨n,_,rfl,rfl,aK _,aI _ _,aB (by simp)⟩
 case round=>
  obtain ⟨m,t,rfl,rfl,hm,hbel,hgood⟩:=hrel;have ajG:(0:Int)<=(m:Int) % 10:=by omega
  have ajH:(m:Int) % 10<=9:=by omega
  have hts:=Rm hn hgood.out;by_cases h9:9<m
  ·have h9i:(9:Int)<(m:Int):=by omega
   have dX:=Rk h9;have hz:=Ai (show m % 10<=9 by omega);generalize UInt8.ofNat (48+m % 10)=c at*;have xR:=aB dX;have Ur:=Dt wr (48+(m:Int) % 10) c (by rw [hz];simp);clear dX hz;go_wp2_with fail;go_roundw
   case rel=>exact ⟨m / 10,⟨#[c]⟩++t,by go_num,rfl,by omega,au hbel _,aB (by rw [<-hgood.out,xR.out,ByteArray.data_append];simp)⟩
   case measure=>simp [Lib.intOf];omega
  ·have h9i:¬(9:Int)<(m:Int):=by omega
   have dX:=Cc h9;have hz:=Ai (show m<=9 by omega);generalize UInt8.ofNat (48+m)=c at*;have xR:=aB dX;have Ur:=Dt wr (48+(m:Int)) c (by rw [hz]);clear dX hz;go_wp2_with fail;go_ret;exact ⟨tL (by rw [<-hgood.out,xR.out];apply ByteArray.ext;simp [ByteArray.data_append]),au hbel _⟩
def yE0:Pt:=⟨2,⟨#[]⟩,⟨#[]⟩,⟨#[120]⟩,0,0,[⟨0,⟨#[]⟩,0⟩],[]⟩
def yE1:Pt:=⟨9,⟨#[]⟩,⟨#[43]⟩,⟨#[]⟩,0,0,[],[]⟩
def yE2:Pt:=⟨14,⟨#[]⟩,⟨#[]⟩,⟨#[]⟩,0,1,[⟨0,⟨#[]⟩,0⟩],[⟨1,⟨#[]⟩,0⟩]⟩
def yE3:Pt:=⟨1,⟨#[]⟩,⟨#[120]⟩,⟨#[]⟩,0,0,[],[]⟩
def yE4:Pt:=⟨0,⟨#[]⟩,⟨#[]⟩,⟨#[]⟩,0,1,[⟨1,⟨#[]⟩,0⟩],[]⟩
def yw:List Pt:=[yE0,yE1,yE2,yE3,yE4]
theorem Dw:dN yw:=by unfold dN;decide
def r9 (s:ByteArray) (w:World) (e:Ending) (w':World):Prop:=e= .returned (.string s)/\Below w.heap.size w w'
theorem Yf (p:Pt) (hk:p.T=[⟨1,⟨#[]⟩,0⟩]) (n:Nat) (hn:p.num=(n:Int)) (hn2:n<=1000) (TA UA:Option Addr) (tc uc:Nat) (w:World) (hT:bJ w w.heap.size TA p.T):
  Calls Tryz.prog 79 #[pv p TA tc UA uc] w (r9 ⟨(Lib.decDigits n).toArray⟩ w):=by
 rw [hk] at hT;obtain ⟨b,o,rfl,hb,c0,_,_⟩:=hT.at_ (i:=0) (x:=⟨1,⟨#[]⟩,0⟩) rfl;rw [show o+0*3=o by omega] at c0;have hl:p.T.length=1:=by rw [hk];rfl
 have HF:=aB (fun w'=>Ky n (by omega) w');have Hn:=aB hn;clear hT hk;unfold pv;rw [hl,hn];clear hl hn;go_enter Tryz.func79,Tryz.ntmps79;go_upto_region 1 with fail
 obtain ⟨w1,hw1⟩:∃w1,w1=w.alloc (.cells #[.int .i64 p.k,.string p.lb,.string p.nm,.string p.bd,.int .i64 p.mn,.int .i64 (n:Int),.slice (some ⟨b,o,none⟩) 1 tc,.slice UA p.U.length uc] 33):=⟨_,rfl⟩;obtain ⟨B,hB⟩:∃B,B=w.heap.size:=⟨_,rfl⟩;have hb1:Below w.heap.size w w1:=by rw [hw1];exact au (aI _ _) _
 have hbx:w1.heap[B]?=some (.cells #[.int .i64 p.k,.string p.lb,.string p.nm,.string p.bd,.int .i64 p.mn,.int .i64 (n:Int),.slice (some ⟨b,o,none⟩) 1 tc,.slice UA p.U.length uc] 33 (0,0)):=by rw [hw1,hB];exact heap_alloc_new _ _
 have k5:w1.cell? ⟨B,5,none⟩=some (.int .i64 (n:Int)):=by simp [DI,hbx]
 have k6:w1.cell? ⟨B,6,none⟩=some (.slice (some ⟨b,o,none⟩) 1 tc):=by simp [DI,hbx]
 have c0':w1.cell? ⟨b,o,none⟩=some (.int .i64 1):=(hb1.cell hb).trans c0;have HB1:=aB hb1;rw [<-hw1,<-hB];clear hw1 hB hbx hb1 c0 hb;have HX:=aB (HF.out w1);go_wp2_with fail;refine HX.out.mono ?_;rintro e w2 ⟨rfl,hb2⟩;have HB2:=aB (ah HB1.out hb2);clear hb2 HX k5 k6 c0';go_wp2_with fail;go_ret;exact ⟨rfl,HB2.out⟩
theorem am4:eG [⟨0,⟨#[]⟩,0⟩] 100 0=some 1:=by kernel_rfl
theorem am5:eG [⟨1,⟨#[]⟩,0⟩] 100 0=some 1:=by kernel_rfl
theorem aeV:iN 100 [⟨0,⟨#[]⟩,0⟩]=[63]:=by kernel_rfl
theorem aeW:iN 100 [⟨1,⟨#[]⟩,0⟩]=[105,110,116]:=by kernel_rfl
theorem Ro (A:Option Addr) (c:Nat) (w:World) (ha:bJ w w.heap.size A [⟨0,⟨#[]⟩,0⟩]):Calls Tryz.prog 30 #[.slice A 1 c] w (r9 ⟨#[63]⟩ w):=by
 have h:=zS 1 c A [⟨0,⟨#[]⟩,0⟩] w am4 ha (by decide) (by decide) (fun x hx=>by
  simp only [qm,aaC,or_false] at hx;subst hx;exact ⟨by decide,by decide,by decide,by decide,by decide⟩) (by rw [aeV];decide)
 rw [aeV] at h;exact h
theorem Rp (A:Option Addr) (c:Nat) (w:World) (ha:bJ w w.heap.size A [⟨1,⟨#[]⟩,0⟩]):Calls Tryz.prog 30 #[.slice A 1 c] w (r9 ⟨#[105,110,116]⟩ w):=by
 have h:=zS 1 c A [⟨1,⟨#[]⟩,0⟩] w am5 ha (by decide) (by decide) (fun x hx=>by
  simp only [qm,aaC,or_false] at hx;subst hx;exact ⟨by decide,by decide,by decide,by decide,by decide⟩) (by rw [aeW];decide)
 rw [aeW] at h;exact h
theorem Yg (A:Option Addr) (c:Nat) (w:World) (hx:kF w (fun _=>False) A yw):Calls Tryz.prog 52 #[.slice A 5 c,.int .i64 4] w (r9 ⟨#[49]⟩ w):=by
 have HX:=aB hx;obtain ⟨eb,eo,rfl,pO,_,⟨TA,tc,UA,uc,hT,hU,c0,c1,c2,c3,c4,c5,c6,c7⟩,_⟩:=hx 4 yE4 rfl;replace c0:w.cell? ⟨eb,eo+32,none⟩=some (.int .i64 0):=c0;replace c1:w.cell? ⟨eb,eo+33,none⟩=some (.string ⟨#[]⟩):=c1;replace c2:w.cell? ⟨eb,eo+34,none⟩=some (.string ⟨#[]⟩):=c2;replace c3:w.cell? ⟨eb,eo+35,none⟩=some (.string ⟨#[]⟩):=c3;replace c4:w.cell? ⟨eb,eo+36,none⟩=some (.int .i64 0):=c4;replace c5:w.cell? ⟨eb,eo+37,none⟩=some (.int .i64 1):=c5;replace c6:w.cell? ⟨eb,eo+38,none⟩=some (.slice TA 1 tc):=c6;replace c7:w.cell? ⟨eb,eo+39,none⟩=some (.slice UA 0 uc):=c7;have pQ:Hid (bJ w w.heap.size TA [⟨1,⟨#[]⟩,0⟩]/\bJ w w.heap.size UA []):=aB ⟨hT.ty.eY,hU.ty.eY⟩
 have HK:Hid (∀w',Below w.heap.size w w'->Calls Tryz.prog 27 #[.slice (some ⟨eb,eo,none⟩) 5 c,.int .i64 4] w' fun e w''=>∃A' cap',e= .returned (.slice A' 0 cap')/\eX w'' w'.heap.size A' cap' []/\Below w'.heap.size w' w''):=aB fun w' hb=>by
  have h:=lX (fun _=>False) (some ⟨eb,eo,none⟩) c yw 4 yE4 w' (HX.out.fr (Fr.below hb:Fr (fun _=>False) w w') fun q hq=>.inl hq) (by decide) Dw rfl;have e:cB (eD yw (aL yE4) (4+1))=[]:=by decide
  rw [e] at h;exact h
 clear hx hT hU;go_enter Tryz.func52,Tryz.ntmps52;go_upto_region 3 with fail
 obtain ⟨w1,hw1⟩:∃w1,w1=w.alloc (.cells #[.int .i64 0,.string ⟨#[]⟩,.string ⟨#[]⟩,.string ⟨#[]⟩,.int .i64 0,.int .i64 1,.slice TA 1 tc,.slice UA 0 uc] 33):=⟨_,rfl⟩;obtain ⟨B,hB⟩:∃B,B=w.heap.size:=⟨_,rfl⟩;have hb1:Below w.heap.size w w1:=by rw [hw1];exact au (aI _ _) _
 have hz1:w1.heap.size=w.heap.size+1:=by rw [hw1];exact FT _ _
 have hbx:w1.heap[B]?=some (.cells #[.int .i64 0,.string ⟨#[]⟩,.string ⟨#[]⟩,.string ⟨#[]⟩,.int .i64 0,.int .i64 1,.slice TA 1 tc,.slice UA 0 uc] 33 (0,0)):=by rw [hw1,hB];exact heap_alloc_new _ _
 have hown0:=gL 9 1 tZ w1;obtain ⟨w2,hw2⟩:∃w2,w2=w1.alloc (.cells #[] 9):=⟨_,rfl⟩;obtain ⟨Q,hQ⟩:∃Q,Q=w1.heap.size:=⟨_,rfl⟩;have hb2:Below w1.heap.size w1 w2:=by rw [hw2];exact au (aI _ _) _
 rw [<-hw2,<-hQ] at hown0;have HB:Hid (Below w.heap.size w w2/\w2.heap[B]?=some (.cells #[.int .i64 0,.string ⟨#[]⟩,.string ⟨#[]⟩,.string ⟨#[]⟩,.int .i64 0,.int .i64 1,.slice TA 1 tc,.slice UA 0 uc] 33 (0,0))/\B<w2.heap.size):=aB ⟨ah hb1 hb2,(hb2.block B (aai.1 hbx).1).trans hbx,Yy (aai.1 hbx).1 hb2.size⟩;have HO:Hid (dG w2 Q (some ⟨Q,0,none⟩) 0 []/\Q<=w2.heap.size/\Below w1.heap.size w1 w2/\Below w.heap.size w w1/\Q=w1.heap.size):=aB ⟨hown0,by rw [hQ];exact hb2.size,hb2,hb1,hQ⟩;have Dx:w.heap.size+1=Q:=by rw [hQ,hz1]
 rw [<-hw1]
 try rw [Dx]
 rw [<-hw2,<-hB];clear hw1 hw2 hB hb1 hb2 hbx hown0 c0 c1 c2 c3 c4 c5 c6 c7 pO hQ hz1;have yu:=aB (HK.out w2 HB.out.1);go_wp2_with fail;refine yu.out.mono ?_;rintro e w3 ⟨KA,kc,rfl,kr,hb3⟩;have H3:Hid (Below w.heap.size w w3/\w3.heap[B]?=some (.cells #[.int .i64 0,.string ⟨#[]⟩,.string ⟨#[]⟩,.string ⟨#[]⟩,.int .i64 0,.int .i64 1,.slice TA 1 tc,.slice UA 0 uc] 33 (0,0))/\dG w3 Q (some ⟨Q,0,none⟩) 0 []/\eX w3 w2.heap.size KA kc []/\Q<=w3.heap.size):=aB ⟨ah HB.out.1 hb3,(hb3.block B HB.out.2.2).trans HB.out.2.1,HO.out.1.below hb3 (aK _),kr,vV HO.out.2.1 hb3.size⟩;clear kr hb3 yu Dx;have HI0:Hid (Below w3.heap.size w3 w3/\Fr (fun q=>Q<=q/\q<w2.heap.size) w3 w3):=aB ⟨aI _ _,Fr.refl _ _⟩;go_upto_region 5 with fail
 go_loopw [6,8] (fun s6 s8 wr=>∃(k:Nat) (SA:Option Addr) (sc:Nat),s8= .int .i64 (k:Int)/\s6= .slice SA k sc/\k<=0/\Hid (Below w.heap.size w wr/\wr.heap[B]?=some (.cells #[.int .i64 0,.string ⟨#[]⟩,.string ⟨#[]⟩,.string ⟨#[]⟩,.int .i64 0,.int .i64 1,.slice TA 1 tc,.slice UA 0 uc] 33 (0,0))/\dG wr Q SA sc (([]:List ByteArray).take k)/\eX wr w2.heap.size KA kc []/\Q<=wr.heap.size)) (fun _ s8 _=>0-(Lib.intOf s8).toNat)
 case atStart=>exact ⟨0,some ⟨Q,0,none⟩,0,rfl,rfl,cu _,aB ⟨H3.out.1,H3.out.2.1,H3.out.2.2.1,H3.out.2.2.2.1,H3.out.2.2.2.2⟩⟩
 case round=>
  obtain ⟨k,SA,sc,rfl,rfl,hk,HI⟩:=hrel;have hke:k=0:=by omega
  subst hke;have hbl:=HI.out.2.1;have k0:wr.cell? ⟨B,0,none⟩=some (.int .i64 0):=by simp [DI,hbl]
  have k1:wr.cell? ⟨B,1,none⟩=some (.string ⟨#[]⟩):=by simp [DI,hbl]
  have k2:wr.cell? ⟨B,2,none⟩=some (.string ⟨#[]⟩):=by simp [DI,hbl]
  have k3:wr.cell? ⟨B,3,none⟩=some (.string ⟨#[]⟩):=by simp [DI,hbl]
  have k4:wr.cell? ⟨B,4,none⟩=some (.int .i64 0):=by simp [DI,hbl]
  have k5:wr.cell? ⟨B,5,none⟩=some (.int .i64 1):=by simp [DI,hbl]
  have k6:wr.cell? ⟨B,6,none⟩=some (.slice TA 1 tc):=by simp [DI,hbl]
  have k7:wr.cell? ⟨B,7,none⟩=some (.slice UA 0 uc):=by simp [DI,hbl]
  clear hbl;have HPT:Hid (∀w',Below w.heap.size w w'->Calls Tryz.prog 30 #[.slice TA 1 tc] w' (r9 ⟨#[105,110,116]⟩ w')):=aB fun w' hb=>Rp TA tc w' ((pQ.out.1.below hb).more hb.size);have JF:=aB (HPT.out wr HI.out.1);go_wp2_with fail;refine JF.out.mono ?_;rintro e v1 ⟨rfl,hb5⟩;replace k0:v1.cell? ⟨B,0,none⟩=some (.int .i64 0):=(hb5.cell (FD _ _ k0)).trans k0;replace k1:v1.cell? ⟨B,1,none⟩=some (.string ⟨#[]⟩):=(hb5.cell (FD _ _ k1)).trans k1;replace k2:v1.cell? ⟨B,2,none⟩=some (.string ⟨#[]⟩):=(hb5.cell (FD _ _ k2)).trans k2;replace k3:v1.cell? ⟨B,3,none⟩=some (.string ⟨#[]⟩):=(hb5.cell (FD _ _ k3)).trans k3;replace k4:v1.cell? ⟨B,4,none⟩=some (.int .i64 0):=(hb5.cell (FD _ _ k4)).trans k4;replace k5:v1.cell? ⟨B,5,none⟩=some (.int .i64 1):=(hb5.cell (FD _ _ k5)).trans k5;replace k6:v1.cell? ⟨B,6,none⟩=some (.slice TA 1 tc):=(hb5.cell (FD _ _ k6)).trans k6;replace k7:v1.cell? ⟨B,7,none⟩=some (.slice UA 0 uc):=(hb5.cell (FD _ _ k7)).trans k7;have Rq:=aB (ah HI.out.1 hb5);clear hb5 JF;have HL:=aB (Yf yE4 rfl 1 rfl (by omega) TA UA tc uc v1 ((pQ.out.1.below Rq.out).more (Rq.out).size));unfold pv at HL;have eL:Lib.decDigits 1=[49]:=by rw [Cc (by omega)];rfl
  rw [eL] at HL;go_wp2_with fail;refine HL.out.mono ?_;rintro e w9 ⟨rfl,xg⟩;have pK:=aB (ah Rq.out xg);clear xg HL;go_wp2_with fail;go_ret;exact ⟨rfl,pK.out⟩
theorem Yi (A:Option Addr) (c:Nat) (w:World) (hx:kF w (fun _=>False) A yw):Calls Tryz.prog 52 #[.slice A 5 c,.int .i64 3] w (r9 ⟨#[120]⟩ w):=by
 have HX:=aB hx;obtain ⟨eb,eo,rfl,pO,_,⟨TA,tc,UA,uc,hT,hU,c0,c1,c2,c3,c4,c5,c6,c7⟩,_⟩:=hx 3 yE3 rfl;replace c0:w.cell? ⟨eb,eo+24,none⟩=some (.int .i64 1):=c0;replace c1:w.cell? ⟨eb,eo+25,none⟩=some (.string ⟨#[]⟩):=c1;replace c2:w.cell? ⟨eb,eo+26,none⟩=some (.string ⟨#[120]⟩):=c2;replace c3:w.cell? ⟨eb,eo+27,none⟩=some (.string ⟨#[]⟩):=c3;replace c4:w.cell? ⟨eb,eo+28,none⟩=some (.int .i64 0):=c4;replace c5:w.cell? ⟨eb,eo+29,none⟩=some (.int .i64 0):=c5;replace c6:w.cell? ⟨eb,eo+30,none⟩=some (.slice TA 0 tc):=c6;replace c7:w.cell? ⟨eb,eo+31,none⟩=some (.slice UA 0 uc):=c7;have pQ:Hid (bJ w w.heap.size TA []/\bJ w w.heap.size UA []):=aB ⟨hT.ty.eY,hU.ty.eY⟩
 have HK:Hid (∀w',Below w.heap.size w w'->Calls Tryz.prog 27 #[.slice (some ⟨eb,eo,none⟩) 5 c,.int .i64 3] w' fun e w''=>∃A' cap',e= .returned (.slice A' 0 cap')/\eX w'' w'.heap.size A' cap' []/\Below w'.heap.size w' w''):=aB fun w' hb=>by
  have h:=lX (fun _=>False) (some ⟨eb,eo,none⟩) c yw 3 yE3 w' (HX.out.fr (Fr.below hb:Fr (fun _=>False) w w') fun q hq=>.inl hq) (by decide) Dw rfl;have e:cB (eD yw (aL yE3) (3+1))=[]:=by decide
  rw [e] at h;exact h
 clear hx hT hU;go_enter Tryz.func52,Tryz.ntmps52;go_upto_region 3 with fail
 obtain ⟨w1,hw1⟩:∃w1,w1=w.alloc (.cells #[.int .i64 1,.string ⟨#[]⟩,.string ⟨#[120]⟩,.string ⟨#[]⟩,.int .i64 0,.int .i64 0,.slice TA 0 tc,.slice UA 0 uc] 33):=⟨_,rfl⟩;obtain ⟨B,hB⟩:∃B,B=w.heap.size:=⟨_,rfl⟩;have hb1:Below w.heap.size w w1:=by rw [hw1];exact au (aI _ _) _
 have hz1:w1.heap.size=w.heap.size+1:=by rw [hw1];exact FT _ _
 have hbx:w1.heap[B]?=some (.cells #[.int .i64 1,.string ⟨#[]⟩,.string ⟨#[120]⟩,.string ⟨#[]⟩,.int .i64 0,.int .i64 0,.slice TA 0 tc,.slice UA 0 uc] 33 (0,0)):=by rw [hw1,hB];exact heap_alloc_new _ _
 have hown0:=gL 9 1 tZ w1;obtain ⟨w2,hw2⟩:∃w2,w2=w1.alloc (.cells #[] 9):=⟨_,rfl⟩;obtain ⟨Q,hQ⟩:∃Q,Q=w1.heap.size:=⟨_,rfl⟩;have hb2:Below w1.heap.size w1 w2:=by rw [hw2];exact au (aI _ _) _
 rw [<-hw2,<-hQ] at hown0;have HB:Hid (Below w.heap.size w w2/\w2.heap[B]?=some (.cells #[.int .i64 1,.string ⟨#[]⟩,.string ⟨#[120]⟩,.string ⟨#[]⟩,.int .i64 0,.int .i64 0,.slice TA 0 tc,.slice UA 0 uc] 33 (0,0))/\B<w2.heap.size):=aB ⟨ah hb1 hb2,(hb2.block B (aai.1 hbx).1).trans hbx,Yy (aai.1 hbx).1 hb2.size⟩;have HO:Hid (dG w2 Q (some ⟨Q,0,none⟩) 0 []/\Q<=w2.heap.size/\Below w1.heap.size w1 w2/\Below w.heap.size w w1/\Q=w1.heap.size):=aB ⟨hown0,by rw [hQ];exact hb2.size,hb2,hb1,hQ⟩;have Dx:w.heap.size+1=Q:=by rw [hQ,hz1]
 rw [<-hw1]
 try rw [Dx]
 rw [<-hw2,<-hB];clear hw1 hw2 hB hb1 hb2 hbx hown0 c0 c1 c2 c3 c4 c5 c6 c7 pO hQ hz1;have yu:=aB (HK.out w2 HB.out.1);go_wp2_with fail;refine yu.out.mono ?_;rintro e w3 ⟨KA,kc,rfl,kr,hb3⟩;have H3:Hid (Below w.heap.size w w3/\w3.heap[B]?=some (.cells #[.int .i64 1,.string ⟨#[]⟩,.string ⟨#[120]⟩,.string ⟨#[]⟩,.int .i64 0,.int .i64 0,.slice TA 0 tc,.slice UA 0 uc] 33 (0,0))/\dG w3 Q (some ⟨Q,0,none⟩) 0 []/\eX w3 w2.heap.size KA kc []/\Q<=w3.heap.size):=aB ⟨ah HB.out.1 hb3,(hb3.block B HB.out.2.2).trans HB.out.2.1,HO.out.1.below hb3 (aK _),kr,vV HO.out.2.1 hb3.size⟩;clear kr hb3 yu Dx;have HI0:Hid (Below w3.heap.size w3 w3/\Fr (fun q=>Q<=q/\q<w2.heap.size) w3 w3):=aB ⟨aI _ _,Fr.refl _ _⟩;go_upto_region 5 with fail
 go_loopw [6,8] (fun s6 s8 wr=>∃(k:Nat) (SA:Option Addr) (sc:Nat),s8= .int .i64 (k:Int)/\s6= .slice SA k sc/\k<=0/\Hid (Below w.heap.size w wr/\wr.heap[B]?=some (.cells #[.int .i64 1,.string ⟨#[]⟩,.string ⟨#[120]⟩,.string ⟨#[]⟩,.int .i64 0,.int .i64 0,.slice TA 0 tc,.slice UA 0 uc] 33 (0,0))/\dG wr Q SA sc (([]:List ByteArray).take k)/\eX wr w2.heap.size KA kc []/\Q<=wr.heap.size)) (fun _ s8 _=>0-(Lib.intOf s8).toNat)
 case atStart=>exact ⟨0,some ⟨Q,0,none⟩,0,rfl,rfl,cu _,aB ⟨H3.out.1,H3.out.2.1,H3.out.2.2.1,H3.out.2.2.2.1,H3.out.2.2.2.2⟩⟩
 case round=>
  obtain ⟨k,SA,sc,rfl,rfl,hk,HI⟩:=hrel;have hke:k=0:=by omega
  subst hke;have hbl:=HI.out.2.1;have k0:wr.cell? ⟨B,0,none⟩=some (.int .i64 1):=by simp [DI,hbl]
  have k1:wr.cell? ⟨B,1,none⟩=some (.string ⟨#[]⟩):=by simp [DI,hbl]
  have k2:wr.cell? ⟨B,2,none⟩=some (.string ⟨#[120]⟩):=by simp [DI,hbl]
  have k3:wr.cell? ⟨B,3,none⟩=some (.string ⟨#[]⟩):=by simp [DI,hbl]
  have k4:wr.cell? ⟨B,4,none⟩=some (.int .i64 0):=by simp [DI,hbl]
  have k5:wr.cell? ⟨B,5,none⟩=some (.int .i64 0):=by simp [DI,hbl]
  have k6:wr.cell? ⟨B,6,none⟩=some (.slice TA 0 tc):=by simp [DI,hbl]
  have k7:wr.cell? ⟨B,7,none⟩=some (.slice UA 0 uc):=by simp [DI,hbl]
  clear hbl;go_wp2_with fail;go_ret;exact ⟨by first|rfl|kernel_rfl,HI.out.1⟩
theorem Yl (A:Option Addr) (c:Nat) (w:World) (hx:kF w (fun _=>False) A yw):Calls Tryz.prog 52 #[.slice A 5 c,.int .i64 2] w (r9 ⟨#[60,120,58,32,63,32,61,62,32,105,110,116,62]⟩ w):=by
 have HX:=aB hx;obtain ⟨eb,eo,rfl,pO,_,⟨TA,tc,UA,uc,hT,hU,c0,c1,c2,c3,c4,c5,c6,c7⟩,_⟩:=hx 2 yE2 rfl;replace c0:w.cell? ⟨eb,eo+16,none⟩=some (.int .i64 14):=c0;replace c1:w.cell? ⟨eb,eo+17,none⟩=some (.string ⟨#[]⟩):=c1;replace c2:w.cell? ⟨eb,eo+18,none⟩=some (.string ⟨#[]⟩):=c2;replace c3:w.cell? ⟨eb,eo+19,none⟩=some (.string ⟨#[]⟩):=c3;replace c4:w.cell? ⟨eb,eo+20,none⟩=some (.int .i64 0):=c4;replace c5:w.cell? ⟨eb,eo+21,none⟩=some (.int .i64 1):=c5;replace c6:w.cell? ⟨eb,eo+22,none⟩=some (.slice TA 1 tc):=c6;replace c7:w.cell? ⟨eb,eo+23,none⟩=some (.slice UA 1 uc):=c7;have pQ:Hid (bJ w w.heap.size TA [⟨0,⟨#[]⟩,0⟩]/\bJ w w.heap.size UA [⟨1,⟨#[]⟩,0⟩]):=aB ⟨hT.ty.eY,hU.ty.eY⟩
 have HK:Hid (∀w',Below w.heap.size w w'->Calls Tryz.prog 27 #[.slice (some ⟨eb,eo,none⟩) 5 c,.int .i64 2] w' fun e w''=>∃A' cap',e= .returned (.slice A' 1 cap')/\eX w'' w'.heap.size A' cap' [3]/\Below w'.heap.size w' w''):=aB fun w' hb=>by
  have h:=lX (fun _=>False) (some ⟨eb,eo,none⟩) c yw 2 yE2 w' (HX.out.fr (Fr.below hb:Fr (fun _=>False) w w') fun q hq=>.inl hq) (by decide) Dw rfl;have e:cB (eD yw (aL yE2) (2+1))=[3]:=by decide
  rw [e] at h;exact h
 have HP:Hid (∀(k v:Nat) (s:ByteArray),([3]:List Nat)[k]?=some v->([⟨#[120]⟩]:List ByteArray)[k]?=some s->∀w',Below w.heap.size w w'->Calls Tryz.prog 52 #[.slice (some ⟨eb,eo,none⟩) 5 c,.int .i64 (v:Int)] w' (r9 s w')):=aB fun k v s hv hs w' hb=>by
  have hx':=HX.out.fr (Fr.below hb:Fr (fun _=>False) w w') fun q hq=>.inl hq
  match k,hv,hs with
  |0,hv,hs=>simp at hv hs;subst hv hs;exact Yi _ c w' hx'
  |k+1,hv,hs=>simp at hv
 clear hx hT hU;go_enter Tryz.func52,Tryz.ntmps52;go_upto_region 3 with fail
 obtain ⟨w1,hw1⟩:∃w1,w1=w.alloc (.cells #[.int .i64 14,.string ⟨#[]⟩,.string ⟨#[]⟩,.string ⟨#[]⟩,.int .i64 0,.int .i64 1,.slice TA 1 tc,.slice UA 1 uc] 33):=⟨_,rfl⟩;obtain ⟨B,hB⟩:∃B,B=w.heap.size:=⟨_,rfl⟩;have hb1:Below w.heap.size w w1:=by rw [hw1];exact au (aI _ _) _
 have hz1:w1.heap.size=w.heap.size+1:=by rw [hw1];exact FT _ _
 have hbx:w1.heap[B]?=some (.cells #[.int .i64 14,.string ⟨#[]⟩,.string ⟨#[]⟩,.string ⟨#[]⟩,.int .i64 0,.int .i64 1,.slice TA 1 tc,.slice UA 1 uc] 33 (0,0)):=by rw [hw1,hB];exact heap_alloc_new _ _
 have hown0:=gL 9 1 tZ w1;obtain ⟨w2,hw2⟩:∃w2,w2=w1.alloc (.cells #[] 9):=⟨_,rfl⟩;obtain ⟨Q,hQ⟩:∃Q,Q=w1.heap.size:=⟨_,rfl⟩;have hb2:Below w1.heap.size w1 w2:=by rw [hw2];exact au (aI _ _) _
 rw [<-hw2,<-hQ] at hown0;have HB:Hid (Below w.heap.size w w2/\w2.heap[B]?=some (.cells #[.int .i64 14,.string ⟨#[]⟩,.string ⟨#[]⟩,.string ⟨#[]⟩,.int .i64 0,.int .i64 1,.slice TA 1 tc,.slice UA 1 uc] 33 (0,0))/\B<w2.heap.size):=aB ⟨ah hb1 hb2,(hb2.block B (aai.1 hbx).1).trans hbx,Yy (aai.1 hbx).1 hb2.size⟩;have HO:Hid (dG w2 Q (some ⟨Q,0,none⟩) 0 []/\Q<=w2.heap.size/\Below w1.heap.size w1 w2/\Below w.heap.size w w1/\Q=w1.heap.size):=aB ⟨hown0,by rw [hQ];exact hb2.size,hb2,hb1,hQ⟩;have Dx:w.heap.size+1=Q:=by rw [hQ,hz1]
 rw [<-hw1]
 try rw [Dx]
 rw [<-hw2,<-hB];clear hw1 hw2 hB hb1 hb2 hbx hown0 c0 c1 c2 c3 c4 c5 c6 c7 pO hQ hz1;have yu:=aB (HK.out w2 HB.out.1);go_wp2_with fail;refine yu.out.mono ?_;rintro e w3 ⟨KA,kc,rfl,kr,hb3⟩;have H3:Hid (Below w.heap.size w w3/\w3.heap[B]?=some (.cells #[.int .i64 14,.string ⟨#[]⟩,.string ⟨#[]⟩,.string ⟨#[]⟩,.int .i64 0,.int .i64 1,.slice TA 1 tc,.slice UA 1 uc] 33 (0,0))/\dG w3 Q (some ⟨Q,0,none⟩) 0 []/\eX w3 w2.heap.size KA kc [3]/\Q<=w3.heap.size):=aB ⟨ah HB.out.1 hb3,(hb3.block B HB.out.2.2).trans HB.out.2.1,HO.out.1.below hb3 (aK _),kr,vV HO.out.2.1 hb3.size⟩;clear kr hb3 yu Dx;have HI0:Hid (Below w3.heap.size w3 w3/\Fr (fun q=>Q<=q/\q<w2.heap.size) w3 w3):=aB ⟨aI _ _,Fr.refl _ _⟩;go_upto_region 5 with fail
 go_loopw [6,8] (fun s6 s8 wr=>∃(k:Nat) (SA:Option Addr) (sc:Nat),s8= .int .i64 (k:Int)/\s6= .slice SA k sc/\k<=1/\Hid (Below w.heap.size w wr/\wr.heap[B]?=some (.cells #[.int .i64 14,.string ⟨#[]⟩,.string ⟨#[]⟩,.string ⟨#[]⟩,.int .i64 0,.int .i64 1,.slice TA 1 tc,.slice UA 1 uc] 33 (0,0))/\dG wr Q SA sc (([⟨#[120]⟩]:List ByteArray).take k)/\eX wr w2.heap.size KA kc [3]/\Q<=wr.heap.size)) (fun _ s8 _=>1-(Lib.intOf s8).toNat)
 case atStart=>exact ⟨0,some ⟨Q,0,none⟩,0,rfl,rfl,cu _,aB ⟨H3.out.1,H3.out.2.1,H3.out.2.2.1,H3.out.2.2.2.1,H3.out.2.2.2.2⟩⟩
 case round=>
  obtain ⟨k,SA,sc,rfl,rfl,hk,HI⟩:=hrel;by_cases hlt:k<1
  ·obtain ⟨v,hv⟩:=aJ (l:=([3]:List Nat)) (i:=k) (by simpa using hlt)
   obtain ⟨s,hs⟩:=aJ (l:=([⟨#[120]⟩]:List ByteArray)) (i:=k) (by simpa using hlt);obtain ⟨kb,ko,hKA,hkb,hkc⟩:=ay.read dK HI.out.2.2.2.1 (by simp);subst hKA;have J6:=hkc k (v:Int) (by have h:([3]:List Int)=([3]:List Nat).map Int.ofNat:=rfl;rw [h,Tz,hv];rfl) 0 _ rfl;rw [abV,h_] at J6;have HC:=aB (HP.out k v s hv hs wr HI.out.1);have HVS:=aB (And.intro hv hs);have hki:(k:Int)<1:=by omega
   have hk0:(0:Int)<=(k:Int):=by omega
   have J9:Hid ((([⟨#[120]⟩]:List ByteArray).take k).length=k):=aB (by rw [jm];simp;omega);clear hv hs hkc hkb;go_wp2_with fail;refine HC.out.mono ?_;rintro e w4 ⟨rfl,hb4⟩;have H4:Hid (Below w.heap.size w w4/\w4.heap[B]?=some (.cells #[.int .i64 14,.string ⟨#[]⟩,.string ⟨#[]⟩,.string ⟨#[]⟩,.int .i64 0,.int .i64 1,.slice TA 1 tc,.slice UA 1 uc] 33 (0,0))/\dG w4 Q SA sc (([⟨#[120]⟩]:List ByteArray).take k)/\eX w4 w2.heap.size (some ⟨kb,ko,none⟩) kc [3]/\Q<=w4.heap.size):=aB ⟨ah HI.out.1 hb4,(hb4.block B (aai.1 HI.out.2.1).1).trans HI.out.2.1,HI.out.2.2.1.below hb4 (aK _),HI.out.2.2.2.1.below hb4 (aK _),vV HI.out.2.2.2.2 hb4.size⟩;clear hb4 HC J6;go_upto_region 6 with (at_builtin;refine nG rfl (.tmp 29) (.tmp 36) rfl Q (m:=k) (n:=1) J9.out rfl (ay.alloc H4.out.2.2.1 _) (l2:=[s]) rfl rfl (l6 w4 s) (by omega) (by have:=H4.out.2.2.2.2;simp;omega) ?_;intro Rs Dc w5 hown5 hg5 _)
   have H5:Hid (Below w.heap.size w w5/\w5.heap[B]?=some (.cells #[.int .i64 14,.string ⟨#[]⟩,.string ⟨#[]⟩,.string ⟨#[]⟩,.int .i64 0,.int .i64 1,.slice TA 1 tc,.slice UA 1 uc] 33 (0,0))/\dG w5 Q Rs Dc (([⟨#[120]⟩]:List ByteArray).take (k+1))/\eX w5 w2.heap.size (some ⟨kb,ko,none⟩) kc [3]/\Q<=w5.heap.size):=aB (by
    have hba:Below w4.heap.size w4 (w4.alloc (.cells #[.string s] 9)):=au (aI _ _) _;have hoa:dG (w4.alloc (.cells #[.string s] 9)) Q SA sc (([⟨#[120]⟩]:List ByteArray).take k):=ay.alloc H4.out.2.2.1 _;have hQw:w.heap.size<=Q:=by have:=HO.out.2.2.2.1.size;have:=HO.out.2.2.2.2;omega
    have hf:=Fr.grown hg5 fun q e=>e
    have hne:∀(q:Nat) (T:TypeId),iQ (w4.alloc (.cells #[.string s] 9)) q T->T≠9->(gq SA (([⟨#[120]⟩]:List ByteArray).take k).length sc).ownBlock≠some q:=fun q T hq hT e=>by
     obtain ⟨a2,ha2,e2⟩:=bL e;exact iQ.ne (ay.rO hoa ha2) hq (fun e3=>hT e3.symm) e2
    have hB1:=(hba.block B (aai.1 H4.out.2.1).1).trans H4.out.2.1;have Rt:=ay.below H4.out.2.2.2.1 hba (aK _);refine ⟨Fr.toBelow (Fr.new (Fr.below (ah H4.out.1 hba):Fr (fun _=>False) w _) hf fun q e=>.inr (vV hQw (ay.block hoa q e).1)) fun k e=>e.elim,(hf.block B (aai.1 hB1).1 (hne B _ ⟨_,_,hB1⟩ (by decide))).trans hB1,?_,ay.fr Rt hf fun a ha e=>hne _ _ (ay.rO Rt ha) (by decide) e,vV H4.out.2.2.2.2 (vV hba.size hf.size)⟩;rw [yj,HVS.out.2];exact hown5)
   clear hown5 hg5;go_wp2_with fail;go_roundw
   case rel=>exact ⟨k+1,Rs,Dc,by go_num,rfl,by omega,H5⟩
   case measure=>simp [Lib.intOf];omega
  have hke:k=1:=by omega
  subst hke;have hbl:=HI.out.2.1;have k0:wr.cell? ⟨B,0,none⟩=some (.int .i64 14):=by simp [DI,hbl]
  have k1:wr.cell? ⟨B,1,none⟩=some (.string ⟨#[]⟩):=by simp [DI,hbl]
  have k2:wr.cell? ⟨B,2,none⟩=some (.string ⟨#[]⟩):=by simp [DI,hbl]
  have k3:wr.cell? ⟨B,3,none⟩=some (.string ⟨#[]⟩):=by simp [DI,hbl]
  have k4:wr.cell? ⟨B,4,none⟩=some (.int .i64 0):=by simp [DI,hbl]
  have k5:wr.cell? ⟨B,5,none⟩=some (.int .i64 1):=by simp [DI,hbl]
  have k6:wr.cell? ⟨B,6,none⟩=some (.slice TA 1 tc):=by simp [DI,hbl]
  have k7:wr.cell? ⟨B,7,none⟩=some (.slice UA 1 uc):=by simp [DI,hbl]
  clear hbl;have HPT:Hid (∀w',Below w.heap.size w w'->Calls Tryz.prog 30 #[.slice TA 1 tc] w' (r9 ⟨#[63]⟩ w')):=aB fun w' hb=>Ro TA tc w' ((pQ.out.1.below hb).more hb.size);have HPU:Hid (∀w',Below w.heap.size w w'->Calls Tryz.prog 30 #[.slice UA 1 uc] w' (r9 ⟨#[105,110,116]⟩ w')):=aB fun w' hb=>Rp UA uc w' ((pQ.out.2.below hb).more hb.size);obtain ⟨sb,so,hSA,hsb,hsc⟩:=ay.read jA HI.out.2.2.1 (by simp);subst hSA;have hs0:wr.cell? ⟨sb,so,none⟩=some (.string ⟨#[120]⟩):=hsc 0 ⟨#[120]⟩ rfl 0 _ rfl;clear hsc;have JF:=aB (HPT.out wr HI.out.1);go_wp2_with fail;refine JF.out.mono ?_;rintro e v1 ⟨rfl,hb5⟩;replace k0:v1.cell? ⟨B,0,none⟩=some (.int .i64 14):=(hb5.cell (FD _ _ k0)).trans k0;replace k1:v1.cell? ⟨B,1,none⟩=some (.string ⟨#[]⟩):=(hb5.cell (FD _ _ k1)).trans k1;replace k2:v1.cell? ⟨B,2,none⟩=some (.string ⟨#[]⟩):=(hb5.cell (FD _ _ k2)).trans k2;replace k3:v1.cell? ⟨B,3,none⟩=some (.string ⟨#[]⟩):=(hb5.cell (FD _ _ k3)).trans k3;replace k4:v1.cell? ⟨B,4,none⟩=some (.int .i64 0):=(hb5.cell (FD _ _ k4)).trans k4;replace k5:v1.cell? ⟨B,5,none⟩=some (.int .i64 1):=(hb5.cell (FD _ _ k5)).trans k5;replace k6:v1.cell? ⟨B,6,none⟩=some (.slice TA 1 tc):=(hb5.cell (FD _ _ k6)).trans k6;replace k7:v1.cell? ⟨B,7,none⟩=some (.slice UA 1 uc):=(hb5.cell (FD _ _ k7)).trans k7;replace hs0:v1.cell? ⟨sb,so,none⟩=some (.string ⟨#[120]⟩):=(hb5.cell hsb).trans hs0;replace hsb:sb<v1.heap.size:=Yy hsb hb5.size;have Rq:=aB (ah HI.out.1 hb5);clear hb5 JF;have JF:=aB (HPU.out v1 Rq.out);go_wp2_with fail
  refine JF.out.mono ?_;rintro e v2 ⟨rfl,hb5⟩;replace k0:v2.cell? ⟨B,0,none⟩=some (.int .i64 14):=(hb5.cell (FD _ _ k0)).trans k0;replace k1:v2.cell? ⟨B,1,none⟩=some (.string ⟨#[]⟩):=(hb5.cell (FD _ _ k1)).trans k1;replace k2:v2.cell? ⟨B,2,none⟩=some (.string ⟨#[]⟩):=(hb5.cell (FD _ _ k2)).trans k2;replace k3:v2.cell? ⟨B,3,none⟩=some (.string ⟨#[]⟩):=(hb5.cell (FD _ _ k3)).trans k3;replace k4:v2.cell? ⟨B,4,none⟩=some (.int .i64 0):=(hb5.cell (FD _ _ k4)).trans k4;replace k5:v2.cell? ⟨B,5,none⟩=some (.int .i64 1):=(hb5.cell (FD _ _ k5)).trans k5;replace k6:v2.cell? ⟨B,6,none⟩=some (.slice TA 1 tc):=(hb5.cell (FD _ _ k6)).trans k6;replace k7:v2.cell? ⟨B,7,none⟩=some (.slice UA 1 uc):=(hb5.cell (FD _ _ k7)).trans k7;replace hs0:v2.cell? ⟨sb,so,none⟩=some (.string ⟨#[120]⟩):=(hb5.cell hsb).trans hs0;replace hsb:sb<v2.heap.size:=Yy hsb hb5.size;have HV2:=aB (ah Rq.out hb5);clear hb5 JF;go_wp2_with fail;go_ret;exact ⟨by first|rfl|kernel_rfl,HV2.out⟩
theorem Ym (A:Option Addr) (c:Nat) (w:World) (hx:kF w (fun _=>False) A yw):Calls Tryz.prog 52 #[.slice A 5 c,.int .i64 1] w (r9 ⟨#[40,60,120,58,32,63,32,61,62,32,105,110,116,62,32,43,32,49,41]⟩ w):=by
 have HX:=aB hx;obtain ⟨eb,eo,rfl,pO,_,⟨TA,tc,UA,uc,hT,hU,c0,c1,c2,c3,c4,c5,c6,c7⟩,_⟩:=hx 1 yE1 rfl;replace c0:w.cell? ⟨eb,eo+8,none⟩=some (.int .i64 9):=c0;replace c1:w.cell? ⟨eb,eo+9,none⟩=some (.string ⟨#[]⟩):=c1;replace c2:w.cell? ⟨eb,eo+10,none⟩=some (.string ⟨#[43]⟩):=c2;replace c3:w.cell? ⟨eb,eo+11,none⟩=some (.string ⟨#[]⟩):=c3;replace c4:w.cell? ⟨eb,eo+12,none⟩=some (.int .i64 0):=c4;replace c5:w.cell? ⟨eb,eo+13,none⟩=some (.int .i64 0):=c5;replace c6:w.cell? ⟨eb,eo+14,none⟩=some (.slice TA 0 tc):=c6;replace c7:w.cell? ⟨eb,eo+15,none⟩=some (.slice UA 0 uc):=c7;have pQ:Hid (bJ w w.heap.size TA []/\bJ w w.heap.size UA []):=aB ⟨hT.ty.eY,hU.ty.eY⟩
 have HK:Hid (∀w',Below w.heap.size w w'->Calls Tryz.prog 27 #[.slice (some ⟨eb,eo,none⟩) 5 c,.int .i64 1] w' fun e w''=>∃A' cap',e= .returned (.slice A' 2 cap')/\eX w'' w'.heap.size A' cap' [2,4]/\Below w'.heap.size w' w''):=aB fun w' hb=>by
  have h:=lX (fun _=>False) (some ⟨eb,eo,none⟩) c yw 1 yE1 w' (HX.out.fr (Fr.below hb:Fr (fun _=>False) w w') fun q hq=>.inl hq) (by decide) Dw rfl;have e:cB (eD yw (aL yE1) (1+1))=[2,4]:=by decide
  rw [e] at h;exact h
 have HP:Hid (∀(k v:Nat) (s:ByteArray),([2,4]:List Nat)[k]?=some v->([⟨#[60,120,58,32,63,32,61,62,32,105,110,116,62]⟩,⟨#[49]⟩]:List ByteArray)[k]?=some s->∀w',Below w.heap.size w w'->Calls Tryz.prog 52 #[.slice (some ⟨eb,eo,none⟩) 5 c,.int .i64 (v:Int)] w' (r9 s w')):=aB fun k v s hv hs w' hb=>by
  have hx':=HX.out.fr (Fr.below hb:Fr (fun _=>False) w w') fun q hq=>.inl hq
  match k,hv,hs with
  |0,hv,hs=>simp at hv hs;subst hv hs;exact Yl _ c w' hx'
  |1,hv,hs=>simp at hv hs;subst hv hs;exact Yg _ c w' hx'
  |k+2,hv,hs=>simp at hv
 clear hx hT hU;go_enter Tryz.func52,Tryz.ntmps52;go_upto_region 3 with fail
 obtain ⟨w1,hw1⟩:∃w1,w1=w.alloc (.cells #[.int .i64 9,.string ⟨#[]⟩,.string ⟨#[43]⟩,.string ⟨#[]⟩,.int .i64 0,.int .i64 0,.slice TA 0 tc,.slice UA 0 uc] 33):=⟨_,rfl⟩;obtain ⟨B,hB⟩:∃B,B=w.heap.size:=⟨_,rfl⟩;have hb1:Below w.heap.size w w1:=by rw [hw1];exact au (aI _ _) _
 have hz1:w1.heap.size=w.heap.size+1:=by rw [hw1];exact FT _ _
 have hbx:w1.heap[B]?=some (.cells #[.int .i64 9,.string ⟨#[]⟩,.string ⟨#[43]⟩,.string ⟨#[]⟩,.int .i64 0,.int .i64 0,.slice TA 0 tc,.slice UA 0 uc] 33 (0,0)):=by rw [hw1,hB];exact heap_alloc_new _ _
 have hown0:=gL 9 1 tZ w1;obtain ⟨w2,hw2⟩:∃w2,w2=w1.alloc (.cells #[] 9):=⟨_,rfl⟩;obtain ⟨Q,hQ⟩:∃Q,Q=w1.heap.size:=⟨_,rfl⟩;have hb2:Below w1.heap.size w1 w2:=by rw [hw2];exact au (aI _ _) _
 rw [<-hw2,<-hQ] at hown0;have HB:Hid (Below w.heap.size w w2/\w2.heap[B]?=some (.cells #[.int .i64 9,.string ⟨#[]⟩,.string ⟨#[43]⟩,.string ⟨#[]⟩,.int .i64 0,.int .i64 0,.slice TA 0 tc,.slice UA 0 uc] 33 (0,0))/\B<w2.heap.size):=aB ⟨ah hb1 hb2,(hb2.block B (aai.1 hbx).1).trans hbx,Yy (aai.1 hbx).1 hb2.size⟩;have HO:Hid (dG w2 Q (some ⟨Q,0,none⟩) 0 []/\Q<=w2.heap.size/\Below w1.heap.size w1 w2/\Below w.heap.size w w1/\Q=w1.heap.size):=aB ⟨hown0,by rw [hQ];exact hb2.size,hb2,hb1,hQ⟩;have Dx:w.heap.size+1=Q:=by rw [hQ,hz1]
 rw [<-hw1]
 try rw [Dx]
 rw [<-hw2,<-hB];clear hw1 hw2 hB hb1 hb2 hbx hown0 c0 c1 c2 c3 c4 c5 c6 c7 pO hQ hz1;have yu:=aB (HK.out w2 HB.out.1);go_wp2_with fail;refine yu.out.mono ?_;rintro e w3 ⟨KA,kc,rfl,kr,hb3⟩;have H3:Hid (Below w.heap.size w w3/\w3.heap[B]?=some (.cells #[.int .i64 9,.string ⟨#[]⟩,.string ⟨#[43]⟩,.string ⟨#[]⟩,.int .i64 0,.int .i64 0,.slice TA 0 tc,.slice UA 0 uc] 33 (0,0))/\dG w3 Q (some ⟨Q,0,none⟩) 0 []/\eX w3 w2.heap.size KA kc [2,4]/\Q<=w3.heap.size):=aB ⟨ah HB.out.1 hb3,(hb3.block B HB.out.2.2).trans HB.out.2.1,HO.out.1.below hb3 (aK _),kr,vV HO.out.2.1 hb3.size⟩;clear kr hb3 yu Dx;have HI0:Hid (Below w3.heap.size w3 w3/\Fr (fun q=>Q<=q/\q<w2.heap.size) w3 w3):=aB ⟨aI _ _,Fr.refl _ _⟩;go_upto_region 5 with fail
 go_loopw [6,8] (fun s6 s8 wr=>∃(k:Nat) (SA:Option Addr) (sc:Nat),s8= .int .i64 (k:Int)/\s6= .slice SA k sc/\k<=2/\Hid (Below w.heap.size w wr/\wr.heap[B]?=some (.cells #[.int .i64 9,.string ⟨#[]⟩,.string ⟨#[43]⟩,.string ⟨#[]⟩,.int .i64 0,.int .i64 0,.slice TA 0 tc,.slice UA 0 uc] 33 (0,0))/\dG wr Q SA sc (([⟨#[60,120,58,32,63,32,61,62,32,105,110,116,62]⟩,⟨#[49]⟩]:List ByteArray).take k)/\eX wr w2.heap.size KA kc [2,4]/\Q<=wr.heap.size)) (fun _ s8 _=>2-(Lib.intOf s8).toNat)
 case atStart=>exact ⟨0,some ⟨Q,0,none⟩,0,rfl,rfl,cu _,aB ⟨H3.out.1,H3.out.2.1,H3.out.2.2.1,H3.out.2.2.2.1,H3.out.2.2.2.2⟩⟩
 case round=>
  obtain ⟨k,SA,sc,rfl,rfl,hk,HI⟩:=hrel;by_cases hlt:k<2
  ·obtain ⟨v,hv⟩:=aJ (l:=([2,4]:List Nat)) (i:=k) (by simpa using hlt)
   obtain ⟨s,hs⟩:=aJ (l:=([⟨#[60,120,58,32,63,32,61,62,32,105,110,116,62]⟩,⟨#[49]⟩]:List ByteArray)) (i:=k) (by simpa using hlt);obtain ⟨kb,ko,hKA,hkb,hkc⟩:=ay.read dK HI.out.2.2.2.1 (by simp);subst hKA;have J6:=hkc k (v:Int) (by have h:([2,4]:List Int)=([2,4]:List Nat).map Int.ofNat:=rfl;rw [h,Tz,hv];rfl) 0 _ rfl;rw [abV,h_] at J6;have HC:=aB (HP.out k v s hv hs wr HI.out.1);have HVS:=aB (And.intro hv hs);have hki:(k:Int)<2:=by omega
   have hk0:(0:Int)<=(k:Int):=by omega
   have J9:Hid ((([⟨#[60,120,58,32,63,32,61,62,32,105,110,116,62]⟩,⟨#[49]⟩]:List ByteArray).take k).length=k):=aB (by rw [jm];simp;omega);clear hv hs hkc hkb;go_wp2_with fail;refine HC.out.mono ?_;rintro e w4 ⟨rfl,hb4⟩;have H4:Hid (Below w.heap.size w w4/\w4.heap[B]?=some (.cells #[.int .i64 9,.string ⟨#[]⟩,.string ⟨#[43]⟩,.string ⟨#[]⟩,.int .i64 0,.int .i64 0,.slice TA 0 tc,.slice UA 0 uc] 33 (0,0))/\dG w4 Q SA sc (([⟨#[60,120,58,32,63,32,61,62,32,105,110,116,62]⟩,⟨#[49]⟩]:List ByteArray).take k)/\eX w4 w2.heap.size (some ⟨kb,ko,none⟩) kc [2,4]/\Q<=w4.heap.size):=aB ⟨ah HI.out.1 hb4,(hb4.block B (aai.1 HI.out.2.1).1).trans HI.out.2.1,HI.out.2.2.1.below hb4 (aK _),HI.out.2.2.2.1.below hb4 (aK _),vV HI.out.2.2.2.2 hb4.size⟩;clear hb4 HC J6;go_upto_region 6 with (at_builtin;refine nG rfl (.tmp 29) (.tmp 36) rfl Q (m:=k) (n:=1) J9.out rfl (ay.alloc H4.out.2.2.1 _) (l2:=[s]) rfl rfl (l6 w4 s) (by omega) (by have:=H4.out.2.2.2.2;simp;omega) ?_;intro Rs Dc w5 hown5 hg5 _)
   have H5:Hid (Below w.heap.size w w5/\w5.heap[B]?=some (.cells #[.int .i64 9,.string ⟨#[]⟩,.string ⟨#[43]⟩,.string ⟨#[]⟩,.int .i64 0,.int .i64 0,.slice TA 0 tc,.slice UA 0 uc] 33 (0,0))/\dG w5 Q Rs Dc (([⟨#[60,120,58,32,63,32,61,62,32,105,110,116,62]⟩,⟨#[49]⟩]:List ByteArray).take (k+1))/\eX w5 w2.heap.size (some ⟨kb,ko,none⟩) kc [2,4]/\Q<=w5.heap.size):=aB (by
    have hba:Below w4.heap.size w4 (w4.alloc (.cells #[.string s] 9)):=au (aI _ _) _;have hoa:dG (w4.alloc (.cells #[.string s] 9)) Q SA sc (([⟨#[60,120,58,32,63,32,61,62,32,105,110,116,62]⟩,⟨#[49]⟩]:List ByteArray).take k):=ay.alloc H4.out.2.2.1 _;have hQw:w.heap.size<=Q:=by have:=HO.out.2.2.2.1.size;have:=HO.out.2.2.2.2;omega
    have hf:=Fr.grown hg5 fun q e=>e
    have hne:∀(q:Nat) (T:TypeId),iQ (w4.alloc (.cells #[.string s] 9)) q T->T≠9->(gq SA (([⟨#[60,120,58,32,63,32,61,62,32,105,110,116,62]⟩,⟨#[49]⟩]:List ByteArray).take k).length sc).ownBlock≠some q:=fun q T hq hT e=>by
     obtain ⟨a2,ha2,e2⟩:=bL e;exact iQ.ne (ay.rO hoa ha2) hq (fun e3=>hT e3.symm) e2
    have hB1:=(hba.block B (aai.1 H4.out.2.1).1).trans H4.out.2.1;have Rt:=ay.below H4.out.2.2.2.1 hba (aK _);refine ⟨Fr.toBelow (Fr.new (Fr.below (ah H4.out.1 hba):Fr (fun _=>False) w _) hf fun q e=>.inr (vV hQw (ay.block hoa q e).1)) fun k e=>e.elim,(hf.block B (aai.1 hB1).1 (hne B _ ⟨_,_,hB1⟩ (by decide))).trans hB1,?_,ay.fr Rt hf fun a ha e=>hne _ _ (ay.rO Rt ha) (by decide) e,vV H4.out.2.2.2.2 (vV hba.size hf.size)⟩;rw [yj,HVS.out.2];exact hown5)
   clear hown5 hg5;go_wp2_with fail;go_roundw
   case rel=>exact ⟨k+1,Rs,Dc,by go_num,rfl,by omega,H5⟩
   case measure=>simp [Lib.intOf];omega
  have hke:k=2:=by omega
  subst hke;have hbl:=HI.out.2.1;have k0:wr.cell? ⟨B,0,none⟩=some (.int .i64 9):=by simp [DI,hbl]
  have k1:wr.cell? ⟨B,1,none⟩=some (.string ⟨#[]⟩):=by simp [DI,hbl]
  have k2:wr.cell? ⟨B,2,none⟩=some (.string ⟨#[43]⟩):=by simp [DI,hbl]
  have k3:wr.cell? ⟨B,3,none⟩=some (.string ⟨#[]⟩):=by simp [DI,hbl]
  have k4:wr.cell? ⟨B,4,none⟩=some (.int .i64 0):=by simp [DI,hbl]
  have k5:wr.cell? ⟨B,5,none⟩=some (.int .i64 0):=by simp [DI,hbl]
  have k6:wr.cell? ⟨B,6,none⟩=some (.slice TA 0 tc):=by simp [DI,hbl]
  have k7:wr.cell? ⟨B,7,none⟩=some (.slice UA 0 uc):=by simp [DI,hbl]
  clear hbl;obtain ⟨sb,so,hSA,hsb,hsc⟩:=ay.read jA HI.out.2.2.1 (by simp);subst hSA;have hs0:wr.cell? ⟨sb,so,none⟩=some (.string ⟨#[60,120,58,32,63,32,61,62,32,105,110,116,62]⟩):=hsc 0 ⟨#[60,120,58,32,63,32,61,62,32,105,110,116,62]⟩ rfl 0 _ rfl;have hs1:wr.cell? ⟨sb,so+1,none⟩=some (.string ⟨#[49]⟩):=hsc 1 ⟨#[49]⟩ rfl 0 _ rfl;clear hsc;go_upto_region 31 with fail
  go_quiet (fail);go_wp2_with fail;go_ret;exact ⟨by first|rfl|kernel_rfl,below_drewN HI.out.1 _⟩
theorem Yn (A:Option Addr) (c:Nat) (w:World) (hx:kF w (fun _=>False) A yw):Calls Tryz.prog 52 #[.slice A 5 c,.int .i64 0] w (r9 ⟨#[40,102,117,110,32,40,120,58,32,63,41,32,45,62,32,40,60,120,58,32,63,32,61,62,32,105,110,116,62,32,43,32,49,41,41]⟩ w):=by
 have HX:=aB hx;obtain ⟨eb,eo,rfl,pO,_,⟨TA,tc,UA,uc,hT,hU,c0,c1,c2,c3,c4,c5,c6,c7⟩,_⟩:=hx 0 yE0 rfl;replace c0:w.cell? ⟨eb,eo,none⟩=some (.int .i64 2):=c0;replace c1:w.cell? ⟨eb,eo+1,none⟩=some (.string ⟨#[]⟩):=c1;replace c2:w.cell? ⟨eb,eo+2,none⟩=some (.string ⟨#[]⟩):=c2;replace c3:w.cell? ⟨eb,eo+3,none⟩=some (.string ⟨#[120]⟩):=c3;replace c4:w.cell? ⟨eb,eo+4,none⟩=some (.int .i64 0):=c4;replace c5:w.cell? ⟨eb,eo+5,none⟩=some (.int .i64 0):=c5;replace c6:w.cell? ⟨eb,eo+6,none⟩=some (.slice TA 1 tc):=c6;replace c7:w.cell? ⟨eb,eo+7,none⟩=some (.slice UA 0 uc):=c7;have pQ:Hid (bJ w w.heap.size TA [⟨0,⟨#[]⟩,0⟩]/\bJ w w.heap.size UA []):=aB ⟨hT.ty.eY,hU.ty.eY⟩
 have HK:Hid (∀w',Below w.heap.size w w'->Calls Tryz.prog 27 #[.slice (some ⟨eb,eo,none⟩) 5 c,.int .i64 0] w' fun e w''=>∃A' cap',e= .returned (.slice A' 1 cap')/\eX w'' w'.heap.size A' cap' [1]/\Below w'.heap.size w' w''):=aB fun w' hb=>by
  have h:=lX (fun _=>False) (some ⟨eb,eo,none⟩) c yw 0 yE0 w' (HX.out.fr (Fr.below hb:Fr (fun _=>False) w w') fun q hq=>.inl hq) (by decide) Dw rfl;have e:cB (eD yw (aL yE0) (0+1))=[1]:=by decide
  rw [e] at h;exact h
 have HP:Hid (∀(k v:Nat) (s:ByteArray),([1]:List Nat)[k]?=some v->([⟨#[40,60,120,58,32,63,32,61,62,32,105,110,116,62,32,43,32,49,41]⟩]:List ByteArray)[k]?=some s->∀w',Below w.heap.size w w'->Calls Tryz.prog 52 #[.slice (some ⟨eb,eo,none⟩) 5 c,.int .i64 (v:Int)] w' (r9 s w')):=aB fun k v s hv hs w' hb=>by
  have hx':=HX.out.fr (Fr.below hb:Fr (fun _=>False) w w') fun q hq=>.inl hq
  match k,hv,hs with
  |0,hv,hs=>simp at hv hs;subst hv hs;exact Ym _ c w' hx'
  |k+1,hv,hs=>simp at hv
 clear hx hT hU;go_enter Tryz.func52,Tryz.ntmps52;go_upto_region 3 with fail
 obtain ⟨w1,hw1⟩:∃w1,w1=w.alloc (.cells #[.int .i64 2,.string ⟨#[]⟩,.string ⟨#[]⟩,.string ⟨#[120]⟩,.int .i64 0,.int .i64 0,.slice TA 1 tc,.slice UA 0 uc] 33):=⟨_,rfl⟩;obtain ⟨B,hB⟩:∃B,B=w.heap.size:=⟨_,rfl⟩;have hb1:Below w.heap.size w w1:=by rw [hw1];exact au (aI _ _) _
 have hz1:w1.heap.size=w.heap.size+1:=by rw [hw1];exact FT _ _
 have hbx:w1.heap[B]?=some (.cells #[.int .i64 2,.string ⟨#[]⟩,.string ⟨#[]⟩,.string ⟨#[120]⟩,.int .i64 0,.int .i64 0,.slice TA 1 tc,.slice UA 0 uc] 33 (0,0)):=by rw [hw1,hB];exact heap_alloc_new _ _
 have hown0:=gL 9 1 tZ w1;obtain ⟨w2,hw2⟩:∃w2,w2=w1.alloc (.cells #[] 9):=⟨_,rfl⟩;obtain ⟨Q,hQ⟩:∃Q,Q=w1.heap.size:=⟨_,rfl⟩;have hb2:Below w1.heap.size w1 w2:=by rw [hw2];exact au (aI _ _) _
 rw [<-hw2,<-hQ] at hown0;have HB:Hid (Below w.heap.size w w2/\w2.heap[B]?=some (.cells #[.int .i64 2,.string ⟨#[]⟩,.string ⟨#[]⟩,.string ⟨#[120]⟩,.int .i64 0,.int .i64 0,.slice TA 1 tc,.slice UA 0 uc] 33 (0,0))/\B<w2.heap.size):=aB ⟨ah hb1 hb2,(hb2.block B (aai.1 hbx).1).trans hbx,Yy (aai.1 hbx).1 hb2.size⟩;have HO:Hid (dG w2 Q (some ⟨Q,0,none⟩) 0 []/\Q<=w2.heap.size/\Below w1.heap.size w1 w2/\Below w.heap.size w w1/\Q=w1.heap.size):=aB ⟨hown0,by rw [hQ];exact hb2.size,hb2,hb1,hQ⟩;have Dx:w.heap.size+1=Q:=by rw [hQ,hz1]
 rw [<-hw1]
 try rw [Dx]
 rw [<-hw2,<-hB];clear hw1 hw2 hB hb1 hb2 hbx hown0 c0 c1 c2 c3 c4 c5 c6 c7 pO hQ hz1;have yu:=aB (HK.out w2 HB.out.1);go_wp2_with fail;refine yu.out.mono ?_;rintro e w3 ⟨KA,kc,rfl,kr,hb3⟩;have H3:Hid (Below w.heap.size w w3/\w3.heap[B]?=some (.cells #[.int .i64 2,.string ⟨#[]⟩,.string ⟨#[]⟩,.string ⟨#[120]⟩,.int .i64 0,.int .i64 0,.slice TA 1 tc,.slice UA 0 uc] 33 (0,0))/\dG w3 Q (some ⟨Q,0,none⟩) 0 []/\eX w3 w2.heap.size KA kc [1]/\Q<=w3.heap.size):=aB ⟨ah HB.out.1 hb3,(hb3.block B HB.out.2.2).trans HB.out.2.1,HO.out.1.below hb3 (aK _),kr,vV HO.out.2.1 hb3.size⟩;clear kr hb3 yu Dx;have HI0:Hid (Below w3.heap.size w3 w3/\Fr (fun q=>Q<=q/\q<w2.heap.size) w3 w3):=aB ⟨aI _ _,Fr.refl _ _⟩;go_upto_region 5 with fail
 go_loopw [6,8] (fun s6 s8 wr=>∃(k:Nat) (SA:Option Addr) (sc:Nat),s8= .int .i64 (k:Int)/\s6= .slice SA k sc/\k<=1/\Hid (Below w.heap.size w wr/\wr.heap[B]?=some (.cells #[.int .i64 2,.string ⟨#[]⟩,.string ⟨#[]⟩,.string ⟨#[120]⟩,.int .i64 0,.int .i64 0,.slice TA 1 tc,.slice UA 0 uc] 33 (0,0))/\dG wr Q SA sc (([⟨#[40,60,120,58,32,63,32,61,62,32,105,110,116,62,32,43,32,49,41]⟩]:List ByteArray).take k)/\eX wr w2.heap.size KA kc [1]/\Q<=wr.heap.size)) (fun _ s8 _=>1-(Lib.intOf s8).toNat)
 case atStart=>exact ⟨0,some ⟨Q,0,none⟩,0,rfl,rfl,cu _,aB ⟨H3.out.1,H3.out.2.1,H3.out.2.2.1,H3.out.2.2.2.1,H3.out.2.2.2.2⟩⟩
 case round=>
  obtain ⟨k,SA,sc,rfl,rfl,hk,HI⟩:=hrel;by_cases hlt:k<1
  ·obtain ⟨v,hv⟩:=aJ (l:=([1]:List Nat)) (i:=k) (by simpa using hlt)
   obtain ⟨s,hs⟩:=aJ (l:=([⟨#[40,60,120,58,32,63,32,61,62,32,105,110,116,62,32,43,32,49,41]⟩]:List ByteArray)) (i:=k) (by simpa using hlt);obtain ⟨kb,ko,hKA,hkb,hkc⟩:=ay.read dK HI.out.2.2.2.1 (by simp);subst hKA;have J6:=hkc k (v:Int) (by have h:([1]:List Int)=([1]:List Nat).map Int.ofNat:=rfl;rw [h,Tz,hv];rfl) 0 _ rfl;rw [abV,h_] at J6;have HC:=aB (HP.out k v s hv hs wr HI.out.1);have HVS:=aB (And.intro hv hs);have hki:(k:Int)<1:=by omega
   have hk0:(0:Int)<=(k:Int):=by omega
   have J9:Hid ((([⟨#[40,60,120,58,32,63,32,61,62,32,105,110,116,62,32,43,32,49,41]⟩]:List ByteArray).take k).length=k):=aB (by rw [jm];simp;omega);clear hv hs hkc hkb;go_wp2_with fail;refine HC.out.mono ?_;rintro e w4 ⟨rfl,hb4⟩;have H4:Hid (Below w.heap.size w w4/\w4.heap[B]?=some (.cells #[.int .i64 2,.string ⟨#[]⟩,.string ⟨#[]⟩,.string ⟨#[120]⟩,.int .i64 0,.int .i64 0,.slice TA 1 tc,.slice UA 0 uc] 33 (0,0))/\dG w4 Q SA sc (([⟨#[40,60,120,58,32,63,32,61,62,32,105,110,116,62,32,43,32,49,41]⟩]:List ByteArray).take k)/\eX w4 w2.heap.size (some ⟨kb,ko,none⟩) kc [1]/\Q<=w4.heap.size):=aB ⟨ah HI.out.1 hb4,(hb4.block B (aai.1 HI.out.2.1).1).trans HI.out.2.1,HI.out.2.2.1.below hb4 (aK _),HI.out.2.2.2.1.below hb4 (aK _),vV HI.out.2.2.2.2 hb4.size⟩;clear hb4 HC J6;go_upto_region 6 with (at_builtin;refine nG rfl (.tmp 29) (.tmp 36) rfl Q (m:=k) (n:=1) J9.out rfl (ay.alloc H4.out.2.2.1 _) (l2:=[s]) rfl rfl (l6 w4 s) (by omega) (by have:=H4.out.2.2.2.2;simp;omega) ?_;intro Rs Dc w5 hown5 hg5 _)
   have H5:Hid (Below w.heap.size w w5/\w5.heap[B]?=some (.cells #[.int .i64 2,.string ⟨#[]⟩,.string ⟨#[]⟩,.string ⟨#[120]⟩,.int .i64 0,.int .i64 0,.slice TA 1 tc,.slice UA 0 uc] 33 (0,0))/\dG w5 Q Rs Dc (([⟨#[40,60,120,58,32,63,32,61,62,32,105,110,116,62,32,43,32,49,41]⟩]:List ByteArray).take (k+1))/\eX w5 w2.heap.size (some ⟨kb,ko,none⟩) kc [1]/\Q<=w5.heap.size):=aB (by
    have hba:Below w4.heap.size w4 (w4.alloc (.cells #[.string s] 9)):=au (aI _ _) _;have hoa:dG (w4.alloc (.cells #[.string s] 9)) Q SA sc (([⟨#[40,60,120,58,32,63,32,61,62,32,105,110,116,62,32,43,32,49,41]⟩]:List ByteArray).take k):=ay.alloc H4.out.2.2.1 _;have hQw:w.heap.size<=Q:=by have:=HO.out.2.2.2.1.size;have:=HO.out.2.2.2.2;omega
    have hf:=Fr.grown hg5 fun q e=>e
    have hne:∀(q:Nat) (T:TypeId),iQ (w4.alloc (.cells #[.string s] 9)) q T->T≠9->(gq SA (([⟨#[40,60,120,58,32,63,32,61,62,32,105,110,116,62,32,43,32,49,41]⟩]:List ByteArray).take k).length sc).ownBlock≠some q:=fun q T hq hT e=>by
     obtain ⟨a2,ha2,e2⟩:=bL e;exact iQ.ne (ay.rO hoa ha2) hq (fun e3=>hT e3.symm) e2
    have hB1:=(hba.block B (aai.1 H4.out.2.1).1).trans H4.out.2.1;have Rt:=ay.below H4.out.2.2.2.1 hba (aK _);refine ⟨Fr.toBelow (Fr.new (Fr.below (ah H4.out.1 hba):Fr (fun _=>False) w _) hf fun q e=>.inr (vV hQw (ay.block hoa q e).1)) fun k e=>e.elim,(hf.block B (aai.1 hB1).1 (hne B _ ⟨_,_,hB1⟩ (by decide))).trans hB1,?_,ay.fr Rt hf fun a ha e=>hne _ _ (ay.rO Rt ha) (by decide) e,vV H4.out.2.2.2.2 (vV hba.size hf.size)⟩;rw [yj,HVS.out.2];exact hown5)
   clear hown5 hg5;go_wp2_with fail;go_roundw
   case rel=>exact ⟨k+1,Rs,Dc,by go_num,rfl,by omega,H5⟩
   case measure=>simp [Lib.intOf];omega
  have hke:k=1:=by omega
  subst hke;have hbl:=HI.out.2.1;have k0:wr.cell? ⟨B,0,none⟩=some (.int .i64 2):=by simp [DI,hbl]
  have k1:wr.cell? ⟨B,1,none⟩=some (.string ⟨#[]⟩):=by simp [DI,hbl]
  have k2:wr.cell? ⟨B,2,none⟩=some (.string ⟨#[]⟩):=by simp [DI,hbl]
  have k3:wr.cell? ⟨B,3,none⟩=some (.string ⟨#[120]⟩):=by simp [DI,hbl]
  have k4:wr.cell? ⟨B,4,none⟩=some (.int .i64 0):=by simp [DI,hbl]
  have k5:wr.cell? ⟨B,5,none⟩=some (.int .i64 0):=by simp [DI,hbl]
  have k6:wr.cell? ⟨B,6,none⟩=some (.slice TA 1 tc):=by simp [DI,hbl]
  have k7:wr.cell? ⟨B,7,none⟩=some (.slice UA 0 uc):=by simp [DI,hbl]
  clear hbl;have HPT:Hid (∀w',Below w.heap.size w w'->Calls Tryz.prog 30 #[.slice TA 1 tc] w' (r9 ⟨#[63]⟩ w')):=aB fun w' hb=>Ro TA tc w' ((pQ.out.1.below hb).more hb.size);obtain ⟨sb,so,hSA,hsb,hsc⟩:=ay.read jA HI.out.2.2.1 (by simp);subst hSA;have hs0:wr.cell? ⟨sb,so,none⟩=some (.string ⟨#[40,60,120,58,32,63,32,61,62,32,105,110,116,62,32,43,32,49,41]⟩):=hsc 0 ⟨#[40,60,120,58,32,63,32,61,62,32,105,110,116,62,32,43,32,49,41]⟩ rfl 0 _ rfl;clear hsc;have JF:=aB (HPT.out wr HI.out.1);go_wp2_with fail;refine JF.out.mono ?_;rintro e v1 ⟨rfl,hb5⟩;replace k0:v1.cell? ⟨B,0,none⟩=some (.int .i64 2):=(hb5.cell (FD _ _ k0)).trans k0;replace k1:v1.cell? ⟨B,1,none⟩=some (.string ⟨#[]⟩):=(hb5.cell (FD _ _ k1)).trans k1;replace k2:v1.cell? ⟨B,2,none⟩=some (.string ⟨#[]⟩):=(hb5.cell (FD _ _ k2)).trans k2;replace k3:v1.cell? ⟨B,3,none⟩=some (.string ⟨#[120]⟩):=(hb5.cell (FD _ _ k3)).trans k3;replace k4:v1.cell? ⟨B,4,none⟩=some (.int .i64 0):=(hb5.cell (FD _ _ k4)).trans k4;replace k5:v1.cell? ⟨B,5,none⟩=some (.int .i64 0):=(hb5.cell (FD _ _ k5)).trans k5;replace k6:v1.cell? ⟨B,6,none⟩=some (.slice TA 1 tc):=(hb5.cell (FD _ _ k6)).trans k6;replace k7:v1.cell? ⟨B,7,none⟩=some (.slice UA 0 uc):=(hb5.cell (FD _ _ k7)).trans k7;replace hs0:v1.cell? ⟨sb,so,none⟩=some (.string ⟨#[40,60,120,58,32,63,32,61,62,32,105,110,116,62,32,43,32,49,41]⟩):=(hb5.cell hsb).trans hs0;replace hsb:sb<v1.heap.size:=Yy hsb hb5.size;have Rq:=aB (ah HI.out.1 hb5);clear hb5 JF;go_upto_region 19 with fail
  go_quiet (fail);go_wp2_with fail;go_ret;exact ⟨by first|rfl|kernel_rfl,below_drewN Rq.out _⟩
end Go.Proofs.YtmjdhfbnmmdjiaaGreat
