/- Laid together by a tool from the texts of this seat: RdC RdD RdE RdF RdG. Conditions: each theorem's own. -/
import Derived.Test.YtmjdhfbnmmdjiaaGreatH14
set_option maxHeartbeats 8000000
set_option maxRecDepth 100000
namespace Go.Proofs.YtmjdhfbnmmdjiaaGreat
open Go.Lib renaming hid->aB
open _root_.And renaming intro->DF
open Go.RowKit.Below renaming refl->aI
open _root_.ByteArray renaming empty->dQ
open _root_.Nat renaming lt_or_ge->aao
open _root_.List renaming mem_of_getElem?->O8,eq_nil_of_length_eq_zero->fD,getElem?_append_right->kg,reverse_append->kJ
open _root_.Array renaming getElem?_eq_some_iff->aai
open Go.World renaming cell?->DI
open Go.RowKit
structure P7 (p:Pt):Prop where
 k:0<=p.k/\p.k<=14
 mn:0<=p.mn/\p.mn<=50
 m7:p.k=7->1<=p.mn
 lit:p.k=0->∃k,1<=k/\k<=4/\p.T=[⟨k,dQ,0⟩]
 T:p.k=2\/p.k=4\/p.k=5\/p.k=12\/p.k=13\/p.k=14->iC p.T=true/\pW p.T=true
 U:p.k=5\/p.k=14->iC p.U=true/\pW p.U=true
theorem P8 (p:Pt) (TA:Option Addr) (tn tc:Nat) (UA:Option Addr) (un uc:Nat) (w:World) (hT:bJ w w.heap.size TA p.T) (hU:bJ w w.heap.size UA p.U) (htn:Hid (tn=p.T.length/\un=p.U.length))
  (hs:p.T.length<=1000/\p.U.length<=1000/\(∀x∈p.T,x.s.size<=1000)/\(∀x∈p.U,x.s.size<=1000)/\p.nm.size<=1000/\p.bd.size<=1000):
  Calls Tryz.prog 41 #[yT p TA tn tc UA un uc] w (Shows (P7 p) w):=by
 obtain ⟨w1,hw1⟩:∃w1,w1=w.alloc (.cells #[.int .i64 p.k,.string p.lb,.string p.nm,.string p.bd,.int .i64 p.mn,.int .i64 p.num,.slice TA tn tc,.slice UA un uc] 33):=⟨_,rfl⟩;have hb1:Below w.heap.size w w1:=by rw [hw1];exact au (aI _ _) _
 have hbl:w1.heap[w.heap.size]?=some (.cells #[.int .i64 p.k,.string p.lb,.string p.nm,.string p.bd,.int .i64 p.mn,.int .i64 p.num,.slice TA tn tc,.slice UA un uc] 33 (0,0)):=by rw [hw1];exact heap_alloc_new _ _
 have HB:=aB hb1;have pQ:=aB (DF hT (DF hU hs));have HW:=aB (fun v=>iw p.nm v (by have:=hs.2.2.2.2.1;omega));have HG:=aB (fun v=>mU p.nm v (by have:=hs.2.2.2.2.1;omega));have bM:=aB (fun v=>iw p.bd v (by have:=hs.2.2.2.2.2;omega));have Sw:=aB (fun v (hv:Below w.heap.size w v)=>J_ p TA tn tc UA un uc v ((pQ.out.1.below hv).more hv.size) (aB htn.out.1));unfold yT at Sw;have ZJ:=aB (fun v (hv:Below w.heap.size w v)=>CU TA tc p.T v ((pQ.out.1.below hv).more hv.size) (by have:=pQ.out.2.2.1;omega) (fun x hx=>by have:=pQ.out.2.2.2.2.1 x hx;omega));have HPu:=aB (fun v (hv:Below w.heap.size w v)=>CU UA uc p.U v ((pQ.out.2.1.below hv).more hv.size) (by have:=pQ.out.2.2.2.1;omega) (fun x hx=>by have:=pQ.out.2.2.2.2.2.1 x hx;omega));rw [<-htn.out.1] at ZJ;rw [<-htn.out.2] at HPu;have HNm:=aB (fun v=>P5 p.nm v (by have:=pQ.out.2.2.2.2.2.2.1;omega));have HOp:=aB (fun v=>WW p.nm v)
 have HC:Hid (∀v,Below w1.heap.size w1 v->v.cell? ⟨w.heap.size,0,none⟩=some (.int .i64 p.k)/\v.cell? ⟨w.heap.size,1,none⟩=some (.string p.lb)/\v.cell? ⟨w.heap.size,2,none⟩=some (.string p.nm)/\v.cell? ⟨w.heap.size,3,none⟩=some (.string p.bd)/\
   v.cell? ⟨w.heap.size,4,none⟩=some (.int .i64 p.mn)/\v.cell? ⟨w.heap.size,5,none⟩=some (.int .i64 p.num)/\v.cell? ⟨w.heap.size,6,none⟩=some (.slice TA tn tc)/\v.cell? ⟨w.heap.size,7,none⟩=some (.slice UA un uc)):=aB fun v hv=>by
  have hlt:w.heap.size<w1.heap.size:=(aai.1 hbl).1;have hb:=(hv.block _ hlt).trans hbl;simp [DI,hb]
 have HU:Hid (∀K:Int,p.k=K->(0<=K/\K<=14)->(0<=p.mn/\p.mn<=50)->(K=7->1<=p.mn)->(K=0->∃k,1<=k/\k<=4/\p.T=[⟨k,dQ,0⟩])->(K=2\/K=4\/K=5\/K=12\/K=13\/K=14->iC p.T=true/\pW p.T=true)->(K=5\/K=14->iC p.U=true/\pW p.U=true)->P7 p):=aB fun K hK h1 h2 h3 h4 h5 h6=>by
  subst hK;exact ⟨h1,h2,h3,h4,h5,h6⟩
 obtain ⟨k,hkk⟩:∃k,k=p.k:=⟨_,rfl⟩;obtain ⟨d0,d1,d2,d3,d4,d5,d6,d7⟩:=HC.out w1 (aI _ _);have HK:=aB hkk;rw [<-hkk] at d0 HC Sw hw1;obtain ⟨mn,hmn⟩:∃mn,mn=p.mn:=⟨_,rfl⟩;rw [<-hmn] at d4 HC Sw HU hw1;have HM:=aB hmn;clear hkk hmn hT hU hs hb1 hbl htn pQ;unfold yT;rw [<-HK.out,<-HM.out];go_enter Tryz.func41,Tryz.ntmps41;go_upto_region 1 with fail
 rw [<-hw1];clear hw1;obtain ⟨g,hg⟩:∃g,g=w.heap.size:=⟨_,rfl⟩;rw [<-hg] at d0 d1 d2 d3 d4 d5 d6 d7 HC ⊢;have HG0:=aB hg;clear hg;go_quiet (first|(go_at_call 57;exact Calls.quiet_of_same ((HW.out _).mono fun e w1 h=>⟨h.1,h.2.symm⟩))|(go_at_call 58;exact Calls.quiet_of_same ((HG.out _).mono fun e w1 h=>⟨h.1,h.2.symm⟩)));obtain ⟨w2,hw2⟩:∃w2,w2=w1.drewN nq:=⟨_,rfl⟩;rw [<-hw2];have HB2:Hid (Below w1.heap.size w1 w2):=aB (by rw [hw2];exact below_drewN (aI _ _) _);clear hw2 d0 d1 d2 d3 d4 d5 d6 d7;obtain ⟨d0,d1,d2,d3,d4,d5,d6,d7⟩:=HC.out w2 HB2.out;go_upto_region 4 with (go_at_call 57;refine (bM.out _).mono ?_;rintro e w3 ⟨rfl,rfl⟩)
 all_goals
  obtain ⟨SS,hSS⟩:∃SS:World->Prop,SS=fun v=>v.cell? ⟨g,6,none⟩=some (.slice TA tn tc)/\v.cell? ⟨g,7,none⟩=some (.slice UA un uc):=⟨_,rfl⟩;have HS:Hid (∀v,Below w1.heap.size w1 v->SS v):=aB fun v hv=>by rw [hSS];exact ⟨(HC.out v hv).2.2.2.2.2.2.1,(HC.out v hv).2.2.2.2.2.2.2⟩
  obtain ⟨wd,hwd⟩:∃wd,wd=w2.drew:=⟨_,rfl⟩;have ZK:Hid (Below w1.heap.size w1 wd):=aB (by rw [hwd];exact HB2.out.drew);have hsd:SS wd:=HS.out _ ZK.out;refine aG (S:=SS) [] (by kernel_rfl) (by rw [<-hwd];exact hsd) (fun hHeld=>?_);rw [<-hwd] at hHeld ⊢;clear hwd;refine aM 0 [1,2,5,6,7] (some 28) rfl rfl ?_;refine aM 1 [2,5,6,7] (some 29) rfl rfl ?_;refine aM 3 [4,5,6,7] (some 31) rfl rfl ?_;refine aM 4 [5,6,7] (some 32) rfl rfl ?_;refine aY 2 (some 30) rfl rfl (by kernel_rfl) (by rfl) (by kernel_rfl) (ZJ.out _ (ah HB.out ZK.out)) ?_;rintro e w3 ⟨bt,rfl,qt,hb3⟩;have HQt:=aB qt;have HB3:Hid (Below w1.heap.size w1 w3):=aB (ah ZK.out hb3);clear qt hb3;refine ⟨_,rfl,HS.out _ HB3.out,?_⟩;refine aA ?_;refine aY 5 (some 33) rfl rfl (by kernel_rfl) (by rfl) (by kernel_rfl) (HPu.out _ (ah HB.out HB3.out)) ?_;rintro e w4 ⟨bu,rfl,qu,hb4⟩;have HQu:=aB qu;have jS:Hid (Below w1.heap.size w1 w4):=aB (ah HB3.out hb4);clear qu hb4;refine ⟨_,rfl,HS.out _ jS.out,?_⟩;refine aA ?_;refine aM 6 [7] (some 7) rfl rfl (hS:=HS.out _ jS.out) ?_;refine aM 7 [] (some 8) rfl rfl (hS:=HS.out _ jS.out) ?_;refine bB (by kernel_rfl) ?_ _;clear hSS HS hHeld hsd d0 d1 d2 d3 d4 d5 d6 d7;obtain ⟨d0,d1,d2,d3,d4,d5,d6,d7⟩:=HC.out w4 jS.out;go_upto_region 5 with fail
  go_quiet (fail);obtain ⟨w5,uM⟩:∃w5,w5=w4.drewN nq:=⟨_,rfl⟩;rw [<-uM];have qB:Hid (Below w1.heap.size w1 w5):=aB (by rw [uM];exact below_drewN jS.out _);clear uM d0 d1 d2 d3 d4 d5 d6 d7;obtain ⟨d0,d1,d2,d3,d4,d5,d6,d7⟩:=HC.out w5 qB.out;have HE:Hid (Below w.heap.size w w5):=aB (ah HB.out qB.out);by_cases hkr:0<=k/\k<=14
  ·have hcs:k=0\/k=1\/k=2\/k=3\/k=4\/k=5\/k=6\/k=7\/k=8\/k=9\/k=10\/k=11\/k=12\/k=13\/k=14:=by omega
   clear hkr;rcases hcs with rfl|rfl|rfl|rfl|rfl|rfl|rfl|rfl|rfl|rfl|rfl|rfl|rfl|rfl|rfl
   all_goals
    go_wp2_with (first
     |(go_at_call 60;(have hq:=Sw.out _ HE.out);(rw [(‹mn=0›:mn=0),(‹un=0›:un=0)] at hq);refine hq.mono ?_;clear hq;rintro e w6 ⟨bl,rfl,ql,hb6⟩;have HE6:=aB (ah HE.out hb6);have HQl:=aB ql;clear hb6 ql)
     |(go_at_call 61;refine (HNm.out _).mono ?_;rintro e w6 ⟨bl,rfl,ql,hb6⟩;have HE6:=aB (ah HE.out hb6);have HQl:=aB ql;clear hb6 ql)
     |(go_at_call 62;refine (HOp.out _).mono ?_;rintro e w6 ⟨bl,rfl,ql,hb6⟩;have HE6:=aB (ah HE.out hb6);have HQl:=aB ql;clear hb6 ql))
   all_goals
    go_ret
    first
    |exact Shows.no (by first|exact HE6.out|exact HE.out)
    |exact Shows.yes (fun hh=>HU.out _ HK.out.symm (by omega) (by omega) (by omega) (fun h=>by first|omega|exact HQl.out hh) (fun h=>by first|omega|exact HQt.out (by assumption)|exact HQt.out hh) (fun h=>by first|omega|exact HQu.out (by assumption)|exact HQu.out hh)) (by first|exact HE6.out|exact HE.out)
  ·have n0:(k==0)=false:=by simp;omega
   have n1:(k==1)=false:=by simp;omega
   have n2:(k==2)=false:=by simp;omega
   have n3:(k==3)=false:=by simp;omega
   have n4:(k==4)=false:=by simp;omega
   have n5:(k==5)=false:=by simp;omega
   have n6:(k==6)=false:=by simp;omega
   have n7:(k==7)=false:=by simp;omega
   have n8:(k==8)=false:=by simp;omega
   have n9:(k==9)=false:=by simp;omega
   have n10:(k==10)=false:=by simp;omega
   have n11:(k==11)=false:=by simp;omega
   have n12:(k==12)=false:=by simp;omega
   have n13:(k==13)=false:=by simp;omega
   have n14:(k==14)=false:=by simp;omega
   have m0:(k !=0)=true:=by simp;omega
   have m14:(k !=14)=true:=by simp;omega
   clear hkr;go_wp2_with fail
   all_goals
    go_ret;exact Shows.no HE.out
def Sy (l:List Int):Prop:=∀(l0:List Int) (a:Int),l=l0++[a]->0<=a/\a<=51/\∀v∈l0,1<=v/\v<=51
theorem Fj {l:List Int} {a:Int} (h:∀v∈l,1<=v/\v<=51) (h0:0<=a) (h1:a<=51):Sy (l++[a]):=by
 intro l0 b e;obtain ⟨rfl,hb⟩:=List.append_inj' e rfl;simp at hb;subst hb;exact ⟨h0,h1,h⟩
theorem Ic (Y:Nat->Prop) (A:Option Addr) (c:Nat) (es:List Pt) (w:World) (hx:kF w Y A es) (hl:es.length<=1000000) (hok:dN es):
  Calls Tryz.prog 42 #[.slice A es.length c] w (Shows True w):=by
 have H:=aB (DF hx hok);clear hx hok;have hown0:=gL 3 1 encI w;have hb0:=au (aI w.heap.size w) (.cells #[] 3);go_enter Tryz.func42,Tryz.ntmps42;go_wp2_with fail
 go_loopw [3,4] (fun o3 k4 wr=>∃(k:Nat) (A':Option Addr) (cap':Nat) (l:List Int),o3= .slice A' l.length cap'/\k4= .int .i64 k/\k<=es.length/\l.length<=100/\Hid (∀v∈l,1<=v/\v<=51)/\
   eX wr w.heap.size A' cap' l/\Below w.heap.size w wr)
  (fun _ k4 _=>es.length-(Lib.intOf k4).toNat)
 case atStart=>exact ⟨0,_,_,[],rfl,rfl,Nat.zero_le _,by simp,aB (by simp),hown0,hb0⟩
 case round=>
  obtain ⟨k,A',cap',l,rfl,rfl,hk,ae7,hpos,hown,hbel⟩:=hrel;by_cases hp:k<es.length
  ·obtain ⟨x,hx⟩:=aJ hp
   have hxo:=H.out.2 x (O8 hx);have uf:=nJ hxo.2;obtain ⟨eb,eo,rfl,hb,hy,⟨TA,tc,UA,uc,_,_,c0,c1,c2,c3,c4,c5,c6,c7⟩,_⟩:=(H.out.1.fr (Fr.below hbel:Fr Y w wr) fun q hq=>.inl hq) k x hx;have HM:=aB (fun v=>u_ x TA x.T.length tc UA x.U.length uc v hxo.1 hxo.2);unfold yT at HM;obtain ⟨M,hM⟩:∃M,M=aL x:=⟨_,rfl⟩;rw [<-hM] at HM uf;clear hx hM hxo;by_cases yJ:l.length=100
   ·have Gq:(100:Int)<=(l.length:Int):=by omega
    clear yJ;go_wp2_with fail;go_ret;exact Shows.no hbel
   ·have Gq:¬(100:Int)<=(l.length:Int):=by omega
    have ae8:l.length<100:=by omega
    clear yJ;go_wp2_with fail;refine (HM.out _).mono ?_;rintro e w1 ⟨rfl,hbx⟩;have hown1:=ay.below hown hbx (Nat.le_refl _);have jD:=ah hbel hbx;have z1:=jD.size;clear c0 c1 c2 c3 c4 c5 c6 c7;go_wp2_with (at_builtin;refine sK rfl (.tmp 15) (.tmp 21) rfl w.heap.size (l:=l) rfl (ay.alloc hown1 _) (l2:=[(M:Int)]) rfl (wW _ _) (by simp;omega) (by simp;omega) ?_;intro A2 cap2 w3 hown3 hg3 _);have dH:=iB (au jD _) hg3 (fun k hk=>(ay.block hown1 k hk).1);clear hg3 hbx hown1;have hst:Hid (Sy (l++[(M:Int)])):=aB (Fj hpos.out (by omega) (by omega));obtain ⟨wo,rfl⟩:∃wo:World,wo=wr:=⟨_,rfl⟩
    go_loopw [3] (fun o3 wi=>∃(A3:Option Addr) (rH:Nat) (l3:List Int),o3= .slice A3 l3.length rH/\l3.length<=101/\Hid (Sy l3)/\eX wi w.heap.size A3 rH l3/\Below w.heap.size w wi/\
      Hid (mX l3.reverse=mX ((l++[(M:Int)]).reverse)))
     (fun o3 _=>lenOf o3)
    case atStart=>exact ⟨_,_,l++[(M:Int)],by simp,by simp;omega,hst,hown3,dH,aB rfl⟩
    case round=>
     clear hown3 dH hst;obtain ⟨A3,rH,l3,rfl,RN,hst,hown3,dH,sM⟩:=hrel;rcases Nat.eq_zero_or_pos l3.length with hz|hz
     ·have hnil:l3=[]:=fD hz
      subst hnil;go_wp2_with fail;go_roundw
      case rel=>exact ⟨k+1,A3,rH,[],rfl,by go_num,hp,by simp,aB (by simp),hown3,dH⟩
      case measure=>simp [Lib.intOf];omega
     ·obtain ⟨l0,a,hl3,hm⟩:=Cq (show l3.length=(l3.length-1)+1 by omega)
      generalize hmm:l3.length-1=m at hm;have hlen3:l3.length=m+1:=by omega
      rw [hlen3] at RN ⊢;have hread:=ay.read dK hown3;obtain ⟨b3,rfl,YI,hb3,RO,ae9⟩:=ay.form hown3 hz;obtain ⟨_,_,e3,_,c3⟩:=aS.int hread (i:=m) (n:=a) (by rw [hl3,kg (by omega)];simp [hm]);simp only [Option.some.injEq,Addr.mk.injEq,and_true] at e3;obtain ⟨rfl,rfl⟩:=e3;rw [Nat.zero_add] at c3;rw [hlen3] at RO;have hbd:=hst.out l0 a hl3;obtain ⟨ha0,ha1,hl0⟩:=hbd;have Ct:=aB hl3;have Hm:=aB hm;have Gr:=aB hlen3;have RP:=aB hl0;have hm0:=aB (show m=l0.length from hm.symm);clear hl3 hm hlen3 hmm hl0 hz hread;by_cases haz:a=0
      ·have YJ:(a==0)=true:=by simpa using haz
       have FQ:=aB haz;clear haz
       have hcut:eX wr w.heap.size (some ⟨b3,0,none⟩) rH l0:=by
        have:=ay.cut dK hown3 (k:=l0.length) (by rw [Ct.out];simp)
        rwa [Ct.out,List.take_left] at this
       cases m with
       |zero=>
        have hnil:l0=[]:=fD Hm.out;subst hnil;go_wp2_with fail;go_roundw
        case rel=>exact ⟨_,rH,[],rfl,by simp,aB (fun l0 a h=>by simp at h),hcut,dH,aB (by rw [<-sM.out,Ct.out,FQ.out];rfl)⟩
        case measure=>simp [lenOf]
       |succ j=>
        obtain ⟨l00,b,Cu,hj⟩:=Cq Hm.out;have hb:=RP.out b (by rw [Cu];simp);obtain ⟨akg,akh⟩:=hb;obtain ⟨g,hg,_,_,⟨b',hb',c4⟩,f4,hset,hgr⟩:=ay.O4 hcut (j:=j) (by rw [Hm.out];omega) (b-1);simp only [Option.some.injEq,Addr.mk.injEq,and_true] at hg;subst hg;rw [Cu,kg (by omega)] at hb';simp [hj] at hb';subst hb';have Gs:=aB Cu;have Hj:=aB hj;have YK:=aB hset;clear Cu hj hset;go_wp2_with fail;go_roundw
        case rel=>exact ⟨some ⟨b3,0,none⟩,rH,l00++[b-1],by simp [Hj.out],by simp [Hj.out];omega,aB (Fj (fun v hv=>RP.out v (by rw [Gs.out];simp [hv])) (by omega) (by omega)),by
         have h1:=YK.out;rw [Gs.out] at h1;rw [List.set_append_right _ _ (by rw [Hj.out];omega),Hj.out,Nat.sub_self] at h1;exact h1,dH.setCell YI _,aB (by rw [<-sM.out,Ct.out,FQ.out,Gs.out];simp [mX,settle])⟩
        case measure=>simp [lenOf]
      ·have YJ:(a==0)=false:=by simpa using haz
       have FQ:=aB haz;clear haz;go_wp2_with fail;go_roundw
       case rel=>exact ⟨k+1,_,rH,l3,by rw [Gr.out],by go_num,hp,by
        have h1:=EU (l.reverse) (M:Int);have h2:=sM.out;rw [Ct.out,kJ,kJ] at h2;have h3:settle l0.reverse a=settle l.reverse (M:Int):=h2;rw [yI FQ.out] at h3;rw [<-h3] at h1;have:=Gr.out;have:=Hm.out;simp at h1;omega,aB (by
        rw [Ct.out];intro v hv;rcases List.mem_append.1 hv with hv|hv
        ·exact RP.out v hv
        ·simp at hv;subst hv;have:=FQ.out;omega),hown3,dH⟩
       case measure=>simp [Lib.intOf];omega
  ·go_wp2_with fail
   go_ret;exact Shows.yes (fun _=>trivial) hbel
def U4 (es:List Pt) (p:Pt) (l:List Nat) (k:Nat):Prop:=∀(a:Nat) (x:Pt),l[k]?=some a->es[a]?=some x->((x.k=8)↔(p.k=7/\0<k))/\(p.k=10->oJ x.lb=true)/\(p.k=7->0<k->uU x.lb=true)/\(p.k≠10->¬(p.k=7/\0<k)->x.lb=dQ)/\
 ∀(j b:Nat) (y:Pt),j<k->l[j]?=some b->es[b]?=some y->x.lb≠dQ->y.lb≠x.lb
theorem AX.of {es:List Pt} {p:Pt} {l:List Nat} (hl:l.length=aL p) (h:∀k,k<l.length->U4 es p l k):AX es p l where
 len:=hl
 kind:=fun k a x hk hx=>(h k (aP hk) a x hk hx).1
 word:=fun k a x hk hx=>(h k (aP hk) a x hk hx).2.1
 tag:=fun k a x hk hx=>(h k (aP hk) a x hk hx).2.2.1
 none:=fun k a x hk hx=>(h k (aP hk) a x hk hx).2.2.2.1
 diff:=fun j k a b x y hj ha hb hx hy hne=>(h k (aP hb) b y hb hy).2.2.2.2 j a x hj ha hx hne
theorem K8 {es:List Pt}:∀(n a:Nat),∀i∈eD es n a,i<es.length
 |0,a,i,hi=>by simp [eD] at hi
 |n+1,a,i,hi=>by
  unfold eD at hi;split at hi
  ·rcases List.mem_cons.1 hi with rfl|hi
   ·assumption
   ·exact K8 n _ i hi
  ·simp at hi
theorem lbE {s:ByteArray} (h:(!s.toList.isEmpty)=false):s=dQ:=by
 rw [Bool.not_eq_false',gD,decide_eq_true_eq] at h;exact ByteArray.size_eq_zero_iff.1 h
theorem lbN {s:ByteArray} (h:oJ s=true\/uU s=true):s.toList.isEmpty=false:=by
 have hne:s.toList≠[]:=by
  rcases h with h|h
  ·exact tO (k:=6) (by decide) (by simpa [bP] using h)
  ·exact tO (k:=7) (by decide) (by simpa [bP] using h)
 cases hs:s.toList with
 |nil=>exact absurd hs hne
 |cons=>rfl
def ZL (p x:Pt) (k:Nat):Prop:=((x.k=8)↔(p.k=7/\0<k))/\(p.k=10->oJ x.lb=true)/\(p.k=7->0<k->uU x.lb=true)/\(p.k≠10->¬(p.k=7/\0<k)->x.lb=dQ)
theorem ZM {p x:Pt} {k:Nat} {k0 xk:Int} {v7 v10 v8 vk:Bool} (h0:Hid (k0=p.k)) (hx:Hid (xk=x.k)) (b7:(k0==7)=v7) (b10:(k0==10)=v10) (b8:(xk==8)=v8) (bk:decide (0<k)=vk)
  (h:(v7=true/\v10=true)\/(v10=false/\(v7&&vk)=false/\v8=false/\(!x.lb.toList.isEmpty)=false)\/(v10=false/\(v7&&vk)=true/\v8=true/\uU x.lb=true)\/(v10=true/\(v7&&vk)=false/\v8=false/\oJ x.lb=true)):Hid (ZL p x k):=by
 refine aB ?_;unfold ZL;rw [<-h0.out,<-hx.out];subst b7 b10 b8 bk;simp only [Bool.and_eq_true,Bool.and_eq_false_iff,beq_iff_eq,beq_eq_false_iff_ne,decide_eq_true_eq,decide_eq_false_iff_not] at h;rcases h with ⟨h1,h2⟩|⟨h1,h2,h3,h4⟩|⟨h1,h2,h3,h4⟩|⟨h1,h2,h3,h4⟩
 ·omega
 ·exact ⟨by omega,fun h=>by omega,fun h h5=>by omega,fun _ _=>lbE h4⟩
 ·exact ⟨by omega,fun h=>by omega,fun _ _=>h4,fun _ h5=>absurd h2 h5⟩
 ·exact ⟨by omega,fun _=>h4,fun h h5=>by omega,fun h=>by omega⟩
theorem P9 {es:List Pt} {p x:Pt} {l:List Nat} {k a:Nat} (H:Hid (l[k]?=some a/\es[a]?=some x)) (hc:Hid (ZL p x k)) (hd:∀(j b:Nat) (y:Pt),j<k->l[j]?=some b->es[b]?=some y->x.lb≠dQ->y.lb≠x.lb):U4 es p l k:=by
 intro a2 x2 ha hx;obtain ⟨h1,h2⟩:=H.out;rw [h1] at ha;injection ha with ha
 subst ha;rw [h2] at hx;injection hx with hx
 subst hx;exact ⟨hc.out.1,hc.out.2.1,hc.out.2.2.1,hc.out.2.2.2,hd⟩
theorem FZ (Y:Nat->Prop) (A:Option Addr) (c:Nat) (es:List Pt) (i:Nat) (p:Pt) (w:World) (hx:kF w Y A es) (hl:es.length<=1000000) (hok:dN es) (hp:es[i]?=some p) (hs:∀x∈es,x.lb.size<=1000000):
  Calls Tryz.prog 43 #[.slice A es.length c,.int .i64 (i:Int)] w (Shows (AX es p (eD es (aL p) (i+1))) w):=by
 have hi:=aP hp;have H:=aB (DF hx (DF hok hs));have hxo:=hok p (O8 hp);have uf:=nJ hxo.2;have hKd:=lX Y A c es i p w hx hl hok hp;obtain ⟨eb,eo,rfl,hb,hy,⟨TA,tc,UA,uc,_,_,c0,c1,c2,c3,c4,c5,c6,c7⟩,_⟩:=hx i p hp;have HM:=aB (fun v=>u_ p TA p.T.length tc UA p.U.length uc v hxo.1 hxo.2);have HC:=aB (fun v (hv:Below w.heap.size w v)=>DF ((hv.cell (p:=⟨eb,eo+i*8,none⟩) hb).trans c0) (DF ((hv.cell (p:=⟨eb,eo+i*8+1,none⟩) hb).trans c1) (DF ((hv.cell (p:=⟨eb,eo+i*8+2,none⟩) hb).trans c2) (DF ((hv.cell (p:=⟨eb,eo+i*8+3,none⟩) hb).trans c3) (DF ((hv.cell (p:=⟨eb,eo+i*8+4,none⟩) hb).trans c4) (DF ((hv.cell (p:=⟨eb,eo+i*8+5,none⟩) hb).trans c5) (DF ((hv.cell (p:=⟨eb,eo+i*8+6,none⟩) hb).trans c6) ((hv.cell (p:=⟨eb,eo+i*8+7,none⟩) hb).trans c7))))))));unfold yT at HM;have Ie:=aB hKd;have h0':(0:Int)<=(i:Int):=by omega
 have h1':(i:Int)<(es.length:Int):=by omega
 obtain ⟨l,hll⟩:∃l,l=eD es (aL p) (i+1):=⟨_,rfl⟩;rw [<-hll] at Ie ⊢;have Sw:Hid (∀a∈l,a<es.length):=aB (by rw [hll];exact K8 _ _);obtain ⟨M,hM⟩:∃M,M=aL p:=⟨_,rfl⟩;rw [<-hM] at HM;have HF:Hid (l.length=M->(∀k,k<l.length->U4 es p l k)->AX es p l):=aB fun h1 h2=>AX.of (by rw [h1,hM]) h2;have Hp:=aB hp;rw [<-hM] at uf;obtain ⟨k0,hk0⟩:∃k0,k0=p.k:=⟨_,rfl⟩;rw [<-hk0] at HC HM;have HK0:=aB hk0;clear hx hok hxo hp hM c0 c1 c2 c3 c4 c5 c6 c7 hy hKd hll hs hk0;go_enter Tryz.func43,Tryz.ntmps43;go_wp2_with fail;refine Ie.out.mono ?_;rintro e w1 ⟨A1,c1,rfl,hown1,hb1⟩;have HR1:=aB (ay.read dK hown1);have HB1:=aB hb1;obtain ⟨d0,d1,d2,d3,d4,d5,d6,d7⟩:=HC.out w1 hb1;have hal:(cB l).length=l.length:=by simp [cB]
 rw [hal];clear hown1 hb1 hal;by_cases MG:l.length=M
 rotate_left
 ·have hlb:((l.length:Int) !=(M:Int))=true:=by simp;omega
  clear MG;go_wp2_with fail;refine (HM.out _).mono ?_;rintro e w2 ⟨rfl,hb2⟩;have HB2:=aB (ah HB1.out hb2);clear hb2 d0 d1 d2 d3 d4 d5 d6 d7;go_wp2_with fail;go_ret;exact Shows.no HB2.out
 have hlb:((l.length:Int) !=(M:Int))=false:=by simp;omega
 have YL:=aB MG;have aqs:l.length<=51:=by omega
 clear MG;go_wp2_with fail;refine (HM.out _).mono ?_;rintro e w2 ⟨rfl,hb2⟩;have HB2:Hid (Below w1.heap.size w1 w2):=aB hb2;clear hb2 d0 d1 d2 d3 d4 d5 d6 d7;go_wp2_with fail;go_loopw [6] (fun o6 wr=>∃k:Nat,o6= .int .i64 k/\k<=l.length/\Hid (Below w1.heap.size w1 wr/\∀j,j<k->U4 es p l j)) (fun o6 _=>l.length-(Lib.intOf o6).toNat)
 case atStart=>exact ⟨0,rfl,by omega,aB ⟨HB2.out,fun j hj=>by omega⟩⟩
 case round=>
  obtain ⟨k,rfl,hk,HI⟩:=hrel;by_cases hlt:k<l.length
  rotate_left
  ·go_wp2_with fail
   go_ret;exact Shows.yes (fun _=>HF.out YL.out fun j hj=>HI.out.2 j (by omega)) (ah HB1.out HI.out.1)
  obtain ⟨a,ha⟩:=aJ hlt;have hae:=Sw.out a (O8 ha);obtain ⟨x,hx⟩:=aJ hae;have hbel:Below w.heap.size w wr:=ah HB1.out HI.out.1;have hread:=aS.below HR1.out HI.out.1;obtain ⟨gl,go,hA1,hgl,cl⟩:=aS.int hread (i:=k) (n:=(a:Int)) (by simp [cB,ha]);subst hA1;obtain ⟨eb2,eo2,he2,hb2,hy2,⟨Sz,SB,yX,yY,_,_,f0,f1,f2,f3,f4,f5,f6,f7⟩,_⟩:=(H.out.1.fr (Fr.below hbel:Fr Y w wr) fun q hq=>.inl hq) a x hx;injection he2 with he2
  injection he2 with e1 e2
  subst e1 e2;obtain ⟨d0,d1,d2,d3,d4,d5,d6,d7⟩:=HC.out wr hbel;have hsz:=H.out.2.2 x (O8 hx);go_upto_region 8 with fail
  obtain ⟨w3,hw3⟩:∃w3,w3=wr.alloc (.cells #[.int .i64 x.k,.string x.lb,.string x.nm,.string x.bd,.int .i64 x.mn,.int .i64 x.num,.slice Sz x.T.length SB,.slice yX x.U.length yY] 33):=⟨_,rfl⟩;have HB3:Hid (Below w1.heap.size w1 w3):=aB (by rw [hw3];exact au HI.out.1 _);have U5:w3.heap[wr.heap.size]?=some (.cells #[.int .i64 x.k,.string x.lb,.string x.nm,.string x.bd,.int .i64 x.mn,.int .i64 x.num,.slice Sz x.T.length SB,.slice yX x.U.length yY] 33 (0,0)):=by rw [hw3];exact heap_alloc_new _ _
  rw [<-hw3];clear hw3 d0 d1 d2 d3 d4 d5 d6 d7 f0 f1 f2 f3 f4 f5 f6 f7 cl;obtain ⟨d0,_,_,_,_,_,_,_⟩:=HC.out w3 (ah HB1.out HB3.out);have g0:w3.cell? ⟨wr.heap.size,0,none⟩=some (.int .i64 x.k):=by simp [DI,U5]
  have g1:w3.cell? ⟨wr.heap.size,1,none⟩=some (.string x.lb):=by simp [DI,U5]
  have HX:=aB (DF ha hx);have ZN:=aB U5;obtain ⟨xk,hxk⟩:∃xk,xk=x.k:=⟨_,rfl⟩;rw [<-hxk] at g0;have HXK:=aB hxk;obtain ⟨gx,hgx⟩:∃gx,gx=wr.heap.size:=⟨_,rfl⟩;rw [<-hgx] at g0 g1 ZN ⊢;clear ha hx hxk hgx U5 hread hbel;have HW:=aB (fun v=>iw x.lb v (by omega));have HG:=aB (fun v=>mU x.lb v (by omega));clear hsz
  cases bk:decide (0<k)
  all_goals
   cases b7:(k0==7)
   all_goals
    cases b10:(k0==10)
    all_goals
     cases b8:(xk==8)
     all_goals
      go_upto_region 14 with (first
       |(go_at_call 57;refine (HW.out _).mono ?_;rintro e w4 ⟨rfl,rfl⟩)
       |(go_at_call 58;refine (HG.out _).mono ?_;rintro e w4 ⟨rfl,rfl⟩))
  all_goals first
  |(go_ret
    exact Shows.no (ah HB1.out HB3.out))
  |(have he0:(!x.lb.toList.isEmpty)=false:=by assumption
    have yu:=ZM HK0 HXK b7 b10 b8 bk (.inr (.inl ⟨rfl,rfl,rfl,he0⟩));clear b7 b10 b8 bk g0 d0;go_wp2_with fail;go_loopw [10] (fun vJ wi=>∃j:Nat,vJ= .int .i64 j/\j<=k/\Hid (Below w3.heap.size w3 wi)) (fun vJ _=>k-(Lib.intOf vJ).toNat)
    case atStart=>exact ⟨0,rfl,by omega,aB (aI _ _)⟩
    case round=>
     obtain ⟨j,rfl,hj,HJ⟩:=hrel;have g1i:wr.cell? ⟨gx,1,none⟩=some (.string x.lb):=(HJ.out.cell (p:=⟨gx,1,none⟩) (aai.1 ZN.out).1).trans g1;by_cases hjl:j<k
     ·go_wp2_with fail
      go_quiet (fail);go_wp2_with fail;go_roundw
      case rel=>exact ⟨j+1,by go_num,by omega,aB (below_drewN HJ.out _)⟩
      case measure=>simp [Lib.intOf];omega
     ·go_wp2_with fail
      go_roundw
      case rel=>exact ⟨k+1,by go_num,by omega,aB ⟨ah HB3.out HJ.out,fun m hm=>by
       rcases aao m k with h|h
       ·exact HI.out.2 m h
       ·have:m=k:=by omega
        subst this;exact P9 HX yu (fun _ _ _ _ _ _ h=>absurd (lbE he0) h)⟩⟩
      case measure=>simp [Lib.intOf];omega)
  |(have hne:x.lb.toList.isEmpty=false:=lbN (by first|exact .inl (by assumption)|exact .inr (by assumption))
    have yu:=ZM HK0 HXK b7 b10 b8 bk (by first|exact .inl ⟨rfl,rfl⟩|exact .inr (.inr (.inl ⟨rfl,rfl,rfl,by assumption⟩))|exact .inr (.inr (.inr ⟨rfl,rfl,rfl,by assumption⟩)));clear b7 b10 b8 bk g0 d0;go_wp2_with fail;go_loopw [10] (fun vJ wi=>∃j:Nat,vJ= .int .i64 j/\j<=k/\Hid (Below w3.heap.size w3 wi/\∀(m b:Nat) (y:Pt),m<j->l[m]?=some b->es[b]?=some y->x.lb≠dQ->y.lb≠x.lb)) (fun vJ _=>k-(Lib.intOf vJ).toNat)
    case atStart=>exact ⟨0,rfl,by omega,aB ⟨aI _ _,fun m b y hm=>by omega⟩⟩
    case round=>
     obtain ⟨j,rfl,hj,HJ⟩:=hrel;have g1i:wr.cell? ⟨gx,1,none⟩=some (.string x.lb):=(HJ.out.1.cell (p:=⟨gx,1,none⟩) (aai.1 ZN.out).1).trans g1;by_cases hjl:j<k
     ·have ak3:j<l.length:=by omega
      obtain ⟨b,hb⟩:=aJ ak3;have hbe:=Sw.out b (O8 hb);obtain ⟨y,hy⟩:=aJ hbe;have hbi:Below w1.heap.size w1 wr:=ah HB3.out HJ.out.1;have U6:=aS.below HR1.out hbi;obtain ⟨gl2,go2,hA2,akS,cl2⟩:=aS.int U6 (i:=j) (n:=(b:Int)) (by simp [cB,hb]);injection hA2 with hA2
      injection hA2 with q1 q2
      subst q1 q2;obtain ⟨eb3,eo3,P_,hb3,hy3,⟨TA3,tc3,UA3,uc3,_,_,q0,q1,q2,q3,q4,q5,q6,q7⟩,_⟩:=(H.out.1.fr (Fr.below (ah HB1.out hbi):Fr Y w wr) fun q hq=>.inl hq) b y hy;injection P_ with P_
      injection P_ with e1 e2
      subst e1 e2;have HY:=aB (DF hb hy);clear hb hy hbi U6
      cases hq:(y.lb.toList==x.lb.toList)
      ·go_wp2_with fail
       go_quiet (fail);go_wp2_with fail;go_roundw
       case rel=>exact ⟨j+1,by go_num,by omega,aB ⟨below_drewN HJ.out.1 _,fun m b2 y2 hm h1 h2 h3=>by
        rcases aao m j with h|h
        ·exact HJ.out.2 m b2 y2 h h1 h2 h3
        ·have:m=j:=by omega
         subst this;rw [HY.out.1] at h1;injection h1 with h1
         subst h1;rw [HY.out.2] at h2;injection h2 with h2
         subst h2;intro e;rw [e] at hq;simp at hq⟩⟩
       case measure=>simp [Lib.intOf];omega
      ·go_wp2_with fail
       go_quiet (fail);go_wp2_with fail;go_ret;exact Shows.no (ah HB1.out (ah HB3.out (below_drewN HJ.out.1 _)))
     ·go_wp2_with fail
      go_roundw
      case rel=>exact ⟨k+1,by go_num,by omega,aB ⟨ah HB3.out HJ.out.1,fun m hm=>by
       rcases aao m k with h|h
       ·exact HI.out.2 m h
       ·have:m=k:=by omega
        subst this;exact P9 HX yu (fun m2 b2 y2 hm2 h1 h2 h3=>HJ.out.2 m2 b2 y2 (by omega) h1 h2 h3)⟩⟩
      case measure=>simp [Lib.intOf];omega)
structure ad6 (x:Pt):Prop where
 lb:x.lb.size<=100
 nm:x.nm.size<=200
 bd:x.bd.size<=100
 T:x.T.length<=60
 U:x.U.length<=60
 nT:∀y∈x.T,y.s.size<=100
 nU:∀y∈x.U,y.s.size<=100
def Qa (n:Nat) (es:List Pt):Prop:=es.length<=n/\∀x∈es,ad6 x
theorem kH {α:Type} {P:α->Prop} {l:List α} (h:∀j y,j<l.length->l[j]?=some y->P y):∀y∈l,P y:=fun y hy=>by
 obtain ⟨j,hj⟩:=List.getElem?_of_mem hy;exact h j y (aP hj) hj
theorem SC (Y:Nat->Prop) (A:Option Addr) (c n:Nat) (es:List Pt) (w:World) (hx:kF w Y A es) (hl:es.length<=9223372036854775807) (hn:n<=1000):
  Calls Tryz.prog 28 #[.slice A es.length c,.int .i64 (n:Int)] w (Shows (Qa n es) w):=by
 have H:=aB hx;clear hx;go_enter Tryz.func28,Tryz.ntmps28;go_wp2_with fail;go_loopw [5] (fun o5 wr=>∃k:Nat,o5= .int .i64 k/\k<=n/\k<=es.length/\Hid (wr=w/\∀j y,j<k->es[j]?=some y->ad6 y)) (fun o5 _=>es.length-(Lib.intOf o5).toNat)
 case atStart=>exact ⟨0,rfl,by omega,by omega,aB ⟨rfl,fun j y hj=>by omega⟩⟩
 case round=>
  obtain ⟨k,rfl,hkn,hk,HI⟩:=hrel;obtain ⟨hwr,hF⟩:=HI.out;have HFF:=aB hF;subst hwr;clear hF HI;by_cases hlt:k<es.length
  rotate_left
  ·have hke:k=es.length:=by omega
   have HQ:Hid (Qa n es):=aB ⟨by omega,kH fun j y hj=>HFF.out j y (by omega)⟩;clear hke;go_wp2_with fail;go_ret;exact Shows.yes (fun _=>HQ.out) (aI _ _)
  obtain ⟨x,hx⟩:=aJ hlt;obtain ⟨eb,eo,rfl,hb,hy,⟨TA,tc,UA,uc,hT,hU,c0,c1,c2,c3,c4,c5,c6,c7⟩,_⟩:=H.out k x hx;have HX:=aB hx;have HT:=aB hT.ty.eY;have HU:=aB hU.ty.eY;obtain ⟨tn,htn⟩:∃tn,tn=x.T.length:=⟨_,rfl⟩;obtain ⟨un,hun⟩:∃un,un=x.U.length:=⟨_,rfl⟩;rw [<-htn] at c6;rw [<-hun] at c7;have HTN:=aB htn;have HUN:=aB hun;obtain ⟨s1,hs1⟩:∃s1,s1=x.lb:=⟨_,rfl⟩;obtain ⟨s2,hs2⟩:∃s2,s2=x.nm:=⟨_,rfl⟩;obtain ⟨s3,hs3⟩:∃s3,s3=x.bd:=⟨_,rfl⟩;rw [<-hs1] at c1;rw [<-hs2] at c2;rw [<-hs3] at c3;have HS:=aB (DF hs1 (DF hs2 hs3));clear hx hT hU hy htn hun hs1 hs2 hs3 c0 c4 c5;by_cases hkn2:k=n
  ·have ak5:((k:Int)==(n:Int))=true:=by simp;omega
   clear hkn2;go_wp2_with fail;go_ret;exact Shows.no (aI _ _)
  have ak5:((k:Int)==(n:Int))=false:=by simp;omega
  go_upto_region 6 with fail
  all_goals first
  |(go_ret
    exact Shows.no (aI _ _))
  |skip
  have HZ:Hid (s1.size<=100/\s2.size<=200/\s3.size<=100/\tn<=60/\un<=60):=aB (by omega);have aoc:tn<=60:=HZ.out.2.2.2.1;have aod:un<=60:=HZ.out.2.2.2.2;go_wp2_with fail;go_loopw [6] (fun o6 wi=>∃j:Nat,o6= .int .i64 j/\j<=tn/\Hid (wi=wr/\∀m y,m<j->x.T[m]?=some y->y.s.size<=100)) (fun o6 _=>tn-(Lib.intOf o6).toNat)
  case atStart=>exact ⟨0,rfl,by omega,aB ⟨rfl,fun j y hj=>by omega⟩⟩
  case round=>
   obtain ⟨j,rfl,hj,HJ⟩:=hrel;obtain ⟨hwi,hF⟩:=HJ.out;have HJF:=aB hF;subst hwi;clear hF HJ;by_cases hjt:j<tn
   ·obtain ⟨y,hy⟩:=aJ (show j<x.T.length by rw [<-HTN.out];exact hjt)
    obtain ⟨bt,ot,rfl,hbt,cx0,cx1,cx2⟩:=HT.out.at_ hy;have HY:=aB hy;clear hy cx0 cx2;by_cases hsz:y.s.size<=100
    ·have K_:¬(100:Int)<(y.s.size:Int):=by omega
     have HSZ:=aB hsz;clear hsz;go_wp2_with fail;go_roundw
     case rel=>exact ⟨j+1,by go_num,by omega,aB ⟨by trivial,fun m y2 hm hy2=>by
      rcases aao m j with h|h
      ·exact HJF.out m y2 h hy2
      ·have:m=j:=by omega
       subst this;rw [HY.out] at hy2;injection hy2 with hy2
       subst hy2;exact HSZ.out⟩⟩
     case measure=>simp [Lib.intOf];omega
    ·have K_:(100:Int)<(y.s.size:Int):=by omega
     clear hsz;go_wp2_with fail;go_ret;exact Shows.no (aI _ _)
   have ZO:j=tn:=by omega
   have HQT:Hid (∀y∈x.T,y.s.size<=100):=aB (kH fun m y hm=>HJF.out m y (by rw [ZO,HTN.out];exact hm));clear ZO;go_wp2_with fail;go_loopw [7] (fun o7 wi=>∃j:Nat,o7= .int .i64 j/\j<=un/\Hid (wi=wr/\∀m y,m<j->x.U[m]?=some y->y.s.size<=100)) (fun o7 _=>un-(Lib.intOf o7).toNat)
   case atStart=>exact ⟨0,rfl,by omega,aB ⟨rfl,fun j y hj=>by omega⟩⟩
   case round=>
    obtain ⟨j2,rfl,hj2,HJ⟩:=hrel;obtain ⟨hwi,hF⟩:=HJ.out;have HUF:=aB hF;subst hwi;clear hF HJ;by_cases ak8:j2<un
    ·obtain ⟨y,hy⟩:=aJ (show j2<x.U.length by rw [<-HUN.out];exact ak8)
     obtain ⟨bt,ot,rfl,hbt,cx0,cx1,cx2⟩:=HU.out.at_ hy;have HY:=aB hy;clear hy cx0 cx2;by_cases hsz:y.s.size<=100
     ·have K_:¬(100:Int)<(y.s.size:Int):=by omega
      have HSZ:=aB hsz;clear hsz;go_wp2_with fail;go_roundw
      case rel=>exact ⟨j2+1,by go_num,by omega,aB ⟨by trivial,fun m y2 hm hy2=>by
       rcases aao m j2 with h|h
       ·exact HUF.out m y2 h hy2
       ·have:m=j2:=by omega
        subst this;rw [HY.out] at hy2;injection hy2 with hy2
        subst hy2;exact HSZ.out⟩⟩
      case measure=>simp [Lib.intOf];omega
     ·have K_:(100:Int)<(y.s.size:Int):=by omega
      clear hsz;go_wp2_with fail;go_ret;exact Shows.no (aI _ _)
    have ZO:j2=un:=by omega
    have HQU:Hid (∀y∈x.U,y.s.size<=100):=aB (kH fun m y hm=>HUF.out m y (by rw [ZO,HUN.out];exact hm));clear ZO;go_wp2_with fail;go_roundw
    case rel=>exact ⟨k+1,by go_num,by omega,by omega,aB ⟨by trivial,fun m y hm hy2=>by
     rcases aao m k with h|h
     ·exact HFF.out m y h hy2
     ·have:m=k:=by omega
      subst this;rw [HX.out] at hy2;injection hy2 with hy2
      subst hy2;obtain ⟨z1,z2,z3,z4,z5⟩:=HZ.out;obtain ⟨e1,e2,e3⟩:=HS.out;exact ⟨by rw [<-e1];exact z1,by rw [<-e2];exact z2,by rw [<-e3];exact z3,by rw [<-HTN.out];exact z4,by rw [<-HUN.out];exact z5,HQT.out,HQU.out⟩⟩⟩
    case measure=>simp [Lib.intOf];omega
structure vg (es:List Pt):Prop where
 ne:es≠[]
 root:∀p,es[0]?=some p->p.lb=dQ/\p.k≠8
 uses:∀x∈es,P7 x
 fin:lI es 1 0=es.length
 lab:∀(i:Nat) (p:Pt),es[i]?=some p->AX es p (eD es (aL p) (i+1))
theorem M0 (Y:Nat->Prop) (A:Option Addr) (c:Nat) (es:List Pt) (w:World) (hx:kF w Y A es) (hf:Qa 1000 es):
  Calls Tryz.prog 29 #[.slice A es.length c] w (Shows (vg es) w):=by
 have hl:=hf.1;have H:=aB (DF hx hf.2)
 cases hes:es with
 |nil=>
  go_enter Tryz.func29,Tryz.ntmps29;go_wp2_with fail;go_ret
  exact Shows.no (aI _ _)
 |cons p0 et=>
 rw [<-hes];have hp0:es[0]?=some p0:=by rw [hes];rfl
 have hpos:0<es.length:=by rw [hes];simp
 have hne:es≠[]:=by rw [hes];simp
 have hlz:((es.length:Int)==0)=false:=by simp;omega
 have fV:=aB hp0;obtain ⟨eb,eo,rfl,hb,hy,⟨TA,tc,UA,uc,hT,hU,c0,c1,c2,c3,c4,c5,c6,c7⟩,_⟩:=hx 0 p0 hp0;rw [Nat.zero_mul,Nat.add_zero] at c0 c1;clear hx hf hp0 hes hT hU c2 c3 c4 c5 c6 c7;have hl':¬(10000:Int)<(es.length:Int):=by omega
 go_enter Tryz.func29,Tryz.ntmps29
 cases he:p0.lb.toList.isEmpty
 ·go_wp2_with fail
  go_ret;exact Shows.no (aI _ _)
 cases h8:(p0.k==8)
 rotate_left
 ·go_wp2_with fail
  go_ret;exact Shows.no (aI _ _)
 have HR:Hid (∀p,es[0]?=some p->p.lb=dQ/\p.k≠8):=aB fun p hp=>by
  rw [fV.out] at hp;injection hp with hp
  subst hp;exact ⟨lbE (by rw [he];rfl),by simpa using h8⟩
 go_upto_region 3 with fail
 clear he h8 c0 c1 hy;go_wp2_with fail;go_loopw [3] (fun o3 wr=>∃k:Nat,o3= .int .i64 k/\k<=es.length/\Hid (Below w.heap.size w wr/\∀m y,m<k->es[m]?=some y->P7 y)) (fun o3 _=>es.length-(Lib.intOf o3).toNat)
 case atStart=>exact ⟨0,rfl,by omega,aB ⟨aI _ _,fun m y hm=>by omega⟩⟩
 case round=>
  obtain ⟨k,rfl,hk,HI⟩:=hrel;by_cases hlt:k<es.length
  ·obtain ⟨x,hx⟩:=aJ hlt
   obtain ⟨eb2,eo2,he2,hb2,_,⟨TA,tc,UA,uc,hT,hU,c0,c1,c2,c3,c4,c5,c6,c7⟩,_⟩:=(H.out.1.fr (Fr.below HI.out.1:Fr Y w wr) fun q hq=>.inl hq) k x hx;injection he2 with he2
   injection he2 with e1 e2
   subst e1 e2;have hfx:=H.out.2 x (O8 hx);have HUs:=aB (P8 x TA x.T.length tc UA x.U.length uc wr hT.ty.eY hU.ty.eY (aB ⟨rfl,rfl⟩) ⟨by have:=hfx.T;omega,by have:=hfx.U;omega,fun y hy=>by have:=hfx.nT y hy;omega,fun y hy=>by have:=hfx.nU y hy;omega,by have:=hfx.nm;omega,by have:=hfx.bd;omega⟩);unfold yT at HUs;have HX:=aB hx;clear hT hU hfx hx;go_wp2_with fail;refine HUs.out.mono ?_;rintro e w1 ⟨b,rfl,hq,hb1⟩;have HB1:=aB (ah HI.out.1 hb1);have HQ:=aB hq;clear c0 c1 c2 c3 c4 c5 c6 c7 hq hb1
   cases b
   ·go_wp2_with fail
    go_ret;exact Shows.no HB1.out
   ·go_wp2_with fail
    go_roundw
    case rel=>exact ⟨k+1,by go_num,by omega,aB ⟨HB1.out,fun m y hm hy2=>by
     rcases aao m k with h|h
     ·exact HI.out.2 m y h hy2
     ·have:m=k:=by omega
      subst this;rw [HX.out] at hy2;injection hy2 with hy2
      subst hy2;exact HQ.out (by trivial)⟩⟩
    case measure=>simp [Lib.intOf];omega
  have hke:k=es.length:=by omega
  have HUA:Hid (∀x∈es,P7 x):=aB (kH fun m y hm=>HI.out.2 m y (by omega));have oh:Hid (dN es):=aB fun x hx=>⟨(HUA.out x hx).k,(HUA.out x hx).mn⟩;have ZP:=fun v (hv:Below w.heap.size w v)=>(H.out.1.fr (Fr.below hv:Fr Y w v) fun q hq=>.inl hq);have ZP:=aB ZP;have Qb:=aB (fun v (hv:Below w.heap.size w v)=>BG Y _ c es 0 v (ZP.out v hv) (by omega) oh.out hpos);rw [List.drop_zero] at Qb;have HSh:=aB (fun v (hv:Below w.heap.size w v)=>Ic Y _ c es v (ZP.out v hv) (by omega) oh.out);have hre:=Hq es 1 0;clear hke;go_wp2_with fail;refine (Qb.out _ HI.out.1).mono ?_;rintro e w1 ⟨rfl,hb1⟩;have HB1:=aB (ah HI.out.1 hb1);clear hb1;by_cases hend:lI es 1 0=es.length
  rotate_left
  ·have RS:((lI es 1 0:Int) !=(es.length:Int))=true:=by simp;omega
   clear hend;go_wp2_with fail;go_ret;exact Shows.no HB1.out
  have yZ:=aB hend;have RS:((lI es 1 0:Int) !=(es.length:Int))=false:=by simp;omega
  clear hend;go_wp2_with fail;refine (HSh.out _ HB1.out).mono ?_;rintro e w2 ⟨b,rfl,_,hb2⟩;have HB2:=aB (ah HB1.out hb2);clear hb2 RS hre
  cases b
  ·go_wp2_with fail
   go_ret;exact Shows.no HB2.out
  go_wp2_with fail;go_loopw [4] (fun o4 wi=>∃j:Nat,o4= .int .i64 j/\j<=es.length/\Hid (Below w.heap.size w wi/\∀m p,m<j->es[m]?=some p->AX es p (eD es (aL p) (m+1)))) (fun o4 _=>es.length-(Lib.intOf o4).toNat)
  case atStart=>exact ⟨0,rfl,by omega,aB ⟨HB2.out,fun m y hm=>by omega⟩⟩
  case round=>
   obtain ⟨j,rfl,hj,HJ⟩:=hrel;by_cases hjl:j<es.length
   ·obtain ⟨x,hx⟩:=aJ hjl
    have PX:=aB (FZ Y _ c es j x wr (ZP.out wr HJ.out.1) (by omega) oh.out hx (fun y hy=>by have:=(H.out.2 y hy).lb;omega));have HX:=aB hx;clear hx;go_wp2_with fail;refine PX.out.mono ?_;rintro e w3 ⟨b,rfl,hq,hb3⟩;have HB3:=aB (ah HJ.out.1 hb3);have HQ:=aB hq;clear hq hb3
    cases b
    ·go_wp2_with fail
     go_ret;exact Shows.no HB3.out
    ·go_wp2_with fail
     go_roundw
     case rel=>exact ⟨j+1,by go_num,by omega,aB ⟨HB3.out,fun m y hm hy2=>by
      rcases aao m j with h|h
      ·exact HJ.out.2 m y h hy2
      ·have:m=j:=by omega
       subst this;rw [HX.out] at hy2;injection hy2 with hy2
       subst hy2;exact HQ.out (by trivial)⟩⟩
     case measure=>simp [Lib.intOf];omega
   ·go_wp2_with fail
    go_ret;exact Shows.yes (fun _=>⟨hne,HR.out,HUA.out,yZ.out,fun m p hm=>HJ.out.2 m p (by have:=aP hm;omega) hm⟩) HJ.out.1
end Go.Proofs.YtmjdhfbnmmdjiaaGreat
