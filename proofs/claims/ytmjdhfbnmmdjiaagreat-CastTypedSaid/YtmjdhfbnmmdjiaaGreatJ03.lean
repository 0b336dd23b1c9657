/- Laid together by a tool from the texts of this seat: RRight. Conditions: each theorem's own. -/
import Derived.Test.YtmjdhfbnmmdjiaaGreatJ02
set_option maxHeartbeats 8000000
set_option maxRecDepth 100000
namespace Go.Proofs.YtmjdhfbnmmdjiaaGreat
open Go.Lib renaming hid->aD
open Go.RowKit.Below renaming drew->h_,refl->aF
open _root_.Bool renaming false_and->iy,true_and->eO
open _root_.Nat renaming zero_add->iC,zero_le->bE,add_comm->iK
open _root_.List renaming flatMap_cons->iJ,take_of_length_le->iO,length_take->iW,eq_nil_of_length_eq_zero->dz,getElem?_append_right->jd,reverse_append->jh
open Go.RowKit
section
variable {α:Type} {enc:α->List Value} {size e base:Nat} {w w':World} {A:Option Addr} {cap B:Nat} {l:List α}
theorem IV (hk:∀x,(enc x).length=size):∀(l:List α) (k:Nat),(l.take k).flatMap enc=(l.flatMap enc).take (k*size):=by
 intro l
 induction l with
 |nil=>intro k;simp
 |cons x l ih=>
  intro k
  cases k with
  |zero=>simp
  |succ k=>
   rw [List.take_succ_cons,iJ,iJ,ih,List.take_append,hk,show (k+1)*size-size=k*size by rw [Nat.succ_mul];omega,iO (l:=enc x) (by rw [hk,Nat.succ_mul];omega)]
theorem aB.cut (hk:∀x,(enc x).length=size) (h:aB e size enc w base A cap l) {k:Nat} (hkl:k<=l.length):aB e size enc w base A cap (l.take k):=by
 unfold aB at h ⊢;have hlen:(l.take k).length=k:=by rw [iW];omega
 refine ⟨jB hk _,?_⟩;rw [hlen];rcases h.2 with ⟨hv,hn⟩|⟨g,cap',cur,hv,hbg,hg,hnc,hcm,hcs,htake⟩
 ·injection hv with hA hl hc
  subst hA hc;exact .inl ⟨by rw [show k=0 by omega],by omega⟩
 ·injection hv with hA hl hc
  subst hA hc;refine .inr ⟨g,cap,cur,rfl,hbg,hg,by omega,hcm,hcs,?_⟩;rw [IV hk,<-htake,List.take_take,Nat.min_eq_left (Nat.mul_le_mul_right _ hkl)]
end
theorem qz (l:List Int):l.flatMap encI=l.map fun n=>Value.int .i64 n:=by
 induction l with
 |nil=>rfl
 |cons n l ih=>rw [iJ,List.map_cons,ih];rfl
theorem aB.Nj {w:World} {base:Nat} {A:Option Addr} {cap:Nat} {l:List Int} (h:eU w base A cap l) {j:Nat} (hj:j<l.length) (n:Int):
  ∃g,A=some ⟨g,0,none⟩/\base<=g/\g<w.heap.size/\(∃m,l[j]?=some m/\w.cell? ⟨g,j,none⟩=some (.int .i64 m))/\w.frozen? ⟨g,j,none⟩=false/\
   eU (w.setCell ⟨g,j,none⟩ (.int .i64 n)) base A cap (l.set j n)/\w.grownBy (w.setCell ⟨g,j,none⟩ (.int .i64 n)) (some g):=by
 obtain ⟨m,hm⟩:=aN hj;obtain ⟨b,o,hA,hb,hc⟩:=bf.int (aB.read eP h) hm;have h':w.ownsRow base 3 1 (.slice A l.length cap) l.length (l.flatMap encI):=h;rcases h'.2 with ⟨hv,hn⟩|⟨g,cap',cur,hv,hbg,hg,hnc,hcm,hcs,htake⟩
 ·injection hv with hA' hl hc'
  rw [hA'] at hA
  cases hA
 ·injection hv with hA' hl hc'
  subst hA';injection hA with hA
  injection hA with hA1 hA2 hA3
  subst hA1;rw [<-hA2,iC] at hc;obtain ⟨h2,h3⟩:=World.ownsRow.stored h' j (.int .i64 n);refine ⟨g,rfl,hbg,hb,⟨m,hm,hc⟩,World.ownsRow.frozenAt h' j,?_,h3⟩;show (w.setCell ⟨g,j,none⟩ (.int .i64 n)).ownsRow base 3 1 (.slice (some ⟨g,0,none⟩) (l.set j n).length cap) (l.set j n).length ((l.set j n).flatMap encI);rw [List.length_set,qz,List.map_set,<-qz];exact h2
def settle:List Int->Int->List Int
 |[],a=>if a=0 then [] else [a]
 |b::r,a=>if a=0 then settle r (b-1) else a::b::r
def mG:List Int->List Int
 |[]=>[]
 |a::r=>settle r a
def dJ:List Nd->List Int->Bool
 |[],_=>true
 |x::xs,st=>if 100<=st.length then false else dJ xs (mG (many x.k x.n::st))
theorem xC {a:Int} (h:a≠0) (r:List Int):settle r a=a::r:=by cases r<;>simp [settle,h]
theorem DF:∀(r:List Int) (a:Int),(settle r a).length<=r.length+1:=by
 intro r
 induction r with
 |nil=>intro a;simp only [settle];split<;>simp
 |cons b r ih=>
  intro a;simp only [settle];split
  ·have:=ih (b-1)
   simp;omega
  ·simp
def lenOf:Value->Nat
 | .slice _ n _=>n
 |_=>0
theorem AU {α:Type} {l:List α} {m:Nat} (h:l.length=m+1):∃l0 a,l=l0++[a]/\l0.length=m:=by
 refine ⟨l.take m,l[m],?_,by rw [iW];omega⟩;have h1:l.take (m+1)=l:=iO (by omega);rw [List.take_succ_eq_append_getElem (by omega)] at h1;exact h1.symm
theorem aB.form {α:Type} {enc:α->List Value} {size e base:Nat} {w:World} {A:Option Addr} {cap:Nat} {l:List α} (h:aB e size enc w base A cap l) (hl:0<l.length):
  ∃g,A=some ⟨g,0,none⟩/\base<=g/\g<w.heap.size/\l.length<=cap/\cap<=9223372036854775807:=by
 rcases h.2 with ⟨hv,hn⟩|⟨g,cap',cur,hv,hbg,hg,hnc,hcm,hcs,htake⟩
 ·omega
 ·injection hv with hA hl hc
  subst hA hc;exact ⟨g,rfl,hbg,lt_of_block hg,hnc,by unfold maxLen at hcm;omega⟩
def Wt (l:List Int):Prop:=∀(l0:List Int) (a:Int),l=l0++[a]->0<=a/\a<=50/\∀v∈l0,1<=v/\v<=50
theorem EX {l:List Int} {a:Int} (h:∀v∈l,1<=v/\v<=50) (h0:0<=a) (h1:a<=50):Wt (l++[a]):=by
 intro l0 b e;obtain ⟨rfl,hb⟩:=List.append_inj' e rfl;simp at hb;subst hb;exact ⟨h0,h1,h⟩
theorem AV (A:Option Addr) (c:Nat) (xs:List Nd) (w:World) (ha:bO w w.heap.size A xs) (hl:xs.length<=1000000) (hok:bI xs):
  Calls Tryz.prog 49 #[.slice A xs.length c] w fun e w'=>e= .returned (.bool (dJ xs []))/\Below w.heap.size w w':=by
 have nJ:=aD hok;clear hok;have hown0:=jo 3 1 encI w;have hb0:=aj (aF w.heap.size w) (.cells #[] 3);go_enter Tryz.func49,Tryz.ntmps49;go_wp2_with fail
 go_loopw [3,4] (fun o3 k4 wr=>∃(k:Nat) (A':Option Addr) (cap':Nat) (l:List Int),o3= .slice A' l.length cap'/\k4= .int .i64 k/\k<=xs.length/\l.length<=100/\Hid (∀v∈l,1<=v/\v<=50)/\
   eU wr w.heap.size A' cap' l/\Below w.heap.size w wr/\Hid (dJ (xs.drop k) l.reverse=dJ xs []))
  (fun _ k4 _=>xs.length-(intOf k4).toNat)
 case atStart=>exact ⟨0,_,_,[],rfl,rfl,bE _,by simp,aD (by simp),hown0,hb0,aD rfl⟩
 case round=>
  obtain ⟨k,A',cap',l,rfl,rfl,hk,acX,hpos,hown,hbel,hgood⟩:=hrel;by_cases hp:k<xs.length
  ·obtain ⟨x,hx⟩:=aN hp
   obtain ⟨M,hM,Ws,_⟩:=Cn (nJ.out x (gB hx));obtain ⟨b1,o1,rfl,hb1,c10,c11,c12⟩:=((ha.below hbel).more hbel.size).at_ hx;have HM:=aD hM;by_cases xD:l.length=100
   ·have hfin:=aD (show dJ (xs.drop k) l.reverse=false by rw [drop_cons hx];simp [dJ,xD])
    have EY:(100:Int)<=(l.length:Int):=by omega
    clear hx xD hM;go_wp2_with fail;go_ret;exact ⟨aT (by rw [<-hgood.out,hfin.out]),hbel⟩
   ·have dW:Hid (dJ (xs.drop (k+1)) (mG ((l++[(M:Int)]).reverse))=dJ xs []):=aD (by
     rw [<-hgood.out,drop_cons hx];simp [dJ,hM,show ¬100<=l.length by omega])
    have EY:¬(100:Int)<=(l.length:Int):=by omega
    have acY:l.length<100:=by omega
    clear hx xD hM hgood;go_wp2_with fail;refine (nW _ _ _ _).mono ?_;rintro e w1 ⟨rfl,hbx⟩;rw [HM.out];have hown1:=aB.below hown hbx (Nat.le_refl _);have kG:=au hbel hbx;have z1:=kG.size;go_wp2_with (at_builtin;refine rF rfl (.tmp 15) (.tmp 21) rfl w.heap.size (l:=l) rfl (aB.alloc hown1 _) (l2:=[(M:Int)]) rfl (vQ _ _) (by simp;omega) (by simp;omega) ?_;intro A2 cap2 w3 hown3 hg3 _);have dP:=jw (aj kG _) hg3 (fun k hk=>(aB.block hown1 k hk).1);clear hg3 hbx hown1;have hst:Hid (Wt (l++[(M:Int)])):=aD (EX hpos.out (by omega) (by omega));obtain ⟨wo,rfl⟩:∃wo:World,wo=wr:=⟨_,rfl⟩
    go_loopw [3] (fun o3 wi=>∃(A3:Option Addr) (qH:Nat) (l3:List Int),o3= .slice A3 l3.length qH/\l3.length<=101/\Hid (Wt l3)/\eU wi w.heap.size A3 qH l3/\Below w.heap.size w wi/\
      Hid (mG l3.reverse=mG ((l++[(M:Int)]).reverse)))
     (fun o3 _=>lenOf o3)
    case atStart=>exact ⟨_,_,l++[(M:Int)],by simp,by simp;omega,hst,hown3,dP,aD rfl⟩
    case round=>
     clear hown3 dP hst;obtain ⟨A3,qH,l3,rfl,P9,hst,hown3,dP,rH⟩:=hrel;rcases Nat.eq_zero_or_pos l3.length with hz|hz
     ·have hnil:l3=[]:=dz hz
      subst hnil;go_wp2_with fail;go_roundw
      case rel=>exact ⟨k+1,A3,qH,[],rfl,by go_num,hp,by simp,aD (by simp),hown3,dP,aD (by rw [<-dW.out,<-rH.out];rfl)⟩
      case measure=>simp [intOf];omega
     ·obtain ⟨l0,a,hl3,hm⟩:=AU (show l3.length=(l3.length-1)+1 by omega)
      generalize hmm:l3.length-1=m at hm;have hlen3:l3.length=m+1:=by omega
      rw [hlen3] at P9 ⊢;have hread:=aB.read eP hown3;obtain ⟨b3,rfl,Wu,hb3,P_,acZ⟩:=aB.form hown3 hz;obtain ⟨_,_,e3,_,c3⟩:=bf.int hread (i:=m) (n:=a) (by rw [hl3,jd (by omega)];simp [hm]);simp only [Option.some.injEq,Addr.mk.injEq,and_true] at e3;obtain ⟨rfl,rfl⟩:=e3;rw [iC] at c3;rw [hlen3] at P_;have hbd:=hst.out l0 a hl3;obtain ⟨ha0,ha1,hl0⟩:=hbd;have AX:=aD hl3;have Hm:=aD hm;have EZ:=aD hlen3;have Qa:=aD hl0;have hm0:=aD (show m=l0.length from hm.symm);clear hl3 hm hlen3 hmm hl0 hz hread;by_cases haz:a=0
      ·have Wv:(a==0)=true:=by simpa using haz
       have Eo:=aD haz;clear haz
       have hcut:eU wr w.heap.size (some ⟨b3,0,none⟩) qH l0:=by
        have:=aB.cut eP hown3 (k:=l0.length) (by rw [AX.out];simp)
        rwa [AX.out,List.take_left] at this
       cases m with
       |zero=>
        have hnil:l0=[]:=dz Hm.out;subst hnil;go_wp2_with fail;go_roundw
        case rel=>exact ⟨_,qH,[],rfl,by simp,aD (fun l0 a h=>by simp at h),hcut,dP,aD (by rw [<-rH.out,AX.out,Eo.out];rfl)⟩
        case measure=>simp [lenOf]
       |succ j=>
        obtain ⟨l00,b,AY,hj⟩:=AU Hm.out;have hb:=Qa.out b (by rw [AY];simp);obtain ⟨ahK,ahL⟩:=hb;obtain ⟨g,hg,_,_,⟨b',hb',c4⟩,f4,hset,hgr⟩:=aB.Nj hcut (j:=j) (by rw [Hm.out];omega) (b-1);simp only [Option.some.injEq,Addr.mk.injEq,and_true] at hg;subst hg;rw [AY,jd (by omega)] at hb';simp [hj] at hb';subst hb';have E5:=aD AY;have Hj:=aD hj;have Ww:=aD hset;clear AY hj hset;go_wp2_with fail;go_roundw
        case rel=>exact ⟨some ⟨b3,0,none⟩,qH,l00++[b-1],by simp [Hj.out],by simp [Hj.out];omega,aD (EX (fun v hv=>Qa.out v (by rw [E5.out];simp [hv])) (by omega) (by omega)),by
         have h1:=Ww.out;rw [E5.out] at h1;rw [List.set_append_right _ _ (by rw [Hj.out];omega),Hj.out,Nat.sub_self] at h1;exact h1,dP.setCell Wu _,aD (by rw [<-rH.out,AX.out,Eo.out,E5.out];simp [mG,settle])⟩
        case measure=>simp [lenOf]
      ·have Wv:(a==0)=false:=by simpa using haz
       have Eo:=aD haz;clear haz;go_wp2_with fail;go_roundw
       case rel=>exact ⟨k+1,_,qH,l3,by rw [EZ.out],by go_num,hp,by
        have h1:=DF (l.reverse) (M:Int);have h2:=rH.out;rw [AX.out,jh,jh] at h2;have h3:settle l0.reverse a=settle l.reverse (M:Int):=h2;rw [xC Eo.out] at h3;rw [<-h3] at h1;have:=EZ.out;have:=Hm.out;simp at h1;omega,aD (by
        rw [AX.out];intro v hv;rcases List.mem_append.1 hv with hv|hv
        ·exact Qa.out v hv
        ·simp at hv;subst hv;have:=Eo.out;omega),hown3,dP,aD (by
        rw [<-dW.out,<-rH.out,AX.out];simp [mG,xC Eo.out])⟩
       case measure=>simp [intOf];omega
  ·have hfin:=aD (show dJ (xs.drop k) l.reverse=true by rw [List.drop_of_length_le (by omega)];rfl)
   go_wp2_with fail;go_ret;exact ⟨aT (by rw [<-hgood.out,hfin.out]),hbel⟩
def gQ (x y prev:Nd) (k n:Nat):Bool:=
 if y.k=9 then bK x.k&&decide (k+1=n)&&decide (y.s.size=0)
 else bR x.k y.s&& !(bK x.k&&decide (0<k)&& !Op.bytesLess prev.s.toList y.s.toList)
def wO (xs:List Nd) (l:List Nat) (k:Nat):Nd:=(xs[(l[k]?).getD 0]?).getD default
def kT (xs:List Nd) (x:Nd) (l:List Nat):Nat->Nat->Bool
 |0,_=>true
 |d+1,k=>gQ x (wO xs l k) (wO xs l (k-1)) k l.length&&kT xs x l d (k+1)
def gD (xs:List Nd) (i:Nat):Bool:=
 match xs[i]? with
 |none=>false
 |some x=>decide (((fK xs i).length:Int)=many x.k x.n)&&kT xs x (fK xs i) (fK xs i).length 0
theorem zW {xs:List Nd}:∀(d at_:Nat),∀j∈aZ xs d at_,j<xs.length:=by
 intro d
 induction d with
 |zero=>intro at_ j h;simp [aZ] at h
 |succ d ih=>
  intro at_ j h;simp only [aZ] at h;split at h
  ·rcases List.mem_cons.1 h with rfl|h
   ·assumption
   ·exact ih _ j h
  ·simp at h
theorem Ub {xs:List Nd} {i:Int}:∀j∈fK xs i,j<xs.length:=by
 intro j h;unfold fK at h;split at h
 ·simp at h
 ·split at h
  ·simp at h
  ·exact zW _ _ j h
theorem Nk {xs:List Nd}:∀(d at_:Nat),(aZ xs d at_).length<=d:=by
 intro d
 induction d with
 |zero=>intro at_;simp [aZ]
 |succ d ih=>
  intro at_;simp only [aZ];split
  ·have:=ih (endGo (xs.drop at_) 1 at_)
   simp;omega
  ·simp
theorem KL {a b:Bool} (h:(a||b)=true):a=false->b=true:=by cases a<;>simp_all
theorem sw {l:List Nat} {k j:Nat} (h:l[k]?=some j):(dw l)[k]?=some (j:Int):=by
 unfold dw;rw [List.getElem?_map,h];rfl
theorem nK (l:List Nat):(dw l).length=l.length:=by simp [dw]
theorem zJ (A:Option Addr) (c:Nat) (xs:List Nd) (i:Nat) (w:World) (ha:bO w w.heap.size A xs) (hl:xs.length<=1000000) (hok:bI xs) (hi:i<xs.length) (hs:∀x∈xs,x.s.size<=9223372036854775807):
  Calls Tryz.prog 50 #[.slice A xs.length c,.int .i64 i] w fun e w'=>e= .returned (.bool (gD xs i))/\Below w.heap.size w w':=by
 have nJ:=aD hok;have Hs:=aD hs;clear hok hs;obtain ⟨x,hx⟩:=aN hi;obtain ⟨M,hM,Ws,_⟩:=Cn (nJ.out x (gB hx));have hfin:Hid (gD xs i=(decide (((fK xs i).length:Int)=(M:Int))&&kT xs x (fK xs i) (fK xs i).length 0)):=aD (by unfold gD;rw [hx];simp [hM]);have HM:=aD hM;have Hx:=aD hx;clear hx hM;go_enter Tryz.func50,Tryz.ntmps50;go_wp2_with fail;refine (su A c xs i w ha hl nJ.out).mono ?_;rintro e w1 ⟨A',cap',rfl,hown,hbel⟩;have hlt:=aD (Ub (xs:=xs) (i:=i))
 have ac1:=aD (show (fK xs i).length<=50 by
  unfold fK;rw [if_neg (by omega)];simp only [Int.toNat_natCast,Hx.out,HM.out];exact Nat.le_trans (Nk _ _) Ws)
 rw [nK];generalize hks:fK xs i=l at*;have hread:=aB.read eP hown;have ha1:=(ha.below hbel).more hbel.size;have hll:l.length<=50:=ac1.out;clear hks hown;obtain ⟨b1,o1,rfl,hb1,c10,c11,c12⟩:=ha1.at_ Hx.out;go_wp2_with fail;refine (nW _ _ _ _).mono ?_;rintro e w2 ⟨rfl,hb2⟩;rw [HM.out];have jC:=au hbel hb2;have ha2:=(ha1.below hb2).more hb2.size;have aak:=(bf.below hread hb2).more hb2.size;clear c10 c11 c12 hread ha1 hb2 hb1;clear hbel;clear w1;by_cases KM:l.length=M
 ·have ahM:((l.length:Int) !=(M:Int))=false:=by simp [KM]
  have Wx:=aD KM;clear KM;go_wp2_with fail
  go_loopw [6] (fun k6 wr=>∃k:Nat,k6= .int .i64 k/\k<=l.length/\Below w2.heap.size w2 wr/\Hid (kT xs x l (l.length-k) k=kT xs x l l.length 0))
   (fun k6 _=>l.length-(intOf k6).toNat)
  case atStart=>exact ⟨0,rfl,bE _,aF _ _,aD rfl⟩
  case round=>
   obtain ⟨k,rfl,hk,hbr,hgood⟩:=hrel;rw [show decide ((l.length:Int)=(M:Int))=true by simp [Wx.out],eO] at hfin;by_cases hp:k<l.length
   ·obtain ⟨j,hj⟩:=aN hp
    have hjl:=hlt.out j (gB hj);obtain ⟨y,hy⟩:=aN hjl;have hys:=aD (Hs.out y (gB hy))
    have hstep:Hid (kT xs x l (l.length-k) k=(gQ x y (wO xs l (k-1)) k l.length&&kT xs x l (l.length-(k+1)) (k+1))):=aD (by
     rw [show l.length-k=(l.length-(k+1))+1 by omega];simp [kT,wO,hj,hy])
    generalize hpv:wO xs l (k-1)=p at hstep;have hre:=(bf.below aak hbr).more hbr.size;have hae:=(ha2.below hbr).more hbr.size;obtain ⟨bl,ol,rfl,hbl,cl⟩:=bf.int hre (sw hj);obtain ⟨bt,ot,hte,hbt,cx0,cx1,cx2⟩:=hae.at_ Hx.out;simp only [Option.some.injEq,Addr.mk.injEq,and_true] at hte;obtain ⟨rfl,rfl⟩:=hte;obtain ⟨_,_,hte,_,cy0,cy1,cy2⟩:=hae.at_ hy;simp only [Option.some.injEq,Addr.mk.injEq,and_true] at hte;obtain ⟨rfl,rfl⟩:=hte;have s1:bl<wr.heap.size+1:=by omega
    have s2:b1<wr.heap.size+1:=by omega
    have Hj:=aD hj;have Hy:=aD hy;have Hpv:=aD hpv;clear hj hy hpv;by_cases h9:y.k=9
    ·have Nf:(y.k==9)=true:=by simpa using h9
     have H9:=aD h9;clear h9;by_cases hrow:bK x.k=true
     ·have Wy:(x.k==6||x.k==7)=true:=hrow
      have Nl:=aD hrow;by_cases hla:k+1=l.length
      ·have hlab:((k:Int)==(l.length:Int)-1)=true:=by simp;omega
       have Hla:=aD hla
       cases he:y.s.toList.isEmpty
       ·have He:=aD he
        clear hla hrow
        cases Ep:(x.k==6)
        all_goals
         have vR:=aD (KL Wy)
         first|(have h7c:=vR.out Ep;clear vR)|clear vR
         go_wp2_with fail;go_ret;exact ⟨aT (by rw [hfin.out,<-hgood.out,hstep.out,(show gQ x y p k l.length=false by unfold gQ;rw [if_pos H9.out,<-gq,He.out,Bool.and_false]),iy]),au jC (by repeat (first|exact hbr|refine aj ?_ _|refine dH ?_ _|refine h_ ?_))⟩
       ·have He:=aD he
        clear hla hrow
        cases Ep:(x.k==6)
        all_goals
         have vR:=aD (KL Wy)
         first|(have h7c:=vR.out Ep;clear vR)|clear vR
         go_wp2_with fail;go_roundw
         case rel=>exact ⟨k+1,by go_num,hp,(by repeat (first|exact hbr|refine aj ?_ _|refine dH ?_ _|refine h_ ?_)),aD (by rw [<-hgood.out,hstep.out,(show gQ x y p k l.length=true by unfold gQ;rw [if_pos H9.out,<-gq,He.out,Nl.out,decide_eq_true Hla.out];rfl),eO])⟩
         case measure=>simp [intOf];omega
      ·have hlab:((k:Int)==(l.length:Int)-1)=false:=by rw [beq_eq_false_iff_ne];omega
       have Hla:=aD hla;clear hla hrow
       cases Ep:(x.k==6)
       all_goals
        have vR:=aD (KL Wy)
        first|(have h7c:=vR.out Ep;clear vR)|clear vR
        go_wp2_with fail;go_ret;exact ⟨aT (by rw [hfin.out,<-hgood.out,hstep.out,(show gQ x y p k l.length=false by unfold gQ;rw [if_pos H9.out,decide_eq_false Hla.out];simp),iy]),au jC (by repeat (first|exact hbr|refine aj ?_ _|refine dH ?_ _|refine h_ ?_))⟩
     ·have Nl:=aD (show bK x.k=false by simpa using hrow)
      have Ep:(x.k==6)=false:=by have:=Nl.out;simp [bK] at this;simpa using this.1
      have vR:(x.k==7)=false:=by have:=Nl.out;simp [bK] at this;simpa using this.2
      clear hrow;go_wp2_with fail;go_ret;exact ⟨aT (by rw [hfin.out,<-hgood.out,hstep.out,(show gQ x y p k l.length=false by unfold gQ;rw [if_pos H9.out,Nl.out];rfl),iy]),au jC (by repeat (first|exact hbr|refine aj ?_ _|refine dH ?_ _|refine h_ ?_))⟩
    ·have Nf:(y.k==9)=false:=by simpa using h9
     have H9:=aD h9;clear h9;by_cases hk0:0<k
     ·have Nn:(0:Int)<(k:Int):=by omega
      have E_:=aD hk0;obtain ⟨jp,hjp⟩:=aN (show k-1<l.length by omega);have ahP:=hlt.out jp (gB hjp);obtain ⟨q,hq⟩:=aN ahP;have hpq:q=p:=by have:=Hpv.out;simp [wO,hjp,hq] at this;exact this
      subst hpq;obtain ⟨_,_,hte,_,clp⟩:=bf.int hre (sw hjp);simp only [Option.some.injEq,Addr.mk.injEq,and_true] at hte;obtain ⟨rfl,rfl⟩:=hte;obtain ⟨_,_,hte,_,cp0,cp1,cp2⟩:=hae.at_ hq;simp only [Option.some.injEq,Addr.mk.injEq,and_true] at hte;obtain ⟨rfl,rfl⟩:=hte;have hkp:k-1<l.length:=by omega
      clear hjp hq;by_cases h6:x.k=6
      ·have Ep:(x.k==6)=true:=by simpa using h6
       have vR:(x.k==7)=false:=by simp [h6]
       have Hr:Hid (bK x.k=true):=aD (by simp [bK,h6])
       cases hw:nX y.s
       ·have Hw:=aD hw
        have Hl:Hid (bR x.k y.s=false):=aD (by unfold bR;rw [if_pos h6,hw]);clear h6 hw;go_wp2_with (go_at_call 57;refine (gX _ _ hys.out).mono ?_;rintro e w3 ⟨rfl,rfl⟩;rw [Hw.out]);go_ret;exact ⟨aT (by rw [hfin.out,<-hgood.out,hstep.out,(show gQ x y q k l.length=false by unfold gQ;rw [if_neg H9.out,Hl.out];rfl),iy]),au jC (by repeat (first|exact hbr|refine aj ?_ _|refine dH ?_ _|refine h_ ?_))⟩
       ·have Hw:=aD hw
        have Hl:Hid (bR x.k y.s=true):=aD (by unfold bR;rw [if_pos h6,hw]);clear h6 hw
        cases hlt:Op.bytesLess q.s.toList y.s.toList
        ·have Es:=aD hlt
         go_wp2_with (go_at_call 57;refine (gX _ _ hys.out).mono ?_;rintro e w3 ⟨rfl,rfl⟩;rw [Hw.out]);go_quiet (fail);go_wp2_with fail;go_ret;exact ⟨aT (by rw [hfin.out,<-hgood.out,hstep.out,(show gQ x y q k l.length=false by unfold gQ;rw [if_neg H9.out,Hl.out,Hr.out,Es.out];simp [E_.out]),iy]),au jC (by repeat (first|exact hbr|refine aj ?_ _|refine dH ?_ _|refine h_ ?_))⟩
        ·have Es:=aD hlt
         go_wp2_with (go_at_call 57;refine (gX _ _ hys.out).mono ?_;rintro e w3 ⟨rfl,rfl⟩;rw [Hw.out]);go_quiet (fail);go_wp2_with fail;go_roundw
         case rel=>exact ⟨k+1,by go_num,hp,(by repeat (first|exact hbr|refine aj ?_ _|refine dH ?_ _|refine h_ ?_)),aD (by rw [<-hgood.out,hstep.out,(show gQ x y q k l.length=true by unfold gQ;rw [if_neg H9.out,Hl.out,Es.out];simp),eO])⟩
         case measure=>simp [intOf];omega
      ·have Ep:(x.k==6)=false:=by simpa using h6
       by_cases h7:x.k=7
       ·have vR:(x.k==7)=true:=by simpa using h7
        have Hr:Hid (bK x.k=true):=aD (by simp [bK,h7])
        cases hw:tZ y.s
        ·have Hw:=aD hw
         have Hl:Hid (bR x.k y.s=false):=aD (by unfold bR;rw [if_neg h6,if_pos h7,hw]);clear h6 h7 hw;go_wp2_with (go_at_call 58;refine (mD _ _ hys.out).mono ?_;rintro e w3 ⟨rfl,rfl⟩;rw [Hw.out]);go_ret;exact ⟨aT (by rw [hfin.out,<-hgood.out,hstep.out,(show gQ x y q k l.length=false by unfold gQ;rw [if_neg H9.out,Hl.out];rfl),iy]),au jC (by repeat (first|exact hbr|refine aj ?_ _|refine dH ?_ _|refine h_ ?_))⟩
        ·have Hw:=aD hw
         have Hl:Hid (bR x.k y.s=true):=aD (by unfold bR;rw [if_neg h6,if_pos h7,hw]);clear h6 h7 hw
         cases hlt:Op.bytesLess q.s.toList y.s.toList
         ·have Es:=aD hlt
          go_wp2_with (go_at_call 58;refine (mD _ _ hys.out).mono ?_;rintro e w3 ⟨rfl,rfl⟩;rw [Hw.out]);go_quiet (fail);go_wp2_with fail;go_ret;exact ⟨aT (by rw [hfin.out,<-hgood.out,hstep.out,(show gQ x y q k l.length=false by unfold gQ;rw [if_neg H9.out,Hl.out,Hr.out,Es.out];simp [E_.out]),iy]),au jC (by repeat (first|exact hbr|refine aj ?_ _|refine dH ?_ _|refine h_ ?_))⟩
         ·have Es:=aD hlt
          go_wp2_with (go_at_call 58;refine (mD _ _ hys.out).mono ?_;rintro e w3 ⟨rfl,rfl⟩;rw [Hw.out]);go_quiet (fail);go_wp2_with fail;go_roundw
          case rel=>exact ⟨k+1,by go_num,hp,(by repeat (first|exact hbr|refine aj ?_ _|refine dH ?_ _|refine h_ ?_)),aD (by rw [<-hgood.out,hstep.out,(show gQ x y q k l.length=true by unfold gQ;rw [if_neg H9.out,Hl.out,Es.out];simp),eO])⟩
          case measure=>simp [intOf];omega
       ·have vR:(x.k==7)=false:=by simpa using h7
        have Hr:Hid (bK x.k=false):=aD (by simp [bK,h6,h7])
        cases he:y.s.toList.isEmpty
        ·have Hl:Hid (bR x.k y.s=false):=aD (by unfold bR;rw [if_neg h6,if_neg h7,<-gq,he])
         clear h6 h7;go_wp2_with fail;go_ret;exact ⟨aT (by rw [hfin.out,<-hgood.out,hstep.out,(show gQ x y q k l.length=false by unfold gQ;rw [if_neg H9.out,Hl.out];rfl),iy]),au jC (by repeat (first|exact hbr|refine aj ?_ _|refine dH ?_ _|refine h_ ?_))⟩
        ·have Hl:Hid (bR x.k y.s=true):=aD (by unfold bR;rw [if_neg h6,if_neg h7,<-gq,he])
         clear h6 h7;go_wp2_with fail;go_quiet (fail);go_wp2_with fail;go_roundw
         case rel=>exact ⟨k+1,by go_num,hp,(by repeat (first|exact hbr|refine aj ?_ _|refine dH ?_ _|refine h_ ?_)),aD (by rw [<-hgood.out,hstep.out,(show gQ x y q k l.length=true by unfold gQ;rw [if_neg H9.out,Hl.out,Hr.out];rfl),eO])⟩
         case measure=>simp [intOf];omega
     ·have Nn:¬(0:Int)<(k:Int):=by omega
      have E_:=aD (decide_eq_false hk0);by_cases h6:x.k=6
      ·have Ep:(x.k==6)=true:=by simpa using h6
       have vR:(x.k==7)=false:=by simp [h6]
       have Hr:Hid (bK x.k=true):=aD (by simp [bK,h6])
       cases hw:nX y.s
       ·have Hw:=aD hw
        have Hl:Hid (bR x.k y.s=false):=aD (by unfold bR;rw [if_pos h6,hw]);clear h6 hw;go_wp2_with (go_at_call 57;refine (gX _ _ hys.out).mono ?_;rintro e w3 ⟨rfl,rfl⟩;rw [Hw.out]);go_ret;exact ⟨aT (by rw [hfin.out,<-hgood.out,hstep.out,(show gQ x y p k l.length=false by unfold gQ;rw [if_neg H9.out,Hl.out];rfl),iy]),au jC (by repeat (first|exact hbr|refine aj ?_ _|refine dH ?_ _|refine h_ ?_))⟩
       ·have Hw:=aD hw
        have Hl:Hid (bR x.k y.s=true):=aD (by unfold bR;rw [if_pos h6,hw]);clear h6 hw;go_wp2_with (go_at_call 57;refine (gX _ _ hys.out).mono ?_;rintro e w3 ⟨rfl,rfl⟩;rw [Hw.out]);go_quiet (fail);go_wp2_with fail;go_roundw
        case rel=>exact ⟨k+1,by go_num,hp,(by repeat (first|exact hbr|refine aj ?_ _|refine dH ?_ _|refine h_ ?_)),aD (by rw [<-hgood.out,hstep.out,(show gQ x y p k l.length=true by unfold gQ;rw [if_neg H9.out,Hl.out,E_.out];simp),eO])⟩
        case measure=>simp [intOf];omega
      ·have Ep:(x.k==6)=false:=by simpa using h6
       by_cases h7:x.k=7
       ·have vR:(x.k==7)=true:=by simpa using h7
        have Hr:Hid (bK x.k=true):=aD (by simp [bK,h7])
        cases hw:tZ y.s
        ·have Hw:=aD hw
         have Hl:Hid (bR x.k y.s=false):=aD (by unfold bR;rw [if_neg h6,if_pos h7,hw]);clear h6 h7 hw;go_wp2_with (go_at_call 58;refine (mD _ _ hys.out).mono ?_;rintro e w3 ⟨rfl,rfl⟩;rw [Hw.out]);go_ret;exact ⟨aT (by rw [hfin.out,<-hgood.out,hstep.out,(show gQ x y p k l.length=false by unfold gQ;rw [if_neg H9.out,Hl.out];rfl),iy]),au jC (by repeat (first|exact hbr|refine aj ?_ _|refine dH ?_ _|refine h_ ?_))⟩
        ·have Hw:=aD hw
         have Hl:Hid (bR x.k y.s=true):=aD (by unfold bR;rw [if_neg h6,if_pos h7,hw]);clear h6 h7 hw;go_wp2_with (go_at_call 58;refine (mD _ _ hys.out).mono ?_;rintro e w3 ⟨rfl,rfl⟩;rw [Hw.out]);go_quiet (fail);go_wp2_with fail;go_roundw
         case rel=>exact ⟨k+1,by go_num,hp,(by repeat (first|exact hbr|refine aj ?_ _|refine dH ?_ _|refine h_ ?_)),aD (by rw [<-hgood.out,hstep.out,(show gQ x y p k l.length=true by unfold gQ;rw [if_neg H9.out,Hl.out,E_.out];simp),eO])⟩
         case measure=>simp [intOf];omega
       ·have vR:(x.k==7)=false:=by simpa using h7
        have Hr:Hid (bK x.k=false):=aD (by simp [bK,h6,h7])
        cases he:y.s.toList.isEmpty
        ·have Hl:Hid (bR x.k y.s=false):=aD (by unfold bR;rw [if_neg h6,if_neg h7,<-gq,he])
         clear h6 h7;go_wp2_with fail;go_ret;exact ⟨aT (by rw [hfin.out,<-hgood.out,hstep.out,(show gQ x y p k l.length=false by unfold gQ;rw [if_neg H9.out,Hl.out];rfl),iy]),au jC (by repeat (first|exact hbr|refine aj ?_ _|refine dH ?_ _|refine h_ ?_))⟩
        ·have Hl:Hid (bR x.k y.s=true):=aD (by unfold bR;rw [if_neg h6,if_neg h7,<-gq,he])
         clear h6 h7;go_wp2_with fail;go_quiet (fail);go_wp2_with fail;go_roundw
         case rel=>exact ⟨k+1,by go_num,hp,(by repeat (first|exact hbr|refine aj ?_ _|refine dH ?_ _|refine h_ ?_)),aD (by rw [<-hgood.out,hstep.out,(show gQ x y p k l.length=true by unfold gQ;rw [if_neg H9.out,Hl.out,Hr.out];rfl),eO])⟩
         case measure=>simp [intOf];omega
   ·have hz:=aD (show kT xs x l (l.length-k) k=true by rw [show l.length-k=0 by omega];rfl)
    go_wp2_with fail;go_ret;exact ⟨aT (by rw [hfin.out,<-hgood.out,hz.out]),au jC hbr⟩
 ·have ahM:((l.length:Int) !=(M:Int))=true:=by simp;omega
  have Wx:=aD KM;clear KM;go_wp2_with fail;go_ret;exact ⟨aT (by rw [hfin.out,decide_eq_false (by have:=Wx.out;omega)];rfl),jC⟩
def okB (x:Nd):Bool:=dR x.k x.n
def qB (xs:List Nd):Nat->Nat->Bool
 |0,_=>true
 |d+1,i=>gD xs i&&qB xs d (i+1)
def gY (xs:List Nd):Bool:=
 decide (xs.length<=10000)&&qy xs&&xs.all okB&&decide (sj xs 0=(xs.length:Int))&&dJ xs []&&qB xs xs.length 0
theorem DI (A:Option Addr) (c:Nat) (xs:List Nd) (w:World) (ha:bO w w.heap.size A xs) (hl:xs.length<=9223372036854775807) (hs:∀x∈xs,x.s.size<=9223372036854775807):
  Calls Tryz.prog 33 #[.slice A xs.length c] w fun e w'=>e= .returned (.bool (gY xs))/\Below w.heap.size w w':=by
 match ahQ:xs with
 |[]=>
  go_enter Tryz.func33,Tryz.ntmps33;go_wp2_with fail;go_ret
  exact ⟨rfl,aF _ _⟩
 |x::xs'=>
  obtain ⟨b1,o1,rfl,hb1,c10,c11,c12⟩:=ha.at_ (i:=0) (x:=x) rfl;have hlen:(x::xs').length=xs'.length+1:=rfl;simp only [Nat.zero_mul,Nat.add_zero] at c10 c11 c12;have hn0:(((x::xs').length:Int)==0)=false:=by rw [beq_eq_false_iff_ne];rw [hlen];omega
  clear ahQ;generalize hxs:x::xs'=xs at*;have Hxs:=aD hxs;have hpos:0<xs.length:=by omega
  clear hxs hlen;have Hs:=aD hs;clear hs;by_cases h10:xs.length<=10000
  ·have ahR:¬(10000:Int)<(xs.length:Int):=by omega
   cases he:x.s.toList.isEmpty
   ·have hroot:Hid (qy xs=false):=aD (by rw [<-Hxs.out];simp only [qy];rw [<-gq,he];rfl)
    go_enter Tryz.func33,Tryz.ntmps33;go_wp2_with fail;go_ret;exact ⟨aT (by simp [gY,hroot.out]),aF _ _⟩
   ·cases h9:(x.k==9)
    ·have hroot:Hid (qy xs=true):=aD (by rw [<-Hxs.out];simp only [qy];rw [<-gq,he,h9];rfl)
     go_enter Tryz.func33,Tryz.ntmps33;go_wp2_with fail;go_loopw [3] (fun k3 wr=>∃k:Nat,k3= .int .i64 k/\k<=xs.length/\Below w.heap.size w wr/\Hid (qF okB xs k=xs.all okB)) (fun k3 _=>xs.length-(intOf k3).toNat)
     case atStart=>exact ⟨0,rfl,bE _,aF _ _,aD rfl⟩
     case round=>
      obtain ⟨k,rfl,hk,hbr,hgood⟩:=hrel;by_cases hp:k<xs.length
      ·obtain ⟨y,hy⟩:=aN hp
       have hstep:=aD (uz (p:=okB) hy);obtain ⟨b2,o2,hte,hb2,c20,c21,IU⟩:=((ha.below hbr).more hbr.size).at_ hy;simp only [Option.some.injEq,Addr.mk.injEq,and_true] at hte;obtain ⟨rfl,rfl⟩:=hte;clear hy c10 c11 c12
       cases hok:dR y.k y.n
       ·have nJ:=aD hok
        go_wp2_with (go_at_call 47;refine (zF _ _ _ _).mono ?_;rintro e w1 ⟨rfl,hbx⟩;rw [nJ.out]);go_ret;exact ⟨aT (by unfold gY;rw [<-hgood.out,hstep.out,show okB y=false from nJ.out];simp),au hbr hbx⟩
       ·have nJ:=aD hok
        go_wp2_with (go_at_call 47;refine (zF _ _ _ _).mono ?_;rintro e w1 ⟨rfl,hbx⟩;rw [nJ.out]);go_roundw
        case rel=>exact ⟨k+1,by go_num,hp,au hbr hbx,aD (by rw [<-hgood.out,hstep.out,show okB y=true from nJ.out,eO])⟩
        case measure=>simp [intOf];omega
      ·have hall:Hid (xs.all okB=true):=aD (by rw [<-hgood.out,vO hp])
       have abC:bI xs:=fun x hx=>List.all_eq_true.1 hall.out x hx;have Fa:=aD abC;have har:=(ha.below hbr).more hbr.size;clear abC c10 c11 c12;obtain ⟨wo,rfl⟩:∃wo:World,wo=wr:=⟨_,rfl⟩;by_cases hend:sj xs 0=(xs.length:Int)
       ·have t_:=aD hend
        clear hend
        cases hsh:dJ xs []
        ·have Wz:=aD hsh
         clear hsh;go_wp2_with fail;refine (Cq _ c xs 0 _ har (by omega) Fa.out).mono ?_;rintro e w1 ⟨rfl,hb1'⟩;rw [t_.out];have SF:=(har.below hb1').more hb1'.size;go_wp2_with fail;refine (AV _ c xs _ SF (by omega) Fa.out).mono ?_;rintro e w2 ⟨rfl,hb2'⟩;rw [Wz.out];go_wp2_with fail;go_ret;exact ⟨aT (by unfold gY;rw [Wz.out];simp),au (au hbr hb1') hb2'⟩
        ·have Wz:=aD hsh
         clear hsh;go_wp2_with fail;refine (Cq _ c xs 0 _ har (by omega) Fa.out).mono ?_;rintro e w1 ⟨rfl,hb1'⟩;rw [t_.out];have SF:=(har.below hb1').more hb1'.size;go_wp2_with fail;refine (AV _ c xs _ SF (by omega) Fa.out).mono ?_;rintro e w2 ⟨rfl,hb2'⟩;rw [Wz.out];have Nq:=au (au hbr hb1') hb2';clear hb1' hb2' SF har;go_wp2_with fail;go_loopw [4] (fun k4 wi=>∃j:Nat,k4= .int .i64 j/\j<=xs.length/\Below w.heap.size w wi/\Hid (qB xs (xs.length-j) j=qB xs xs.length 0)) (fun k4 _=>xs.length-(intOf k4).toNat)
         case atStart=>exact ⟨0,rfl,bE _,Nq,aD rfl⟩
         case round=>
          obtain ⟨j,rfl,hj,hbi,dW⟩:=hrel;by_cases hpj:j<xs.length
          ·have hstep2:Hid (qB xs (xs.length-j) j=(gD xs j&&qB xs (xs.length-(j+1)) (j+1))):=aD (by rw [show xs.length-j=(xs.length-(j+1))+1 by omega];rfl)
           have hai:=(ha.below hbi).more hbi.size
           cases hlb:gD xs j
           ·have WB:=aD hlb
            clear hlb;go_wp2_with (go_at_call 50;refine (zJ _ c xs j _ hai (by omega) Fa.out hpj Hs.out).mono ?_;rintro e w5 ⟨rfl,hbx⟩;rw [WB.out]);go_ret;exact ⟨aT (by unfold gY;rw [<-dW.out,hstep2.out,WB.out];simp),au hbi hbx⟩
           ·have WB:=aD hlb
            clear hlb;go_wp2_with (go_at_call 50;refine (zJ _ c xs j _ hai (by omega) Fa.out hpj Hs.out).mono ?_;rintro e w5 ⟨rfl,hbx⟩;rw [WB.out]);go_roundw
            case rel=>exact ⟨j+1,by go_num,hpj,au hbi hbx,aD (by rw [<-dW.out,hstep2.out,WB.out,eO])⟩
            case measure=>simp [intOf];omega
          ·have hz:Hid (qB xs xs.length 0=true):=aD (by rw [<-dW.out,show xs.length-j=0 by omega];rfl)
           go_wp2_with fail;go_ret;exact ⟨aT (by unfold gY;rw [hz.out,Wz.out,t_.out,hall.out,hroot.out,decide_eq_true h10];simp),hbi⟩
       ·have Qc:(sj xs 0 !=(xs.length:Int))=true:=by simpa using hend
        have t_:=aD hend;clear hend;go_wp2_with (go_at_call 48;refine (Cq _ c xs 0 _ har (by omega) Fa.out).mono ?_;rintro e w1 ⟨rfl,hb1'⟩);go_ret;exact ⟨aT (by unfold gY;rw [decide_eq_false t_.out];simp),au hbr hb1'⟩
    ·have hroot:Hid (qy xs=false):=aD (by rw [<-Hxs.out];simp only [qy];rw [h9];simp)
     go_enter Tryz.func33,Tryz.ntmps33;go_wp2_with fail;go_ret;exact ⟨aT (by simp [gY,hroot.out]),aF _ _⟩
  ·have ahR:(10000:Int)<(xs.length:Int):=by omega
   go_enter Tryz.func33,Tryz.ntmps33;go_wp2_with fail;go_ret;exact ⟨aT (by simp [gY,h10]),aF _ _⟩
def manyN (x:Nd):Nat:=(many x.k x.n).toNat
def skip:List Nd->Nat->Option (List Nd)
 |xs,0=>some xs
 |[],_+1=>none
 |x::xs,n+1=>skip xs (n+manyN x)
theorem iL (xs:List Nd):skip xs 0=some xs:=by cases xs<;>rfl
theorem uX (n:Nat):skip [] (n+1)=none:=rfl
theorem jq (x:Nd) (xs:List Nd) (n:Nat):skip (x::xs) (n+1)=skip xs (n+manyN x):=rfl
theorem y9:∀(xs:List Nd) (a b:Nat),skip xs (a+b)=(skip xs a).bind fun ys=>skip ys b:=by
 intro xs
 induction xs with
 |nil=>
  intro a b
  cases a with
  |zero=>rw [iL,iC];rfl
  |succ a=>rw [uX,show a+1+b=(a+b)+1 by omega,uX];rfl
 |cons x xs ih=>
  intro a b
  cases a with
  |zero=>rw [iL,iC];rfl
  |succ a=>
   rw [jq,show a+1+b=(a+b)+1 by omega,jq,<-ih]
   congr 1
   omega
def Fo (n:Nat) (xs:List Nd):Prop:=skip xs n=some []
theorem KN:∀(ps ys:List Nd) (n:Nat) (r:List Nd),skip ps n=some r->skip (ps++ys) n=some (r++ys):=by
 intro ps
 induction ps with
 |nil=>
  intro ys n r h
  cases n with
  |zero=>rw [iL] at h ⊢;injection h with h;subst h;rfl
  |succ n=>cases h
 |cons x ps ih=>
  intro ys n r h
  cases n with
  |zero=>rw [iL] at h ⊢;injection h with h;subst h;rfl
  |succ n=>rw [jq] at h;rw [List.cons_append,jq];exact ih ys _ r h
theorem Fo.pass {n:Nat} {ps:List Nd} (h:Fo n ps) (ys:List Nd):skip (ps++ys) n=some ys:=KN ps ys n [] h
theorem DJ:∀(xs:List Nd) (n:Nat) (ys:List Nd),skip xs n=some ys->∃ps,xs=ps++ys/\Fo n ps:=by
 intro xs
 induction xs with
 |nil=>
  intro n ys h
  cases n with
  |zero=>rw [iL] at h;injection h with h;subst h;exact ⟨[],rfl,rfl⟩
  |succ n=>cases h
 |cons x xs ih=>
  intro n ys h
  cases n with
  |zero=>rw [iL] at h;injection h with h;subst h;exact ⟨[],rfl,rfl⟩
  |succ n=>
   rw [jq] at h;obtain ⟨ps,rfl,hf⟩:=ih _ _ h;exact ⟨x::ps,rfl,hf⟩
theorem Fo.zero:Fo 0 []:=rfl
theorem Fo.SG {n:Nat} (h:Fo n []):n=0:=by cases n with|zero=>rfl|succ n=>cases h
theorem Fo.jy {xs:List Nd} (h:Fo 0 xs):xs=[]:=by unfold Fo at h;rw [iL] at h;injection h
theorem Fo.append {a b:Nat} {ps qs:List Nd} (h:Fo a ps) (k:Fo b qs):Fo (a+b) (ps++qs):=by
 show skip (ps++qs) (a+b)=some [];rw [y9,h.pass];exact k
theorem Fo.cons {n:Nat} {x:Nd} {ks rs:List Nd} (h:Fo (manyN x) ks) (k:Fo n rs):Fo (n+1) (x::(ks++rs)):=by
 show skip (ks++rs) (n+manyN x)=some [];rw [iK,y9,h.pass];exact k
theorem Fo.za {n:Nat} {x:Nd} {ys:List Nd} (h:Fo (n+1) (x::ys)):∃ks rs,ys=ks++rs/\Fo (manyN x) ks/\Fo n rs:=by
 have h':skip ys (n+manyN x)=some []:=h;rw [iK,y9] at h'
 cases hs:skip ys (manyN x) with
 |none=>rw [hs] at h';cases h'
 |some rs=>
  rw [hs] at h';obtain ⟨ks,rfl,hk⟩:=DJ _ _ _ hs;exact ⟨ks,rs,rfl,hk,h'⟩
theorem Fo.first {n:Nat} {xs:List Nd} (h:Fo (n+1) xs):∃ts rs,xs=ts++rs/\Fo 1 ts/\Fo n rs:=by
 have h':skip xs (n+1)=some []:=h;rw [iK,y9] at h'
 cases hs:skip xs 1 with
 |none=>rw [hs] at h';cases h'
 |some rs=>
  rw [hs] at h';obtain ⟨ts,rfl,ht⟩:=DJ _ _ _ hs;exact ⟨ts,rs,rfl,ht,h'⟩
theorem Fo.pos {n:Nat} {xs:List Nd} (h:Fo (n+1) xs):0<xs.length:=by
 cases xs with
 |nil=>cases h
 |cons x xs=>simp
theorem j4 {x:Nd} (h:dR x.k x.n=true):many x.k x.n=(manyN x:Int):=by
 have:=qG h;unfold manyN;omega
end Go.Proofs.YtmjdhfbnmmdjiaaGreat
