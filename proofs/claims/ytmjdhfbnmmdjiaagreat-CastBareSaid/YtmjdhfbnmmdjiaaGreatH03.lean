/- Laid together by a tool from the texts of this seat: RRight. Conditions: each theorem's own. -/
import Derived.Test.YtmjdhfbnmmdjiaaGreatH02
set_option maxHeartbeats 8000000
set_option maxRecDepth 100000
namespace Go.Proofs.YtmjdhfbnmmdjiaaGreat
open Go.Lib renaming hid->aB
open Go.RowKit.Below renaming drew->iL,refl->aI
open _root_.Bool renaming false_and->iM,true_and->f_
open _root_.Nat renaming zero_add->iO,zero_le->cu,add_comm->jf
open _root_.List renaming flatMap_cons->iW,take_of_length_le->ji,length_take->jm,eq_nil_of_length_eq_zero->fD,getElem?_append_right->kg,reverse_append->kJ
open Go.RowKit
section
variable {α:Type} {enc:α->List Value} {size e base:Nat} {w w':World} {A:Option Addr} {cap B:Nat} {l:List α}
theorem JX (hk:∀x,(enc x).length=size):∀(l:List α) (k:Nat),(l.take k).flatMap enc=(l.flatMap enc).take (k*size):=by
 intro l
 induction l with
 |nil=>intro k;simp
 |cons x l ih=>
  intro k
  cases k with
  |zero=>simp
  |succ k=>
   rw [List.take_succ_cons,iW,iW,ih,List.take_append,hk,show (k+1)*size-size=k*size by rw [Nat.succ_mul];omega,ji (l:=enc x) (by rw [hk,Nat.succ_mul];omega)]
theorem ay.cut (hk:∀x,(enc x).length=size) (h:ay e size enc w base A cap l) {k:Nat} (hkl:k<=l.length):ay e size enc w base A cap (l.take k):=by
 unfold ay at h ⊢;have hlen:(l.take k).length=k:=by rw [jm];omega
 refine ⟨jJ hk _,?_⟩;rw [hlen];rcases h.2 with ⟨hv,hn⟩|⟨g,cap',cur,hv,hbg,hg,hnc,hcm,hcs,htake⟩
 ·injection hv with hA hl hc
  subst hA hc;exact .inl ⟨by rw [show k=0 by omega],by omega⟩
 ·injection hv with hA hl hc
  subst hA hc;refine .inr ⟨g,cap,cur,rfl,hbg,hg,by omega,hcm,hcs,?_⟩;rw [JX hk,<-htake,List.take_take,Nat.min_eq_left (Nat.mul_le_mul_right _ hkl)]
end
theorem ru (l:List Int):l.flatMap encI=l.map fun n=>Value.int .i64 n:=by
 induction l with
 |nil=>rfl
 |cons n l ih=>rw [iW,List.map_cons,ih];rfl
theorem ay.O4 {w:World} {base:Nat} {A:Option Addr} {cap:Nat} {l:List Int} (h:eX w base A cap l) {j:Nat} (hj:j<l.length) (n:Int):
  ∃g,A=some ⟨g,0,none⟩/\base<=g/\g<w.heap.size/\(∃m,l[j]?=some m/\w.cell? ⟨g,j,none⟩=some (.int .i64 m))/\w.frozen? ⟨g,j,none⟩=false/\
   eX (w.setCell ⟨g,j,none⟩ (.int .i64 n)) base A cap (l.set j n)/\w.grownBy (w.setCell ⟨g,j,none⟩ (.int .i64 n)) (some g):=by
 obtain ⟨m,hm⟩:=aJ hj;obtain ⟨b,o,hA,hb,hc⟩:=aS.int (ay.read dK h) hm;have h':w.ownsRow base 3 1 (.slice A l.length cap) l.length (l.flatMap encI):=h;rcases h'.2 with ⟨hv,hn⟩|⟨g,cap',cur,hv,hbg,hg,hnc,hcm,hcs,htake⟩
 ·injection hv with hA' hl hc'
  rw [hA'] at hA
  cases hA
 ·injection hv with hA' hl hc'
  subst hA';injection hA with hA
  injection hA with hA1 hA2 hA3
  subst hA1;rw [<-hA2,iO] at hc;obtain ⟨h2,h3⟩:=World.ownsRow.stored h' j (.int .i64 n);refine ⟨g,rfl,hbg,hb,⟨m,hm,hc⟩,World.ownsRow.frozenAt h' j,?_,h3⟩;show (w.setCell ⟨g,j,none⟩ (.int .i64 n)).ownsRow base 3 1 (.slice (some ⟨g,0,none⟩) (l.set j n).length cap) (l.set j n).length ((l.set j n).flatMap encI);rw [List.length_set,ru,List.map_set,<-ru];exact h2
def settle:List Int->Int->List Int
 |[],a=>if a=0 then [] else [a]
 |b::r,a=>if a=0 then settle r (b-1) else a::b::r
def mX:List Int->List Int
 |[]=>[]
 |a::r=>settle r a
def dI:List Nd->List Int->Bool
 |[],_=>true
 |x::xs,st=>if 100<=st.length then false else dI xs (mX (many x.k x.n::st))
theorem yI {a:Int} (h:a≠0) (r:List Int):settle r a=a::r:=by cases r<;>simp [settle,h]
theorem EU:∀(r:List Int) (a:Int),(settle r a).length<=r.length+1:=by
 intro r
 induction r with
 |nil=>intro a;simp only [settle];split<;>simp
 |cons b r ih=>
  intro a;simp only [settle];split
  ·have:=ih (b-1)
   simp;omega
  ·simp
def lenOf:Value->Nat
 | .slice _ n _=>n
 |_=>0
theorem Cq {α:Type} {l:List α} {m:Nat} (h:l.length=m+1):∃l0 a,l=l0++[a]/\l0.length=m:=by
 refine ⟨l.take m,l[m],?_,by rw [jm];omega⟩;have h1:l.take (m+1)=l:=ji (by omega);rw [List.take_succ_eq_append_getElem (by omega)] at h1;exact h1.symm
theorem ay.form {α:Type} {enc:α->List Value} {size e base:Nat} {w:World} {A:Option Addr} {cap:Nat} {l:List α} (h:ay e size enc w base A cap l) (hl:0<l.length):
  ∃g,A=some ⟨g,0,none⟩/\base<=g/\g<w.heap.size/\l.length<=cap/\cap<=9223372036854775807:=by
 rcases h.2 with ⟨hv,hn⟩|⟨g,cap',cur,hv,hbg,hg,hnc,hcm,hcs,htake⟩
 ·omega
 ·injection hv with hA hl hc
  subst hA hc;exact ⟨g,rfl,hbg,lt_of_block hg,hnc,by unfold maxLen at hcm;omega⟩
def YH (l:List Int):Prop:=∀(l0:List Int) (a:Int),l=l0++[a]->0<=a/\a<=50/\∀v∈l0,1<=v/\v<=50
theorem Gp {l:List Int} {a:Int} (h:∀v∈l,1<=v/\v<=50) (h0:0<=a) (h1:a<=50):YH (l++[a]):=by
 intro l0 b e;obtain ⟨rfl,hb⟩:=List.append_inj' e rfl;simp at hb;subst hb;exact ⟨h0,h1,h⟩
theorem Cr (A:Option Addr) (c:Nat) (xs:List Nd) (w:World) (ha:bJ w w.heap.size A xs) (hl:xs.length<=1000000) (hok:bC xs):
  Calls Tryz.prog 49 #[.slice A xs.length c] w fun e w'=>e= .returned (.bool (dI xs []))/\Below w.heap.size w w':=by
 have n_:=aB hok;clear hok;have hown0:=gL 3 1 encI w;have hb0:=au (aI w.heap.size w) (.cells #[] 3);go_enter Tryz.func49,Tryz.ntmps49;go_wp2_with fail
 go_loopw [3,4] (fun o3 k4 wr=>∃(k:Nat) (A':Option Addr) (cap':Nat) (l:List Int),o3= .slice A' l.length cap'/\k4= .int .i64 k/\k<=xs.length/\l.length<=100/\Hid (∀v∈l,1<=v/\v<=50)/\
   eX wr w.heap.size A' cap' l/\Below w.heap.size w wr/\Hid (dI (xs.drop k) l.reverse=dI xs []))
  (fun _ k4 _=>xs.length-(intOf k4).toNat)
 case atStart=>exact ⟨0,_,_,[],rfl,rfl,cu _,by simp,aB (by simp),hown0,hb0,aB rfl⟩
 case round=>
  obtain ⟨k,A',cap',l,rfl,rfl,hk,ae7,hpos,hown,hbel,hgood⟩:=hrel;by_cases hp:k<xs.length
  ·obtain ⟨x,hx⟩:=aJ hp
   obtain ⟨M,hM,YG,_⟩:=DK (n_.out x (gH hx));obtain ⟨b1,o1,rfl,hb1,c10,c11,c12⟩:=((ha.below hbel).more hbel.size).at_ hx;have HM:=aB hM;by_cases yJ:l.length=100
   ·have hfin:=aB (show dI (xs.drop k) l.reverse=false by rw [drop_cons hx];simp [dI,yJ])
    have Gq:(100:Int)<=(l.length:Int):=by omega
    clear hx yJ hM;go_wp2_with fail;go_ret;exact ⟨aO (by rw [<-hgood.out,hfin.out]),hbel⟩
   ·have dX:Hid (dI (xs.drop (k+1)) (mX ((l++[(M:Int)]).reverse))=dI xs []):=aB (by
     rw [<-hgood.out,drop_cons hx];simp [dI,hM,show ¬100<=l.length by omega])
    have Gq:¬(100:Int)<=(l.length:Int):=by omega
    have ae8:l.length<100:=by omega
    clear hx yJ hM hgood;go_wp2_with fail;refine (oI _ _ _ _).mono ?_;rintro e w1 ⟨rfl,hbx⟩;rw [HM.out];have hown1:=ay.below hown hbx (Nat.le_refl _);have jD:=ah hbel hbx;have z1:=jD.size;go_wp2_with (at_builtin;refine sK rfl (.tmp 15) (.tmp 21) rfl w.heap.size (l:=l) rfl (ay.alloc hown1 _) (l2:=[(M:Int)]) rfl (wW _ _) (by simp;omega) (by simp;omega) ?_;intro A2 cap2 w3 hown3 hg3 _);have dH:=iB (au jD _) hg3 (fun k hk=>(ay.block hown1 k hk).1);clear hg3 hbx hown1;have hst:Hid (YH (l++[(M:Int)])):=aB (Gp hpos.out (by omega) (by omega));obtain ⟨wo,rfl⟩:∃wo:World,wo=wr:=⟨_,rfl⟩
    go_loopw [3] (fun o3 wi=>∃(A3:Option Addr) (rH:Nat) (l3:List Int),o3= .slice A3 l3.length rH/\l3.length<=101/\Hid (YH l3)/\eX wi w.heap.size A3 rH l3/\Below w.heap.size w wi/\
      Hid (mX l3.reverse=mX ((l++[(M:Int)]).reverse)))
     (fun o3 _=>lenOf o3)
    case atStart=>exact ⟨_,_,l++[(M:Int)],by simp,by simp;omega,hst,hown3,dH,aB rfl⟩
    case round=>
     clear hown3 dH hst;obtain ⟨A3,rH,l3,rfl,RN,hst,hown3,dH,sM⟩:=hrel;rcases Nat.eq_zero_or_pos l3.length with hz|hz
     ·have hnil:l3=[]:=fD hz
      subst hnil;go_wp2_with fail;go_roundw
      case rel=>exact ⟨k+1,A3,rH,[],rfl,by go_num,hp,by simp,aB (by simp),hown3,dH,aB (by rw [<-dX.out,<-sM.out];rfl)⟩
      case measure=>simp [intOf];omega
     ·obtain ⟨l0,a,hl3,hm⟩:=Cq (show l3.length=(l3.length-1)+1 by omega)
      generalize hmm:l3.length-1=m at hm;have hlen3:l3.length=m+1:=by omega
      rw [hlen3] at RN ⊢;have hread:=ay.read dK hown3;obtain ⟨b3,rfl,YI,hb3,RO,ae9⟩:=ay.form hown3 hz;obtain ⟨_,_,e3,_,c3⟩:=aS.int hread (i:=m) (n:=a) (by rw [hl3,kg (by omega)];simp [hm]);simp only [Option.some.injEq,Addr.mk.injEq,and_true] at e3;obtain ⟨rfl,rfl⟩:=e3;rw [iO] at c3;rw [hlen3] at RO;have hbd:=hst.out l0 a hl3;obtain ⟨ha0,ha1,hl0⟩:=hbd;have Ct:=aB hl3;have Hm:=aB hm;have Gr:=aB hlen3;have RP:=aB hl0;have hm0:=aB (show m=l0.length from hm.symm);clear hl3 hm hlen3 hmm hl0 hz hread;by_cases haz:a=0
      ·have YJ:(a==0)=true:=by simpa using haz
       have FQ:=aB haz;clear haz
       have hcut:eX wr w.heap.size (some ⟨b3,0,none⟩) rH l0:=by
        have:=ay.cut dK hown3 (k:=l0.length) (by rw [Ct.out];simp)
        rwa [Ct.out,List.take_left] at this
       cases m with
       |zero=>
        have hnil:l0=[]:=fD Hm.out;subst hnil;go_wp2_with fail;go_roundw
        case rel=>exact ⟨_,rH,[],rfl,by simp,aB (fun l0 a h=>by simp at h),hcut,dH,aB (by rw [<-sM.out,Ct.out,FQ.out];rfl)⟩
        case measure=>simp [lenOf]
       |succ j=>
        obtain ⟨l00,b,Cu,hj⟩:=Cq Hm.out;have hb:=RP.out b (by rw [Cu];simp);obtain ⟨akg,akh⟩:=hb;obtain ⟨g,hg,_,_,⟨b',hb',c4⟩,f4,hset,hgr⟩:=ay.O4 hcut (j:=j) (by rw [Hm.out];omega) (b-1);simp only [Option.some.injEq,Addr.mk.injEq,and_true] at hg;subst hg;rw [Cu,kg (by omega)] at hb';simp [hj] at hb';subst hb';have Gs:=aB Cu;have Hj:=aB hj;have YK:=aB hset;clear Cu hj hset;go_wp2_with fail;go_roundw
        case rel=>exact ⟨some ⟨b3,0,none⟩,rH,l00++[b-1],by simp [Hj.out],by simp [Hj.out];omega,aB (Gp (fun v hv=>RP.out v (by rw [Gs.out];simp [hv])) (by omega) (by omega)),by
         have h1:=YK.out;rw [Gs.out] at h1;rw [List.set_append_right _ _ (by rw [Hj.out];omega),Hj.out,Nat.sub_self] at h1;exact h1,dH.setCell YI _,aB (by rw [<-sM.out,Ct.out,FQ.out,Gs.out];simp [mX,settle])⟩
        case measure=>simp [lenOf]
      ·have YJ:(a==0)=false:=by simpa using haz
       have FQ:=aB haz;clear haz;go_wp2_with fail;go_roundw
       case rel=>exact ⟨k+1,_,rH,l3,by rw [Gr.out],by go_num,hp,by
        have h1:=EU (l.reverse) (M:Int);have h2:=sM.out;rw [Ct.out,kJ,kJ] at h2;have h3:settle l0.reverse a=settle l.reverse (M:Int):=h2;rw [yI FQ.out] at h3;rw [<-h3] at h1;have:=Gr.out;have:=Hm.out;simp at h1;omega,aB (by
        rw [Ct.out];intro v hv;rcases List.mem_append.1 hv with hv|hv
        ·exact RP.out v hv
        ·simp at hv;subst hv;have:=FQ.out;omega),hown3,dH,aB (by
        rw [<-dX.out,<-sM.out,Ct.out];simp [mX,yI FQ.out])⟩
       case measure=>simp [intOf];omega
  ·have hfin:=aB (show dI (xs.drop k) l.reverse=true by rw [List.drop_of_length_le (by omega)];rfl)
   go_wp2_with fail;go_ret;exact ⟨aO (by rw [<-hgood.out,hfin.out]),hbel⟩
def ig (x y prev:Nd) (k n:Nat):Bool:=
 if y.k=9 then bF x.k&&decide (k+1=n)&&decide (y.s.size=0)
 else bP x.k y.s&& !(bF x.k&&decide (0<k)&& !Op.bytesLess prev.s.toList y.s.toList)
def xW (xs:List Nd) (l:List Nat) (k:Nat):Nd:=(xs[(l[k]?).getD 0]?).getD default
def lg (xs:List Nd) (x:Nd) (l:List Nat):Nat->Nat->Bool
 |0,_=>true
 |d+1,k=>ig x (xW xs l k) (xW xs l (k-1)) k l.length&&lg xs x l d (k+1)
def gM (xs:List Nd) (i:Nat):Bool:=
 match xs[i]? with
 |none=>false
 |some x=>decide (((eu xs i).length:Int)=many x.k x.n)&&lg xs x (eu xs i) (eu xs i).length 0
theorem Bo {xs:List Nd}:∀(d at_:Nat),∀j∈aV xs d at_,j<xs.length:=by
 intro d
 induction d with
 |zero=>intro at_ j h;simp [aV] at h
 |succ d ih=>
  intro at_ j h;simp only [aV] at h;split at h
  ·rcases List.mem_cons.1 h with rfl|h
   ·assumption
   ·exact ih _ j h
  ·simp at h
theorem V7 {xs:List Nd} {i:Int}:∀j∈eu xs i,j<xs.length:=by
 intro j h;unfold eu at h;split at h
 ·simp at h
 ·split at h
  ·simp at h
  ·exact Bo _ _ j h
theorem O5 {xs:List Nd}:∀(d at_:Nat),(aV xs d at_).length<=d:=by
 intro d
 induction d with
 |zero=>intro at_;simp [aV]
 |succ d ih=>
  intro at_;simp only [aV];split
  ·have:=ih (endGo (xs.drop at_) 1 at_)
   simp;omega
  ·simp
theorem MF {a b:Bool} (h:(a||b)=true):a=false->b=true:=by cases a<;>simp_all
theorem p8 {l:List Nat} {k j:Nat} (h:l[k]?=some j):(cB l)[k]?=some (j:Int):=by
 unfold cB;rw [List.getElem?_map,h];rfl
theorem mh (l:List Nat):(cB l).length=l.length:=by simp [cB]
theorem AL (A:Option Addr) (c:Nat) (xs:List Nd) (i:Nat) (w:World) (ha:bJ w w.heap.size A xs) (hl:xs.length<=1000000) (hok:bC xs) (hi:i<xs.length) (hs:∀x∈xs,x.s.size<=9223372036854775807):
  Calls Tryz.prog 50 #[.slice A xs.length c,.int .i64 i] w fun e w'=>e= .returned (.bool (gM xs i))/\Below w.heap.size w w':=by
 have n_:=aB hok;have Hs:=aB hs;clear hok hs;obtain ⟨x,hx⟩:=aJ hi;obtain ⟨M,hM,YG,_⟩:=DK (n_.out x (gH hx));have hfin:Hid (gM xs i=(decide (((eu xs i).length:Int)=(M:Int))&&lg xs x (eu xs i) (eu xs i).length 0)):=aB (by unfold gM;rw [hx];simp [hM]);have HM:=aB hM;have Hx:=aB hx;clear hx hM;go_enter Tryz.func50,Tryz.ntmps50;go_wp2_with fail;refine (tN A c xs i w ha hl n_.out).mono ?_;rintro e w1 ⟨A',cap',rfl,hown,hbel⟩;have hlt:=aB (V7 (xs:=xs) (i:=i))
 have afa:=aB (show (eu xs i).length<=50 by
  unfold eu;rw [if_neg (by omega)];simp only [Int.toNat_natCast,Hx.out,HM.out];exact Nat.le_trans (O5 _ _) YG)
 rw [mh];generalize hks:eu xs i=l at*;have hread:=ay.read dK hown;have ha1:=(ha.below hbel).more hbel.size;have hll:l.length<=50:=afa.out;clear hks hown;obtain ⟨b1,o1,rfl,hb1,c10,c11,c12⟩:=ha1.at_ Hx.out;go_wp2_with fail;refine (oI _ _ _ _).mono ?_;rintro e w2 ⟨rfl,hb2⟩;rw [HM.out];have jk:=ah hbel hb2;have ha2:=(ha1.below hb2).more hb2.size;have acn:=(aS.below hread hb2).more hb2.size;clear c10 c11 c12 hread ha1 hb2 hb1;clear hbel;clear w1;by_cases MG:l.length=M
 ·have aki:((l.length:Int) !=(M:Int))=false:=by simp [MG]
  have YL:=aB MG;clear MG;go_wp2_with fail
  go_loopw [6] (fun k6 wr=>∃k:Nat,k6= .int .i64 k/\k<=l.length/\Below w2.heap.size w2 wr/\Hid (lg xs x l (l.length-k) k=lg xs x l l.length 0))
   (fun k6 _=>l.length-(intOf k6).toNat)
  case atStart=>exact ⟨0,rfl,cu _,aI _ _,aB rfl⟩
  case round=>
   obtain ⟨k,rfl,hk,hbr,hgood⟩:=hrel;rw [show decide ((l.length:Int)=(M:Int))=true by simp [YL.out],f_] at hfin;by_cases hp:k<l.length
   ·obtain ⟨j,hj⟩:=aJ hp
    have hjl:=hlt.out j (gH hj);obtain ⟨y,hy⟩:=aJ hjl;have hys:=aB (Hs.out y (gH hy))
    have hstep:Hid (lg xs x l (l.length-k) k=(ig x y (xW xs l (k-1)) k l.length&&lg xs x l (l.length-(k+1)) (k+1))):=aB (by
     rw [show l.length-k=(l.length-(k+1))+1 by omega];simp [lg,xW,hj,hy])
    generalize hpv:xW xs l (k-1)=p at hstep;have hre:=(aS.below acn hbr).more hbr.size;have hae:=(ha2.below hbr).more hbr.size;obtain ⟨bl,ol,rfl,hbl,cl⟩:=aS.int hre (p8 hj);obtain ⟨bt,ot,hte,hbt,cx0,cx1,cx2⟩:=hae.at_ Hx.out;simp only [Option.some.injEq,Addr.mk.injEq,and_true] at hte;obtain ⟨rfl,rfl⟩:=hte;obtain ⟨_,_,hte,_,cy0,cy1,cy2⟩:=hae.at_ hy;simp only [Option.some.injEq,Addr.mk.injEq,and_true] at hte;obtain ⟨rfl,rfl⟩:=hte;have s1:bl<wr.heap.size+1:=by omega
    have s2:b1<wr.heap.size+1:=by omega
    have Hj:=aB hj;have Hy:=aB hy;have Hpv:=aB hpv;clear hj hy hpv;by_cases h9:y.k=9
    ·have OY:(y.k==9)=true:=by simpa using h9
     have H9:=aB h9;clear h9;by_cases hrow:bF x.k=true
     ·have YM:(x.k==6||x.k==7)=true:=hrow
      have O6:=aB hrow;by_cases hla:k+1=l.length
      ·have hlab:((k:Int)==(l.length:Int)-1)=true:=by simp;omega
       have Hla:=aB hla
       cases he:y.s.toList.isEmpty
       ·have He:=aB he
        clear hla hrow
        cases FR:(x.k==6)
        all_goals
         have wX:=aB (MF YM)
         first|(have h7c:=wX.out FR;clear wX)|clear wX
         go_wp2_with fail;go_ret;exact ⟨aO (by rw [hfin.out,<-hgood.out,hstep.out,(show ig x y p k l.length=false by unfold ig;rw [if_pos H9.out,<-gD,He.out,Bool.and_false]),iM]),ah jk (by repeat (first|exact hbr|refine au ?_ _|refine dB ?_ _|refine iL ?_))⟩
       ·have He:=aB he
        clear hla hrow
        cases FR:(x.k==6)
        all_goals
         have wX:=aB (MF YM)
         first|(have h7c:=wX.out FR;clear wX)|clear wX
         go_wp2_with fail;go_roundw
         case rel=>exact ⟨k+1,by go_num,hp,(by repeat (first|exact hbr|refine au ?_ _|refine dB ?_ _|refine iL ?_)),aB (by rw [<-hgood.out,hstep.out,(show ig x y p k l.length=true by unfold ig;rw [if_pos H9.out,<-gD,He.out,O6.out,decide_eq_true Hla.out];rfl),f_])⟩
         case measure=>simp [intOf];omega
      ·have hlab:((k:Int)==(l.length:Int)-1)=false:=by rw [beq_eq_false_iff_ne];omega
       have Hla:=aB hla;clear hla hrow
       cases FR:(x.k==6)
       all_goals
        have wX:=aB (MF YM)
        first|(have h7c:=wX.out FR;clear wX)|clear wX
        go_wp2_with fail;go_ret;exact ⟨aO (by rw [hfin.out,<-hgood.out,hstep.out,(show ig x y p k l.length=false by unfold ig;rw [if_pos H9.out,decide_eq_false Hla.out];simp),iM]),ah jk (by repeat (first|exact hbr|refine au ?_ _|refine dB ?_ _|refine iL ?_))⟩
     ·have O6:=aB (show bF x.k=false by simpa using hrow)
      have FR:(x.k==6)=false:=by have:=O6.out;simp [bF] at this;simpa using this.1
      have wX:(x.k==7)=false:=by have:=O6.out;simp [bF] at this;simpa using this.2
      clear hrow;go_wp2_with fail;go_ret;exact ⟨aO (by rw [hfin.out,<-hgood.out,hstep.out,(show ig x y p k l.length=false by unfold ig;rw [if_pos H9.out,O6.out];rfl),iM]),ah jk (by repeat (first|exact hbr|refine au ?_ _|refine dB ?_ _|refine iL ?_))⟩
    ·have OY:(y.k==9)=false:=by simpa using h9
     have H9:=aB h9;clear h9;by_cases hk0:0<k
     ·have O7:(0:Int)<(k:Int):=by omega
      have Gt:=aB hk0;obtain ⟨jp,hjp⟩:=aJ (show k-1<l.length by omega);have akl:=hlt.out jp (gH hjp);obtain ⟨q,hq⟩:=aJ akl;have hpq:q=p:=by have:=Hpv.out;simp [xW,hjp,hq] at this;exact this
      subst hpq;obtain ⟨_,_,hte,_,clp⟩:=aS.int hre (p8 hjp);simp only [Option.some.injEq,Addr.mk.injEq,and_true] at hte;obtain ⟨rfl,rfl⟩:=hte;obtain ⟨_,_,hte,_,cp0,cp1,cp2⟩:=hae.at_ hq;simp only [Option.some.injEq,Addr.mk.injEq,and_true] at hte;obtain ⟨rfl,rfl⟩:=hte;have hkp:k-1<l.length:=by omega
      clear hjp hq;by_cases h6:x.k=6
      ·have FR:(x.k==6)=true:=by simpa using h6
       have wX:(x.k==7)=false:=by simp [h6]
       have Hr:Hid (bF x.k=true):=aB (by simp [bF,h6])
       cases hw:oJ y.s
       ·have Hw:=aB hw
        have Hl:Hid (bP x.k y.s=false):=aB (by unfold bP;rw [if_pos h6,hw]);clear h6 hw;go_wp2_with (go_at_call 57;refine (iw _ _ hys.out).mono ?_;rintro e w3 ⟨rfl,rfl⟩;rw [Hw.out]);go_ret;exact ⟨aO (by rw [hfin.out,<-hgood.out,hstep.out,(show ig x y q k l.length=false by unfold ig;rw [if_neg H9.out,Hl.out];rfl),iM]),ah jk (by repeat (first|exact hbr|refine au ?_ _|refine dB ?_ _|refine iL ?_))⟩
       ·have Hw:=aB hw
        have Hl:Hid (bP x.k y.s=true):=aB (by unfold bP;rw [if_pos h6,hw]);clear h6 hw
        cases hlt:Op.bytesLess q.s.toList y.s.toList
        ·have FU:=aB hlt
         go_wp2_with (go_at_call 57;refine (iw _ _ hys.out).mono ?_;rintro e w3 ⟨rfl,rfl⟩;rw [Hw.out]);go_quiet (fail);go_wp2_with fail;go_ret;exact ⟨aO (by rw [hfin.out,<-hgood.out,hstep.out,(show ig x y q k l.length=false by unfold ig;rw [if_neg H9.out,Hl.out,Hr.out,FU.out];simp [Gt.out]),iM]),ah jk (by repeat (first|exact hbr|refine au ?_ _|refine dB ?_ _|refine iL ?_))⟩
        ·have FU:=aB hlt
         go_wp2_with (go_at_call 57;refine (iw _ _ hys.out).mono ?_;rintro e w3 ⟨rfl,rfl⟩;rw [Hw.out]);go_quiet (fail);go_wp2_with fail;go_roundw
         case rel=>exact ⟨k+1,by go_num,hp,(by repeat (first|exact hbr|refine au ?_ _|refine dB ?_ _|refine iL ?_)),aB (by rw [<-hgood.out,hstep.out,(show ig x y q k l.length=true by unfold ig;rw [if_neg H9.out,Hl.out,FU.out];simp),f_])⟩
         case measure=>simp [intOf];omega
      ·have FR:(x.k==6)=false:=by simpa using h6
       by_cases h7:x.k=7
       ·have wX:(x.k==7)=true:=by simpa using h7
        have Hr:Hid (bF x.k=true):=aB (by simp [bF,h7])
        cases hw:uU y.s
        ·have Hw:=aB hw
         have Hl:Hid (bP x.k y.s=false):=aB (by unfold bP;rw [if_neg h6,if_pos h7,hw]);clear h6 h7 hw;go_wp2_with (go_at_call 58;refine (mU _ _ hys.out).mono ?_;rintro e w3 ⟨rfl,rfl⟩;rw [Hw.out]);go_ret;exact ⟨aO (by rw [hfin.out,<-hgood.out,hstep.out,(show ig x y q k l.length=false by unfold ig;rw [if_neg H9.out,Hl.out];rfl),iM]),ah jk (by repeat (first|exact hbr|refine au ?_ _|refine dB ?_ _|refine iL ?_))⟩
        ·have Hw:=aB hw
         have Hl:Hid (bP x.k y.s=true):=aB (by unfold bP;rw [if_neg h6,if_pos h7,hw]);clear h6 h7 hw
         cases hlt:Op.bytesLess q.s.toList y.s.toList
         ·have FU:=aB hlt
          go_wp2_with (go_at_call 58;refine (mU _ _ hys.out).mono ?_;rintro e w3 ⟨rfl,rfl⟩;rw [Hw.out]);go_quiet (fail);go_wp2_with fail;go_ret;exact ⟨aO (by rw [hfin.out,<-hgood.out,hstep.out,(show ig x y q k l.length=false by unfold ig;rw [if_neg H9.out,Hl.out,Hr.out,FU.out];simp [Gt.out]),iM]),ah jk (by repeat (first|exact hbr|refine au ?_ _|refine dB ?_ _|refine iL ?_))⟩
         ·have FU:=aB hlt
          go_wp2_with (go_at_call 58;refine (mU _ _ hys.out).mono ?_;rintro e w3 ⟨rfl,rfl⟩;rw [Hw.out]);go_quiet (fail);go_wp2_with fail;go_roundw
          case rel=>exact ⟨k+1,by go_num,hp,(by repeat (first|exact hbr|refine au ?_ _|refine dB ?_ _|refine iL ?_)),aB (by rw [<-hgood.out,hstep.out,(show ig x y q k l.length=true by unfold ig;rw [if_neg H9.out,Hl.out,FU.out];simp),f_])⟩
          case measure=>simp [intOf];omega
       ·have wX:(x.k==7)=false:=by simpa using h7
        have Hr:Hid (bF x.k=false):=aB (by simp [bF,h6,h7])
        cases he:y.s.toList.isEmpty
        ·have Hl:Hid (bP x.k y.s=false):=aB (by unfold bP;rw [if_neg h6,if_neg h7,<-gD,he])
         clear h6 h7;go_wp2_with fail;go_ret;exact ⟨aO (by rw [hfin.out,<-hgood.out,hstep.out,(show ig x y q k l.length=false by unfold ig;rw [if_neg H9.out,Hl.out];rfl),iM]),ah jk (by repeat (first|exact hbr|refine au ?_ _|refine dB ?_ _|refine iL ?_))⟩
        ·have Hl:Hid (bP x.k y.s=true):=aB (by unfold bP;rw [if_neg h6,if_neg h7,<-gD,he])
         clear h6 h7;go_wp2_with fail;go_quiet (fail);go_wp2_with fail;go_roundw
         case rel=>exact ⟨k+1,by go_num,hp,(by repeat (first|exact hbr|refine au ?_ _|refine dB ?_ _|refine iL ?_)),aB (by rw [<-hgood.out,hstep.out,(show ig x y q k l.length=true by unfold ig;rw [if_neg H9.out,Hl.out,Hr.out];rfl),f_])⟩
         case measure=>simp [intOf];omega
     ·have O7:¬(0:Int)<(k:Int):=by omega
      have Gt:=aB (decide_eq_false hk0);by_cases h6:x.k=6
      ·have FR:(x.k==6)=true:=by simpa using h6
       have wX:(x.k==7)=false:=by simp [h6]
       have Hr:Hid (bF x.k=true):=aB (by simp [bF,h6])
       cases hw:oJ y.s
       ·have Hw:=aB hw
        have Hl:Hid (bP x.k y.s=false):=aB (by unfold bP;rw [if_pos h6,hw]);clear h6 hw;go_wp2_with (go_at_call 57;refine (iw _ _ hys.out).mono ?_;rintro e w3 ⟨rfl,rfl⟩;rw [Hw.out]);go_ret;exact ⟨aO (by rw [hfin.out,<-hgood.out,hstep.out,(show ig x y p k l.length=false by unfold ig;rw [if_neg H9.out,Hl.out];rfl),iM]),ah jk (by repeat (first|exact hbr|refine au ?_ _|refine dB ?_ _|refine iL ?_))⟩
       ·have Hw:=aB hw
        have Hl:Hid (bP x.k y.s=true):=aB (by unfold bP;rw [if_pos h6,hw]);clear h6 hw;go_wp2_with (go_at_call 57;refine (iw _ _ hys.out).mono ?_;rintro e w3 ⟨rfl,rfl⟩;rw [Hw.out]);go_quiet (fail);go_wp2_with fail;go_roundw
        case rel=>exact ⟨k+1,by go_num,hp,(by repeat (first|exact hbr|refine au ?_ _|refine dB ?_ _|refine iL ?_)),aB (by rw [<-hgood.out,hstep.out,(show ig x y p k l.length=true by unfold ig;rw [if_neg H9.out,Hl.out,Gt.out];simp),f_])⟩
        case measure=>simp [intOf];omega
      ·have FR:(x.k==6)=false:=by simpa using h6
       by_cases h7:x.k=7
       ·have wX:(x.k==7)=true:=by simpa using h7
        have Hr:Hid (bF x.k=true):=aB (by simp [bF,h7])
        cases hw:uU y.s
        ·have Hw:=aB hw
         have Hl:Hid (bP x.k y.s=false):=aB (by unfold bP;rw [if_neg h6,if_pos h7,hw]);clear h6 h7 hw;go_wp2_with (go_at_call 58;refine (mU _ _ hys.out).mono ?_;rintro e w3 ⟨rfl,rfl⟩;rw [Hw.out]);go_ret;exact ⟨aO (by rw [hfin.out,<-hgood.out,hstep.out,(show ig x y p k l.length=false by unfold ig;rw [if_neg H9.out,Hl.out];rfl),iM]),ah jk (by repeat (first|exact hbr|refine au ?_ _|refine dB ?_ _|refine iL ?_))⟩
        ·have Hw:=aB hw
         have Hl:Hid (bP x.k y.s=true):=aB (by unfold bP;rw [if_neg h6,if_pos h7,hw]);clear h6 h7 hw;go_wp2_with (go_at_call 58;refine (mU _ _ hys.out).mono ?_;rintro e w3 ⟨rfl,rfl⟩;rw [Hw.out]);go_quiet (fail);go_wp2_with fail;go_roundw
         case rel=>exact ⟨k+1,by go_num,hp,(by repeat (first|exact hbr|refine au ?_ _|refine dB ?_ _|refine iL ?_)),aB (by rw [<-hgood.out,hstep.out,(show ig x y p k l.length=true by unfold ig;rw [if_neg H9.out,Hl.out,Gt.out];simp),f_])⟩
         case measure=>simp [intOf];omega
       ·have wX:(x.k==7)=false:=by simpa using h7
        have Hr:Hid (bF x.k=false):=aB (by simp [bF,h6,h7])
        cases he:y.s.toList.isEmpty
        ·have Hl:Hid (bP x.k y.s=false):=aB (by unfold bP;rw [if_neg h6,if_neg h7,<-gD,he])
         clear h6 h7;go_wp2_with fail;go_ret;exact ⟨aO (by rw [hfin.out,<-hgood.out,hstep.out,(show ig x y p k l.length=false by unfold ig;rw [if_neg H9.out,Hl.out];rfl),iM]),ah jk (by repeat (first|exact hbr|refine au ?_ _|refine dB ?_ _|refine iL ?_))⟩
        ·have Hl:Hid (bP x.k y.s=true):=aB (by unfold bP;rw [if_neg h6,if_neg h7,<-gD,he])
         clear h6 h7;go_wp2_with fail;go_quiet (fail);go_wp2_with fail;go_roundw
         case rel=>exact ⟨k+1,by go_num,hp,(by repeat (first|exact hbr|refine au ?_ _|refine dB ?_ _|refine iL ?_)),aB (by rw [<-hgood.out,hstep.out,(show ig x y p k l.length=true by unfold ig;rw [if_neg H9.out,Hl.out,Hr.out];rfl),f_])⟩
         case measure=>simp [intOf];omega
   ·have hz:=aB (show lg xs x l (l.length-k) k=true by rw [show l.length-k=0 by omega];rfl)
    go_wp2_with fail;go_ret;exact ⟨aO (by rw [hfin.out,<-hgood.out,hz.out]),ah jk hbr⟩
 ·have aki:((l.length:Int) !=(M:Int))=true:=by simp;omega
  have YL:=aB MG;clear MG;go_wp2_with fail;go_ret;exact ⟨aO (by rw [hfin.out,decide_eq_false (by have:=YL.out;omega)];rfl),jk⟩
def okB (x:Nd):Bool:=dP x.k x.n
def rz (xs:List Nd):Nat->Nat->Bool
 |0,_=>true
 |d+1,i=>gM xs i&&rz xs d (i+1)
def iC (xs:List Nd):Bool:=
 decide (xs.length<=10000)&&q9 xs&&xs.all okB&&decide (sF xs 0=(xs.length:Int))&&dI xs []&&rz xs xs.length 0
theorem EW (A:Option Addr) (c:Nat) (xs:List Nd) (w:World) (ha:bJ w w.heap.size A xs) (hl:xs.length<=9223372036854775807) (hs:∀x∈xs,x.s.size<=9223372036854775807):
  Calls Tryz.prog 33 #[.slice A xs.length c] w fun e w'=>e= .returned (.bool (iC xs))/\Below w.heap.size w w':=by
 match akm:xs with
 |[]=>
  go_enter Tryz.func33,Tryz.ntmps33;go_wp2_with fail;go_ret
  exact ⟨rfl,aI _ _⟩
 |x::xs'=>
  obtain ⟨b1,o1,rfl,hb1,c10,c11,c12⟩:=ha.at_ (i:=0) (x:=x) rfl;have hlen:(x::xs').length=xs'.length+1:=rfl;simp only [Nat.zero_mul,Nat.add_zero] at c10 c11 c12;have hn0:(((x::xs').length:Int)==0)=false:=by rw [beq_eq_false_iff_ne];rw [hlen];omega
  clear akm;generalize hxs:x::xs'=xs at*;have Hxs:=aB hxs;have hpos:0<xs.length:=by omega
  clear hxs hlen;have Hs:=aB hs;clear hs;by_cases h10:xs.length<=10000
  ·have akn:¬(10000:Int)<(xs.length:Int):=by omega
   cases he:x.s.toList.isEmpty
   ·have hroot:Hid (q9 xs=false):=aB (by rw [<-Hxs.out];simp only [q9];rw [<-gD,he];rfl)
    go_enter Tryz.func33,Tryz.ntmps33;go_wp2_with fail;go_ret;exact ⟨aO (by simp [iC,hroot.out]),aI _ _⟩
   ·cases h9:(x.k==9)
    ·have hroot:Hid (q9 xs=true):=aB (by rw [<-Hxs.out];simp only [q9];rw [<-gD,he,h9];rfl)
     go_enter Tryz.func33,Tryz.ntmps33;go_wp2_with fail;go_loopw [3] (fun k3 wr=>∃k:Nat,k3= .int .i64 k/\k<=xs.length/\Below w.heap.size w wr/\Hid (pV okB xs k=xs.all okB)) (fun k3 _=>xs.length-(intOf k3).toNat)
     case atStart=>exact ⟨0,rfl,cu _,aI _ _,aB rfl⟩
     case round=>
      obtain ⟨k,rfl,hk,hbr,hgood⟩:=hrel;by_cases hp:k<xs.length
      ·obtain ⟨y,hy⟩:=aJ hp
       have hstep:=aB (q8 (p:=okB) hy);obtain ⟨b2,o2,hte,hb2,c20,c21,JW⟩:=((ha.below hbr).more hbr.size).at_ hy;simp only [Option.some.injEq,Addr.mk.injEq,and_true] at hte;obtain ⟨rfl,rfl⟩:=hte;clear hy c10 c11 c12
       cases hok:dP y.k y.n
       ·have n_:=aB hok
        go_wp2_with (go_at_call 47;refine (Az _ _ _ _).mono ?_;rintro e w1 ⟨rfl,hbx⟩;rw [n_.out]);go_ret;exact ⟨aO (by unfold iC;rw [<-hgood.out,hstep.out,show okB y=false from n_.out];simp),ah hbr hbx⟩
       ·have n_:=aB hok
        go_wp2_with (go_at_call 47;refine (Az _ _ _ _).mono ?_;rintro e w1 ⟨rfl,hbx⟩;rw [n_.out]);go_roundw
        case rel=>exact ⟨k+1,by go_num,hp,ah hbr hbx,aB (by rw [<-hgood.out,hstep.out,show okB y=true from n_.out,f_])⟩
        case measure=>simp [intOf];omega
      ·have hall:Hid (xs.all okB=true):=aB (by rw [<-hgood.out,sJ hp])
       have adN:bC xs:=fun x hx=>List.all_eq_true.1 hall.out x hx;have Gu:=aB adN;have har:=(ha.below hbr).more hbr.size;clear adN c10 c11 c12;obtain ⟨wo,rfl⟩:∃wo:World,wo=wr:=⟨_,rfl⟩;by_cases hend:sF xs 0=(xs.length:Int)
       ·have uW:=aB hend
        clear hend
        cases hsh:dI xs []
        ·have YN:=aB hsh
         clear hsh;go_wp2_with fail;refine (DN _ c xs 0 _ har (by omega) Gu.out).mono ?_;rintro e w1 ⟨rfl,hb1'⟩;rw [uW.out];have UW:=(har.below hb1').more hb1'.size;go_wp2_with fail;refine (Cr _ c xs _ UW (by omega) Gu.out).mono ?_;rintro e w2 ⟨rfl,hb2'⟩;rw [YN.out];go_wp2_with fail;go_ret;exact ⟨aO (by unfold iC;rw [YN.out];simp),ah (ah hbr hb1') hb2'⟩
        ·have YN:=aB hsh
         clear hsh;go_wp2_with fail;refine (DN _ c xs 0 _ har (by omega) Gu.out).mono ?_;rintro e w1 ⟨rfl,hb1'⟩;rw [uW.out];have UW:=(har.below hb1').more hb1'.size;go_wp2_with fail;refine (Cr _ c xs _ UW (by omega) Gu.out).mono ?_;rintro e w2 ⟨rfl,hb2'⟩;rw [YN.out];have KP:=ah (ah hbr hb1') hb2';clear hb1' hb2' UW har;go_wp2_with fail;go_loopw [4] (fun k4 wi=>∃j:Nat,k4= .int .i64 j/\j<=xs.length/\Below w.heap.size w wi/\Hid (rz xs (xs.length-j) j=rz xs xs.length 0)) (fun k4 _=>xs.length-(intOf k4).toNat)
         case atStart=>exact ⟨0,rfl,cu _,KP,aB rfl⟩
         case round=>
          obtain ⟨j,rfl,hj,hbi,dX⟩:=hrel;by_cases hpj:j<xs.length
          ·have hstep2:Hid (rz xs (xs.length-j) j=(gM xs j&&rz xs (xs.length-(j+1)) (j+1))):=aB (by rw [show xs.length-j=(xs.length-(j+1))+1 by omega];rfl)
           have hai:=(ha.below hbi).more hbi.size
           cases hlb:gM xs j
           ·have YO:=aB hlb
            clear hlb;go_wp2_with (go_at_call 50;refine (AL _ c xs j _ hai (by omega) Gu.out hpj Hs.out).mono ?_;rintro e w5 ⟨rfl,hbx⟩;rw [YO.out]);go_ret;exact ⟨aO (by unfold iC;rw [<-dX.out,hstep2.out,YO.out];simp),ah hbi hbx⟩
           ·have YO:=aB hlb
            clear hlb;go_wp2_with (go_at_call 50;refine (AL _ c xs j _ hai (by omega) Gu.out hpj Hs.out).mono ?_;rintro e w5 ⟨rfl,hbx⟩;rw [YO.out]);go_roundw
            case rel=>exact ⟨j+1,by go_num,hpj,ah hbi hbx,aB (by rw [<-dX.out,hstep2.out,YO.out,f_])⟩
            case measure=>simp [intOf];omega
          ·have hz:Hid (rz xs xs.length 0=true):=aB (by rw [<-dX.out,show xs.length-j=0 by omega];rfl)
           go_wp2_with fail;go_ret;exact ⟨aO (by unfold iC;rw [hz.out,YN.out,uW.out,hall.out,hroot.out,decide_eq_true h10];simp),hbi⟩
       ·have RS:(sF xs 0 !=(xs.length:Int))=true:=by simpa using hend
        have uW:=aB hend;clear hend;go_wp2_with (go_at_call 48;refine (DN _ c xs 0 _ har (by omega) Gu.out).mono ?_;rintro e w1 ⟨rfl,hb1'⟩);go_ret;exact ⟨aO (by unfold iC;rw [decide_eq_false uW.out];simp),ah hbr hb1'⟩
    ·have hroot:Hid (q9 xs=false):=aB (by rw [<-Hxs.out];simp only [q9];rw [h9];simp)
     go_enter Tryz.func33,Tryz.ntmps33;go_wp2_with fail;go_ret;exact ⟨aO (by simp [iC,hroot.out]),aI _ _⟩
  ·have akn:(10000:Int)<(xs.length:Int):=by omega
   go_enter Tryz.func33,Tryz.ntmps33;go_wp2_with fail;go_ret;exact ⟨aO (by simp [iC,h10]),aI _ _⟩
def manyN (x:Nd):Nat:=(many x.k x.n).toNat
def skip:List Nd->Nat->Option (List Nd)
 |xs,0=>some xs
 |[],_+1=>none
 |x::xs,n+1=>skip xs (n+manyN x)
theorem iX (xs:List Nd):skip xs 0=some xs:=by cases xs<;>rfl
theorem wu (n:Nat):skip [] (n+1)=none:=rfl
theorem jE (x:Nd) (xs:List Nd) (n:Nat):skip (x::xs) (n+1)=skip xs (n+manyN x):=rfl
theorem zX:∀(xs:List Nd) (a b:Nat),skip xs (a+b)=(skip xs a).bind fun ys=>skip ys b:=by
 intro xs
 induction xs with
 |nil=>
  intro a b
  cases a with
  |zero=>rw [iX,iO];rfl
  |succ a=>rw [wu,show a+1+b=(a+b)+1 by omega,wu];rfl
 |cons x xs ih=>
  intro a b
  cases a with
  |zero=>rw [iX,iO];rfl
  |succ a=>
   rw [jE,show a+1+b=(a+b)+1 by omega,jE,<-ih]
   congr 1
   omega
def Fo (n:Nat) (xs:List Nd):Prop:=skip xs n=some []
theorem MH:∀(ps ys:List Nd) (n:Nat) (r:List Nd),skip ps n=some r->skip (ps++ys) n=some (r++ys):=by
 intro ps
 induction ps with
 |nil=>
  intro ys n r h
  cases n with
  |zero=>rw [iX] at h ⊢;injection h with h;subst h;rfl
  |succ n=>cases h
 |cons x ps ih=>
  intro ys n r h
  cases n with
  |zero=>rw [iX] at h ⊢;injection h with h;subst h;rfl
  |succ n=>rw [jE] at h;rw [List.cons_append,jE];exact ih ys _ r h
theorem Fo.pass {n:Nat} {ps:List Nd} (h:Fo n ps) (ys:List Nd):skip (ps++ys) n=some ys:=MH ps ys n [] h
theorem EX:∀(xs:List Nd) (n:Nat) (ys:List Nd),skip xs n=some ys->∃ps,xs=ps++ys/\Fo n ps:=by
 intro xs
 induction xs with
 |nil=>
  intro n ys h
  cases n with
  |zero=>rw [iX] at h;injection h with h;subst h;exact ⟨[],rfl,rfl⟩
  |succ n=>cases h
 |cons x xs ih=>
  intro n ys h
  cases n with
  |zero=>rw [iX] at h;injection h with h;subst h;exact ⟨[],rfl,rfl⟩
  |succ n=>
   rw [jE] at h;obtain ⟨ps,rfl,hf⟩:=ih _ _ h;exact ⟨x::ps,rfl,hf⟩
theorem Fo.zero:Fo 0 []:=rfl
theorem Fo.MI {n:Nat} (h:Fo n []):n=0:=by cases n with|zero=>rfl|succ n=>cases h
theorem Fo.fK {xs:List Nd} (h:Fo 0 xs):xs=[]:=by unfold Fo at h;rw [iX] at h;injection h
theorem Fo.append {a b:Nat} {ps qs:List Nd} (h:Fo a ps) (k:Fo b qs):Fo (a+b) (ps++qs):=by
 show skip (ps++qs) (a+b)=some [];rw [zX,h.pass];exact k
theorem Fo.cons {n:Nat} {x:Nd} {ks rs:List Nd} (h:Fo (manyN x) ks) (k:Fo n rs):Fo (n+1) (x::(ks++rs)):=by
 show skip (ks++rs) (n+manyN x)=some [];rw [jf,zX,h.pass];exact k
theorem Fo.rA {n:Nat} {x:Nd} {ys:List Nd} (h:Fo (n+1) (x::ys)):∃ks rs,ys=ks++rs/\Fo (manyN x) ks/\Fo n rs:=by
 have h':skip ys (n+manyN x)=some []:=h;rw [jf,zX] at h'
 cases hs:skip ys (manyN x) with
 |none=>rw [hs] at h';cases h'
 |some rs=>
  rw [hs] at h';obtain ⟨ks,rfl,hk⟩:=EX _ _ _ hs;exact ⟨ks,rs,rfl,hk,h'⟩
theorem Fo.first {n:Nat} {xs:List Nd} (h:Fo (n+1) xs):∃ts rs,xs=ts++rs/\Fo 1 ts/\Fo n rs:=by
 have h':skip xs (n+1)=some []:=h;rw [jf,zX] at h'
 cases hs:skip xs 1 with
 |none=>rw [hs] at h';cases h'
 |some rs=>
  rw [hs] at h';obtain ⟨ts,rfl,ht⟩:=EX _ _ _ hs;exact ⟨ts,rs,rfl,ht,h'⟩
theorem Fo.pos {n:Nat} {xs:List Nd} (h:Fo (n+1) xs):0<xs.length:=by
 cases xs with
 |nil=>cases h
 |cons x xs=>simp
theorem kC {x:Nd} (h:dP x.k x.n=true):many x.k x.n=(manyN x:Int):=by
 have:=rG h;unfold manyN;omega
end Go.Proofs.YtmjdhfbnmmdjiaaGreat
