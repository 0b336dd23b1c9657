/- Laid together by a tool from the texts of this seat: Same Right. Conditions: each theorem's own. -/
import Derived.Test.YtmjdhfbnmmdjiaaGreatProg
import Derived.WalkKit
import Derived.WalkSpells
import Derived.WalkLawsBesides
import Derived.Deep.Draws
import Derived.Deep.QuietTactic
import Derived.BigQuiet
import Derived.Lib.Hide
import Derived.Laws.StructEq
import Derived.OneCell
import Derived.Laws.EntriesVeiled
set_option maxHeartbeats 8000000
set_option maxRecDepth 100000
namespace Go.Proofs.YtmjdhfbnmmdjiaaGreat
open Go.Lib renaming hid->aD
open Go.RowKit.Below renaming refl->aF
open _root_.Nat renaming le_refl->aG,zero_le->bE
open _root_.List renaming drop_eq_getElem_cons->aJ,drop_of_length_le->aX,getElem?_eq_getElem->bA,eq_nil_of_length_eq_zero->dz
open Go.ByteArray renaming toList_eq->bC
open _root_.Bool renaming eq_iff_iff->bV,and_eq_true->cB,true_and->eO
open _root_.ByteArray renaming empty->bZ
open Go.RowKit
structure Nd where
 k:Int
 s:ByteArray
 n:Int
 deriving DecidableEq
instance:Inhabited Nd:=⟨⟨0,bZ,0⟩⟩
structure Nd.Ok (x:Nd):Prop where
 k0: -9223372036854775808<=x.k
 k1:x.k<=9223372036854775807
 n0: -9223372036854775808<=x.n
 n1:x.n<=9223372036854775807
 s1:x.s.size<=9223372036854775807
def Nd.val (x:Nd):Value:=.agg #[.int .i64 x.k,.string x.s,.int .i64 x.n]
structure RT (w:World) (b o:Nat) (xs:List Nd):Prop where
 c0:∀i x,xs[i]?=some x->w.cell? ⟨b,o+i*3,none⟩=some (.int .i64 x.k)
 c1:∀i x,xs[i]?=some x->w.cell? ⟨b,o+i*3+1,none⟩=some (.string x.s)
 c2:∀i x,xs[i]?=some x->w.cell? ⟨b,o+i*3+2,none⟩=some (.int .i64 x.n)
def bO (w:World) (B:Nat) (A:Option Addr) (xs:List Nd):Prop:=
 xs≠[]->∃b o,A=some ⟨b,o,none⟩/\b<B/\RT w b o xs
section
variable {w w':World} {B B':Nat} {A:Option Addr} {xs:List Nd} {b o:Nat}
theorem aU {α:Type} {l:List α} {i:Nat} {x:α} (h:l[i]?=some x):i<l.length:=by
 rcases Nat.lt_or_ge i l.length with g|g
 ·exact g
 ·rw [List.getElem?_eq_none g] at h;cases h
theorem aN {α:Type} {l:List α} {i:Nat} (h:i<l.length):∃x,l[i]?=some x:=⟨l[i],bA h⟩
theorem RT.mono (h:RT w b o xs) (hk:∀off,w'.cell? ⟨b,off,none⟩=w.cell? ⟨b,off,none⟩):RT w' b o xs:=
 ⟨fun i x hx=>(hk _).trans (h.c0 i x hx),fun i x hx=>(hk _).trans (h.c1 i x hx),fun i x hx=>(hk _).trans (h.c2 i x hx)⟩
theorem bO.nil:bO w B A []:=fun h=>absurd rfl h
theorem bO.below (h:bO w B A xs) (hb:Below B w w'):bO w' B A xs:=fun hx=>by
 obtain ⟨b,o,rfl,hlt,hr⟩:=h hx;exact ⟨b,o,rfl,hlt,hr.mono fun off=>hb.cell (p:=⟨b,off,none⟩) hlt⟩
theorem bO.more (h:bO w B A xs) (hB:B<=B'):bO w B' A xs:=fun hx=>by
 obtain ⟨b,o,rfl,hlt,hr⟩:=h hx;exact ⟨b,o,rfl,by omega,hr⟩
theorem bO.drewN (h:bO w B A xs) (n:Nat):bO (w.drewN n) B A xs:=fun hx=>by
 obtain ⟨b,o,rfl,hlt,hr⟩:=h hx;exact ⟨b,o,rfl,hlt,hr.mono fun _=>rfl⟩
theorem bO.alloc (h:bO w B A xs) (hB:B<=w.heap.size) (ob:Obj):bO (w.alloc ob) B A xs:=fun hx=>by
 obtain ⟨b,o,rfl,hlt,hr⟩:=h hx;exact ⟨b,o,rfl,hlt,hr.mono fun off=>World.cell?_alloc_lt w ob ⟨b,off,none⟩ (Nat.lt_of_lt_of_le hlt hB)⟩
theorem bO.at_ (h:bO w B A xs) {i:Nat} {x:Nd} (hx:xs[i]?=some x):
  ∃b o,A=some ⟨b,o,none⟩/\b<B/\w.cell? ⟨b,o+i*3,none⟩=some (.int .i64 x.k)/\w.cell? ⟨b,o+i*3+1,none⟩=some (.string x.s)/\
   w.cell? ⟨b,o+i*3+2,none⟩=some (.int .i64 x.n):=by
 obtain ⟨b,o,rfl,hb,hr⟩:=h (by rintro rfl;simp at hx);exact ⟨b,o,rfl,hb,hr.c0 i x hx,hr.c1 i x hx,hr.c2 i x hx⟩
end
theorem Wm {W w1:World} {B:Nat} (hb:Below B W w1):(∀b o,b<B->w1.cell? ⟨b,o,none⟩=W.cell? ⟨b,o,none⟩)/\(∀b o,b<B->w1.frozen? ⟨b,o,none⟩=W.frozen? ⟨b,o,none⟩):=
 ⟨fun b o h=>hb.cell (p:=⟨b,o,none⟩) h,fun b o h=>hb.frozen (p:=⟨b,o,none⟩) h⟩
theorem au {w W w1:World} (h:Below w.heap.size w W) (k:Below W.heap.size W w1):Below w.heap.size w w1:=h.trans (k.mono h.size)
theorem aj {w W:World} (h:Below w.heap.size w W) (o:Obj):Below w.heap.size w (W.alloc o):=h.alloc h.size o
theorem lN {w W:World} (h:Below w.heap.size w W) {p:Addr} (hp:w.heap.size<=p.block) (u:Value):Below w.heap.size w (W.setCell p u):=h.setCell hp u
theorem dH {w W:World} (h:Below w.heap.size w W) (n:Nat):Below w.heap.size w (W.drewN n):=⟨h.os,h.tape,h.output,h.size,h.block⟩
theorem below_drewN {B:Nat} {a w:World} (h:Below B a w) (n:Nat):Below B a (w.drewN n):=⟨h.os,h.tape,h.output,h.size,h.block⟩
theorem aT {a b:Bool} (h:a=b):Ending.returned (.bool a)= .returned (.bool b):=by rw [h]
theorem kS {k:IntKind} {a b:Int} (h:a=b):Ending.returned (.int k a)= .returned (.int k b):=by rw [h]
theorem r9 {a b:ByteArray} (h:a=b):Ending.returned (.string a)= .returned (.string b):=by rw [h]
def bK (k:Int):Bool:=k==6||k==7
def tY (k:Int):Bool:=k==8||k==9
def dR (k n:Int):Bool:=
 if k=0\/k=8\/k=9 then decide (0<=n) else
 if k=6 then decide (0<=n/\n<=50) else
 if k=7 then decide (0<n/\n<=50) else decide (0<k/\k<=5/\n=0)
def many (k n:Int):Int:=if k=5 then 2 else if bK k=true then n else 0
def KG (k n:Int):Int:=if k=5 then 2 else if bK k=true then max n 0 else 0
theorem w_ {k n:Int} (h:bK k=true):dR k n=decide ((if k=7 then 0<n else 0<=n)/\n<=50):=by
 simp [bK] at h;rcases h with rfl|rfl<;>simp [dR]
theorem Ju {k n:Int} (h:dR k n=true):KG k n=many k n:=by
 unfold KG many;split
 ·rfl
 ·split
  ·rename_i h6
   rw [w_ h6] at h;simp at h;obtain ⟨h1,_⟩:=h;split at h1<;>omega
  ·rfl
theorem ER (k n:Int) (s:ByteArray) (w:World):
  Calls Tryz.prog 128 #[.agg #[.int .i64 k,.string s,.int .i64 n]] w fun e w'=>e= .returned (.bool (bK k))/\Below w.heap.size w w':=by
 go_enter Tryz.func128,Tryz.ntmps128;go_wp2
 all_goals go_ret
 all_goals exact ⟨aT (by simp_all [bK]),(aF _ _).alloc (aG _) _⟩
theorem Jv (k n:Int) (s:ByteArray) (w:World):
  Calls Tryz.prog 141 #[.agg #[.int .i64 k,.string s,.int .i64 n]] w fun e w'=>e= .returned (.int .i64 (KG k n))/\Below w.heap.size w w':=by
 by_cases h5:k=5
 ·subst h5
  go_enter Tryz.func141,Tryz.ntmps141;go_wp2_with fail;go_ret;exact ⟨kS rfl,(aF _ _).alloc (aG _) _⟩
 ·have h5b:(k==5)=false:=by simpa using h5
  go_enter Tryz.func141,Tryz.ntmps141;go_wp2_with fail;refine (ER _ _ _ _).mono ?_;rintro e w1 ⟨rfl,hb⟩;obtain ⟨hc,hf⟩:=Wm hb;go_wp2_with fail
  all_goals go_ret
  all_goals refine ⟨kS ?_,au ((aF _ _).alloc (aG _) _) hb⟩
  all_goals (simp_all [KG];try omega)
theorem nW (k n:Int) (s:ByteArray) (w:World):
  Calls Tryz.prog 78 #[.agg #[.int .i64 k,.string s,.int .i64 n]] w fun e w'=>e= .returned (.int .i64 (many k n))/\Below w.heap.size w w':=by
 go_enter Tryz.func78,Tryz.ntmps78;go_wp2
 all_goals go_ret
 all_goals exact ⟨kS (by simp_all [many,bK]),(aF _ _).alloc (aG _) _⟩
theorem zF (k n:Int) (s:ByteArray) (w:World):
  Calls Tryz.prog 47 #[.agg #[.int .i64 k,.string s,.int .i64 n]] w fun e w'=>e= .returned (.bool (dR k n))/\Below w.heap.size w w':=by
 go_enter Tryz.func47,Tryz.ntmps47;go_wp2
 all_goals go_ret
 all_goals refine ⟨aT ?_,(aF _ _).alloc (aG _) _⟩
 all_goals go_tidy
 all_goals (unfold dR;simp_all)
 all_goals first|done|rfl|omega|(split<;>simp<;>omega)
def nR (c:Int):Bool:=decide (97<=c/\c<=122)
def nS (c:Int):Bool:=decide (65<=c/\c<=90)
def kg (c:Int):Bool:=nR c||nS c||decide (48<=c/\c<=57)||c==95
def lK (f:Int->Bool):List UInt8->Bool
 |[]=>false
 |c::cs=>f c.toNat&&cs.all fun d=>kg d.toNat
def nX (s:ByteArray):Bool:=lK nR s.data.toList
def tZ (s:ByteArray):Bool:=lK nS s.data.toList
theorem AP (r:Int) (w:World):Calls Tryz.prog 166 #[.int .i32 r] w fun e w'=>e= .returned (.bool (nR r))/\w=w':=by
 go_enter Tryz.func166,Tryz.ntmps166;go_wp2
 all_goals go_ret
 all_goals go_tidy
 all_goals exact ⟨aT (by simp_all [nR]<;>(intros;omega)),rfl⟩
theorem AQ (r:Int) (w:World):Calls Tryz.prog 167 #[.int .i32 r] w fun e w'=>e= .returned (.bool (nS r))/\w=w':=by
 go_enter Tryz.func167,Tryz.ntmps167;go_wp2
 all_goals go_ret
 all_goals go_tidy
 all_goals exact ⟨aT (by simp_all [nS]<;>(intros;omega)),rfl⟩
theorem zG (r:Int) (w:World):Calls Tryz.prog 181 #[.int .i32 r] w fun e w'=>e= .returned (.bool (kg r))/\w=w':=by
 go_enter Tryz.func181,Tryz.ntmps181
 go_wp2_with (first
  |(go_at_call 166;refine (AP _ _).mono ?_;rintro e w' ⟨rfl,rfl⟩)
  |(go_at_call 167;refine (AQ _ _).mono ?_;rintro e w' ⟨rfl,rfl⟩))
 all_goals go_ret
 all_goals go_tidy
 all_goals exact ⟨aT (by simp_all [kg]<;>(intros;omega)),rfl⟩
theorem xg (c a b:Int) (w:World):Calls Tryz.prog 92 #[.int .u8 c,.int .u8 a,.int .u8 b] w fun e w'=>e= .returned (.bool (decide (a<=c/\c<=b)))/\w=w':=by
 go_enter Tryz.func92,Tryz.ntmps92;go_wp2
 all_goals go_ret
 all_goals go_tidy
 all_goals exact ⟨aT (by simp_all<;>(intros;omega)),rfl⟩
theorem M7 (r:Int) (w:World):Calls Tryz.prog 118 #[.int .u8 r] w fun e w'=>e= .returned (.bool (kg r))/\w=w':=by
 go_enter Tryz.func118,Tryz.ntmps118;go_wp2_with (go_at_call 92;refine (xg _ _ _ _).mono ?_;rintro e w' ⟨rfl,rfl⟩)
 all_goals go_ret
 all_goals go_tidy
 all_goals exact ⟨aT (by simp_all [kg,nR,nS]<;>(intros;omega)),rfl⟩
theorem Cm {f:Int->Bool} (s:ByteArray) {k:Nat} (hk:k<s.size) (h:k=0\/lK f (s.data.toList.take k)=true):
  lK f (s.data.toList.take (k+1))=(if k=0 then f (s[k]'hk).toNat else kg (s[k]'hk).toNat):=by
 have hl:k<s.data.toList.length:=hk
 have e:s.data.toList.take (k+1)=s.data.toList.take k++[s[k]'hk]:=by
  rw [List.take_succ_eq_append_getElem hl];rfl
 rw [e];rcases h with rfl|h
 ·simp [lK]
 ·by_cases h0:k=0
  ·subst h0;simp [lK]
  ·rw [if_neg h0]
   match hm:s.data.toList.take k,h with
   |c::cs,h=>
    simp only [lK,cB] at h;simp [lK,h.1,h.2]
theorem ES {f:Int->Bool} (s:ByteArray) {k:Nat} (hk:k<s.size) (h:(if k=0 then f (s[k]'hk).toNat else kg (s[k]'hk).toNat)=false):
  lK f s.data.toList=false:=by
 have hl:k<s.data.toList.length:=hk
 have e:s.data.toList=s.data.toList.take k++(s[k]'hk)::s.data.toList.drop (k+1):=by
  have h1:=List.take_append_drop k s.data.toList;rw [aJ hl] at h1;exact h1.symm
 rw [e];by_cases h0:k=0
 ·subst h0
  simp only [if_true] at h;simp [lK,h]
 ·rw [if_neg h0] at h
  match hm:s.data.toList.take k with
  |[]=>
   have:=congrArg List.length hm;rw [List.length_take,List.length_nil] at this
   omega
  |c::cs=>simp [lK,h]
theorem zH {r:Int} (h:128<=r):kg r=false:=by
 simp [kg,nR,nS];omega
theorem uV (w:World) (s:ByteArray) (k:Nat):Below w.heap.size w (w.iter s k):=(aF _ _).alloc (aG _) (.stringIter s k)
theorem T9 {f:Int->Bool} (s:ByteArray) {k:Nat} (hk:k<=s.size) (hp:¬k<s.size) (h:k=0\/lK f (s.data.toList.take k)=true):
  (!s.toList.isEmpty)=lK f s.data.toList:=by
 have hl:s.data.toList.length=s.size:=rfl;have hk':k=s.data.toList.length:=by omega
 rw [bC];rcases h with rfl|h
 ·have:s.data.toList=[]:=dz hk'.symm
  rw [this];rfl
 ·rw [List.take_of_length_le (by omega)] at h
  rw [h]
  match s.data.toList,h with
  |c::cs,_=>rfl
def Fits (f:Int->Bool) (K:Nat):Prop:=∀(r:Int) (w:World),Calls Tryz.prog K #[.int .i32 r] w fun e w'=>e= .returned (.bool (f r))/\w=w'
theorem Jw (f:Int->Bool) (K:Nat) (hK:K=166\/K=167) (hf:Hid (Fits f K)) (hhi:∀r,128<=r->f r=false) (s:ByteArray) (w:World):
  Calls Tryz.prog 165 #[.string s,.func (.func K) #[] #[]] w fun e w'=>e= .returned (.bool (lK f s.data.toList))/\Below w.heap.size w w':=by
 have Hhi:=aD hhi;clear hhi;rcases hK with rfl|rfl
 all_goals
  go_enter Tryz.func165,Tryz.ntmps165;go_wp2_with fail;go_loopw [5] (fun _ w'=>∃k:Nat,k<=s.size/\w'=w.iter s k/\Hid (k=0\/lK f (s.data.toList.take k)=true)) (fun _ w'=>s.size-w'.iterPos w.heap.size)
  case atStart=>exact ⟨0,bE _,rfl,aD (.inl rfl)⟩
  case round=>
   obtain ⟨k,hk,rfl,hgood⟩:=hrel;by_cases hp:k<s.size
   ·by_cases ha:(s[k]'hp).toNat<128
    ·have hnx:∀ty,(Instr.next (.pointer (some ⟨w.heap.size,0,none⟩)) true ty).run Tryz.prog (w.iter s k)=_:=fun ty=>run_next_ascii w s k ty hp ha
     have hstep:=aD (Cm (f:=f) s hp hgood.out);have hbad:=aD (ES (f:=f) s hp);generalize hcv:(s[k]'hp).toNat=c at*;clear hcv;by_cases h0:k=0
     ·subst h0
      cases hfr:f c
      all_goals go_wp2_with (first
       |(go_at_call 166;refine (hf.out _ _).mono ?_;rintro e w' ⟨rfl,rfl⟩)
       |(go_at_call 167;refine (hf.out _ _).mono ?_;rintro e w' ⟨rfl,rfl⟩))
      ·go_ret
       exact ⟨aT (hbad.out (by simpa using hfr)).symm,uV _ _ _⟩
      ·go_roundw
       case rel=>exact ⟨1,hp,rfl,aD (.inr (by rw [hstep.out];simpa using hfr))⟩
       case measure=>simp;omega
     ·have h0b:((k:Int)==0)=false:=by rw [beq_eq_false_iff_ne];omega
      have h0p:(0:Int)<k:=by omega
      cases hfr:kg c
      all_goals go_wp2_with (go_at_call 181;refine (zG _ _).mono ?_;rintro e w' ⟨rfl,rfl⟩)
      ·go_ret
       exact ⟨aT (hbad.out (by rw [if_neg h0];exact hfr)).symm,uV _ _ _⟩
      ·go_roundw
       case rel=>exact ⟨k+1,hp,rfl,aD (.inr (by rw [hstep.out,if_neg h0];exact hfr))⟩
       case measure=>simp;omega
    ·have hnx:∀ty,(Instr.next (.pointer (some ⟨w.heap.size,0,none⟩)) true ty).run Tryz.prog (w.iter s k)=_:=fun ty=>run_next_any w s k ty hp
     have hhigh:=decode_high s k hp (by omega);have h128:=hhigh.1;have hbad:=aD (ES (f:=f) s hp);have hbyte:=aD (show 128<=((s[k]'hp).toNat:Int) by omega);clear hhigh;generalize hcv:(Utf8.decode s k).1=c at*;generalize hdv:(Utf8.decode s k).2=d at*;clear hcv hdv;have Wn:(128:Int)<=(c:Int):=by omega
     by_cases h0:k=0
     ·subst h0
      have hfr:f c=false:=Hhi.out _ Wn
      go_wp2_with (first
       |(go_at_call 166;refine (hf.out _ _).mono ?_;rintro e w' ⟨rfl,rfl⟩)
       |(go_at_call 167;refine (hf.out _ _).mono ?_;rintro e w' ⟨rfl,rfl⟩))
      go_ret;exact ⟨aT (hbad.out (by simpa using Hhi.out _ hbyte.out)).symm,uV _ _ _⟩
     ·have h0b:((k:Int)==0)=false:=by rw [beq_eq_false_iff_ne];omega
      have h0p:(0:Int)<k:=by omega
      have hfr:kg c=false:=zH Wn;go_wp2_with (go_at_call 181;refine (zG _ _).mono ?_;rintro e w' ⟨rfl,rfl⟩);go_ret;exact ⟨aT (hbad.out (by rw [if_neg h0];exact zH hbyte.out)).symm,uV _ _ _⟩
   ·have hnx:∀ty,(Instr.next (.pointer (some ⟨w.heap.size,0,none⟩)) true ty).run Tryz.prog (w.iter s k)=_:=fun ty=>run_next_end w s k ty hp
    have hend:=aD (T9 (f:=f) s hk hp hgood.out);go_wp2_with fail;go_ret;exact ⟨aT (by rw [hend.out]),uV _ _ _⟩
theorem M8 (s:ByteArray) (w:World):Calls Tryz.prog 147 #[.string s] w fun e w'=>e= .returned (.bool (nX s))/\Below w.heap.size w w':=by
 have hf:=aD (show Fits nR 166 from AP);go_enter Tryz.func147,Tryz.ntmps147;go_wp2_with (go_at_call 165;refine (Jw nR _ (.inl rfl) hf (fun r h=>by simp [nR];omega) s _).mono ?_;rintro e w' ⟨rfl,hb⟩);go_ret;exact ⟨rfl,hb⟩
theorem P6 (s:ByteArray) (w:World):Calls Tryz.prog 148 #[.string s] w fun e w'=>e= .returned (.bool (tZ s))/\Below w.heap.size w w':=by
 have hf:=aD (show Fits nS 167 from AQ);go_enter Tryz.func148,Tryz.ntmps148;go_wp2_with (go_at_call 165;refine (Jw nS _ (.inr rfl) hf (fun r h=>by simp [nS];omega) s _).mono ?_;rintro e w' ⟨rfl,hb⟩);go_ret;exact ⟨rfl,hb⟩
def uy (s:ByteArray) (k:Nat):Bool:=(s.data.toList.drop k).all fun d=>kg d.toNat
theorem M9 (s:ByteArray) {k:Nat} (hk:k<s.size):uy s k=(kg (s[k]'hk).toNat&&uy s (k+1)):=by
 have hl:k<s.data.toList.length:=hk;unfold uy;rw [aJ hl,List.all_cons];rfl
theorem P7 (s:ByteArray) {k:Nat} (hk:¬k<s.size):uy s k=true:=by
 have hl:s.data.toList.length=s.size:=rfl;unfold uy;rw [aX (by omega)];rfl
theorem ET (f:Int->Bool) (s:ByteArray) (hk:0<s.size):lK f s.data.toList=(f (s[0]'hk).toNat&&uy s 1):=by
 have hl:0<s.data.toList.length:=hk
 have e:s.data.toList=(s[0]'hk)::s.data.toList.drop 1:=by
  have:=aJ hl;rw [List.drop_zero] at this;exact this
 unfold uy;rw [e];rfl
theorem M_ (s:ByteArray) (w:World) (hs:s.size<=9223372036854775807):
  Calls Tryz.prog 93 #[.string s] w fun e w'=>e= .returned (.bool (uy s 1))/\w=w':=by
 go_enter Tryz.func93,Tryz.ntmps93;go_wp2_with fail;go_loop [3] (fun i=>∃k:Nat,1<=k/\i= .int .i64 k/\Hid (uy s k=uy s 1)) (fun i=>s.size-(intOf i).toNat)
 case atStart=>exact ⟨1,aG _,rfl,aD rfl⟩
 case round=>
  obtain ⟨k,hk,rfl,hgood⟩:=hrel;by_cases hp:k<s.size
  ·have hstep:=aD (M9 s hp)
   cases hb:kg (s[k]'hp).toNat
   all_goals
    have Hb:=aD hb;go_wp2_with (go_at_call 118;refine (M7 _ _).mono ?_;rintro e w' ⟨rfl,rfl⟩)
   ·go_ret
    exact ⟨aT (by rw [<-hgood.out,hstep.out,Hb.out];rfl),rfl⟩
   ·go_round
    case rel=>exact ⟨k+1,by omega,by go_num,aD (by rw [<-hgood.out,hstep.out,Hb.out];rfl)⟩
    case measure=>simp [intOf];omega
  ·have hend:=aD (P7 s hp)
   go_wp2_with fail;go_ret;exact ⟨aT (by rw [<-hgood.out,hend.out]),rfl⟩
theorem Dx (f:Int->Bool) (s:ByteArray) (hk:¬0<s.size):lK f s.data.toList=false:=by
 have hl:s.data.toList.length=s.size:=rfl;rw [dz (l:=s.data.toList) (by omega)];rfl
theorem gX (s:ByteArray) (w:World) (hs:s.size<=9223372036854775807):
  Calls Tryz.prog 57 #[.string s] w fun e w'=>e= .returned (.bool (nX s))/\w=w':=by
 by_cases h0:0<s.size
 ·have hfin:=aD (ET nR s h0)
  go_enter Tryz.func57,Tryz.ntmps57
  go_wp2_with (first
   |(go_at_call 92;refine (xg _ _ _ _).mono ?_;rintro e w' ⟨rfl,rfl⟩)
   |(go_at_call 93;refine (M_ _ _ hs).mono ?_;rintro e w' ⟨rfl,rfl⟩))
  all_goals go_ret
  all_goals go_tidy
  all_goals exact ⟨aT (by unfold nX;rw [hfin.out];simp_all [nR]<;>(intros;omega)),rfl⟩
 ·have hfin:=aD (Dx nR s h0)
  have hz:¬(0:Int)<(s.size:Int):=by omega
  go_enter Tryz.func57,Tryz.ntmps57;go_wp2_with fail;go_ret;exact ⟨aT (by unfold nX;rw [hfin.out]),rfl⟩
theorem mD (s:ByteArray) (w:World) (hs:s.size<=9223372036854775807):
  Calls Tryz.prog 58 #[.string s] w fun e w'=>e= .returned (.bool (tZ s))/\w=w':=by
 by_cases h0:0<s.size
 ·have hfin:=aD (ET nS s h0)
  go_enter Tryz.func58,Tryz.ntmps58
  go_wp2_with (first
   |(go_at_call 92;refine (xg _ _ _ _).mono ?_;rintro e w' ⟨rfl,rfl⟩)
   |(go_at_call 93;refine (M_ _ _ hs).mono ?_;rintro e w' ⟨rfl,rfl⟩))
  all_goals go_ret
  all_goals go_tidy
  all_goals exact ⟨aT (by unfold tZ;rw [hfin.out];simp_all [nS]<;>(intros;omega)),rfl⟩
 ·have hfin:=aD (Dx nS s h0)
  have hz:¬(0:Int)<(s.size:Int):=by omega
  go_enter Tryz.func58,Tryz.ntmps58;go_wp2_with fail;go_ret;exact ⟨aT (by unfold tZ;rw [hfin.out]),rfl⟩
def bR (k:Int) (s:ByteArray):Bool:=if k=6 then nX s else if k=7 then tZ s else decide (s.size=0)
theorem gq (s:ByteArray):s.toList.isEmpty=decide (s.size=0):=by
 have hl:s.data.toList.length=s.size:=rfl;rw [bC,List.isEmpty_iff_length_eq_zero |> fun h=>(bV.2 (by rw [h,hl,decide_eq_true_iff]):s.data.toList.isEmpty=decide (s.size=0))]
theorem KH (k:Int) (s:ByteArray) (w:World):
  Calls Tryz.prog 127 #[.int .i64 k,.string s] w fun e w'=>e= .returned (.bool (bR k s))/\Below w.heap.size w w':=by
 go_enter Tryz.func127,Tryz.ntmps127
 go_wp2_with (first
  |(go_at_call 147;refine (M8 _ _).mono ?_;rintro e w' ⟨rfl,hb⟩)
  |(go_at_call 148;refine (P6 _ _).mono ?_;rintro e w' ⟨rfl,hb⟩))
 all_goals go_ret
 all_goals go_tidy
 all_goals first
  |exact ⟨aT (by simp_all [bR]),hb⟩
  |exact ⟨aT (by have:=gq s;simp_all [bR]),aF _ _⟩
def uW (x y:Nd):Bool:=x.k==y.k&&x.s.toList==y.s.toList&&x.n==y.n
theorem Jy (x y:Nd):uW x y=true↔x=y:=by
 obtain ⟨k,s,n⟩:=x;obtain ⟨k',s',n'⟩:=y;simp only [uW,cB,beq_iff_eq,Nd.mk.injEq];rw [bC,bC];obtain ⟨⟨l⟩⟩:=s;obtain ⟨⟨l'⟩⟩:=s';simp [and_assoc]
theorem SE (d:Nat) (x y:Nd) (w:World):
  (Op.equalIn (d+2) 49 x.val y.val).run Tryz.prog w= .ok (uW x y) w:=by
 have u3:=Tryz.underlying3;have u9:=Tryz.underlying9;have a3:=Tryz.isAgg3;have z3:=Tryz.sizeOf3;have a9:=Tryz.isAgg9;have z9:=Tryz.sizeOf9;have hS:Tryz.prog.underlying 49=some (.struct (Tryz.prog.fieldsOf 49)):=by kernel_rfl
 have hp:Tryz.prog.stoodInHeld 49=false:=by kernel_rfl
 unfold Nd.val;rw [run_equalIn_agg w (d+1) 49 _ _ hS hp];simp only [Program.fieldsOf,Tryz.underlying49];go_simp;by_cases h1:x.k=y.k<;>by_cases h2:x.s.toList=y.s.toList<;>by_cases h3:x.n=y.n<;>simp [uW,h1,h2,h3]
theorem Dy (x y:Nd) (w:World):(binOp .neq 49 x.val y.val).run Tryz.prog w= .ok (.bool (!uW x y)) w:=by
 unfold Nd.val;rw [run_neq_struct,show (10000:Nat)=9998+2 from rfl];have:=SE 9998 x y w;unfold Nd.val at this;rw [this];rfl
theorem Na (x y:Nd) (w:World):(binOp .eql 49 x.val y.val).run Tryz.prog w= .ok (.bool (uW x y)) w:=by
 unfold Nd.val;rw [run_eql_struct,show (10000:Nat)=9998+2 from rfl];have:=SE 9998 x y w;unfold Nd.val at this;rw [this];rfl
theorem IQ {xs ys:List Nd} {k:Nat} {x y:Nd} (hx:xs[k]?=some x) (hy:ys[k]?=some y):
  decide (xs.drop k=ys.drop k)=(uW x y&&decide (xs.drop (k+1)=ys.drop (k+1))):=by
 have h1:xs.drop k=x::xs.drop (k+1):=by
  have hl:=aU hx;rw [aJ hl];rw [bA hl] at hx;injection hx with hx
  rw [hx]
 have h2:ys.drop k=y::ys.drop (k+1):=by
  have hl:=aU hy;rw [aJ hl];rw [bA hl] at hy;injection hy with hy
  rw [hy]
 rw [h1,h2,bV];simp [Jy]
theorem Nb (A B:Option Addr) (c d Ba Bb:Nat) (xs ys:List Nd) (w:World) (ha:bO w Ba A xs) (hb:bO w Bb B ys)
  (hl:xs.length<=9223372036854775807):
  Calls Tryz.prog 17 #[.slice A xs.length c,.slice B ys.length d] w fun e w'=>e= .returned (.bool (decide (xs=ys)))/\∃n,w'=w.drewN n:=by
 by_cases hlen:xs.length=ys.length
 ·rw [<-hlen]
  have Hlen:=aD hlen;clear hlen;go_enter Tryz.func17,Tryz.ntmps17;go_wp2_with fail;go_loopw [5] (fun i w'=>∃k n:Nat,k<=xs.length/\i= .int .i64 k/\w'=w.drewN n/\Hid (decide (xs.drop k=ys.drop k)=decide (xs=ys))) (fun i _=>xs.length-(intOf i).toNat)
  case atStart=>exact ⟨0,0,bE _,rfl,rfl,aD rfl⟩
  case round=>
   obtain ⟨k,n,hk,rfl,rfl,hgood⟩:=hrel;by_cases hp:k<xs.length
   ·obtain ⟨x,hx⟩:=aN hp
    obtain ⟨y,hy⟩:=aN (show k<ys.length by rw [<-Hlen.out];exact hp);have hstep:=aD (IQ hx hy);obtain ⟨b1,o1,rfl,hb1,c10,c11,c12⟩:=ha.at_ hx;obtain ⟨b2,o2,rfl,hb2,c20,c21,IU⟩:=hb.at_ hy;have hne:=Dy x y;unfold Nd.val at hne;have Hx:=aD hx;have Hy:=aD hy;clear hx hy
    cases he:uW x y
    all_goals
     have He:=aD he;rw [he] at hne;clear he;go_wp2_with fail;go_quiet (fail);go_wp2_with fail
    ·go_ret
     exact ⟨aT (by rw [<-hgood.out,hstep.out,He.out];rfl),_,World.drewN_drewN ..⟩
    ·go_roundw
     case rel=>exact ⟨k+1,_,hp,by go_num,rfl,aD (by rw [<-hgood.out,hstep.out,He.out,eO])⟩
     case measure=>simp [intOf];omega
   ·have hfin:=aD (show decide (xs.drop k=ys.drop k)=true by
     have:=Hlen.out;rw [aX (by omega),aX (by omega)];simp)
    go_wp2_with fail;go_ret;exact ⟨aT (by rw [<-hgood.out,hfin.out]),_,rfl⟩
 ·have hle:((xs.length:Int) !=(ys.length:Int))=true:=by simp;omega
  have hfin:=aD (show decide (xs=ys)=false by simp;rintro rfl;exact hlen rfl);clear hlen;go_enter Tryz.func17,Tryz.ntmps17;go_wp2_with fail;go_ret;exact ⟨aT (by rw [hfin.out]),0,rfl⟩
def qF (p:Nd->Bool) (xs:List Nd) (k:Nat):Bool:=(xs.drop k).all p
theorem uz {p:Nd->Bool} {xs:List Nd} {k:Nat} {x:Nd} (hx:xs[k]?=some x):qF p xs k=(p x&&qF p xs (k+1)):=by
 have hl:=aU hx;unfold qF;rw [aJ hl,List.all_cons];rw [bA hl] at hx;injection hx with hx
 rw [hx]
theorem vO {p:Nd->Bool} {xs:List Nd} {k:Nat} (h:¬k<xs.length):qF p xs k=true:=by
 unfold qF;rw [aX (by omega)];rfl
def oK (xs:List Nd):Bool:=xs.all fun x=> !tY x.k
def xq (xs:List Nd):Bool:=xs.all fun x=> !(x.k==0)
theorem Dz (A:Option Addr) (c Ba:Nat) (xs:List Nd) (w:World) (ha:bO w Ba A xs) (hl:xs.length<=9223372036854775807):
  Calls Tryz.prog 13 #[.slice A xs.length c] w fun e w'=>e= .returned (.bool (oK xs))/\w=w':=by
 go_enter Tryz.func13,Tryz.ntmps13;go_wp2_with fail;go_loop [3] (fun i=>∃k:Nat,k<=xs.length/\i= .int .i64 k/\Hid (qF (fun x=> !tY x.k) xs k=oK xs)) (fun i=>xs.length-(intOf i).toNat)
 case atStart=>exact ⟨0,bE _,rfl,aD rfl⟩
 case round=>
  obtain ⟨k,hk,rfl,hgood⟩:=hrel;by_cases hp:k<xs.length
  ·obtain ⟨x,hx⟩:=aN hp
   have hstep:=aD (uz (p:=fun x=> !tY x.k) hx);obtain ⟨b1,o1,rfl,hb1,c10,c11,c12⟩:=ha.at_ hx;clear hx;by_cases h8:x.k=8
   ·have h8b:(x.k==8)=true:=by simpa using h8
    have H8:=aD h8;clear h8;go_wp2_with fail;go_ret;exact ⟨aT (by rw [<-hgood.out,hstep.out];simp [tY,H8.out]),rfl⟩
   ·have h8b:(x.k==8)=false:=by simpa using h8
    by_cases h9:x.k=9
    ·have Nf:(x.k==9)=true:=by simpa using h9
     have H9:=aD h9;clear h9 h8;go_wp2_with fail;go_ret;exact ⟨aT (by rw [<-hgood.out,hstep.out];simp [tY,H9.out]),rfl⟩
    ·have Nf:(x.k==9)=false:=by simpa using h9
     go_wp2_with fail;go_round
     case rel=>exact ⟨k+1,hp,by go_num,aD (by rw [<-hgood.out,hstep.out];simp [tY,h8b,Nf])⟩
     case measure=>simp [intOf];omega
  ·have hend:=aD (vO (p:=fun x=> !tY x.k) hp)
   go_wp2_with fail;go_ret;exact ⟨aT (by rw [<-hgood.out,hend.out]),rfl⟩
def Nd.bare (x:Nd):Nd:=if x.k=0 then {x with n:=0} else x
def oL (x y:Nd):Bool:=uW x.bare y.bare
def pQ (xs ys:List Nd) (k:Nat):Bool:=decide ((xs.drop k).map Nd.bare=(ys.drop k).map Nd.bare)
def mE (xs ys:List Nd):Bool:=decide (xs.map Nd.bare=ys.map Nd.bare)
theorem drop_cons {α:Type} {xs:List α} {k:Nat} {x:α} (hx:xs[k]?=some x):xs.drop k=x::xs.drop (k+1):=by
 have hl:=aU hx;rw [aJ hl];rw [bA hl] at hx;injection hx with hx
 rw [hx]
theorem xu {xs ys:List Nd} {k:Nat} {x y:Nd} (hx:xs[k]?=some x) (hy:ys[k]?=some y):
  pQ xs ys k=(oL x y&&pQ xs ys (k+1)):=by
 unfold pQ oL;rw [drop_cons hx,drop_cons hy,bV];simp [Jy]
theorem bare_eq (x:Nd):x.bare=⟨x.k,x.s,if x.k==0 then 0 else x.n⟩:=by
 unfold Nd.bare;by_cases h:x.k=0<;>simp [h]
theorem zI {xs ys:List Nd} {k:Nat} (h:xs.length=ys.length) (hk:¬k<xs.length):pQ xs ys k=true:=by
 unfold pQ;rw [aX (by omega),aX (by omega)];simp
theorem EU {xs ys:List Nd} (h:xs.length≠ys.length):mE xs ys=false:=by
 unfold mE;simp only [decide_eq_false_iff_not];intro e;have:=congrArg List.length e;simp at this;exact h this
theorem r_ (A B:Option Addr) (c d:Nat) (xs ys:List Nd) (w:World) (ha:bO w w.heap.size A xs) (hb:bO w w.heap.size B ys)
  (hl:xs.length<=9223372036854775807):
  Calls Tryz.prog 21 #[.slice A xs.length c,.slice B ys.length d] w fun e w'=>e= .returned (.bool (mE xs ys))/\Below w.heap.size w w':=by
 by_cases hlen:xs.length=ys.length
 ·rw [<-hlen]
  have Hlen:=aD hlen;clear hlen;go_enter Tryz.func21,Tryz.ntmps21;go_wp2_with fail;go_loopw [5] (fun i w'=>∃k:Nat,k<=xs.length/\i= .int .i64 k/\Below w.heap.size w w'/\Hid (pQ xs ys k=mE xs ys)) (fun i _=>xs.length-(intOf i).toNat)
  case atStart=>exact ⟨0,bE _,rfl,aF _ _,aD rfl⟩
  case round=>
   obtain ⟨k,hk,rfl,hbel,hgood⟩:=hrel;by_cases hp:k<xs.length
   ·obtain ⟨x,hx⟩:=aN hp
    obtain ⟨y,hy⟩:=aN (show k<ys.length by rw [<-Hlen.out];exact hp);have hstep:=aD (xu hx hy);obtain ⟨b1,o1,rfl,hb1,c10,c11,c12⟩:=((ha.below hbel).more hbel.size).at_ hx;obtain ⟨b2,o2,rfl,hb2,c20,c21,IU⟩:=((hb.below hbel).more hbel.size).at_ hy;have hz:=hbel.size;have q1:b1<wr.heap.size+1:=by omega
    have q2:b2<wr.heap.size+1:=by omega
    clear hx hy;obtain ⟨n1,hbx,hn1⟩:∃n1,x.bare=⟨x.k,x.s,n1⟩/\n1=(if x.k==0 then 0 else x.n):=⟨_,bare_eq x,rfl⟩;obtain ⟨n2,hby,hn2⟩:∃n2,y.bare=⟨y.k,y.s,n2⟩/\n2=(if y.k==0 then 0 else y.n):=⟨_,bare_eq y,rfl⟩;have hne:=Dy ⟨x.k,x.s,n1⟩ ⟨y.k,y.s,n2⟩;simp only [Nd.val] at hne;have hsn:uW ⟨x.k,x.s,n1⟩ ⟨y.k,y.s,n2⟩=oL x y:=by unfold oL;rw [hbx,hby]
    clear hbx hby;rw [hsn] at hne;clear hsn
    cases hkx:(x.k==0)
    all_goals
     cases hky:(y.k==0)
    all_goals
     simp only [hkx,hky,if_true,Bool.false_eq_true,if_false] at hn1 hn2;subst hn1 hn2
     cases he:oL x y
    all_goals
     have He:=aD he;rw [he] at hne;clear he;go_wp2_with fail;go_region
    all_goals
     go_wp2_with fail
    all_goals first
     |(go_ret
       exact ⟨aT (by rw [<-hgood.out,hstep.out,He.out];rfl),by repeat (first|exact hbel|refine aj ?_ _|refine lN ?_ (by simp;omega) _|refine Below.drew ?_|refine dH ?_ _)⟩)
     |(go_roundw
       case rel=>exact ⟨k+1,hp,by go_num,(by repeat (first|exact hbel|refine aj ?_ _|refine lN ?_ (by simp;omega) _|refine Below.drew ?_|refine dH ?_ _)),aD (by rw [<-hgood.out,hstep.out,He.out,eO])⟩
       case measure=>simp [intOf];omega)
   ·have hfin:=aD (zI Hlen.out hp)
    go_wp2_with fail;go_ret;exact ⟨aT (by rw [<-hgood.out,hfin.out]),hbel⟩
 ·have hle:((xs.length:Int) !=(ys.length:Int))=true:=by simp;omega
  have hfin:=aD (EU hlen);clear hlen;go_enter Tryz.func21,Tryz.ntmps21;go_wp2_with fail;go_ret;exact ⟨aT (by rw [hfin.out]),aF _ _⟩
def leS (a b:ByteArray):Bool:=Op.bytesLess a.toList b.toList||a.toList==b.toList
def xw (x:Nd) (k:Int) (last:ByteArray) (y:Nd):Bool:=
 if y.k=9 then bK x.k&& !decide (k<x.n-1)&&decide (y.s.size=0)
 else bR x.k y.s&& !(bK x.k&&leS y.s last)
def jK (tr:Nat->Option Nat) (xs:List Nd) (x:Nd):Nat->Int->ByteArray->Nat->Option Nat
 |0,_,_,at_=>some at_
 |todo+1,k,last,at_=>
  match xs[at_]? with
  |none=>none
  |some y=>if xw x k last y=true then (match tr at_ with
   |none=>none
   |some at'=>jK tr xs x todo (k+1) y.s at') else none
def eD (xs:List Nd):Nat->Nat->Option Nat
 |0,_=>none
 |f+1,i=>
  match xs[i]? with
  |none=>none
  |some x=>if dR x.k x.n=true then jK (eD xs f) xs x (many x.k x.n).toNat 0 bZ (i+1) else none
theorem Cn {x:Nd} (h:dR x.k x.n=true):∃M:Nat,many x.k x.n=(M:Int)/\M<=50/\(bK x.k=true->x.n=(M:Int)):=by
 unfold many;by_cases h5:x.k=5
 ·exact ⟨2,by simp [h5],by omega,by simp [h5,bK]⟩
 ·by_cases h6:bK x.k=true
  ·have h1:=w_ (n:=x.n) h6
   rw [h] at h1;have h2:=of_decide_eq_true h1.symm;obtain ⟨h3,h4⟩:=h2;have h0:0<=x.n:=by split at h3<;>omega
   exact ⟨x.n.toNat,by simp [h5,h6];omega,by omega,fun _=>by omega⟩
  ·exact ⟨0,by simp [h5,h6],by omega,fun h=>absurd h h6⟩
def qy:List Nd->Bool
 |[]=>false
 |x::_=>decide (x.s.size=0)&& !(x.k==9)
def y8 (xs:List Nd):Bool:=decide (xs.length<=10000)&&qy xs&&decide (eD xs 100 0=some xs.length)
end Go.Proofs.YtmjdhfbnmmdjiaaGreat
