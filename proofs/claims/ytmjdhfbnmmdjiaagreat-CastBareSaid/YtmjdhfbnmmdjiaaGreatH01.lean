/- Laid together by a tool from the texts of this seat: Same Right. Conditions: each theorem's own. -/
import Derived.Test.YtmjdhfbnmmdjiaaGreatProg
import Derived.WalkKit
import Derived.WalkSpells
import Derived.WalkLawsBesides
import Derived.Deep.Draws
import Derived.Deep.QuietTactic
import Derived.BigQuiet
import Derived.Lib.Hide
import Derived.Laws.StructEq
import Derived.OneCell
import Derived.Laws.EntriesVeiled
set_option maxHeartbeats 8000000
set_option maxRecDepth 100000
namespace Go.Proofs.YtmjdhfbnmmdjiaaGreat
open Go.Lib renaming hid->aB
open Go.RowKit.Below renaming refl->aI
open _root_.Nat renaming le_refl->aK,zero_le->cu
open _root_.List renaming drop_eq_getElem_cons->aU,drop_of_length_le->bE,getElem?_eq_getElem->bS,eq_nil_of_length_eq_zero->fD
open Go.ByteArray renaming toList_eq->dA
open _root_.Bool renaming eq_iff_iff->dL,and_eq_true->eZ,true_and->f_
open _root_.ByteArray renaming empty->dQ
open Go.RowKit
structure Nd where
 k:Int
 s:ByteArray
 n:Int
 deriving DecidableEq
instance:Inhabited Nd:=⟨⟨0,dQ,0⟩⟩
structure Nd.Ok (x:Nd):Prop where
 k0: -9223372036854775808<=x.k
 k1:x.k<=9223372036854775807
 n0: -9223372036854775808<=x.n
 n1:x.n<=9223372036854775807
 s1:x.s.size<=9223372036854775807
def Nd.val (x:Nd):Value:=.agg #[.int .i64 x.k,.string x.s,.int .i64 x.n]
structure RT (w:World) (b o:Nat) (xs:List Nd):Prop where
 c0:∀i x,xs[i]?=some x->w.cell? ⟨b,o+i*3,none⟩=some (.int .i64 x.k)
 c1:∀i x,xs[i]?=some x->w.cell? ⟨b,o+i*3+1,none⟩=some (.string x.s)
 c2:∀i x,xs[i]?=some x->w.cell? ⟨b,o+i*3+2,none⟩=some (.int .i64 x.n)
def bJ (w:World) (B:Nat) (A:Option Addr) (xs:List Nd):Prop:=
 xs≠[]->∃b o,A=some ⟨b,o,none⟩/\b<B/\RT w b o xs
section
variable {w w':World} {B B':Nat} {A:Option Addr} {xs:List Nd} {b o:Nat}
theorem aP {α:Type} {l:List α} {i:Nat} {x:α} (h:l[i]?=some x):i<l.length:=by
 rcases Nat.lt_or_ge i l.length with g|g
 ·exact g
 ·rw [List.getElem?_eq_none g] at h;cases h
theorem aJ {α:Type} {l:List α} {i:Nat} (h:i<l.length):∃x,l[i]?=some x:=⟨l[i],bS h⟩
theorem RT.mono (h:RT w b o xs) (hk:∀off,w'.cell? ⟨b,off,none⟩=w.cell? ⟨b,off,none⟩):RT w' b o xs:=
 ⟨fun i x hx=>(hk _).trans (h.c0 i x hx),fun i x hx=>(hk _).trans (h.c1 i x hx),fun i x hx=>(hk _).trans (h.c2 i x hx)⟩
theorem bJ.nil:bJ w B A []:=fun h=>absurd rfl h
theorem bJ.below (h:bJ w B A xs) (hb:Below B w w'):bJ w' B A xs:=fun hx=>by
 obtain ⟨b,o,rfl,hlt,hr⟩:=h hx;exact ⟨b,o,rfl,hlt,hr.mono fun off=>hb.cell (p:=⟨b,off,none⟩) hlt⟩
theorem bJ.more (h:bJ w B A xs) (hB:B<=B'):bJ w B' A xs:=fun hx=>by
 obtain ⟨b,o,rfl,hlt,hr⟩:=h hx;exact ⟨b,o,rfl,by omega,hr⟩
theorem bJ.drewN (h:bJ w B A xs) (n:Nat):bJ (w.drewN n) B A xs:=fun hx=>by
 obtain ⟨b,o,rfl,hlt,hr⟩:=h hx;exact ⟨b,o,rfl,hlt,hr.mono fun _=>rfl⟩
theorem bJ.alloc (h:bJ w B A xs) (hB:B<=w.heap.size) (ob:Obj):bJ (w.alloc ob) B A xs:=fun hx=>by
 obtain ⟨b,o,rfl,hlt,hr⟩:=h hx;exact ⟨b,o,rfl,hlt,hr.mono fun off=>World.cell?_alloc_lt w ob ⟨b,off,none⟩ (Nat.lt_of_lt_of_le hlt hB)⟩
theorem bJ.at_ (h:bJ w B A xs) {i:Nat} {x:Nd} (hx:xs[i]?=some x):
  ∃b o,A=some ⟨b,o,none⟩/\b<B/\w.cell? ⟨b,o+i*3,none⟩=some (.int .i64 x.k)/\w.cell? ⟨b,o+i*3+1,none⟩=some (.string x.s)/\
   w.cell? ⟨b,o+i*3+2,none⟩=some (.int .i64 x.n):=by
 obtain ⟨b,o,rfl,hb,hr⟩:=h (by rintro rfl;simp at hx);exact ⟨b,o,rfl,hb,hr.c0 i x hx,hr.c1 i x hx,hr.c2 i x hx⟩
end
theorem YB {W w1:World} {B:Nat} (hb:Below B W w1):(∀b o,b<B->w1.cell? ⟨b,o,none⟩=W.cell? ⟨b,o,none⟩)/\(∀b o,b<B->w1.frozen? ⟨b,o,none⟩=W.frozen? ⟨b,o,none⟩):=
 ⟨fun b o h=>hb.cell (p:=⟨b,o,none⟩) h,fun b o h=>hb.frozen (p:=⟨b,o,none⟩) h⟩
theorem ah {w W w1:World} (h:Below w.heap.size w W) (k:Below W.heap.size W w1):Below w.heap.size w w1:=h.trans (k.mono h.size)
theorem au {w W:World} (h:Below w.heap.size w W) (o:Obj):Below w.heap.size w (W.alloc o):=h.alloc h.size o
theorem kY {w W:World} (h:Below w.heap.size w W) {p:Addr} (hp:w.heap.size<=p.block) (u:Value):Below w.heap.size w (W.setCell p u):=h.setCell hp u
theorem dB {w W:World} (h:Below w.heap.size w W) (n:Nat):Below w.heap.size w (W.drewN n):=⟨h.os,h.tape,h.output,h.size,h.block⟩
theorem below_drewN {B:Nat} {a w:World} (h:Below B a w) (n:Nat):Below B a (w.drewN n):=⟨h.os,h.tape,h.output,h.size,h.block⟩
theorem aO {a b:Bool} (h:a=b):Ending.returned (.bool a)= .returned (.bool b):=by rw [h]
theorem kZ {k:IntKind} {a b:Int} (h:a=b):Ending.returned (.int k a)= .returned (.int k b):=by rw [h]
theorem tL {a b:ByteArray} (h:a=b):Ending.returned (.string a)= .returned (.string b):=by rw [h]
def bF (k:Int):Bool:=k==6||k==7
def uT (k:Int):Bool:=k==8||k==9
def dP (k n:Int):Bool:=
 if k=0\/k=8\/k=9 then decide (0<=n) else
 if k=6 then decide (0<=n/\n<=50) else
 if k=7 then decide (0<n/\n<=50) else decide (0<k/\k<=5/\n=0)
def many (k n:Int):Int:=if k=5 then 2 else if bF k=true then n else 0
def Mx (k n:Int):Int:=if k=5 then 2 else if bF k=true then max n 0 else 0
theorem yC {k n:Int} (h:bF k=true):dP k n=decide ((if k=7 then 0<n else 0<=n)/\n<=50):=by
 simp [bF] at h;rcases h with rfl|rfl<;>simp [dP]
theorem KI {k n:Int} (h:dP k n=true):Mx k n=many k n:=by
 unfold Mx many;split
 ·rfl
 ·split
  ·rename_i h6
   rw [yC h6] at h;simp at h;obtain ⟨h1,_⟩:=h;split at h1<;>omega
  ·rfl
theorem Gj (k n:Int) (s:ByteArray) (w:World):
  Calls Tryz.prog 128 #[.agg #[.int .i64 k,.string s,.int .i64 n]] w fun e w'=>e= .returned (.bool (bF k))/\Below w.heap.size w w':=by
 go_enter Tryz.func128,Tryz.ntmps128;go_wp2
 all_goals go_ret
 all_goals exact ⟨aO (by simp_all [bF]),(aI _ _).alloc (aK _) _⟩
theorem KJ (k n:Int) (s:ByteArray) (w:World):
  Calls Tryz.prog 141 #[.agg #[.int .i64 k,.string s,.int .i64 n]] w fun e w'=>e= .returned (.int .i64 (Mx k n))/\Below w.heap.size w w':=by
 by_cases h5:k=5
 ·subst h5
  go_enter Tryz.func141,Tryz.ntmps141;go_wp2_with fail;go_ret;exact ⟨kZ rfl,(aI _ _).alloc (aK _) _⟩
 ·have h5b:(k==5)=false:=by simpa using h5
  go_enter Tryz.func141,Tryz.ntmps141;go_wp2_with fail;refine (Gj _ _ _ _).mono ?_;rintro e w1 ⟨rfl,hb⟩;obtain ⟨hc,hf⟩:=YB hb;go_wp2_with fail
  all_goals go_ret
  all_goals refine ⟨kZ ?_,ah ((aI _ _).alloc (aK _) _) hb⟩
  all_goals (simp_all [Mx];try omega)
theorem oI (k n:Int) (s:ByteArray) (w:World):
  Calls Tryz.prog 78 #[.agg #[.int .i64 k,.string s,.int .i64 n]] w fun e w'=>e= .returned (.int .i64 (many k n))/\Below w.heap.size w w':=by
 go_enter Tryz.func78,Tryz.ntmps78;go_wp2
 all_goals go_ret
 all_goals exact ⟨kZ (by simp_all [many,bF]),(aI _ _).alloc (aK _) _⟩
theorem Az (k n:Int) (s:ByteArray) (w:World):
  Calls Tryz.prog 47 #[.agg #[.int .i64 k,.string s,.int .i64 n]] w fun e w'=>e= .returned (.bool (dP k n))/\Below w.heap.size w w':=by
 go_enter Tryz.func47,Tryz.ntmps47;go_wp2
 all_goals go_ret
 all_goals refine ⟨aO ?_,(aI _ _).alloc (aK _) _⟩
 all_goals go_tidy
 all_goals (unfold dP;simp_all)
 all_goals first|done|rfl|omega|(split<;>simp<;>omega)
def oD (c:Int):Bool:=decide (97<=c/\c<=122)
def oF (c:Int):Bool:=decide (65<=c/\c<=90)
def kE (c:Int):Bool:=oD c||oF c||decide (48<=c/\c<=57)||c==95
def lY (f:Int->Bool):List UInt8->Bool
 |[]=>false
 |c::cs=>f c.toNat&&cs.all fun d=>kE d.toNat
def oJ (s:ByteArray):Bool:=lY oD s.data.toList
def uU (s:ByteArray):Bool:=lY oF s.data.toList
theorem Cm (r:Int) (w:World):Calls Tryz.prog 166 #[.int .i32 r] w fun e w'=>e= .returned (.bool (oD r))/\w=w':=by
 go_enter Tryz.func166,Tryz.ntmps166;go_wp2
 all_goals go_ret
 all_goals go_tidy
 all_goals exact ⟨aO (by simp_all [oD]<;>(intros;omega)),rfl⟩
theorem Cn (r:Int) (w:World):Calls Tryz.prog 167 #[.int .i32 r] w fun e w'=>e= .returned (.bool (oF r))/\w=w':=by
 go_enter Tryz.func167,Tryz.ntmps167;go_wp2
 all_goals go_ret
 all_goals go_tidy
 all_goals exact ⟨aO (by simp_all [oF]<;>(intros;omega)),rfl⟩
theorem AA (r:Int) (w:World):Calls Tryz.prog 181 #[.int .i32 r] w fun e w'=>e= .returned (.bool (kE r))/\w=w':=by
 go_enter Tryz.func181,Tryz.ntmps181
 go_wp2_with (first
  |(go_at_call 166;refine (Cm _ _).mono ?_;rintro e w' ⟨rfl,rfl⟩)
  |(go_at_call 167;refine (Cn _ _).mono ?_;rintro e w' ⟨rfl,rfl⟩))
 all_goals go_ret
 all_goals go_tidy
 all_goals exact ⟨aO (by simp_all [kE]<;>(intros;omega)),rfl⟩
theorem yD (c a b:Int) (w:World):Calls Tryz.prog 92 #[.int .u8 c,.int .u8 a,.int .u8 b] w fun e w'=>e= .returned (.bool (decide (a<=c/\c<=b)))/\w=w':=by
 go_enter Tryz.func92,Tryz.ntmps92;go_wp2
 all_goals go_ret
 all_goals go_tidy
 all_goals exact ⟨aO (by simp_all<;>(intros;omega)),rfl⟩
theorem OP (r:Int) (w:World):Calls Tryz.prog 118 #[.int .u8 r] w fun e w'=>e= .returned (.bool (kE r))/\w=w':=by
 go_enter Tryz.func118,Tryz.ntmps118;go_wp2_with (go_at_call 92;refine (yD _ _ _ _).mono ?_;rintro e w' ⟨rfl,rfl⟩)
 all_goals go_ret
 all_goals go_tidy
 all_goals exact ⟨aO (by simp_all [kE,oD,oF]<;>(intros;omega)),rfl⟩
theorem DJ {f:Int->Bool} (s:ByteArray) {k:Nat} (hk:k<s.size) (h:k=0\/lY f (s.data.toList.take k)=true):
  lY f (s.data.toList.take (k+1))=(if k=0 then f (s[k]'hk).toNat else kE (s[k]'hk).toNat):=by
 have hl:k<s.data.toList.length:=hk
 have e:s.data.toList.take (k+1)=s.data.toList.take k++[s[k]'hk]:=by
  rw [List.take_succ_eq_append_getElem hl];rfl
 rw [e];rcases h with rfl|h
 ·simp [lY]
 ·by_cases h0:k=0
  ·subst h0;simp [lY]
  ·rw [if_neg h0]
   match hm:s.data.toList.take k,h with
   |c::cs,h=>
    simp only [lY,eZ] at h;simp [lY,h.1,h.2]
theorem Gl {f:Int->Bool} (s:ByteArray) {k:Nat} (hk:k<s.size) (h:(if k=0 then f (s[k]'hk).toNat else kE (s[k]'hk).toNat)=false):
  lY f s.data.toList=false:=by
 have hl:k<s.data.toList.length:=hk
 have e:s.data.toList=s.data.toList.take k++(s[k]'hk)::s.data.toList.drop (k+1):=by
  have h1:=List.take_append_drop k s.data.toList;rw [aU hl] at h1;exact h1.symm
 rw [e];by_cases h0:k=0
 ·subst h0
  simp only [if_true] at h;simp [lY,h]
 ·rw [if_neg h0] at h
  match hm:s.data.toList.take k with
  |[]=>
   have:=congrArg List.length hm;rw [List.length_take,List.length_nil] at this
   omega
  |c::cs=>simp [lY,h]
theorem AB {r:Int} (h:128<=r):kE r=false:=by
 simp [kE,oD,oF];omega
theorem vY (w:World) (s:ByteArray) (k:Nat):Below w.heap.size w (w.iter s k):=(aI _ _).alloc (aK _) (.stringIter s k)
theorem V4 {f:Int->Bool} (s:ByteArray) {k:Nat} (hk:k<=s.size) (hp:¬k<s.size) (h:k=0\/lY f (s.data.toList.take k)=true):
  (!s.toList.isEmpty)=lY f s.data.toList:=by
 have hl:s.data.toList.length=s.size:=rfl;have hk':k=s.data.toList.length:=by omega
 rw [dA];rcases h with rfl|h
 ·have:s.data.toList=[]:=fD hk'.symm
  rw [this];rfl
 ·rw [List.take_of_length_le (by omega)] at h
  rw [h]
  match s.data.toList,h with
  |c::cs,_=>rfl
def Fits (f:Int->Bool) (K:Nat):Prop:=∀(r:Int) (w:World),Calls Tryz.prog K #[.int .i32 r] w fun e w'=>e= .returned (.bool (f r))/\w=w'
theorem KL (f:Int->Bool) (K:Nat) (hK:K=166\/K=167) (hf:Hid (Fits f K)) (hhi:∀r,128<=r->f r=false) (s:ByteArray) (w:World):
  Calls Tryz.prog 165 #[.string s,.func (.func K) #[] #[]] w fun e w'=>e= .returned (.bool (lY f s.data.toList))/\Below w.heap.size w w':=by
 have Hhi:=aB hhi;clear hhi;rcases hK with rfl|rfl
 all_goals
  go_enter Tryz.func165,Tryz.ntmps165;go_wp2_with fail;go_loopw [5] (fun _ w'=>∃k:Nat,k<=s.size/\w'=w.iter s k/\Hid (k=0\/lY f (s.data.toList.take k)=true)) (fun _ w'=>s.size-w'.iterPos w.heap.size)
  case atStart=>exact ⟨0,cu _,rfl,aB (.inl rfl)⟩
  case round=>
   obtain ⟨k,hk,rfl,hgood⟩:=hrel;by_cases hp:k<s.size
   ·by_cases ha:(s[k]'hp).toNat<128
    ·have hnx:∀ty,(Instr.next (.pointer (some ⟨w.heap.size,0,none⟩)) true ty).run Tryz.prog (w.iter s k)=_:=fun ty=>run_next_ascii w s k ty hp ha
     have hstep:=aB (DJ (f:=f) s hp hgood.out);have hbad:=aB (Gl (f:=f) s hp);generalize hcv:(s[k]'hp).toNat=c at*;clear hcv;by_cases h0:k=0
     ·subst h0
      cases hfr:f c
      all_goals go_wp2_with (first
       |(go_at_call 166;refine (hf.out _ _).mono ?_;rintro e w' ⟨rfl,rfl⟩)
       |(go_at_call 167;refine (hf.out _ _).mono ?_;rintro e w' ⟨rfl,rfl⟩))
      ·go_ret
       exact ⟨aO (hbad.out (by simpa using hfr)).symm,vY _ _ _⟩
      ·go_roundw
       case rel=>exact ⟨1,hp,rfl,aB (.inr (by rw [hstep.out];simpa using hfr))⟩
       case measure=>simp;omega
     ·have h0b:((k:Int)==0)=false:=by rw [beq_eq_false_iff_ne];omega
      have h0p:(0:Int)<k:=by omega
      cases hfr:kE c
      all_goals go_wp2_with (go_at_call 181;refine (AA _ _).mono ?_;rintro e w' ⟨rfl,rfl⟩)
      ·go_ret
       exact ⟨aO (hbad.out (by rw [if_neg h0];exact hfr)).symm,vY _ _ _⟩
      ·go_roundw
       case rel=>exact ⟨k+1,hp,rfl,aB (.inr (by rw [hstep.out,if_neg h0];exact hfr))⟩
       case measure=>simp;omega
    ·have hnx:∀ty,(Instr.next (.pointer (some ⟨w.heap.size,0,none⟩)) true ty).run Tryz.prog (w.iter s k)=_:=fun ty=>run_next_any w s k ty hp
     have hhigh:=decode_high s k hp (by omega);have h128:=hhigh.1;have hbad:=aB (Gl (f:=f) s hp);have hbyte:=aB (show 128<=((s[k]'hp).toNat:Int) by omega);clear hhigh;generalize hcv:(Utf8.decode s k).1=c at*;generalize hdv:(Utf8.decode s k).2=d at*;clear hcv hdv;have YC:(128:Int)<=(c:Int):=by omega
     by_cases h0:k=0
     ·subst h0
      have hfr:f c=false:=Hhi.out _ YC
      go_wp2_with (first
       |(go_at_call 166;refine (hf.out _ _).mono ?_;rintro e w' ⟨rfl,rfl⟩)
       |(go_at_call 167;refine (hf.out _ _).mono ?_;rintro e w' ⟨rfl,rfl⟩))
      go_ret;exact ⟨aO (hbad.out (by simpa using Hhi.out _ hbyte.out)).symm,vY _ _ _⟩
     ·have h0b:((k:Int)==0)=false:=by rw [beq_eq_false_iff_ne];omega
      have h0p:(0:Int)<k:=by omega
      have hfr:kE c=false:=AB YC;go_wp2_with (go_at_call 181;refine (AA _ _).mono ?_;rintro e w' ⟨rfl,rfl⟩);go_ret;exact ⟨aO (hbad.out (by rw [if_neg h0];exact AB hbyte.out)).symm,vY _ _ _⟩
   ·have hnx:∀ty,(Instr.next (.pointer (some ⟨w.heap.size,0,none⟩)) true ty).run Tryz.prog (w.iter s k)=_:=fun ty=>run_next_end w s k ty hp
    have hend:=aB (V4 (f:=f) s hk hp hgood.out);go_wp2_with fail;go_ret;exact ⟨aO (by rw [hend.out]),vY _ _ _⟩
theorem OQ (s:ByteArray) (w:World):Calls Tryz.prog 147 #[.string s] w fun e w'=>e= .returned (.bool (oJ s))/\Below w.heap.size w w':=by
 have hf:=aB (show Fits oD 166 from Cm);go_enter Tryz.func147,Tryz.ntmps147;go_wp2_with (go_at_call 165;refine (KL oD _ (.inl rfl) hf (fun r h=>by simp [oD];omega) s _).mono ?_;rintro e w' ⟨rfl,hb⟩);go_ret;exact ⟨rfl,hb⟩
theorem RI (s:ByteArray) (w:World):Calls Tryz.prog 148 #[.string s] w fun e w'=>e= .returned (.bool (uU s))/\Below w.heap.size w w':=by
 have hf:=aB (show Fits oF 167 from Cn);go_enter Tryz.func148,Tryz.ntmps148;go_wp2_with (go_at_call 165;refine (KL oF _ (.inr rfl) hf (fun r h=>by simp [oF];omega) s _).mono ?_;rintro e w' ⟨rfl,hb⟩);go_ret;exact ⟨rfl,hb⟩
def vF (s:ByteArray) (k:Nat):Bool:=(s.data.toList.drop k).all fun d=>kE d.toNat
theorem OT (s:ByteArray) {k:Nat} (hk:k<s.size):vF s k=(kE (s[k]'hk).toNat&&vF s (k+1)):=by
 have hl:k<s.data.toList.length:=hk;unfold vF;rw [aU hl,List.all_cons];rfl
theorem RL (s:ByteArray) {k:Nat} (hk:¬k<s.size):vF s k=true:=by
 have hl:s.data.toList.length=s.size:=rfl;unfold vF;rw [bE (by omega)];rfl
theorem Gm (f:Int->Bool) (s:ByteArray) (hk:0<s.size):lY f s.data.toList=(f (s[0]'hk).toNat&&vF s 1):=by
 have hl:0<s.data.toList.length:=hk
 have e:s.data.toList=(s[0]'hk)::s.data.toList.drop 1:=by
  have:=aU hl;rw [List.drop_zero] at this;exact this
 unfold vF;rw [e];rfl
theorem OV (s:ByteArray) (w:World) (hs:s.size<=9223372036854775807):
  Calls Tryz.prog 93 #[.string s] w fun e w'=>e= .returned (.bool (vF s 1))/\w=w':=by
 go_enter Tryz.func93,Tryz.ntmps93;go_wp2_with fail;go_loop [3] (fun i=>∃k:Nat,1<=k/\i= .int .i64 k/\Hid (vF s k=vF s 1)) (fun i=>s.size-(intOf i).toNat)
 case atStart=>exact ⟨1,aK _,rfl,aB rfl⟩
 case round=>
  obtain ⟨k,hk,rfl,hgood⟩:=hrel;by_cases hp:k<s.size
  ·have hstep:=aB (OT s hp)
   cases hb:kE (s[k]'hp).toNat
   all_goals
    have Hb:=aB hb;go_wp2_with (go_at_call 118;refine (OP _ _).mono ?_;rintro e w' ⟨rfl,rfl⟩)
   ·go_ret
    exact ⟨aO (by rw [<-hgood.out,hstep.out,Hb.out];rfl),rfl⟩
   ·go_round
    case rel=>exact ⟨k+1,by omega,by go_num,aB (by rw [<-hgood.out,hstep.out,Hb.out];rfl)⟩
    case measure=>simp [intOf];omega
  ·have hend:=aB (RL s hp)
   go_wp2_with fail;go_ret;exact ⟨aO (by rw [<-hgood.out,hend.out]),rfl⟩
theorem EO (f:Int->Bool) (s:ByteArray) (hk:¬0<s.size):lY f s.data.toList=false:=by
 have hl:s.data.toList.length=s.size:=rfl;rw [fD (l:=s.data.toList) (by omega)];rfl
theorem iw (s:ByteArray) (w:World) (hs:s.size<=9223372036854775807):
  Calls Tryz.prog 57 #[.string s] w fun e w'=>e= .returned (.bool (oJ s))/\w=w':=by
 by_cases h0:0<s.size
 ·have hfin:=aB (Gm oD s h0)
  go_enter Tryz.func57,Tryz.ntmps57
  go_wp2_with (first
   |(go_at_call 92;refine (yD _ _ _ _).mono ?_;rintro e w' ⟨rfl,rfl⟩)
   |(go_at_call 93;refine (OV _ _ hs).mono ?_;rintro e w' ⟨rfl,rfl⟩))
  all_goals go_ret
  all_goals go_tidy
  all_goals exact ⟨aO (by unfold oJ;rw [hfin.out];simp_all [oD]<;>(intros;omega)),rfl⟩
 ·have hfin:=aB (EO oD s h0)
  have hz:¬(0:Int)<(s.size:Int):=by omega
  go_enter Tryz.func57,Tryz.ntmps57;go_wp2_with fail;go_ret;exact ⟨aO (by unfold oJ;rw [hfin.out]),rfl⟩
theorem mU (s:ByteArray) (w:World) (hs:s.size<=9223372036854775807):
  Calls Tryz.prog 58 #[.string s] w fun e w'=>e= .returned (.bool (uU s))/\w=w':=by
 by_cases h0:0<s.size
 ·have hfin:=aB (Gm oF s h0)
  go_enter Tryz.func58,Tryz.ntmps58
  go_wp2_with (first
   |(go_at_call 92;refine (yD _ _ _ _).mono ?_;rintro e w' ⟨rfl,rfl⟩)
   |(go_at_call 93;refine (OV _ _ hs).mono ?_;rintro e w' ⟨rfl,rfl⟩))
  all_goals go_ret
  all_goals go_tidy
  all_goals exact ⟨aO (by unfold uU;rw [hfin.out];simp_all [oF]<;>(intros;omega)),rfl⟩
 ·have hfin:=aB (EO oF s h0)
  have hz:¬(0:Int)<(s.size:Int):=by omega
  go_enter Tryz.func58,Tryz.ntmps58;go_wp2_with fail;go_ret;exact ⟨aO (by unfold uU;rw [hfin.out]),rfl⟩
def bP (k:Int) (s:ByteArray):Bool:=if k=6 then oJ s else if k=7 then uU s else decide (s.size=0)
theorem gD (s:ByteArray):s.toList.isEmpty=decide (s.size=0):=by
 have hl:s.data.toList.length=s.size:=rfl;rw [dA,List.isEmpty_iff_length_eq_zero |> fun h=>(dL.2 (by rw [h,hl,decide_eq_true_iff]):s.data.toList.isEmpty=decide (s.size=0))]
theorem MB (k:Int) (s:ByteArray) (w:World):
  Calls Tryz.prog 127 #[.int .i64 k,.string s] w fun e w'=>e= .returned (.bool (bP k s))/\Below w.heap.size w w':=by
 go_enter Tryz.func127,Tryz.ntmps127
 go_wp2_with (first
  |(go_at_call 147;refine (OQ _ _).mono ?_;rintro e w' ⟨rfl,hb⟩)
  |(go_at_call 148;refine (RI _ _).mono ?_;rintro e w' ⟨rfl,hb⟩))
 all_goals go_ret
 all_goals go_tidy
 all_goals first
  |exact ⟨aO (by simp_all [bP]),hb⟩
  |exact ⟨aO (by have:=gD s;simp_all [bP]),aI _ _⟩
def vZ (x y:Nd):Bool:=x.k==y.k&&x.s.toList==y.s.toList&&x.n==y.n
theorem KM (x y:Nd):vZ x y=true↔x=y:=by
 obtain ⟨k,s,n⟩:=x;obtain ⟨k',s',n'⟩:=y;simp only [vZ,eZ,beq_iff_eq,Nd.mk.injEq];rw [dA,dA];obtain ⟨⟨l⟩⟩:=s;obtain ⟨⟨l'⟩⟩:=s';simp [and_assoc]
theorem UU (d:Nat) (x y:Nd) (w:World):
  (Op.equalIn (d+2) 49 x.val y.val).run Tryz.prog w= .ok (vZ x y) w:=by
 have u3:=Tryz.underlying3;have u9:=Tryz.underlying9;have a3:=Tryz.isAgg3;have z3:=Tryz.sizeOf3;have a9:=Tryz.isAgg9;have z9:=Tryz.sizeOf9;have hS:Tryz.prog.underlying 49=some (.struct (Tryz.prog.fieldsOf 49)):=by kernel_rfl
 have hp:Tryz.prog.stoodInHeld 49=false:=by kernel_rfl
 unfold Nd.val;rw [run_equalIn_agg w (d+1) 49 _ _ hS hp];simp only [Program.fieldsOf,Tryz.underlying49];go_simp;by_cases h1:x.k=y.k<;>by_cases h2:x.s.toList=y.s.toList<;>by_cases h3:x.n=y.n<;>simp [vZ,h1,h2,h3]
theorem EP (x y:Nd) (w:World):(binOp .neq 49 x.val y.val).run Tryz.prog w= .ok (.bool (!vZ x y)) w:=by
 unfold Nd.val;rw [run_neq_struct,show (10000:Nat)=9998+2 from rfl];have:=UU 9998 x y w;unfold Nd.val at this;rw [this];rfl
theorem OW (x y:Nd) (w:World):(binOp .eql 49 x.val y.val).run Tryz.prog w= .ok (.bool (vZ x y)) w:=by
 unfold Nd.val;rw [run_eql_struct,show (10000:Nat)=9998+2 from rfl];have:=UU 9998 x y w;unfold Nd.val at this;rw [this];rfl
theorem JV {xs ys:List Nd} {k:Nat} {x y:Nd} (hx:xs[k]?=some x) (hy:ys[k]?=some y):
  decide (xs.drop k=ys.drop k)=(vZ x y&&decide (xs.drop (k+1)=ys.drop (k+1))):=by
 have h1:xs.drop k=x::xs.drop (k+1):=by
  have hl:=aP hx;rw [aU hl];rw [bS hl] at hx;injection hx with hx
  rw [hx]
 have h2:ys.drop k=y::ys.drop (k+1):=by
  have hl:=aP hy;rw [aU hl];rw [bS hl] at hy;injection hy with hy
  rw [hy]
 rw [h1,h2,dL];simp [KM]
theorem akd (A B:Option Addr) (c d Ba Bb:Nat) (xs ys:List Nd) (w:World) (ha:bJ w Ba A xs) (hb:bJ w Bb B ys)
  (hl:xs.length<=9223372036854775807):
  Calls Tryz.prog 17 #[.slice A xs.length c,.slice B ys.length d] w fun e w'=>e= .returned (.bool (decide (xs=ys)))/\∃n,w'=w.drewN n:=by
 by_cases hlen:xs.length=ys.length
 ·rw [<-hlen]
  have Hlen:=aB hlen;clear hlen;go_enter Tryz.func17,Tryz.ntmps17;go_wp2_with fail;go_loopw [5] (fun i w'=>∃k n:Nat,k<=xs.length/\i= .int .i64 k/\w'=w.drewN n/\Hid (decide (xs.drop k=ys.drop k)=decide (xs=ys))) (fun i _=>xs.length-(intOf i).toNat)
  case atStart=>exact ⟨0,0,cu _,rfl,rfl,aB rfl⟩
  case round=>
   obtain ⟨k,n,hk,rfl,rfl,hgood⟩:=hrel;by_cases hp:k<xs.length
   ·obtain ⟨x,hx⟩:=aJ hp
    obtain ⟨y,hy⟩:=aJ (show k<ys.length by rw [<-Hlen.out];exact hp);have hstep:=aB (JV hx hy);obtain ⟨b1,o1,rfl,hb1,c10,c11,c12⟩:=ha.at_ hx;obtain ⟨b2,o2,rfl,hb2,c20,c21,JW⟩:=hb.at_ hy;have hne:=EP x y;unfold Nd.val at hne;have Hx:=aB hx;have Hy:=aB hy;clear hx hy
    cases he:vZ x y
    all_goals
     have He:=aB he;rw [he] at hne;clear he;go_wp2_with fail;go_quiet (fail);go_wp2_with fail
    ·go_ret
     exact ⟨aO (by rw [<-hgood.out,hstep.out,He.out];rfl),_,World.drewN_drewN ..⟩
    ·go_roundw
     case rel=>exact ⟨k+1,_,hp,by go_num,rfl,aB (by rw [<-hgood.out,hstep.out,He.out,f_])⟩
     case measure=>simp [intOf];omega
   ·have hfin:=aB (show decide (xs.drop k=ys.drop k)=true by
     have:=Hlen.out;rw [bE (by omega),bE (by omega)];simp)
    go_wp2_with fail;go_ret;exact ⟨aO (by rw [<-hgood.out,hfin.out]),_,rfl⟩
 ·have hle:((xs.length:Int) !=(ys.length:Int))=true:=by simp;omega
  have hfin:=aB (show decide (xs=ys)=false by simp;rintro rfl;exact hlen rfl);clear hlen;go_enter Tryz.func17,Tryz.ntmps17;go_wp2_with fail;go_ret;exact ⟨aO (by rw [hfin.out]),0,rfl⟩
def pV (p:Nd->Bool) (xs:List Nd) (k:Nat):Bool:=(xs.drop k).all p
theorem q8 {p:Nd->Bool} {xs:List Nd} {k:Nat} {x:Nd} (hx:xs[k]?=some x):pV p xs k=(p x&&pV p xs (k+1)):=by
 have hl:=aP hx;unfold pV;rw [aU hl,List.all_cons];rw [bS hl] at hx;injection hx with hx
 rw [hx]
theorem sJ {p:Nd->Bool} {xs:List Nd} {k:Nat} (h:¬k<xs.length):pV p xs k=true:=by
 unfold pV;rw [bE (by omega)];rfl
def pW (xs:List Nd):Bool:=xs.all fun x=> !uT x.k
def jI (xs:List Nd):Bool:=xs.all fun x=> !(x.k==0)
theorem ER (A:Option Addr) (c Ba:Nat) (xs:List Nd) (w:World) (ha:bJ w Ba A xs) (hl:xs.length<=9223372036854775807):
  Calls Tryz.prog 13 #[.slice A xs.length c] w fun e w'=>e= .returned (.bool (pW xs))/\w=w':=by
 go_enter Tryz.func13,Tryz.ntmps13;go_wp2_with fail;go_loop [3] (fun i=>∃k:Nat,k<=xs.length/\i= .int .i64 k/\Hid (pV (fun x=> !uT x.k) xs k=pW xs)) (fun i=>xs.length-(intOf i).toNat)
 case atStart=>exact ⟨0,cu _,rfl,aB rfl⟩
 case round=>
  obtain ⟨k,hk,rfl,hgood⟩:=hrel;by_cases hp:k<xs.length
  ·obtain ⟨x,hx⟩:=aJ hp
   have hstep:=aB (q8 (p:=fun x=> !uT x.k) hx);obtain ⟨b1,o1,rfl,hb1,c10,c11,c12⟩:=ha.at_ hx;clear hx;by_cases h8:x.k=8
   ·have h8b:(x.k==8)=true:=by simpa using h8
    have H8:=aB h8;clear h8;go_wp2_with fail;go_ret;exact ⟨aO (by rw [<-hgood.out,hstep.out];simp [uT,H8.out]),rfl⟩
   ·have h8b:(x.k==8)=false:=by simpa using h8
    by_cases h9:x.k=9
    ·have OY:(x.k==9)=true:=by simpa using h9
     have H9:=aB h9;clear h9 h8;go_wp2_with fail;go_ret;exact ⟨aO (by rw [<-hgood.out,hstep.out];simp [uT,H9.out]),rfl⟩
    ·have OY:(x.k==9)=false:=by simpa using h9
     go_wp2_with fail;go_round
     case rel=>exact ⟨k+1,hp,by go_num,aB (by rw [<-hgood.out,hstep.out];simp [uT,h8b,OY])⟩
     case measure=>simp [intOf];omega
  ·have hend:=aB (sJ (p:=fun x=> !uT x.k) hp)
   go_wp2_with fail;go_ret;exact ⟨aO (by rw [<-hgood.out,hend.out]),rfl⟩
theorem wV (A:Option Addr) (c Ba:Nat) (xs:List Nd) (w:World) (ha:bJ w Ba A xs) (hl:xs.length<=9223372036854775807):
  Calls Tryz.prog 12 #[.slice A xs.length c] w fun e w'=>e= .returned (.bool (jI xs))/\w=w':=by
 go_enter Tryz.func12,Tryz.ntmps12;go_wp2_with fail;go_loop [3] (fun i=>∃k:Nat,k<=xs.length/\i= .int .i64 k/\Hid (pV (fun x=> !(x.k==0)) xs k=jI xs)) (fun i=>xs.length-(intOf i).toNat)
 case atStart=>exact ⟨0,cu _,rfl,aB rfl⟩
 case round=>
  obtain ⟨k,hk,rfl,hgood⟩:=hrel;by_cases hp:k<xs.length
  ·obtain ⟨x,hx⟩:=aJ hp
   have hstep:=aB (q8 (p:=fun x=> !(x.k==0)) hx);obtain ⟨b1,o1,rfl,hb1,c10,c11,c12⟩:=ha.at_ hx;clear hx
   cases h8:(x.k==0)
   all_goals
    have H8:=aB h8;go_wp2_with fail
   ·go_round
    case rel=>exact ⟨k+1,hp,by go_num,aB (by rw [<-hgood.out,hstep.out,H8.out];rfl)⟩
    case measure=>simp [intOf];omega
   ·go_ret
    exact ⟨aO (by rw [<-hgood.out,hstep.out,H8.out];rfl),rfl⟩
  ·have hend:=aB (sJ (p:=fun x=> !(x.k==0)) hp)
   go_wp2_with fail;go_ret;exact ⟨aO (by rw [<-hgood.out,hend.out]),rfl⟩
def Nd.bare (x:Nd):Nd:=if x.k=0 then {x with n:=0} else x
def pX (x y:Nd):Bool:=vZ x.bare y.bare
def qI (xs ys:List Nd) (k:Nat):Bool:=decide ((xs.drop k).map Nd.bare=(ys.drop k).map Nd.bare)
def lZ (xs ys:List Nd):Bool:=decide (xs.map Nd.bare=ys.map Nd.bare)
theorem drop_cons {α:Type} {xs:List α} {k:Nat} {x:α} (hx:xs[k]?=some x):xs.drop k=x::xs.drop (k+1):=by
 have hl:=aP hx;rw [aU hl];rw [bS hl] at hx;injection hx with hx
 rw [hx]
theorem yE {xs ys:List Nd} {k:Nat} {x y:Nd} (hx:xs[k]?=some x) (hy:ys[k]?=some y):
  qI xs ys k=(pX x y&&qI xs ys (k+1)):=by
 unfold qI pX;rw [drop_cons hx,drop_cons hy,dL];simp [KM]
theorem bare_eq (x:Nd):x.bare=⟨x.k,x.s,if x.k==0 then 0 else x.n⟩:=by
 unfold Nd.bare;by_cases h:x.k=0<;>simp [h]
theorem AJ {xs ys:List Nd} {k:Nat} (h:xs.length=ys.length) (hk:¬k<xs.length):qI xs ys k=true:=by
 unfold qI;rw [bE (by omega),bE (by omega)];simp
theorem Gn {xs ys:List Nd} (h:xs.length≠ys.length):lZ xs ys=false:=by
 unfold lZ;simp only [decide_eq_false_iff_not];intro e;have:=congrArg List.length e;simp at this;exact h this
theorem Bj (A B:Option Addr) (c d:Nat) (xs ys:List Nd) (w:World) (ha:bJ w w.heap.size A xs) (hb:bJ w w.heap.size B ys)
  (hl:xs.length<=9223372036854775807):
  Calls Tryz.prog 21 #[.slice A xs.length c,.slice B ys.length d] w fun e w'=>e= .returned (.bool (lZ xs ys))/\Below w.heap.size w w':=by
 by_cases hlen:xs.length=ys.length
 ·rw [<-hlen]
  have Hlen:=aB hlen;clear hlen;go_enter Tryz.func21,Tryz.ntmps21;go_wp2_with fail;go_loopw [5] (fun i w'=>∃k:Nat,k<=xs.length/\i= .int .i64 k/\Below w.heap.size w w'/\Hid (qI xs ys k=lZ xs ys)) (fun i _=>xs.length-(intOf i).toNat)
  case atStart=>exact ⟨0,cu _,rfl,aI _ _,aB rfl⟩
  case round=>
   obtain ⟨k,hk,rfl,hbel,hgood⟩:=hrel;by_cases hp:k<xs.length
   ·obtain ⟨x,hx⟩:=aJ hp
    obtain ⟨y,hy⟩:=aJ (show k<ys.length by rw [<-Hlen.out];exact hp);have hstep:=aB (yE hx hy);obtain ⟨b1,o1,rfl,hb1,c10,c11,c12⟩:=((ha.below hbel).more hbel.size).at_ hx;obtain ⟨b2,o2,rfl,hb2,c20,c21,JW⟩:=((hb.below hbel).more hbel.size).at_ hy;have hz:=hbel.size;have q1:b1<wr.heap.size+1:=by omega
    have q2:b2<wr.heap.size+1:=by omega
    clear hx hy;obtain ⟨n1,hbx,hn1⟩:∃n1,x.bare=⟨x.k,x.s,n1⟩/\n1=(if x.k==0 then 0 else x.n):=⟨_,bare_eq x,rfl⟩;obtain ⟨n2,hby,hn2⟩:∃n2,y.bare=⟨y.k,y.s,n2⟩/\n2=(if y.k==0 then 0 else y.n):=⟨_,bare_eq y,rfl⟩;have hne:=EP ⟨x.k,x.s,n1⟩ ⟨y.k,y.s,n2⟩;simp only [Nd.val] at hne;have hsn:vZ ⟨x.k,x.s,n1⟩ ⟨y.k,y.s,n2⟩=pX x y:=by unfold pX;rw [hbx,hby]
    clear hbx hby;rw [hsn] at hne;clear hsn
    cases hkx:(x.k==0)
    all_goals
     cases hky:(y.k==0)
    all_goals
     simp only [hkx,hky,if_true,Bool.false_eq_true,if_false] at hn1 hn2;subst hn1 hn2
     cases he:pX x y
    all_goals
     have He:=aB he;rw [he] at hne;clear he;go_wp2_with fail;go_region
    all_goals
     go_wp2_with fail
    all_goals first
     |(go_ret
       exact ⟨aO (by rw [<-hgood.out,hstep.out,He.out];rfl),by repeat (first|exact hbel|refine au ?_ _|refine kY ?_ (by simp;omega) _|refine Below.drew ?_|refine dB ?_ _)⟩)
     |(go_roundw
       case rel=>exact ⟨k+1,hp,by go_num,(by repeat (first|exact hbel|refine au ?_ _|refine kY ?_ (by simp;omega) _|refine Below.drew ?_|refine dB ?_ _)),aB (by rw [<-hgood.out,hstep.out,He.out,f_])⟩
       case measure=>simp [intOf];omega)
   ·have hfin:=aB (AJ Hlen.out hp)
    go_wp2_with fail;go_ret;exact ⟨aO (by rw [<-hgood.out,hfin.out]),hbel⟩
 ·have hle:((xs.length:Int) !=(ys.length:Int))=true:=by simp;omega
  have hfin:=aB (Gn hlen);clear hlen;go_enter Tryz.func21,Tryz.ntmps21;go_wp2_with fail;go_ret;exact ⟨aO (by rw [hfin.out]),aI _ _⟩
def leS (a b:ByteArray):Bool:=Op.bytesLess a.toList b.toList||a.toList==b.toList
def yF (x:Nd) (k:Int) (last:ByteArray) (y:Nd):Bool:=
 if y.k=9 then bF x.k&& !decide (k<x.n-1)&&decide (y.s.size=0)
 else bP x.k y.s&& !(bF x.k&&leS y.s last)
def jU (tr:Nat->Option Nat) (xs:List Nd) (x:Nd):Nat->Int->ByteArray->Nat->Option Nat
 |0,_,_,at_=>some at_
 |todo+1,k,last,at_=>
  match xs[at_]? with
  |none=>none
  |some y=>if yF x k last y=true then (match tr at_ with
   |none=>none
   |some at'=>jU tr xs x todo (k+1) y.s at') else none
def eG (xs:List Nd):Nat->Nat->Option Nat
 |0,_=>none
 |f+1,i=>
  match xs[i]? with
  |none=>none
  |some x=>if dP x.k x.n=true then jU (eG xs f) xs x (many x.k x.n).toNat 0 dQ (i+1) else none
theorem DK {x:Nd} (h:dP x.k x.n=true):∃M:Nat,many x.k x.n=(M:Int)/\M<=50/\(bF x.k=true->x.n=(M:Int)):=by
 unfold many;by_cases h5:x.k=5
 ·exact ⟨2,by simp [h5],by omega,by simp [h5,bF]⟩
 ·by_cases h6:bF x.k=true
  ·have h1:=yC (n:=x.n) h6
   rw [h] at h1;have h2:=of_decide_eq_true h1.symm;obtain ⟨h3,h4⟩:=h2;have h0:0<=x.n:=by split at h3<;>omega
   exact ⟨x.n.toNat,by simp [h5,h6];omega,by omega,fun _=>by omega⟩
  ·exact ⟨0,by simp [h5,h6],by omega,fun h=>absurd h h6⟩
def q9:List Nd->Bool
 |[]=>false
 |x::_=>decide (x.s.size=0)&& !(x.k==9)
def zV (xs:List Nd):Bool:=decide (xs.length<=10000)&&q9 xs&&decide (eG xs 100 0=some xs.length)
end Go.Proofs.YtmjdhfbnmmdjiaaGreat
