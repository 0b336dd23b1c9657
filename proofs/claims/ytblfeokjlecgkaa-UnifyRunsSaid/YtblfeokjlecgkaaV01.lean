/- Laid together by a tool from the texts of this seat: Same Right KidsR RRight. Conditions: each theorem's own. -/
import Derived.Test.YtblfeokjlecgkaaProg
import Derived.WalkKit
import Derived.WalkSpells
import Derived.WalkLawsBesides
import Derived.Deep.Draws
import Derived.Deep.QuietTactic
import Derived.BigQuiet
import Derived.Lib.Hide
import Derived.Laws.StructEq
import Derived.OneCell
import Derived.Laws.EntriesVeiled
import Derived.Maps.AppendAt
import Derived.Deep.AppendLies
set_option maxHeartbeats 8000000
set_option maxRecDepth 100000
namespace Go.Proofs.Ytblfeokjlecgkaa
open Go.Lib renaming hid->aC
open Go.Value renaming slice->aO,ownBlock->nU,oneCell'->zK
open Go.RowKit.Below renaming refl->aT,drew->bM
open _root_.Nat renaming le_refl->bN,zero_le->h_,zero_add->iE,succ_mul->jZ,add_zero->pO,lt_of_lt_of_le->vv,le_trans->zk,add_comm->AA
open _root_.Bool renaming true_and->bW,false_and->fE,eq_iff_iff->AQ
open _root_.List renaming drop_eq_getElem_cons->f_,drop_of_length_le->gZ,getElem?_eq_getElem->jr,flatMap_cons->jy,eq_nil_of_length_eq_zero->kZ,getElem?_append_right->zA,length_take->zH,getElem?_eq_none->AO,length_append->A_,length_cons->Bl,map_cons->Bn,take_of_length_le->CK,reverse_append->Di
open Go.World renaming ownsRow->lM
open _root_.ByteArray renaming empty->pR
open Go.ByteArray renaming toList_eq->yH
open _root_.Int renaming eq_ofNat_of_zero_le->BJ
open Go.RowKit
structure Nd where
 k:Int
 s:ByteArray
 n:Int
 deriving DecidableEq
instance:Inhabited Nd:=⟨⟨0,pR,0⟩⟩
structure Nd.Ok (x:Nd):Prop where
 k0: -9223372036854775808<=x.k
 k1:x.k<=9223372036854775807
 n0: -9223372036854775808<=x.n
 n1:x.n<=9223372036854775807
 s1:x.s.size<=9223372036854775807
def Nd.val (x:Nd):Value:=.agg #[.int .i64 x.k,.string x.s,.int .i64 x.n]
structure RT (w:World) (b o:Nat) (xs:List Nd):Prop where
 c0:∀i x,xs[i]?=some x->w.cell? ⟨b,o+i*3,none⟩=some (.int .i64 x.k)
 c1:∀i x,xs[i]?=some x->w.cell? ⟨b,o+i*3+1,none⟩=some (.string x.s)
 c2:∀i x,xs[i]?=some x->w.cell? ⟨b,o+i*3+2,none⟩=some (.int .i64 x.n)
def aM (w:World) (B:Nat) (A:Option Addr) (xs:List Nd):Prop:=
 xs≠[]->∃b o,A=some ⟨b,o,none⟩/\b<B/\RT w b o xs
section
variable {w w':World} {B B':Nat} {A:Option Addr} {xs:List Nd} {b o:Nat}
theorem bf {α:Type} {l:List α} {i:Nat} {x:α} (h:l[i]?=some x):i<l.length:=by
 rcases Nat.lt_or_ge i l.length with g|g
 ·exact g
 ·rw [AO g] at h;cases h
theorem aD {α:Type} {l:List α} {i:Nat} (h:i<l.length):∃x,l[i]?=some x:=⟨l[i],jr h⟩
theorem RT.mono (h:RT w b o xs) (hk:∀off,w'.cell? ⟨b,off,none⟩=w.cell? ⟨b,off,none⟩):RT w' b o xs:=
 ⟨fun i x hx=>(hk _).trans (h.c0 i x hx),fun i x hx=>(hk _).trans (h.c1 i x hx),fun i x hx=>(hk _).trans (h.c2 i x hx)⟩
theorem aM.nil:aM w B A []:=fun h=>absurd rfl h
theorem aM.below (h:aM w B A xs) (hb:Below B w w'):aM w' B A xs:=fun hx=>by
 obtain ⟨b,o,rfl,hlt,hr⟩:=h hx;exact ⟨b,o,rfl,hlt,hr.mono fun off=>hb.cell (p:=⟨b,off,none⟩) hlt⟩
theorem aM.more (h:aM w B A xs) (hB:B<=B'):aM w B' A xs:=fun hx=>by
 obtain ⟨b,o,rfl,hlt,hr⟩:=h hx;exact ⟨b,o,rfl,by omega,hr⟩
theorem aM.drew (h:aM w B A xs):aM w.drew B A xs:=fun hx=>by
 obtain ⟨b,o,rfl,hlt,hr⟩:=h hx;exact ⟨b,o,rfl,hlt,hr.mono fun _=>rfl⟩
theorem aM.alloc (h:aM w B A xs) (hB:B<=w.heap.size) (ob:Obj):aM (w.alloc ob) B A xs:=fun hx=>by
 obtain ⟨b,o,rfl,hlt,hr⟩:=h hx;exact ⟨b,o,rfl,hlt,hr.mono fun off=>World.cell?_alloc_lt w ob ⟨b,off,none⟩ (vv hlt hB)⟩
theorem aM.at_ (h:aM w B A xs) {i:Nat} {x:Nd} (hx:xs[i]?=some x):
  ∃b o,A=some ⟨b,o,none⟩/\b<B/\w.cell? ⟨b,o+i*3,none⟩=some (.int .i64 x.k)/\w.cell? ⟨b,o+i*3+1,none⟩=some (.string x.s)/\
   w.cell? ⟨b,o+i*3+2,none⟩=some (.int .i64 x.n):=by
 obtain ⟨b,o,rfl,hb,hr⟩:=h (by rintro rfl;simp at hx);exact ⟨b,o,rfl,hb,hr.c0 i x hx,hr.c1 i x hx,hr.c2 i x hx⟩
end
theorem agN {W w1:World} {B:Nat} (hb:Below B W w1):(∀b o,b<B->w1.cell? ⟨b,o,none⟩=W.cell? ⟨b,o,none⟩)/\(∀b o,b<B->w1.frozen? ⟨b,o,none⟩=W.frozen? ⟨b,o,none⟩):=
 ⟨fun b o h=>hb.cell (p:=⟨b,o,none⟩) h,fun b o h=>hb.frozen (p:=⟨b,o,none⟩) h⟩
theorem ah {w W w1:World} (h:Below w.heap.size w W) (k:Below W.heap.size W w1):Below w.heap.size w w1:=h.trans (k.mono h.size)
theorem ak {w W:World} (h:Below w.heap.size w W) (o:Obj):Below w.heap.size w (W.alloc o):=h.alloc h.size o
theorem kD {w W:World} (h:Below w.heap.size w W) {p:Addr} (hp:w.heap.size<=p.block) (u:Value):Below w.heap.size w (W.setCell p u):=h.setCell hp u
theorem dJ {w W:World} (h:Below w.heap.size w W) (n:Nat):Below w.heap.size w (W.drewN n):=⟨h.os,h.tape,h.output,h.size,h.block⟩
theorem below_drewN {B:Nat} {a w:World} (h:Below B a w) (n:Nat):Below B a (w.drewN n):=⟨h.os,h.tape,h.output,h.size,h.block⟩
theorem aN {a b:Bool} (h:a=b):Ending.returned (.bool a)= .returned (.bool b):=by rw [h]
theorem pQ {k:IntKind} {a b:Int} (h:a=b):Ending.returned (.int k a)= .returned (.int k b):=by rw [h]
def av (k:Int):Bool:=k==6||k==7
def bZ (k:Int):Bool:=k==8||k==9
def bX (k n:Int):Bool:=
 if k=0\/k=8\/k=9 then decide (0<=n) else
 if k=6 then decide (0<=n/\n<=50) else
 if k=7 then decide (0<n/\n<=50) else decide (0<k/\k<=5/\n=0)
def many (k n:Int):Int:=if k=5 then 2 else if av k=true then n else 0
def PI (k n:Int):Int:=if k=5 then 2 else if av k=true then max n 0 else 0
theorem Bo {k n:Int} (h:av k=true):bX k n=decide ((if k=7 then 0<n else 0<=n)/\n<=50):=by
 simp [av] at h;rcases h with rfl|rfl<;>simp [bX]
theorem NW {k n:Int} (h:bX k n=true):PI k n=many k n:=by
 unfold PI many;split
 ·rfl
 ·split
  ·rename_i h6
   rw [Bo h6] at h;simp at h;obtain ⟨h1,_⟩:=h;split at h1<;>omega
  ·rfl
theorem Vi (k n:Int) (s:ByteArray) (w:World):
  Calls Try.prog 126 #[.agg #[.int .i64 k,.string s,.int .i64 n]] w fun e w'=>e= .returned (.bool (av k))/\Below w.heap.size w w':=by
 go_enter Try.func126,Try.ntmps126;go_wp2
 all_goals go_ret
 all_goals exact ⟨aN (by simp_all [av]),(aT _ _).alloc (bN _) _⟩
theorem NY (k n:Int) (s:ByteArray) (w:World):
  Calls Try.prog 125 #[.agg #[.int .i64 k,.string s,.int .i64 n]] w fun e w'=>e= .returned (.int .i64 (PI k n))/\Below w.heap.size w w':=by
 by_cases h5:k=5
 ·subst h5
  go_enter Try.func125,Try.ntmps125;go_wp2_with fail;go_ret;exact ⟨pQ rfl,(aT _ _).alloc (bN _) _⟩
 ·have h5b:(k==5)=false:=by simpa using h5
  go_enter Try.func125,Try.ntmps125;go_wp2_with fail;refine (Vi _ _ _ _).mono ?_;rintro e w1 ⟨rfl,hb⟩;obtain ⟨hc,hf⟩:=agN hb;go_wp2_with fail
  all_goals go_ret
  all_goals refine ⟨pQ ?_,ah ((aT _ _).alloc (bN _) _) hb⟩
  all_goals (simp_all [PI];try omega)
theorem nW (k n:Int) (s:ByteArray) (w:World):
  Calls Try.prog 107 #[.agg #[.int .i64 k,.string s,.int .i64 n]] w fun e w'=>e= .returned (.int .i64 (many k n))/\Below w.heap.size w w':=by
 go_enter Try.func107,Try.ntmps107;go_wp2
 all_goals go_ret
 all_goals exact ⟨pQ (by simp_all [many,av]),(aT _ _).alloc (bN _) _⟩
theorem afF (k n:Int) (s:ByteArray) (w:World):
  Calls Try.prog 124 #[.agg #[.int .i64 k,.string s,.int .i64 n]] w fun e w'=>e= .returned (.bool (bX k n))/\Below w.heap.size w w':=by
 go_enter Try.func124,Try.ntmps124;go_wp2
 all_goals go_ret
 all_goals refine ⟨aN ?_,(aT _ _).alloc (bN _) _⟩
 all_goals go_tidy
 all_goals (unfold bX;simp_all)
 all_goals first|done|rfl|omega|(split<;>simp<;>omega)
theorem DZ (k n:Int) (s:ByteArray) (w:World):
  Calls Try.prog 61 #[.agg #[.int .i64 k,.string s,.int .i64 n]] w fun e w'=>e= .returned (.bool (bX k n))/\Below w.heap.size w w':=by
 go_enter Try.func61,Try.ntmps61;go_wp2
 all_goals go_ret
 all_goals refine ⟨aN ?_,(aT _ _).alloc (bN _) _⟩
 all_goals go_tidy
 all_goals (unfold bX;simp_all)
 all_goals first|done|rfl|omega|(split<;>simp<;>omega)
def zF (c:Int):Bool:=decide (97<=c/\c<=122)
def zG (c:Int):Bool:=decide (65<=c/\c<=90)
def yI (c:Int):Bool:=zF c||zG c||decide (48<=c/\c<=57)||c==95
def Ep (f:Int->Bool):List UInt8->Bool
 |[]=>false
 |c::cs=>f c.toNat&&cs.all fun d=>yI d.toNat
def wC (s:ByteArray):Bool:=Ep zF s.data.toList
def Bp (s:ByteArray):Bool:=Ep zG s.data.toList
theorem Bq (c a b:Int) (w:World):Calls Try.prog 141 #[.int .u8 c,.int .u8 a,.int .u8 b] w fun e w'=>e= .returned (.bool (decide (a<=c/\c<=b)))/\w=w':=by
 go_enter Try.func141,Try.ntmps141;go_wp2
 all_goals go_ret
 all_goals go_tidy
 all_goals exact ⟨aN (by simp_all<;>(intros;omega)),rfl⟩
theorem RF (r:Int) (w:World):Calls Try.prog 174 #[.int .u8 r] w fun e w'=>e= .returned (.bool (yI r))/\w=w':=by
 go_enter Try.func174,Try.ntmps174;go_wp2_with (go_at_call 141;refine (Bq _ _ _ _).mono ?_;rintro e w' ⟨rfl,rfl⟩)
 all_goals go_ret
 all_goals go_tidy
 all_goals exact ⟨aN (by simp_all [yI,zF,zG]<;>(intros;omega)),rfl⟩
def yu (s:ByteArray) (k:Nat):Bool:=(s.data.toList.drop k).all fun d=>yI d.toNat
theorem RG (s:ByteArray) {k:Nat} (hk:k<s.size):yu s k=(yI (s[k]'hk).toNat&&yu s (k+1)):=by
 have hl:k<s.data.toList.length:=hk;unfold yu;rw [f_ hl,List.all_cons];rfl
theorem Vj (s:ByteArray) {k:Nat} (hk:¬k<s.size):yu s k=true:=by
 have hl:s.data.toList.length=s.size:=rfl;unfold yu;rw [gZ (by omega)];rfl
theorem Ko (f:Int->Bool) (s:ByteArray) (hk:0<s.size):Ep f s.data.toList=(f (s[0]'hk).toNat&&yu s 1):=by
 have hl:0<s.data.toList.length:=hk
 have e:s.data.toList=(s[0]'hk)::s.data.toList.drop 1:=by
  have:=f_ hl;rw [List.drop_zero] at this;exact this
 unfold yu;rw [e];rfl
theorem RH (s:ByteArray) (w:World) (hs:s.size<=9223372036854775807):
  Calls Try.prog 142 #[.string s] w fun e w'=>e= .returned (.bool (yu s 1))/\w=w':=by
 go_enter Try.func142,Try.ntmps142;go_wp2_with fail;go_loop [3] (fun i=>∃k:Nat,1<=k/\i= .int .i64 k/\Hid (yu s k=yu s 1)) (fun i=>s.size-(intOf i).toNat)
 case atStart=>exact ⟨1,bN _,rfl,aC rfl⟩
 case round=>
  obtain ⟨k,hk,rfl,hgood⟩:=hrel;by_cases hp:k<s.size
  ·have hstep:=aC (RG s hp)
   cases hb:yI (s[k]'hp).toNat
   all_goals
    have Hb:=aC hb;go_wp2_with (go_at_call 174;refine (RF _ _).mono ?_;rintro e w' ⟨rfl,rfl⟩)
   ·go_ret
    exact ⟨aN (by rw [<-hgood.out,hstep.out,Hb.out];rfl),rfl⟩
   ·go_round
    case rel=>exact ⟨k+1,by omega,by go_num,aC (by rw [<-hgood.out,hstep.out,Hb.out];rfl)⟩
    case measure=>simp [intOf];omega
  ·have hend:=aC (Vj s hp)
   go_wp2_with fail;go_ret;exact ⟨aN (by rw [<-hgood.out,hend.out]),rfl⟩
theorem I4 (f:Int->Bool) (s:ByteArray) (hk:¬0<s.size):Ep f s.data.toList=false:=by
 have hl:s.data.toList.length=s.size:=rfl;rw [kZ (l:=s.data.toList) (by omega)];rfl
theorem rC (s:ByteArray) (w:World) (hs:s.size<=9223372036854775807):
  Calls Try.prog 108 #[.string s] w fun e w'=>e= .returned (.bool (wC s))/\w=w':=by
 by_cases h0:0<s.size
 ·have hfin:=aC (Ko zF s h0)
  go_enter Try.func108,Try.ntmps108
  go_wp2_with (first
   |(go_at_call 141;refine (Bq _ _ _ _).mono ?_;rintro e w' ⟨rfl,rfl⟩)
   |(go_at_call 142;refine (RH _ _ hs).mono ?_;rintro e w' ⟨rfl,rfl⟩))
  all_goals go_ret
  all_goals go_tidy
  all_goals exact ⟨aN (by unfold wC;rw [hfin.out];simp_all [zF]<;>(intros;omega)),rfl⟩
 ·have hfin:=aC (I4 zF s h0)
  have hz:¬(0:Int)<(s.size:Int):=by omega
  go_enter Try.func108,Try.ntmps108;go_wp2_with fail;go_ret;exact ⟨aN (by unfold wC;rw [hfin.out]),rfl⟩
theorem uI (s:ByteArray) (w:World) (hs:s.size<=9223372036854775807):
  Calls Try.prog 109 #[.string s] w fun e w'=>e= .returned (.bool (Bp s))/\w=w':=by
 by_cases h0:0<s.size
 ·have hfin:=aC (Ko zG s h0)
  go_enter Try.func109,Try.ntmps109
  go_wp2_with (first
   |(go_at_call 141;refine (Bq _ _ _ _).mono ?_;rintro e w' ⟨rfl,rfl⟩)
   |(go_at_call 142;refine (RH _ _ hs).mono ?_;rintro e w' ⟨rfl,rfl⟩))
  all_goals go_ret
  all_goals go_tidy
  all_goals exact ⟨aN (by unfold Bp;rw [hfin.out];simp_all [zG]<;>(intros;omega)),rfl⟩
 ·have hfin:=aC (I4 zG s h0)
  have hz:¬(0:Int)<(s.size:Int):=by omega
  go_enter Try.func109,Try.ntmps109;go_wp2_with fail;go_ret;exact ⟨aN (by unfold Bp;rw [hfin.out]),rfl⟩
def eZ (k:Int) (s:ByteArray):Bool:=if k=6 then wC s else if k=7 then Bp s else decide (s.size=0)
def bV (k:Int) (s:ByteArray):Bool:=if k=6 then wC s else if k=7 then Bp s else false
theorem fH (s:ByteArray):s.toList.isEmpty=decide (s.size=0):=by
 have hl:s.data.toList.length=s.size:=rfl;rw [yH,List.isEmpty_iff_length_eq_zero |> fun h=>(AQ.2 (by rw [h,hl,decide_eq_true_iff]):s.data.toList.isEmpty=decide (s.size=0))]
def Kq (x y:Nd):Bool:=x.k==y.k&&x.s.toList==y.s.toList&&x.n==y.n
theorem YO (x y:Nd):Kq x y=true↔x=y:=by
 obtain ⟨k,s,n⟩:=x;obtain ⟨k',s',n'⟩:=y;simp only [Kq,Bool.and_eq_true,beq_iff_eq,Nd.mk.injEq];rw [yH,yH];obtain ⟨⟨l⟩⟩:=s;obtain ⟨⟨l'⟩⟩:=s';simp [and_assoc]
theorem aek (d:Nat) (x y:Nd) (w:World):
  (Op.equalIn (d+2) 48 x.val y.val).run Try.prog w= .ok (Kq x y) w:=by
 have u3:=Try.underlying3;have u9:=Try.underlying9;have a3:=Try.isAgg3;have z3:=Try.sizeOf3;have a9:=Try.isAgg9;have z9:=Try.sizeOf9;have hS:Try.prog.underlying 48=some (.struct (Try.prog.fieldsOf 48)):=by kernel_rfl
 have hp:Try.prog.stoodInHeld 48=false:=by kernel_rfl
 unfold Nd.val;rw [run_equalIn_agg w (d+1) 48 _ _ hS hp];simp only [Program.fieldsOf,Try.underlying48];go_simp;by_cases h1:x.k=y.k<;>by_cases h2:x.s.toList=y.s.toList<;>by_cases h3:x.n=y.n<;>simp [Kq,h1,h2,h3]
theorem RJ (x y:Nd) (w:World):(binOp .neq 48 x.val y.val).run Try.prog w= .ok (.bool (!Kq x y)) w:=by
 unfold Nd.val;rw [run_neq_struct,show (10000:Nat)=9998+2 from rfl];have:=aek 9998 x y w;unfold Nd.val at this;rw [this];rfl
theorem Na {xs ys:List Nd} {k:Nat} {x y:Nd} (hx:xs[k]?=some x) (hy:ys[k]?=some y):
  decide (xs.drop k=ys.drop k)=(Kq x y&&decide (xs.drop (k+1)=ys.drop (k+1))):=by
 have h1:xs.drop k=x::xs.drop (k+1):=by
  have hl:=bf hx;rw [f_ hl];rw [jr hl] at hx;injection hx with hx
  rw [hx]
 have h2:ys.drop k=y::ys.drop (k+1):=by
  have hl:=bf hy;rw [f_ hl];rw [jr hl] at hy;injection hy with hy
  rw [hy]
 rw [h1,h2,AQ];simp [YO]
theorem aa9 (A B:Option Addr) (c d Ba Bb:Nat) (xs ys:List Nd) (w:World) (ha:aM w Ba A xs) (hb:aM w Bb B ys)
  (hl:xs.length<=9223372036854775807):
  Calls Try.prog 30 #[.slice A xs.length c,.slice B ys.length d] w fun e w'=>e= .returned (.bool (decide (xs=ys)))/\∃n,w'=w.drewN n:=by
 by_cases hlen:xs.length=ys.length
 ·rw [<-hlen]
  have Hlen:=aC hlen;clear hlen;go_enter Try.func30,Try.ntmps30;go_wp2_with fail;go_loopw [5] (fun i w'=>∃k n:Nat,k<=xs.length/\i= .int .i64 k/\w'=w.drewN n/\Hid (decide (xs.drop k=ys.drop k)=decide (xs=ys))) (fun i _=>xs.length-(intOf i).toNat)
  case atStart=>exact ⟨0,0,h_ _,rfl,rfl,aC rfl⟩
  case round=>
   obtain ⟨k,n,hk,rfl,rfl,hgood⟩:=hrel;by_cases hp:k<xs.length
   ·obtain ⟨x,hx⟩:=aD hp
    obtain ⟨y,hy⟩:=aD (show k<ys.length by rw [<-Hlen.out];exact hp);have hstep:=aC (Na hx hy);obtain ⟨b1,o1,rfl,hb1,c10,c11,c12⟩:=ha.at_ hx;obtain ⟨b2,o2,rfl,hb2,c20,c21,c22⟩:=hb.at_ hy;have hne:=RJ x y;unfold Nd.val at hne;have Hx:=aC hx;have Hy:=aC hy;clear hx hy
    cases he:Kq x y
    all_goals
     have He:=aC he;rw [he] at hne;clear he;go_wp2_with fail;go_quiet (fail);go_wp2_with fail
    ·go_ret
     exact ⟨aN (by rw [<-hgood.out,hstep.out,He.out];rfl),_,World.drewN_drewN ..⟩
    ·go_roundw
     case rel=>exact ⟨k+1,_,hp,by go_num,rfl,aC (by rw [<-hgood.out,hstep.out,He.out,bW])⟩
     case measure=>simp [intOf];omega
   ·have hfin:=aC (show decide (xs.drop k=ys.drop k)=true by
     have:=Hlen.out;rw [gZ (by omega),gZ (by omega)];simp)
    go_wp2_with fail;go_ret;exact ⟨aN (by rw [<-hgood.out,hfin.out]),_,rfl⟩
 ·have hle:((xs.length:Int) !=(ys.length:Int))=true:=by simp;omega
  have hfin:=aC (show decide (xs=ys)=false by simp;rintro rfl;exact hlen rfl);clear hlen;go_enter Try.func30,Try.ntmps30;go_wp2_with fail;go_ret;exact ⟨aN (by rw [hfin.out]),0,rfl⟩
def wD (p:Nd->Bool) (xs:List Nd) (k:Nat):Bool:=(xs.drop k).all p
theorem D5 {p:Nd->Bool} {xs:List Nd} {k:Nat} {x:Nd} (hx:xs[k]?=some x):wD p xs k=(p x&&wD p xs (k+1)):=by
 have hl:=bf hx;unfold wD;rw [f_ hl,List.all_cons];rw [jr hl] at hx;injection hx with hx
 rw [hx]
theorem EZ {p:Nd->Bool} {xs:List Nd} {k:Nat} (h:¬k<xs.length):wD p xs k=true:=by
 unfold wD;rw [gZ (by omega)];rfl
theorem drop_cons {α:Type} {xs:List α} {k:Nat} {x:α} (hx:xs[k]?=some x):xs.drop k=x::xs.drop (k+1):=by
 have hl:=bf hx;rw [f_ hl];rw [jr hl] at hx;injection hx with hx
 rw [hx]
theorem fD {a b c:World} {row:Option Nat} (h:a.grownBy b row) (k:b.grownBy c row):a.grownBy c row:=
 ⟨k.os.trans h.os,k.tape.trans h.tape,k.output.trans h.output,zk h.size k.size,fun i hi hne=>(k.block i (vv hi h.size) hne).trans (h.block i hi hne)⟩
theorem I5 {a w:World} {row:Option Nat} (h:a.grownBy w row) (n:Nat):a.grownBy (w.drewN n) row:=⟨h.os,h.tape,h.output,h.size,h.block⟩
theorem RL {a w:World} {row:Option Nat} (h:a.grownBy w row) (o:Obj):a.grownBy (w.alloc o) row:=
 ⟨h.os,h.tape,h.output,zk h.size (by simp),fun i hi hne=>(Below.heap_alloc w o i (vv hi h.size)).trans (h.block i hi hne)⟩
def YP (a b:ByteArray):Bool:=Op.bytesLess a.toList b.toList||a.toList==b.toList
def uJ (x:Nd) (k:Int) (last:ByteArray) (y:Nd):Bool:=
 if y.k=9 then av x.k&& !decide (k<x.n-1)&&decide (y.s.size=0)
 else eZ x.k y.s&& !(av x.k&&YP y.s last)
def ql (tr:Nat->Option Nat) (xs:List Nd) (x:Nd):Nat->Int->ByteArray->Nat->Option Nat
 |0,_,_,at_=>some at_
 |todo+1,k,last,at_=>
  match xs[at_]? with
  |none=>none
  |some y=>if uJ x k last y=true then (match tr at_ with
   |none=>none
   |some at'=>ql tr xs x todo (k+1) y.s at') else none
def lW (xs:List Nd):Nat->Nat->Option Nat
 |0,_=>none
 |f+1,i=>
  match xs[i]? with
  |none=>none
  |some x=>if bX x.k x.n=true then ql (lW xs f) xs x (many x.k x.n).toNat 0 pR (i+1) else none
theorem vU {x:Nd} (h:bX x.k x.n=true):∃M:Nat,many x.k x.n=(M:Int)/\M<=50/\(av x.k=true->x.n=(M:Int)):=by
 unfold many;by_cases h5:x.k=5
 ·exact ⟨2,by simp [h5],by omega,by simp [h5,av]⟩
 ·by_cases h6:av x.k=true
  ·have h1:=Bo (n:=x.n) h6
   rw [h] at h1;have h2:=of_decide_eq_true h1.symm;obtain ⟨h3,h4⟩:=h2;have h0:0<=x.n:=by split at h3<;>omega
   exact ⟨x.n.toNat,by simp [h5,h6];omega,by omega,fun _=>by omega⟩
  ·exact ⟨0,by simp [h5,h6],by omega,fun h=>absurd h h6⟩
def rD:List Nd->Bool
 |[]=>false
 |x::_=>decide (x.s.size=0)&& !(x.k==9)
def kY (xs:List Nd):Bool:=decide (xs.length<=10000)&&rD xs&&decide (lW xs 100 0=some xs.length)
section
variable {α:Type} {enc:α->List Value} {size e base:Nat} {w w':World} {A:Option Addr} {cap B:Nat} {l:List α}
def aA (e size:Nat) (enc:α->List Value) (w:World) (base:Nat) (A:Option Addr) (cap:Nat) (l:List α):Prop:=
 w.ownsRow base e size (.slice A l.length cap) l.length (l.flatMap enc)
def aX (size:Nat) (enc:α->List Value) (w:World) (B:Nat) (A:Option Addr) (l:List α):Prop:=
 l≠[]->∃b o,A=some ⟨b,o,none⟩/\b<B/\∀(i:Nat) (x:α),l[i]?=some x->∀(j:Nat) (u:Value),(enc x)[j]?=some u->w.cell? ⟨b,o+i*size+j,none⟩=some u
theorem Br {size:Nat} {enc:α->List Value} (hk:∀x,(enc x).length=size):∀{l:List α} {i:Nat} {x:α} {j:Nat} {u:Value},l[i]?=some x->(enc x)[j]?=some u->(l.flatMap enc)[i*size+j]?=some u:=by
 intro l
 induction l with
 |nil=>intro i x j u h;simp at h
 |cons y l ih=>
  intro i x j u h hu;rw [jy]
  cases i with
  |zero=>
   simp only [List.getElem?_cons_zero,Option.some.injEq] at h;subst h;rw [Nat.zero_mul,iE,List.getElem?_append_left (bf hu)]
   exact hu
  |succ i=>
   rw [List.getElem?_cons_succ] at h;rw [zA (by rw [hk];rw [jZ];omega),hk,show (i+1)*size+j-size=i*size+j by rw [jZ];omega];exact ih h hu
theorem vI {size:Nat} {enc:α->List Value} (hk:∀x,(enc x).length=size):∀(l:List α),(l.flatMap enc).length=l.length*size:=by
 intro l
 induction l with
 |nil=>simp
 |cons y l ih=>rw [jy,A_,ih,hk,Bl,jZ];omega
theorem aA.nil:aA (α:=α) e size enc w base none 0 []:=World.ownsRow_nil _ _ _ _
theorem aA.read (hk:∀x,(enc x).length=size) (h:aA e size enc w base A cap l):aX size enc w w.heap.size A l:=by
 intro hne;rcases h.2 with ⟨hv,hn⟩|⟨g,cap',cur,hv,hbg,hg,hnc,hcm,hcs,htake⟩
 ·exact absurd (kZ hn) hne
 ·injection hv with hA _ _
  subst hA;refine ⟨g,0,rfl,lt_of_block hg,fun i x hx j u hu=>?_⟩;have h1:=Br hk hx hu;rw [<-htake] at h1;have h2:=bf h1;rw [zH] at h2;rw [List.getElem?_take_of_lt (by omega)] at h1;simp only [World.cell?,hg,iE];simpa using h1
theorem aA.block (h:aA e size enc w base A cap l):∀k,(aO A l.length cap).ownBlock=some k->base<=k/\k<w.heap.size:=lM.lt h
theorem aA.kept {row:Option Nat} (h:aA e size enc w base A cap l) (hg:w.grownBy w' row) (hne:∀k,row=some k->∀a,A=some a->a.block≠k):aA e size enc w' base A cap l:=
 lM.kept h hg (by
  cases A with
  |none=>exact .inl rfl
  |some a=>
   refine .inr ?_;intro heq
   cases row with
   |none=>simp [nU] at heq
   |some k=>simp only [nU,Option.some.injEq] at heq;exact hne k rfl a rfl heq)
theorem aA.below {B:Nat} (h:aA e size enc w base A cap l) (hb:Below B w w') (hB:w.heap.size<=B):aA e size enc w' base A cap l:=
 aA.kept (row:=none) h ⟨hb.os,hb.tape,hb.output,hb.size,fun k hk _=>hb.block k (by omega)⟩ (by simp)
theorem aA.alloc (h:aA e size enc w base A cap l) (o:Obj):aA e size enc (w.alloc o) base A cap l:=
 h.below (ak (aT _ _) o) (bN _)
theorem aA.drewN (h:aA e size enc w base A cap l) (n:Nat):aA e size enc (w.drewN n) base A cap l:=
 h.below (dJ (aT _ _) n) (bN _)
theorem aX.nil:aX (α:=α) size enc w B A []:=fun h=>absurd rfl h
theorem aX.keep (h:aX size enc w B A l) (hk:∀b off,b<B->w'.cell? ⟨b,off,none⟩=w.cell? ⟨b,off,none⟩):aX size enc w' B A l:=fun hne=>by
 obtain ⟨b,o,rfl,hb,hc⟩:=h hne;exact ⟨b,o,rfl,hb,fun i x hx j u hu=>(hk _ _ hb).trans (hc i x hx j u hu)⟩
theorem aX.below (h:aX size enc w B A l) (hb:Below B w w'):aX size enc w' B A l:=h.keep fun b off hlt=>hb.cell (p:=⟨b,off,none⟩) hlt
theorem aX.more {B':Nat} (h:aX size enc w B A l) (hB:B<=B'):aX size enc w B' A l:=fun hne=>by
 obtain ⟨b,o,rfl,hb,hc⟩:=h hne;exact ⟨b,o,rfl,by omega,hc⟩
end
theorem YQ (b o j:Nat):(Addr.mk b o none).add j=⟨b,o+j,none⟩:=by
 unfold Addr.add;split
 ·next h=>subst h;rfl
 ·rfl
section
variable {α:Type} {P:Program} (w:World)
theorem aa_ {size:Nat} {enc:α->List Value} (hk:∀x,(enc x).length=size) (h1:∀x,∀u∈enc x,u.oneCell'=true)
  (base t ty e:Nat) (i:TypeInfo) (z:Value) (bytes:Nat) (ht:P.underlying t=some (.slice e)) (hi:P.info? e=some i) (hz:i.zero=some z)
  (hsize:i.size=size) (hby:i.bytes=bytes) (hzs:z.cells.size=size) (hsz:0<size)
  {A:Option Addr} {cap:Nat} {l:List α} (hown:aA e size enc w base A cap l) {B:Nat} {A2:Option Addr} {c:Nat} {l2:List α} (hr:aX size enc w B A2 l2)
  (h63:l.length+l2.length<=maxLen) (hbytes:(l.length+l2.length)*bytes<=140737488355328) (hbase:base<=w.heap.size):
  ∃A' cap' w',(Builtin.append_ #[t,t] ty #[.slice A l.length cap,.slice A2 l2.length c]).run P w= .ok (.slice A' (l.length+l2.length) cap') w'/\aA e size enc w' base A' cap' (l++l2)/\
   w.grownBy w' ((aO A l.length cap).ownBlock)/\((aO A' (l.length+l2.length) cap').ownBlock=(aO A l.length cap).ownBlock\/(aO A' (l.length+l2.length) cap').ownBlock=some w.heap.size):=by
 have hfl:(l++l2).flatMap enc=l.flatMap enc++l2.flatMap enc:=by simp [List.flatMap_append]
 by_cases hne:l2=[]
 ·subst hne
  refine ⟨A,cap,w,?_,by unfold aA at hown ⊢;simpa using hown,World.grownBy.refl w _,.inl (by simp)⟩;have hl0:(([]:List α).length)=0:=rfl;simp only [List.length_nil,pO];rcases hown.2 with ⟨hv,hn⟩|⟨g,cap',cur,hv,hbg,hg,hnc,hcm,hcs,htake⟩
  ·injection hv with hA hl hc
   subst hA hc;rw [hn]
   cases A2<;>simp [Builtin.append_,run_underlying ht,sizeOf,typeInfo,hi,Builtin.lenOf,Builtin.firstCells,loadCells,loadCellsFrom]
  ·injection hv with hA hl hc
   subst hA hc
   cases A2<;>simp [Builtin.append_,run_underlying ht,sizeOf,typeInfo,hi,Builtin.lenOf,Builtin.firstCells,hnc,storeCells,loadCells,loadCellsFrom]
 ·obtain ⟨b,o,rfl,hb,hc⟩:=hr hne
  have hnews:∀(j:Nat) (u:Value),(l2.flatMap enc)[j]?=some u->w.cell? ((Addr.mk b o none).add j)=some u:=by
   intro j u hu;have hj:=bf hu;rw [vI hk] at hj;have hq:j / size<l2.length:=Nat.div_lt_of_lt_mul (by rw [Nat.mul_comm];exact hj);obtain ⟨x,hx⟩:=aD hq;have hm:j % size<(enc x).length:=by rw [hk];exact Nat.mod_lt _ hsz
   obtain ⟨u',hu'⟩:=aD hm;have e1:=Br hk hx hu';have e2:j / size*size+j % size=j:=by rw [Nat.mul_comm];exact Nat.div_add_mod j size
   rw [e2,hu] at e1;injection e1 with e1
   subst e1;have:=hc _ _ hx _ _ hu';rw [YQ]
   rwa [show o+j / size*size+j % size=o+j by omega] at this
  have hall:∀u∈l2.flatMap enc,u.oneCell'=true:=by
   intro u hu;rw [List.mem_flatMap] at hu;obtain ⟨x,_,hx⟩:=hu;exact h1 x u hx
  obtain ⟨v',w',hrun,h2,h3,_,h5⟩:=run_append_own_at (P:=P) w base t ty e i z size bytes ht hi hz hsize hby hzs hsz _ _ _ hown ⟨b,o,none⟩ l2.length c (l2.flatMap enc) (vI hk _) hnews hall h63 hbytes hbase
  have hform:∃A' cap',v'= .slice A' (l.length+l2.length) cap':=by
   rcases h2.2 with ⟨hv,hn⟩|⟨g,cap',cur,hv,_⟩
   ·exact ⟨none,0,by rw [hv,hn]⟩
   ·exact ⟨_,_,hv⟩
  obtain ⟨A',cap',rfl⟩:=hform;refine ⟨A',cap',w',hrun,?_,h3,h5⟩;unfold aA;rw [hfl,A_];exact h2
theorem E5 {size:Nat} {enc:α->List Value} (hk:∀x,(enc x).length=size) (h1:∀x,∀u∈enc x,u.oneCell'=true)
  {o:Oper} {a:Act} {K:Act->World->Prop} {Q:Exit->Act->World->Prop} (s x:Operand) (t:TypeId)
  (ho:o.op= .call {callee:=.builtin .append,args:=#[s,x],argTypes:=#[t,t]})
  (base e:Nat) (i:TypeInfo) (z:Value) (bytes:Nat) (ht:P.underlying t=some (.slice e)) (hi:P.info? e=some i) (hz:i.zero=some z)
  (hsize:i.size=size) (hby:i.bytes=bytes) (hzs:z.cells.size=size) (hsz:0<size)
  {A:Option Addr} {cap:Nat} {l:List α} (hs:a.eval s= .slice A l.length cap) (hown:aA e size enc w base A cap l) {B:Nat} {A2:Option Addr} {c:Nat} {l2:List α} (hx:a.eval x= .slice A2 l2.length c) (hr:aX size enc w B A2 l2)
  (h63:l.length+l2.length<=maxLen) (hbytes:(l.length+l2.length)*bytes<=140737488355328) (hbase:base<=w.heap.size)
  (h:∀A' cap' w',aA e size enc w' base A' cap' (l++l2)->w.grownBy w' ((aO A l.length cap).ownBlock)->
   ((aO A' (l.length+l2.length) cap').ownBlock=(aO A l.length cap).ownBlock\/(aO A' (l.length+l2.length) cap').ownBlock=some w.heap.size)->K (a.put o.dst (.slice A' (l.length+l2.length) cap')) w'):o.wp P a w K Q:=by
 obtain ⟨A',cap',w',hrun,h2,h3,h4⟩:=aa_ (P:=P) w hk h1 base t o.type e i z bytes ht hi hz hsize hby hzs hsz hown (c:=c) hr h63 hbytes hbase;unfold Oper.wp execOp;simp only [ho,resolve,invoke,builtin,Sem.run_bind,Sem.run_pure,Result.andThen_ok,List.map_toArray,Bn,List.map_nil,hs,hx,hrun];exact h A' cap' w' h2 h3 h4
theorem nX {size:Nat} {enc:α->List Value} (hk:∀x,(enc x).length=size) (h1:∀x,∀u∈enc x,u.oneCell'=true)
  {ops:Array Oper} {rest:List Oper} {o:Oper} {a:Act} {Q:Exit->Act->World->Prop} (hgd:o.guard=none) (s x:Operand) (t:TypeId)
  (ho:o.op= .call {callee:=.builtin .append,args:=#[s,x],argTypes:=#[t,t]})
  (base e:Nat) (i:TypeInfo) (z:Value) (bytes:Nat) (ht:P.underlying t=some (.slice e)) (hi:P.info? e=some i) (hz:i.zero=some z)
  (hsize:i.size=size) (hby:i.bytes=bytes) (hzs:z.cells.size=size) (hsz:0<size)
  {A:Option Addr} {cap:Nat} {l:List α} (hs:a.eval s= .slice A l.length cap) (hown:aA e size enc w base A cap l) {B:Nat} {A2:Option Addr} {c:Nat} {l2:List α} (hx:a.eval x= .slice A2 l2.length c) (hr:aX size enc w B A2 l2)
  (h63:l.length+l2.length<=maxLen) (hbytes:(l.length+l2.length)*bytes<=140737488355328) (hbase:base<=w.heap.size)
  (h:∀A' cap' w',aA e size enc w' base A' cap' (l++l2)->w.grownBy w' ((aO A l.length cap).ownBlock)->
   ((aO A' (l.length+l2.length) cap').ownBlock=(aO A l.length cap).ownBlock\/(aO A' (l.length+l2.length) cap').ownBlock=some w.heap.size)->wpList P ops Q rest (a.put o.dst (.slice A' (l.length+l2.length) cap')) w'):wpList P ops Q (o::rest) a w:=
 wpList_plain hgd fun _ hK=>E5 w hk h1 s x t ho base e i z bytes ht hi hz hsize hby hzs hsz hs hown hx hr h63 hbytes hbase fun A' cap' w' h2 h3 h4=>hK _ _ (h A' cap' w' h2 h3 h4)
end
def encI (n:Int):List Value:=[.int .i64 n]
def iQ (x:Nd):List Value:=[.int .i64 x.k,.string x.s,.int .i64 x.n]
def encS (v:Option Addr×Nat×Nat):List Value:=[.slice v.1 v.2.1 v.2.2]
theorem mH (n:Int):(encI n).length=1:=rfl
theorem lJ (x:Nd):(iQ x).length=3:=rfl
theorem jq (v:Option Addr×Nat×Nat):(encS v).length=1:=rfl
theorem YR (n:Int):∀u∈encI n,u.oneCell'=true:=by simp [encI,zK]
theorem NZ (x:Nd):∀u∈iQ x,u.oneCell'=true:=by simp [iQ,zK]
theorem YS (v:Option Addr×Nat×Nat):∀u∈encS v,u.oneCell'=true:=by simp [encS,zK]
theorem abb:(Try.prog.info? 3).map (fun i=>(i.zero,i.size,i.bytes))=some (some (.int .i64 0),1,8):=by kernel_rfl
theorem Vk:(Try.prog.info? 48).map (fun i=>(i.zero,i.size,i.bytes))=some (some (.agg #[.int .i64 0,.string pR,.int .i64 0]),3,32):=by kernel_rfl
theorem agO:(Try.prog.info? 34).map (fun i=>(i.zero,i.size,i.bytes))=some (some (.slice none 0 0),1,24):=by kernel_rfl
abbrev sU (w:World) (base:Nat) (A:Option Addr) (cap:Nat) (l:List Int):Prop:=aA 3 1 encI w base A cap l
abbrev Kr (w:World) (B:Nat) (A:Option Addr) (l:List Int):Prop:=aX 1 encI w B A l
abbrev fA (w:World) (base:Nat) (A:Option Addr) (cap:Nat) (l:List Nd):Prop:=aA 48 3 iQ w base A cap l
abbrev vE (w:World) (base:Nat) (A:Option Addr) (cap:Nat) (l:List (Option Addr×Nat×Nat)):Prop:=aA 34 1 encS w base A cap l
abbrev sZ (w:World) (B:Nat) (A:Option Addr) (l:List (Option Addr×Nat×Nat)):Prop:=aX 1 encS w B A l
theorem aM.PK {w:World} {B:Nat} {A:Option Addr} {xs:List Nd} (h:aM w B A xs):aX 3 iQ w B A xs:=fun hne=>by
 obtain ⟨b,o,rfl,hb,hr⟩:=h hne;refine ⟨b,o,rfl,hb,fun i x hx j u hu=>?_⟩
 match j,hu with
 |0,hu=>simp [iQ] at hu;subst hu;exact hr.c0 i x hx
 |1,hu=>simp [iQ] at hu;subst hu;exact hr.c1 i x hx
 |2,hu=>simp [iQ] at hu;subst hu;exact hr.c2 i x hx
 |j+3,hu=>simp [iQ] at hu
theorem aX.g_ {w:World} {B:Nat} {A:Option Addr} {xs:List Nd} (h:aX 3 iQ w B A xs):aM w B A xs:=fun hne=>by
 obtain ⟨b,o,rfl,hb,hc⟩:=h hne;exact ⟨b,o,rfl,hb,⟨fun i x hx=>hc i x hx 0 _ rfl,fun i x hx=>hc i x hx 1 _ rfl,fun i x hx=>hc i x hx 2 _ rfl⟩⟩
theorem aA.g_ {w:World} {base:Nat} {A:Option Addr} {cap:Nat} {xs:List Nd} (h:fA w base A cap xs):aM w w.heap.size A xs:=aX.g_ (aA.read lJ h)
theorem aX.int {w:World} {B:Nat} {A:Option Addr} {l:List Int} (h:Kr w B A l) {i:Nat} {n:Int} (hn:l[i]?=some n):
  ∃b o,A=some ⟨b,o,none⟩/\b<B/\w.cell? ⟨b,o+i,none⟩=some (.int .i64 n):=by
 obtain ⟨b,o,rfl,hb,hc⟩:=h (by rintro rfl;simp at hn);have:=hc i n hn 0 _ rfl;rw [Nat.mul_one,pO] at this;exact ⟨b,o,rfl,hb,this⟩
theorem aX.slice {w:World} {B:Nat} {A:Option Addr} {l:List (Option Addr×Nat×Nat)} (h:sZ w B A l) {i:Nat} {v:Option Addr×Nat×Nat} (hn:l[i]?=some v):
  ∃b o,A=some ⟨b,o,none⟩/\b<B/\w.cell? ⟨b,o+i,none⟩=some (.slice v.1 v.2.1 v.2.2):=by
 obtain ⟨b,o,rfl,hb,hc⟩:=h (by rintro rfl;simp at hn);have:=hc i v hn 0 _ rfl;rw [Nat.mul_one,pO] at this;exact ⟨b,o,rfl,hb,this⟩
theorem zI (w:World) (n:Int):Kr (w.alloc (.cells #[.int .i64 n] 3)) (w.heap.size+1) (some ⟨w.heap.size,0,none⟩) [n]:=fun _=>by
 refine ⟨w.heap.size,0,rfl,by omega,fun i x hx j u hu=>?_⟩
 match i,hx with
 |0,hx=>
  simp at hx;subst hx
  match j,hu with
  |0,hu=>simp [encI] at hu;subst hu;simp
  |j+1,hu=>simp [encI] at hu
 |i+1,hx=>simp at hx
theorem tu (w:World) (v:Option Addr×Nat×Nat):sZ (w.alloc (.cells #[.slice v.1 v.2.1 v.2.2] 34)) (w.heap.size+1) (some ⟨w.heap.size,0,none⟩) [v]:=fun _=>by
 refine ⟨w.heap.size,0,rfl,by omega,fun i x hx j u hu=>?_⟩
 match i,hx with
 |0,hx=>
  simp at hx;subst hx
  match j,hu with
  |0,hu=>simp [encS] at hu;subst hu;simp
  |j+1,hu=>simp [encS] at hu
 |i+1,hx=>simp at hx
theorem dV {α:Type} (e size:Nat) (enc:α->List Value) (w:World):aA e size enc (w.alloc (.cells #[] e)) w.heap.size (some ⟨w.heap.size,0,none⟩) 0 ([]:List α):=
 World.ownsRow_made w #[] 0 (bN _) (by simp [maxLen]) (by simp)
theorem bA {A:Option Addr} {n c:Nat} {k:Nat} (h:(aO A n c).ownBlock=some k):∃a,A=some a/\a.block=k:=by
 cases A with
 |none=>simp [nU] at h
 |some a=>exact ⟨a,rfl,by simpa [nU] using h⟩
theorem eG {w W w1:World} {A:Option Addr} {n c:Nat} (h:Below w.heap.size w W) (hg:W.grownBy w1 ((aO A n c).ownBlock)) (hA:∀k,(aO A n c).ownBlock=some k->w.heap.size<=k):Below w.heap.size w w1:=
 h.grown hg h.size fun k hk=>hA k hk
section
variable {w:World} {ops:Array Oper} {rest:List Oper} {o:Oper} {a:Act} {Q:Exit->Act->World->Prop}
theorem vJ (hgd:o.guard=none) (s x:Operand)
  (ho:o.op= .call {callee:=.builtin .append,args:=#[s,x],argTypes:=#[76,76]})
  (base:Nat) {A:Option Addr} {cap:Nat} {l:List Int} (hs:a.eval s= .slice A l.length cap) (hown:sU w base A cap l) {B:Nat} {A2:Option Addr} {c:Nat} {l2:List Int} (hx:a.eval x= .slice A2 l2.length c) (hr:Kr w B A2 l2)
  (hlen:l.length+l2.length<=10000000) (hbase:base<=w.heap.size)
  (h:∀A' cap' w',sU w' base A' cap' (l++l2)->w.grownBy w' ((aO A l.length cap).ownBlock)->
   ((aO A' (l.length+l2.length) cap').ownBlock=(aO A l.length cap).ownBlock\/(aO A' (l.length+l2.length) cap').ownBlock=some w.heap.size)->wpList Try.prog ops Q rest (a.put o.dst (.slice A' (l.length+l2.length) cap')) w'):wpList Try.prog ops Q (o::rest) a w:=by
 obtain ⟨i0,hi,hz0,hz1,hz2⟩:=info_parts abb;exact nX w mH YR hgd s x 76 ho base 3 i0 _ 8 Try.underlying76 hi hz0 hz1 hz2 rfl (by decide) hs hown hx hr (by unfold maxLen;omega) (by omega) hbase h
theorem eH (hgd:o.guard=none) (s x:Operand)
  (ho:o.op= .call {callee:=.builtin .append,args:=#[s,x],argTypes:=#[34,34]})
  (base:Nat) {A:Option Addr} {cap:Nat} {l:List Nd} (hs:a.eval s= .slice A l.length cap) (hown:fA w base A cap l) {B:Nat} {A2:Option Addr} {c:Nat} {l2:List Nd} (hx:a.eval x= .slice A2 l2.length c) (hr:aM w B A2 l2)
  (hlen:l.length+l2.length<=1000000000000) (hbase:base<=w.heap.size)
  (h:∀A' cap' w',fA w' base A' cap' (l++l2)->w.grownBy w' ((aO A l.length cap).ownBlock)->
   ((aO A' (l.length+l2.length) cap').ownBlock=(aO A l.length cap).ownBlock\/(aO A' (l.length+l2.length) cap').ownBlock=some w.heap.size)->wpList Try.prog ops Q rest (a.put o.dst (.slice A' (l.length+l2.length) cap')) w'):wpList Try.prog ops Q (o::rest) a w:=by
 obtain ⟨i0,hi,hz0,hz1,hz2⟩:=info_parts Vk;exact nX w lJ NZ hgd s x 34 ho base 48 i0 _ 32 Try.underlying34 hi hz0 hz1 hz2 rfl (by decide) hs hown hx hr.PK (by unfold maxLen;omega) (by omega) hbase h
theorem mV (hgd:o.guard=none) (s x:Operand)
  (ho:o.op= .call {callee:=.builtin .append,args:=#[s,x],argTypes:=#[40,40]})
  (base:Nat) {A:Option Addr} {cap:Nat} {l:List (Option Addr×Nat×Nat)} (hs:a.eval s= .slice A l.length cap) (hown:vE w base A cap l) {B:Nat} {A2:Option Addr} {c:Nat} {l2:List (Option Addr×Nat×Nat)} (hx:a.eval x= .slice A2 l2.length c) (hr:sZ w B A2 l2)
  (hlen:l.length+l2.length<=10000000) (hbase:base<=w.heap.size)
  (h:∀A' cap' w',vE w' base A' cap' (l++l2)->w.grownBy w' ((aO A l.length cap).ownBlock)->
   ((aO A' (l.length+l2.length) cap').ownBlock=(aO A l.length cap).ownBlock\/(aO A' (l.length+l2.length) cap').ownBlock=some w.heap.size)->wpList Try.prog ops Q rest (a.put o.dst (.slice A' (l.length+l2.length) cap')) w'):wpList Try.prog ops Q (o::rest) a w:=by
 obtain ⟨i0,hi,hz0,hz1,hz2⟩:=info_parts agO;exact nX w jq YS hgd s x 40 ho base 34 i0 _ 24 Try.underlying40 hi hz0 hz1 hz2 rfl (by decide) hs hown hx hr (by unfold maxLen;omega) (by omega) hbase h
end
def endGo:List Nd->Int->Nat->Nat
 |[],_,p=>p
 |x::xs,op,p=>if op-1+many x.k x.n=0 then p+1 else endGo xs (op-1+many x.k x.n) (p+1)
def wE (xs:List Nd) (i:Int):Int:=if i<0\/(xs.length:Int)<=i then-1 else (endGo (xs.drop i.toNat) 1 i.toNat:Nat)
def dF (xs:List Nd):Prop:=∀x∈xs,bX x.k x.n=true
theorem jQ {α:Type} {l:List α} {i:Nat} {x:α} (h:l[i]?=some x):x∈l:=List.mem_of_getElem? h
theorem Bt {k n:Int} (h:bX k n=true):0<=many k n/\many k n<=50:=by
 unfold many;split
 ·omega
 ·split
  ·rename_i h6
   rw [Bo h6] at h;obtain ⟨h1,h2⟩:=of_decide_eq_true h;split at h1<;>omega
  ·omega
theorem RN {xs:List Nd} {k:Nat} {x:Nd} (hx:xs[k]?=some x) (op:Int) (p:Nat):
  endGo (xs.drop k) op p=if op-1+many x.k x.n=0 then p+1 else endGo (xs.drop (k+1)) (op-1+many x.k x.n) (p+1):=by
 rw [drop_cons hx];rfl
theorem YT:∀(xs:List Nd) (op:Int) (p:Nat),endGo xs op p<=p+xs.length:=by
 intro xs
 induction xs with
 |nil=>intro op p;simp [endGo]
 |cons x xs ih=>
  intro op p;simp only [endGo,Bl];split
  ·omega
  ·have:=ih (op-1+many x.k x.n) (p+1)
   omega
theorem zJ (A:Option Addr) (c:Nat) (xs:List Nd) (i:Int) (w:World) (ha:aM w w.heap.size A xs) (hl:xs.length<=100000000000) (hok:dF xs):
  Calls Try.prog 62 #[.slice A xs.length c,.int .i64 i] w fun e w'=>e= .returned (.int .i64 (wE xs i))/\Below w.heap.size w w':=by
 have yw:=aC hok;clear hok;by_cases h0:i<0
 ·have hfin:=aC (show wE xs i= -1 by unfold wE;rw [if_pos (.inl h0)])
  go_enter Try.func62,Try.ntmps62;go_wp2_with fail;go_ret;exact ⟨pQ (by rw [hfin.out]),aT _ _⟩
 by_cases h1:(xs.length:Int)<=i
 ·have hfin:=aC (show wE xs i= -1 by unfold wE;rw [if_pos (.inr h1)])
  go_enter Try.func62,Try.ntmps62;go_wp2_with fail;go_ret;exact ⟨pQ (by rw [hfin.out]),aT _ _⟩
 obtain ⟨n,rfl⟩:=BJ (Int.not_lt.1 h0);have hn:n<xs.length:=by omega
 have hfin:=aC (show wE xs (n:Int)=((endGo (xs.drop n) 1 n:Nat):Int) by unfold wE;rw [if_neg (by omega)];simp);have h0':(0:Int)<=(n:Int):=by omega
 have h1':(n:Int)<(xs.length:Int):=by omega
 have hd0:decide ((n:Int)<0)=false:=by simp
 have hd1:decide (xs.length<=n)=false:=by simp;omega
 clear h0 h1;go_enter Try.func62,Try.ntmps62;go_wp2_with fail
 go_loopw [5,6] (fun o5 i6 w'=>∃(k:Nat) (op:Int),o5= .int .i64 op/\i6= .int .i64 k/\n<=k/\k<=xs.length/\1<=op/\op<=1+50*((k:Int)-n)/\Below w.heap.size w w'/\Hid (endGo (xs.drop k) op k=endGo (xs.drop n) 1 n))
  (fun _ i6 _=>xs.length-(intOf i6).toNat)
 case atStart=>exact ⟨n,1,rfl,rfl,bN _,by omega,by omega,by omega,aT _ _,aC rfl⟩
 case round=>
  obtain ⟨k,op,rfl,rfl,hnk,hk,aoK,hop1,hbel,hgood⟩:=hrel;by_cases hp:k<xs.length
  ·obtain ⟨x,hx⟩:=aD hp
   have hstep:=aC (RN hx op k);have hmb:=Bt (yw.out x (jQ hx));obtain ⟨m0,m1⟩:=hmb;obtain ⟨b1,o1,rfl,hb1,c10,c11,c12⟩:=((ha.below hbel).more hbel.size).at_ hx;clear hx;by_cases hz:op-1+many x.k x.n=0
   ·have hzb:(op-1+many x.k x.n==0)=true:=by simpa using hz
    have Hz:=aC hz;clear hz;go_wp2_with (go_at_call 107;refine (nW _ _ _ _).mono ?_;rintro e w1 ⟨rfl,hbx⟩);go_ret;exact ⟨pQ (by rw [hfin.out,<-hgood.out,hstep.out,if_pos Hz.out];omega),ah hbel hbx⟩
   ·have hzb:(op-1+many x.k x.n==0)=false:=by simpa using hz
    have Hz:=aC hz;have hz2:1<=op-1+many x.k x.n:=by omega
    clear hz;go_wp2_with (go_at_call 107;refine (nW _ _ _ _).mono ?_;rintro e w1 ⟨rfl,hbx⟩);go_roundw
    case rel=>exact ⟨k+1,op-1+many x.k x.n,rfl,by go_num,by omega,hp,hz2,by omega,ah hbel hbx,aC (by rw [<-hgood.out,hstep.out,if_neg Hz.out])⟩
    case measure=>simp [intOf];omega
  ·have hend:=aC (show endGo (xs.drop k) op k=xs.length by rw [gZ (by omega)];simp [endGo];omega)
   go_wp2_with fail;go_ret;exact ⟨pQ (by rw [hfin.out,<-hgood.out,hend.out]),hbel⟩
theorem Gy (A:Option Addr) (c:Nat) (xs:List Nd) (i:Int) (w:World) (ha:aM w w.heap.size A xs) (hl:xs.length<=1000000) (hok:dF xs):
  Calls Try.prog 62 #[.slice A xs.length c,.int .i64 i] w fun e w'=>e= .returned (.int .i64 (wE xs i))/\Below w.heap.size w w':=
 zJ A c xs i w ha (by omega) hok
def bE (xs:List Nd):Nat->Nat->List Nat
 |0,_=>[]
 |todo+1,at_=>if at_<xs.length then at_::bE xs todo (endGo (xs.drop at_) 1 at_) else []
def nY (l:List Nat):List Int:=l.map fun (n:Nat)=>(n:Int)
def iq (xs:List Nd) (i:Int):List Nat:=
 if i<0 then [] else match xs[i.toNat]? with
  |none=>[]
  |some x=>bE xs (many x.k x.n).toNat (i.toNat+1)
theorem yJ {xs:List Nd} {n:Nat} (h:n<xs.length):wE xs (n:Int)=((endGo (xs.drop n) 1 n:Nat):Int):=by
 unfold wE;rw [if_neg (by omega)];simp
theorem iH {xs:List Nd} {d at_:Nat} (h:at_<xs.length):bE xs (d+1) at_=at_::bE xs d (endGo (xs.drop at_) 1 at_):=by
 simp only [bE,if_pos h]
theorem I6 {xs:List Nd} {d at_:Nat} (h:¬at_<xs.length):bE xs d at_=[]:=by
 cases d with
 |zero=>rfl
 |succ d=>simp only [bE,if_neg h]
theorem Bu (A:Option Addr) (c:Nat) (xs:List Nd) (i:Int) (w:World) (ha:aM w w.heap.size A xs) (hl:xs.length<=100000000000) (hok:dF xs):
  Calls Try.prog 105 #[.slice A xs.length c,.int .i64 i] w fun e w'=>
   ∃A' cap',e= .returned (.slice A' (nY (iq xs i)).length cap')/\sU w' w.heap.size A' cap' (nY (iq xs i))/\Below w.heap.size w w':=by
 have yw:=aC hok;clear hok;have hown0:=dV 3 1 encI w;have hb0:=ak (aT w.heap.size w) (.cells #[] 3);by_cases h0:i<0
 ·have hfin:=aC (show iq xs i=[] by unfold iq;rw [if_pos h0])
  go_enter Try.func105,Try.ntmps105;go_wp2_with fail;go_ret;exact ⟨_,_,by rw [hfin.out];rfl,by rw [hfin.out];exact hown0,hb0⟩
 by_cases h1:(xs.length:Int)<=i
 ·have hfin:=aC (show iq xs i=[] by unfold iq;rw [if_neg h0,AO (by omega)])
  go_enter Try.func105,Try.ntmps105;go_wp2_with fail;go_ret;exact ⟨_,_,by rw [hfin.out];rfl,by rw [hfin.out];exact hown0,hb0⟩
 obtain ⟨n,rfl⟩:=BJ (Int.not_lt.1 h0);have hn:n<xs.length:=by omega
 obtain ⟨x,hx⟩:=aD hn;obtain ⟨M,hM,Kt,_⟩:=vU (yw.out x (jQ hx));have hfin:=aC (show iq xs (n:Int)=bE xs M (n+1) by unfold iq;rw [if_neg (by omega)];simp [hx,hM]);have h0':(0:Int)<=(n:Int):=by omega
 have h1':(n:Int)<(xs.length:Int):=by omega
 have hd0:decide ((n:Int)<0)=false:=by simp
 have hd1:decide (xs.length<=n)=false:=by simp;omega
 have HM:=aC hM;have Hx:=aC hx;clear h0 h1 hM hx;go_enter Try.func105,Try.ntmps105;go_wp2_with fail
 go_loopw [5,6,7] (fun o5 i6 k7 wr=>∃(k at_:Nat) (A':Option Addr) (cap':Nat) (l:List Int),o5= .slice A' l.length cap'/\i6= .int .i64 at_/\k7= .int .i64 k/\k<=M/\at_<=xs.length/\l.length<=k/\
   sU wr w.heap.size A' cap' l/\Below w.heap.size w wr/\Hid (l++nY (bE xs (M-k) at_)=nY (bE xs M (n+1))))
  (fun _ _ k7 _=>M-(intOf k7).toNat)
 case atStart=>exact ⟨0,n+1,_,_,[],rfl,rfl,rfl,h_ _,hn,bN _,hown0,hb0,aC rfl⟩
 case round=>
  obtain ⟨k,at_,A',cap',l,rfl,rfl,rfl,hkM,aiV,hlk,hown,hbel,hgood⟩:=hrel;obtain ⟨b1,o1,rfl,hb1,c10,c11,c12⟩:=((ha.below hbel).more hbel.size).at_ Hx.out;by_cases hlt:k<M
  ·by_cases hp:at_<xs.length
   ·obtain ⟨d,hd'⟩:∃d,M-k=d+1:=⟨M-k-1,by omega⟩
    have qg:Hid ((l++[(at_:Int)])++nY (bE xs d (endGo (xs.drop at_) 1 at_))=nY (bE xs M (n+1))):=aC (by
     rw [<-hgood.out,hd',iH hp];simp [nY])
    have Hd':=aC hd';have hle:=YT (xs.drop at_) 1 at_;rw [List.length_drop] at hle;have hend:=aC (yJ hp);clear hd' hgood;go_wp2_with fail;refine (nW _ _ _ _).mono ?_;rintro e w1 ⟨rfl,hbx⟩;rw [HM.out];have hown1:=aA.below hown hbx (bN _);have uW:=ah hbel hbx;have z1:=uW.size;go_wp2_with (at_builtin;refine vJ rfl (.tmp 35) (.tmp 37) rfl w.heap.size (l:=l) rfl (aA.alloc hown1 _) (l2:=[(at_:Int)]) rfl (zI _ _) (by simp;omega) (by simp;omega) ?_;intro A2 cap2 w3 hown3 hg3 _);have mW:=eG (ak uW _) hg3 (fun k hk=>(aA.block hown1 k hk).1);refine (zJ _ c xs at_ _ ((ha.below mW).more mW.size) hl yw.out).mono ?_;rintro e w4 ⟨rfl,hb4⟩;rw [hend.out];have qm:=aA.below hown3 hb4 (bN _);go_wp2_with fail;go_roundw
    case rel=>exact ⟨k+1,_,_,_,l++[(at_:Int)],by simp,rfl,by go_num,by omega,by omega,by simp;omega,qm,ah mW hb4,aC (by rw [<-qg.out,show M-(k+1)=d by have:=Hd'.out;omega])⟩
    case measure=>simp [intOf];omega
   ·have hout:=aC (I6 (d:=M-k) hp)
    go_wp2_with fail;refine (nW _ _ _ _).mono ?_;rintro e w1 ⟨rfl,hbx⟩;rw [HM.out];have hown1:=aA.below hown hbx (bN _);have uW:=ah hbel hbx;go_wp2_with fail;go_ret;have e:l=nY (iq xs n):=by rw [hfin.out,<-hgood.out,hout.out];simp [nY]
    rw [<-e];exact ⟨_,_,rfl,hown1,uW⟩
  ·have hout:=aC (show bE xs (M-k) at_=[] by rw [show M-k=0 by omega];rfl)
   go_wp2_with fail;refine (nW _ _ _ _).mono ?_;rintro e w1 ⟨rfl,hbx⟩;rw [HM.out];have hown1:=aA.below hown hbx (bN _);have uW:=ah hbel hbx;go_wp2_with fail;go_ret;have e:l=nY (iq xs n):=by rw [hfin.out,<-hgood.out,hout.out];simp [nY]
   rw [<-e];exact ⟨_,_,rfl,hown1,uW⟩
theorem Vl (A:Option Addr) (c:Nat) (xs:List Nd) (i:Int) (w:World) (ha:aM w w.heap.size A xs) (hl:xs.length<=1000000) (hok:dF xs):
  Calls Try.prog 105 #[.slice A xs.length c,.int .i64 i] w fun e w'=>
   ∃A' cap',e= .returned (.slice A' (nY (iq xs i)).length cap')/\sU w' w.heap.size A' cap' (nY (iq xs i))/\Below w.heap.size w w':=
 Bu A c xs i w ha (by omega) hok
section
variable {α:Type} {enc:α->List Value} {size e base:Nat} {w w':World} {A:Option Addr} {cap B:Nat} {l:List α}
theorem Nb (hk:∀x,(enc x).length=size):∀(l:List α) (k:Nat),(l.take k).flatMap enc=(l.flatMap enc).take (k*size):=by
 intro l
 induction l with
 |nil=>intro k;simp
 |cons x l ih=>
  intro k
  cases k with
  |zero=>simp
  |succ k=>
   rw [List.take_succ_cons,jy,jy,ih,List.take_append,hk,show (k+1)*size-size=k*size by rw [jZ];omega,CK (l:=enc x) (by rw [hk,jZ];omega)]
theorem aA.cut (hk:∀x,(enc x).length=size) (h:aA e size enc w base A cap l) {k:Nat} (hkl:k<=l.length):aA e size enc w base A cap (l.take k):=by
 unfold aA at h ⊢;have hlen:(l.take k).length=k:=by rw [zH];omega
 refine ⟨vI hk _,?_⟩;rw [hlen];rcases h.2 with ⟨hv,hn⟩|⟨g,cap',cur,hv,hbg,hg,hnc,hcm,hcs,htake⟩
 ·injection hv with hA hl hc
  subst hA hc;exact .inl ⟨by rw [show k=0 by omega],by omega⟩
 ·injection hv with hA hl hc
  subst hA hc;refine .inr ⟨g,cap,cur,rfl,hbg,hg,by omega,hcm,hcs,?_⟩;rw [Nb hk,<-htake,List.take_take,Nat.min_eq_left (Nat.mul_le_mul_right _ hkl)]
end
theorem yx (l:List Int):l.flatMap encI=l.map fun n=>Value.int .i64 n:=by
 induction l with
 |nil=>rfl
 |cons n l ih=>rw [jy,Bn,ih];rfl
theorem aA.afG {w:World} {base:Nat} {A:Option Addr} {cap:Nat} {l:List Int} (h:sU w base A cap l) {j:Nat} (hj:j<l.length) (n:Int):
  ∃g,A=some ⟨g,0,none⟩/\base<=g/\g<w.heap.size/\(∃m,l[j]?=some m/\w.cell? ⟨g,j,none⟩=some (.int .i64 m))/\w.frozen? ⟨g,j,none⟩=false/\
   sU (w.setCell ⟨g,j,none⟩ (.int .i64 n)) base A cap (l.set j n)/\w.grownBy (w.setCell ⟨g,j,none⟩ (.int .i64 n)) (some g):=by
 obtain ⟨m,hm⟩:=aD hj;obtain ⟨b,o,hA,hb,hc⟩:=aX.int (aA.read mH h) hm;have h':w.ownsRow base 3 1 (.slice A l.length cap) l.length (l.flatMap encI):=h;rcases h'.2 with ⟨hv,hn⟩|⟨g,cap',cur,hv,hbg,hg,hnc,hcm,hcs,htake⟩
 ·injection hv with hA' hl hc'
  rw [hA'] at hA
  cases hA
 ·injection hv with hA' hl hc'
  subst hA';injection hA with hA
  injection hA with hA1 hA2 hA3
  subst hA1;rw [<-hA2,iE] at hc;obtain ⟨h2,h3⟩:=lM.stored h' j (.int .i64 n);refine ⟨g,rfl,hbg,hb,⟨m,hm,hc⟩,lM.frozenAt h' j,?_,h3⟩;show (w.setCell ⟨g,j,none⟩ (.int .i64 n)).ownsRow base 3 1 (.slice (some ⟨g,0,none⟩) (l.set j n).length cap) (l.set j n).length ((l.set j n).flatMap encI);rw [List.length_set,yx,List.map_set,<-yx];exact h2
def settle:List Int->Int->List Int
 |[],a=>if a=0 then [] else [a]
 |b::r,a=>if a=0 then settle r (b-1) else a::b::r
def uK:List Int->List Int
 |[]=>[]
 |a::r=>settle r a
def d_:List Nd->List Int->Bool
 |[],_=>true
 |x::xs,st=>if 100<=st.length then false else d_ xs (uK (many x.k x.n::st))
theorem I7 {a:Int} (h:a≠0) (r:List Int):settle r a=a::r:=by cases r<;>simp [settle,h]
theorem RO:∀(r:List Int) (a:Int),(settle r a).length<=r.length+1:=by
 intro r
 induction r with
 |nil=>intro a;simp only [settle];split<;>simp
 |cons b r ih=>
  intro a;simp only [settle];split
  ·have:=ih (b-1)
   simp;omega
  ·simp
def lenOf:Value->Nat
 | .slice _ n _=>n
 |_=>0
theorem RP {α:Type} {l:List α} {m:Nat} (h:l.length=m+1):∃l0 a,l=l0++[a]/\l0.length=m:=by
 refine ⟨l.take m,l[m],?_,by rw [zH];omega⟩;have h1:l.take (m+1)=l:=CK (by omega);rw [List.take_succ_eq_append_getElem (by omega)] at h1;exact h1.symm
theorem aA.form {α:Type} {enc:α->List Value} {size e base:Nat} {w:World} {A:Option Addr} {cap:Nat} {l:List α} (h:aA e size enc w base A cap l) (hl:0<l.length):
  ∃g,A=some ⟨g,0,none⟩/\base<=g/\g<w.heap.size/\l.length<=cap/\cap<=9223372036854775807:=by
 rcases h.2 with ⟨hv,hn⟩|⟨g,cap',cur,hv,hbg,hg,hnc,hcm,hcs,htake⟩
 ·omega
 ·injection hv with hA hl hc
  subst hA hc;exact ⟨g,rfl,hbg,lt_of_block hg,hnc,by unfold maxLen at hcm;omega⟩
def abd (l:List Int):Prop:=∀(l0:List Int) (a:Int),l=l0++[a]->0<=a/\a<=50/\∀v∈l0,1<=v/\v<=50
theorem Ku {l:List Int} {a:Int} (h:∀v∈l,1<=v/\v<=50) (h0:0<=a) (h1:a<=50):abd (l++[a]):=by
 intro l0 b e;obtain ⟨rfl,hb⟩:=List.append_inj' e rfl;simp at hb;subst hb;exact ⟨h0,h1,h⟩
theorem E8 (A:Option Addr) (c:Nat) (xs:List Nd) (w:World) (ha:aM w w.heap.size A xs) (hl:xs.length<=1000000) (hok:dF xs):
  Calls Try.prog 63 #[.slice A xs.length c] w fun e w'=>e= .returned (.bool (d_ xs []))/\Below w.heap.size w w':=by
 have yw:=aC hok;clear hok;have hown0:=dV 3 1 encI w;have hb0:=ak (aT w.heap.size w) (.cells #[] 3);go_enter Try.func63,Try.ntmps63;go_wp2_with fail
 go_loopw [3,4] (fun o3 k4 wr=>∃(k:Nat) (A':Option Addr) (cap':Nat) (l:List Int),o3= .slice A' l.length cap'/\k4= .int .i64 k/\k<=xs.length/\l.length<=100/\Hid (∀v∈l,1<=v/\v<=50)/\
   sU wr w.heap.size A' cap' l/\Below w.heap.size w wr/\Hid (d_ (xs.drop k) l.reverse=d_ xs []))
  (fun _ k4 _=>xs.length-(intOf k4).toNat)
 case atStart=>exact ⟨0,_,_,[],rfl,rfl,h_ _,by simp,aC (by simp),hown0,hb0,aC rfl⟩
 case round=>
  obtain ⟨k,A',cap',l,rfl,rfl,hk,al_,hpos,hown,hbel,hgood⟩:=hrel;by_cases hp:k<xs.length
  ·obtain ⟨x,hx⟩:=aD hp
   obtain ⟨M,hM,Kt,_⟩:=vU (yw.out x (jQ hx));obtain ⟨b1,o1,rfl,hb1,c10,c11,c12⟩:=((ha.below hbel).more hbel.size).at_ hx;have HM:=aC hM;by_cases I8:l.length=100
   ·have hfin:=aC (show d_ (xs.drop k) l.reverse=false by rw [drop_cons hx];simp [d_,I8])
    have Vn:(100:Int)<=(l.length:Int):=by omega
    clear hx I8 hM;go_wp2_with fail;go_ret;exact ⟨aN (by rw [<-hgood.out,hfin.out]),hbel⟩
   ·have qg:Hid (d_ (xs.drop (k+1)) (uK ((l++[(M:Int)]).reverse))=d_ xs []):=aC (by
     rw [<-hgood.out,drop_cons hx];simp [d_,hM,show ¬100<=l.length by omega])
    have Vn:¬(100:Int)<=(l.length:Int):=by omega
    have ama:l.length<100:=by omega
    clear hx I8 hM hgood;go_wp2_with fail;refine (nW _ _ _ _).mono ?_;rintro e w1 ⟨rfl,hbx⟩;rw [HM.out];have hown1:=aA.below hown hbx (bN _);have uW:=ah hbel hbx;have z1:=uW.size;go_wp2_with (at_builtin;refine vJ rfl (.tmp 15) (.tmp 21) rfl w.heap.size (l:=l) rfl (aA.alloc hown1 _) (l2:=[(M:Int)]) rfl (zI _ _) (by simp;omega) (by simp;omega) ?_;intro A2 cap2 w3 hown3 hg3 _);have mW:=eG (ak uW _) hg3 (fun k hk=>(aA.block hown1 k hk).1);clear hg3 hbx hown1;have hst:Hid (abd (l++[(M:Int)])):=aC (Ku hpos.out (by omega) (by omega));obtain ⟨wo,rfl⟩:∃wo:World,wo=wr:=⟨_,rfl⟩
    go_loopw [3] (fun o3 wi=>∃(A3:Option Addr) (I9:Nat) (l3:List Int),o3= .slice A3 l3.length I9/\l3.length<=101/\Hid (abd l3)/\sU wi w.heap.size A3 I9 l3/\Below w.heap.size w wi/\
      Hid (uK l3.reverse=uK ((l++[(M:Int)]).reverse)))
     (fun o3 _=>lenOf o3)
    case atStart=>exact ⟨_,_,l++[(M:Int)],by simp,by simp;omega,hst,hown3,mW,aC rfl⟩
    case round=>
     clear hown3 mW hst;obtain ⟨A3,I9,l3,rfl,agP,hst,hown3,mW,E9⟩:=hrel;rcases Nat.eq_zero_or_pos l3.length with hz|hz
     ·have hnil:l3=[]:=kZ hz
      subst hnil;go_wp2_with fail;go_roundw
      case rel=>exact ⟨k+1,A3,I9,[],rfl,by go_num,hp,by simp,aC (by simp),hown3,mW,aC (by rw [<-qg.out,<-E9.out];rfl)⟩
      case measure=>simp [intOf];omega
     ·obtain ⟨l0,a,hl3,hm⟩:=RP (show l3.length=(l3.length-1)+1 by omega)
      generalize hmm:l3.length-1=m at hm;have hlen3:l3.length=m+1:=by omega
      rw [hlen3] at agP ⊢;have hread:=aA.read mH hown3;obtain ⟨b3,rfl,aiW,hb3,agQ,amb⟩:=aA.form hown3 hz;obtain ⟨_,_,e3,_,c3⟩:=aX.int hread (i:=m) (n:=a) (by rw [hl3,zA (by omega)];simp [hm]);simp only [Option.some.injEq,Addr.mk.injEq,and_true] at e3;obtain ⟨rfl,rfl⟩:=e3;rw [iE] at c3;rw [hlen3] at agQ;have hbd:=hst.out l0 a hl3;obtain ⟨ha0,ha1,hl0⟩:=hbd;have Vo:=aC hl3;have Hm:=aC hm;have abe:=aC hlen3;have Hl0:=aC hl0;have hm0:=aC (show m=l0.length from hm.symm);clear hl3 hm hlen3 hmm hl0 hz hread;by_cases haz:a=0
      ·have aiX:(a==0)=true:=by simpa using haz
       have YU:=aC haz;clear haz
       have hcut:sU wr w.heap.size (some ⟨b3,0,none⟩) I9 l0:=by
        have:=aA.cut mH hown3 (k:=l0.length) (by rw [Vo.out];simp)
        rwa [Vo.out,List.take_left] at this
       cases m with
       |zero=>
        have hnil:l0=[]:=kZ Hm.out;subst hnil;go_wp2_with fail;go_roundw
        case rel=>exact ⟨_,I9,[],rfl,by simp,aC (fun l0 a h=>by simp at h),hcut,mW,aC (by rw [<-E9.out,Vo.out,YU.out];rfl)⟩
        case measure=>simp [lenOf]
       |succ j=>
        obtain ⟨l00,b,XK,hj⟩:=RP Hm.out;have hb:=Hl0.out b (by rw [XK];simp);obtain ⟨aoL,aoM⟩:=hb;obtain ⟨g,hg,_,_,⟨b',hb',c4⟩,f4,hset,hgr⟩:=aA.afG hcut (j:=j) (by rw [Hm.out];omega) (b-1);simp only [Option.some.injEq,Addr.mk.injEq,and_true] at hg;subst hg;rw [XK,zA (by omega)] at hb';simp [hj] at hb';subst hb';have abf:=aC XK;have Hj:=aC hj;have aiY:=aC hset;clear XK hj hset;go_wp2_with fail;go_roundw
        case rel=>exact ⟨some ⟨b3,0,none⟩,I9,l00++[b-1],by simp [Hj.out],by simp [Hj.out];omega,aC (Ku (fun v hv=>Hl0.out v (by rw [abf.out];simp [hv])) (by omega) (by omega)),by
         have h1:=aiY.out;rw [abf.out] at h1;rw [List.set_append_right _ _ (by rw [Hj.out];omega),Hj.out,Nat.sub_self] at h1;exact h1,mW.setCell aiW _,aC (by rw [<-E9.out,Vo.out,YU.out,abf.out];simp [uK,settle])⟩
        case measure=>simp [lenOf]
      ·have aiX:(a==0)=false:=by simpa using haz
       have YU:=aC haz;clear haz;go_wp2_with fail;go_roundw
       case rel=>exact ⟨k+1,_,I9,l3,by rw [abe.out],by go_num,hp,by
        have h1:=RO (l.reverse) (M:Int);have h2:=E9.out;rw [Vo.out,Di,Di] at h2;have h3:settle l0.reverse a=settle l.reverse (M:Int):=h2;rw [I7 YU.out] at h3;rw [<-h3] at h1;have:=abe.out;have:=Hm.out;simp at h1;omega,aC (by
        rw [Vo.out];intro v hv;rcases List.mem_append.1 hv with hv|hv
        ·exact Hl0.out v hv
        ·simp at hv;subst hv;have:=YU.out;omega),hown3,mW,aC (by
        rw [<-qg.out,<-E9.out,Vo.out];simp [uK,I7 YU.out])⟩
       case measure=>simp [intOf];omega
  ·have hfin:=aC (show d_ (xs.drop k) l.reverse=true by rw [gZ (by omega)];rfl)
   go_wp2_with fail;go_ret;exact ⟨aN (by rw [<-hgood.out,hfin.out]),hbel⟩
def iZ (x y prev:Nd) (k n:Nat):Bool:=
 if y.k=9 then av x.k&&decide (k+1=n)&&decide (y.s.size=0)
 else eZ x.k y.s&& !(av x.k&&decide (0<k)&& !Op.bytesLess prev.s.toList y.s.toList)
def AJ (xs:List Nd) (l:List Nat) (k:Nat):Nd:=(xs[(l[k]?).getD 0]?).getD default
def mI (xs:List Nd) (x:Nd) (l:List Nat):Nat->Nat->Bool
 |0,_=>true
 |d+1,k=>iZ x (AJ xs l k) (AJ xs l (k-1)) k l.length&&mI xs x l d (k+1)
def iN (xs:List Nd) (i:Nat):Bool:=
 match xs[i]? with
 |none=>false
 |some x=>decide (((iq xs i).length:Int)=many x.k x.n)&&mI xs x (iq xs i) (iq xs i).length 0
theorem Vp {xs:List Nd}:∀(d at_:Nat),∀j∈bE xs d at_,j<xs.length:=by
 intro d
 induction d with
 |zero=>intro at_ j h;simp [bE] at h
 |succ d ih=>
  intro at_ j h;simp only [bE] at h;split at h
  ·rcases List.mem_cons.1 h with rfl|h
   ·assumption
   ·exact ih _ j h
  ·simp at h
theorem YV {xs:List Nd} {i:Int}:∀j∈iq xs i,j<xs.length:=by
 intro j h;unfold iq at h;split at h
 ·simp at h
 ·split at h
  ·simp at h
  ·exact Vp _ _ j h
theorem RQ {xs:List Nd}:∀(d at_:Nat),(bE xs d at_).length<=d:=by
 intro d
 induction d with
 |zero=>intro at_;simp [bE]
 |succ d ih=>
  intro at_;simp only [bE];split
  ·have:=ih (endGo (xs.drop at_) 1 at_)
   simp;omega
  ·simp
theorem PN {a b:Bool} (h:(a||b)=true):a=false->b=true:=by cases a<;>simp_all
theorem E_ {l:List Nat} {k j:Nat} (h:l[k]?=some j):(nY l)[k]?=some (j:Int):=by
 unfold nY;rw [List.getElem?_map,h];rfl
theorem Kv (l:List Nat):(nY l).length=l.length:=by simp [nY]
theorem D6 (A:Option Addr) (c:Nat) (xs:List Nd) (i:Nat) (w:World) (ha:aM w w.heap.size A xs) (hl:xs.length<=1000000) (hok:dF xs) (hi:i<xs.length) (hs:∀x∈xs,x.s.size<=9223372036854775807):
  Calls Try.prog 64 #[.slice A xs.length c,.int .i64 i] w fun e w'=>e= .returned (.bool (iN xs i))/\Below w.heap.size w w':=by
 have yw:=aC hok;have Hs:=aC hs;clear hok hs;obtain ⟨x,hx⟩:=aD hi;obtain ⟨M,hM,Kt,_⟩:=vU (yw.out x (jQ hx));have hfin:Hid (iN xs i=(decide (((iq xs i).length:Int)=(M:Int))&&mI xs x (iq xs i) (iq xs i).length 0)):=aC (by unfold iN;rw [hx];simp [hM]);have HM:=aC hM;have Hx:=aC hx;clear hx hM;go_enter Try.func64,Try.ntmps64;go_wp2_with fail;refine (Vl A c xs i w ha hl yw.out).mono ?_;rintro e w1 ⟨A',cap',rfl,hown,hbel⟩;have hlt:=aC (YV (xs:=xs) (i:=i))
 have agS:=aC (show (iq xs i).length<=50 by
  unfold iq;rw [if_neg (by omega)];simp only [Int.toNat_natCast,Hx.out,HM.out];exact zk (RQ _ _) Kt)
 rw [Kv];generalize hks:iq xs i=l at*;have hread:=aA.read mH hown;have ha1:=(ha.below hbel).more hbel.size;have hll:l.length<=50:=agS.out;clear hks hown;obtain ⟨b1,o1,rfl,hb1,c10,c11,c12⟩:=ha1.at_ Hx.out;go_wp2_with fail;refine (nW _ _ _ _).mono ?_;rintro e w2 ⟨rfl,hb2⟩;rw [HM.out];have nZ:=ah hbel hb2;have ha2:=(ha1.below hb2).more hb2.size;have ael:=(aX.below hread hb2).more hb2.size;clear c10 c11 c12 hread ha1 hb2 hb1;clear hbel;clear w1;by_cases hlM:l.length=M
 ·have aiZ:((l.length:Int) !=(M:Int))=false:=by simp [hlM]
  have HlM:=aC hlM;clear hlM;go_wp2_with fail
  go_loopw [6] (fun k6 wr=>∃k:Nat,k6= .int .i64 k/\k<=l.length/\Below w2.heap.size w2 wr/\Hid (mI xs x l (l.length-k) k=mI xs x l l.length 0))
   (fun k6 _=>l.length-(intOf k6).toNat)
  case atStart=>exact ⟨0,rfl,h_ _,aT _ _,aC rfl⟩
  case round=>
   obtain ⟨k,rfl,hk,hbr,hgood⟩:=hrel;rw [show decide ((l.length:Int)=(M:Int))=true by simp [HlM.out],bW] at hfin;by_cases hp:k<l.length
   ·obtain ⟨j,hj⟩:=aD hp
    have hjl:=hlt.out j (jQ hj);obtain ⟨y,hy⟩:=aD hjl;have hys:=aC (Hs.out y (jQ hy))
    have hstep:Hid (mI xs x l (l.length-k) k=(iZ x y (AJ xs l (k-1)) k l.length&&mI xs x l (l.length-(k+1)) (k+1))):=aC (by
     rw [show l.length-k=(l.length-(k+1))+1 by omega];simp [mI,AJ,hj,hy])
    generalize hpv:AJ xs l (k-1)=p at hstep;have hre:=(aX.below ael hbr).more hbr.size;have hae:=(ha2.below hbr).more hbr.size;obtain ⟨bl,ol,rfl,hbl,cl⟩:=aX.int hre (E_ hj);obtain ⟨bt,ot,hte,hbt,cx0,cx1,cx2⟩:=hae.at_ Hx.out;simp only [Option.some.injEq,Addr.mk.injEq,and_true] at hte;obtain ⟨rfl,rfl⟩:=hte;obtain ⟨_,_,hte,_,cy0,cy1,cy2⟩:=hae.at_ hy;simp only [Option.some.injEq,Addr.mk.injEq,and_true] at hte;obtain ⟨rfl,rfl⟩:=hte;have s1:bl<wr.heap.size+1:=by omega
    have s2:b1<wr.heap.size+1:=by omega
    have Hj:=aC hj;have Hy:=aC hy;have Hpv:=aC hpv;clear hj hy hpv;by_cases h9:y.k=9
    ·have h9b:(y.k==9)=true:=by simpa using h9
     have H9:=aC h9;clear h9;by_cases hrow:av x.k=true
     ·have abj:(x.k==6||x.k==7)=true:=hrow
      have RS:=aC hrow;by_cases hla:k+1=l.length
      ·have hlab:((k:Int)==(l.length:Int)-1)=true:=by simp;omega
       have Hla:=aC hla
       cases he:y.s.toList.isEmpty
       ·have He:=aC he
        clear hla hrow
        cases Nc:(x.k==6)
        all_goals
         have AY:=aC (PN abj)
         first|(have h7c:=AY.out Nc;clear AY)|clear AY
         go_wp2_with fail;go_ret;exact ⟨aN (by rw [hfin.out,<-hgood.out,hstep.out,(show iZ x y p k l.length=false by unfold iZ;rw [if_pos H9.out,<-fH,He.out,Bool.and_false]),fE]),ah nZ (by repeat (first|exact hbr|refine ak ?_ _|refine dJ ?_ _|refine bM ?_))⟩
       ·have He:=aC he
        clear hla hrow
        cases Nc:(x.k==6)
        all_goals
         have AY:=aC (PN abj)
         first|(have h7c:=AY.out Nc;clear AY)|clear AY
         go_wp2_with fail;go_roundw
         case rel=>exact ⟨k+1,by go_num,hp,(by repeat (first|exact hbr|refine ak ?_ _|refine dJ ?_ _|refine bM ?_)),aC (by rw [<-hgood.out,hstep.out,(show iZ x y p k l.length=true by unfold iZ;rw [if_pos H9.out,<-fH,He.out,RS.out,decide_eq_true Hla.out];rfl),bW])⟩
         case measure=>simp [intOf];omega
      ·have hlab:((k:Int)==(l.length:Int)-1)=false:=by rw [beq_eq_false_iff_ne];omega
       have Hla:=aC hla;clear hla hrow
       cases Nc:(x.k==6)
       all_goals
        have AY:=aC (PN abj)
        first|(have h7c:=AY.out Nc;clear AY)|clear AY
        go_wp2_with fail;go_ret;exact ⟨aN (by rw [hfin.out,<-hgood.out,hstep.out,(show iZ x y p k l.length=false by unfold iZ;rw [if_pos H9.out,decide_eq_false Hla.out];simp),fE]),ah nZ (by repeat (first|exact hbr|refine ak ?_ _|refine dJ ?_ _|refine bM ?_))⟩
     ·have RS:=aC (show av x.k=false by simpa using hrow)
      have Nc:(x.k==6)=false:=by have:=RS.out;simp [av] at this;simpa using this.1
      have AY:(x.k==7)=false:=by have:=RS.out;simp [av] at this;simpa using this.2
      clear hrow;go_wp2_with fail;go_ret;exact ⟨aN (by rw [hfin.out,<-hgood.out,hstep.out,(show iZ x y p k l.length=false by unfold iZ;rw [if_pos H9.out,RS.out];rfl),fE]),ah nZ (by repeat (first|exact hbr|refine ak ?_ _|refine dJ ?_ _|refine bM ?_))⟩
    ·have h9b:(y.k==9)=false:=by simpa using h9
     have H9:=aC h9;clear h9;by_cases hk0:0<k
     ·have ai1:(0:Int)<(k:Int):=by omega
      have Hk0:=aC hk0;obtain ⟨jp,hjp⟩:=aD (show k-1<l.length by omega);have ai2:=hlt.out jp (jQ hjp);obtain ⟨q,hq⟩:=aD ai2;have hpq:q=p:=by have:=Hpv.out;simp [AJ,hjp,hq] at this;exact this
      subst hpq;obtain ⟨_,_,hte,_,clp⟩:=aX.int hre (E_ hjp);simp only [Option.some.injEq,Addr.mk.injEq,and_true] at hte;obtain ⟨rfl,rfl⟩:=hte;obtain ⟨_,_,hte,_,cp0,cp1,cp2⟩:=hae.at_ hq;simp only [Option.some.injEq,Addr.mk.injEq,and_true] at hte;obtain ⟨rfl,rfl⟩:=hte;have hkp:k-1<l.length:=by omega
      clear hjp hq;by_cases h6:x.k=6
      ·have Nc:(x.k==6)=true:=by simpa using h6
       have AY:(x.k==7)=false:=by simp [h6]
       have Hr:Hid (av x.k=true):=aC (by simp [av,h6])
       cases hw:wC y.s
       ·have Hw:=aC hw
        have Hl:Hid (eZ x.k y.s=false):=aC (by unfold eZ;rw [if_pos h6,hw]);clear h6 hw;go_wp2_with (go_at_call 108;refine (rC _ _ hys.out).mono ?_;rintro e w3 ⟨rfl,rfl⟩;rw [Hw.out]);go_ret;exact ⟨aN (by rw [hfin.out,<-hgood.out,hstep.out,(show iZ x y q k l.length=false by unfold iZ;rw [if_neg H9.out,Hl.out];rfl),fE]),ah nZ (by repeat (first|exact hbr|refine ak ?_ _|refine dJ ?_ _|refine bM ?_))⟩
       ·have Hw:=aC hw
        have Hl:Hid (eZ x.k y.s=true):=aC (by unfold eZ;rw [if_pos h6,hw]);clear h6 hw
        cases hlt:Op.bytesLess q.s.toList y.s.toList
        ·have yK:=aC hlt
         go_wp2_with (go_at_call 108;refine (rC _ _ hys.out).mono ?_;rintro e w3 ⟨rfl,rfl⟩;rw [Hw.out]);go_quiet (fail);go_wp2_with fail;go_ret;exact ⟨aN (by rw [hfin.out,<-hgood.out,hstep.out,(show iZ x y q k l.length=false by unfold iZ;rw [if_neg H9.out,Hl.out,Hr.out,yK.out];simp [Hk0.out]),fE]),ah nZ (by repeat (first|exact hbr|refine ak ?_ _|refine dJ ?_ _|refine bM ?_))⟩
        ·have yK:=aC hlt
         go_wp2_with (go_at_call 108;refine (rC _ _ hys.out).mono ?_;rintro e w3 ⟨rfl,rfl⟩;rw [Hw.out]);go_quiet (fail);go_wp2_with fail;go_roundw
         case rel=>exact ⟨k+1,by go_num,hp,(by repeat (first|exact hbr|refine ak ?_ _|refine dJ ?_ _|refine bM ?_)),aC (by rw [<-hgood.out,hstep.out,(show iZ x y q k l.length=true by unfold iZ;rw [if_neg H9.out,Hl.out,yK.out];simp),bW])⟩
         case measure=>simp [intOf];omega
      ·have Nc:(x.k==6)=false:=by simpa using h6
       by_cases h7:x.k=7
       ·have AY:(x.k==7)=true:=by simpa using h7
        have Hr:Hid (av x.k=true):=aC (by simp [av,h7])
        cases hw:Bp y.s
        ·have Hw:=aC hw
         have Hl:Hid (eZ x.k y.s=false):=aC (by unfold eZ;rw [if_neg h6,if_pos h7,hw]);clear h6 h7 hw;go_wp2_with (go_at_call 109;refine (uI _ _ hys.out).mono ?_;rintro e w3 ⟨rfl,rfl⟩;rw [Hw.out]);go_ret;exact ⟨aN (by rw [hfin.out,<-hgood.out,hstep.out,(show iZ x y q k l.length=false by unfold iZ;rw [if_neg H9.out,Hl.out];rfl),fE]),ah nZ (by repeat (first|exact hbr|refine ak ?_ _|refine dJ ?_ _|refine bM ?_))⟩
        ·have Hw:=aC hw
         have Hl:Hid (eZ x.k y.s=true):=aC (by unfold eZ;rw [if_neg h6,if_pos h7,hw]);clear h6 h7 hw
         cases hlt:Op.bytesLess q.s.toList y.s.toList
         ·have yK:=aC hlt
          go_wp2_with (go_at_call 109;refine (uI _ _ hys.out).mono ?_;rintro e w3 ⟨rfl,rfl⟩;rw [Hw.out]);go_quiet (fail);go_wp2_with fail;go_ret;exact ⟨aN (by rw [hfin.out,<-hgood.out,hstep.out,(show iZ x y q k l.length=false by unfold iZ;rw [if_neg H9.out,Hl.out,Hr.out,yK.out];simp [Hk0.out]),fE]),ah nZ (by repeat (first|exact hbr|refine ak ?_ _|refine dJ ?_ _|refine bM ?_))⟩
         ·have yK:=aC hlt
          go_wp2_with (go_at_call 109;refine (uI _ _ hys.out).mono ?_;rintro e w3 ⟨rfl,rfl⟩;rw [Hw.out]);go_quiet (fail);go_wp2_with fail;go_roundw
          case rel=>exact ⟨k+1,by go_num,hp,(by repeat (first|exact hbr|refine ak ?_ _|refine dJ ?_ _|refine bM ?_)),aC (by rw [<-hgood.out,hstep.out,(show iZ x y q k l.length=true by unfold iZ;rw [if_neg H9.out,Hl.out,yK.out];simp),bW])⟩
          case measure=>simp [intOf];omega
       ·have AY:(x.k==7)=false:=by simpa using h7
        have Hr:Hid (av x.k=false):=aC (by simp [av,h6,h7])
        cases he:y.s.toList.isEmpty
        ·have Hl:Hid (eZ x.k y.s=false):=aC (by unfold eZ;rw [if_neg h6,if_neg h7,<-fH,he])
         clear h6 h7;go_wp2_with fail;go_ret;exact ⟨aN (by rw [hfin.out,<-hgood.out,hstep.out,(show iZ x y q k l.length=false by unfold iZ;rw [if_neg H9.out,Hl.out];rfl),fE]),ah nZ (by repeat (first|exact hbr|refine ak ?_ _|refine dJ ?_ _|refine bM ?_))⟩
        ·have Hl:Hid (eZ x.k y.s=true):=aC (by unfold eZ;rw [if_neg h6,if_neg h7,<-fH,he])
         clear h6 h7;go_wp2_with fail;go_quiet (fail);go_wp2_with fail;go_roundw
         case rel=>exact ⟨k+1,by go_num,hp,(by repeat (first|exact hbr|refine ak ?_ _|refine dJ ?_ _|refine bM ?_)),aC (by rw [<-hgood.out,hstep.out,(show iZ x y q k l.length=true by unfold iZ;rw [if_neg H9.out,Hl.out,Hr.out];rfl),bW])⟩
         case measure=>simp [intOf];omega
     ·have ai1:¬(0:Int)<(k:Int):=by omega
      have Hk0:=aC (decide_eq_false hk0);by_cases h6:x.k=6
      ·have Nc:(x.k==6)=true:=by simpa using h6
       have AY:(x.k==7)=false:=by simp [h6]
       have Hr:Hid (av x.k=true):=aC (by simp [av,h6])
       cases hw:wC y.s
       ·have Hw:=aC hw
        have Hl:Hid (eZ x.k y.s=false):=aC (by unfold eZ;rw [if_pos h6,hw]);clear h6 hw;go_wp2_with (go_at_call 108;refine (rC _ _ hys.out).mono ?_;rintro e w3 ⟨rfl,rfl⟩;rw [Hw.out]);go_ret;exact ⟨aN (by rw [hfin.out,<-hgood.out,hstep.out,(show iZ x y p k l.length=false by unfold iZ;rw [if_neg H9.out,Hl.out];rfl),fE]),ah nZ (by repeat (first|exact hbr|refine ak ?_ _|refine dJ ?_ _|refine bM ?_))⟩
       ·have Hw:=aC hw
        have Hl:Hid (eZ x.k y.s=true):=aC (by unfold eZ;rw [if_pos h6,hw]);clear h6 hw;go_wp2_with (go_at_call 108;refine (rC _ _ hys.out).mono ?_;rintro e w3 ⟨rfl,rfl⟩;rw [Hw.out]);go_quiet (fail);go_wp2_with fail;go_roundw
        case rel=>exact ⟨k+1,by go_num,hp,(by repeat (first|exact hbr|refine ak ?_ _|refine dJ ?_ _|refine bM ?_)),aC (by rw [<-hgood.out,hstep.out,(show iZ x y p k l.length=true by unfold iZ;rw [if_neg H9.out,Hl.out,Hk0.out];simp),bW])⟩
        case measure=>simp [intOf];omega
      ·have Nc:(x.k==6)=false:=by simpa using h6
       by_cases h7:x.k=7
       ·have AY:(x.k==7)=true:=by simpa using h7
        have Hr:Hid (av x.k=true):=aC (by simp [av,h7])
        cases hw:Bp y.s
        ·have Hw:=aC hw
         have Hl:Hid (eZ x.k y.s=false):=aC (by unfold eZ;rw [if_neg h6,if_pos h7,hw]);clear h6 h7 hw;go_wp2_with (go_at_call 109;refine (uI _ _ hys.out).mono ?_;rintro e w3 ⟨rfl,rfl⟩;rw [Hw.out]);go_ret;exact ⟨aN (by rw [hfin.out,<-hgood.out,hstep.out,(show iZ x y p k l.length=false by unfold iZ;rw [if_neg H9.out,Hl.out];rfl),fE]),ah nZ (by repeat (first|exact hbr|refine ak ?_ _|refine dJ ?_ _|refine bM ?_))⟩
        ·have Hw:=aC hw
         have Hl:Hid (eZ x.k y.s=true):=aC (by unfold eZ;rw [if_neg h6,if_pos h7,hw]);clear h6 h7 hw;go_wp2_with (go_at_call 109;refine (uI _ _ hys.out).mono ?_;rintro e w3 ⟨rfl,rfl⟩;rw [Hw.out]);go_quiet (fail);go_wp2_with fail;go_roundw
         case rel=>exact ⟨k+1,by go_num,hp,(by repeat (first|exact hbr|refine ak ?_ _|refine dJ ?_ _|refine bM ?_)),aC (by rw [<-hgood.out,hstep.out,(show iZ x y p k l.length=true by unfold iZ;rw [if_neg H9.out,Hl.out,Hk0.out];simp),bW])⟩
         case measure=>simp [intOf];omega
       ·have AY:(x.k==7)=false:=by simpa using h7
        have Hr:Hid (av x.k=false):=aC (by simp [av,h6,h7])
        cases he:y.s.toList.isEmpty
        ·have Hl:Hid (eZ x.k y.s=false):=aC (by unfold eZ;rw [if_neg h6,if_neg h7,<-fH,he])
         clear h6 h7;go_wp2_with fail;go_ret;exact ⟨aN (by rw [hfin.out,<-hgood.out,hstep.out,(show iZ x y p k l.length=false by unfold iZ;rw [if_neg H9.out,Hl.out];rfl),fE]),ah nZ (by repeat (first|exact hbr|refine ak ?_ _|refine dJ ?_ _|refine bM ?_))⟩
        ·have Hl:Hid (eZ x.k y.s=true):=aC (by unfold eZ;rw [if_neg h6,if_neg h7,<-fH,he])
         clear h6 h7;go_wp2_with fail;go_quiet (fail);go_wp2_with fail;go_roundw
         case rel=>exact ⟨k+1,by go_num,hp,(by repeat (first|exact hbr|refine ak ?_ _|refine dJ ?_ _|refine bM ?_)),aC (by rw [<-hgood.out,hstep.out,(show iZ x y p k l.length=true by unfold iZ;rw [if_neg H9.out,Hl.out,Hr.out];rfl),bW])⟩
         case measure=>simp [intOf];omega
   ·have hz:=aC (show mI xs x l (l.length-k) k=true by rw [show l.length-k=0 by omega];rfl)
    go_wp2_with fail;go_ret;exact ⟨aN (by rw [hfin.out,<-hgood.out,hz.out]),ah nZ hbr⟩
 ·have aiZ:((l.length:Int) !=(M:Int))=true:=by simp;omega
  have HlM:=aC hlM;clear hlM;go_wp2_with fail;go_ret;exact ⟨aN (by rw [hfin.out,decide_eq_false (by have:=HlM.out;omega)];rfl),nZ⟩
def okB (x:Nd):Bool:=bX x.k x.n
def uw (xs:List Nd):Nat->Nat->Bool
 |0,_=>true
 |d+1,i=>iN xs i&&uw xs d (i+1)
def iR (xs:List Nd):Bool:=
 decide (xs.length<=10000)&&rD xs&&xs.all okB&&decide (wE xs 0=(xs.length:Int))&&d_ xs []&&uw xs xs.length 0
theorem Bv (A:Option Addr) (c:Nat) (xs:List Nd) (w:World) (ha:aM w w.heap.size A xs) (hl:xs.length<=9223372036854775807) (hs:∀x∈xs,x.s.size<=9223372036854775807):
  Calls Try.prog 28 #[.slice A xs.length c] w fun e w'=>e= .returned (.bool (iR xs))/\Below w.heap.size w w':=by
 match ai3:xs with
 |[]=>
  go_enter Try.func28,Try.ntmps28;go_wp2_with fail;go_ret
  exact ⟨rfl,aT _ _⟩
 |x::xs'=>
  obtain ⟨b1,o1,rfl,hb1,c10,c11,c12⟩:=ha.at_ (i:=0) (x:=x) rfl;have hlen:(x::xs').length=xs'.length+1:=rfl;simp only [Nat.zero_mul,pO] at c10 c11 c12;have hn0:(((x::xs').length:Int)==0)=false:=by rw [beq_eq_false_iff_ne];rw [hlen];omega
  clear ai3;generalize hxs:x::xs'=xs at*;have Hxs:=aC hxs;have hpos:0<xs.length:=by omega
  clear hxs hlen;have Hs:=aC hs;clear hs;by_cases h10:xs.length<=10000
  ·have ai4:¬(10000:Int)<(xs.length:Int):=by omega
   cases he:x.s.toList.isEmpty
   ·have hroot:Hid (rD xs=false):=aC (by rw [<-Hxs.out];simp only [rD];rw [<-fH,he];rfl)
    go_enter Try.func28,Try.ntmps28;go_wp2_with fail;go_ret;exact ⟨aN (by simp [iR,hroot.out]),aT _ _⟩
   ·cases h9:(x.k==9)
    ·have hroot:Hid (rD xs=true):=aC (by rw [<-Hxs.out];simp only [rD];rw [<-fH,he,h9];rfl)
     go_enter Try.func28,Try.ntmps28;go_wp2_with fail;go_loopw [3] (fun k3 wr=>∃k:Nat,k3= .int .i64 k/\k<=xs.length/\Below w.heap.size w wr/\Hid (wD okB xs k=xs.all okB)) (fun k3 _=>xs.length-(intOf k3).toNat)
     case atStart=>exact ⟨0,rfl,h_ _,aT _ _,aC rfl⟩
     case round=>
      obtain ⟨k,rfl,hk,hbr,hgood⟩:=hrel;by_cases hp:k<xs.length
      ·obtain ⟨y,hy⟩:=aD hp
       have hstep:=aC (D5 (p:=okB) hy);obtain ⟨b2,o2,hte,hb2,c20,c21,c22⟩:=((ha.below hbr).more hbr.size).at_ hy;simp only [Option.some.injEq,Addr.mk.injEq,and_true] at hte;obtain ⟨rfl,rfl⟩:=hte;clear hy c10 c11 c12
       cases hok:bX y.k y.n
       ·have yw:=aC hok
        go_wp2_with (go_at_call 61;refine (DZ _ _ _ _).mono ?_;rintro e w1 ⟨rfl,hbx⟩;rw [yw.out]);go_ret;exact ⟨aN (by unfold iR;rw [<-hgood.out,hstep.out,show okB y=false from yw.out];simp),ah hbr hbx⟩
       ·have yw:=aC hok
        go_wp2_with (go_at_call 61;refine (DZ _ _ _ _).mono ?_;rintro e w1 ⟨rfl,hbx⟩;rw [yw.out]);go_roundw
        case rel=>exact ⟨k+1,by go_num,hp,ah hbr hbx,aC (by rw [<-hgood.out,hstep.out,show okB y=true from yw.out,bW])⟩
        case measure=>simp [intOf];omega
      ·have hall:Hid (xs.all okB=true):=aC (by rw [<-hgood.out,EZ hp])
       have RV:dF xs:=fun x hx=>List.all_eq_true.1 hall.out x hx;have Kw:=aC RV;have har:=(ha.below hbr).more hbr.size;clear RV c10 c11 c12;obtain ⟨wo,rfl⟩:∃wo:World,wo=wr:=⟨_,rfl⟩;by_cases hend:wE xs 0=(xs.length:Int)
       ·have Ky:=aC hend
        clear hend
        cases hsh:d_ xs []
        ·have Hsh:=aC hsh
         clear hsh;go_wp2_with fail;refine (Gy _ c xs 0 _ har (by omega) Kw.out).mono ?_;rintro e w1 ⟨rfl,hb1'⟩;rw [Ky.out];have XL:=(har.below hb1').more hb1'.size;go_wp2_with fail;refine (E8 _ c xs _ XL (by omega) Kw.out).mono ?_;rintro e w2 ⟨rfl,hb2'⟩;rw [Hsh.out];go_wp2_with fail;go_ret;exact ⟨aN (by unfold iR;rw [Hsh.out];simp),ah (ah hbr hb1') hb2'⟩
        ·have Hsh:=aC hsh
         clear hsh;go_wp2_with fail;refine (Gy _ c xs 0 _ har (by omega) Kw.out).mono ?_;rintro e w1 ⟨rfl,hb1'⟩;rw [Ky.out];have XL:=(har.below hb1').more hb1'.size;go_wp2_with fail;refine (E8 _ c xs _ XL (by omega) Kw.out).mono ?_;rintro e w2 ⟨rfl,hb2'⟩;rw [Hsh.out];have ai5:=ah (ah hbr hb1') hb2';clear hb1' hb2' XL har;go_wp2_with fail;go_loopw [4] (fun k4 wi=>∃j:Nat,k4= .int .i64 j/\j<=xs.length/\Below w.heap.size w wi/\Hid (uw xs (xs.length-j) j=uw xs xs.length 0)) (fun k4 _=>xs.length-(intOf k4).toNat)
         case atStart=>exact ⟨0,rfl,h_ _,ai5,aC rfl⟩
         case round=>
          obtain ⟨j,rfl,hj,hbi,qg⟩:=hrel;by_cases GA:j<xs.length
          ·have hstep2:Hid (uw xs (xs.length-j) j=(iN xs j&&uw xs (xs.length-(j+1)) (j+1))):=aC (by rw [show xs.length-j=(xs.length-(j+1))+1 by omega];rfl)
           have hai:=(ha.below hbi).more hbi.size
           cases hlb:iN xs j
           ·have Hlb:=aC hlb
            clear hlb;go_wp2_with (go_at_call 64;refine (D6 _ c xs j _ hai (by omega) Kw.out GA Hs.out).mono ?_;rintro e w5 ⟨rfl,hbx⟩;rw [Hlb.out]);go_ret;exact ⟨aN (by unfold iR;rw [<-qg.out,hstep2.out,Hlb.out];simp),ah hbi hbx⟩
           ·have Hlb:=aC hlb
            clear hlb;go_wp2_with (go_at_call 64;refine (D6 _ c xs j _ hai (by omega) Kw.out GA Hs.out).mono ?_;rintro e w5 ⟨rfl,hbx⟩;rw [Hlb.out]);go_roundw
            case rel=>exact ⟨j+1,by go_num,GA,ah hbi hbx,aC (by rw [<-qg.out,hstep2.out,Hlb.out,bW])⟩
            case measure=>simp [intOf];omega
          ·have hz:Hid (uw xs xs.length 0=true):=aC (by rw [<-qg.out,show xs.length-j=0 by omega];rfl)
           go_wp2_with fail;go_ret;exact ⟨aN (by unfold iR;rw [hz.out,Hsh.out,Ky.out,hall.out,hroot.out,decide_eq_true h10];simp),hbi⟩
       ·have ame:(wE xs 0 !=(xs.length:Int))=true:=by simpa using hend
        have Ky:=aC hend;clear hend;go_wp2_with (go_at_call 62;refine (Gy _ c xs 0 _ har (by omega) Kw.out).mono ?_;rintro e w1 ⟨rfl,hb1'⟩);go_ret;exact ⟨aN (by unfold iR;rw [decide_eq_false Ky.out];simp),ah hbr hb1'⟩
    ·have hroot:Hid (rD xs=false):=aC (by rw [<-Hxs.out];simp only [rD];rw [h9];simp)
     go_enter Try.func28,Try.ntmps28;go_wp2_with fail;go_ret;exact ⟨aN (by simp [iR,hroot.out]),aT _ _⟩
  ·have ai4:(10000:Int)<(xs.length:Int):=by omega
   go_enter Try.func28,Try.ntmps28;go_wp2_with fail;go_ret;exact ⟨aN (by simp [iR,h10]),aT _ _⟩
def manyN (x:Nd):Nat:=(many x.k x.n).toNat
def skip:List Nd->Nat->Option (List Nd)
 |xs,0=>some xs
 |[],_+1=>none
 |x::xs,n+1=>skip xs (n+manyN x)
theorem n_ (xs:List Nd):skip xs 0=some xs:=by cases xs<;>rfl
theorem N7 (n:Nat):skip [] (n+1)=none:=rfl
theorem wF (x:Nd) (xs:List Nd) (n:Nat):skip (x::xs) (n+1)=skip xs (n+manyN x):=rfl
theorem Dc:∀(xs:List Nd) (a b:Nat),skip xs (a+b)=(skip xs a).bind fun ys=>skip ys b:=by
 intro xs
 induction xs with
 |nil=>
  intro a b
  cases a with
  |zero=>rw [n_,iE];rfl
  |succ a=>rw [N7,show a+1+b=(a+b)+1 by omega,N7];rfl
 |cons x xs ih=>
  intro a b
  cases a with
  |zero=>rw [n_,iE];rfl
  |succ a=>
   rw [wF,show a+1+b=(a+b)+1 by omega,wF,<-ih]
   congr 1
   omega
def Fo (n:Nat) (xs:List Nd):Prop:=skip xs n=some []
theorem PO:∀(ps ys:List Nd) (n:Nat) (r:List Nd),skip ps n=some r->skip (ps++ys) n=some (r++ys):=by
 intro ps
 induction ps with
 |nil=>
  intro ys n r h
  cases n with
  |zero=>rw [n_] at h ⊢;injection h with h;subst h;rfl
  |succ n=>cases h
 |cons x ps ih=>
  intro ys n r h
  cases n with
  |zero=>rw [n_] at h ⊢;injection h with h;subst h;rfl
  |succ n=>rw [wF] at h;rw [List.cons_append,wF];exact ih ys _ r h
theorem Fo.pass {n:Nat} {ps:List Nd} (h:Fo n ps) (ys:List Nd):skip (ps++ys) n=some ys:=PO ps ys n [] h
theorem Bw:∀(xs:List Nd) (n:Nat) (ys:List Nd),skip xs n=some ys->∃ps,xs=ps++ys/\Fo n ps:=by
 intro xs
 induction xs with
 |nil=>
  intro n ys h
  cases n with
  |zero=>rw [n_] at h;injection h with h;subst h;exact ⟨[],rfl,rfl⟩
  |succ n=>cases h
 |cons x xs ih=>
  intro n ys h
  cases n with
  |zero=>rw [n_] at h;injection h with h;subst h;exact ⟨[],rfl,rfl⟩
  |succ n=>
   rw [wF] at h;obtain ⟨ps,rfl,hf⟩:=ih _ _ h;exact ⟨x::ps,rfl,hf⟩
theorem Fo.zero:Fo 0 []:=rfl
theorem Fo.PS {n:Nat} (h:Fo n []):n=0:=by cases n with|zero=>rfl|succ n=>cases h
theorem Fo.wG {xs:List Nd} (h:Fo 0 xs):xs=[]:=by unfold Fo at h;rw [n_] at h;injection h
theorem Fo.append {a b:Nat} {ps qs:List Nd} (h:Fo a ps) (k:Fo b qs):Fo (a+b) (ps++qs):=by
 show skip (ps++qs) (a+b)=some [];rw [Dc,h.pass];exact k
theorem Fo.cons {n:Nat} {x:Nd} {ks rs:List Nd} (h:Fo (manyN x) ks) (k:Fo n rs):Fo (n+1) (x::(ks++rs)):=by
 show skip (ks++rs) (n+manyN x)=some [];rw [AA,Dc,h.pass];exact k
theorem Fo.PU {n:Nat} {x:Nd} {ys:List Nd} (h:Fo (n+1) (x::ys)):∃ks rs,ys=ks++rs/\Fo (manyN x) ks/\Fo n rs:=by
 have h':skip ys (n+manyN x)=some []:=h;rw [AA,Dc] at h'
 cases hs:skip ys (manyN x) with
 |none=>rw [hs] at h';cases h'
 |some rs=>
  rw [hs] at h';obtain ⟨ks,rfl,hk⟩:=Bw _ _ _ hs;exact ⟨ks,rs,rfl,hk,h'⟩
theorem Fo.first {n:Nat} {xs:List Nd} (h:Fo (n+1) xs):∃ts rs,xs=ts++rs/\Fo 1 ts/\Fo n rs:=by
 have h':skip xs (n+1)=some []:=h;rw [AA,Dc] at h'
 cases hs:skip xs 1 with
 |none=>rw [hs] at h';cases h'
 |some rs=>
  rw [hs] at h';obtain ⟨ts,rfl,ht⟩:=Bw _ _ _ hs;exact ⟨ts,rs,rfl,ht,h'⟩
theorem Fo.pos {n:Nat} {xs:List Nd} (h:Fo (n+1) xs):0<xs.length:=by
 cases xs with
 |nil=>cases h
 |cons x xs=>simp
theorem nH {x:Nd} (h:bX x.k x.n=true):many x.k x.n=(manyN x:Int):=by
 have:=Bt h;unfold manyN;omega
end Go.Proofs.Ytblfeokjlecgkaa
