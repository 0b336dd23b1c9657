/- Laid together by a tool from the texts of this seat: ChQ ChA ChL. Conditions: each theorem's own. -/
import Derived.Test.YtmjdhfbnmmdjiaaGreatJ05
import Derived.WalkKit
import Derived.WalkSpells
import Derived.WalkLawsBesides
import Derived.Deep.Draws
import Derived.Deep.Cut
import Derived.Deep.DeepCutAuto
import Derived.Deep.QuietTactic
import Derived.BigQuiet
set_option maxHeartbeats 8000000
set_option maxRecDepth 100000
namespace Go.Proofs.YtmjdhfbnmmdjiaaGreat
open Go.Lib renaming hid->aD
open _root_.And renaming intro->Cj
open Go.World renaming cell?->Ck,block_lt_of_cell?->Db
open Go.Value renaming slice->fq
open _root_.List renaming append_assoc->kE,drop_drop->nI,append_nil->lI,length_append->jX,cons_append->rM
open Go.RowKit.Below renaming refl->aF
open Go.ByteArray renaming toList_eq->bC
open Go.RowKit
theorem vT {T:List Nd}:∀(n at_:Nat) (ks rest:List Nd),T.drop at_=ks++rest->bI ks->Fo n ks->(aZ T n at_).length=n
 |0,_,_,_,_,_,_=>rfl
 |n+1,at_,ks,rest,hd,hok,hf=>by
  obtain ⟨ts,rs,rfl,h1,h2⟩:=hf.first;rw [kE] at hd;have hlt:at_<T.length:=mH hd h1.pos;have h3:=jL hd (iB hok) h1;unfold aZ;rw [if_pos hlt,List.length_cons,h3,vT n (at_+ts.length) rs rest (iM hd) (iY hok) h2]
theorem u7 {x y:Nd} {xt yt:List Nd} (h1:Fo 1 (x::xt)) (h2:Fo 1 (y::yt)) (hs:x.s=y.s) (h0:x.k=0\/y.k=0):met 1 (x::xt) (y::yt)=some (if y.k=0 then x::xt else y::yt):=by
 have e1:nk (x::xt)=x::xt:=by have:=lV h1 [];rwa [lI] at this
 have e2:nk (y::yt)=y::yt:=by have:=lV h2 [];rwa [lI] at this
 rw [jJ,if_neg (by simp [hs]),if_pos h0,jk,e1,e2];simp
theorem pW {x y:Nd} {xt yt:List Nd} (hs:x.s=y.s) (h0:¬(x.k=0\/y.k=0)) (hk:x.k=y.k) (hn:x.n=y.n):met 1 (x::xt) (y::yt)=(met (manyN x) xt yt).map fun r=>x::r:=by
 rw [jJ,if_neg (by simp [hs]),if_neg h0,if_neg (by simp [hk,hn])];rfl
theorem Fp {x y:Nd} {xt yt:List Nd} (hs:x.s=y.s) (h0:¬(x.k=0\/y.k=0)) (hk:x.k≠y.k\/x.n≠y.n):met 1 (x::xt) (y::yt)=none:=by
 rw [jJ,if_neg (by simp [hs]),if_neg h0,if_pos hk]
theorem Fq {n:Nat} {x y:Nd} {xt yt:List Nd} (hs:x.s≠y.s):met (n+1) (x::xt) (y::yt)=none:=by rw [jJ,if_pos hs]
theorem pX {n:Nat} {t u fs gs:List Nd} (h1:Fo 1 t) (h2:Fo 1 u):met (n+1) (t++fs) (u++gs)=(met 1 t u).bind fun a=>(met n fs gs).map fun b=>a++b:=by
 rw [Nat.add_comm];exact xI t.length 1 n t u fs gs (Nat.le_refl _) h1 h2
theorem Fo.kids {x:Nd} {xt:List Nd} (h:Fo 1 (x::xt)):Fo (manyN x) xt:=by
 obtain ⟨ks,rs,rfl,h1,h2⟩:=h.za;rw [h2.jy,lI];exact h1
theorem ac9 {a b:ByteArray} (h:a≠b):(a.toList !=b.toList)=true:=by
 rw [bne_iff_ne];intro e;apply h;rw [bC,bC] at e
 cases a;cases b;simp only at e
 congr
 exact Array.toList_inj.1 e
structure Ovr (K:FuncId) (caps:Array Value) (a b:List Nd) (A B:Option Addr) (base:Nat) (St:(Nat->Prop)->List Nd->Nat->Nat->World->Prop):Prop where
 eg:∀args w,(callFunc K args).run Tryz.prog w= .ok (.enter K args) w
 low:∀Y M i k w,St Y M i k w->∀q,Y q->base<=q/\q<w.heap.size
 later:∀Y M i k w w',St Y M i k w->Below w.heap.size w w'->St Y M i k w'
 node:∀Y M i k x w,St Y M i k w->a[i]?=some x->St Y (M++[x]) (i+1) (k+1) w
 dyn:∀Y M i k ts us r s w,a.drop i=ts++r->b.drop k=us++s->bI ts->bI us->Fo 1 ts->Fo 1 us->((aQ ts).k=0\/(aQ us).k=0)->bO w base A a->bO w base B b->base<=w.heap.size->St Y M i k w->
  Calls Tryz.prog K (#[.int .i64 i,.int .i64 k]++caps) w fun e w'=>e= .returned (.bool true)/\Fr Y w w'/\∃Y',St Y' (M++if (aQ us).k=0 then ts else us) (i+ts.length) (k+us.length) w'/\∀q,Y' q->Y q\/w.heap.size<=q
theorem SL (w:World) (u v:Array Value) (T:TypeId):((w.alloc (.cells u T)).alloc (.cells v T)).drew.heap[w.heap.size]?=some (.cells u T (0,0))/\((w.alloc (.cells u T)).alloc (.cells v T)).drew.heap[w.heap.size+1]?=some (.cells v T (0,0))/\Below w.heap.size w ((w.alloc (.cells u T)).alloc (.cells v T)).drew/\((w.alloc (.cells u T)).alloc (.cells v T)).drew.heap.size=w.heap.size+2:=by
 have h1:=heap_alloc_new w (.cells u T);have h2:=heap_alloc_new (w.alloc (.cells u T)) (.cells v T);rw [World.size_alloc] at h2;have h3:=Below.heap_alloc (w.alloc (.cells u T)) (.cells v T) w.heap.size (by simp);exact ⟨h3.trans h1,h2,(aj (aj (aF _ _) _) _).drew,by show ((w.alloc (.cells u T)).alloc (.cells v T)).heap.size=_;simp⟩
theorem share {T G:Prop} (h:Hid T->G) (t:T):G:=h (aD t)
def Fu (St:(Nat->Prop)->List Nd->Nat->Nat->World->Prop) (Y:Nat->Prop) (M:List Nd) (i k:Nat) (ts us:List Nd) (w:World) (e:Ending) (w':World):Prop:=
 Fr Y w w'/\((∃zs Y',met 1 ts us=some zs/\e= .returned (.tuple #[.int .i64 ((i+ts.length:Nat):Int),.int .i64 ((k+us.length:Nat):Int),.bool true])/\St Y' (M++zs) (i+ts.length) (k+us.length) w'/\∀k,Y' k->Y k\/w.heap.size<=k)\/
  (met 1 ts us=none/\e= .returned (.tuple #[.int .i64 0,.int .i64 0,.bool false])))
structure OvI (a b:List Nd) (St:(Nat->Prop)->List Nd->Nat->Nat->World->Prop) (Y:Nat->Prop) (M:List Nd) (x:Nd) (xt yt r s:List Nd) (i k:Nat) (w1:World) (j i' k':Nat) (fs gs Mj:List Nd) (Yj:Nat->Prop) (wr:World):Prop where
 da:a.drop i'=fs++r
 db:b.drop k'=gs++s
 oa:bI fs
 ob:bI gs
 fa:Fo (manyN x-j) fs
 fb:Fo (manyN x-j) gs
 la:i'+fs.length=i+1+xt.length
 lb:k'+gs.length=k+1+yt.length
 met:met (manyN x) xt yt=(met (manyN x-j) fs gs).map fun z=>Mj++z
 st:St Yj (M++x::Mj) i' k' wr
 yl:∀q,Yj q->Y q\/w1.heap.size<=q
 fr:Fr Y w1 wr
 lf:fs.length<=xt.length
theorem JD (K:FuncId) (caps:Array Value) (a b:List Nd) (A B:Option Addr) (c d base:Nat) (St:(Nat->Prop)->List Nd->Nat->Nat->World->Prop) (hO:Ovr K caps a b A B base St) (hla:a.length<=1000000000) (hlb:b.length<=1000000000):
  ∀(f:Nat) (ts us r s M:List Nd) (i k:Nat) (Y:Nat->Prop) (w:World),ts.length<=f->a.drop i=ts++r->b.drop k=us++s->bI ts->bI us->Fo 1 ts->Fo 1 us->(aQ ts).s=(aQ us).s->bO w base A a->bO w base B b->base<=w.heap.size->St Y M i k w->
   Calls Tryz.prog 139 #[.agg #[.slice A a.length c,.slice B b.length d,.func (.func K) #[] caps],.int .i64 i,.int .i64 k] w (Fu St Y M i k ts us w):=by
 intro f
 induction f with
 |zero=>
  intro ts us r s M i k Y w hf _ _ _ _ h1
  exact absurd h1.pos (by omega)
 |succ f ih=>
  intro ts us r s M i k Y w hf hda hdb hoa WK h1 h2 hs hA hB hbw hSt;rcases ts with _|⟨x,xt⟩
  ·exact absurd h1.pos (by simp)
  rcases us with _|⟨y,yt⟩
  ·exact absurd h2.pos (by simp)
  have hx:a[i]?=some x:=kH hda;have hy:b[k]?=some y:=kH hdb;have hil:=aU hx;have hkl:=aU hy;have H:=aD (Cj hda (Cj hdb (Cj hoa (Cj WK (Cj h1 (Cj h2 (Cj hs (Cj hSt (Cj hA hB)))))))));have HX:=aD (Cj hx hy);obtain ⟨w1,hw1⟩:∃w1,w1=w.alloc (.cells #[.slice A a.length c,.slice B b.length d,.func (.func K) #[] caps] 148):=⟨_,rfl⟩;have ND:Below w.heap.size w w1:=by rw [hw1];exact aj (aF _ _) _
  have hs1:w1.heap.size=w.heap.size+1:=by rw [hw1];simp
  have hblk:w1.heap[w.heap.size]?=some (.cells #[.slice A a.length c,.slice B b.length d,.func (.func K) #[] caps] 148 (0,0)):=by rw [hw1];exact heap_alloc_new _ _
  have p0:w1.cell? ⟨w.heap.size,0,none⟩=some (.slice A a.length c):=by simp [Ck,hblk]
  have p1:w1.cell? ⟨w.heap.size,1,none⟩=some (.slice B b.length d):=by simp [Ck,hblk]
  have p2:w1.cell? ⟨w.heap.size,2,none⟩=some (.func (.func K) #[] caps):=by simp [Ck,hblk]
  have hA1:=hA.below (ND.mono hbw);have hB1:=hB.below (ND.mono hbw);have H1:=aD (Cj hblk (Cj (hO.later _ _ _ _ _ _ hSt ND) (Cj hA1 (Cj hB1 (Cj ND hs1)))));obtain ⟨b1,o1,eA,hb1,c10,c11,c12⟩:=hA1.at_ hx;obtain ⟨b2,o2,eB,hb2,c20,c21,IU⟩:=hB1.at_ hy;have q1:b1<w1.heap.size:=by omega
  have q2:b2<w1.heap.size:=by omega
  have q3:b1<w1.heap.size+1:=by omega
  have q4:b2<w1.heap.size+1:=by omega
  have q5:w.heap.size<w1.heap.size:=by omega
  have q6:w.heap.size<w1.heap.size+1:=by omega
  subst eA eB;have IH:=aD ih;clear ih hda hdb hoa WK h1 h2 hs hSt hA hB hx hy hA1 hB1 hblk ND hs1
  have HV:Hid (∀v,Below w1.heap.size w1 v->bO v v.heap.size (some ⟨b1,o1,none⟩) a/\bO v v.heap.size (some ⟨b2,o2,none⟩) b/\bO v base (some ⟨b1,o1,none⟩) a/\bO v base (some ⟨b2,o2,none⟩) b/\base<=v.heap.size/\St Y M i k v/\v.heap[w.heap.size]?=some (.cells #[.slice (some ⟨b1,o1,none⟩) a.length c,.slice (some ⟨b2,o2,none⟩) b.length d,.func (.func K) #[] caps] 148 (0,0))/\Below w.heap.size w v):=aD fun v hv=>by
   have hbv:base<=w1.heap.size:=by omega
   have k1:=H1.out.2.2.1.below (hv.mono hbv);have k2:=H1.out.2.2.2.1.below (hv.mono hbv);have hsz:=hv.size;exact ⟨k1.more (by omega),k2.more (by omega),k1,k2,by omega,hO.later _ _ _ _ _ _ H1.out.2.1 hv,(hv.block _ q5).trans H1.out.1,H1.out.2.2.2.2.1.trans (hv.mono H1.out.2.2.2.2.1.size)⟩
  go_enter Tryz.func139,Tryz.ntmps139;go_upto_region 1 with fail
  rw [<-hw1];clear hw1;apply share
  case h=>
   intro HT;go_region
   ·obtain ⟨w2,hw2⟩:∃w2,w2=((w1.alloc (.cells #[.int .i64 x.k,.string x.s,.int .i64 x.n] 49)).alloc (.cells #[.int .i64 y.k,.string y.s,.int .i64 y.n] 49)).drew:=⟨_,rfl⟩
    obtain ⟨n9,h9⟩:∃n,n=w1.heap.size:=⟨_,rfl⟩;obtain ⟨n10,h10⟩:∃n,n=w1.heap.size+1:=⟨_,rfl⟩
    have F:Hid (w2.heap[n9]?=some (.cells #[.int .i64 x.k,.string x.s,.int .i64 x.n] 49 (0,0))/\w2.heap[n10]?=some (.cells #[.int .i64 y.k,.string y.s,.int .i64 y.n] 49 (0,0))/\Below w1.heap.size w1 w2):=aD (by
     obtain ⟨e1,e2,e3,_⟩:=SL w1 #[.int .i64 x.k,.string x.s,.int .i64 x.n] #[.int .i64 y.k,.string y.s,.int .i64 y.n] 49;rw [hw2,h9,h10];exact ⟨e1,e2,e3⟩)
    rw [<-hw2,<-h10,<-h9];clear hw2 h9 h10;revert F;revert w2 n9 n10;exact HT.out
   ·obtain ⟨w2,hw2⟩:∃w2,w2=((w1.alloc (.cells #[.int .i64 y.k,.string y.s,.int .i64 y.n] 49)).alloc (.cells #[.int .i64 x.k,.string x.s,.int .i64 x.n] 49)).drew:=⟨_,rfl⟩
    obtain ⟨n9,h9⟩:∃n,n=w1.heap.size+1:=⟨_,rfl⟩;obtain ⟨n10,h10⟩:∃n,n=w1.heap.size:=⟨_,rfl⟩
    have F:Hid (w2.heap[n9]?=some (.cells #[.int .i64 x.k,.string x.s,.int .i64 x.n] 49 (0,0))/\w2.heap[n10]?=some (.cells #[.int .i64 y.k,.string y.s,.int .i64 y.n] 49 (0,0))/\Below w1.heap.size w1 w2):=aD (by
     obtain ⟨e1,e2,e3,_⟩:=SL w1 #[.int .i64 y.k,.string y.s,.int .i64 y.n] #[.int .i64 x.k,.string x.s,.int .i64 x.n] 49;rw [hw2,h9,h10];exact ⟨e2,e1,e3⟩)
    rw [<-hw2,<-h9,<-h10];clear hw2 h9 h10;revert F;revert w2 n9 n10;exact HT.out
  case t=>
   intro w2 n9 n10 F;have g9:=F.out.1;have g10:=F.out.2.1;have Uf:w2.cell? ⟨n9,0,none⟩=some (.int .i64 x.k):=by simp [Ck,g9]
   have c91:w2.cell? ⟨n9,1,none⟩=some (.string x.s):=by simp [Ck,g9]
   have Ug:w2.cell? ⟨n9,2,none⟩=some (.int .i64 x.n):=by simp [Ck,g9]
   have Uh:w2.cell? ⟨n10,0,none⟩=some (.int .i64 y.k):=by simp [Ck,g10]
   have Ui:w2.cell? ⟨n10,1,none⟩=some (.string y.s):=by simp [Ck,g10]
   have Uj:w2.cell? ⟨n10,2,none⟩=some (.int .i64 y.n):=by simp [Ck,g10]
   have e0:=(F.out.2.2.cell (p:=⟨w.heap.size,0,none⟩) q5).trans p0;have e1:=(F.out.2.2.cell (p:=⟨w.heap.size,1,none⟩) q5).trans p1;have e2:=(F.out.2.2.cell (p:=⟨w.heap.size,2,none⟩) q5).trans p2;clear c10 c11 c12 c20 c21 IU p0 p1 p2 g9 g10;by_cases h0:x.k=0\/y.k=0
   ·have hcond:(x.k=0)\/(x.k≠0/\y.k=0):=by omega
    have Uk:=aD h0;rcases hcond with hx0|⟨hx0,hy0⟩
    all_goals
     go_wp2_with fail;clear e0 e1 e2 Uf c91 Ug Uh Ui Uj;obtain ⟨SS,hSS⟩:∃SS:World->Prop,SS=fun v=>v.cell? ⟨w.heap.size,0,none⟩=some (.slice (some ⟨b1,o1,none⟩) a.length c)/\v.cell? ⟨w.heap.size,1,none⟩=some (.slice (some ⟨b2,o2,none⟩) b.length d)/\v.cell? ⟨w.heap.size,2,none⟩=some (.func (.func K) #[] caps):=⟨_,rfl⟩
     have HS:Hid (∀v,v.heap[w.heap.size]?=some (.cells #[.slice (some ⟨b1,o1,none⟩) a.length c,.slice (some ⟨b2,o2,none⟩) b.length d,.func (.func K) #[] caps] 148 (0,0))->SS v):=aD fun v hv=>by
      rw [hSS];exact ⟨by simp [Ck,hv],by simp [Ck,hv],by simp [Ck,hv]⟩
     obtain ⟨wd,hwd⟩:∃wd,wd=w2.drew:=⟨_,rfl⟩;have bM:Hid (Below w1.heap.size w1 wd):=aD (by rw [hwd];exact F.out.2.2.drew);have hsd:SS wd:=HS.out wd (HV.out wd bM.out).2.2.2.2.2.2.1;have heg:=hO.eg;refine aI (S:=SS) [15] (by kernel_rfl) (by rw [<-hwd];exact hsd) (fun hHeld=>?_);rw [<-hwd] at hHeld ⊢;clear hwd;refine aL 0 [1,3,7,12,13,14,15] (some 31) rfl rfl ?_;refine aL 1 [3,7,12,13,14,15] (some 32) rfl rfl ?_;refine aL 2 [3,7,12,13,14,15] (some 33) rfl rfl ?_;refine aL 4 [5,7,12,13,14,15] (some 35) rfl rfl ?_;refine aL 5 [7,12,13,14,15] (some 36) rfl rfl ?_;refine aL 6 [7,12,13,14,15] (some 37) rfl rfl ?_;refine aL 8 [9,12,13,14,15] (some 39) rfl rfl ?_;refine aL 9 [12,13,14,15] (some 40) rfl rfl ?_;refine aL 10 [12,13,14,15] (some 41) rfl rfl ?_;refine aL 11 [12,13,14,15] (some 42) rfl rfl ?_;refine bD 3 (some 34) rfl rfl (by kernel_rfl) (by rfl) (by go_simp) (pV _ c a (x::xt) r i wd (HV.out wd bM.out).1 hla H.out.1 H.out.2.2.1 H.out.2.2.2.2.1) ?_;rintro e w3 ⟨rfl,hb3⟩;have HB3:Hid (Below w1.heap.size w1 w3):=aD (au bM.out hb3);have hs3:SS w3:=HS.out w3 (HV.out w3 HB3.out).2.2.2.2.2.2.1;clear hb3;refine ⟨_,rfl,hs3,?_⟩;refine aC ?_;refine bD 7 (some 38) rfl rfl (by kernel_rfl) (by rfl) (by go_simp) (pV _ d b (y::yt) s k w3 (HV.out w3 HB3.out).2.1 hlb H.out.2.1 H.out.2.2.2.1 H.out.2.2.2.2.2.1) ?_;rintro e w4 ⟨rfl,hb4⟩;have nY:Hid (Below w1.heap.size w1 w4):=aD (au HB3.out hb4);have hs4:SS w4:=HS.out w4 (HV.out w4 nY.out).2.2.2.2.2.2.1;clear hb4;refine ⟨_,rfl,hs4,?_⟩;refine aC ?_
     have Hdy:=aD (hO.dyn Y M i k (x::xt) (y::yt) r s w4 H.out.1 H.out.2.1 H.out.2.2.1 H.out.2.2.2.1 H.out.2.2.2.2.1 H.out.2.2.2.2.2.1 Uk.out (HV.out w4 nY.out).2.2.1 (HV.out w4 nY.out).2.2.2.1 (HV.out w4 nY.out).2.2.2.2.1 (HV.out w4 nY.out).2.2.2.2.2.1);refine bD 12 (some 43) rfl rfl (by kernel_rfl) (by rfl) (by go_simp) Hdy.out ?_;rintro e w5 ⟨rfl,tJ,Y',abF,hY'⟩;have h55:w5.heap[w.heap.size]?=some (.cells #[.slice (some ⟨b1,o1,none⟩) a.length c,.slice (some ⟨b2,o2,none⟩) b.length d,.func (.func K) #[] caps] 148 (0,0)):=(tJ.block _ (by have:=nY.out.size;omega) fun e=>by have:=(hO.low _ _ _ _ _ H.out.2.2.2.2.2.2.2.1 _ e).2;omega).trans (HV.out w4 nY.out).2.2.2.2.2.2.1;have hs5:SS w5:=HS.out w5 h55
     have HP:Hid (Fu St Y M i k (x::xt) (y::yt) w (.returned (.tuple #[.int .i64 ((i+(x::xt).length:Nat):Int),.int .i64 ((k+(y::yt).length:Nat):Int),.bool true])) w5):=aD (by
      have abG:=(HV.out w4 nY.out).2.2.2.2.2.2.2;refine ⟨(Fr.below abG).trans tJ,.inl ⟨_,Y',u7 H.out.2.2.2.2.1 H.out.2.2.2.2.2.1 H.out.2.2.2.2.2.2.1 Uk.out,rfl,abF,fun q hq=>?_⟩⟩;rcases hY' q hq with h|h
      ·exact .inl h
      ·exact .inr (Nat.le_trans abG.size h))
     clear tJ abF hY' h55;refine ⟨_,rfl,hs5,?_⟩;refine aC ?_;refine aL 13 [14,15] (some 6) rfl rfl ?_;refine aL 14 [15] (some 7) rfl rfl ?_;refine bB 15 (some 8) (v:=.bool true) (w':=w5) rfl rfl (by kernel_rfl) (by rfl) (by go_simp) (zL (by kernel_rfl)) ?_;refine aC ?_;refine bG (by kernel_rfl) ?_ _;go_wp2_with fail;go_ret3;exact HP.out
   ·have hx0:¬x.k=0:=fun e=>h0 (.inl e)
    have hy0:¬y.k=0:=fun e=>h0 (.inr e);have Uk:=aD h0;have hxy:x.s=y.s:=H.out.2.2.2.2.2.2.1;have hbe:x.s.toList=y.s.toList:=by rw [hxy]
    have Hk:=aD (zY _ c a xt r x i w2 (HV.out w2 F.out.2.2).1 hla HX.out.1 (H.out.2.2.1 x (by simp)) (by rw [<-nI,H.out.1];rfl) (fun z hz=>H.out.2.2.1 z (by simp [hz])) (Fo.kids H.out.2.2.2.2.1))
    have HKL:Hid ((dw (aZ a (manyN x) (i+1))).length=manyN x):=aD (by
     rw [nK];exact vT _ _ xt r (by rw [<-nI,H.out.1];rfl) (fun z hz=>H.out.2.2.1 z (by simp [hz])) (Fo.kids H.out.2.2.2.2.1))
    by_cases hbad:x.k≠y.k\/x.n≠y.n
    ·have Hm:=aD (Fp (xt:=xt) (yt:=yt) hxy h0 hbad)
     have bx:(x.k==0)=false:=by simp [hx0]
     have bY:(y.k==0)=false:=by simp [hy0]
     have hcase:((x.k !=y.k)=true)\/((x.k !=y.k)=false/\(x.n !=y.n)=true):=by
      by_cases e:x.k=y.k
      ·refine .inr ⟨by simp [e],?_⟩
       have:x.n≠y.n:=by omega
       simp [this]
      ·exact .inl (by simp [e])
     clear h0 hbad hx0 hy0 hxy;rcases hcase with hk|⟨hk,hn⟩
     all_goals
      go_wp2_with fail;refine Hk.out.mono ?_;rintro e w3 ⟨A',cap',rfl,_,hb3⟩;have HB3:Hid (Below w.heap.size w w3):=aD (au (HV.out w2 F.out.2.2).2.2.2.2.2.2.2 hb3);have f90:=(hb3.cell (p:=⟨n9,0,none⟩) (Db _ _ Uf)).trans Uf;have f91:=(hb3.cell (p:=⟨n9,1,none⟩) (Db _ _ c91)).trans c91;have f92:=(hb3.cell (p:=⟨n9,2,none⟩) (Db _ _ Ug)).trans Ug;have f80:=(hb3.cell (p:=⟨n10,0,none⟩) (Db _ _ Uh)).trans Uh;have f81:=(hb3.cell (p:=⟨n10,1,none⟩) (Db _ _ Ui)).trans Ui;have f82:=(hb3.cell (p:=⟨n10,2,none⟩) (Db _ _ Uj)).trans Uj;clear hb3;go_wp2_with fail;go_ret3;exact ⟨Fr.below HB3.out,.inr ⟨Hm.out,rfl⟩⟩
    ·have bx:(x.k==0)=false:=by simp [hx0]
     have bY:(y.k==0)=false:=by simp [hy0]
     have hk:(x.k !=y.k)=false:=by simp;omega
     have hn:(x.n !=y.n)=false:=by simp;omega
     have NG:Hid (x.k=y.k/\x.n=y.n):=aD ⟨by omega,by omega⟩;clear hbad h0 hx0 hy0 hxy;go_wp2_with fail;refine Hk.out.mono ?_;rintro e w3 ⟨A',cap',rfl,_,hb3⟩;rw [HKL.out];have HB3:Hid (Below w1.heap.size w1 w3):=aD (au F.out.2.2 hb3);have f90:=(hb3.cell (p:=⟨n9,0,none⟩) (Db _ _ Uf)).trans Uf;have f91:=(hb3.cell (p:=⟨n9,1,none⟩) (Db _ _ c91)).trans c91;have f92:=(hb3.cell (p:=⟨n9,2,none⟩) (Db _ _ Ug)).trans Ug;have f80:=(hb3.cell (p:=⟨n10,0,none⟩) (Db _ _ Uh)).trans Uh;have f81:=(hb3.cell (p:=⟨n10,1,none⟩) (Db _ _ Ui)).trans Ui;have f82:=(hb3.cell (p:=⟨n10,2,none⟩) (Db _ _ Uj)).trans Uj;clear hb3 e0 e1 e2 Uf c91 Ug Uh Ui Uj;go_upto_region 9 with fail
     clear f90 f91 f92 f80 f81 f82;have HL:=aD (hO.low _ _ _ _ _ H.out.2.2.2.2.2.2.2.1);go_loopw [1,2,73] (fun s1 s2 s73 wr=>∃(j i' k':Nat) (fs gs Mj:List Nd) (Yj:Nat->Prop),j<=manyN x/\s1= .int .i64 i'/\s2= .int .i64 k'/\s73= .int .i64 j/\Hid (OvI a b St Y M x xt yt r s i k w1 j i' k' fs gs Mj Yj wr)) (fun _ _ s73 _=>manyN x-(Lib.intOf s73).toNat)
     case atStart=>
      refine ⟨0,i+1,k+1,xt,yt,[],Y,Nat.zero_le _,by go_num,by go_num,rfl,aD ⟨by rw [<-nI,H.out.1];rfl,by rw [<-nI,H.out.2.1];rfl,fun z hz=>H.out.2.2.1 z (by simp [hz]),fun z hz=>H.out.2.2.2.1 z (by simp [hz]),Fo.kids H.out.2.2.2.2.1,?_,rfl,rfl,?_,hO.node Y M i k x w3 (HV.out w3 HB3.out).2.2.2.2.2.1 HX.out.1,fun q hq=>.inl hq,Fr.below HB3.out,Nat.le_refl _⟩⟩
      ·have:=Fo.kids H.out.2.2.2.2.2.1
       unfold manyN at this ⊢;rw [Nat.sub_zero,NG.out.1,NG.out.2];exact this
      ·simp
     case round=>
      obtain ⟨j,i',k',fs,gs,Mj,Yj,hj,rfl,rfl,rfl,HI⟩:=hrel;have hBw:Below base w1 wr:=⟨HI.out.fr.os,HI.out.fr.tape,HI.out.fr.output,HI.out.fr.size,fun q hq=>HI.out.fr.block q (by omega) fun e=>by have:=(HL.out q e).1;omega⟩;have Bd:=aD hBw;have hTA:=H1.out.2.2.1.below hBw;have Qf:=H1.out.2.2.2.1.below hBw;have hbx:wr.heap[w.heap.size]?=some (.cells #[.slice (some ⟨b1,o1,none⟩) a.length c,.slice (some ⟨b2,o2,none⟩) b.length d,.func (.func K) #[] caps] 148 (0,0)):=(HI.out.fr.block _ q5 fun e=>by have:=(HL.out _ e).2;omega).trans H1.out.1;have HT:=aD (Cj hTA Qf);have HFw:Hid (Fr Y w wr):=aD ((Fr.below H1.out.2.2.2.2.1).trans HI.out.fr);have SK:manyN x<=50:=rW (H.out.2.2.1 x (by simp));by_cases hlt:j<manyN x
      ·obtain ⟨m',hm'⟩:∃m',manyN x-j=m'+1:=⟨manyN x-j-1,by omega⟩
       have fa:=HI.out.fa;have fb:=HI.out.fb;rw [hm'] at fa fb;obtain ⟨t1,fs',rfl,WM,ffs⟩:=fa.first;obtain ⟨u1,gs',rfl,WO,fgs⟩:=fb.first
       match t1,u1,WM,WO,WM.pos,WO.pos with
       |x1::t1,y1::u1,WM,WO,_,_=>
        have ha1:a[i']?=some x1:=kH HI.out.da;have hb1':b[k']?=some y1:=kH HI.out.db;have ant:=aU ha1;have hkl':=aU hb1';obtain ⟨b3,o3,eA,hb3,c30,c31,c32⟩:=hTA.at_ ha1;obtain ⟨b4,o4,eB,hb4,c40,c41,c42⟩:=Qf.at_ hb1';injection eA with eA
        injection eA with eA1 eA2 _
        subst eA1 eA2;injection eB with eB
        injection eB with eB1 eB2 _
        subst eB1 eB2;have e0:∀n,(wr.drewN n).cell? ⟨w.heap.size,0,none⟩=some (.slice (some ⟨b1,o1,none⟩) a.length c):=fun n=>by show wr.cell? _=_;simp [Ck,hbx]
        have e1:∀n,(wr.drewN n).cell? ⟨w.heap.size,1,none⟩=some (.slice (some ⟨b2,o2,none⟩) b.length d):=fun n=>by show wr.cell? _=_;simp [Ck,hbx]
        have e2:∀n,(wr.drewN n).cell? ⟨w.heap.size,2,none⟩=some (.func (.func K) #[] caps):=fun n=>by show wr.cell? _=_;simp [Ck,hbx]
        have cx:∀n,(wr.drewN n).cell? ⟨b1,o1+i'*3+1,none⟩=some (.string x1.s):=fun _=>c31;have cy:∀n,(wr.drewN n).cell? ⟨b2,o2+k'*3+1,none⟩=some (.string y1.s):=fun _=>c41;have HG:=aD (Cj WM (Cj WO (Cj ffs (Cj fgs (Cj hm' hbx)))));clear c30 c31 c32 c40 c41 c42 WM WO ffs fgs fa fb hm' hbx hTA Qf hBw ha1 hb1';by_cases hl:x1.s=y1.s
        ·have hle:(!x1.s.toList==y1.s.toList)=false:=by rw [hl];simp
         have HLs:=aD hl;clear hl;go_upto_region 10 with fail
         go_quiet (fail);obtain ⟨w5,tK⟩:∃w5,w5=wr.drewN nq:=⟨_,rfl⟩;rw [<-tK];have g0:w5.cell? ⟨w.heap.size,0,none⟩=some (.slice (some ⟨b1,o1,none⟩) a.length c):=by rw [tK];exact e0 _
         have g1:w5.cell? ⟨w.heap.size,1,none⟩=some (.slice (some ⟨b2,o2,none⟩) b.length d):=by rw [tK];exact e1 _
         have g2:w5.cell? ⟨w.heap.size,2,none⟩=some (.func (.func K) #[] caps):=by rw [tK];show wr.cell? _=_;simp [Ck,HG.out.2.2.2.2.2]
         have Ul:Hid (Below wr.heap.size wr w5/\w5.heap.size=wr.heap.size):=aD (by rw [tK];exact ⟨below_drewN (aF _ _) _,rfl⟩);clear tK e0 e1 e2 cx cy;have WQ:base<=wr.heap.size:=by have:=Bd.out.size;omega
         have ah4:=aD (IH.out (x1::t1) (y1::u1) (fs'++r) (gs'++s) (M++x::Mj) i' k' Yj w5 (by have:=HI.out.lf;simp at this hf ⊢;omega) (by rw [HI.out.da,kE]) (by rw [HI.out.db,kE]) (iB HI.out.oa) (iB HI.out.ob) HG.out.1 HG.out.2.1 HLs.out (HT.out.1.below (Ul.out.1.mono WQ)) (HT.out.2.below (Ul.out.1.mono WQ)) (by rw [Ul.out.2];exact WQ) (hO.later _ _ _ _ _ _ HI.out.st Ul.out.1));go_wp2_with fail;refine ah4.out.mono ?_;rintro e w6 ⟨gM,h6⟩;have NH:Hid (Fr Y w1 w6):=aD ((HI.out.fr.trans (Fr.below Ul.out.1)).new gM HI.out.yl);rcases h6 with ⟨zs,Y6,WR,rfl,abH,jR⟩|⟨WR,rfl⟩
         ·have H6:=aD (Cj WR (Cj abH jR))
          clear WR abH jR gM;go_wp2_with fail;go_roundw
          case rel=>
           refine ⟨j+1,i'+(x1::t1).length,k'+(y1::u1).length,fs',gs',Mj++zs,Y6,hlt,rfl,rfl,by go_num,aD ⟨iM (by rw [HI.out.da,kE]),iM (by rw [HI.out.db,kE]),iY HI.out.oa,iY HI.out.ob,?_,?_,?_,?_,?_,?_,fun q hq=>?_,NH.out,?_⟩⟩
           ·rw [show manyN x-(j+1)=m' by have:=HG.out.2.2.2.2.1;omega];exact HG.out.2.2.1
           ·rw [show manyN x-(j+1)=m' by have:=HG.out.2.2.2.2.1;omega];exact HG.out.2.2.2.1
           ·have:=HI.out.la;rw [jX] at this;omega
           ·have:=HI.out.lb;rw [jX] at this;omega
           ·rw [HI.out.met,HG.out.2.2.2.2.1,show manyN x-(j+1)=m' by have:=HG.out.2.2.2.2.1;omega,pX HG.out.1 HG.out.2.1,H6.out.1]
            cases met m' fs' gs'<;>simp
           ·have:=H6.out.2.1
            rwa [kE,rM] at this
           ·rcases H6.out.2.2 q hq with h|h
            ·exact HI.out.yl q h
            ·exact .inr (by have:=HI.out.fr.size;have:=Ul.out.2;omega)
           ·have:=HI.out.lf;rw [jX] at this;omega
          case measure=>
           simp [Lib.intOf];omega
         ·have H6:=aD WR
          clear WR gM;go_wp2_with fail;go_ret3;refine ⟨(Fr.below H1.out.2.2.2.2.1).trans NH.out,.inr ⟨?_,rfl⟩⟩;rw [pW (x:=x) (y:=y) (xt:=xt) (yt:=yt) H.out.2.2.2.2.2.2.1 Uk.out NG.out.1 NG.out.2,HI.out.met,HG.out.2.2.2.2.1,pX HG.out.1 HG.out.2.1,H6.out];rfl
        ·have hle:(!x1.s.toList==y1.s.toList)=true:=ac9 hl
         have HLs:=aD hl;clear hl;go_upto_region 10 with fail
         go_quiet (fail);go_wp2_with fail;go_ret3;refine ⟨HFw.out.drewN _,.inr ⟨?_,rfl⟩⟩;rw [pW (x:=x) (y:=y) (xt:=xt) (yt:=yt) H.out.2.2.2.2.2.2.1 Uk.out NG.out.1 NG.out.2,HI.out.met,HG.out.2.2.2.2.1,rM,rM,Fq HLs.out];rfl
      ·have hjm:manyN x-j=0:=by omega
       have hfs:fs=[]:=by have:=HI.out.fa;rw [hjm] at this;exact this.jy
       have hgs:gs=[]:=by have:=HI.out.fb;rw [hjm] at this;exact this.jy
       subst hfs hgs;have abI:=HI.out.la;have abJ:=HI.out.lb;simp only [List.length_nil,Nat.add_zero] at abI abJ
       have HP:Hid (Fu St Y M i k (x::xt) (y::yt) w (.returned (.tuple #[.int .i64 (i':Int),.int .i64 (k':Int),.bool true])) wr):=aD (by
        refine ⟨HFw.out,.inl ⟨x::Mj,Yj,?_,?_,?_,fun q hq=>?_⟩⟩
        ·rw [pW (x:=x) (y:=y) (xt:=xt) (yt:=yt) H.out.2.2.2.2.2.2.1 Uk.out NG.out.1 NG.out.2,HI.out.met,hjm,jk]
         simp
        ·rw [show i+(x::xt).length=i' by simp;omega,show k+(y::yt).length=k' by simp;omega]
        ·rw [show i+(x::xt).length=i' by simp;omega,show k+(y::yt).length=k' by simp;omega]
         exact HI.out.st
        ·rcases HI.out.yl q hq with h|h
         ·exact .inl h
         ·exact .inr (by omega))
       clear hbx hTA Qf hBw abI abJ hjm;go_wp2_with fail;go_ret3;exact HP.out
theorem Qg:∀args w,(callFunc 143 args).run Tryz.prog w= .ok (.enter 143 args) w:=by
 intro args w
 kernel_rfl
theorem Qh (a b:List Nd) (A B:Option Addr) (base:Nat):Ovr 143 #[] a b A B base (fun Y _ _ _ _=>∀q,¬Y q) where
 eg:=Qg
 low:=fun Y M i k w h q hq=>absurd hq (h q)
 later:=fun Y M i k w w' h _=>h
 node:=fun Y M i k x w h _=>h
 dyn:=by
  intro Y M i k ts us r s w _ _ _ _ _ _ _ _ _ _ hY;go_enter Tryz.func143,Tryz.ntmps143;go_wp2_with fail;go_ret;exact ⟨rfl,Fr.refl _ _,Y,hY,fun q hq=>.inl hq⟩
structure Gd (t:List Nd):Prop where
 ok:bI t
 fo:Fo 1 t
 s:(aQ t).s=ByteArray.empty
 len:t.length<=1000000000
theorem Qi (A B:Option Addr) (c d:Nat) (a b:List Nd) (w:World) (ha:bO w w.heap.size A a) (hb:bO w w.heap.size B b) (ga:Gd a) (gb:Gd b):
  Calls Tryz.prog 121 #[.slice A a.length c,.slice B b.length d] w fun e w'=>e= .returned (.bool (jA a b))/\Below w.heap.size w w':=by
 have H:=fun v (hv:Below w.heap.size w v)=>JD 143 #[] a b A B c d w.heap.size _ (Qh a b A B w.heap.size) ga.len gb.len a.length a b [] [] [] 0 0 (fun _=>False) v (Nat.le_refl _) (by simp) (by simp) ga.ok gb.ok ga.fo gb.fo (by rw [ga.s,gb.s]) (ha.below hv) (hb.below hv) hv.size (fun _ h=>h);have H:=aD H;go_enter Tryz.func121,Tryz.ntmps121;go_wp2_with fail;refine (H.out _ (aj (aF _ _) _)).mono ?_;rintro e w2 ⟨hf,h⟩;have hb2:Below w.heap.size w w2:=au (aj (aF _ _) _) (hf.toBelow fun _ h=>h.elim);clear hf;rcases h with ⟨zs,Y',hm,rfl,_,_⟩|⟨hm,rfl⟩
 ·go_wp2_with fail
  go_ret;exact ⟨by rw [jA,hm];rfl,hb2⟩
 ·go_wp2_with fail
  go_ret;exact ⟨by rw [jA,hm];rfl,hb2⟩
theorem heap_set {w:World} {g:Nat} {cs:Array Value} {t:TypeId} (h:w.heap[g]?=some (.cells cs t (0,0))) (i:Nat) (u:Value):(w.setCell ⟨g,i,none⟩ u).heap[g]?=some (.cells (cs.setIfInBounds i u) t (0,0)):=by
 simp only [World.setCell,Array.getElem?_modify,h,if_true,Option.map_some];simp
section
variable {base:Nat} {w w':World} {Y:Nat->Prop}
theorem aB.fr {α:Type} {enc:α->List Value} {e size cap:Nat} {A:Option Addr} {l:List α} (h:aB e size enc w base A cap l) (hf:Fr Y w w') (hY:∀a,A=some a->¬Y a.block):aB e size enc w' base A cap l:=by
 cases A with
 |none=>
  rcases h.2 with ⟨hv,hn⟩|⟨g,cap',cur,hv,_⟩
  ·have hl:l=[]:=List.eq_nil_of_length_eq_zero hn
   subst hl;injection hv with _ _ hc
   subst hc;exact aB.nil
  ·cases hv
 |some a=>
  rcases h.2 with ⟨hv,hn⟩|⟨g,cap',cur,hv,hbg,hg,hr⟩
  ·cases hv
  ·have hlt:g<w.heap.size:=(Array.getElem?_eq_some_iff.1 hg).1
   injection hv with hA _ hcp
   injection hA with hA
   subst hA hcp;exact ⟨h.1,.inr ⟨g,cap,cur,rfl,hbg,(hf.block g hlt (hY _ rfl)).trans hg,hr⟩⟩
theorem aB.lt {α:Type} {e size:Nat} {enc:α->List Value} {A:Option Addr} {cap:Nat} {l:List α} (h:aB e size enc w base A cap l):∀a,A=some a->base<=a.block/\a.block<w.heap.size:=fun a ha=>by
 subst ha;exact aB.block h a.block rfl
end
theorem WS {w:World} {o:Oper} {a:Act} {K:Act->World->Prop} {Q:Exit->Act->World->Prop} (s x:Operand)
  (ho:o.op= .call {callee:=.builtin .append,args:=#[s,x],argTypes:=#[28,28]})
  (base:Nat) {A:Option Addr} {cap:Nat} {l:List Nd} (hs:a.eval s= .slice A l.length cap) (hown:dK w base A cap l) {B:Nat} {A2:Option Addr} {c:Nat} {l2:List Nd} (hx:a.eval x= .slice A2 l2.length c) (hr:bO w B A2 l2)
  (hlen:l.length+l2.length<=1000000000000) (hbase:base<=w.heap.size)
  (h:∀A' cap' w',dK w' base A' cap' (l++l2)->w.grownBy w' ((fq A l.length cap).ownBlock)->
   ((fq A' (l.length+l2.length) cap').ownBlock=(fq A l.length cap).ownBlock\/(fq A' (l.length+l2.length) cap').ownBlock=some w.heap.size)->K (a.put o.dst (.slice A' (l.length+l2.length) cap')) w'):Oper.wp Tryz.prog o a w K Q:=by
 obtain ⟨i0,hi,hz0,hz1,hz2⟩:=info_parts KI;exact vP w jZ Co s x 28 ho base 49 i0 _ 32 Tryz.underlying28 hi hz0 hz1 hz2 rfl (by decide) hs hown hx hr.P8 (by unfold maxLen;omega) (by omega) hbase h
theorem xK {w:World} {o:Oper} {a:Act} {K:Act->World->Prop} {Q:Exit->Act->World->Prop} (s x:Operand)
  (ho:o.op= .call {callee:=.builtin .append,args:=#[s,x],argTypes:=#[28,28]})
  (base:Nat) {A:Option Addr} {cap m n:Nat} {l:List Nd} (hm:l.length=m) (hs:a.eval s= .slice A m cap) (hown:dK w base A cap l) {B:Nat} {A2:Option Addr} {c:Nat} {l2:List Nd} (hn:l2.length=n) (hx:a.eval x= .slice A2 n c) (hr:bO w B A2 l2)
  (hlen:m+n<=1000000000000) (hbase:base<=w.heap.size) (dst:Option Tmp) (hdst:o.dst=dst)
  (h:∀A' cap' w',dK w' base A' cap' (l++l2)->w.grownBy w' ((fq A l.length cap).ownBlock)->
   ((fq A' (l.length+l2.length) cap').ownBlock=(fq A l.length cap).ownBlock\/(fq A' (l.length+l2.length) cap').ownBlock=some w.heap.size)->K (a.put dst (.slice A' (m+n) cap')) w'):Oper.wp Tryz.prog o a w K Q:=by
 subst hm hn hdst;exact WS s x ho base hs hown hx hr hlen hbase h
theorem bO.sub {w:World} {B b o:Nat} {T:List Nd} (h:bO w B (some ⟨b,o,none⟩) T) (i j:Nat):bO w B (some ⟨b,o+i*3,none⟩) ((T.take j).drop i):=fun hne=>by
 have hT:T≠[]:=by rintro rfl;simp at hne
 obtain ⟨b2,o2,e,hb,hr⟩:=h hT;injection e with e
 injection e with e1 e2 _
 subst e1 e2
 have key:∀k x,((T.take j).drop i)[k]?=some x->T[i+k]?=some x:=fun k x hx=>by
  rw [List.getElem?_drop,List.getElem?_take] at hx;split at hx
  ·exact hx
  ·cases hx
 refine ⟨b,o+i*3,rfl,hb,⟨fun k x hx=>?_,fun k x hx=>?_,fun k x hx=>?_⟩⟩
 ·have:=hr.c0 (i+k) x (key k x hx);rw [show o+(i+k)*3=o+i*3+k*3 by omega] at this;exact this
 ·have:=hr.c1 (i+k) x (key k x hx);rw [show o+(i+k)*3=o+i*3+k*3 by omega] at this;exact this
 ·have:=hr.c2 (i+k) x (key k x hx);rw [show o+(i+k)*3=o+i*3+k*3 by omega] at this;exact this
theorem kW {T:List Nd} {i j:Nat} (hj:j<=T.length):((T.take j).drop i).length=j-i:=by simp;omega
end Go.Proofs.YtmjdhfbnmmdjiaaGreat
