/- Laid together by a tool from the texts of this seat: ChQ ChA ChL. Conditions: each theorem's own. -/
import Derived.Test.YtmjdhfbnmmdjiaaGreatH05
import Derived.WalkKit
import Derived.WalkSpells
import Derived.WalkLawsBesides
import Derived.Deep.Draws
import Derived.Deep.Cut
import Derived.Deep.DeepCutAuto
import Derived.Deep.QuietTactic
import Derived.BigQuiet
set_option maxHeartbeats 8000000
set_option maxRecDepth 100000
namespace Go.Proofs.YtmjdhfbnmmdjiaaGreat
open Go.Lib renaming hid->aB
open _root_.And renaming intro->DF
open Go.World renaming cell?->DI,block_lt_of_cell?->FD
open Go.Value renaming slice->gq
open _root_.List renaming append_assoc->kV,drop_drop->oO,append_nil->mO,length_append->lS,cons_append->uK
open Go.RowKit.Below renaming refl->aI
open Go.ByteArray renaming toList_eq->dA
open Go.RowKit
theorem wZ {T:List Nd}:∀(n at_:Nat) (ks rest:List Nd),T.drop at_=ks++rest->bC ks->Fo n ks->(aV T n at_).length=n
 |0,_,_,_,_,_,_=>rfl
 |n+1,at_,ks,rest,hd,hok,hf=>by
  obtain ⟨ts,rs,rfl,h1,h2⟩:=hf.first;rw [kV] at hd;have hlt:at_<T.length:=lC hd h1.pos;have h3:=iY hd (iK hok) h1;unfold aV;rw [if_pos hlt,List.length_cons,h3,wZ n (at_+ts.length) rs rest (iD hd) (je hok) h2]
theorem wE {x y:Nd} {xt yt:List Nd} (h1:Fo 1 (x::xt)) (h2:Fo 1 (y::yt)) (hs:x.s=y.s) (h0:x.k=0\/y.k=0):met 1 (x::xt) (y::yt)=some (if y.k=0 then x::xt else y::yt):=by
 have e1:nP (x::xt)=x::xt:=by have:=mG h1 [];rwa [mO] at this
 have e2:nP (y::yt)=y::yt:=by have:=mG h2 [];rwa [mO] at this
 rw [jy,if_neg (by simp [hs]),if_pos h0,jw,e1,e2];simp
theorem pq {x y:Nd} {xt yt:List Nd} (hs:x.s=y.s) (h0:¬(x.k=0\/y.k=0)) (hk:x.k=y.k) (hn:x.n=y.n):met 1 (x::xt) (y::yt)=(met (manyN x) xt yt).map fun r=>x::r:=by
 rw [jy,if_neg (by simp [hs]),if_neg h0,if_neg (by simp [hk,hn])];rfl
theorem Cx {x y:Nd} {xt yt:List Nd} (hs:x.s=y.s) (h0:¬(x.k=0\/y.k=0)) (hk:x.k≠y.k\/x.n≠y.n):met 1 (x::xt) (y::yt)=none:=by
 rw [jy,if_neg (by simp [hs]),if_neg h0,if_pos hk]
theorem Cy {n:Nat} {x y:Nd} {xt yt:List Nd} (hs:x.s≠y.s):met (n+1) (x::xt) (y::yt)=none:=by rw [jy,if_pos hs]
theorem oL {n:Nat} {t u fs gs:List Nd} (h1:Fo 1 t) (h2:Fo 1 u):met (n+1) (t++fs) (u++gs)=(met 1 t u).bind fun a=>(met n fs gs).map fun b=>a++b:=by
 rw [Nat.add_comm];exact yN t.length 1 n t u fs gs (Nat.le_refl _) h1 h2
theorem Fo.kids {x:Nd} {xt:List Nd} (h:Fo 1 (x::xt)):Fo (manyN x) xt:=by
 obtain ⟨ks,rs,rfl,h1,h2⟩:=h.rA;rw [h2.fK,mO];exact h1
theorem afi {a b:ByteArray} (h:a≠b):(a.toList !=b.toList)=true:=by
 rw [bne_iff_ne];intro e;apply h;rw [dA,dA] at e
 cases a;cases b;simp only at e
 congr
 exact Array.toList_inj.1 e
structure Ovr (K:FuncId) (caps:Array Value) (a b:List Nd) (A B:Option Addr) (base:Nat) (St:(Nat->Prop)->List Nd->Nat->Nat->World->Prop):Prop where
 eg:∀args w,(callFunc K args).run Tryz.prog w= .ok (.enter K args) w
 low:∀Y M i k w,St Y M i k w->∀q,Y q->base<=q/\q<w.heap.size
 later:∀Y M i k w w',St Y M i k w->Below w.heap.size w w'->St Y M i k w'
 node:∀Y M i k x w,St Y M i k w->a[i]?=some x->St Y (M++[x]) (i+1) (k+1) w
 dyn:∀Y M i k ts us r s w,a.drop i=ts++r->b.drop k=us++s->bC ts->bC us->Fo 1 ts->Fo 1 us->((aD ts).k=0\/(aD us).k=0)->bJ w base A a->bJ w base B b->base<=w.heap.size->St Y M i k w->
  Calls Tryz.prog K (#[.int .i64 i,.int .i64 k]++caps) w fun e w'=>e= .returned (.bool true)/\Fr Y w w'/\∃Y',St Y' (M++if (aD us).k=0 then ts else us) (i+ts.length) (k+us.length) w'/\∀q,Y' q->Y q\/w.heap.size<=q
theorem U2 (w:World) (u v:Array Value) (T:TypeId):((w.alloc (.cells u T)).alloc (.cells v T)).drew.heap[w.heap.size]?=some (.cells u T (0,0))/\((w.alloc (.cells u T)).alloc (.cells v T)).drew.heap[w.heap.size+1]?=some (.cells v T (0,0))/\Below w.heap.size w ((w.alloc (.cells u T)).alloc (.cells v T)).drew/\((w.alloc (.cells u T)).alloc (.cells v T)).drew.heap.size=w.heap.size+2:=by
 have h1:=heap_alloc_new w (.cells u T);have h2:=heap_alloc_new (w.alloc (.cells u T)) (.cells v T);rw [World.size_alloc] at h2;have h3:=Below.heap_alloc (w.alloc (.cells u T)) (.cells v T) w.heap.size (by simp);exact ⟨h3.trans h1,h2,(au (au (aI _ _) _) _).drew,by show ((w.alloc (.cells u T)).alloc (.cells v T)).heap.size=_;simp⟩
theorem share {T G:Prop} (h:Hid T->G) (t:T):G:=h (aB t)
def GH (St:(Nat->Prop)->List Nd->Nat->Nat->World->Prop) (Y:Nat->Prop) (M:List Nd) (i k:Nat) (ts us:List Nd) (w:World) (e:Ending) (w':World):Prop:=
 Fr Y w w'/\((∃zs Y',met 1 ts us=some zs/\e= .returned (.tuple #[.int .i64 ((i+ts.length:Nat):Int),.int .i64 ((k+us.length:Nat):Int),.bool true])/\St Y' (M++zs) (i+ts.length) (k+us.length) w'/\∀k,Y' k->Y k\/w.heap.size<=k)\/
  (met 1 ts us=none/\e= .returned (.tuple #[.int .i64 0,.int .i64 0,.bool false])))
structure OvI (a b:List Nd) (St:(Nat->Prop)->List Nd->Nat->Nat->World->Prop) (Y:Nat->Prop) (M:List Nd) (x:Nd) (xt yt r s:List Nd) (i k:Nat) (w1:World) (j i' k':Nat) (fs gs Mj:List Nd) (Yj:Nat->Prop) (wr:World):Prop where
 da:a.drop i'=fs++r
 db:b.drop k'=gs++s
 oa:bC fs
 ob:bC gs
 fa:Fo (manyN x-j) fs
 fb:Fo (manyN x-j) gs
 la:i'+fs.length=i+1+xt.length
 lb:k'+gs.length=k+1+yt.length
 met:met (manyN x) xt yt=(met (manyN x-j) fs gs).map fun z=>Mj++z
 st:St Yj (M++x::Mj) i' k' wr
 yl:∀q,Yj q->Y q\/w1.heap.size<=q
 fr:Fr Y w1 wr
 lf:fs.length<=xt.length
theorem KR (K:FuncId) (caps:Array Value) (a b:List Nd) (A B:Option Addr) (c d base:Nat) (St:(Nat->Prop)->List Nd->Nat->Nat->World->Prop) (hO:Ovr K caps a b A B base St) (hla:a.length<=1000000000) (hlb:b.length<=1000000000):
  ∀(f:Nat) (ts us r s M:List Nd) (i k:Nat) (Y:Nat->Prop) (w:World),ts.length<=f->a.drop i=ts++r->b.drop k=us++s->bC ts->bC us->Fo 1 ts->Fo 1 us->(aD ts).s=(aD us).s->bJ w base A a->bJ w base B b->base<=w.heap.size->St Y M i k w->
   Calls Tryz.prog 139 #[.agg #[.slice A a.length c,.slice B b.length d,.func (.func K) #[] caps],.int .i64 i,.int .i64 k] w (GH St Y M i k ts us w):=by
 intro f
 induction f with
 |zero=>
  intro ts us r s M i k Y w hf _ _ _ _ h1
  exact absurd h1.pos (by omega)
 |succ f ih=>
  intro ts us r s M i k Y w hf hda hdb hoa YV h1 h2 hs hA hB hbw hSt;rcases ts with _|⟨x,xt⟩
  ·exact absurd h1.pos (by simp)
  rcases us with _|⟨y,yt⟩
  ·exact absurd h2.pos (by simp)
  have hx:a[i]?=some x:=jP hda;have hy:b[k]?=some y:=jP hdb;have hil:=aP hx;have hkl:=aP hy;have H:=aB (DF hda (DF hdb (DF hoa (DF YV (DF h1 (DF h2 (DF hs (DF hSt (DF hA hB)))))))));have HX:=aB (DF hx hy);obtain ⟨w1,hw1⟩:∃w1,w1=w.alloc (.cells #[.slice A a.length c,.slice B b.length d,.func (.func K) #[] caps] 148):=⟨_,rfl⟩;have Pm:Below w.heap.size w w1:=by rw [hw1];exact au (aI _ _) _
  have hs1:w1.heap.size=w.heap.size+1:=by rw [hw1];simp
  have hblk:w1.heap[w.heap.size]?=some (.cells #[.slice A a.length c,.slice B b.length d,.func (.func K) #[] caps] 148 (0,0)):=by rw [hw1];exact heap_alloc_new _ _
  have p0:w1.cell? ⟨w.heap.size,0,none⟩=some (.slice A a.length c):=by simp [DI,hblk]
  have p1:w1.cell? ⟨w.heap.size,1,none⟩=some (.slice B b.length d):=by simp [DI,hblk]
  have p2:w1.cell? ⟨w.heap.size,2,none⟩=some (.func (.func K) #[] caps):=by simp [DI,hblk]
  have hA1:=hA.below (Pm.mono hbw);have hB1:=hB.below (Pm.mono hbw);have H1:=aB (DF hblk (DF (hO.later _ _ _ _ _ _ hSt Pm) (DF hA1 (DF hB1 (DF Pm hs1)))));obtain ⟨b1,o1,eA,hb1,c10,c11,c12⟩:=hA1.at_ hx;obtain ⟨b2,o2,eB,hb2,c20,c21,JW⟩:=hB1.at_ hy;have q1:b1<w1.heap.size:=by omega
  have q2:b2<w1.heap.size:=by omega
  have q3:b1<w1.heap.size+1:=by omega
  have q4:b2<w1.heap.size+1:=by omega
  have q5:w.heap.size<w1.heap.size:=by omega
  have q6:w.heap.size<w1.heap.size+1:=by omega
  subst eA eB;have IH:=aB ih;clear ih hda hdb hoa YV h1 h2 hs hSt hA hB hx hy hA1 hB1 hblk Pm hs1
  have HV:Hid (∀v,Below w1.heap.size w1 v->bJ v v.heap.size (some ⟨b1,o1,none⟩) a/\bJ v v.heap.size (some ⟨b2,o2,none⟩) b/\bJ v base (some ⟨b1,o1,none⟩) a/\bJ v base (some ⟨b2,o2,none⟩) b/\base<=v.heap.size/\St Y M i k v/\v.heap[w.heap.size]?=some (.cells #[.slice (some ⟨b1,o1,none⟩) a.length c,.slice (some ⟨b2,o2,none⟩) b.length d,.func (.func K) #[] caps] 148 (0,0))/\Below w.heap.size w v):=aB fun v hv=>by
   have hbv:base<=w1.heap.size:=by omega
   have k1:=H1.out.2.2.1.below (hv.mono hbv);have k2:=H1.out.2.2.2.1.below (hv.mono hbv);have hsz:=hv.size;exact ⟨k1.more (by omega),k2.more (by omega),k1,k2,by omega,hO.later _ _ _ _ _ _ H1.out.2.1 hv,(hv.block _ q5).trans H1.out.1,H1.out.2.2.2.2.1.trans (hv.mono H1.out.2.2.2.2.1.size)⟩
  go_enter Tryz.func139,Tryz.ntmps139;go_upto_region 1 with fail
  rw [<-hw1];clear hw1;apply share
  case h=>
   intro HT;go_region
   ·obtain ⟨w2,hw2⟩:∃w2,w2=((w1.alloc (.cells #[.int .i64 x.k,.string x.s,.int .i64 x.n] 49)).alloc (.cells #[.int .i64 y.k,.string y.s,.int .i64 y.n] 49)).drew:=⟨_,rfl⟩
    obtain ⟨n9,h9⟩:∃n,n=w1.heap.size:=⟨_,rfl⟩;obtain ⟨n10,h10⟩:∃n,n=w1.heap.size+1:=⟨_,rfl⟩
    have F:Hid (w2.heap[n9]?=some (.cells #[.int .i64 x.k,.string x.s,.int .i64 x.n] 49 (0,0))/\w2.heap[n10]?=some (.cells #[.int .i64 y.k,.string y.s,.int .i64 y.n] 49 (0,0))/\Below w1.heap.size w1 w2):=aB (by
     obtain ⟨e1,e2,e3,_⟩:=U2 w1 #[.int .i64 x.k,.string x.s,.int .i64 x.n] #[.int .i64 y.k,.string y.s,.int .i64 y.n] 49;rw [hw2,h9,h10];exact ⟨e1,e2,e3⟩)
    rw [<-hw2,<-h10,<-h9];clear hw2 h9 h10;revert F;revert w2 n9 n10;exact HT.out
   ·obtain ⟨w2,hw2⟩:∃w2,w2=((w1.alloc (.cells #[.int .i64 y.k,.string y.s,.int .i64 y.n] 49)).alloc (.cells #[.int .i64 x.k,.string x.s,.int .i64 x.n] 49)).drew:=⟨_,rfl⟩
    obtain ⟨n9,h9⟩:∃n,n=w1.heap.size+1:=⟨_,rfl⟩;obtain ⟨n10,h10⟩:∃n,n=w1.heap.size:=⟨_,rfl⟩
    have F:Hid (w2.heap[n9]?=some (.cells #[.int .i64 x.k,.string x.s,.int .i64 x.n] 49 (0,0))/\w2.heap[n10]?=some (.cells #[.int .i64 y.k,.string y.s,.int .i64 y.n] 49 (0,0))/\Below w1.heap.size w1 w2):=aB (by
     obtain ⟨e1,e2,e3,_⟩:=U2 w1 #[.int .i64 y.k,.string y.s,.int .i64 y.n] #[.int .i64 x.k,.string x.s,.int .i64 x.n] 49;rw [hw2,h9,h10];exact ⟨e2,e1,e3⟩)
    rw [<-hw2,<-h9,<-h10];clear hw2 h9 h10;revert F;revert w2 n9 n10;exact HT.out
  case t=>
   intro w2 n9 n10 F;have g9:=F.out.1;have g10:=F.out.2.1;have Wd:w2.cell? ⟨n9,0,none⟩=some (.int .i64 x.k):=by simp [DI,g9]
   have c91:w2.cell? ⟨n9,1,none⟩=some (.string x.s):=by simp [DI,g9]
   have Wh:w2.cell? ⟨n9,2,none⟩=some (.int .i64 x.n):=by simp [DI,g9]
   have Wi:w2.cell? ⟨n10,0,none⟩=some (.int .i64 y.k):=by simp [DI,g10]
   have Wj:w2.cell? ⟨n10,1,none⟩=some (.string y.s):=by simp [DI,g10]
   have Wm:w2.cell? ⟨n10,2,none⟩=some (.int .i64 y.n):=by simp [DI,g10]
   have e0:=(F.out.2.2.cell (p:=⟨w.heap.size,0,none⟩) q5).trans p0;have e1:=(F.out.2.2.cell (p:=⟨w.heap.size,1,none⟩) q5).trans p1;have e2:=(F.out.2.2.cell (p:=⟨w.heap.size,2,none⟩) q5).trans p2;clear c10 c11 c12 c20 c21 JW p0 p1 p2 g9 g10;by_cases h0:x.k=0\/y.k=0
   ·have hcond:(x.k=0)\/(x.k≠0/\y.k=0):=by omega
    have Wn:=aB h0;rcases hcond with hx0|⟨hx0,hy0⟩
    all_goals
     go_wp2_with fail;clear e0 e1 e2 Wd c91 Wh Wi Wj Wm;obtain ⟨SS,hSS⟩:∃SS:World->Prop,SS=fun v=>v.cell? ⟨w.heap.size,0,none⟩=some (.slice (some ⟨b1,o1,none⟩) a.length c)/\v.cell? ⟨w.heap.size,1,none⟩=some (.slice (some ⟨b2,o2,none⟩) b.length d)/\v.cell? ⟨w.heap.size,2,none⟩=some (.func (.func K) #[] caps):=⟨_,rfl⟩
     have HS:Hid (∀v,v.heap[w.heap.size]?=some (.cells #[.slice (some ⟨b1,o1,none⟩) a.length c,.slice (some ⟨b2,o2,none⟩) b.length d,.func (.func K) #[] caps] 148 (0,0))->SS v):=aB fun v hv=>by
      rw [hSS];exact ⟨by simp [DI,hv],by simp [DI,hv],by simp [DI,hv]⟩
     obtain ⟨wd,hwd⟩:∃wd,wd=w2.drew:=⟨_,rfl⟩;have bM:Hid (Below w1.heap.size w1 wd):=aB (by rw [hwd];exact F.out.2.2.drew);have hsd:SS wd:=HS.out wd (HV.out wd bM.out).2.2.2.2.2.2.1;have heg:=hO.eg;refine aG (S:=SS) [15] (by kernel_rfl) (by rw [<-hwd];exact hsd) (fun hHeld=>?_);rw [<-hwd] at hHeld ⊢;clear hwd;refine aM 0 [1,3,7,12,13,14,15] (some 31) rfl rfl ?_;refine aM 1 [3,7,12,13,14,15] (some 32) rfl rfl ?_;refine aM 2 [3,7,12,13,14,15] (some 33) rfl rfl ?_;refine aM 4 [5,7,12,13,14,15] (some 35) rfl rfl ?_;refine aM 5 [7,12,13,14,15] (some 36) rfl rfl ?_;refine aM 6 [7,12,13,14,15] (some 37) rfl rfl ?_;refine aM 8 [9,12,13,14,15] (some 39) rfl rfl ?_;refine aM 9 [12,13,14,15] (some 40) rfl rfl ?_;refine aM 10 [12,13,14,15] (some 41) rfl rfl ?_;refine aM 11 [12,13,14,15] (some 42) rfl rfl ?_;refine aY 3 (some 34) rfl rfl (by kernel_rfl) (by rfl) (by go_simp) (qK _ c a (x::xt) r i wd (HV.out wd bM.out).1 hla H.out.1 H.out.2.2.1 H.out.2.2.2.2.1) ?_;rintro e w3 ⟨rfl,hb3⟩;have HB3:Hid (Below w1.heap.size w1 w3):=aB (ah bM.out hb3);have hs3:SS w3:=HS.out w3 (HV.out w3 HB3.out).2.2.2.2.2.2.1;clear hb3;refine ⟨_,rfl,hs3,?_⟩;refine aA ?_;refine aY 7 (some 38) rfl rfl (by kernel_rfl) (by rfl) (by go_simp) (qK _ d b (y::yt) s k w3 (HV.out w3 HB3.out).2.1 hlb H.out.2.1 H.out.2.2.2.1 H.out.2.2.2.2.2.1) ?_;rintro e w4 ⟨rfl,hb4⟩;have jS:Hid (Below w1.heap.size w1 w4):=aB (ah HB3.out hb4);have hs4:SS w4:=HS.out w4 (HV.out w4 jS.out).2.2.2.2.2.2.1;clear hb4;refine ⟨_,rfl,hs4,?_⟩;refine aA ?_
     have Hdy:=aB (hO.dyn Y M i k (x::xt) (y::yt) r s w4 H.out.1 H.out.2.1 H.out.2.2.1 H.out.2.2.2.1 H.out.2.2.2.2.1 H.out.2.2.2.2.2.1 Wn.out (HV.out w4 jS.out).2.2.1 (HV.out w4 jS.out).2.2.2.1 (HV.out w4 jS.out).2.2.2.2.1 (HV.out w4 jS.out).2.2.2.2.2.1);refine aY 12 (some 43) rfl rfl (by kernel_rfl) (by rfl) (by go_simp) Hdy.out ?_;rintro e w5 ⟨rfl,uL,Y',adR,hY'⟩;have h55:w5.heap[w.heap.size]?=some (.cells #[.slice (some ⟨b1,o1,none⟩) a.length c,.slice (some ⟨b2,o2,none⟩) b.length d,.func (.func K) #[] caps] 148 (0,0)):=(uL.block _ (by have:=jS.out.size;omega) fun e=>by have:=(hO.low _ _ _ _ _ H.out.2.2.2.2.2.2.2.1 _ e).2;omega).trans (HV.out w4 jS.out).2.2.2.2.2.2.1;have hs5:SS w5:=HS.out w5 h55
     have HP:Hid (GH St Y M i k (x::xt) (y::yt) w (.returned (.tuple #[.int .i64 ((i+(x::xt).length:Nat):Int),.int .i64 ((k+(y::yt).length:Nat):Int),.bool true])) w5):=aB (by
      have adS:=(HV.out w4 jS.out).2.2.2.2.2.2.2;refine ⟨(Fr.below adS).trans uL,.inl ⟨_,Y',wE H.out.2.2.2.2.1 H.out.2.2.2.2.2.1 H.out.2.2.2.2.2.2.1 Wn.out,rfl,adR,fun q hq=>?_⟩⟩;rcases hY' q hq with h|h
      ·exact .inl h
      ·exact .inr (Nat.le_trans adS.size h))
     clear uL adR hY' h55;refine ⟨_,rfl,hs5,?_⟩;refine aA ?_;refine aM 13 [14,15] (some 6) rfl rfl ?_;refine aM 14 [15] (some 7) rfl rfl ?_;refine aX 15 (some 8) (v:=.bool true) (w':=w5) rfl rfl (by kernel_rfl) (by rfl) (by go_simp) (zL (by kernel_rfl)) ?_;refine aA ?_;refine bB (by kernel_rfl) ?_ _;go_wp2_with fail;go_ret3;exact HP.out
   ·have hx0:¬x.k=0:=fun e=>h0 (.inl e)
    have hy0:¬y.k=0:=fun e=>h0 (.inr e);have Wn:=aB h0;have hxy:x.s=y.s:=H.out.2.2.2.2.2.2.1;have hbe:x.s.toList=y.s.toList:=by rw [hxy]
    have Hk:=aB (Bq _ c a xt r x i w2 (HV.out w2 F.out.2.2).1 hla HX.out.1 (H.out.2.2.1 x (by simp)) (by rw [<-oO,H.out.1];rfl) (fun z hz=>H.out.2.2.1 z (by simp [hz])) (Fo.kids H.out.2.2.2.2.1))
    have HKL:Hid ((cB (aV a (manyN x) (i+1))).length=manyN x):=aB (by
     rw [mh];exact wZ _ _ xt r (by rw [<-oO,H.out.1];rfl) (fun z hz=>H.out.2.2.1 z (by simp [hz])) (Fo.kids H.out.2.2.2.2.1))
    by_cases hbad:x.k≠y.k\/x.n≠y.n
    ·have Hm:=aB (Cx (xt:=xt) (yt:=yt) hxy h0 hbad)
     have bx:(x.k==0)=false:=by simp [hx0]
     have bY:(y.k==0)=false:=by simp [hy0]
     have hcase:((x.k !=y.k)=true)\/((x.k !=y.k)=false/\(x.n !=y.n)=true):=by
      by_cases e:x.k=y.k
      ·refine .inr ⟨by simp [e],?_⟩
       have:x.n≠y.n:=by omega
       simp [this]
      ·exact .inl (by simp [e])
     clear h0 hbad hx0 hy0 hxy;rcases hcase with hk|⟨hk,hn⟩
     all_goals
      go_wp2_with fail;refine Hk.out.mono ?_;rintro e w3 ⟨A',cap',rfl,_,hb3⟩;have HB3:Hid (Below w.heap.size w w3):=aB (ah (HV.out w2 F.out.2.2).2.2.2.2.2.2.2 hb3);have f90:=(hb3.cell (p:=⟨n9,0,none⟩) (FD _ _ Wd)).trans Wd;have f91:=(hb3.cell (p:=⟨n9,1,none⟩) (FD _ _ c91)).trans c91;have f92:=(hb3.cell (p:=⟨n9,2,none⟩) (FD _ _ Wh)).trans Wh;have f80:=(hb3.cell (p:=⟨n10,0,none⟩) (FD _ _ Wi)).trans Wi;have f81:=(hb3.cell (p:=⟨n10,1,none⟩) (FD _ _ Wj)).trans Wj;have f82:=(hb3.cell (p:=⟨n10,2,none⟩) (FD _ _ Wm)).trans Wm;clear hb3;go_wp2_with fail;go_ret3;exact ⟨Fr.below HB3.out,.inr ⟨Hm.out,rfl⟩⟩
    ·have bx:(x.k==0)=false:=by simp [hx0]
     have bY:(y.k==0)=false:=by simp [hy0]
     have hk:(x.k !=y.k)=false:=by simp;omega
     have hn:(x.n !=y.n)=false:=by simp;omega
     have Pn:Hid (x.k=y.k/\x.n=y.n):=aB ⟨by omega,by omega⟩;clear hbad h0 hx0 hy0 hxy;go_wp2_with fail;refine Hk.out.mono ?_;rintro e w3 ⟨A',cap',rfl,_,hb3⟩;rw [HKL.out];have HB3:Hid (Below w1.heap.size w1 w3):=aB (ah F.out.2.2 hb3);have f90:=(hb3.cell (p:=⟨n9,0,none⟩) (FD _ _ Wd)).trans Wd;have f91:=(hb3.cell (p:=⟨n9,1,none⟩) (FD _ _ c91)).trans c91;have f92:=(hb3.cell (p:=⟨n9,2,none⟩) (FD _ _ Wh)).trans Wh;have f80:=(hb3.cell (p:=⟨n10,0,none⟩) (FD _ _ Wi)).trans Wi;have f81:=(hb3.cell (p:=⟨n10,1,none⟩) (FD _ _ Wj)).trans Wj;have f82:=(hb3.cell (p:=⟨n10,2,none⟩) (FD _ _ Wm)).trans Wm;clear hb3 e0 e1 e2 Wd c91 Wh Wi Wj Wm;go_upto_region 9 with fail
     clear f90 f91 f92 f80 f81 f82;have HL:=aB (hO.low _ _ _ _ _ H.out.2.2.2.2.2.2.2.1);go_loopw [1,2,73] (fun s1 s2 s73 wr=>∃(j i' k':Nat) (fs gs Mj:List Nd) (Yj:Nat->Prop),j<=manyN x/\s1= .int .i64 i'/\s2= .int .i64 k'/\s73= .int .i64 j/\Hid (OvI a b St Y M x xt yt r s i k w1 j i' k' fs gs Mj Yj wr)) (fun _ _ s73 _=>manyN x-(Lib.intOf s73).toNat)
     case atStart=>
      refine ⟨0,i+1,k+1,xt,yt,[],Y,Nat.zero_le _,by go_num,by go_num,rfl,aB ⟨by rw [<-oO,H.out.1];rfl,by rw [<-oO,H.out.2.1];rfl,fun z hz=>H.out.2.2.1 z (by simp [hz]),fun z hz=>H.out.2.2.2.1 z (by simp [hz]),Fo.kids H.out.2.2.2.2.1,?_,rfl,rfl,?_,hO.node Y M i k x w3 (HV.out w3 HB3.out).2.2.2.2.2.1 HX.out.1,fun q hq=>.inl hq,Fr.below HB3.out,Nat.le_refl _⟩⟩
      ·have:=Fo.kids H.out.2.2.2.2.2.1
       unfold manyN at this ⊢;rw [Nat.sub_zero,Pn.out.1,Pn.out.2];exact this
      ·simp
     case round=>
      obtain ⟨j,i',k',fs,gs,Mj,Yj,hj,rfl,rfl,rfl,HI⟩:=hrel;have hBw:Below base w1 wr:=⟨HI.out.fr.os,HI.out.fr.tape,HI.out.fr.output,HI.out.fr.size,fun q hq=>HI.out.fr.block q (by omega) fun e=>by have:=(HL.out q e).1;omega⟩;have Cz:=aB hBw;have hTA:=H1.out.2.2.1.below hBw;have RZ:=H1.out.2.2.2.1.below hBw;have hbx:wr.heap[w.heap.size]?=some (.cells #[.slice (some ⟨b1,o1,none⟩) a.length c,.slice (some ⟨b2,o2,none⟩) b.length d,.func (.func K) #[] caps] 148 (0,0)):=(HI.out.fr.block _ q5 fun e=>by have:=(HL.out _ e).2;omega).trans H1.out.1;have HT:=aB (DF hTA RZ);have HFw:Hid (Fr Y w wr):=aB ((Fr.below H1.out.2.2.2.2.1).trans HI.out.fr);have U0:manyN x<=50:=oZ (H.out.2.2.1 x (by simp));by_cases hlt:j<manyN x
      ·obtain ⟨m',hm'⟩:∃m',manyN x-j=m'+1:=⟨manyN x-j-1,by omega⟩
       have fa:=HI.out.fa;have fb:=HI.out.fb;rw [hm'] at fa fb;obtain ⟨t1,fs',rfl,YZ,ffs⟩:=fa.first;obtain ⟨u1,gs',rfl,Y9,fgs⟩:=fb.first
       match t1,u1,YZ,Y9,YZ.pos,Y9.pos with
       |x1::t1,y1::u1,YZ,Y9,_,_=>
        have ha1:a[i']?=some x1:=jP HI.out.da;have hb1':b[k']?=some y1:=jP HI.out.db;have aqf:=aP ha1;have hkl':=aP hb1';obtain ⟨b3,o3,eA,hb3,c30,c31,c32⟩:=hTA.at_ ha1;obtain ⟨b4,o4,eB,hb4,c40,c41,c42⟩:=RZ.at_ hb1';injection eA with eA
        injection eA with eA1 eA2 _
        subst eA1 eA2;injection eB with eB
        injection eB with eB1 eB2 _
        subst eB1 eB2;have e0:∀n,(wr.drewN n).cell? ⟨w.heap.size,0,none⟩=some (.slice (some ⟨b1,o1,none⟩) a.length c):=fun n=>by show wr.cell? _=_;simp [DI,hbx]
        have e1:∀n,(wr.drewN n).cell? ⟨w.heap.size,1,none⟩=some (.slice (some ⟨b2,o2,none⟩) b.length d):=fun n=>by show wr.cell? _=_;simp [DI,hbx]
        have e2:∀n,(wr.drewN n).cell? ⟨w.heap.size,2,none⟩=some (.func (.func K) #[] caps):=fun n=>by show wr.cell? _=_;simp [DI,hbx]
        have cx:∀n,(wr.drewN n).cell? ⟨b1,o1+i'*3+1,none⟩=some (.string x1.s):=fun _=>c31;have cy:∀n,(wr.drewN n).cell? ⟨b2,o2+k'*3+1,none⟩=some (.string y1.s):=fun _=>c41;have HG:=aB (DF YZ (DF Y9 (DF ffs (DF fgs (DF hm' hbx)))));clear c30 c31 c32 c40 c41 c42 YZ Y9 ffs fgs fa fb hm' hbx hTA RZ hBw ha1 hb1';by_cases hl:x1.s=y1.s
        ·have hle:(!x1.s.toList==y1.s.toList)=false:=by rw [hl];simp
         have HLs:=aB hl;clear hl;go_upto_region 10 with fail
         go_quiet (fail);obtain ⟨w5,uM⟩:∃w5,w5=wr.drewN nq:=⟨_,rfl⟩;rw [<-uM];have g0:w5.cell? ⟨w.heap.size,0,none⟩=some (.slice (some ⟨b1,o1,none⟩) a.length c):=by rw [uM];exact e0 _
         have g1:w5.cell? ⟨w.heap.size,1,none⟩=some (.slice (some ⟨b2,o2,none⟩) b.length d):=by rw [uM];exact e1 _
         have g2:w5.cell? ⟨w.heap.size,2,none⟩=some (.func (.func K) #[] caps):=by rw [uM];show wr.cell? _=_;simp [DI,HG.out.2.2.2.2.2]
         have Wo:Hid (Below wr.heap.size wr w5/\w5.heap.size=wr.heap.size):=aB (by rw [uM];exact ⟨below_drewN (aI _ _) _,rfl⟩);clear uM e0 e1 e2 cx cy;have Y_:base<=wr.heap.size:=by have:=Cz.out.size;omega
         have akA:=aB (IH.out (x1::t1) (y1::u1) (fs'++r) (gs'++s) (M++x::Mj) i' k' Yj w5 (by have:=HI.out.lf;simp at this hf ⊢;omega) (by rw [HI.out.da,kV]) (by rw [HI.out.db,kV]) (iK HI.out.oa) (iK HI.out.ob) HG.out.1 HG.out.2.1 HLs.out (HT.out.1.below (Wo.out.1.mono Y_)) (HT.out.2.below (Wo.out.1.mono Y_)) (by rw [Wo.out.2];exact Y_) (hO.later _ _ _ _ _ _ HI.out.st Wo.out.1));go_wp2_with fail;refine akA.out.mono ?_;rintro e w6 ⟨gZ,h6⟩;have Po:Hid (Fr Y w1 w6):=aB ((HI.out.fr.trans (Fr.below Wo.out.1)).new gZ HI.out.yl);rcases h6 with ⟨zs,Y6,Za,rfl,adT,j4⟩|⟨Za,rfl⟩
         ·have H6:=aB (DF Za (DF adT j4))
          clear Za adT j4 gZ;go_wp2_with fail;go_roundw
          case rel=>
           refine ⟨j+1,i'+(x1::t1).length,k'+(y1::u1).length,fs',gs',Mj++zs,Y6,hlt,rfl,rfl,by go_num,aB ⟨iD (by rw [HI.out.da,kV]),iD (by rw [HI.out.db,kV]),je HI.out.oa,je HI.out.ob,?_,?_,?_,?_,?_,?_,fun q hq=>?_,Po.out,?_⟩⟩
           ·rw [show manyN x-(j+1)=m' by have:=HG.out.2.2.2.2.1;omega];exact HG.out.2.2.1
           ·rw [show manyN x-(j+1)=m' by have:=HG.out.2.2.2.2.1;omega];exact HG.out.2.2.2.1
           ·have:=HI.out.la;rw [lS] at this;omega
           ·have:=HI.out.lb;rw [lS] at this;omega
           ·rw [HI.out.met,HG.out.2.2.2.2.1,show manyN x-(j+1)=m' by have:=HG.out.2.2.2.2.1;omega,oL HG.out.1 HG.out.2.1,H6.out.1]
            cases met m' fs' gs'<;>simp
           ·have:=H6.out.2.1
            rwa [kV,uK] at this
           ·rcases H6.out.2.2 q hq with h|h
            ·exact HI.out.yl q h
            ·exact .inr (by have:=HI.out.fr.size;have:=Wo.out.2;omega)
           ·have:=HI.out.lf;rw [lS] at this;omega
          case measure=>
           simp [Lib.intOf];omega
         ·have H6:=aB Za
          clear Za gZ;go_wp2_with fail;go_ret3;refine ⟨(Fr.below H1.out.2.2.2.2.1).trans Po.out,.inr ⟨?_,rfl⟩⟩;rw [pq (x:=x) (y:=y) (xt:=xt) (yt:=yt) H.out.2.2.2.2.2.2.1 Wn.out Pn.out.1 Pn.out.2,HI.out.met,HG.out.2.2.2.2.1,oL HG.out.1 HG.out.2.1,H6.out];rfl
        ·have hle:(!x1.s.toList==y1.s.toList)=true:=afi hl
         have HLs:=aB hl;clear hl;go_upto_region 10 with fail
         go_quiet (fail);go_wp2_with fail;go_ret3;refine ⟨HFw.out.drewN _,.inr ⟨?_,rfl⟩⟩;rw [pq (x:=x) (y:=y) (xt:=xt) (yt:=yt) H.out.2.2.2.2.2.2.1 Wn.out Pn.out.1 Pn.out.2,HI.out.met,HG.out.2.2.2.2.1,uK,uK,Cy HLs.out];rfl
      ·have hjm:manyN x-j=0:=by omega
       have hfs:fs=[]:=by have:=HI.out.fa;rw [hjm] at this;exact this.fK
       have hgs:gs=[]:=by have:=HI.out.fb;rw [hjm] at this;exact this.fK
       subst hfs hgs;have adU:=HI.out.la;have adV:=HI.out.lb;simp only [List.length_nil,Nat.add_zero] at adU adV
       have HP:Hid (GH St Y M i k (x::xt) (y::yt) w (.returned (.tuple #[.int .i64 (i':Int),.int .i64 (k':Int),.bool true])) wr):=aB (by
        refine ⟨HFw.out,.inl ⟨x::Mj,Yj,?_,?_,?_,fun q hq=>?_⟩⟩
        ·rw [pq (x:=x) (y:=y) (xt:=xt) (yt:=yt) H.out.2.2.2.2.2.2.1 Wn.out Pn.out.1 Pn.out.2,HI.out.met,hjm,jw]
         simp
        ·rw [show i+(x::xt).length=i' by simp;omega,show k+(y::yt).length=k' by simp;omega]
        ·rw [show i+(x::xt).length=i' by simp;omega,show k+(y::yt).length=k' by simp;omega]
         exact HI.out.st
        ·rcases HI.out.yl q hq with h|h
         ·exact .inl h
         ·exact .inr (by omega))
       clear hbx hTA RZ hBw adU adV hjm;go_wp2_with fail;go_ret3;exact HP.out
theorem R3:∀args w,(callFunc 143 args).run Tryz.prog w= .ok (.enter 143 args) w:=by
 intro args w
 kernel_rfl
theorem R4 (a b:List Nd) (A B:Option Addr) (base:Nat):Ovr 143 #[] a b A B base (fun Y _ _ _ _=>∀q,¬Y q) where
 eg:=R3
 low:=fun Y M i k w h q hq=>absurd hq (h q)
 later:=fun Y M i k w w' h _=>h
 node:=fun Y M i k x w h _=>h
 dyn:=by
  intro Y M i k ts us r s w _ _ _ _ _ _ _ _ _ _ hY;go_enter Tryz.func143,Tryz.ntmps143;go_wp2_with fail;go_ret;exact ⟨rfl,Fr.refl _ _,Y,hY,fun q hq=>.inl hq⟩
structure Gd (t:List Nd):Prop where
 ok:bC t
 fo:Fo 1 t
 s:(aD t).s=ByteArray.empty
 len:t.length<=1000000000
theorem R5 (A B:Option Addr) (c d:Nat) (a b:List Nd) (w:World) (ha:bJ w w.heap.size A a) (hb:bJ w w.heap.size B b) (ga:Gd a) (gb:Gd b):
  Calls Tryz.prog 121 #[.slice A a.length c,.slice B b.length d] w fun e w'=>e= .returned (.bool (jR a b))/\Below w.heap.size w w':=by
 have H:=fun v (hv:Below w.heap.size w v)=>KR 143 #[] a b A B c d w.heap.size _ (R4 a b A B w.heap.size) ga.len gb.len a.length a b [] [] [] 0 0 (fun _=>False) v (Nat.le_refl _) (by simp) (by simp) ga.ok gb.ok ga.fo gb.fo (by rw [ga.s,gb.s]) (ha.below hv) (hb.below hv) hv.size (fun _ h=>h);have H:=aB H;go_enter Tryz.func121,Tryz.ntmps121;go_wp2_with fail;refine (H.out _ (au (aI _ _) _)).mono ?_;rintro e w2 ⟨hf,h⟩;have hb2:Below w.heap.size w w2:=ah (au (aI _ _) _) (hf.toBelow fun _ h=>h.elim);clear hf;rcases h with ⟨zs,Y',hm,rfl,_,_⟩|⟨hm,rfl⟩
 ·go_wp2_with fail
  go_ret;exact ⟨by rw [jR,hm];rfl,hb2⟩
 ·go_wp2_with fail
  go_ret;exact ⟨by rw [jR,hm];rfl,hb2⟩
theorem heap_set {w:World} {g:Nat} {cs:Array Value} {t:TypeId} (h:w.heap[g]?=some (.cells cs t (0,0))) (i:Nat) (u:Value):(w.setCell ⟨g,i,none⟩ u).heap[g]?=some (.cells (cs.setIfInBounds i u) t (0,0)):=by
 simp only [World.setCell,Array.getElem?_modify,h,if_true,Option.map_some];simp
section
variable {base:Nat} {w w':World} {Y:Nat->Prop}
theorem ay.fr {α:Type} {enc:α->List Value} {e size cap:Nat} {A:Option Addr} {l:List α} (h:ay e size enc w base A cap l) (hf:Fr Y w w') (hY:∀a,A=some a->¬Y a.block):ay e size enc w' base A cap l:=by
 cases A with
 |none=>
  rcases h.2 with ⟨hv,hn⟩|⟨g,cap',cur,hv,_⟩
  ·have hl:l=[]:=List.eq_nil_of_length_eq_zero hn
   subst hl;injection hv with _ _ hc
   subst hc;exact ay.nil
  ·cases hv
 |some a=>
  rcases h.2 with ⟨hv,hn⟩|⟨g,cap',cur,hv,hbg,hg,hr⟩
  ·cases hv
  ·have hlt:g<w.heap.size:=(Array.getElem?_eq_some_iff.1 hg).1
   injection hv with hA _ hcp
   injection hA with hA
   subst hA hcp;exact ⟨h.1,.inr ⟨g,cap,cur,rfl,hbg,(hf.block g hlt (hY _ rfl)).trans hg,hr⟩⟩
theorem ay.lt {α:Type} {e size:Nat} {enc:α->List Value} {A:Option Addr} {cap:Nat} {l:List α} (h:ay e size enc w base A cap l):∀a,A=some a->base<=a.block/\a.block<w.heap.size:=fun a ha=>by
 subst ha;exact ay.block h a.block rfl
end
theorem Zb {w:World} {o:Oper} {a:Act} {K:Act->World->Prop} {Q:Exit->Act->World->Prop} (s x:Operand)
  (ho:o.op= .call {callee:=.builtin .append,args:=#[s,x],argTypes:=#[28,28]})
  (base:Nat) {A:Option Addr} {cap:Nat} {l:List Nd} (hs:a.eval s= .slice A l.length cap) (hown:dF w base A cap l) {B:Nat} {A2:Option Addr} {c:Nat} {l2:List Nd} (hx:a.eval x= .slice A2 l2.length c) (hr:bJ w B A2 l2)
  (hlen:l.length+l2.length<=1000000000000) (hbase:base<=w.heap.size)
  (h:∀A' cap' w',dF w' base A' cap' (l++l2)->w.grownBy w' ((gq A l.length cap).ownBlock)->
   ((gq A' (l.length+l2.length) cap').ownBlock=(gq A l.length cap).ownBlock\/(gq A' (l.length+l2.length) cap').ownBlock=some w.heap.size)->K (a.put o.dst (.slice A' (l.length+l2.length) cap')) w'):Oper.wp Tryz.prog o a w K Q:=by
 obtain ⟨i0,hi,hz0,hz1,hz2⟩:=info_parts MC;exact uV w ku DL s x 28 ho base 49 i0 _ 32 Tryz.underlying28 hi hz0 hz1 hz2 rfl (by decide) hs hown hx hr.ME (by unfold maxLen;omega) (by omega) hbase h
theorem yQ {w:World} {o:Oper} {a:Act} {K:Act->World->Prop} {Q:Exit->Act->World->Prop} (s x:Operand)
  (ho:o.op= .call {callee:=.builtin .append,args:=#[s,x],argTypes:=#[28,28]})
  (base:Nat) {A:Option Addr} {cap m n:Nat} {l:List Nd} (hm:l.length=m) (hs:a.eval s= .slice A m cap) (hown:dF w base A cap l) {B:Nat} {A2:Option Addr} {c:Nat} {l2:List Nd} (hn:l2.length=n) (hx:a.eval x= .slice A2 n c) (hr:bJ w B A2 l2)
  (hlen:m+n<=1000000000000) (hbase:base<=w.heap.size) (dst:Option Tmp) (hdst:o.dst=dst)
  (h:∀A' cap' w',dF w' base A' cap' (l++l2)->w.grownBy w' ((gq A l.length cap).ownBlock)->
   ((gq A' (l.length+l2.length) cap').ownBlock=(gq A l.length cap).ownBlock\/(gq A' (l.length+l2.length) cap').ownBlock=some w.heap.size)->K (a.put dst (.slice A' (m+n) cap')) w'):Oper.wp Tryz.prog o a w K Q:=by
 subst hm hn hdst;exact Zb s x ho base hs hown hx hr hlen hbase h
theorem bJ.sub {w:World} {B b o:Nat} {T:List Nd} (h:bJ w B (some ⟨b,o,none⟩) T) (i j:Nat):bJ w B (some ⟨b,o+i*3,none⟩) ((T.take j).drop i):=fun hne=>by
 have hT:T≠[]:=by rintro rfl;simp at hne
 obtain ⟨b2,o2,e,hb,hr⟩:=h hT;injection e with e
 injection e with e1 e2 _
 subst e1 e2
 have key:∀k x,((T.take j).drop i)[k]?=some x->T[i+k]?=some x:=fun k x hx=>by
  rw [List.getElem?_drop,List.getElem?_take] at hx;split at hx
  ·exact hx
  ·cases hx
 refine ⟨b,o+i*3,rfl,hb,⟨fun k x hx=>?_,fun k x hx=>?_,fun k x hx=>?_⟩⟩
 ·have:=hr.c0 (i+k) x (key k x hx);rw [show o+(i+k)*3=o+i*3+k*3 by omega] at this;exact this
 ·have:=hr.c1 (i+k) x (key k x hx);rw [show o+(i+k)*3=o+i*3+k*3 by omega] at this;exact this
 ·have:=hr.c2 (i+k) x (key k x hx);rw [show o+(i+k)*3=o+i*3+k*3 by omega] at this;exact this
theorem lD {T:List Nd} {i j:Nat} (hj:j<=T.length):((T.take j).drop i).length=j-i:=by simp;omega
end Go.Proofs.YtmjdhfbnmmdjiaaGreat
