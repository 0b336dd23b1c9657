/- Laid together by a tool from the texts of this seat: ChV. Conditions: each theorem's own. -/
import Derived.Test.YtmjdhfbnmmdjiaaGreatH11
set_option maxHeartbeats 8000000
set_option maxRecDepth 100000
namespace Go.Proofs.YtmjdhfbnmmdjiaaGreat
open Go.Lib renaming hid->aB
open Go.World renaming cell?->DI
open Go.RowKit.Below renaming refl->aI
open Go.RowKit
def pv (p:Pt) (TA:Option Addr) (tc:Nat) (UA:Option Addr) (uc:Nat):Value:=
 .agg #[.int .i64 p.k,.string p.lb,.string p.nm,.string p.bd,.int .i64 p.mn,.int .i64 p.num,.slice TA p.T.length tc,.slice UA p.U.length uc]
structure aZ (w:World) (Y:Nat->Prop) (b:Nat) (p:Pt) (TA:Option Addr) (tc:Nat) (UA:Option Addr) (uc:Nat):Prop where
 blk:w.heap[b]?=some (.cells #[.int .i64 p.k,.string p.lb,.string p.nm,.string p.bd,.int .i64 p.mn,.int .i64 p.num,.slice TA p.T.length tc,.slice UA p.U.length uc] 33 (0,0))
 off:¬Y b
 T:aF w Y TA tc p.T
 U:aF w Y UA uc p.U
section
variable {w w':World} {Y Y':Nat->Prop} {b:Nat} {p:Pt} {TA UA:Option Addr} {tc uc:Nat}
theorem aZ.fr (h:aZ w Y b p TA tc UA uc) (hf:Fr Y w w') (hy:aj Y Y' w):aZ w' Y' b p TA tc UA uc:=by
 have hb:b<w.heap.size:=(Array.getElem?_eq_some_iff.1 h.blk).1;refine ⟨(hf.block b hb h.off).trans h.blk,fun h2=>?_,h.T.fr hf hy,h.U.fr hf hy⟩;rcases hy b h2 with h3|h3
 ·exact h.off h3
 ·omega
theorem aZ.later (h:aZ w Y b p TA tc UA uc) (hb:Below w.heap.size w w'):aZ w' Y b p TA tc UA uc:=h.fr (Fr.below hb) (aj.refl _ _)
theorem aF.later {A:Option Addr} {c:Nat} {t:List Nd} (h:aF w Y A c t) (hb:Below w.heap.size w w'):aF w' Y A c t:=h.fr (Fr.below hb) (aj.refl _ _)
theorem aZ.cells (h:aZ w Y b p TA tc UA uc):w.cell? ⟨b,0,none⟩=some (.int .i64 p.k)/\w.cell? ⟨b,1,none⟩=some (.string p.lb)/\w.cell? ⟨b,2,none⟩=some (.string p.nm)/\w.cell? ⟨b,3,none⟩=some (.string p.bd)/\w.cell? ⟨b,4,none⟩=some (.int .i64 p.mn)/\
  w.cell? ⟨b,6,none⟩=some (.slice TA p.T.length tc)/\w.cell? ⟨b,7,none⟩=some (.slice UA p.U.length uc):=
 ⟨by simp [DI,h.blk],by simp [DI,h.blk],by simp [DI,h.blk],by simp [DI,h.blk],by simp [DI,h.blk],by simp [DI,h.blk],by simp [DI,h.blk]⟩
theorem aZ.new (hY:∀q,Y q->q<w.heap.size) (hT:aF w Y TA tc p.T) (hU:aF w Y UA uc p.U):aZ (w.alloc (.cells #[.int .i64 p.k,.string p.lb,.string p.nm,.string p.bd,.int .i64 p.mn,.int .i64 p.num,.slice TA p.T.length tc,.slice UA p.U.length uc] 33)) Y w.heap.size p TA tc UA uc:=by
 have hb:Below w.heap.size w (w.alloc (.cells #[.int .i64 p.k,.string p.lb,.string p.nm,.string p.bd,.int .i64 p.mn,.int .i64 p.num,.slice TA p.T.length tc,.slice UA p.U.length uc] 33)):=au (aI _ _) _;exact ⟨heap_alloc_new _ _,fun h=>absurd (hY _ h) (Nat.lt_irrefl _),hT.later hb,hU.later hb⟩
end
theorem jL.keep {P:Nat} {es:List Pt} {env:Env} {Y:Nat->Prop} {r:fF} {w w':World} {e:Ending} (h:jL P es env Y r w e w'):∃v,e= .returned v:=by
 obtain ⟨Y',_,_,_,h⟩:=h
 match r,h with
 | .ok (t,a),⟨A,c,e1,_⟩=>exact ⟨_,e1⟩
 | .error x,e1=>exact ⟨_,e1⟩
theorem aj.up {Y Y2:Nat->Prop} {w w1:World} (h:aj Y Y2 w1) (hz:w.heap.size<=w1.heap.size):aj Y Y2 w:=fun q hq=>by
 rcases h q hq with h1|h1
 ·exact .inl h1
 ·exact .inr (by omega)
theorem fP {x:Option fF} {f:List Nd->Nat->Option fF} {r:fF} (h:dw x f=some r):(∃b,x=some (.error b)/\r= .error b)\/∃t a,x=some (.ok (t,a))/\f t a=some r:=by
 match x,h with
 |some (.error b),h=>
  simp only [dw] at h;injection h with h
  exact .inl ⟨b,rfl,h.symm⟩
 |some (.ok (t,a)),h=>exact .inr ⟨t,a,rfl,h⟩
theorem Zz (P:Nat) (es:List Pt) (env:Env) (p:Pt) (aN a:Nat) (r:fF) (Y:Nat->Prop) (w:World) (TA UA:Option Addr) (tc uc:Nat) (h:bf P es env (.ok a) Y w) (hT:aF w Y TA tc p.T) (hU:aF w Y UA uc p.U) (hm:KX p a=some r):
  Calls Tryz.prog 64 #[pk P,pv p TA tc UA uc,.int .i64 aN] w (bI P es env Y r w):=by
 have HM:=aB (aZ.new h.lt hT hU);have HB:Hid (Below w.heap.size w (w.alloc (.cells #[.int .i64 p.k,.string p.lb,.string p.nm,.string p.bd,.int .i64 p.mn,.int .i64 p.num,.slice TA p.T.length tc,.slice UA p.U.length uc] 33))):=aB (au (aI _ _) _);have H:=aB (h.later HB.out);have HR:Hid (r= .ok (p.T,a)):=aB (by injection hm with hm;exact hm.symm);clear h hT hU hm;unfold pk pv;go_enter Tryz.func64,Tryz.ntmps64;go_wp2_with fail;go_ret;refine ⟨Y,Fr.below HB.out,aj.refl _ _,?_⟩;rw [HR.out];exact ⟨H.out,TA,tc,rfl,HM.out.T⟩
theorem acI (P:Nat) (es:List Pt) (nx:Nx) (HN:Hid (nR P es nx)) (env:Env) (p:Pt) (aN a:Nat) (r:fF) (Y:Nat->Prop) (w:World) (TA UA:Option Addr) (tc uc:Nat) (h:bf P es env (.ok a) Y w) (hT:aF w Y TA tc p.T) (hU:aF w Y UA uc p.U) (gT:Gd p.T) (hG:∀env a t b,nx env a=some (.ok (t,b))->Gd t) (hm:asM nx env p aN a=some r):
  Calls Tryz.prog 76 #[pk P,pv p TA tc UA uc,.int .i64 aN] w (bI P es env Y r w):=by
 obtain ⟨w1,hw1⟩:∃w1,w1=w.alloc (.cells #[.int .i64 p.k,.string p.lb,.string p.nm,.string p.bd,.int .i64 p.mn,.int .i64 p.num,.slice TA p.T.length tc,.slice UA p.U.length uc] 33):=⟨_,rfl⟩;have hpm:=aZ.new h.lt hT hU;have hb1:Below w.heap.size w w1:=by rw [hw1];exact au (aI _ _) _
 rw [<-hw1] at hpm;have Eb:=aB hpm;have HB:=aB hb1;have H:=aB (h.later hb1);have HR:=aB (fP hm);have HD:=aB (And.intro gT hG);clear h hT hU hm gT hG hpm hb1;unfold pk pv;go_enter Tryz.func76,Tryz.ntmps76;go_upto_region 1 with fail
 rw [<-hw1];clear hw1;obtain ⟨SS,hSS⟩:∃SS:World->Prop,SS=fun v=>v.cell? ⟨w.heap.size,6,none⟩=some (.slice TA p.T.length tc):=⟨_,rfl⟩;have HS:Hid (∀v Y',aZ v Y' w.heap.size p TA tc UA uc->SS v):=aB fun v Y' hv=>by rw [hSS];exact hv.cells.2.2.2.2.2.1
 obtain ⟨wd,hwd⟩:∃wd,wd=w1.drew:=⟨_,rfl⟩;have bM:Hid (Below w1.heap.size w1 wd):=aB (by rw [hwd];exact (aI _ _).drew);have mY:=aB (Eb.out.later bM.out);have xD:=aB (H.out.later bM.out);have hsd:SS wd:=HS.out _ _ mY.out;refine aG (S:=SS) [6] (by kernel_rfl) (by rw [<-hwd];exact hsd) (fun hHeld=>?_);rw [<-hwd] at hHeld ⊢;clear hwd;refine aM 0 [6] (some 7) rfl rfl ?_;refine aM 1 [2,6] (some 8) rfl rfl ?_;refine aM 3 [4,6] (some 10) rfl rfl ?_;refine aM 4 [6] (some 11) rfl rfl ?_;refine aM 5 [6] (some 12) rfl rfl ?_;rcases HR.out with ⟨x,h1,hr⟩|⟨t,b,h1,hr⟩
 ·have HX:=aB (HN.out env (.ok a) _ Y wd h1 xD.out)
  unfold pk at HX;refine aY 2 (some 9) rfl rfl (by kernel_rfl) (by rfl) (by kernel_rfl) HX.out ?_;rintro e w2 ⟨Y2,hf2,hy2,hk2,rfl⟩;have mo:=aB (mY.out.fr hf2 hy2);have hs2:SS w2:=HS.out _ _ mo.out;refine ⟨_,rfl,hs2,?_⟩;refine aA ?_;have nV:=aB (gy P es env x (.slice none 0 0) (.slice TA p.T.length tc) aN Y2 w2 hk2);have lV:Hid (Fr Y w w2/\aj Y Y2 w):=aB ⟨(Fr.below (ah HB.out bM.out)).trans hf2,aj.up hy2 (ah HB.out bM.out).size⟩;unfold pk at nV;refine aY 6 (some 13) rfl rfl (by kernel_rfl) (by rfl) (by kernel_rfl) nV.out ?_;rintro e w3 ⟨⟨v3,rfl⟩,hf3,hk3⟩;have m_:=aB (mo.out.fr hf3 (aj.refl _ _));refine ⟨_,rfl,HS.out _ _ m_.out,?_⟩;refine aA ?_;refine bB (by kernel_rfl) ?_ _;have c6:=m_.out.cells.2.2.2.2.2.1
  have HQ:Hid (bI P es env Y r w (.returned (.slice TA p.T.length tc)) w3):=aB (by
   subst hr;exact ⟨Y2,Fr.new lV.out.1 hf3 lV.out.2,lV.out.2,hk3,_,_,_,rfl⟩)
  clear hf2 hy2 hk2 hf3 hk3 hs2 hHeld hsd;go_wp2_with fail;go_ret;exact HQ.out
 ·have HX:=aB (HN.out env (.ok a) _ Y wd h1 xD.out)
  unfold pk at HX;refine aY 2 (some 9) rfl rfl (by kernel_rfl) (by rfl) (by kernel_rfl) HX.out ?_;rintro e w2 ⟨Y2,hf2,hy2,hk2,A2,c2,rfl,ht2⟩;have mo:=aB (mY.out.fr hf2 hy2);have hs2:SS w2:=HS.out _ _ mo.out;refine ⟨_,rfl,hs2,?_⟩;refine aA ?_;have nV:=aB (nK P es env b A2 TA c2 tc t p.T aN Y2 w2 hk2 ht2.ty mo.out.T.ty (HD.out.2 _ _ _ _ h1) HD.out.1);have lV:Hid (Fr Y w w2/\aj Y Y2 w):=aB ⟨(Fr.below (ah HB.out bM.out)).trans hf2,aj.up hy2 (ah HB.out bM.out).size⟩;unfold pk at nV;refine aY 6 (some 13) rfl rfl (by kernel_rfl) (by rfl) (by kernel_rfl) nV.out ?_;rintro e w3 ⟨⟨v3,rfl⟩,hf3,hk3⟩;have m_:=aB (mo.out.fr hf3 (aj.refl _ _));refine ⟨_,rfl,HS.out _ _ m_.out,?_⟩;refine aA ?_;refine bB (by kernel_rfl) ?_ _;have c6:=m_.out.cells.2.2.2.2.2.1
  have HQ:Hid (bI P es env Y r w (.returned (.slice TA p.T.length tc)) w3):=aB (by
   unfold og at hk3;by_cases hag:jR t p.T=true
   ·rw [if_pos hag] at hk3 hr
    injection hr with hr
    subst hr;exact ⟨Y2,Fr.new lV.out.1 hf3 lV.out.2,lV.out.2,hk3,_,_,rfl,m_.out.T⟩
   ·rw [if_neg hag] at hk3 hr
    injection hr with hr
    subst hr;exact ⟨Y2,Fr.new lV.out.1 hf3 lV.out.2,lV.out.2,hk3,_,_,_,rfl⟩)
  clear hf2 hy2 hk2 hf3 hk3 hs2 hHeld hsd ht2 h1 hr;go_wp2_with fail;go_ret;exact HQ.out
end Go.Proofs.YtmjdhfbnmmdjiaaGreat
