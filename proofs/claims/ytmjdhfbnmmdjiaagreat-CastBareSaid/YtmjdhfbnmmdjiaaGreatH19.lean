/- Laid together by a tool from the texts of this seat: ChOp ChNm. Conditions: each theorem's own. -/
import Derived.Test.YtmjdhfbnmmdjiaaGreatH13
import Derived.Test.YtmjdhfbnmmdjiaaGreatH14
import Derived.RangeFuncNested
import Derived.RangeFuncBound
import Derived.RangeFuncCalls
import Derived.RangeFuncLeaves
import Derived.Shelf.Abstract
import Derived.Shelf.RegionOpen
import Derived.WalkKit
import Derived.OwnWalkIn
import Derived.TacticsInMore
import Derived.LoopNIn
import Derived.LoopIn
set_option maxHeartbeats 8000000
set_option maxRecDepth 100000
namespace Go.Proofs.YtmjdhfbnmmdjiaaGreat
open Go.Lib renaming hid->aB
open _root_.And renaming intro->DF
open Go.World renaming cell?->DI,frozen?->Gb
open _root_.Nat renaming le_refl->aK,le_trans->vV,lt_of_lt_of_le->Yy
open Go.RowKit.Below renaming heap_alloc->FW,refl->aI
open _root_.Array renaming getElem?_eq_some_iff->aai
open _root_.List renaming length_cons->oG,length_nil->aas,nil_append->aat,cons_append->uK,getElem?_cons_succ->OO,mem_map->aaw,mem_range->Xt
open Go.RowKit
theorem afS {s:ByteArray} (hc:s.toList=[38,38]):cZ s=2/\fA s=2:=by simp [cZ,fA,hc]
theorem afT {s:ByteArray} (hc:s.toList=[124,124]):cZ s=2/\fA s=2:=by simp [cZ,fA,hc]
theorem afU {s:ByteArray} (hc:s.toList=[43,43]):cZ s=3/\fA s=3:=by simp [cZ,fA,hc]
theorem afV {s:ByteArray} (hc:s.toList=[60]):cZ s=1/\fA s=2:=by simp [cZ,fA,hc]
theorem afW {s:ByteArray} (hc:s.toList=[61,61]):cZ s=1/\fA s=2:=by simp [cZ,fA,hc]
theorem afX {s:ByteArray} (hc1:s.toList≠[38,38]) (hc2:s.toList≠[124,124]) (hc3:s.toList≠[43,43]) (hc4:s.toList≠[60]) (Il:s.toList≠[61,61]):cZ s=1/\fA s=1:=by simp [cZ,fA,hc1,hc2,hc3,hc4,Il]
theorem acO (P:Nat) (es:List Pt) (nx:Nx) (HN:Hid (nR P es nx)) (env:Env) (p:Pt) (aN a:Nat) (r:fF) (Y:Nat->Prop) (w:World) (TA UA:Option Addr) (tc uc:Nat) (h:bf P es env (.ok a) Y w) (hT:aF w Y TA tc p.T) (hU:aF w Y UA uc p.U) (hG:∀env a t b,nx env a=some (.ok (t,b))->Gd t) (hm:Sg nx env p aN a=some r):
  Calls Tryz.prog 72 #[pk P,pv p TA tc UA uc,.int .i64 aN] w (bI P es env Y r w):=by
 obtain ⟨w1,hw1⟩:∃w1,w1=w.alloc (.cells #[.int .i64 p.k,.string p.lb,.string p.nm,.string p.bd,.int .i64 p.mn,.int .i64 p.num,.slice TA p.T.length tc,.slice UA p.U.length uc] 33):=⟨_,rfl⟩;have hpm:=aZ.new h.lt hT hU;have hb1:Below w.heap.size w w1:=by rw [hw1];exact au (aI _ _) _
 rw [<-hw1] at hpm;have G1:Hid (Fr Y w w1/\aj Y Y w/\bf P es env (.ok a) Y w1/\aZ w1 Y w.heap.size p TA tc UA uc):=aB ⟨Fr.below hb1,aj.refl _ _,h.later hb1,hpm⟩;have HR:=aB (show Sg nx env p aN a=some r from hm);have HD:=aB (hG);clear h hT hU hm hG hpm hb1;unfold pk pv;go_enter Tryz.func72,Tryz.ntmps72;go_upto_region 1 with fail
 rw [<-hw1];clear hw1;obtain ⟨k0,k1,k2,k3,k4,k6,k7⟩:=G1.out.2.2.2.cells;rcases WR p.nm with hc|hc|hc|hc|hc|⟨hc1,hc2,hc3,hc4,Il⟩
 all_goals
  first|have q0:(p.nm.toList==[38,38])=true:=by rw [hc];rfl|have q0:(p.nm.toList==[38,38])=false:=by first|(rw [hc];rfl)|simpa using hc1
  first|have q1:(p.nm.toList==[124,124])=true:=by rw [hc];rfl|have q1:(p.nm.toList==[124,124])=false:=by first|(rw [hc];rfl)|simpa using hc2
  first|have q2:(p.nm.toList==[43,43])=true:=by rw [hc];rfl|have q2:(p.nm.toList==[43,43])=false:=by first|(rw [hc];rfl)|simpa using hc3
  first|have q3:(p.nm.toList==[60])=true:=by rw [hc];rfl|have q3:(p.nm.toList==[60])=false:=by first|(rw [hc];rfl)|simpa using hc4
  first|have q4:(p.nm.toList==[61,61])=true:=by rw [hc];rfl|have q4:(p.nm.toList==[61,61])=false:=by first|(rw [hc];rfl)|simpa using Il
  first|have HI:=aB (afS hc)|have HI:=aB (afT hc)|have HI:=aB (afU hc)|have HI:=aB (afV hc)|have HI:=aB (afW hc)|have HI:=aB (afX hc1 hc2 hc3 hc4 Il)
  first|clear hc|clear hc1 hc2 hc3 hc4 Il
  rcases fP HR.out with ⟨x,h1,hr⟩|⟨t1,b1,h1,hr⟩
  ·have HX:=aB (HN.out env (.ok a) (.error x) Y w1 h1 G1.out.2.2.1)
   unfold pk at HX;go_wp2_with fail;refine HX.out.mono ?_;rintro e w2 ⟨Y2,hf,hy,hk,rfl⟩;clear HX;clear k0 k1 k2 k3 k4 k6 k7;have G2:Hid (Fr Y w w2/\aj Y Y2 w/\bf P es env (.error x) Y2 w2/\aZ w2 Y2 w.heap.size p TA tc UA uc):=aB ⟨Fr.new G1.out.1 hf G1.out.2.1,aj.trans G1.out.2.1 hy G1.out.1.size,hk,G1.out.2.2.2.fr hf hy⟩;clear G1;obtain ⟨k0,k1,k2,k3,k4,k6,k7⟩:=G2.out.2.2.2.cells;clear hf hy hk;have HX:=aB (HN.out env (.error x) (.error x) Y2 w2 rfl G2.out.2.2.1);unfold pk at HX;go_wp2_with fail;refine HX.out.mono ?_;rintro e w3 ⟨Y3,hf,hy,hk,rfl⟩;clear HX;clear k0 k1 k2 k3 k4 k6 k7;have G3:Hid (Fr Y w w3/\aj Y Y3 w/\bf P es env (.error x) Y3 w3/\aZ w3 Y3 w.heap.size p TA tc UA uc):=aB ⟨Fr.new G2.out.1 hf G2.out.2.1,aj.trans G2.out.2.1 hy G2.out.1.size,hk,G2.out.2.2.2.fr hf hy⟩;clear G2;obtain ⟨k0,k1,k2,k3,k4,k6,k7⟩:=G3.out.2.2.2.cells;clear hf hy hk;go_wp2_with fail;refine (iZ _ w3).mono ?_;rintro e w4 ⟨A4,c4,rfl,hown,hb⟩;clear k0 k1 k2 k3 k4 k6 k7;have G4:Hid (Fr Y w w4/\aj Y Y3 w/\bf P es env (.error x) Y3 w4/\aZ w4 Y3 w.heap.size p TA tc UA uc/\aF w4 Y3 A4 c4 (aH _)):=aB ⟨Fr.new G3.out.1 (Fr.below hb) G3.out.2.1,aj.trans G3.out.2.1 (aj.refl _ _) G3.out.1.size,(G3.out.2.2.1.later hb),G3.out.2.2.2.fr (Fr.below hb) (aj.refl _ _),(aF.own hown (G3.out.2.2.1.lt))⟩;clear G3;obtain ⟨k0,k1,k2,k3,k4,k6,k7⟩:=G4.out.2.2.2.1.cells;clear hown hb;have HX:=aB (gy P es env x (.slice none 0 0) (.slice A4 1 c4) aN Y3 w4 G4.out.2.2.1);unfold pk at HX;go_wp2_with fail;refine HX.out.mono ?_
   rintro e w5 ⟨⟨v5,rfl⟩,hf,hk⟩;clear HX;clear k0 k1 k2 k3 k4 k6 k7;have G5:Hid (Fr Y w w5/\aj Y Y3 w/\bf P es env (.error x) Y3 w5/\aZ w5 Y3 w.heap.size p TA tc UA uc/\aF w5 Y3 A4 c4 (aH _)):=aB ⟨Fr.new G4.out.1 hf G4.out.2.1,aj.trans G4.out.2.1 (aj.refl _ _) G4.out.1.size,hk,G4.out.2.2.2.1.fr hf (aj.refl _ _),G4.out.2.2.2.2.fr hf (aj.refl _ _)⟩;clear G4;obtain ⟨k0,k1,k2,k3,k4,k6,k7⟩:=G5.out.2.2.2.1.cells;clear hf hk;go_wp2_with fail;refine (iZ _ w5).mono ?_;rintro e w6 ⟨A6,c6,rfl,hown,hb⟩;clear k0 k1 k2 k3 k4 k6 k7;have G6:Hid (Fr Y w w6/\aj Y Y3 w/\bf P es env (.error x) Y3 w6/\aZ w6 Y3 w.heap.size p TA tc UA uc/\aF w6 Y3 A4 c4 (aH _)/\aF w6 Y3 A6 c6 (aH _)):=aB ⟨Fr.new G5.out.1 (Fr.below hb) G5.out.2.1,aj.trans G5.out.2.1 (aj.refl _ _) G5.out.1.size,(G5.out.2.2.1.later hb),G5.out.2.2.2.1.fr (Fr.below hb) (aj.refl _ _),G5.out.2.2.2.2.fr (Fr.below hb) (aj.refl _ _),(aF.own hown (G5.out.2.2.1.lt))⟩;clear G5;obtain ⟨k0,k1,k2,k3,k4,k6,k7⟩:=G6.out.2.2.2.1.cells;clear hown hb;have HX:=aB (gy P es env x (.slice none 0 0) (.slice A6 1 c6) aN Y3 w6 G6.out.2.2.1);unfold pk at HX;go_wp2_with fail;refine HX.out.mono ?_;rintro e w7 ⟨⟨v7,rfl⟩,hf,hk⟩;clear HX;clear k0 k1 k2 k3 k4 k6 k7
   have G7:Hid (Fr Y w w7/\aj Y Y3 w/\bf P es env (.error x) Y3 w7/\aZ w7 Y3 w.heap.size p TA tc UA uc/\aF w7 Y3 A4 c4 (aH _)/\aF w7 Y3 A6 c6 (aH _)):=aB ⟨Fr.new G6.out.1 hf G6.out.2.1,aj.trans G6.out.2.1 (aj.refl _ _) G6.out.1.size,hk,G6.out.2.2.2.1.fr hf (aj.refl _ _),G6.out.2.2.2.2.1.fr hf (aj.refl _ _),G6.out.2.2.2.2.2.fr hf (aj.refl _ _)⟩;clear G6;obtain ⟨k0,k1,k2,k3,k4,k6,k7⟩:=G7.out.2.2.2.1.cells;clear hf hk;go_wp2_with fail;refine (iZ _ w7).mono ?_;rintro e w8 ⟨A8,c8,rfl,hown,hb⟩;clear k0 k1 k2 k3 k4 k6 k7;have G8:Hid (Fr Y w w8/\aj Y Y3 w/\bf P es env (.error x) Y3 w8/\aZ w8 Y3 w.heap.size p TA tc UA uc/\aF w8 Y3 A4 c4 (aH _)/\aF w8 Y3 A6 c6 (aH _)/\aF w8 Y3 A8 c8 (aH _)):=aB ⟨Fr.new G7.out.1 (Fr.below hb) G7.out.2.1,aj.trans G7.out.2.1 (aj.refl _ _) G7.out.1.size,(G7.out.2.2.1.later hb),G7.out.2.2.2.1.fr (Fr.below hb) (aj.refl _ _),G7.out.2.2.2.2.1.fr (Fr.below hb) (aj.refl _ _),G7.out.2.2.2.2.2.fr (Fr.below hb) (aj.refl _ _),(aF.own hown (G7.out.2.2.1.lt))⟩;clear G7;obtain ⟨k0,k1,k2,k3,k4,k6,k7⟩:=G8.out.2.2.2.1.cells;clear hown hb
   have HQ:Hid (bI P es env Y r w (.returned (.slice A8 1 c8)) w8):=aB (by
    subst hr;exact ⟨Y3,G8.out.1,G8.out.2.1,G8.out.2.2.1,_,_,_,rfl⟩)
   go_wp2_with fail;go_ret;exact HQ.out
  ·have HX:=aB (HN.out env (.ok a) _ Y w1 h1 G1.out.2.2.1)
   unfold pk at HX;go_wp2_with fail;refine HX.out.mono ?_;rintro e w2 ⟨Y2,hf,hy,hk,A2,c2,rfl,ht⟩;clear HX;clear k0 k1 k2 k3 k4 k6 k7;have G2:Hid (Fr Y w w2/\aj Y Y2 w/\bf P es env (.ok b1) Y2 w2/\aZ w2 Y2 w.heap.size p TA tc UA uc/\aF w2 Y2 A2 c2 t1):=aB ⟨Fr.new G1.out.1 hf G1.out.2.1,aj.trans G1.out.2.1 hy G1.out.1.size,hk,G1.out.2.2.2.fr hf hy,ht⟩;clear G1;obtain ⟨k0,k1,k2,k3,k4,k6,k7⟩:=G2.out.2.2.2.1.cells;clear hf hy hk ht;rcases fP hr with ⟨x,h2,hr⟩|⟨t2,b2,h2,hr⟩
   ·have HX:=aB (HN.out env (.ok b1) (.error x) Y2 w2 h2 G2.out.2.2.1)
    unfold pk at HX;go_wp2_with fail;refine HX.out.mono ?_;rintro e w3 ⟨Y3,hf,hy,hk,rfl⟩;clear HX;clear k0 k1 k2 k3 k4 k6 k7;have G3:Hid (Fr Y w w3/\aj Y Y3 w/\bf P es env (.error x) Y3 w3/\aZ w3 Y3 w.heap.size p TA tc UA uc/\aF w3 Y3 A2 c2 t1):=aB ⟨Fr.new G2.out.1 hf G2.out.2.1,aj.trans G2.out.2.1 hy G2.out.1.size,hk,G2.out.2.2.2.1.fr hf hy,G2.out.2.2.2.2.fr hf hy⟩;clear G2;obtain ⟨k0,k1,k2,k3,k4,k6,k7⟩:=G3.out.2.2.2.1.cells;clear hf hy hk;go_wp2_with fail;refine (iZ _ w3).mono ?_;rintro e w4 ⟨A4,c4,rfl,hown,hb⟩;clear k0 k1 k2 k3 k4 k6 k7;have G4:Hid (Fr Y w w4/\aj Y Y3 w/\bf P es env (.error x) Y3 w4/\aZ w4 Y3 w.heap.size p TA tc UA uc/\aF w4 Y3 A2 c2 t1/\aF w4 Y3 A4 c4 (aH _)):=aB ⟨Fr.new G3.out.1 (Fr.below hb) G3.out.2.1,aj.trans G3.out.2.1 (aj.refl _ _) G3.out.1.size,(G3.out.2.2.1.later hb),G3.out.2.2.2.1.fr (Fr.below hb) (aj.refl _ _),G3.out.2.2.2.2.fr (Fr.below hb) (aj.refl _ _),(aF.own hown (G3.out.2.2.1.lt))⟩;clear G3;obtain ⟨k0,k1,k2,k3,k4,k6,k7⟩:=G4.out.2.2.2.1.cells;clear hown hb;have HX:=aB (gy P es env x (.slice A2 t1.length c2) (.slice A4 1 c4) aN Y3 w4 G4.out.2.2.1);unfold pk at HX;go_wp2_with fail;refine HX.out.mono ?_;rintro e w5 ⟨⟨v5,rfl⟩,hf,hk⟩;clear HX;clear k0 k1 k2 k3 k4 k6 k7
    have G5:Hid (Fr Y w w5/\aj Y Y3 w/\bf P es env (.error x) Y3 w5/\aZ w5 Y3 w.heap.size p TA tc UA uc/\aF w5 Y3 A2 c2 t1/\aF w5 Y3 A4 c4 (aH _)):=aB ⟨Fr.new G4.out.1 hf G4.out.2.1,aj.trans G4.out.2.1 (aj.refl _ _) G4.out.1.size,hk,G4.out.2.2.2.1.fr hf (aj.refl _ _),G4.out.2.2.2.2.1.fr hf (aj.refl _ _),G4.out.2.2.2.2.2.fr hf (aj.refl _ _)⟩;clear G4;obtain ⟨k0,k1,k2,k3,k4,k6,k7⟩:=G5.out.2.2.2.1.cells;clear hf hk;go_wp2_with fail;refine (iZ _ w5).mono ?_;rintro e w6 ⟨A6,c6,rfl,hown,hb⟩;clear k0 k1 k2 k3 k4 k6 k7;have G6:Hid (Fr Y w w6/\aj Y Y3 w/\bf P es env (.error x) Y3 w6/\aZ w6 Y3 w.heap.size p TA tc UA uc/\aF w6 Y3 A2 c2 t1/\aF w6 Y3 A4 c4 (aH _)/\aF w6 Y3 A6 c6 (aH _)):=aB ⟨Fr.new G5.out.1 (Fr.below hb) G5.out.2.1,aj.trans G5.out.2.1 (aj.refl _ _) G5.out.1.size,(G5.out.2.2.1.later hb),G5.out.2.2.2.1.fr (Fr.below hb) (aj.refl _ _),G5.out.2.2.2.2.1.fr (Fr.below hb) (aj.refl _ _),G5.out.2.2.2.2.2.fr (Fr.below hb) (aj.refl _ _),(aF.own hown (G5.out.2.2.1.lt))⟩;clear G5;obtain ⟨k0,k1,k2,k3,k4,k6,k7⟩:=G6.out.2.2.2.1.cells;clear hown hb;have HX:=aB (gy P es env x (.slice none 0 0) (.slice A6 1 c6) aN Y3 w6 G6.out.2.2.1);unfold pk at HX;go_wp2_with fail;refine HX.out.mono ?_;rintro e w7 ⟨⟨v7,rfl⟩,hf,hk⟩;clear HX;clear k0 k1 k2 k3 k4 k6 k7
    have G7:Hid (Fr Y w w7/\aj Y Y3 w/\bf P es env (.error x) Y3 w7/\aZ w7 Y3 w.heap.size p TA tc UA uc/\aF w7 Y3 A2 c2 t1/\aF w7 Y3 A4 c4 (aH _)/\aF w7 Y3 A6 c6 (aH _)):=aB ⟨Fr.new G6.out.1 hf G6.out.2.1,aj.trans G6.out.2.1 (aj.refl _ _) G6.out.1.size,hk,G6.out.2.2.2.1.fr hf (aj.refl _ _),G6.out.2.2.2.2.1.fr hf (aj.refl _ _),G6.out.2.2.2.2.2.1.fr hf (aj.refl _ _),G6.out.2.2.2.2.2.2.fr hf (aj.refl _ _)⟩;clear G6;obtain ⟨k0,k1,k2,k3,k4,k6,k7⟩:=G7.out.2.2.2.1.cells;clear hf hk;go_wp2_with fail;refine (iZ _ w7).mono ?_;rintro e w8 ⟨A8,c8,rfl,hown,hb⟩;clear k0 k1 k2 k3 k4 k6 k7;have G8:Hid (Fr Y w w8/\aj Y Y3 w/\bf P es env (.error x) Y3 w8/\aZ w8 Y3 w.heap.size p TA tc UA uc/\aF w8 Y3 A2 c2 t1/\aF w8 Y3 A4 c4 (aH _)/\aF w8 Y3 A6 c6 (aH _)/\aF w8 Y3 A8 c8 (aH _)):=aB ⟨Fr.new G7.out.1 (Fr.below hb) G7.out.2.1,aj.trans G7.out.2.1 (aj.refl _ _) G7.out.1.size,(G7.out.2.2.1.later hb),G7.out.2.2.2.1.fr (Fr.below hb) (aj.refl _ _),G7.out.2.2.2.2.1.fr (Fr.below hb) (aj.refl _ _),G7.out.2.2.2.2.2.1.fr (Fr.below hb) (aj.refl _ _),G7.out.2.2.2.2.2.2.fr (Fr.below hb) (aj.refl _ _),(aF.own hown (G7.out.2.2.1.lt))⟩;clear G7;obtain ⟨k0,k1,k2,k3,k4,k6,k7⟩:=G8.out.2.2.2.1.cells;clear hown hb
    have HQ:Hid (bI P es env Y r w (.returned (.slice A8 1 c8)) w8):=aB (by
     subst hr;exact ⟨Y3,G8.out.1,G8.out.2.1,G8.out.2.2.1,_,_,_,rfl⟩)
    go_wp2_with fail;go_ret;exact HQ.out
   ·have HX:=aB (HN.out env (.ok b1) _ Y2 w2 h2 G2.out.2.2.1)
    unfold pk at HX;go_wp2_with fail;refine HX.out.mono ?_;rintro e w3 ⟨Y3,hf,hy,hk,A3,c3,rfl,ht⟩;clear HX;clear k0 k1 k2 k3 k4 k6 k7;have G3:Hid (Fr Y w w3/\aj Y Y3 w/\bf P es env (.ok b2) Y3 w3/\aZ w3 Y3 w.heap.size p TA tc UA uc/\aF w3 Y3 A2 c2 t1/\aF w3 Y3 A3 c3 t2):=aB ⟨Fr.new G2.out.1 hf G2.out.2.1,aj.trans G2.out.2.1 hy G2.out.1.size,hk,G2.out.2.2.2.1.fr hf hy,G2.out.2.2.2.2.fr hf hy,ht⟩;clear G2;obtain ⟨k0,k1,k2,k3,k4,k6,k7⟩:=G3.out.2.2.2.1.cells;clear hf hy hk ht;rw [HI.out.1,HI.out.2] at hr;have HRR:=aB hr;clear hr;go_wp2_with fail;refine (iZ _ w3).mono ?_;rintro e w4 ⟨A4,c4,rfl,hown,hb⟩;clear k0 k1 k2 k3 k4 k6 k7;have G4:Hid (Fr Y w w4/\aj Y Y3 w/\bf P es env (.ok b2) Y3 w4/\aZ w4 Y3 w.heap.size p TA tc UA uc/\aF w4 Y3 A2 c2 t1/\aF w4 Y3 A3 c3 t2/\aF w4 Y3 A4 c4 (aH _)):=aB ⟨Fr.new G3.out.1 (Fr.below hb) G3.out.2.1,aj.trans G3.out.2.1 (aj.refl _ _) G3.out.1.size,(G3.out.2.2.1.later hb),G3.out.2.2.2.1.fr (Fr.below hb) (aj.refl _ _),G3.out.2.2.2.2.1.fr (Fr.below hb) (aj.refl _ _),G3.out.2.2.2.2.2.fr (Fr.below hb) (aj.refl _ _),(aF.own hown (G3.out.2.2.1.lt))⟩;clear G3;obtain ⟨k0,k1,k2,k3,k4,k6,k7⟩:=G4.out.2.2.2.1.cells;clear hown hb;have HX:=aB (nK P es env b2 A2 A4 c2 c4 t1 (aH _) aN Y3 w4 G4.out.2.2.1 G4.out.2.2.2.2.1.ty G4.out.2.2.2.2.2.2.ty (HD.out _ _ _ _ h1) (CP _ (by decide)));unfold pk at HX;go_wp2_with fail;refine HX.out.mono ?_;rintro e w5 ⟨⟨v5,rfl⟩,hf,hk⟩;clear HX;clear k0 k1 k2 k3 k4 k6 k7
    have G5:Hid (Fr Y w w5/\aj Y Y3 w/\bf P es env (og t1 (aH _) aN b2) Y3 w5/\aZ w5 Y3 w.heap.size p TA tc UA uc/\aF w5 Y3 A2 c2 t1/\aF w5 Y3 A3 c3 t2/\aF w5 Y3 A4 c4 (aH _)):=aB ⟨Fr.new G4.out.1 hf G4.out.2.1,aj.trans G4.out.2.1 (aj.refl _ _) G4.out.1.size,hk,G4.out.2.2.2.1.fr hf (aj.refl _ _),G4.out.2.2.2.2.1.fr hf (aj.refl _ _),G4.out.2.2.2.2.2.1.fr hf (aj.refl _ _),G4.out.2.2.2.2.2.2.fr hf (aj.refl _ _)⟩;clear G4;obtain ⟨k0,k1,k2,k3,k4,k6,k7⟩:=G5.out.2.2.2.1.cells;clear hf hk
    cases hag:jR t1 (aH _) with
    |true=>
     have hk2:bf P es env (.ok b2) Y3 w5:=by have hk:=G5.out.2.2.1;unfold og at hk;rw [hag,if_pos rfl] at hk;exact hk
     go_wp2_with fail;refine (iZ _ w5).mono ?_;rintro e w6 ⟨A6,c6,rfl,hown,hb⟩;clear k0 k1 k2 k3 k4 k6 k7;have G6:Hid (Fr Y w w6/\aj Y Y3 w/\bf P es env (.ok b2) Y3 w6/\aZ w6 Y3 w.heap.size p TA tc UA uc/\aF w6 Y3 A2 c2 t1/\aF w6 Y3 A3 c3 t2/\aF w6 Y3 A4 c4 (aH _)/\aF w6 Y3 A6 c6 (aH _)):=aB ⟨Fr.new G5.out.1 (Fr.below hb) G5.out.2.1,aj.trans G5.out.2.1 (aj.refl _ _) G5.out.1.size,(hk2.later hb),G5.out.2.2.2.1.fr (Fr.below hb) (aj.refl _ _),G5.out.2.2.2.2.1.fr (Fr.below hb) (aj.refl _ _),G5.out.2.2.2.2.2.1.fr (Fr.below hb) (aj.refl _ _),G5.out.2.2.2.2.2.2.fr (Fr.below hb) (aj.refl _ _),(aF.own hown (hk2.lt))⟩;clear G5;obtain ⟨k0,k1,k2,k3,k4,k6,k7⟩:=G6.out.2.2.2.1.cells;clear hown hb hk2;have HX:=aB (nK P es env b2 A3 A6 c3 c6 t2 (aH _) aN Y3 w6 G6.out.2.2.1 G6.out.2.2.2.2.2.1.ty G6.out.2.2.2.2.2.2.2.ty (HD.out _ _ _ _ h2) (CP _ (by decide)));unfold pk at HX;go_wp2_with fail;refine HX.out.mono ?_;rintro e w7 ⟨⟨v7,rfl⟩,hf,hk⟩;clear HX;clear k0 k1 k2 k3 k4 k6 k7;have G7:Hid (Fr Y w w7/\aj Y Y3 w/\bf P es env (og t2 (aH _) aN b2) Y3 w7/\aZ w7 Y3 w.heap.size p TA tc UA uc/\aF w7 Y3 A2 c2 t1/\aF w7 Y3 A3 c3 t2/\aF w7 Y3 A4 c4 (aH _)/\aF w7 Y3 A6 c6 (aH _)):=aB ⟨Fr.new G6.out.1 hf G6.out.2.1,aj.trans G6.out.2.1 (aj.refl _ _) G6.out.1.size,hk,G6.out.2.2.2.1.fr hf (aj.refl _ _),G6.out.2.2.2.2.1.fr hf (aj.refl _ _),G6.out.2.2.2.2.2.1.fr hf (aj.refl _ _),G6.out.2.2.2.2.2.2.1.fr hf (aj.refl _ _),G6.out.2.2.2.2.2.2.2.fr hf (aj.refl _ _)⟩;clear G6
     obtain ⟨k0,k1,k2,k3,k4,k6,k7⟩:=G7.out.2.2.2.1.cells;clear hf hk;go_wp2_with fail;refine (iZ _ w7).mono ?_;rintro e w8 ⟨A8,c8,rfl,hown,hb⟩;clear k0 k1 k2 k3 k4 k6 k7;have G8:Hid (Fr Y w w8/\aj Y Y3 w/\bf P es env (og t2 (aH _) aN b2) Y3 w8/\aZ w8 Y3 w.heap.size p TA tc UA uc/\aF w8 Y3 A2 c2 t1/\aF w8 Y3 A3 c3 t2/\aF w8 Y3 A4 c4 (aH _)/\aF w8 Y3 A6 c6 (aH _)/\aF w8 Y3 A8 c8 (aH _)):=aB ⟨Fr.new G7.out.1 (Fr.below hb) G7.out.2.1,aj.trans G7.out.2.1 (aj.refl _ _) G7.out.1.size,(G7.out.2.2.1.later hb),G7.out.2.2.2.1.fr (Fr.below hb) (aj.refl _ _),G7.out.2.2.2.2.1.fr (Fr.below hb) (aj.refl _ _),G7.out.2.2.2.2.2.1.fr (Fr.below hb) (aj.refl _ _),G7.out.2.2.2.2.2.2.1.fr (Fr.below hb) (aj.refl _ _),G7.out.2.2.2.2.2.2.2.fr (Fr.below hb) (aj.refl _ _),(aF.own hown (G7.out.2.2.1.lt))⟩;clear G7;obtain ⟨k0,k1,k2,k3,k4,k6,k7⟩:=G8.out.2.2.2.1.cells;clear hown hb
     cases U9:jR t2 (aH _) with
     |true=>
      have HQ:Hid (bI P es env Y r w (.returned (.slice A8 1 c8)) w8):=aB (by
       have hk:=G8.out.2.2.1;have hr:=HRR.out;rw [if_pos ⟨hag,U9⟩] at hr;unfold og at hk;rw [if_pos U9] at hk;injection hr with hr
       subst hr;exact ⟨Y3,G8.out.1,G8.out.2.1,hk,A8,c8,rfl,G8.out.2.2.2.2.2.2.2.2⟩)
      go_wp2_with fail;go_ret
      exact HQ.out
     |false=>
      have HQ:Hid (bI P es env Y r w (.returned (.slice A8 1 c8)) w8):=aB (by
       have hk:=G8.out.2.2.1;have hr:=HRR.out;rw [if_neg (by rw [U9];simp)] at hr;unfold og at hk;rw [if_neg (by rw [U9];simp)] at hk;injection hr with hr
       subst hr;exact ⟨Y3,G8.out.1,G8.out.2.1,hk,_,_,_,rfl⟩)
      go_wp2_with fail;go_ret
      exact HQ.out
    |false=>
     have hk2:bf P es env (.error (aN,9)) Y3 w5:=by have hk:=G5.out.2.2.1;unfold og at hk;rw [hag,if_neg (by simp)] at hk;exact hk
     go_wp2_with fail;refine (iZ _ w5).mono ?_;rintro e w6 ⟨A6,c6,rfl,hown,hb⟩;clear k0 k1 k2 k3 k4 k6 k7;have G6:Hid (Fr Y w w6/\aj Y Y3 w/\bf P es env (.error (aN,9)) Y3 w6/\aZ w6 Y3 w.heap.size p TA tc UA uc/\aF w6 Y3 A2 c2 t1/\aF w6 Y3 A3 c3 t2/\aF w6 Y3 A4 c4 (aH _)):=aB ⟨Fr.new G5.out.1 (Fr.below hb) G5.out.2.1,aj.trans G5.out.2.1 (aj.refl _ _) G5.out.1.size,(hk2.later hb),G5.out.2.2.2.1.fr (Fr.below hb) (aj.refl _ _),G5.out.2.2.2.2.1.fr (Fr.below hb) (aj.refl _ _),G5.out.2.2.2.2.2.1.fr (Fr.below hb) (aj.refl _ _),G5.out.2.2.2.2.2.2.fr (Fr.below hb) (aj.refl _ _)⟩;clear G5;obtain ⟨k0,k1,k2,k3,k4,k6,k7⟩:=G6.out.2.2.2.1.cells;clear hown hb hk2;have HX:=aB (gy P es env (aN,9) (.slice A3 t2.length c3) (.slice A6 1 c6) aN Y3 w6 G6.out.2.2.1);unfold pk at HX;go_wp2_with fail;refine HX.out.mono ?_;rintro e w7 ⟨⟨v7,rfl⟩,hf,hk⟩;clear HX;clear k0 k1 k2 k3 k4 k6 k7;have G7:Hid (Fr Y w w7/\aj Y Y3 w/\bf P es env (.error (aN,9)) Y3 w7/\aZ w7 Y3 w.heap.size p TA tc UA uc/\aF w7 Y3 A2 c2 t1/\aF w7 Y3 A3 c3 t2/\aF w7 Y3 A4 c4 (aH _)):=aB ⟨Fr.new G6.out.1 hf G6.out.2.1,aj.trans G6.out.2.1 (aj.refl _ _) G6.out.1.size,hk,G6.out.2.2.2.1.fr hf (aj.refl _ _),G6.out.2.2.2.2.1.fr hf (aj.refl _ _),G6.out.2.2.2.2.2.1.fr hf (aj.refl _ _),G6.out.2.2.2.2.2.2.fr hf (aj.refl _ _)⟩;clear G6;obtain ⟨k0,k1,k2,k3,k4,k6,k7⟩:=G7.out.2.2.2.1.cells;clear hf hk;go_wp2_with fail;refine (iZ _ w7).mono ?_;rintro e w8 ⟨A8,c8,rfl,hown,hb⟩;clear k0 k1 k2 k3 k4 k6 k7
     have G8:Hid (Fr Y w w8/\aj Y Y3 w/\bf P es env (.error (aN,9)) Y3 w8/\aZ w8 Y3 w.heap.size p TA tc UA uc/\aF w8 Y3 A2 c2 t1/\aF w8 Y3 A3 c3 t2/\aF w8 Y3 A4 c4 (aH _)/\aF w8 Y3 A8 c8 (aH _)):=aB ⟨Fr.new G7.out.1 (Fr.below hb) G7.out.2.1,aj.trans G7.out.2.1 (aj.refl _ _) G7.out.1.size,(G7.out.2.2.1.later hb),G7.out.2.2.2.1.fr (Fr.below hb) (aj.refl _ _),G7.out.2.2.2.2.1.fr (Fr.below hb) (aj.refl _ _),G7.out.2.2.2.2.2.1.fr (Fr.below hb) (aj.refl _ _),G7.out.2.2.2.2.2.2.fr (Fr.below hb) (aj.refl _ _),(aF.own hown (G7.out.2.2.1.lt))⟩;clear G7;obtain ⟨k0,k1,k2,k3,k4,k6,k7⟩:=G8.out.2.2.2.1.cells;clear hown hb
     have HQ:Hid (bI P es env Y r w (.returned (.slice A8 1 c8)) w8):=aB (by
      have hr:=HRR.out;rw [if_neg (by rw [hag];simp)] at hr;injection hr with hr
      subst hr;exact ⟨Y3,G8.out.1,G8.out.2.1,G8.out.2.2.1,_,_,_,rfl⟩)
     go_wp2_with fail;go_ret;exact HQ.out
open Go.RowKit Go.Shelf
attribute [local go_sem] Oper.semAt_some
instance:Inhabited Bn:=⟨⟨ByteArray.empty,none,0,0⟩⟩
abbrev Kh:=Nat×Bn
def Im (x:Kh):Array Value:=#[.int .i64 (x.1:Int),.agg #[.string x.2.s,.slice x.2.A x.2.n x.2.c]]
def CY (bs:List Bn) (k:Nat):Kh:=(bs.length-1-k,(bs[bs.length-1-k]?).getD default)
def l9 (bs:List Bn) (k:Nat):List Kh:=(List.range k).map (CY bs)
theorem CZ (bs:List Bn) (k:Nat):l9 bs (k+1)=l9 bs k++[CY bs k]:=by simp [l9,List.range_succ]
theorem Fp (bs:List Bn) (k:Nat):(l9 bs k).length=k:=by simp [l9]
structure sw (N R:Nat) (W W':World):Prop where
 size:W.heap.size<=W'.heap.size
 block:∀k,k<N->k≠R->W'.heap[k]?=W.heap[k]?
theorem sw.refl (N R:Nat) (W:World):sw N R W W:=⟨aK _,fun _ _ _=>rfl⟩
theorem sw.trans {N R:Nat} {A B C:World} (h:sw N R A B) (k:sw N R B C):sw N R A C:=⟨vV h.size k.size,fun q h1 h2=>(k.block q h1 h2).trans (h.block q h1 h2)⟩
theorem sw.cell {N R:Nat} {A B:World} (h:sw N R A B) {b off:Nat} (hb:b<N) (hr:b≠R):B.cell? ⟨b,off,none⟩=A.cell? ⟨b,off,none⟩:=by simp [DI,h.block b hb hr]
theorem sw.put {N R:Nat} {w:World} (hN:N<=w.heap.size) (W:World) (l:Nat) (o o':Obj) (hl:w.heap.size<=l) (h:W.heap[l]?=some o) (_:o.isCells=false) (_:o.isWalk=false):sw N R W (W.putObj l o'):=
 ⟨(grownBy_putObj' W l o').size,fun k hk _=>(grownBy_putObj' W l o').block k (by have:=(aai.1 h).1;omega) (fun e=>by injection e with e;omega)⟩
theorem sw.of_below {N R:Nat} {A B:World} (h:Below N A B):sw N R A B:=⟨h.size,fun k hk _=>h.block k hk⟩
def SQ (n0 R:Nat) (W:World) (A:Option Addr) (bs:List Bn):Prop:=bs≠[]->∃b off,A=some ⟨b,off,none⟩/\b<n0/\b≠R/\∀j,j<bs.length->W.cell? ⟨b,off+j*2,none⟩=some (.string ((bs[j]?).getD default).s)/\W.cell? ⟨b,off+j*2+1,none⟩=some (.slice ((bs[j]?).getD default).A ((bs[j]?).getD default).n ((bs[j]?).getD default).c)
theorem acP (n:Nat) (hn:1<=n) (l Bs n0 R cap:Nat) (A:Option Addr) (bs:List Bn) (hlen:bs.length<=1000000) (J Jx:List Kh->World->Prop)
  (hY:∀pre x W,J pre W->pre.length<bs.length->YieldAt Fence.wide (n-1) Tryz.prog l (Im x) W fun e W'=>
   (e= .returned (.bool true)/\J (pre++[x]) W'/\sw n0 R W W')\/(e= .returned (.bool false)/\Jx (pre++[x]) W'))
  (W:World) (hBl:Bs<n0) (hBr:Bs≠R) (ze:W.cell? ⟨Bs,0,none⟩=some (.slice A bs.length cap)) (hc:SQ n0 R W A bs) (h0:J [] W):
  CallsIn Fence.wide n Tryz.prog 119 #[.func (.yield l) #[] #[],.pointer (some ⟨Bs,0,none⟩)] W fun e W'=>(∃v,e= .returned v)/\
   ((∃ys,ys=l9 bs bs.length/\J ys W')\/(∃pre,(∃k,k<=bs.length/\pre=l9 bs k)/\Jx pre W')):=by
 refine callsIn_of_wp Tryz.func119 rfl trivial ?_ rfl;simp only [Tryz.ntmps119,List.size_toArray,oG,aas,Nat.reduceAdd,Nat.reduceSub,Array.replicate_succ,Array.replicate_zero,List.push_toArray,List.append_toArray,aat,uK];obtain ⟨len,hl⟩:∃len,len=bs.length:=⟨_,rfl⟩;rw [<-hl] at ze hlen ⊢;have HL:=aB (DF hl (DF hY hc));clear hl hY hc
 gi_wp2
 gi_loopw [3] (fun i wr=>∃k m:Nat,k+m=len/\i= .int .i64 ((m:Int)-1)/\J (l9 bs k) wr/\sw n0 R W wr)
  (fun i _=>(intOf i+1).toNat)
 case atStart=>exact ⟨0,len,by omega,by simp,h0,sw.refl _ _ _⟩
 case round=>
  obtain ⟨k,m,hkm,rfl,hJs,hnx⟩:=hrel;have aqx:=(hnx.cell (off:=0) hBl hBr).trans ze
  cases m with
  |succ m=>
   obtain ⟨y,hy0,hym⟩:∃y,CY bs k=(m,y)/\y=(bs[m]?).getD default:=⟨_,by unfold CY;rw [<-HL.out.1,show len-1-k=m by omega],rfl⟩;have hsucc:l9 bs (k+1)=l9 bs k++[(m,y)]:=by rw [CZ,hy0]
   obtain ⟨fn,tmps,assign,body,hy,hR⟩:=HL.out.2.1 _ (m,y) wr hJs (by rw [Fp,<-HL.out.1];omega);dsimp only [Im] at hy;obtain ⟨b,off,rfl,hbn,hbr,hcs⟩:=HL.out.2.2 (by intro e;have:=HL.out.1;rw [e] at this;simp at this;omega);obtain ⟨d0,d1⟩:=hcs m (by rw [<-HL.out.1];omega);rw [<-hym] at d0 d1;have e0:=(hnx.cell (off:=off+m*2) hbn hbr).trans d0;have e1:=(hnx.cell (off:=off+m*2+1) hbn hbr).trans d1;have HS:=aB (DF hsucc hnx);have HR:=aB hR;have hml:m<len:=by omega
   clear hcs d0 d1 hy0 hym hsucc hR hJs hnx
   gi_wp2
   refine HR.out.mono ?_;rintro e W3 (⟨rfl,hJ3,hk3⟩|⟨rfl,hJx3⟩)
   ·have HJ:=aB (DF hJ3 (HS.out.2.trans hk3))
    clear hJ3 hk3
    gi_wp2
    go_roundw
    case rel=>exact ⟨k+1,m,by omega,by simp,by rw [HS.out.1];exact HJ.out.1,HJ.out.2⟩
    case measure=>simp [intOf]
   ·have HJ:=aB hJx3
    clear hJx3
    gi_wp2
    refine bodyPost_ret (results_none rfl _ _ _) rfl ?_
    exact ⟨⟨_,rfl⟩,.inr ⟨_,⟨k+1,by omega,HS.out.1.symm⟩,HJ.out⟩⟩
  |zero=>
   obtain rfl:k=len:=by omega
   have HJ:=aB hJs;clear hJs
   gi_wp2
   go_end0;exact ⟨⟨_,rfl⟩,.inl ⟨_,rfl,by have:=HJ.out;rwa [HL.out.1] at this⟩⟩
theorem SQ.keep {n0 R:Nat} {W W':World} {A:Option Addr} {bs:List Bn} (h:SQ n0 R W A bs) (k:sw n0 R W W'):SQ n0 R W' A bs:=fun hne=>by
 obtain ⟨b,off,e,h1,h2,h3⟩:=h hne;exact ⟨b,off,e,h1,h2,fun j hj=>⟨(k.cell h1 h2).trans (h3 j hj).1,(k.cell h1 h2).trans (h3 j hj).2⟩⟩
theorem La (n:Nat) (hn:1<=n) (Bs n0 R cap:Nat) (A:Option Addr) (bs:List Bn) (hlen:bs.length<=1000000) (w:World) (hn0:n0<=w.heap.size) (hBl:Bs<n0) (hBr:Bs≠R) (ze:w.cell? ⟨Bs,0,none⟩=some (.slice A bs.length cap)) (hc:SQ n0 R w A bs):
  SeqStopsK Fence.wide n Tryz.prog 119 #[.pointer (some ⟨Bs,0,none⟩)] Im (sw n0 R) (fun ys=>ys=l9 bs bs.length) (fun pre=>∃k,k<=bs.length/\pre=l9 bs k) bs.length w:=fun l J Jx W hW _ _ hY h0=>
 acP n hn l Bs n0 R cap A bs hlen J Jx hY W hBl hBr (((sw.of_below (R:=R) (hW.mono hn0)).cell hBl hBr).trans ze) (hc.keep (sw.of_below (hW.mono hn0))) h0
theorem Z9 (n:Nat) (A:Option Addr) (len cap:Nat) (w:World):
  CallsIn Fence.wide n Tryz.prog 95 #[.slice A len cap] w fun e w'=>e= .returned (.func (.func 119) #[] #[.pointer (some ⟨w.heap.size,0,none⟩)])/\w'=w.alloc (.cells #[.slice A len cap] 22):=by
 refine callsIn_of_wp Tryz.func95 rfl trivial ?_ rfl;simp only [Tryz.ntmps95,List.size_toArray,oG,aas,Nat.reduceAdd,Nat.reduceSub,Array.replicate_succ,Array.replicate_zero,List.push_toArray,List.append_toArray,aat,uK]
 gi_wp2
 go_ret;exact ⟨rfl,rfl⟩
theorem Lc (w:World) (c0 c1 c2:Array Value) (t0 t1 t2:TypeId) (W:World) (hW:W=((w.alloc (.cells c0 t0)).alloc (.cells c1 t1)).alloc (.cells c2 t2)):
  W.heap[w.heap.size]?=some (.cells c0 t0 (0,0))/\W.heap[w.heap.size+1]?=some (.cells c1 t1 (0,0))/\W.heap[w.heap.size+1+1]?=some (.cells c2 t2 (0,0)):=by
 subst hW;obtain ⟨w1,h1⟩:∃w1,w1=w.alloc (.cells c0 t0):=⟨_,rfl⟩;obtain ⟨w2,h2⟩:∃w2,w2=w1.alloc (.cells c1 t1):=⟨_,rfl⟩;have s1:w1.heap.size=w.heap.size+1:=by rw [h1];simp
 have s2:w2.heap.size=w.heap.size+1+1:=by rw [h2,World.size_alloc,s1]
 rw [<-h1,<-h2];have n0:=heap_alloc_new w (.cells c0 t0);have n1:=heap_alloc_new w1 (.cells c1 t1);have n2:=heap_alloc_new w2 (.cells c2 t2);have e1:=fun q (hq:q<w1.heap.size)=>FW w1 (.cells c1 t1) q hq;have e2:=fun q (hq:q<w2.heap.size)=>FW w2 (.cells c2 t2) q hq;rw [<-h1] at n0;rw [<-h2,s1] at n1;rw [s2] at n2;rw [<-h2] at e1;exact ⟨by rw [e2 _ (by omega),e1 _ (by omega),n0],by rw [e2 _ (by omega),n1],n2⟩
theorem rR {β:Type} (B b:Nat) (f:β->Obj) (hc:∀s,(f s).isCells=true):OwnFrom B (fun (s:β) W=>W.heap[b]?=some (f s)):=fun s W W' row hs hg hr=>by
 have hb:b<W.heap.size:=(aai.1 hs).1;refine (hg.block b hb fun e=>?_).trans hs;obtain ⟨_,o,ho,hc2⟩:=hr b e.symm;rw [hs] at ho;injection ho with ho
 rw [<-ho,hc s] at hc2
 cases hc2
def NmI (w:World) (p:Pt) (TA:Option Addr) (tc:Nat) (UA:Option Addr) (uc:Nat) (pre:List Kh) (W:World):Prop:=
 (∀x∈pre,x.2.s.toList≠p.nm.toList)/\W.heap[w.heap.size]?=some (.cells #[.int .i64 p.k,.string p.lb,.string p.nm,.string p.bd,.int .i64 p.mn,.int .i64 p.num,.slice TA p.T.length tc,.slice UA p.U.length uc] 33 (0,0))/\W.heap[w.heap.size+1]?=some (.cells #[.slice none 0 0] 28 (0,0))/\Below w.heap.size w W/\w.heap.size+3<=W.heap.size
def NmX (w:World) (p:Pt) (c:Code) (pre:List Kh) (W:World):Prop:=
 (∃pre' x,c= .ret/\pre=pre'++[x]/\(∀y∈pre',y.2.s.toList≠p.nm.toList)/\x.2.s.toList=p.nm.toList/\W.heap[w.heap.size+1]?=some (.cells #[.slice x.2.A x.2.n x.2.c] 28 (0,0)))/\Below w.heap.size w W
theorem Z_ (w:World) (p:Pt) (TA:Option Addr) (tc:Nat) (UA:Option Addr) (uc:Nat) (B:Nat) (hB:w.heap.size<=B):OwnFrom B (NmI w p TA tc UA uc):=fun _s W W' row hs hg hr=>
 ⟨hs.1,rR B _ (fun _:Unit=>_) (fun _=>rfl) () W W' row hs.2.1 hg hr,rR B _ (fun _:Unit=>_) (fun _=>rfl) () W W' row hs.2.2.1 hg hr,ownFrom_below (β:=Unit) (aK _) hB () W W' row hs.2.2.2.1 hg hr,vV hs.2.2.2.2 hg.size⟩
theorem aac (w:World) (p:Pt) (B:Nat) (hB:w.heap.size<=B) (c:Code):OwnFrom B (NmX w p c):=fun s W W' row hs hg hr=>by
 obtain ⟨⟨pre',x,h1,h2,h3,h4,h5⟩,h6⟩:=hs;exact ⟨⟨pre',x,h1,h2,h3,h4,rR B _ (fun _:Unit=>_) (fun _=>rfl) () W W' row h5 hg hr⟩,ownFrom_below (β:=Unit) (aK _) hB () W W' row h6 hg hr⟩
theorem Fq {N:Nat} {w W:World} (h:Below N w W) (o:Obj) (hN:N<=w.heap.size:=by exact aK _):Below N w (W.alloc o):=h.alloc (vV hN h.size) o
theorem bf.frQ {P:Nat} {es:List Pt} {env:Env} {s:Am} {Y Q:Nat->Prop} {w w':World} (h:bf P es env s Y w) (k:Fr Q w w') (hQ:∀q,Q q->¬iQ w q 49/\¬iQ w q 33/\¬iQ w q 36/\¬iQ w q 60/\¬CJ Y q):bf P es env s Y w':=by
 obtain ⟨a,p,e,⟨EA,ec,VA,vc,bs,h⟩,hr⟩:=h;refine ⟨a,p,e,⟨EA,ec,VA,vc,bs,?_⟩,hr⟩
 have ty:∀{A:Option Addr} {t:List Nd},uO w Y A t->uO w' Y A t:=fun {A t} ht hne=>by
  obtain ⟨b,o,e,hb,hy,hr,ho⟩:=ht hne;have hbk:=k.block b hb fun h2=>ho.elim (hQ b h2).1 (hQ b h2).2.2.2.2;exact ⟨b,o,e,Yy hb k.size,hy,hr.mono fun off=>by simp [DI,hbk],ho.imp (lG hbk) fun h=>h⟩
 have hP:=h.lt P ((h.y P).2 (.inl rfl));refine ⟨(k.block P hP fun h5=>(hQ P h5).2.2.2.1 ⟨_,_,h.blk⟩).trans h.blk,ay.fr h.own k (fun a ha h5=>(hQ _ h5).2.2.1 (ay.rO h.own ha)),?_,⟨h.en.1,fun i b e hb he=>⟨(h.en.2 i b e hb he).1,(h.en.2 i b e hb he).2.1,⟨ty (h.en.2 i b e hb he).2.2.ty,(h.en.2 i b e hb he).2.2.cap⟩⟩⟩,h.y,h.np,h.el,h.vl⟩;intro i p hp;obtain ⟨b,o,e,hb,hy,hr,ho⟩:=h.ex i p hp;have hbk:=k.block b hb fun h5=>ho.elim (hQ b h5).2.1 (hQ b h5).2.2.2.2;refine ⟨b,o,e,Yy hb k.size,hy,?_,ho.imp (lG hbk) fun h=>h⟩;obtain ⟨TA,tc,UA,uc,f1,f2,f3⟩:=hr;refine ⟨TA,tc,UA,uc,⟨ty f1.ty,f1.cap⟩,⟨ty f2.ty,f2.cap⟩,?_⟩;simp only [DI,hbk] at f3 ⊢;exact f3
theorem Qj {α:Type} {p:α->Bool}:∀{l:List α} {i:Nat} {x:α},l[i]?=some x->p x=true->(∀j y,j<i->l[j]?=some y->p y=false)->l.find? p=some x
 |[],i,x,h,_,_=>by simp at h
 |y::ys,0,x,h,hp,_=>by
  simp at h;subst h
  simp [hp]
 |y::ys,i+1,x,h,hp,ht=>by
  have h0:=ht 0 y (by omega) rfl;rw [OO] at h;simp only [List.find?_cons,h0];exact Qj h hp fun j z hj hz=>ht (j+1) z (by omega) (by rw [OO];exact hz)
theorem Nc {w:World} {Y:Nat->Prop} {bs:List Bn} {env:Env} (h:dY w Y bs env) {j:Nat} (hj:j<bs.length):∃b e,bs[j]?=some b/\env.reverse[bs.length-1-j]?=some e/\b.s=e.1/\b.n=e.2.length/\aF w Y b.A b.c e.2:=by
 obtain ⟨b,hb⟩:=aJ hj;obtain ⟨e,he⟩:=aJ (l:=env) (i:=j) (by rw [<-h.1];exact hj);obtain ⟨h1,h2,h3⟩:=h.2 j b e hb he;refine ⟨b,e,hb,?_,h1,h2,h3⟩;rw [List.getElem?_reverse (by rw [<-h.1];omega),<-h.1,show bs.length-1-(bs.length-1-j)=j by omega];exact he
theorem Fu {w:World} {Y:Nat->Prop} {bs:List Bn} {env:Env} {s:ByteArray} (h:dY w Y bs env) (hn:∀x∈l9 bs bs.length,x.2.s.toList≠s.toList):l7 env s=none:=by
 unfold l7;rw [Option.map_eq_none_iff,List.find?_eq_none];intro e he hq;obtain ⟨i,hi⟩:=List.getElem?_of_mem he;have hil:=aP hi;rw [List.length_reverse,<-h.1] at hil;obtain ⟨b,e2,hb,he2,h1,_,_⟩:=Nc h (j:=bs.length-1-i) (by omega);rw [show bs.length-1-(bs.length-1-i)=i by omega,hi] at he2;injection he2 with he2
 subst he2;have hm:CY bs i∈l9 bs bs.length:=aaw.2 ⟨i,Xt.2 hil,rfl⟩;refine hn _ hm ?_;unfold CY;rw [hb];show b.s.toList=_;rw [h1];exact eq_of_beq hq
theorem Ld {w:World} {Y:Nat->Prop} {bs:List Bn} {env:Env} {s:ByteArray} (h:dY w Y bs env) {k:Nat} {pre pre':List Kh} {x:Kh} (hk:k<=bs.length) (hp:pre=l9 bs k) (he:pre=pre'++[x]) (hno:∀y∈pre',y.2.s.toList≠s.toList) (heq:x.2.s.toList=s.toList):
  ∃t,l7 env s=some t/\x.2.n=t.length/\aF w Y x.2.A x.2.c t:=by
 have hl:k=pre'.length+1:=by
  have:=congrArg List.length (hp.symm.trans he);rw [Fp,List.length_append] at this;exact this
 subst hl;rw [CZ] at hp;have h2:=List.append_inj' (he.symm.trans hp) rfl;obtain ⟨h3,h4⟩:=h2;injection h4 with h4 _
 obtain ⟨b,e,hb,he2,h5,h6,h7⟩:=Nc h (j:=bs.length-1-pre'.length) (by omega);rw [show bs.length-1-(bs.length-1-pre'.length)=pre'.length by omega] at he2
 have hx2:x.2=b:=by
  rw [h4];unfold CY;rw [hb];rfl
 rw [hx2] at heq ⊢;refine ⟨e.2,?_,h6,h7⟩;unfold l7;rw [Qj he2 (by rw [<-h5];simp [heq]) ?_]
 ·rfl
 ·intro j y hj hy
  obtain ⟨b3,e3,hb3,P_,g1,_,_⟩:=Nc h (j:=bs.length-1-j) (by omega);rw [show bs.length-1-(bs.length-1-j)=j by omega,hy] at P_;injection P_ with P_
  subst P_
  have hm:CY bs j∈pre':=by
   rw [h3];exact aaw.2 ⟨j,Xt.2 hj,rfl⟩
  have:=hno _ hm;unfold CY at this;rw [hb3] at this;rw [<-g1];simpa using this
theorem W_ (P:Nat) (es:List Pt) (env:Env) (p:Pt) (aN a:Nat) (r:fF) (Y:Nat->Prop) (w:World) (TA UA:Option Addr) (tc uc:Nat) (h:bf P es env (.ok a) Y w) (hT:aF w Y TA tc p.T) (hU:aF w Y UA uc p.U) (hm:xu env p aN a=some r):
  Calls Tryz.prog 65 #[pk P,pv p TA tc UA uc,.int .i64 aN] w (bI P es env Y r w):=by
 have vL:Hid (P<w.heap.size):=aB (h.lt P h.yP);have H:=aB (DF h (DF hT hU));obtain ⟨a',p',e',⟨EA,ec,VA,vc,bs,hmk⟩,ha,hp,he⟩:=h;have HM:=aB (DF hmk hm);obtain ⟨_,_,c2,_,_⟩:=hmk.cells;have W9:=hmk.lt P ((hmk.y P).2 (.inl rfl));have hbl:bs.length<=1000000:=by rw [hmk.en.1];exact hmk.vl
 have h1:((w.alloc (.cells #[.int .i64 p.k,.string p.lb,.string p.nm,.string p.bd,.int .i64 p.mn,.int .i64 p.num,.slice TA p.T.length tc,.slice UA p.U.length uc] 33)).alloc (.cells #[.slice none 0 0] 28)).cell? ⟨P,2,none⟩=some (.slice VA bs.length vc):=by
  rw [<-c2];exact (au (au (aI _ _) _) _:Below w.heap.size w _).cell W9
 clear ha hp he hmk hT hU hm c2;refine (callsIn_wide (n:=9)).1 ?_;unfold pk pv;refine callsIn_of_wp_marks Tryz.func65 rfl trivial ?_ rfl;simp only [Tryz.ntmps65,List.size_toArray,oG,aas,Nat.reduceAdd,Nat.reduceSub,Array.replicate_succ,Array.replicate_zero,List.push_toArray,List.append_toArray,aat,uK]
 gi_wp2
 refine ⟨trivial,?_⟩;refine (Z9 8 VA bs.length vc _).mono ?_;rintro e w' ⟨rfl,rfl⟩;clear h1;obtain ⟨W0,hW0⟩:∃W0,W0=((w.alloc (.cells #[.int .i64 p.k,.string p.lb,.string p.nm,.string p.bd,.int .i64 p.mn,.int .i64 p.num,.slice TA p.T.length tc,.slice UA p.U.length uc] 33)).alloc (.cells #[.slice none 0 0] 28)).alloc (.cells #[.slice VA bs.length vc] 22):=⟨_,rfl⟩;have hsz:W0.heap.size=w.heap.size+3:=by rw [hW0];simp
 have hB0:Below w.heap.size w W0:=by rw [hW0];exact au (au (au (aI _ _) _) _) _
 obtain ⟨q0,q1,q2⟩:=Lc w _ _ _ _ _ _ W0 hW0;rw [<-hW0];clear hW0
 gi_wp2
 have HQ:=aB (DF hsz (DF hB0 (DF q0 (DF q1 q2))));have hbs:W0.cell? ⟨w.heap.size+1+1,0,none⟩=some (.slice VA bs.length vc):=by simp [DI,q2]
 have hbw:SQ (w.heap.size+3) (w.heap.size+1) W0 VA bs:=fun hne=>by
  obtain ⟨b,o,e,hb,hr⟩:=(ay.read tu HM.out.1.own) hne;refine ⟨b,o,e,by omega,by omega,fun j hj=>?_⟩;have hx:bs[j]?=some bs[j]:=List.getElem?_eq_getElem hj;have h0:=hr j _ hx 0 _ rfl;have h1:=hr j _ hx 1 _ rfl;rw [hx];exact ⟨(hB0.cell hb).trans h0,(hB0.cell hb).trans h1⟩
 refine wpIn_rangeFunc_ownH rfl (by decide) (gf:=119) (lb:=#[.pointer (some ⟨w.heap.size+1+1,0,none⟩)]) rfl trivial (enters_of Tryz.func119 (by kernel_rfl) rfl)
  (La 8 (by decide) (w.heap.size+1+1) (w.heap.size+3) (w.heap.size+1) vc VA bs hbl W0 (by omega) (by omega) (by omega) hbs hbw) sw.trans (sw.put (by omega)) (aI _ _) (fun _=>rfl)
  (NmI w p TA tc UA uc) (NmX w p) (Z_ w p TA tc UA uc W0.heap.size (by omega)) (fun c=>aac w p W0.heap.size (by omega) c)
  ⟨fun x hx=>by simp at hx,q0,q1,hB0,by omega⟩
  (fun x a2 W=>∃Bx,w.heap.size+3<=Bx/\W.heap[Bx]?=some (.cells #[.string x.2.s,.slice x.2.A x.2.n x.2.c] 36 (0,0))/\a2={tmps:=#[.pointer (some ⟨P,0,none⟩),.agg #[.int .i64 p.k,.string p.lb,.string p.nm,.string p.bd,.int .i64 p.mn,.int .i64 p.num,.slice TA p.T.length tc,.slice UA p.U.length uc],.int .i64 (aN:Int),undef,.pointer (some ⟨w.heap.size,0,none⟩),undef,.pointer (some ⟨w.heap.size+1,0,none⟩),undef,.pointer (some ⟨Bx,0,none⟩),.pointer (some ⟨P,0,none⟩),.pointer (some ⟨P,0,none⟩),.pointer (some ⟨P,2,none⟩),.slice VA bs.length vc,.func (.func 119) #[] #[.pointer (some ⟨w.heap.size+1+1,0,none⟩)],.int .i64 (x.1:Int),.agg #[.string x.2.s,.slice x.2.A x.2.n x.2.c],undef,undef,undef,undef,undef,undef,undef,undef,undef,undef],defers:=[]})
  (fun x a2 _ X Y row hs hg hr=>by
   obtain ⟨Bx,e1,e2,e3⟩:=hs;exact ⟨Bx,e1,rR W0.heap.size Bx (fun _:Unit=>_) (fun _=>rfl) () X Y row e2 hg hr,e3⟩)
  ?assign ?body ?done ?stop
 case assign=>
  rintro l pre x W K hI hK;have HK:=aB (DF hI hK);clear hI hK;unfold Im
  gi_wp2
  have hzW:=HK.out.1.2.2.2.2;exact HK.out.2 _ _ ((KeepsOthers.alloc _ _).from _) ⟨by simp,fun k hk _=>FW _ _ _ (by omega)⟩ ⟨HK.out.1.1,(FW _ _ _ (by omega)).trans HK.out.1.2.1,(FW _ _ _ (by omega)).trans HK.out.1.2.2.1,Fq HK.out.1.2.2.2.1 _,by simp;omega⟩ ⟨W.heap.size,hzW,heap_alloc_new _ _,rfl⟩
 case body=>
  rintro l pre x a2 W hl ⟨r1,hr⟩ hI ⟨Bx,hBx,bX,rfl⟩ hlt;have b0:W.cell? ⟨Bx,0,none⟩=some (.string x.2.s):=by simp [DI,bX]
  have b1:W.cell? ⟨Bx,1,none⟩=some (.slice x.2.A x.2.n x.2.c):=by simp [DI,bX]
  have n2:W.cell? ⟨w.heap.size,2,none⟩=some (.string p.nm):=by simp [DI,hI.2.1]
  have cR:W.cell? ⟨w.heap.size+1,0,none⟩=some (.slice none 0 0):=by simp [DI,hI.2.2.1]
  have fR:W.frozen? ⟨w.heap.size+1,0,none⟩=false:=by simp [Gb,hI.2.2.1]
  have HI:=aB hI;by_cases heq:x.2.s.toList=p.nm.toList
  ·have hq:(x.2.s.toList==p.nm.toList)=true:=by simp [heq]
   have HE:=aB heq;clear heq hI hr hl hlt bX
   gi_wp2
   exact ⟨(KeepsOthers.setCell _ _ _).from _,⟨pre,x,rfl,rfl,HI.out.1,HE.out,heap_set HI.out.2.2.1 0 _⟩,HI.out.2.2.2.1.setCell (p:=⟨w.heap.size+1,0,none⟩) (by simp) _⟩
  ·have hq:(x.2.s.toList==p.nm.toList)=false:=by simp [heq]
   have HE:=aB heq;clear heq hI hr hl hlt bX
   gi_wp2
   refine ⟨KeepsFrom.refl _ _,sw.refl _ _ _,fun y hy=>?_,HI.out.2⟩;rcases List.mem_append.1 hy with hy|hy
   ·exact HI.out.1 y hy
   ·simp at hy
    subst hy;exact HE.out
 case done=>
  rintro D xs W hD hS hI hK;have cR:W.cell? ⟨w.heap.size+1,0,none⟩=some (.slice none 0 0):=by simp [DI,hI.2.2.1]
  have fR:W.frozen? ⟨w.heap.size+1,0,none⟩=false:=by simp [Gb,hI.2.2.1]
  have HI:=aB hI;have HK:=aB hK;clear hI;have Ib:=aB (jB P es env (.ok a) false aN 5 Y W (.inl (by decide)) (H.out.1.later HI.out.2.2.2.1));unfold pk at Ib;have hRn:l7 env p.nm=none:=Fu HM.out.1.en (by rw [<-hS];exact HI.out.1)
  have J4:Hid (r= .error (aN,5)):=aB (by
   have:=HM.out.2;unfold xu at this;rw [hRn] at this;injection this with this
   exact this.symm)
  clear hRn hK cR fR
  gi_wp2
  refine ⟨trivial,?_⟩;refine (callsIn_wide.2 Ib.out).mono ?_;rintro e w5 ⟨⟨v5,rfl⟩,uL,hk5⟩;have hRY:¬Y (w.heap.size+1):=fun hy=>by have:=H.out.1.lt _ hy;omega
  have hDY:¬Y D:=fun hy=>by have:=H.out.1.lt _ hy;omega
  have hDl:D<W.heap.size:=(aai.1 HK.out).1;have hRl:w.heap.size+1<W.heap.size:=by have:=HI.out.2.2.2.2;omega
  have r5:w5.heap[w.heap.size+1]?=some (.cells #[.slice none 0 0] 28 (0,0)):=(uL.block _ hRl hRY).trans HI.out.2.2.1;have d5:w5.heap[D]?=some (.deferred (some [])):=(uL.block _ hDl hDY).trans HK.out;have cR:w5.cell? ⟨w.heap.size+1,0,none⟩=some (.slice none 0 0):=by simp [DI,r5]
  have fR:w5.frozen? ⟨w.heap.size+1,0,none⟩=false:=by simp [Gb,r5]
  have H5:=aB (DF uL (DF hk5 (DF r5 d5)));clear uL hk5 r5 d5
  gi_wp2
  have hK':=(KeepsOthers.setCell w5 ⟨w.heap.size+1,0,none⟩ (.slice none 0 0)).same D _ H5.out.2.2.2 rfl;refine ⟨by simp,.inl ⟨_,_,rfl,run_takeDeferred hK',?_⟩⟩;have hne:D≠w.heap.size+1:=by omega
  have hb6:(w5.setCell ⟨w.heap.size+1,0,none⟩ (.slice none 0 0)).heap[w.heap.size+1]?=some (.cells #[.slice none 0 0] 28 (0,0)):=heap_set H5.out.2.2.1 0 _;have l8:((w5.setCell ⟨w.heap.size+1,0,none⟩ (.slice none 0 0)).putObj D (.deferred none)).heap[w.heap.size+1]?=some (.cells #[.slice none 0 0] 28 (0,0)):=(World.putObj_heap_other (fun e=>hne e.symm)).trans hb6;have Il:((w5.setCell ⟨w.heap.size+1,0,none⟩ (.slice none 0 0)).putObj D (.deferred none)).cell? ⟨w.heap.size+1,0,none⟩=some (.slice none 0 0):=by simp [DI,l8]
  have hfr:Fr (fun q=>q=w.heap.size+1\/q=D) w5 ((w5.setCell ⟨w.heap.size+1,0,none⟩ (.slice none 0 0)).putObj D (.deferred none)):=
   ((dZ w5 (w.heap.size+1) 0 _).mono fun q hq=>.inl hq).trans (Fr.grown (grownBy_putObj' _ D _) fun k e=>by injection e with e;exact .inr e.symm)
  refine ⟨.slice none 0 0,?_,?_⟩
  ·simp [results,Tryz.f65,go_sem,Il]
  ·rw [J4.out]
   refine ⟨Y,?_,aj.refl _ _,?_,_,_,_,rfl⟩
   ·exact Fr.new ((Fr.below HI.out.2.2.2.1:Fr Y w W).trans H5.out.1) hfr fun q hq=>.inr (by rcases hq with hq|hq<;>omega)
   ·exact bf.frQ H5.out.2.1 hfr (by
     intro q hq;rcases hq with rfl|rfl
     ·have ho:iQ w5 (w.heap.size+1) 28:=⟨_,_,H5.out.2.2.1⟩
      exact ⟨fun h=>iQ.ne ho h (by decide) rfl,fun h=>iQ.ne ho h (by decide) rfl,fun h=>iQ.ne ho h (by decide) rfl,fun h=>iQ.ne ho h (by decide) rfl,fun h=>by have h1:=h P H5.out.2.1.yP;have h2:=vL.out;omega⟩
     ·have hn:∀T,¬iQ w5 q T:=by
       rintro T ⟨cs,fz,h⟩;rw [H5.out.2.2.2] at h
       cases h
      exact ⟨hn _,hn _,hn _,hn _,fun h=>by have h1:=h P H5.out.2.1.yP;have h2:=vL.out;omega⟩)
 case stop=>
  rintro D c pre W hD hpre hI hK;obtain ⟨⟨pre',x,rfl,hpe,hno,heq,hb⟩,hB⟩:=hI;obtain ⟨kk,hkk,hpk⟩:=hpre;obtain ⟨t,hlk,hxn,hxc⟩:=Ld HM.out.1.en hkk hpk hpe hno heq
  have J4:Hid (r= .ok (t,a)):=aB (by
   have:=HM.out.2;unfold xu at this;rw [hlk] at this;injection this with this
   exact this.symm)
  gi_wp2
  refine ⟨by simp,.inl ⟨_,_,rfl,run_takeDeferred hK,?_⟩⟩;have hne:D≠w.heap.size+1:=by omega
  have l8:(W.putObj D (.deferred none)).heap[w.heap.size+1]?=some (.cells #[.slice x.2.A x.2.n x.2.c] 28 (0,0)):=(World.putObj_heap_other (fun e=>hne e.symm)).trans hb;have Il:(W.putObj D (.deferred none)).cell? ⟨w.heap.size+1,0,none⟩=some (.slice x.2.A x.2.n x.2.c):=by simp [DI,l8]
  have Xa:Below w.heap.size w (W.putObj D (.deferred none)):=hB.trans (belowK_b (w:=w) (aK _) W D _ _ (by omega) hK rfl rfl);refine ⟨.slice x.2.A x.2.n x.2.c,?_,?_⟩
  ·simp [results,Tryz.f65,go_sem,Il]
  ·rw [J4.out]
   exact ⟨Y,Fr.below Xa,aj.refl _ _,H.out.1.later Xa,x.2.A,x.2.c,by rw [hxn],hxc.later Xa⟩
end Go.Proofs.YtmjdhfbnmmdjiaaGreat
