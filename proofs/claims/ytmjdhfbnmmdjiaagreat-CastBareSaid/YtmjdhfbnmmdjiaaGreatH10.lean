/- Laid together by a tool from the texts of this seat: ChK ChKb Rt GtA. Conditions: each theorem's own. -/
import Derived.Test.YtmjdhfbnmmdjiaaGreatH09
import Derived.Test.YtmjdhfbnmmdjiaaGreatH05
import Derived.Test.YtmjdhfbnmmdjiaaGreatH04
set_option maxHeartbeats 8000000
set_option maxRecDepth 100000
namespace Go.Proofs.YtmjdhfbnmmdjiaaGreat
open Go.Lib renaming hid->aB
open Go.RowKit.Below renaming refl->aI
open Go.World renaming cell?->DI
open _root_.Array renaming getElem?_eq_some_iff->aai
open _root_.Nat renaming lt_of_lt_of_le->Yy
open _root_.ByteArray renaming empty->dQ
open _root_.And renaming intro->DF
open _root_.List renaming append_nil->mO,mem_cons->qm,drop_drop->oO,mem_of_getElem?->O8,length_drop->xX
open _root_.Classical renaming byContradiction->aan
open Go.RowKit
def Sj:Value:=.agg #[.int .i64 0,.int .i64 0,.int .i64 1,.int .i64 2,.int .i64 2,.int .i64 2,.int .i64 3,.int .i64 1,.int .i64 1,.int .i64 2,.int .i64 0,.int .i64 1,.int .i64 1,.int .i64 1,.int .i64 1]
theorem gN (w:World):Calls Tryz.prog 153 #[] w fun e w'=>e= .returned Sj/\Below w.heap.size w w':=by
 go_enter Tryz.func153,Tryz.ntmps153;go_wp2;exact bodyPost_ret (v:=Sj) (by simp [results,Tryz.results153,go_sem,Sj]) rfl ⟨rfl,au (aI _ _) _⟩
def yT (p:Pt) (TA:Option Addr) (tn tc:Nat) (UA:Option Addr) (un uc:Nat):Value:=
 .agg #[.int .i64 p.k,.string p.lb,.string p.nm,.string p.bd,.int .i64 p.mn,.int .i64 p.num,.slice TA tn tc,.slice UA un uc]
def PD (k:Int):Int:=if k=2\/k=7\/k=8\/k=11\/k=12\/k=13\/k=14 then 1 else if k=3\/k=4\/k=5\/k=9 then 2 else if k=6 then 3 else 0
theorem GX (p:Pt) (TA:Option Addr) (tn tc:Nat) (UA:Option Addr) (un uc:Nat) (w:World) (hk:0<=p.k/\p.k<=14) (hm: -1000000<=p.mn/\p.mn<=1000000):
  Calls Tryz.prog 144 #[yT p TA tn tc UA un uc] w fun e w'=>e= .returned (.int .i64 (aL p:Int))/\Below w.heap.size w w':=by
 obtain ⟨w1,hw1⟩:∃w1,w1=w.alloc (.cells #[.int .i64 p.k,.string p.lb,.string p.nm,.string p.bd,.int .i64 p.mn,.int .i64 p.num,.slice TA tn tc,.slice UA un uc] 33):=⟨_,rfl⟩;have hb1:Below w.heap.size w w1:=by rw [hw1];exact au (aI _ _) _
 have hbl:w1.heap[w.heap.size]?=some (.cells #[.int .i64 p.k,.string p.lb,.string p.nm,.string p.bd,.int .i64 p.mn,.int .i64 p.num,.slice TA tn tc,.slice UA un uc] 33 (0,0)):=by rw [hw1];exact heap_alloc_new _ _
 unfold yT;go_enter Tryz.func144,Tryz.ntmps144;go_upto_region 1 with fail
 rw [<-hw1];clear hw1;have HB:=aB (DF hb1 hbl);have k0:w1.cell? ⟨w.heap.size,0,none⟩=some (.int .i64 p.k):=by simp [DI,hbl]
 clear hb1 hbl;have hcs:p.k=0\/p.k=1\/p.k=2\/p.k=3\/p.k=4\/p.k=5\/p.k=6\/p.k=7\/p.k=8\/p.k=9\/p.k=10\/p.k=11\/p.k=12\/p.k=13\/p.k=14:=by omega
 obtain ⟨mn,hmn⟩:∃mn,mn=p.mn:=⟨_,rfl⟩
 have HM:Hid (∀k:Int,p.k=k->(aL p:Int)=(if k=7\/k=10 then PD k+max mn 0 else PD k)):=aB (fun k hk2=>by
  subst hk2;rw [hmn];unfold aL PD;rcases hcs with h|h|h|h|h|h|h|h|h|h|h|h|h|h|h<;>simp [h]<;>omega)
 have hmm: -1000000<=mn/\mn<=1000000:=by rw [hmn];exact hm
 have BD:=aB hmn;clear hm hk hmn;obtain ⟨k,hkk⟩:∃k,k=p.k:=⟨_,rfl⟩;have HK:=aB hkk;rw [<-hkk] at k0 hcs;clear hkk;rcases hcs with rfl|rfl|rfl|rfl|rfl|rfl|rfl|rfl|rfl|rfl|rfl|rfl|rfl|rfl|rfl
 ·go_upto_region 3 with fail
  obtain ⟨SS,hSS⟩:∃SS:World->Prop,SS=fun v=>v.cell? ⟨w.heap.size,0,none⟩=some (.int .i64 0):=⟨_,rfl⟩;obtain ⟨wd,hwd⟩:∃wd,wd=w1.drew:=⟨_,rfl⟩;have bM:Hid (Below w1.heap.size w1 wd):=aB (by rw [hwd];exact (aI _ _).drew);have hlt:w.heap.size<w1.heap.size:=(aai.1 HB.out.2).1;have hsd:SS wd:=by rw [hSS,hwd];exact k0
  refine aG (S:=SS) [4] (by kernel_rfl) (by rw [<-hwd];exact hsd) (fun hHeld=>?_);rw [<-hwd] at hHeld ⊢;clear hwd;refine aM 1 [2,3,4] (some 13) rfl rfl ?_;refine aM 2 [3,4] (some 14) rfl rfl ?_;refine aY 0 (some 12) rfl rfl (by kernel_rfl) (by rfl) (by kernel_rfl) (gN wd) ?_;rintro e w2 ⟨rfl,hb2⟩;have kG:w2.cell? ⟨w.heap.size,0,none⟩=some (.int .i64 0):=(hb2.cell (Yy hlt bM.out.size)).trans (by rw [hSS] at hsd;exact hsd);have HB2:Hid (Below w1.heap.size w1 w2):=aB (ah bM.out hb2)
  have CO:w2.cell? ⟨w.heap.size,4,none⟩=some (.int .i64 mn):=by
   have:=(HB2.out.block _ hlt).trans HB.out.2;rw [BD.out];simp [DI,this]
  refine ⟨_,rfl,by rw [hSS];exact kG,?_⟩;refine aA ?_;refine aX 3 (some 15) (v:=.int .i64 0) (w':=w2) rfl rfl (by kernel_rfl) (by rfl) (by kernel_rfl) (fun _=>by rw [hSS];exact kG) ?_;refine aA ?_;refine aX 4 (some 3) rfl rfl (by kernel_rfl) (by rfl) (by go_simp;first|with_reducible rfl|(constructor<;>with_reducible rfl)) (zL (by kernel_rfl)) ?_;refine aA ?_;refine bB (by kernel_rfl) ?_ _;have HR:=aB (HM.out 0 HK.out.symm);have qd:Hid (Below w.heap.size w w2):=aB (ah HB.out.1 HB2.out);clear hsd hHeld hb2 k0 hlt;go_wp2_with fail;go_ret;refine ⟨?_,qd.out⟩;rw [HR.out];rfl
 ·go_upto_region 3 with fail
  obtain ⟨SS,hSS⟩:∃SS:World->Prop,SS=fun v=>v.cell? ⟨w.heap.size,0,none⟩=some (.int .i64 1):=⟨_,rfl⟩;obtain ⟨wd,hwd⟩:∃wd,wd=w1.drew:=⟨_,rfl⟩;have bM:Hid (Below w1.heap.size w1 wd):=aB (by rw [hwd];exact (aI _ _).drew);have hlt:w.heap.size<w1.heap.size:=(aai.1 HB.out.2).1;have hsd:SS wd:=by rw [hSS,hwd];exact k0
  refine aG (S:=SS) [4] (by kernel_rfl) (by rw [<-hwd];exact hsd) (fun hHeld=>?_);rw [<-hwd] at hHeld ⊢;clear hwd;refine aM 1 [2,3,4] (some 13) rfl rfl ?_;refine aM 2 [3,4] (some 14) rfl rfl ?_;refine aY 0 (some 12) rfl rfl (by kernel_rfl) (by rfl) (by kernel_rfl) (gN wd) ?_;rintro e w2 ⟨rfl,hb2⟩;have kG:w2.cell? ⟨w.heap.size,0,none⟩=some (.int .i64 1):=(hb2.cell (Yy hlt bM.out.size)).trans (by rw [hSS] at hsd;exact hsd);have HB2:Hid (Below w1.heap.size w1 w2):=aB (ah bM.out hb2)
  have CO:w2.cell? ⟨w.heap.size,4,none⟩=some (.int .i64 mn):=by
   have:=(HB2.out.block _ hlt).trans HB.out.2;rw [BD.out];simp [DI,this]
  refine ⟨_,rfl,by rw [hSS];exact kG,?_⟩;refine aA ?_;refine aX 3 (some 15) (v:=.int .i64 0) (w':=w2) rfl rfl (by kernel_rfl) (by rfl) (by kernel_rfl) (fun _=>by rw [hSS];exact kG) ?_;refine aA ?_;refine aX 4 (some 3) rfl rfl (by kernel_rfl) (by rfl) (by go_simp;first|with_reducible rfl|(constructor<;>with_reducible rfl)) (zL (by kernel_rfl)) ?_;refine aA ?_;refine bB (by kernel_rfl) ?_ _;have HR:=aB (HM.out 1 HK.out.symm);have qd:Hid (Below w.heap.size w w2):=aB (ah HB.out.1 HB2.out);clear hsd hHeld hb2 k0 hlt;go_wp2_with fail;go_ret;refine ⟨?_,qd.out⟩;rw [HR.out];rfl
 ·go_upto_region 3 with fail
  obtain ⟨SS,hSS⟩:∃SS:World->Prop,SS=fun v=>v.cell? ⟨w.heap.size,0,none⟩=some (.int .i64 2):=⟨_,rfl⟩;obtain ⟨wd,hwd⟩:∃wd,wd=w1.drew:=⟨_,rfl⟩;have bM:Hid (Below w1.heap.size w1 wd):=aB (by rw [hwd];exact (aI _ _).drew);have hlt:w.heap.size<w1.heap.size:=(aai.1 HB.out.2).1;have hsd:SS wd:=by rw [hSS,hwd];exact k0
  refine aG (S:=SS) [4] (by kernel_rfl) (by rw [<-hwd];exact hsd) (fun hHeld=>?_);rw [<-hwd] at hHeld ⊢;clear hwd;refine aM 1 [2,3,4] (some 13) rfl rfl ?_;refine aM 2 [3,4] (some 14) rfl rfl ?_;refine aY 0 (some 12) rfl rfl (by kernel_rfl) (by rfl) (by kernel_rfl) (gN wd) ?_;rintro e w2 ⟨rfl,hb2⟩;have kG:w2.cell? ⟨w.heap.size,0,none⟩=some (.int .i64 2):=(hb2.cell (Yy hlt bM.out.size)).trans (by rw [hSS] at hsd;exact hsd);have HB2:Hid (Below w1.heap.size w1 w2):=aB (ah bM.out hb2)
  have CO:w2.cell? ⟨w.heap.size,4,none⟩=some (.int .i64 mn):=by
   have:=(HB2.out.block _ hlt).trans HB.out.2;rw [BD.out];simp [DI,this]
  refine ⟨_,rfl,by rw [hSS];exact kG,?_⟩;refine aA ?_;refine aX 3 (some 15) (v:=.int .i64 1) (w':=w2) rfl rfl (by kernel_rfl) (by rfl) (by kernel_rfl) (fun _=>by rw [hSS];exact kG) ?_;refine aA ?_;refine aX 4 (some 3) rfl rfl (by kernel_rfl) (by rfl) (by go_simp;first|with_reducible rfl|(constructor<;>with_reducible rfl)) (zL (by kernel_rfl)) ?_;refine aA ?_;refine bB (by kernel_rfl) ?_ _;have HR:=aB (HM.out 2 HK.out.symm);have qd:Hid (Below w.heap.size w w2):=aB (ah HB.out.1 HB2.out);clear hsd hHeld hb2 k0 hlt;go_wp2_with fail;go_ret;refine ⟨?_,qd.out⟩;rw [HR.out];rfl
 ·go_upto_region 3 with fail
  obtain ⟨SS,hSS⟩:∃SS:World->Prop,SS=fun v=>v.cell? ⟨w.heap.size,0,none⟩=some (.int .i64 3):=⟨_,rfl⟩;obtain ⟨wd,hwd⟩:∃wd,wd=w1.drew:=⟨_,rfl⟩;have bM:Hid (Below w1.heap.size w1 wd):=aB (by rw [hwd];exact (aI _ _).drew);have hlt:w.heap.size<w1.heap.size:=(aai.1 HB.out.2).1;have hsd:SS wd:=by rw [hSS,hwd];exact k0
  refine aG (S:=SS) [4] (by kernel_rfl) (by rw [<-hwd];exact hsd) (fun hHeld=>?_);rw [<-hwd] at hHeld ⊢;clear hwd;refine aM 1 [2,3,4] (some 13) rfl rfl ?_;refine aM 2 [3,4] (some 14) rfl rfl ?_;refine aY 0 (some 12) rfl rfl (by kernel_rfl) (by rfl) (by kernel_rfl) (gN wd) ?_;rintro e w2 ⟨rfl,hb2⟩;have kG:w2.cell? ⟨w.heap.size,0,none⟩=some (.int .i64 3):=(hb2.cell (Yy hlt bM.out.size)).trans (by rw [hSS] at hsd;exact hsd);have HB2:Hid (Below w1.heap.size w1 w2):=aB (ah bM.out hb2)
  have CO:w2.cell? ⟨w.heap.size,4,none⟩=some (.int .i64 mn):=by
   have:=(HB2.out.block _ hlt).trans HB.out.2;rw [BD.out];simp [DI,this]
  refine ⟨_,rfl,by rw [hSS];exact kG,?_⟩;refine aA ?_;refine aX 3 (some 15) (v:=.int .i64 2) (w':=w2) rfl rfl (by kernel_rfl) (by rfl) (by kernel_rfl) (fun _=>by rw [hSS];exact kG) ?_;refine aA ?_;refine aX 4 (some 3) rfl rfl (by kernel_rfl) (by rfl) (by go_simp;first|with_reducible rfl|(constructor<;>with_reducible rfl)) (zL (by kernel_rfl)) ?_;refine aA ?_;refine bB (by kernel_rfl) ?_ _;have HR:=aB (HM.out 3 HK.out.symm);have qd:Hid (Below w.heap.size w w2):=aB (ah HB.out.1 HB2.out);clear hsd hHeld hb2 k0 hlt;go_wp2_with fail;go_ret;refine ⟨?_,qd.out⟩;rw [HR.out];rfl
 ·go_upto_region 3 with fail
  obtain ⟨SS,hSS⟩:∃SS:World->Prop,SS=fun v=>v.cell? ⟨w.heap.size,0,none⟩=some (.int .i64 4):=⟨_,rfl⟩;obtain ⟨wd,hwd⟩:∃wd,wd=w1.drew:=⟨_,rfl⟩;have bM:Hid (Below w1.heap.size w1 wd):=aB (by rw [hwd];exact (aI _ _).drew);have hlt:w.heap.size<w1.heap.size:=(aai.1 HB.out.2).1;have hsd:SS wd:=by rw [hSS,hwd];exact k0
  refine aG (S:=SS) [4] (by kernel_rfl) (by rw [<-hwd];exact hsd) (fun hHeld=>?_);rw [<-hwd] at hHeld ⊢;clear hwd;refine aM 1 [2,3,4] (some 13) rfl rfl ?_;refine aM 2 [3,4] (some 14) rfl rfl ?_;refine aY 0 (some 12) rfl rfl (by kernel_rfl) (by rfl) (by kernel_rfl) (gN wd) ?_;rintro e w2 ⟨rfl,hb2⟩;have kG:w2.cell? ⟨w.heap.size,0,none⟩=some (.int .i64 4):=(hb2.cell (Yy hlt bM.out.size)).trans (by rw [hSS] at hsd;exact hsd);have HB2:Hid (Below w1.heap.size w1 w2):=aB (ah bM.out hb2)
  have CO:w2.cell? ⟨w.heap.size,4,none⟩=some (.int .i64 mn):=by
   have:=(HB2.out.block _ hlt).trans HB.out.2;rw [BD.out];simp [DI,this]
  refine ⟨_,rfl,by rw [hSS];exact kG,?_⟩;refine aA ?_;refine aX 3 (some 15) (v:=.int .i64 2) (w':=w2) rfl rfl (by kernel_rfl) (by rfl) (by kernel_rfl) (fun _=>by rw [hSS];exact kG) ?_;refine aA ?_;refine aX 4 (some 3) rfl rfl (by kernel_rfl) (by rfl) (by go_simp;first|with_reducible rfl|(constructor<;>with_reducible rfl)) (zL (by kernel_rfl)) ?_;refine aA ?_;refine bB (by kernel_rfl) ?_ _;have HR:=aB (HM.out 4 HK.out.symm);have qd:Hid (Below w.heap.size w w2):=aB (ah HB.out.1 HB2.out);clear hsd hHeld hb2 k0 hlt;go_wp2_with fail;go_ret;refine ⟨?_,qd.out⟩;rw [HR.out];rfl
 ·go_upto_region 3 with fail
  obtain ⟨SS,hSS⟩:∃SS:World->Prop,SS=fun v=>v.cell? ⟨w.heap.size,0,none⟩=some (.int .i64 5):=⟨_,rfl⟩;obtain ⟨wd,hwd⟩:∃wd,wd=w1.drew:=⟨_,rfl⟩;have bM:Hid (Below w1.heap.size w1 wd):=aB (by rw [hwd];exact (aI _ _).drew);have hlt:w.heap.size<w1.heap.size:=(aai.1 HB.out.2).1;have hsd:SS wd:=by rw [hSS,hwd];exact k0
  refine aG (S:=SS) [4] (by kernel_rfl) (by rw [<-hwd];exact hsd) (fun hHeld=>?_);rw [<-hwd] at hHeld ⊢;clear hwd;refine aM 1 [2,3,4] (some 13) rfl rfl ?_;refine aM 2 [3,4] (some 14) rfl rfl ?_;refine aY 0 (some 12) rfl rfl (by kernel_rfl) (by rfl) (by kernel_rfl) (gN wd) ?_;rintro e w2 ⟨rfl,hb2⟩;have kG:w2.cell? ⟨w.heap.size,0,none⟩=some (.int .i64 5):=(hb2.cell (Yy hlt bM.out.size)).trans (by rw [hSS] at hsd;exact hsd);have HB2:Hid (Below w1.heap.size w1 w2):=aB (ah bM.out hb2)
  have CO:w2.cell? ⟨w.heap.size,4,none⟩=some (.int .i64 mn):=by
   have:=(HB2.out.block _ hlt).trans HB.out.2;rw [BD.out];simp [DI,this]
  refine ⟨_,rfl,by rw [hSS];exact kG,?_⟩;refine aA ?_;refine aX 3 (some 15) (v:=.int .i64 2) (w':=w2) rfl rfl (by kernel_rfl) (by rfl) (by kernel_rfl) (fun _=>by rw [hSS];exact kG) ?_;refine aA ?_;refine aX 4 (some 3) rfl rfl (by kernel_rfl) (by rfl) (by go_simp;first|with_reducible rfl|(constructor<;>with_reducible rfl)) (zL (by kernel_rfl)) ?_;refine aA ?_;refine bB (by kernel_rfl) ?_ _;have HR:=aB (HM.out 5 HK.out.symm);have qd:Hid (Below w.heap.size w w2):=aB (ah HB.out.1 HB2.out);clear hsd hHeld hb2 k0 hlt;go_wp2_with fail;go_ret;refine ⟨?_,qd.out⟩;rw [HR.out];rfl
 ·go_upto_region 3 with fail
  obtain ⟨SS,hSS⟩:∃SS:World->Prop,SS=fun v=>v.cell? ⟨w.heap.size,0,none⟩=some (.int .i64 6):=⟨_,rfl⟩;obtain ⟨wd,hwd⟩:∃wd,wd=w1.drew:=⟨_,rfl⟩;have bM:Hid (Below w1.heap.size w1 wd):=aB (by rw [hwd];exact (aI _ _).drew);have hlt:w.heap.size<w1.heap.size:=(aai.1 HB.out.2).1;have hsd:SS wd:=by rw [hSS,hwd];exact k0
  refine aG (S:=SS) [4] (by kernel_rfl) (by rw [<-hwd];exact hsd) (fun hHeld=>?_);rw [<-hwd] at hHeld ⊢;clear hwd;refine aM 1 [2,3,4] (some 13) rfl rfl ?_;refine aM 2 [3,4] (some 14) rfl rfl ?_;refine aY 0 (some 12) rfl rfl (by kernel_rfl) (by rfl) (by kernel_rfl) (gN wd) ?_;rintro e w2 ⟨rfl,hb2⟩;have kG:w2.cell? ⟨w.heap.size,0,none⟩=some (.int .i64 6):=(hb2.cell (Yy hlt bM.out.size)).trans (by rw [hSS] at hsd;exact hsd);have HB2:Hid (Below w1.heap.size w1 w2):=aB (ah bM.out hb2)
  have CO:w2.cell? ⟨w.heap.size,4,none⟩=some (.int .i64 mn):=by
   have:=(HB2.out.block _ hlt).trans HB.out.2;rw [BD.out];simp [DI,this]
  refine ⟨_,rfl,by rw [hSS];exact kG,?_⟩;refine aA ?_;refine aX 3 (some 15) (v:=.int .i64 3) (w':=w2) rfl rfl (by kernel_rfl) (by rfl) (by kernel_rfl) (fun _=>by rw [hSS];exact kG) ?_;refine aA ?_;refine aX 4 (some 3) rfl rfl (by kernel_rfl) (by rfl) (by go_simp;first|with_reducible rfl|(constructor<;>with_reducible rfl)) (zL (by kernel_rfl)) ?_;refine aA ?_;refine bB (by kernel_rfl) ?_ _;have HR:=aB (HM.out 6 HK.out.symm);have qd:Hid (Below w.heap.size w w2):=aB (ah HB.out.1 HB2.out);clear hsd hHeld hb2 k0 hlt;go_wp2_with fail;go_ret;refine ⟨?_,qd.out⟩;rw [HR.out];rfl
 ·go_upto_region 3 with fail
  obtain ⟨SS,hSS⟩:∃SS:World->Prop,SS=fun v=>v.cell? ⟨w.heap.size,0,none⟩=some (.int .i64 7):=⟨_,rfl⟩;obtain ⟨wd,hwd⟩:∃wd,wd=w1.drew:=⟨_,rfl⟩;have bM:Hid (Below w1.heap.size w1 wd):=aB (by rw [hwd];exact (aI _ _).drew);have hlt:w.heap.size<w1.heap.size:=(aai.1 HB.out.2).1;have hsd:SS wd:=by rw [hSS,hwd];exact k0
  refine aG (S:=SS) [4] (by kernel_rfl) (by rw [<-hwd];exact hsd) (fun hHeld=>?_);rw [<-hwd] at hHeld ⊢;clear hwd;refine aM 1 [2,3,4] (some 13) rfl rfl ?_;refine aM 2 [3,4] (some 14) rfl rfl ?_;refine aY 0 (some 12) rfl rfl (by kernel_rfl) (by rfl) (by kernel_rfl) (gN wd) ?_;rintro e w2 ⟨rfl,hb2⟩;have kG:w2.cell? ⟨w.heap.size,0,none⟩=some (.int .i64 7):=(hb2.cell (Yy hlt bM.out.size)).trans (by rw [hSS] at hsd;exact hsd);have HB2:Hid (Below w1.heap.size w1 w2):=aB (ah bM.out hb2)
  have CO:w2.cell? ⟨w.heap.size,4,none⟩=some (.int .i64 mn):=by
   have:=(HB2.out.block _ hlt).trans HB.out.2;rw [BD.out];simp [DI,this]
  refine ⟨_,rfl,by rw [hSS];exact kG,?_⟩;refine aA ?_;refine aX 3 (some 15) (v:=.int .i64 1) (w':=w2) rfl rfl (by kernel_rfl) (by rfl) (by kernel_rfl) (fun _=>by rw [hSS];exact kG) ?_;refine aA ?_;refine aX 4 (some 3) rfl rfl (by kernel_rfl) (by rfl) (by go_simp;first|with_reducible rfl|(constructor<;>with_reducible rfl)) (zL (by kernel_rfl)) ?_;refine aA ?_;refine bB (by kernel_rfl) ?_ _;have HR:=aB (HM.out 7 HK.out.symm);have qd:Hid (Below w.heap.size w w2):=aB (ah HB.out.1 HB2.out);clear hsd hHeld hb2 k0 hlt;go_wp2_with fail;go_ret;refine ⟨?_,qd.out⟩;rw [HR.out];simp [PD]
 ·go_upto_region 3 with fail
  obtain ⟨SS,hSS⟩:∃SS:World->Prop,SS=fun v=>v.cell? ⟨w.heap.size,0,none⟩=some (.int .i64 8):=⟨_,rfl⟩;obtain ⟨wd,hwd⟩:∃wd,wd=w1.drew:=⟨_,rfl⟩;have bM:Hid (Below w1.heap.size w1 wd):=aB (by rw [hwd];exact (aI _ _).drew);have hlt:w.heap.size<w1.heap.size:=(aai.1 HB.out.2).1;have hsd:SS wd:=by rw [hSS,hwd];exact k0
  refine aG (S:=SS) [4] (by kernel_rfl) (by rw [<-hwd];exact hsd) (fun hHeld=>?_);rw [<-hwd] at hHeld ⊢;clear hwd;refine aM 1 [2,3,4] (some 13) rfl rfl ?_;refine aM 2 [3,4] (some 14) rfl rfl ?_;refine aY 0 (some 12) rfl rfl (by kernel_rfl) (by rfl) (by kernel_rfl) (gN wd) ?_;rintro e w2 ⟨rfl,hb2⟩;have kG:w2.cell? ⟨w.heap.size,0,none⟩=some (.int .i64 8):=(hb2.cell (Yy hlt bM.out.size)).trans (by rw [hSS] at hsd;exact hsd);have HB2:Hid (Below w1.heap.size w1 w2):=aB (ah bM.out hb2)
  have CO:w2.cell? ⟨w.heap.size,4,none⟩=some (.int .i64 mn):=by
   have:=(HB2.out.block _ hlt).trans HB.out.2;rw [BD.out];simp [DI,this]
  refine ⟨_,rfl,by rw [hSS];exact kG,?_⟩;refine aA ?_;refine aX 3 (some 15) (v:=.int .i64 1) (w':=w2) rfl rfl (by kernel_rfl) (by rfl) (by kernel_rfl) (fun _=>by rw [hSS];exact kG) ?_;refine aA ?_;refine aX 4 (some 3) rfl rfl (by kernel_rfl) (by rfl) (by go_simp;first|with_reducible rfl|(constructor<;>with_reducible rfl)) (zL (by kernel_rfl)) ?_;refine aA ?_;refine bB (by kernel_rfl) ?_ _;have HR:=aB (HM.out 8 HK.out.symm);have qd:Hid (Below w.heap.size w w2):=aB (ah HB.out.1 HB2.out);clear hsd hHeld hb2 k0 hlt;go_wp2_with fail;go_ret;refine ⟨?_,qd.out⟩;rw [HR.out];rfl
 ·go_upto_region 3 with fail
  obtain ⟨SS,hSS⟩:∃SS:World->Prop,SS=fun v=>v.cell? ⟨w.heap.size,0,none⟩=some (.int .i64 9):=⟨_,rfl⟩;obtain ⟨wd,hwd⟩:∃wd,wd=w1.drew:=⟨_,rfl⟩;have bM:Hid (Below w1.heap.size w1 wd):=aB (by rw [hwd];exact (aI _ _).drew);have hlt:w.heap.size<w1.heap.size:=(aai.1 HB.out.2).1;have hsd:SS wd:=by rw [hSS,hwd];exact k0
  refine aG (S:=SS) [4] (by kernel_rfl) (by rw [<-hwd];exact hsd) (fun hHeld=>?_);rw [<-hwd] at hHeld ⊢;clear hwd;refine aM 1 [2,3,4] (some 13) rfl rfl ?_;refine aM 2 [3,4] (some 14) rfl rfl ?_;refine aY 0 (some 12) rfl rfl (by kernel_rfl) (by rfl) (by kernel_rfl) (gN wd) ?_;rintro e w2 ⟨rfl,hb2⟩;have kG:w2.cell? ⟨w.heap.size,0,none⟩=some (.int .i64 9):=(hb2.cell (Yy hlt bM.out.size)).trans (by rw [hSS] at hsd;exact hsd);have HB2:Hid (Below w1.heap.size w1 w2):=aB (ah bM.out hb2)
  have CO:w2.cell? ⟨w.heap.size,4,none⟩=some (.int .i64 mn):=by
   have:=(HB2.out.block _ hlt).trans HB.out.2;rw [BD.out];simp [DI,this]
  refine ⟨_,rfl,by rw [hSS];exact kG,?_⟩;refine aA ?_;refine aX 3 (some 15) (v:=.int .i64 2) (w':=w2) rfl rfl (by kernel_rfl) (by rfl) (by kernel_rfl) (fun _=>by rw [hSS];exact kG) ?_;refine aA ?_;refine aX 4 (some 3) rfl rfl (by kernel_rfl) (by rfl) (by go_simp;first|with_reducible rfl|(constructor<;>with_reducible rfl)) (zL (by kernel_rfl)) ?_;refine aA ?_;refine bB (by kernel_rfl) ?_ _;have HR:=aB (HM.out 9 HK.out.symm);have qd:Hid (Below w.heap.size w w2):=aB (ah HB.out.1 HB2.out);clear hsd hHeld hb2 k0 hlt;go_wp2_with fail;go_ret;refine ⟨?_,qd.out⟩;rw [HR.out];rfl
 ·go_upto_region 3 with fail
  obtain ⟨SS,hSS⟩:∃SS:World->Prop,SS=fun v=>v.cell? ⟨w.heap.size,0,none⟩=some (.int .i64 10):=⟨_,rfl⟩;obtain ⟨wd,hwd⟩:∃wd,wd=w1.drew:=⟨_,rfl⟩;have bM:Hid (Below w1.heap.size w1 wd):=aB (by rw [hwd];exact (aI _ _).drew);have hlt:w.heap.size<w1.heap.size:=(aai.1 HB.out.2).1;have hsd:SS wd:=by rw [hSS,hwd];exact k0
  refine aG (S:=SS) [4] (by kernel_rfl) (by rw [<-hwd];exact hsd) (fun hHeld=>?_);rw [<-hwd] at hHeld ⊢;clear hwd;refine aM 1 [2,3,4] (some 13) rfl rfl ?_;refine aM 2 [3,4] (some 14) rfl rfl ?_;refine aY 0 (some 12) rfl rfl (by kernel_rfl) (by rfl) (by kernel_rfl) (gN wd) ?_;rintro e w2 ⟨rfl,hb2⟩;have kG:w2.cell? ⟨w.heap.size,0,none⟩=some (.int .i64 10):=(hb2.cell (Yy hlt bM.out.size)).trans (by rw [hSS] at hsd;exact hsd);have HB2:Hid (Below w1.heap.size w1 w2):=aB (ah bM.out hb2)
  have CO:w2.cell? ⟨w.heap.size,4,none⟩=some (.int .i64 mn):=by
   have:=(HB2.out.block _ hlt).trans HB.out.2;rw [BD.out];simp [DI,this]
  refine ⟨_,rfl,by rw [hSS];exact kG,?_⟩;refine aA ?_;refine aX 3 (some 15) (v:=.int .i64 0) (w':=w2) rfl rfl (by kernel_rfl) (by rfl) (by kernel_rfl) (fun _=>by rw [hSS];exact kG) ?_;refine aA ?_;refine aX 4 (some 3) rfl rfl (by kernel_rfl) (by rfl) (by go_simp;first|with_reducible rfl|(constructor<;>with_reducible rfl)) (zL (by kernel_rfl)) ?_;refine aA ?_;refine bB (by kernel_rfl) ?_ _;have HR:=aB (HM.out 10 HK.out.symm);have qd:Hid (Below w.heap.size w w2):=aB (ah HB.out.1 HB2.out);clear hsd hHeld hb2 k0 hlt;go_wp2_with fail;go_ret;refine ⟨?_,qd.out⟩;rw [HR.out];simp [PD]
 ·go_upto_region 3 with fail
  obtain ⟨SS,hSS⟩:∃SS:World->Prop,SS=fun v=>v.cell? ⟨w.heap.size,0,none⟩=some (.int .i64 11):=⟨_,rfl⟩;obtain ⟨wd,hwd⟩:∃wd,wd=w1.drew:=⟨_,rfl⟩;have bM:Hid (Below w1.heap.size w1 wd):=aB (by rw [hwd];exact (aI _ _).drew);have hlt:w.heap.size<w1.heap.size:=(aai.1 HB.out.2).1;have hsd:SS wd:=by rw [hSS,hwd];exact k0
  refine aG (S:=SS) [4] (by kernel_rfl) (by rw [<-hwd];exact hsd) (fun hHeld=>?_);rw [<-hwd] at hHeld ⊢;clear hwd;refine aM 1 [2,3,4] (some 13) rfl rfl ?_;refine aM 2 [3,4] (some 14) rfl rfl ?_;refine aY 0 (some 12) rfl rfl (by kernel_rfl) (by rfl) (by kernel_rfl) (gN wd) ?_;rintro e w2 ⟨rfl,hb2⟩;have kG:w2.cell? ⟨w.heap.size,0,none⟩=some (.int .i64 11):=(hb2.cell (Yy hlt bM.out.size)).trans (by rw [hSS] at hsd;exact hsd);have HB2:Hid (Below w1.heap.size w1 w2):=aB (ah bM.out hb2)
  have CO:w2.cell? ⟨w.heap.size,4,none⟩=some (.int .i64 mn):=by
   have:=(HB2.out.block _ hlt).trans HB.out.2;rw [BD.out];simp [DI,this]
  refine ⟨_,rfl,by rw [hSS];exact kG,?_⟩;refine aA ?_;refine aX 3 (some 15) (v:=.int .i64 1) (w':=w2) rfl rfl (by kernel_rfl) (by rfl) (by kernel_rfl) (fun _=>by rw [hSS];exact kG) ?_;refine aA ?_;refine aX 4 (some 3) rfl rfl (by kernel_rfl) (by rfl) (by go_simp;first|with_reducible rfl|(constructor<;>with_reducible rfl)) (zL (by kernel_rfl)) ?_;refine aA ?_;refine bB (by kernel_rfl) ?_ _;have HR:=aB (HM.out 11 HK.out.symm);have qd:Hid (Below w.heap.size w w2):=aB (ah HB.out.1 HB2.out);clear hsd hHeld hb2 k0 hlt;go_wp2_with fail;go_ret;refine ⟨?_,qd.out⟩;rw [HR.out];rfl
 ·go_upto_region 3 with fail
  obtain ⟨SS,hSS⟩:∃SS:World->Prop,SS=fun v=>v.cell? ⟨w.heap.size,0,none⟩=some (.int .i64 12):=⟨_,rfl⟩;obtain ⟨wd,hwd⟩:∃wd,wd=w1.drew:=⟨_,rfl⟩;have bM:Hid (Below w1.heap.size w1 wd):=aB (by rw [hwd];exact (aI _ _).drew);have hlt:w.heap.size<w1.heap.size:=(aai.1 HB.out.2).1;have hsd:SS wd:=by rw [hSS,hwd];exact k0
  refine aG (S:=SS) [4] (by kernel_rfl) (by rw [<-hwd];exact hsd) (fun hHeld=>?_);rw [<-hwd] at hHeld ⊢;clear hwd;refine aM 1 [2,3,4] (some 13) rfl rfl ?_;refine aM 2 [3,4] (some 14) rfl rfl ?_;refine aY 0 (some 12) rfl rfl (by kernel_rfl) (by rfl) (by kernel_rfl) (gN wd) ?_;rintro e w2 ⟨rfl,hb2⟩;have kG:w2.cell? ⟨w.heap.size,0,none⟩=some (.int .i64 12):=(hb2.cell (Yy hlt bM.out.size)).trans (by rw [hSS] at hsd;exact hsd);have HB2:Hid (Below w1.heap.size w1 w2):=aB (ah bM.out hb2)
  have CO:w2.cell? ⟨w.heap.size,4,none⟩=some (.int .i64 mn):=by
   have:=(HB2.out.block _ hlt).trans HB.out.2;rw [BD.out];simp [DI,this]
  refine ⟨_,rfl,by rw [hSS];exact kG,?_⟩;refine aA ?_;refine aX 3 (some 15) (v:=.int .i64 1) (w':=w2) rfl rfl (by kernel_rfl) (by rfl) (by kernel_rfl) (fun _=>by rw [hSS];exact kG) ?_;refine aA ?_;refine aX 4 (some 3) rfl rfl (by kernel_rfl) (by rfl) (by go_simp;first|with_reducible rfl|(constructor<;>with_reducible rfl)) (zL (by kernel_rfl)) ?_;refine aA ?_;refine bB (by kernel_rfl) ?_ _;have HR:=aB (HM.out 12 HK.out.symm);have qd:Hid (Below w.heap.size w w2):=aB (ah HB.out.1 HB2.out);clear hsd hHeld hb2 k0 hlt;go_wp2_with fail;go_ret;refine ⟨?_,qd.out⟩;rw [HR.out];rfl
 ·go_upto_region 3 with fail
  obtain ⟨SS,hSS⟩:∃SS:World->Prop,SS=fun v=>v.cell? ⟨w.heap.size,0,none⟩=some (.int .i64 13):=⟨_,rfl⟩;obtain ⟨wd,hwd⟩:∃wd,wd=w1.drew:=⟨_,rfl⟩;have bM:Hid (Below w1.heap.size w1 wd):=aB (by rw [hwd];exact (aI _ _).drew);have hlt:w.heap.size<w1.heap.size:=(aai.1 HB.out.2).1;have hsd:SS wd:=by rw [hSS,hwd];exact k0
  refine aG (S:=SS) [4] (by kernel_rfl) (by rw [<-hwd];exact hsd) (fun hHeld=>?_);rw [<-hwd] at hHeld ⊢;clear hwd;refine aM 1 [2,3,4] (some 13) rfl rfl ?_;refine aM 2 [3,4] (some 14) rfl rfl ?_;refine aY 0 (some 12) rfl rfl (by kernel_rfl) (by rfl) (by kernel_rfl) (gN wd) ?_;rintro e w2 ⟨rfl,hb2⟩;have kG:w2.cell? ⟨w.heap.size,0,none⟩=some (.int .i64 13):=(hb2.cell (Yy hlt bM.out.size)).trans (by rw [hSS] at hsd;exact hsd);have HB2:Hid (Below w1.heap.size w1 w2):=aB (ah bM.out hb2)
  have CO:w2.cell? ⟨w.heap.size,4,none⟩=some (.int .i64 mn):=by
   have:=(HB2.out.block _ hlt).trans HB.out.2;rw [BD.out];simp [DI,this]
  refine ⟨_,rfl,by rw [hSS];exact kG,?_⟩;refine aA ?_;refine aX 3 (some 15) (v:=.int .i64 1) (w':=w2) rfl rfl (by kernel_rfl) (by rfl) (by kernel_rfl) (fun _=>by rw [hSS];exact kG) ?_;refine aA ?_;refine aX 4 (some 3) rfl rfl (by kernel_rfl) (by rfl) (by go_simp;first|with_reducible rfl|(constructor<;>with_reducible rfl)) (zL (by kernel_rfl)) ?_;refine aA ?_;refine bB (by kernel_rfl) ?_ _;have HR:=aB (HM.out 13 HK.out.symm);have qd:Hid (Below w.heap.size w w2):=aB (ah HB.out.1 HB2.out);clear hsd hHeld hb2 k0 hlt;go_wp2_with fail;go_ret;refine ⟨?_,qd.out⟩;rw [HR.out];rfl
 ·go_upto_region 3 with fail
  obtain ⟨SS,hSS⟩:∃SS:World->Prop,SS=fun v=>v.cell? ⟨w.heap.size,0,none⟩=some (.int .i64 14):=⟨_,rfl⟩;obtain ⟨wd,hwd⟩:∃wd,wd=w1.drew:=⟨_,rfl⟩;have bM:Hid (Below w1.heap.size w1 wd):=aB (by rw [hwd];exact (aI _ _).drew);have hlt:w.heap.size<w1.heap.size:=(aai.1 HB.out.2).1;have hsd:SS wd:=by rw [hSS,hwd];exact k0
  refine aG (S:=SS) [4] (by kernel_rfl) (by rw [<-hwd];exact hsd) (fun hHeld=>?_);rw [<-hwd] at hHeld ⊢;clear hwd;refine aM 1 [2,3,4] (some 13) rfl rfl ?_;refine aM 2 [3,4] (some 14) rfl rfl ?_;refine aY 0 (some 12) rfl rfl (by kernel_rfl) (by rfl) (by kernel_rfl) (gN wd) ?_;rintro e w2 ⟨rfl,hb2⟩;have kG:w2.cell? ⟨w.heap.size,0,none⟩=some (.int .i64 14):=(hb2.cell (Yy hlt bM.out.size)).trans (by rw [hSS] at hsd;exact hsd);have HB2:Hid (Below w1.heap.size w1 w2):=aB (ah bM.out hb2)
  have CO:w2.cell? ⟨w.heap.size,4,none⟩=some (.int .i64 mn):=by
   have:=(HB2.out.block _ hlt).trans HB.out.2;rw [BD.out];simp [DI,this]
  refine ⟨_,rfl,by rw [hSS];exact kG,?_⟩;refine aA ?_;refine aX 3 (some 15) (v:=.int .i64 1) (w':=w2) rfl rfl (by kernel_rfl) (by rfl) (by kernel_rfl) (fun _=>by rw [hSS];exact kG) ?_;refine aA ?_;refine aX 4 (some 3) rfl rfl (by kernel_rfl) (by rfl) (by go_simp;first|with_reducible rfl|(constructor<;>with_reducible rfl)) (zL (by kernel_rfl)) ?_;refine aA ?_;refine bB (by kernel_rfl) ?_ _;have HR:=aB (HM.out 14 HK.out.symm);have qd:Hid (Below w.heap.size w w2):=aB (ah HB.out.1 HB2.out);clear hsd hHeld hb2 k0 hlt;go_wp2_with fail;go_ret;refine ⟨?_,qd.out⟩;rw [HR.out];rfl
def dN (es:List Pt):Prop:=∀x∈es,(0<=x.k/\x.k<=14)/\(0<=x.mn/\x.mn<=50)
theorem nJ {x:Pt} (h:0<=x.mn/\x.mn<=50):aL x<=51:=by
 unfold aL;split
 ·omega
 ·split
  ·omega
  ·split
   ·omega
   ·split
    ·omega
    ·split<;>omega
theorem GY:∀(xs:List Pt) (n p j:Nat),fM xs n p=some j->n<=xs.length/\p<=j/\j<=p+xs.length
 |xs,0,p,j,h=>by simp [fM] at h;subst h;omega
 |[],n+1,p,j,h=>by simp [fM] at h
 |x::xs,n+1,p,j,h=>by
  have:=GY xs (n+aL x) (p+1) j h;simp;omega
theorem xA {es:List Pt} {n q j:Nat} (h:fM (es.drop q) (n+1) q=some j):∃x,es[q]?=some x/\fM (es.drop (q+1)) (n+aL x) (q+1)=some j:=by
 cases hd:es.drop q with
 |nil=>rw [hd] at h;simp [fM] at h
 |cons x xs=>
  rw [hd] at h
  have hx:es[q]?=some x:=by
   have:(es.drop q)[0]?=some x:=by rw [hd];rfl
   rwa [List.getElem?_drop,Nat.add_zero] at this
  refine ⟨x,hx,?_⟩;rw [<-oO,hd];exact h
theorem K4 (Y:Nat->Prop) (A:Option Addr) (c:Nat) (es:List Pt) (i j:Nat) (w:World) (hx:kF w Y A es) (hl:es.length<=1000000) (hok:dN es) (he:fM (es.drop i) 1 i=some j):
  Calls Tryz.prog 140 #[.slice A es.length c,.int .i64 (i:Int)] w fun e w'=>e= .returned (.int .i64 (j:Int))/\Below w.heap.size w w':=by
 have hi:i<es.length:=by
  obtain ⟨x,h1,_⟩:=xA (n:=0) he;exact aP h1
 have H:=aB (DF hx (DF hok he));have h0':(0:Int)<=(i:Int):=by omega
 have h1':(i:Int)<(es.length:Int):=by omega
 have hd0:decide ((i:Int)<0)=false:=by simp
 have hd1:decide (es.length<=i)=false:=by simp;omega
 clear hx hok he;go_enter Tryz.func140,Tryz.ntmps140;go_wp2_with fail
 go_loopw [1,5] (fun i1 o5 wr=>∃(q n:Nat),i1= .int .i64 q/\o5= .int .i64 n/\q<=es.length/\n<=es.length/\Hid (fM (es.drop q) n q=some j/\Below w.heap.size w wr))
  (fun i1 _ _=>es.length-(Lib.intOf i1).toNat)
 case atStart=>exact ⟨i,1,rfl,rfl,by omega,by omega,aB ⟨H.out.2.2,aI _ _⟩⟩
 case round=>
  obtain ⟨q,n,rfl,rfl,hq,hn,HI⟩:=hrel
  cases n with
  |zero=>
   have hj:q=j:=by
    have:=HI.out.1;simp [fM] at this;exact this
   subst hj;go_wp2_with fail;go_ret
   exact ⟨rfl,HI.out.2⟩
  |succ n=>
   obtain ⟨x,hx,hst⟩:=xA HI.out.1;have hql:=aP hx;have hle:=GY _ _ _ _ hst;have hxo:=H.out.2.1 x (O8 hx);have uf:=nJ hxo.2;obtain ⟨eb,eo,rfl,hb,hy,⟨TA,tc,UA,uc,_,_,c0,c1,c2,c3,c4,c5,c6,c7⟩,_⟩:=(H.out.1.fr (Fr.below HI.out.2:Fr Y w wr) fun q hq=>.inl hq) q x hx;have HM:=aB (fun v (hv:Below w.heap.size w v)=>GX x TA x.T.length tc UA x.U.length uc v hxo.1 (by omega));have HS:=aB hst;rw [xX] at hle;unfold yT at HM;clear hx hst hxo;obtain ⟨M,hM⟩:∃M,M=aL x:=⟨_,rfl⟩;rw [<-hM] at hle HM HS uf;clear hM;go_wp2_with fail;refine (HM.out _ HI.out.2).mono ?_;rintro e w1 ⟨rfl,hb1⟩;have HB1:=aB (ah HI.out.2 hb1);clear hb1 c0 c1 c2 c3 c4 c5 c6 c7;go_wp2_with fail;go_roundw
   case rel=>exact ⟨q+1,n+M,by go_num,by go_num,by omega,by omega,aB ⟨HS.out,HB1.out⟩⟩
   case measure=>simp [Lib.intOf];omega
theorem Fg {es:List Pt} {n a:Nat} {l:List Nat} (h:bZ es (n+1) a=some l):∃b l',fM (es.drop a) 1 a=some b/\bZ es n b=some l'/\l=a::l':=by
 unfold bZ at h;split at h
 ·cases h
 ·rename_i b hb
  rw [Option.map_eq_some_iff] at h;obtain ⟨l',h1,h2⟩:=h;exact ⟨b,l',hb,h1,h2.symm⟩
theorem BF {es:List Pt}:∀(n a:Nat) (l:List Nat),bZ es n a=some l->l.length=n/\∀i∈l,i<es.length
 |0,a,l,h=>by simp [bZ] at h;subst h;simp
 |n+1,a,l,h=>by
  obtain ⟨b,l',h1,h2,rfl⟩:=Fg h;obtain ⟨e1,e2⟩:=BF n b l' h2;refine ⟨by simp [e1],fun i hi=>?_⟩;rcases qm.1 hi with rfl|hi
  ·obtain ⟨x,h3,_⟩:=xA (n:=0) h1
   exact aP h3
  ·exact e2 i hi
theorem PE (Y:Nat->Prop) (A:Option Addr) (c:Nat) (es:List Pt) (i:Nat) (p:Pt) (l:List Nat) (w:World) (hx:kF w Y A es) (hl:es.length<=1000000) (hok:dN es) (hp:es[i]?=some p) (hk:bZ es (aL p) (i+1)=some l):
  Calls Tryz.prog 122 #[.slice A es.length c,.int .i64 (i:Int)] w fun e w'=>∃A' cap',e= .returned (.slice A' (aL p) cap')/\eX w' w.heap.size A' cap' (cB l)/\Below w.heap.size w w':=by
 have hi:=aP hp;have H:=aB (DF hx (DF hok hk));have hxo:=hok p (O8 hp);have uf:=nJ hxo.2;obtain ⟨eb,eo,rfl,hb,hy,⟨TA,tc,UA,uc,_,_,c0,c1,c2,c3,c4,c5,c6,c7⟩,_⟩:=hx i p hp;have HM:=aB (GX p TA p.T.length tc UA p.U.length uc w hxo.1 (by omega));unfold yT at HM;have h0':(0:Int)<=(i:Int):=by omega
 have h1':(i:Int)<(es.length:Int):=by omega
 have hd0:decide ((i:Int)<0)=false:=by simp
 have hd1:decide (es.length<=i)=false:=by simp;omega
 have J7:Hid (l.length=aL p):=aB (BF _ _ _ hk).1;obtain ⟨M,hM⟩:∃M,M=aL p:=⟨_,rfl⟩;rw [<-hM] at HM uf J7 H ⊢;clear hx hok hk hxo hp hM;go_enter Tryz.func122,Tryz.ntmps122;go_wp2_with fail;refine HM.out.mono ?_;rintro e w1 ⟨rfl,hbx⟩;obtain ⟨w2,hmk,hown2,KQ⟩:=DU w1 w.heap.size M (by omega) hbx.size;have jk:=ah hbx (rM KQ);obtain ⟨G,hG⟩:∃G,G=w1.heap.size:=⟨_,rfl⟩;rw [<-hG] at hmk hown2;have J8:=aB (DF hown2 jk);clear hbx KQ hown2 jk c0 c1 c2 c3 c4 c5 c6 c7 hG;go_upto_region 6 with fail
 go_loopw [6,26] (fun i6 k26 wr=>∃(k a:Nat) (L:List Int) (l':List Nat),i6= .int .i64 a/\k26= .int .i64 k/\k<=M/\L.length=M/\a<=es.length+1/\Hid (bZ es (M-k) a=some l'/\eX wr w.heap.size (some ⟨G,0,none⟩) M L/\Below w.heap.size w wr/\L.take k++cB l'=cB l))
  (fun _ k26 _=>M-(Lib.intOf k26).toNat)
 case atStart=>exact ⟨0,i+1,List.replicate M 0,l,by go_num,rfl,Nat.zero_le _,by simp,by omega,aB ⟨H.out.2.2,J8.out.1,J8.out.2,by simp⟩⟩
 case round=>
  obtain ⟨k,a,L,l',rfl,rfl,hkM,MP,hal,HI⟩:=hrel;by_cases hlt:k<M
  ·obtain ⟨b,l2,h1,h2,h3⟩:=Fg (n:=M-k-1) (by rw [show M-k-1+1=M-k by omega];exact HI.out.1)
   have ha2:a<es.length:=by
    obtain ⟨x,h3,_⟩:=xA (n:=0) h1;exact aP h3
   have hbl:=(GY _ _ _ _ h1).2.2;rw [xX] at hbl;have uW:=aB (fun W (h:Below w.heap.size w W)=>K4 Y (some ⟨eb,eo,none⟩) c es a b W (H.out.1.fr (Fr.below h) fun q hq=>.inl hq) hl H.out.2.1 h1)
   have dX:Hid ((L.set k (a:Int)).take (k+1)++cB l2=cB l):=aB (by
    rw [<-HI.out.2.2.2,h3,tX _ _ _ (by omega)];simp [cB])
   have HK2:=aB h2;clear h1 h2 h3;obtain ⟨g,hg,hbg,Pk,⟨m,hm,hcell⟩,hfz,hown3,Gz⟩:=HI.out.2.1.O4 (j:=k) (by omega) (a:Int);injection hg with hg
   injection hg with hg1 _ _
   subst hg1;have dH:=kY (p:=⟨G,k,none⟩) HI.out.2.2.1 hbg (.int .i64 (a:Int));have hlen3:(L.set k (a:Int)).length=M:=by simp [MP]
   have PG:=aB (DF hown3 dH);clear hm Gz hown3 dH;go_wp2_with fail;refine (uW.out _ PG.out.2).mono ?_;rintro e w4 ⟨rfl,hb4⟩;have HO4:Hid (eX w4 w.heap.size (some ⟨G,0,none⟩) M (L.set k (a:Int))/\Below w.heap.size w w4):=aB ⟨ay.below PG.out.1 hb4 (Nat.le_refl _),ah PG.out.2 hb4⟩;clear hb4 hcell hfz;go_wp2_with fail;go_roundw
   case rel=>exact ⟨k+1,b,L.set k (a:Int),l2,rfl,by go_num,by omega,hlen3,by omega,aB ⟨by rw [show M-(k+1)=M-k-1 by omega];exact HK2.out,HO4.out.1,HO4.out.2,dX.out⟩⟩
   case measure=>simp [Lib.intOf];omega
  ·have hkk:k=M:=by omega
   have hout:Hid (L=cB l/\eX wr w.heap.size (some ⟨G,0,none⟩) M L/\Below w.heap.size w wr):=aB (by
    obtain ⟨h1,h2,h3,h4⟩:=HI.out;rw [hkk,Nat.sub_self] at h1;simp [bZ] at h1;subst h1;rw [hkk,<-MP,List.take_length] at h4;exact ⟨by simpa [cB] using h4,h2,h3⟩)
   clear hkk;go_wp2_with fail;go_ret;exact ⟨_,_,rfl,by rw [<-hout.out.1];exact hout.out.2.1,hout.out.2.2⟩
inductive PI:Nat->Nd->Int->ByteArray->Nat->List Nd->Prop
 |nil (f:Nat) (x:Nd) (k:Int) (last:ByteArray):PI f x k last 0 []
 |cons {f:Nat} {x:Nd} {k:Int} {last:ByteArray} {d:Nat} {y:Nd} {ks rs:List Nd} (ho:dP y.k y.n=true) (hc:yF x k last y=true)
   (h1:PI f y 0 dQ (manyN y) ks) (h2:PI (f+1) x (k+1) y.s d rs):PI (f+1) x k last (d+1) (y::(ks++rs))
theorem WM {T:List Nd} {f:Nat} (x:Nd)
  (ih:∀i j,eG T f i=some j->∃(g:Nat) (y:Nd) (ks rest:List Nd),f=g+1/\T.drop i=y::(ks++rest)/\j=i+1+ks.length/\PI g y 0 dQ (manyN y) ks/\dP y.k y.n=true):
  ∀(d:Nat) (k:Int) (last:ByteArray) (i j:Nat),jU (eG T f) T x d k last i=some j->∃ks rest,T.drop i=ks++rest/\j=i+ks.length/\PI f x k last d ks:=by
 intro d
 induction d with
 |zero=>
  intro k last i j h;simp only [jU,Option.some.injEq] at h
  exact ⟨[],T.drop i,rfl,by simp [h],.nil _ _ _ _⟩
 |succ d ihd=>
  intro k last i j h;simp only [jU] at h;split at h
  ·cases h
  ·rename_i y hy
   split at h
   ·rename_i hc
    split at h
    ·cases h
    ·rename_i at' hat
     obtain ⟨g,y',ks,rest,rfl,hd,rfl,hr,ho⟩:=ih i at' hat;rw [drop_cons hy] at hd;injection hd with e1 e2
     subst e1;obtain ⟨rs,rest',hd2,rfl,hr2⟩:=ihd (k+1) y.s _ j h;have e3:T.drop (i+1+ks.length)=rest:=by rw [<-oO,e2,List.drop_left]
     rw [e3] at hd2;refine ⟨y::(ks++rs),rest',?_,by simp;omega,.cons ho hc hr hr2⟩;rw [drop_cons hy,e2,hd2];simp
   ·cases h
theorem WO {T:List Nd}:∀(f i j:Nat),eG T f i=some j->∃(g:Nat) (y:Nd) (ks rest:List Nd),f=g+1/\T.drop i=y::(ks++rest)/\j=i+1+ks.length/\PI g y 0 dQ (manyN y) ks/\dP y.k y.n=true:=by
 intro f
 induction f with
 |zero=>intro i j h;cases h
 |succ f ih=>
  intro i j h;simp only [eG] at h;split at h
  ·cases h
  ·rename_i y hy
   split at h
   ·rename_i ho
    obtain ⟨ks,rest,hd,rfl,hr⟩:=WM y ih _ _ _ _ _ h;exact ⟨f,y,ks,rest,rfl,by rw [drop_cons hy,hd],by omega,hr,ho⟩
   ·cases h
def Qn (st:Bool) (y:Nd):Prop:=y.k≠8/\y.k≠9/\y.s.size<=100/\(st=true->y.k≠0)
inductive GF (st:Bool):Nat->Int->ByteArray->Nat->List Nd->Prop
 |nil (f:Nat) (pk:Int) (last:ByteArray):GF st f pk last 0 []
 |cons {f:Nat} {pk:Int} {last:ByteArray} {d:Nat} {y:Nd} {ks rs:List Nd} (ho:dP y.k y.n=true) (hq:Qn st y) (hl:bP pk y.s=true) (hr:bF pk=true->kU last y.s=true)
   (h1:GF st f y.k dQ (manyN y) ks) (h2:GF st (f+1) pk y.s d rs):GF st (f+1) pk last (d+1) (y::(ks++rs))
def GT (st:Bool) (d:Nat) (t:List Nd):Prop:=GF st d 5 dQ 1 t
section
variable {st:Bool}
theorem GF.fo {f:Nat} {pk:Int} {last:ByteArray} {d:Nat} {ks:List Nd} (h:GF st f pk last d ks):Fo d ks:=by
 induction h with
 |nil=>exact Fo.zero
 |cons ho hq hl hr h1 h2 i1 i2=>exact Fo.cons i1 i2
theorem GF.all {f:Nat} {pk:Int} {last:ByteArray} {d:Nat} {ks:List Nd} (h:GF st f pk last d ks):∀y∈ks,dP y.k y.n=true/\Qn st y:=by
 induction h with
 |nil=>intro y hy;simp at hy
 |cons ho hq hl hr h1 h2 i1 i2=>
  intro z hz;simp only [qm,List.mem_append] at hz;rcases hz with rfl|hz|hz
  ·exact ⟨ho,hq⟩
  ·exact i1 z hz
  ·exact i2 z hz
theorem GF.mono {f:Nat} {pk:Int} {last:ByteArray} {d:Nat} {ks:List Nd} (h:GF st f pk last d ks):∀g,f<=g->GF st g pk last d ks:=by
 induction h with
 |nil=>intro g _;exact .nil _ _ _
 |cons ho hq hl hr h1 h2 i1 i2=>
  intro g hg;obtain ⟨g',rfl⟩:∃g',g=g'+1:=⟨g-1,by omega⟩;exact .cons ho hq hl hr (i1 g' (by omega)) (i2 _ hg)
theorem GF.akR {f:Nat} {x:Nd} {k:Int} {last:ByteArray} {d:Nat} {ks:List Nd} (h:PI f x k last d ks):(∀y∈ks,Qn st y)->GF st f x.k last d ks:=by
 induction h with
 |nil=>intro _;exact .nil _ _ _
 |@cons f x k last d y ks rs ho hc h1 h2 i1 i2=>
  intro hq;have hy:=hq y (by simp);unfold yF at hc;rw [if_neg hy.2.1,Bool.and_eq_true] at hc;refine .cons ho hy hc.1 (fun hx=>?_) (i1 fun z hz=>hq z (by simp [hz])) (i2 fun z hz=>hq z (by simp [hz]));have h3:=hc.2;rw [hx,O9] at h3;simpa [kU] using h3
theorem GF.append {f:Nat} {pk:Int} {d e:Nat} {xs ys:List Nd} {l1 l2:ByteArray} (hp:bF pk=false) (h:GF st f pk l1 d xs) (k:GF st f pk l2 e ys):GF st f pk l1 (d+e) (xs++ys):=by
 induction h with
 |nil f pk last=>
  simp only [List.nil_append,Nat.zero_add]
  cases k with
  |nil=>exact .nil _ _ _
  |cons ho hq hl hr h1 h2=>exact .cons ho hq hl (fun h=>by rw [hp] at h;cases h) h1 h2
 |@cons f pk last d y ks rs ho hq hl hr h1 h2 i1 i2=>
  have e1:d+1+e=(d+e)+1:=by omega
  rw [e1,List.cons_append,List.append_assoc];exact .cons ho hq hl hr h1 (i2 hp k)
theorem GF.met:∀(N f:Nat) (pk:Int) (last:ByteArray) (n:Nat) (xs ys m:List Nd),xs.length<=N->GF st f pk last n xs->GF st f pk last n ys->met n xs ys=some m->GF st f pk last n m/\m.length<=xs.length+ys.length:=by
 intro N
 induction N with
 |zero=>
  intro f pk last n xs ys m hN hx hy hm
  cases hx with
  |nil=>
   rw [jw] at hm;injection hm with hm
   subst hm
   exact ⟨.nil _ _ _,by simp⟩
  |cons=>simp at hN
 |succ N ih=>
  intro f pk last n xs ys m hN hx hy hm
  cases hx with
  |nil=>
   rw [jw] at hm;injection hm with hm
   subst hm
   exact ⟨.nil _ _ _,by simp⟩
  |@cons f _ _ n x ks rs ho hq hl hr h1 h2=>
   cases hy with
   |@cons _ _ _ _ y Ao qg ho2 hq2 hl2 hr2 k1 k2=>
    rw [jy] at hm;have hle:ks.length+rs.length<=N:=by simp at hN;omega
    by_cases hs:x.s≠y.s
    ·rw [if_pos hs] at hm
     cases hm
    rw [if_neg hs] at hm;have hs2:x.s=y.s:=aan hs;by_cases h0:x.k=0\/y.k=0
    ·rw [if_pos h0,yM h1.fo,yM k1.fo] at hm
     cases hr3:Go.Proofs.YtmjdhfbnmmdjiaaGreat.met n rs qg with
     |none=>rw [hr3] at hm;cases hm
     |some r=>
      rw [hr3] at hm;rw [<-hs2] at k2;obtain ⟨i1,i2⟩:=ih (f+1) pk x.s n rs qg r (by omega) h2 k2 hr3;have t1:nP (x::(ks++rs))=x::ks:=mG (ts:=x::ks) (by have:=h1.fo.cons Fo.zero;rwa [mO] at this) rs;have t2:nP (y::(Ao++qg))=y::Ao:=mG (ts:=y::Ao) (by have:=k1.fo.cons Fo.zero;rwa [mO] at this) qg;rw [t1,t2] at hm;simp only [Option.map_some,Option.some.injEq] at hm;by_cases hy0:y.k=0
      ·rw [if_pos hy0] at hm
       subst hm;refine ⟨.cons ho hq hl hr h1 i1,?_⟩;simp;omega
      ·rw [if_neg hy0] at hm
       subst hm;refine ⟨.cons ho2 hq2 hl2 hr2 k1 (by rw [<-hs2];exact i1),?_⟩;simp;omega
    ·rw [if_neg h0] at hm
     by_cases hk:x.k≠y.k\/x.n≠y.n
     ·rw [if_pos hk] at hm
      cases hm
     rw [if_neg hk] at hm;have hk2:x.k=y.k:=aan fun h=>hk (.inl h);have hn2:x.n=y.n:=aan fun h=>hk (.inr h);have hmn:manyN y=manyN x:=by unfold manyN;rw [hk2,hn2]
     rw [hmn,<-hk2] at k1;rw [yN ks.length (manyN x) n ks Ao rs qg (Nat.le_refl _) h1.fo k1.fo] at hm
     cases hr4:Go.Proofs.YtmjdhfbnmmdjiaaGreat.met (manyN x) ks Ao with
     |none=>rw [hr4] at hm;cases hm
     |some a=>
      cases hr5:Go.Proofs.YtmjdhfbnmmdjiaaGreat.met n rs qg with
      |none=>rw [hr4,hr5] at hm;cases hm
      |some b=>
       rw [hr4,hr5] at hm;simp only [Option.bind_some,Option.map_some,Option.some.injEq] at hm;subst hm;rw [<-hs2] at k2;obtain ⟨i1,i2⟩:=ih f x.k dQ (manyN x) ks Ao a (by omega) h1 k1 hr4;obtain ⟨j1,j2⟩:=ih (f+1) pk x.s n rs qg b (by omega) h2 k2 hr5;refine ⟨.cons ho hq hl hr i1 j1,?_⟩;simp;omega
theorem GF.kid {f:Nat} {pk:Int} {last:ByteArray} {n:Nat} {xs:List Nd} (h:GF st f pk last n xs):∀ts∈bA n xs,GT st f (eO ts)/\ts.length<=xs.length/\bP pk (aD ts).s=true:=by
 induction h with
 |nil=>intro ts hts;simp [bA] at hts
 |@cons f pk last d y ks rs ho hq hl hr h1 h2 i1 i2=>
  intro ts hts;have t1:(y::(ks++rs)).take ((y::(ks++rs)).length-(bV (y::(ks++rs))).length)=y::ks:=mG (ts:=y::ks) (by have:=h1.fo.cons Fo.zero;rwa [mO] at this) rs;simp only [bA,qm] at hts;rw [t1,yM h1.fo] at hts;rcases hts with rfl|hts
  ·refine ⟨?_,by simp,hl⟩
   have:=GF.cons (st:=st) (f:=f) (pk:=5) (last:=dQ) (d:=0) (y:=y.name dQ) (ks:=ks) (rs:=[]) ho ⟨hq.1,hq.2.1,by simp [Nd.name],hq.2.2.2⟩ (by simp [bP,Nd.name]) (by intro h;simp [bF] at h) h1 (.nil _ _ _);rw [mO] at this;exact this
  ·obtain ⟨h1,h2,h3⟩:=i2 ts hts
   exact ⟨h1,by simp;omega,h3⟩
end
end Go.Proofs.YtmjdhfbnmmdjiaaGreat
