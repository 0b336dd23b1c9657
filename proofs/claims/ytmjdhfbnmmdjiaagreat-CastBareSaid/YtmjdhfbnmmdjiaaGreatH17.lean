/- Laid together by a tool from the texts of this seat: ChRec. Conditions: each theorem's own. -/
import Derived.Test.YtmjdhfbnmmdjiaaGreatH14
set_option maxHeartbeats 8000000
set_option maxRecDepth 100000
namespace Go.Proofs.YtmjdhfbnmmdjiaaGreat
open Go.Lib renaming hid->aB
open Go.RowKit.Below renaming refl->aI
open Go.World renaming cell?->DI,frozen?->Gb,size_alloc->FT
open _root_.Array renaming getElem?_eq_some_iff->aai
open Go.RowKit
structure Ed (w:World) (Y:Nat->Prop) (f:Nat) (s:ByteArray) (A:Option Addr) (c:Nat) (t:List Nd):Prop where
 blk:w.heap[f]?=some (.cells #[.string s,.slice A t.length c] 36 (0,0))
 off:¬Y f
 ty:aF w Y A c t
theorem Ed.fr {w w':World} {Y Y':Nat->Prop} {f c:Nat} {s:ByteArray} {A:Option Addr} {t:List Nd} (h:Ed w Y f s A c t) (hf:Fr Y w w') (hy:aj Y Y' w):Ed w' Y' f s A c t:=by
 have hb:f<w.heap.size:=(aai.1 h.blk).1;refine ⟨(hf.block f hb h.off).trans h.blk,fun h2=>?_,h.ty.fr hf hy⟩;rcases hy f h2 with h3|h3
 ·exact h.off h3
 ·omega
theorem Ed.later {w w':World} {Y:Nat->Prop} {f c:Nat} {s:ByteArray} {A:Option Addr} {t:List Nd} (h:Ed w Y f s A c t) (hb:Below w.heap.size w w'):Ed w' Y f s A c t:=h.fr (Fr.below hb) (aj.refl _ _)
theorem Ed.cells {w:World} {Y:Nat->Prop} {f c:Nat} {s:ByteArray} {A:Option Addr} {t:List Nd} (h:Ed w Y f s A c t):w.cell? ⟨f,0,none⟩=some (.string s)/\w.cell? ⟨f,1,none⟩=some (.slice A t.length c):=
 ⟨by simp [DI,h.blk],by simp [DI,h.blk]⟩
theorem Ii (w:World) (b c:Bn):mZ (w.alloc (.cells #[.string b.s,.slice b.A b.n b.c,.string c.s,.slice c.A c.n c.c] 36)) (w.heap.size+1) (some ⟨w.heap.size,0,none⟩) [b,c]:=fun _=>by
 refine ⟨w.heap.size,0,rfl,by omega,fun i x hx j u hu=>?_⟩
 match i,hx with
 |0,hx=>
  simp at hx;subst hx
  match j,hu with
  |0,hu=>simp [qG] at hu;subst hu;simp
  |1,hu=>simp [qG] at hu;subst hu;simp
  |j+2,hu=>simp [qG] at hu
 |1,hx=>
  simp at hx;subst hx
  match j,hu with
  |0,hu=>simp [qG] at hu;subst hu;simp
  |1,hu=>simp [qG] at hu;subst hu;simp
  |j+2,hu=>simp [qG] at hu
 |i+2,hx=>simp at hx
theorem Qg {w:World} {Y:Nat->Prop} {f:Nat} {s:ByteArray} {A:Option Addr} {c:Nat} {t:List Nd} (hb:w.heap[f]?=some (.cells #[.string ⟨#[]⟩,.slice none 0 0] 36 (0,0))) (hY:¬Y f) (ht:aF w Y A c t) (hA:∀a,A=some a->a.block≠f\/t=[]):
  Ed ((w.setCell ⟨f,0,none⟩ (.string s)).setCell ⟨f,1,none⟩ (.slice A t.length c)) Y f s A c t/\Fr (fun q=>q=f) w ((w.setCell ⟨f,0,none⟩ (.string s)).setCell ⟨f,1,none⟩ (.slice A t.length c)):=by
 have hf:Fr (fun q=>q=f) w ((w.setCell ⟨f,0,none⟩ (.string s)).setCell ⟨f,1,none⟩ (.slice A t.length c)):=(dZ _ _ _ _).trans (dZ _ _ _ _);refine ⟨⟨?_,hY,fun hne=>?_,ht.cap⟩,hf⟩
 ·rw [heap_set (heap_set hb 0 _) 1]
  rfl
 ·obtain ⟨b,o,e,h1,h2,h3,h4⟩:=ht.ty hne
  have hbf:b≠f:=by
   rcases hA _ e with h|h
   ·exact h
   ·exact absurd h hne
  have hbk:=hf.block b h1 hbf;exact ⟨b,o,e,Nat.lt_of_lt_of_le h1 hf.size,h2,h3.mono fun off=>by simp [DI,hbk],h4.imp (lG hbk) fun h=>h⟩
theorem ZW (P:Nat) (es:List Pt) (nx:Nx) (HN:Hid (nR P es nx)) (env:Env) (p:Pt) (aN a:Nat) (r:fF) (Y:Nat->Prop) (w:World) (TA UA:Option Addr) (tc uc:Nat) (h:bf P es env (.ok a) Y w) (hT:aF w Y TA tc p.T) (hU:aF w Y UA uc p.U) (gT:Gd p.T) (gU:Gd p.U) (hvl:env.length<=900000) (hG:∀env a t b,nx env a=some (.ok (t,b))->Gd t) (hm:K3 nx env p aN a=some r):
  Calls Tryz.prog 69 #[pk P,pv p TA tc UA uc,.int .i64 aN] w (bI P es env Y r w):=by
 obtain ⟨w1,hw1⟩:∃w1,w1=w.alloc (.cells #[.int .i64 p.k,.string p.lb,.string p.nm,.string p.bd,.int .i64 p.mn,.int .i64 p.num,.slice TA p.T.length tc,.slice UA p.U.length uc] 33):=⟨_,rfl⟩;have hpm:=aZ.new h.lt hT hU;have hb1:Below w.heap.size w w1:=by rw [hw1];exact au (aI _ _) _
 rw [<-hw1] at hpm;have Eb:=aB hpm;have HB:=aB hb1;have H:=aB (h.later hb1);have HR:=aB (fP hm);have HD:=aB (And.intro gT (And.intro gU (And.intro hG hvl)));have HL:=aB h.lt;clear h hT hU hm hG hpm hb1;unfold pk pv;go_enter Tryz.func69,Tryz.ntmps69;go_upto_region 1 with fail
 rw [<-hw1];clear hw1;apply share
 case h=>
  intro HT;obtain ⟨SS,hSS⟩:∃SS:World->Prop,SS=fun v=>v.cell? ⟨w.heap.size,2,none⟩=some (.string p.nm)/\v.cell? ⟨w.heap.size,3,none⟩=some (.string p.bd)/\v.cell? ⟨w.heap.size,6,none⟩=some (.slice TA p.T.length tc)/\v.cell? ⟨w.heap.size,7,none⟩=some (.slice UA p.U.length uc):=⟨_,rfl⟩;have HS:Hid (∀v Y',aZ v Y' w.heap.size p TA tc UA uc->SS v):=aB fun v Y' hv=>by rw [hSS];exact ⟨hv.cells.2.2.1,hv.cells.2.2.2.1,hv.cells.2.2.2.2.2.1,hv.cells.2.2.2.2.2.2⟩
  obtain ⟨wd,hwd⟩:∃wd,wd=w1.drew:=⟨_,rfl⟩;have bM:Hid (Below w1.heap.size w1 wd):=aB (by rw [hwd];exact (aI _ _).drew);have mY:=aB (Eb.out.later bM.out);have xD:=aB (H.out.later bM.out);have qO:Hid (Fr Y w wd/\aj Y Y w):=aB ⟨Fr.below (ah HB.out bM.out),aj.refl _ _⟩;have hsd:SS wd:=HS.out _ _ mY.out;refine aG (S:=SS) [9] (by kernel_rfl) (by rw [<-hwd];exact hsd) (fun hHeld=>?_);rw [<-hwd] at hHeld ⊢;clear hwd;refine aM 0 [1,7,9] (some 8) rfl rfl ?_;refine aM 1 [7,9] (some 9) rfl rfl ?_;refine aM 2 [3,6,7,9] (some 10) rfl rfl ?_;refine aM 3 [6,7,9] (some 11) rfl rfl ?_;refine aM 4 [5,6,7,9] (some 12) rfl rfl ?_;refine aM 5 [6,7,9] (some 13) rfl rfl ?_;have Z0:=aB (fun v (hv:Below wd.heap.size wd v)=>o_ TA UA tc uc p.T p.U v (mY.out.later hv).T.ty.eY (mY.out.later hv).U.ty.eY (by have:=HD.out.1.len;have:=HD.out.2.1.len;omega));refine pF 6 8 (by kernel_rfl) rfl rfl (by rfl) (by rfl) ?_ ?_
  ·refine qh (some 14) rfl (by kernel_rfl) (Z0.out wd (aI _ _)) ?_
   rintro e w2 ⟨A1,c1,rfl,hown,hb⟩;have mo:=aB (mY.out.later hb);have HB2:=aB hb;have HO:=aB hown;clear hown hb;refine ⟨_,rfl,fun _=>HS.out _ _ mo.out,?_⟩;refine aA ?_;refine aM 7 [9] (some 15) rfl rfl (hS:=HS.out _ _ mo.out) ?_;refine aX 8 (some 7) (v:=?_) (w':=?_) rfl rfl (by kernel_rfl) (by rfl) ?_ (fun _=>?_) ?_
   rotate_left
   rotate_left
   ·(go_simp;first|with_reducible rfl|(constructor<;>with_reducible rfl))
   ·exact HS.out _ _ (mo.out.later (au (aI _ _) _))
   refine aA ?_;obtain ⟨w3,hw3⟩:∃w3,w3=w2.alloc (.cells #[.string ⟨#[]⟩,.slice none 0 0] 36):=⟨_,rfl⟩;have hb3:w3.heap[w2.heap.size]?=some (.cells #[.string ⟨#[]⟩,.slice none 0 0] 36 (0,0)):=by rw [hw3];exact heap_alloc_new _ _
   have HB3:Hid (Below w2.heap.size w2 w3):=aB (by rw [hw3];exact au (aI _ _) _);rw [<-hw3];clear hw3;have g0:w3.cell? ⟨w2.heap.size,0,none⟩=some (.string ⟨#[]⟩):=by simp [DI,hb3]
   have g1:w3.cell? ⟨w2.heap.size,1,none⟩=some (.slice none 0 0):=by simp [DI,hb3]
   have f0:w3.frozen? ⟨w2.heap.size,0,none⟩=false:=by simp [Gb,hb3]
   have f1:w3.frozen? ⟨w2.heap.size,1,none⟩=false:=by simp [Gb,hb3]
   refine jl 9 none (w':=?_) rfl rfl (by kernel_rfl) (by rfl) ?_ (zL (by kernel_rfl)) ?_
   rotate_left
   ·(go_simp;try with_reducible rfl)
   refine aA ?_;refine bB (by kernel_rfl) ?_ _
   have HQ:Hid (Fr Y w ((w3.setCell ⟨w2.heap.size,0,none⟩ (.string p.nm)).setCell ⟨w2.heap.size,1,none⟩ (.slice A1 (aR p.T p.U).length c1))/\bf P es env (.ok a) Y ((w3.setCell ⟨w2.heap.size,0,none⟩ (.string p.nm)).setCell ⟨w2.heap.size,1,none⟩ (.slice A1 (aR p.T p.U).length c1))/\aZ ((w3.setCell ⟨w2.heap.size,0,none⟩ (.string p.nm)).setCell ⟨w2.heap.size,1,none⟩ (.slice A1 (aR p.T p.U).length c1)) Y w.heap.size p TA tc UA uc/\Ed ((w3.setCell ⟨w2.heap.size,0,none⟩ (.string p.nm)).setCell ⟨w2.heap.size,1,none⟩ (.slice A1 (aR p.T p.U).length c1)) Y w2.heap.size p.nm A1 c1 (aR p.T p.U)):=aB (by
    have hY2:¬Y w2.heap.size:=fun h=>by have:=xD.out.lt _ h;have:=HB2.out.size;omega
    have ht:aF w3 Y A1 c1 (aR p.T p.U):=(aF.own HO.out xD.out.lt).later HB3.out;have hs:=Qg (s:=p.nm) hb3 hY2 ht (fun a ha=>.inl (by have:=(ay.lt HO.out a ha).2;omega));have hbd:=ah HB2.out HB3.out;have hn:wd.heap.size<=w2.heap.size:=HB2.out.size;have hbb:=(Fr.toBelow (Fr.new (Fr.below hbd) hs.2 (fun b e=>.inr (by omega)):Fr (fun _=>False) wd _) fun k e=>e.elim);exact ⟨qO.out.1.trans (Fr.below hbb),xD.out.later hbb,mY.out.later hbb,hs.1⟩)
   obtain ⟨w5,uM⟩:∃w5,w5=(w3.setCell ⟨w2.heap.size,0,none⟩ (.string p.nm)).setCell ⟨w2.heap.size,1,none⟩ (.slice A1 (aR p.T p.U).length c1):=⟨_,rfl⟩;rw [<-uM] at HQ ⊢;obtain ⟨ff,Z4⟩:∃ff,ff=w2.heap.size:=⟨_,rfl⟩;rw [<-Z4] at HQ ⊢;clear uM Z4 hb3 g0 g1 f0 f1 HO;revert HQ;revert w5 ff A1 c1;exact HT.out
  ·refine fC (some 7) (v:=?_) (w':=?_) rfl ?_ ?_
   rotate_left
   rotate_left
   ·(go_simp;first|with_reducible rfl|(constructor<;>with_reducible rfl))
   refine ⟨fun _=>HS.out _ _ (mY.out.later (au (aI _ _) _)),?_⟩;refine aA ?_;obtain ⟨w2,hw2⟩:∃w2,w2=wd.alloc (.cells #[.string ⟨#[]⟩,.slice none 0 0] 36):=⟨_,rfl⟩;have hb2:w2.heap[wd.heap.size]?=some (.cells #[.string ⟨#[]⟩,.slice none 0 0] 36 (0,0)):=by rw [hw2];exact heap_alloc_new _ _
   have HB2:Hid (Below wd.heap.size wd w2):=aB (by rw [hw2];exact au (aI _ _) _);rw [<-hw2];clear hw2;refine aY 6 (some 14) rfl rfl (by kernel_rfl) (by rfl) (by kernel_rfl) (Z0.out w2 HB2.out) ?_;rintro e w3 ⟨A1,c1,rfl,hown,hb⟩;have hlt2:wd.heap.size<w2.heap.size:=(aai.1 hb2).1;have hb3:w3.heap[wd.heap.size]?=some (.cells #[.string ⟨#[]⟩,.slice none 0 0] 36 (0,0)):=(hb.block _ hlt2).trans hb2;have HB3:=aB hb;have m_:=aB (mY.out.later (ah HB2.out hb));have HO:=aB hown;clear hown hb;refine ⟨_,rfl,HS.out _ _ m_.out,?_⟩;refine aA ?_;refine aM 7 [9] (some 15) rfl rfl (hS:=HS.out _ _ m_.out) ?_;have g0:w3.cell? ⟨wd.heap.size,0,none⟩=some (.string ⟨#[]⟩):=by simp [DI,hb3]
   have g1:w3.cell? ⟨wd.heap.size,1,none⟩=some (.slice none 0 0):=by simp [DI,hb3]
   have f0:w3.frozen? ⟨wd.heap.size,0,none⟩=false:=by simp [Gb,hb3]
   have f1:w3.frozen? ⟨wd.heap.size,1,none⟩=false:=by simp [Gb,hb3]
   refine jl 9 none (w':=?_) rfl rfl (by kernel_rfl) (by rfl) ?_ (zL (by kernel_rfl)) ?_
   rotate_left
   ·(go_simp;try with_reducible rfl)
   refine aA ?_;refine bB (by kernel_rfl) ?_ _
   have HQ:Hid (Fr Y w ((w3.setCell ⟨wd.heap.size,0,none⟩ (.string p.nm)).setCell ⟨wd.heap.size,1,none⟩ (.slice A1 (aR p.T p.U).length c1))/\bf P es env (.ok a) Y ((w3.setCell ⟨wd.heap.size,0,none⟩ (.string p.nm)).setCell ⟨wd.heap.size,1,none⟩ (.slice A1 (aR p.T p.U).length c1))/\aZ ((w3.setCell ⟨wd.heap.size,0,none⟩ (.string p.nm)).setCell ⟨wd.heap.size,1,none⟩ (.slice A1 (aR p.T p.U).length c1)) Y w.heap.size p TA tc UA uc/\Ed ((w3.setCell ⟨wd.heap.size,0,none⟩ (.string p.nm)).setCell ⟨wd.heap.size,1,none⟩ (.slice A1 (aR p.T p.U).length c1)) Y wd.heap.size p.nm A1 c1 (aR p.T p.U)):=aB (by
    have hY2:¬Y wd.heap.size:=fun h=>by have:=xD.out.lt _ h;omega
    have ht:aF w3 Y A1 c1 (aR p.T p.U):=aF.own HO.out (fun q hq=>by have:=xD.out.lt _ hq;omega);have hs:=Qg (s:=p.nm) hb3 hY2 ht (fun a ha=>.inl (by have:=(ay.lt HO.out a ha).1;omega));have hbd:=ah HB2.out HB3.out;have hbb:=(Fr.toBelow (Fr.new (Fr.below hbd) hs.2 (fun b e=>.inr (by omega)):Fr (fun _=>False) wd _) fun k e=>e.elim);exact ⟨qO.out.1.trans (Fr.below hbb),xD.out.later hbb,mY.out.later hbb,hs.1⟩)
   obtain ⟨w5,uM⟩:∃w5,w5=(w3.setCell ⟨wd.heap.size,0,none⟩ (.string p.nm)).setCell ⟨wd.heap.size,1,none⟩ (.slice A1 (aR p.T p.U).length c1):=⟨_,rfl⟩;rw [<-uM] at HQ ⊢;obtain ⟨ff,Z4⟩:∃ff,ff=wd.heap.size:=⟨_,rfl⟩;rw [<-Z4] at HQ ⊢;clear uM Z4 hb3 g0 g1 f0 f1 HO;revert HQ;revert w5 ff A1 c1;exact HT.out
 case t=>
  intro A1 c1 w5 ff HQ;have G:=HQ;clear HQ Eb HB H;go_upto_region 2 with fail
  obtain ⟨SS,hSS⟩:∃SS:World->Prop,SS=fun v=>v.cell? ⟨w.heap.size,2,none⟩=some (.string p.nm)/\v.cell? ⟨w.heap.size,3,none⟩=some (.string p.bd)/\v.cell? ⟨w.heap.size,6,none⟩=some (.slice TA p.T.length tc)/\v.cell? ⟨w.heap.size,7,none⟩=some (.slice UA p.U.length uc)/\v.cell? ⟨ff,0,none⟩=some (.string p.nm)/\v.cell? ⟨ff,1,none⟩=some (.slice A1 (aR p.T p.U).length c1):=⟨_,rfl⟩;have HS:Hid (∀v Y',aZ v Y' w.heap.size p TA tc UA uc->Ed v Y' ff p.nm A1 c1 (aR p.T p.U)->SS v):=aB fun v Y' hv hb=>by rw [hSS];exact ⟨hv.cells.2.2.1,hv.cells.2.2.2.1,hv.cells.2.2.2.2.2.1,hv.cells.2.2.2.2.2.2,hb.cells⟩
  obtain ⟨wd,hwd⟩:∃wd,wd=w5.drew:=⟨_,rfl⟩;have hBd:Below w5.heap.size w5 wd:=by rw [hwd];exact (aI _ _).drew
  have HBM:=aB (G.out.2.2.2.later hBd);have mY:=aB (G.out.2.2.1.later hBd);have xD:=aB (G.out.2.1.later hBd);have qO:Hid (Fr Y w wd/\aj Y Y w):=aB ⟨G.out.1.trans (Fr.below hBd),aj.refl _ _⟩;have hsd:SS wd:=HS.out _ _ mY.out HBM.out;refine aG (S:=SS) [13] (by kernel_rfl) (by rw [<-hwd];exact hsd) (fun hHeld=>?_);rw [<-hwd] at hHeld ⊢;clear hwd hBd;refine aM 0 [13] (some 16) rfl rfl ?_;refine aM 1 [9,13] (some 17) rfl rfl ?_;refine aM 2 [8,9,13] (some 18) rfl rfl ?_;refine aM 3 [4,7,8,9,13] (some 19) rfl rfl ?_;refine aM 4 [7,8,9,13] (some 20) rfl rfl ?_;refine aM 5 [6,7,8,9,13] (some 21) rfl rfl ?_;refine aM 6 [7,8,9,13] (some 22) rfl rfl ?_;refine aM 7 [8,9,13] (some 23) rfl rfl ?_;refine aM 10 [11,13] (some 26) rfl rfl ?_;refine aM 11 [13] (some 27) rfl rfl ?_;refine aM 12 [13] (some 28) rfl rfl ?_;refine aX 8 (some 24) (v:=?_) (w':=?_) rfl rfl (by kernel_rfl) (by rfl) ?_ (fun _=>?_) ?_
  rotate_left
  rotate_left
  ·(go_simp;first|with_reducible rfl|(constructor<;>with_reducible rfl))
  ·exact HS.out _ _ (mY.out.later (au (aI _ _) _)) (HBM.out.later (au (aI _ _) _))
  refine aA ?_;obtain ⟨we,j_⟩:∃we,we=wd.alloc (.cells #[.string p.nm,.slice A1 (aR p.T p.U).length c1,.string p.bd,.slice TA p.T.length tc] 36):=⟨_,rfl⟩;have jF:Hid (Below wd.heap.size wd we):=aB (by rw [j_];exact au (aI _ _) _);have HX:=aB (fun r1 (h1:nx (env++[(p.nm,aR p.T p.U),(p.bd,p.T)]) a=some r1)=>qM P es nx HN env [(p.nm,aR p.T p.U),(p.bd,p.T)] (.ok a) r1 (some ⟨wd.heap.size,0,none⟩) 2 [⟨p.nm,A1,(aR p.T p.U).length,c1⟩,⟨p.bd,TA,p.T.length,tc⟩] Y we (xD.out.later jF.out) (by rw [j_,FT];exact Ii wd ⟨p.nm,A1,(aR p.T p.U).length,c1⟩ ⟨p.bd,TA,p.T.length,tc⟩) (dY.app (dY.one (HBM.out.later jF.out).ty rfl) (dY.one (mY.out.later jF.out).T rfl)) (by simp) HD.out.2.2.2 h1);unfold pk at HX;have BK:Hid (Fr Y w we/\aZ we Y w.heap.size p TA tc UA uc/\Ed we Y ff p.nm A1 c1 (aR p.T p.U)):=aB ⟨qO.out.1.trans (Fr.below jF.out),mY.out.later jF.out,HBM.out.later jF.out⟩;rw [<-j_];clear j_;rcases HR.out with ⟨x,h1,hr⟩|⟨t,b,h1,hr⟩
  ·refine aY 9 (some 25) rfl rfl (by kernel_rfl) (by rfl) (by kernel_rfl) (HX.out _ h1) ?_
   rintro e w2 ⟨Y2,hf2,hy2,hk2,rfl⟩;have mo:=aB (BK.out.2.1.fr hf2 hy2);have HB2:=aB (BK.out.2.2.fr hf2 hy2);refine ⟨_,rfl,HS.out _ _ mo.out HB2.out,?_⟩;refine aA ?_;have lV:Hid (Fr Y w w2/\aj Y Y2 w):=aB ⟨Fr.new BK.out.1 hf2 (aj.refl _ _),aj.trans (aj.refl _ _) hy2 BK.out.1.size⟩;have nV:=aB (gy P es env x (.slice none 0 0) (.slice UA p.U.length uc) aN Y2 w2 hk2);unfold pk at nV;refine aY 13 (some 29) rfl rfl (by kernel_rfl) (by rfl) (by kernel_rfl) nV.out ?_;rintro e w3 ⟨⟨v3,rfl⟩,hf3,hk3⟩;have m_:=aB (mo.out.fr hf3 (aj.refl _ _));have HB3:=aB (HB2.out.fr hf3 (aj.refl _ _));refine ⟨_,rfl,HS.out _ _ m_.out HB3.out,?_⟩;refine aA ?_;refine bB (by kernel_rfl) ?_ _;go_upto_region 3 with fail
   have CS:=aB (qM P es nx HN env [(p.nm,aR p.T p.U)] (.error x) r (some ⟨w3.heap.size,0,none⟩) 1 [⟨p.nm,A1,(aR p.T p.U).length,c1⟩] Y2 (w3.alloc (.cells #[.string p.nm,.slice A1 (aR p.T p.U).length c1] 36)) (hk3.later (au (aI _ _) _)) (by rw [FT];exact kP w3 ⟨p.nm,A1,(aR p.T p.U).length,c1⟩) (dY.one (HB3.out.later (au (aI _ _) _)).ty rfl) (by simp) HD.out.2.2.2 (by rw [hr];rfl));have Ia:Hid (Fr Y w (w3.alloc (.cells #[.string p.nm,.slice A1 (aR p.T p.U).length c1] 36))/\aj Y Y2 w):=aB ⟨(Fr.new lV.out.1 hf3 lV.out.2).alloc _,lV.out.2⟩;obtain ⟨k0,k1⟩:=HB3.out.cells;unfold pk at CS;clear hf2 hy2 hk2 hf3 hk3 hHeld hsd h1 hr;go_wp2_with fail;refine CS.out.mono ?_;intro e w4 hp;have HQ:=aB (hp.to Ia.out.1 Ia.out.2);clear hp;obtain ⟨v9,vI⟩:=HQ.out.ret;subst vI;clear k0 k1;go_wp2_with fail;go_ret;exact HQ.out
  ·refine aY 9 (some 25) rfl rfl (by kernel_rfl) (by rfl) (by kernel_rfl) (HX.out _ h1) ?_
   rintro e w2 ⟨Y2,hf2,hy2,hk2,A2,c2,rfl,ht2⟩;have mo:=aB (BK.out.2.1.fr hf2 hy2);have HB2:=aB (BK.out.2.2.fr hf2 hy2);refine ⟨_,rfl,HS.out _ _ mo.out HB2.out,?_⟩;refine aA ?_;have lV:Hid (Fr Y w w2/\aj Y Y2 w):=aB ⟨Fr.new BK.out.1 hf2 (aj.refl _ _),aj.trans (aj.refl _ _) hy2 BK.out.1.size⟩;have nV:=aB (nK P es env b A2 UA c2 uc t p.U aN Y2 w2 hk2 ht2.ty mo.out.U.ty (HD.out.2.2.1 _ _ _ _ h1) HD.out.2.1);unfold pk at nV;refine aY 13 (some 29) rfl rfl (by kernel_rfl) (by rfl) (by kernel_rfl) nV.out ?_;rintro e w3 ⟨⟨v3,rfl⟩,hf3,hk3⟩;have m_:=aB (mo.out.fr hf3 (aj.refl _ _));have HB3:=aB (HB2.out.fr hf3 (aj.refl _ _));refine ⟨_,rfl,HS.out _ _ m_.out HB3.out,?_⟩;refine aA ?_;refine bB (by kernel_rfl) ?_ _;go_upto_region 3 with fail
   have CS:=aB (qM P es nx HN env [(p.nm,aR p.T p.U)] (og t p.U aN b) r (some ⟨w3.heap.size,0,none⟩) 1 [⟨p.nm,A1,(aR p.T p.U).length,c1⟩] Y2 (w3.alloc (.cells #[.string p.nm,.slice A1 (aR p.T p.U).length c1] 36)) (hk3.later (au (aI _ _) _)) (by rw [FT];exact kP w3 ⟨p.nm,A1,(aR p.T p.U).length,c1⟩) (dY.one (HB3.out.later (au (aI _ _) _)).ty rfl) (by simp) HD.out.2.2.2 hr);have Ia:Hid (Fr Y w (w3.alloc (.cells #[.string p.nm,.slice A1 (aR p.T p.U).length c1] 36))/\aj Y Y2 w):=aB ⟨(Fr.new lV.out.1 hf3 lV.out.2).alloc _,lV.out.2⟩;obtain ⟨k0,k1⟩:=HB3.out.cells;unfold pk at CS;clear hf2 hy2 hk2 hf3 hk3 hHeld hsd h1 hr ht2;go_wp2_with fail;refine CS.out.mono ?_;intro e w4 hp;have HQ:=aB (hp.to Ia.out.1 Ia.out.2);clear hp;obtain ⟨v9,vI⟩:=HQ.out.ret;subst vI;clear k0 k1;go_wp2_with fail;go_ret;exact HQ.out
end Go.Proofs.YtmjdhfbnmmdjiaaGreat
