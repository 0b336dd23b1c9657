/- Laid together by a tool from the texts of this seat: ChX. Conditions: each theorem's own. -/
import Derived.Test.YtmjdhfbnmmdjiaaGreatH12
set_option maxHeartbeats 8000000
set_option maxRecDepth 100000
namespace Go.Proofs.YtmjdhfbnmmdjiaaGreat
open Go.Lib renaming hid->aB
open Go.RowKit.Below renaming refl->aI
open _root_.ByteArray renaming empty->dQ
open Go.RowKit
theorem iZ (k:Int) (w:World):Calls Tryz.prog 100 #[.int .i64 k] w (AQ w (aH k)):=by
 go_enter Tryz.func100,Tryz.ntmps100;go_wp2_with fail;go_ret;exact ⟨_,1,rfl,wC w ⟨k,dQ,0⟩,au (aI _ _) _⟩
theorem CP (k:Int) (hk:0<=k/\k<=4):Gd (aH k):=by
 have:k=0\/k=1\/k=2\/k=3\/k=4:=by omega
 rcases this with rfl|rfl|rfl|rfl|rfl<;>decide
theorem H_ (P:Nat) (es:List Pt) (env:Env) (x:Nat×Int) (v1 v2:Value) (aN:Nat) (Y:Nat->Prop) (w:World) (h:bf P es env (.error x) Y w):
  Calls Tryz.prog 104 #[pk P,v1,v2,.int .i64 aN] w (jL P es env Y (.error x) w):=by
 have H:=aB h;have HO:=aB (jg P es env _ Y w h);simp only [qC] at HO;unfold pk at*;clear h;go_enter Tryz.func104,Tryz.ntmps104;go_wp2_with fail;refine HO.out.mono ?_;rintro e w1 ⟨rfl,hb1⟩;have HB:=aB hb1;clear hb1;go_wp2_with fail;go_ret;exact ⟨Y,Fr.below HB.out,aj.refl _ _,H.out.later HB.out,rfl⟩
theorem tC (P:Nat) (es:List Pt) (env:Env) (x:Nat×Int) (v1 v2:Value) (aN:Nat) (Y:Nat->Prop) (w:World) (h:bf P es env (.error x) Y w):
  Calls Tryz.prog 101 #[pk P,v1,v2,.int .i64 aN] w (jL P es env Y (.error x) w):=by
 have H:=aB h;have HO:=aB (jg P es env _ Y w h);simp only [qC] at HO;unfold pk at*;clear h;go_enter Tryz.func101,Tryz.ntmps101;go_wp2_with fail;refine HO.out.mono ?_;rintro e w1 ⟨rfl,hb1⟩;have HB:=aB hb1;clear hb1;go_wp2_with fail;go_ret;exact ⟨Y,Fr.below HB.out,aj.refl _ _,H.out.later HB.out,rfl⟩
theorem Ec (P:Nat) (es:List Pt) (env:Env) (a:Nat) (A:Option Addr) (c:Nat) (t:List Nd) (s:ByteArray) (aN:Nat) (r:fF) (Y:Nat->Prop) (w:World) (h:bf P es env (.ok a) Y w) (ht:aF w Y A c t) (g:Gd t) (hm:nH t s aN a=some r):
  Calls Tryz.prog 104 #[pk P,.slice A t.length c,.string s,.int .i64 aN] w (jL P es env Y r w):=by
 have HL:=aB h.lt;have HO:=aB (jg P es env _ Y w h);have HC:=aB (fun v (hv:Below w.heap.size w v)=>t_ A c t s v (ht.later hv).ty.eY g ht.cap);have HW:=aB (fun v (hv:Below w.heap.size w v)=>h.later hv);have HR:=aB hm;simp only [qC] at HO;unfold pk at*;clear h ht g hm;go_enter Tryz.func104,Tryz.ntmps104;go_wp2_with fail;refine HO.out.mono ?_;rintro e w1 ⟨rfl,hb1⟩;have HB1:=aB hb1;clear hb1;go_wp2_with fail;refine (HC.out _ HB1.out).mono ?_;rintro e w2 ⟨hb2,h2⟩;have HB2:=aB (ah HB1.out hb2);clear hb2
 cases hi:bG t s with
 |none=>
  rw [hi] at h2;subst h2
  have HR2:Hid (r= .error (aN,9)):=aB (by
   have:=HR.out;unfold nH at this;rw [hi] at this;injection this with this
   exact this.symm)
  have HM:=aB (jB P es env (.ok a) false aN 9 Y w2 (.inl (by decide)) (HW.out w2 HB2.out));unfold pk at HM;clear hi;go_wp2_with fail;refine HM.out.mono ?_;rintro e w3 ⟨⟨v3,rfl⟩,hf3,hk3⟩
  have HP:Hid (jL P es env Y r w (.returned (.slice none 0 0)) w3):=aB (by
   rw [HR2.out];exact ⟨Y,(Fr.below HB2.out).trans hf3,aj.refl _ _,hk3,rfl⟩)
  clear hf3 hk3;go_wp2_with fail;go_ret
  exact HP.out
 |some u0=>
  rw [hi] at h2;obtain ⟨A1,c1,rfl,hown⟩:=h2
  have HR2:Hid (r= .ok (u0,a)):=aB (by
   have:=HR.out;unfold nH at this;rw [hi] at this;injection this with this
   exact this.symm)
  have HT:=aB (aF.own hown fun q hq=>Nat.lt_of_lt_of_le (HL.out q hq) HB1.out.size);have HM:=aB (jB P es env (.ok a) true aN 0 Y w2 (.inr rfl) (HW.out w2 HB2.out));unfold pk at HM;clear hi hown;go_wp2_with fail;refine HM.out.mono ?_;rintro e w3 ⟨⟨v3,rfl⟩,hf3,hk3⟩
  have HP:Hid (jL P es env Y r w (.returned (.slice A1 u0.length c1)) w3):=aB (by
   rw [HR2.out];exact ⟨Y,(Fr.below HB2.out).trans hf3,aj.refl _ _,hk3,A1,c1,rfl,HT.out.fr hf3 (aj.refl _ _)⟩)
  clear hf3 hk3;go_wp2_with fail;go_ret;exact HP.out
theorem yV (P:Nat) (es:List Pt) (env:Env) (a:Nat) (A B:Option Addr) (c d:Nat) (t u:List Nd) (aN:Nat) (r:fF) (Y:Nat->Prop) (w:World) (h:bf P es env (.ok a) Y w) (ht:aF w Y A c t) (hu:aF w Y B d u) (g:Gd t) (gu:Gd u) (hm:sj t u aN a=some r):
  Calls Tryz.prog 101 #[pk P,.slice A t.length c,.slice B u.length d,.int .i64 aN] w (jL P es env Y r w):=by
 have HL:=aB h.lt;have HO:=aB (jg P es env _ Y w h);have HC:=aB (fun v (hv:Below w.heap.size w v)=>KU A B c d t u v (ht.later hv).ty.eY (hu.later hv).ty.eY g gu ht.cap hu.cap);have HW:=aB (fun v (hv:Below w.heap.size w v)=>h.later hv);have HR:=aB hm;simp only [qC] at HO;unfold pk at*;clear h ht hu g gu hm;go_enter Tryz.func101,Tryz.ntmps101;go_wp2_with fail;refine HO.out.mono ?_;rintro e w1 ⟨rfl,hb1⟩;have HB1:=aB hb1;clear hb1;go_wp2_with fail;refine (HC.out _ HB1.out).mono ?_;rintro e w2 ⟨hb2,h2⟩;have HB2:=aB (ah HB1.out hb2);clear hb2
 cases hi:met 1 t u with
 |none=>
  rw [hi] at h2;subst h2
  have HR2:Hid (r= .error (aN,9)):=aB (by
   have:=HR.out;unfold sj at this;rw [hi] at this;injection this with this
   exact this.symm)
  have HM:=aB (jB P es env (.ok a) false aN 9 Y w2 (.inl (by decide)) (HW.out w2 HB2.out));unfold pk at HM;clear hi;go_wp2_with fail;refine HM.out.mono ?_;rintro e w3 ⟨⟨v3,rfl⟩,hf3,hk3⟩
  have HP:Hid (jL P es env Y r w (.returned (.slice none 0 0)) w3):=aB (by
   rw [HR2.out];exact ⟨Y,(Fr.below HB2.out).trans hf3,aj.refl _ _,hk3,rfl⟩)
  clear hf3 hk3;go_wp2_with fail;go_ret
  exact HP.out
 |some u0=>
  rw [hi] at h2;obtain ⟨A1,c1,rfl,hown⟩:=h2
  have HR2:Hid (r= .ok (u0,a)):=aB (by
   have:=HR.out;unfold sj at this;rw [hi] at this;injection this with this
   exact this.symm)
  have HT:=aB (aF.own hown fun q hq=>Nat.lt_of_lt_of_le (HL.out q hq) HB1.out.size);have HM:=aB (jB P es env (.ok a) true aN 0 Y w2 (.inr rfl) (HW.out w2 HB2.out));unfold pk at HM;clear hi hown;go_wp2_with fail;refine HM.out.mono ?_;rintro e w3 ⟨⟨v3,rfl⟩,hf3,hk3⟩
  have HP:Hid (jL P es env Y r w (.returned (.slice A1 u0.length c1)) w3):=aB (by
   rw [HR2.out];exact ⟨Y,(Fr.below HB2.out).trans hf3,aj.refl _ _,hk3,A1,c1,rfl,HT.out.fr hf3 (aj.refl _ _)⟩)
  clear hf3 hk3;go_wp2_with fail;go_ret;exact HP.out
theorem WR (s:ByteArray):s.toList=[38,38]\/s.toList=[124,124]\/s.toList=[43,43]\/s.toList=[60]\/s.toList=[61,61]\/(s.toList≠[38,38]/\s.toList≠[124,124]/\s.toList≠[43,43]/\s.toList≠[60]/\s.toList≠[61,61]):=by
 by_cases h1:s.toList=[38,38]
 ·exact .inl h1
 by_cases h2:s.toList=[124,124]
 ·exact .inr (.inl h2)
 by_cases h3:s.toList=[43,43]
 ·exact .inr (.inr (.inl h3))
 by_cases h4:s.toList=[60]
 ·exact .inr (.inr (.inr (.inl h4)))
 by_cases h5:s.toList=[61,61]
 ·exact .inr (.inr (.inr (.inr (.inl h5))))
 exact .inr (.inr (.inr (.inr (.inr ⟨h1,h2,h3,h4,h5⟩))))
theorem jL.to {P:Nat} {es:List Pt} {env:Env} {Y Y2:Nat->Prop} {r:fF} {w w1 w':World} {e:Ending} (h:jL P es env Y2 r w1 e w') (hf:Fr Y w w1) (hy:aj Y Y2 w):bI P es env Y r w e w':=by
 obtain ⟨Y3,h1,h2,h3,h4⟩:=h;refine ⟨Y3,Fr.new hf h1 hy,aj.trans hy h2 hf.size,h3,?_⟩
 match r,h4 with
 | .ok (t,a),h4=>exact h4
 | .error x,h4=>exact ⟨_,_,_,h4⟩
theorem bI.ret {P:Nat} {es:List Pt} {env:Env} {Y:Nat->Prop} {r:fF} {w w':World} {e:Ending} (h:bI P es env Y r w e w'):∃v,e= .returned v:=by
 obtain ⟨Y',_,_,_,h⟩:=h
 match r,h with
 | .ok (t,a),⟨A,c,e1,_⟩=>exact ⟨_,e1⟩
 | .error x,⟨A,n,c,e1⟩=>exact ⟨_,e1⟩
theorem ZA {T ts r:List Nd} {i:Nat} (g:Gd T) (h:T.drop i=ts++r) (hf:Fo 1 ts):Gd (eO ts):=by
 have hok:bC ts:=fun z hz=>g.ok z (List.mem_of_mem_drop (i:=i) (by rw [h];exact List.mem_append_left _ hz))
 have hl:ts.length<=T.length:=by
  have:=congrArg List.length h;rw [List.length_drop,List.length_append] at this;omega
 match ts,hf,hok,hl with
 |[],hf,_,_=>exact absurd hf.pos (by simp)
 |x::xt,hf,hok,hl=>
  refine ⟨fun z hz=>?_,?_,rfl,by rw [gF];have:=g.len;omega⟩
  ·rcases List.mem_cons.1 hz with rfl|hz
   ·exact hok x (by simp)
   ·exact hok z (by simp [hz])
  ·unfold Fo at hf ⊢
   show skip (x.name dQ::xt) 1=_;rw [jE] at hf ⊢;exact hf
theorem MX:Gd xZ:=by decide
theorem MZ {x:Nd} {xt ts:List Nd} (g:Gd (x::xt)) (h:ts∈aW (x::xt)):Gd (eO ts):=by
 obtain ⟨k,hk⟩:=List.getElem?_of_mem h;have hok:bC xt:=fun z hz=>g.ok z (List.mem_cons_of_mem _ hz);have hd:(x::xt).drop 1=xt++[]:=by rw [List.append_nil];rfl
 have hm:=uZ (manyN x) 1 xt [] hd hok g.fo.kids
 have hl:k<(aV (x::xt) (manyN x) 1).length:=by
  have:=congrArg List.length hm;rw [List.length_map,List.length_map] at this;rw [this];exact aP hk
 obtain ⟨pos,hpos⟩:=aJ hl;obtain ⟨us,r,e1,e2,e3,_⟩:=vG (manyN x) 1 xt [] hd hok g.fo.kids k pos hpos
 have:us=ts:=by
  have h2:(bA (manyN x) xt)[k]?=some ts:=hk;rw [e1] at h2;injection h2
 subst this;exact ZA g e2 e3
theorem qN {t u:List Nd} {s:ByteArray} (g:Gd t) (h:bG t s=some u):Gd u:=by
 rcases t with _|⟨x,xt⟩
 ·exact absurd g.fo.pos (by simp)
 rw [sQ] at h;split at h
 ·injection h with h
  rw [<-h];exact MX
 ·split at h
  ·rw [Option.map_eq_some_iff] at h
   obtain ⟨ts,h1,rfl⟩:=h;exact MZ g (List.mem_of_find?_eq_some h1)
  ·cases h
theorem WS {t u:List Nd} {s:ByteArray} {aN a b:Nat} (g:Gd t) (h:nH t s aN a=some (.ok (u,b))):Gd u:=by
 unfold nH at h;split at h
 ·rename_i v hv
  injection h with h
  injection h with h
  injection h with h1 h2
  subst h1;exact qN g hv
 ·injection h with h
  cases h
theorem CQ {t a b:List Nd} (g:Gd t) (h:iP t=some (a,b)):Gd a/\Gd b:=by
 rcases t with _|⟨x,xt⟩
 ·exact absurd g.fo.pos (by simp)
 unfold iP at h;split at h
 ·injection h with h
  injection h with h1 h2
  subst h1 h2;exact ⟨MX,MX⟩
 ·split at h
  ·rename_i h5
   have hm:manyN x=2:=by
    have h5:x.k=5:=h5;simp [manyN,many,h5]
   have hk:∃ta tb,aW (x::xt)=[ta,tb]:=by
    have:=yS (manyN x) xt;rw [hm] at this;show ∃ta tb,bA (manyN x) xt=[ta,tb];rw [hm]
    match bA 2 xt,this with
    |[ta,tb],_=>exact ⟨ta,tb,rfl⟩
   obtain ⟨ta,tb,hk⟩:=hk;rw [hk] at h;injection h with h
   injection h with h1 h2
   subst h1 h2;exact ⟨MZ g (by rw [hk];simp),MZ g (by rw [hk];simp)⟩
  ·cases h
theorem WT (P:Nat) (es:List Pt) (nx:Nx) (HN:Hid (nR P es nx)) (env:Env) (p:Pt) (aN a:Nat) (r:fF) (Y:Nat->Prop) (w:World) (TA UA:Option Addr) (tc uc:Nat) (h:bf P es env (.ok a) Y w) (hT:aF w Y TA tc p.T) (hU:aF w Y UA uc p.U) (gT:Gd p.T) (gU:Gd p.U) (hG:∀env a t b,nx env a=some (.ok (t,b))->Gd t) (hm:xw nx env p aN a=some r):
  Calls Tryz.prog 77 #[pk P,pv p TA tc UA uc,.int .i64 aN] w (bI P es env Y r w):=by
 obtain ⟨w1,hw1⟩:∃w1,w1=w.alloc (.cells #[.int .i64 p.k,.string p.lb,.string p.nm,.string p.bd,.int .i64 p.mn,.int .i64 p.num,.slice TA p.T.length tc,.slice UA p.U.length uc] 33):=⟨_,rfl⟩;have hpm:=aZ.new h.lt hT hU;have hb1:Below w.heap.size w w1:=by rw [hw1];exact au (aI _ _) _
 rw [<-hw1] at hpm;have G1:Hid (Fr Y w w1/\aj Y Y w/\bf P es env (.ok a) Y w1/\aZ w1 Y w.heap.size p TA tc UA uc):=aB ⟨Fr.below hb1,aj.refl _ _,h.later hb1,hpm⟩;have HR:=aB (show xw nx env p aN a=some r from hm);have HD:=aB (And.intro gT (And.intro gU hG));clear h hT hU hm hG hpm hb1;unfold pk pv;go_enter Tryz.func77,Tryz.ntmps77;go_upto_region 1 with fail
 rw [<-hw1];clear hw1;obtain ⟨k0,k1,k2,k3,k4,k6,k7⟩:=G1.out.2.2.2.cells;rcases fP HR.out with ⟨x,h1,hr⟩|⟨t1,b1,h1,hr⟩
 ·have HX:=aB (HN.out env (.ok a) (.error x) Y w1 h1 G1.out.2.2.1)
  unfold pk at HX;go_wp2_with fail;refine HX.out.mono ?_;rintro e w2 ⟨Y2,hf,hy,hk,rfl⟩;clear HX;clear k0 k1 k2 k3 k4 k6 k7;have G2:Hid (Fr Y w w2/\aj Y Y2 w/\bf P es env (.error x) Y2 w2/\aZ w2 Y2 w.heap.size p TA tc UA uc):=aB ⟨Fr.new G1.out.1 hf G1.out.2.1,aj.trans G1.out.2.1 hy G1.out.1.size,hk,G1.out.2.2.2.fr hf hy⟩;clear G1;obtain ⟨k0,k1,k2,k3,k4,k6,k7⟩:=G2.out.2.2.2.cells;clear hf hy hk;have HX:=aB (Ea none TA 0 tc [] p.T w2 bJ.nil G2.out.2.2.2.T.ty.eY (by simp));go_wp2_with fail;refine HX.out.mono ?_;rintro e w3 ⟨rfl,hb⟩;clear HX;clear k0 k1 k2 k3 k4 k6 k7;have G3:Hid (Fr Y w w3/\aj Y Y2 w/\bf P es env (.error x) Y2 w3/\aZ w3 Y2 w.heap.size p TA tc UA uc):=aB ⟨Fr.new G2.out.1 (Fr.below hb) G2.out.2.1,aj.trans G2.out.2.1 (aj.refl _ _) G2.out.1.size,(G2.out.2.2.1.later hb),G2.out.2.2.2.fr (Fr.below hb) (aj.refl _ _)⟩;clear G2;obtain ⟨k0,k1,k2,k3,k4,k6,k7⟩:=G3.out.2.2.2.cells;clear hb;have HX:=aB (jB P es env (.error x) (lZ [] p.T) aN 9 Y2 w3 (.inl (by decide)) G3.out.2.2.1);unfold pk at HX;go_wp2_with fail;refine HX.out.mono ?_;rintro e w4 ⟨⟨v4,rfl⟩,hf,hk⟩;clear HX;clear k0 k1 k2 k3 k4 k6 k7;have G4:Hid (Fr Y w w4/\aj Y Y2 w/\bf P es env (.error x) Y2 w4/\aZ w4 Y2 w.heap.size p TA tc UA uc):=aB ⟨Fr.new G3.out.1 hf G3.out.2.1,aj.trans G3.out.2.1 (aj.refl _ _) G3.out.1.size,hk,G3.out.2.2.2.fr hf (aj.refl _ _)⟩;clear G3;obtain ⟨k0,k1,k2,k3,k4,k6,k7⟩:=G4.out.2.2.2.cells;clear hf hk
  have HX:=aB (gy P es env x (.slice TA p.T.length tc) (.slice UA p.U.length uc) aN Y2 w4 G4.out.2.2.1);unfold pk at HX;go_wp2_with fail;refine HX.out.mono ?_;rintro e w5 ⟨⟨v5,rfl⟩,hf,hk⟩;clear HX;clear k0 k1 k2 k3 k4 k6 k7;have G5:Hid (Fr Y w w5/\aj Y Y2 w/\bf P es env (.error x) Y2 w5/\aZ w5 Y2 w.heap.size p TA tc UA uc):=aB ⟨Fr.new G4.out.1 hf G4.out.2.1,aj.trans G4.out.2.1 (aj.refl _ _) G4.out.1.size,hk,G4.out.2.2.2.fr hf (aj.refl _ _)⟩;clear G4;obtain ⟨k0,k1,k2,k3,k4,k6,k7⟩:=G5.out.2.2.2.cells;clear hf hk
  have HQ:Hid (bI P es env Y r w (.returned (.slice UA p.U.length uc)) w5):=aB (by
   subst hr;exact ⟨Y2,G5.out.1,G5.out.2.1,G5.out.2.2.1,_,_,_,rfl⟩)
  go_wp2_with fail;go_ret;exact HQ.out
 ·have HX:=aB (HN.out env (.ok a) _ Y w1 h1 G1.out.2.2.1)
  unfold pk at HX;go_wp2_with fail;refine HX.out.mono ?_;rintro e w2 ⟨Y2,hf,hy,hk,A2,c2,rfl,ht⟩;clear HX;clear k0 k1 k2 k3 k4 k6 k7;have G2:Hid (Fr Y w w2/\aj Y Y2 w/\bf P es env (.ok b1) Y2 w2/\aZ w2 Y2 w.heap.size p TA tc UA uc/\aF w2 Y2 A2 c2 t1):=aB ⟨Fr.new G1.out.1 hf G1.out.2.1,aj.trans G1.out.2.1 hy G1.out.1.size,hk,G1.out.2.2.2.fr hf hy,ht⟩;clear G1;obtain ⟨k0,k1,k2,k3,k4,k6,k7⟩:=G2.out.2.2.2.1.cells;clear hf hy hk ht;have HX:=aB (Ea A2 TA c2 tc t1 p.T w2 G2.out.2.2.2.2.ty.eY G2.out.2.2.2.1.T.ty.eY (by have:=(HD.out.2.2 _ _ _ _ h1).len;omega));go_wp2_with fail;refine HX.out.mono ?_;rintro e w3 ⟨rfl,hb⟩;clear HX;clear k0 k1 k2 k3 k4 k6 k7;have G3:Hid (Fr Y w w3/\aj Y Y2 w/\bf P es env (.ok b1) Y2 w3/\aZ w3 Y2 w.heap.size p TA tc UA uc/\aF w3 Y2 A2 c2 t1):=aB ⟨Fr.new G2.out.1 (Fr.below hb) G2.out.2.1,aj.trans G2.out.2.1 (aj.refl _ _) G2.out.1.size,(G2.out.2.2.1.later hb),G2.out.2.2.2.1.fr (Fr.below hb) (aj.refl _ _),G2.out.2.2.2.2.fr (Fr.below hb) (aj.refl _ _)⟩;clear G2;obtain ⟨k0,k1,k2,k3,k4,k6,k7⟩:=G3.out.2.2.2.1.cells;clear hb;have HS:=aB (show (if lZ t1 p.T=true/\jR p.T p.U=true then some (.ok (p.U,b1)) else some (.error (aN,9)))=some r from hr);clear hr;obtain ⟨sb,hsb⟩:∃sb,sb=lZ t1 p.T:=⟨_,rfl⟩;rw [<-hsb] at HS ⊢;clear hsb
  cases sb with
  |true=>
   have HX:=aB (jB P es env (.ok b1) true aN 9 Y2 w3 (.inr rfl) G3.out.2.2.1);unfold pk at HX;go_wp2_with fail;refine HX.out.mono ?_;rintro e w4 ⟨⟨v4,rfl⟩,hf,hk⟩;clear HX;clear k0 k1 k2 k3 k4 k6 k7;have G4:Hid (Fr Y w w4/\aj Y Y2 w/\bf P es env (.ok b1) Y2 w4/\aZ w4 Y2 w.heap.size p TA tc UA uc/\aF w4 Y2 A2 c2 t1):=aB ⟨Fr.new G3.out.1 hf G3.out.2.1,aj.trans G3.out.2.1 (aj.refl _ _) G3.out.1.size,hk,G3.out.2.2.2.1.fr hf (aj.refl _ _),G3.out.2.2.2.2.fr hf (aj.refl _ _)⟩;clear G3;obtain ⟨k0,k1,k2,k3,k4,k6,k7⟩:=G4.out.2.2.2.1.cells;clear hf hk;have HX:=aB (nK P es env b1 TA UA tc uc p.T p.U aN Y2 w4 G4.out.2.2.1 G4.out.2.2.2.1.T.ty G4.out.2.2.2.1.U.ty HD.out.1 HD.out.2.1);unfold pk at HX;go_wp2_with fail;refine HX.out.mono ?_;rintro e w5 ⟨⟨v5,rfl⟩,hf,hk⟩;clear HX;clear k0 k1 k2 k3 k4 k6 k7;have G5:Hid (Fr Y w w5/\aj Y Y2 w/\bf P es env (og p.T p.U aN b1) Y2 w5/\aZ w5 Y2 w.heap.size p TA tc UA uc/\aF w5 Y2 A2 c2 t1):=aB ⟨Fr.new G4.out.1 hf G4.out.2.1,aj.trans G4.out.2.1 (aj.refl _ _) G4.out.1.size,hk,G4.out.2.2.2.1.fr hf (aj.refl _ _),G4.out.2.2.2.2.fr hf (aj.refl _ _)⟩;clear G4;obtain ⟨k0,k1,k2,k3,k4,k6,k7⟩:=G5.out.2.2.2.1.cells;clear hf hk
   cases hag:jR p.T p.U with
   |true=>
    have HQ:Hid (bI P es env Y r w (.returned (.slice UA p.U.length uc)) w5):=aB (by
     have hr:=HS.out;have hk:=G5.out.2.2.1;simp only [hag,og,if_true,and_self] at hr hk;injection hr with hr
     subst hr;exact ⟨Y2,G5.out.1,G5.out.2.1,hk,_,_,rfl,G5.out.2.2.2.1.U⟩)
    go_wp2_with fail;go_ret
    exact HQ.out
   |false=>
    have HQ:Hid (bI P es env Y r w (.returned (.slice UA p.U.length uc)) w5):=aB (by
     have hr:=HS.out;have hk:=G5.out.2.2.1;simp [hag,og] at hr hk;subst hr;exact ⟨Y2,G5.out.1,G5.out.2.1,hk,_,_,_,rfl⟩)
    go_wp2_with fail;go_ret
    exact HQ.out
  |false=>
   have HX:=aB (jB P es env (.ok b1) false aN 9 Y2 w3 (.inl (by decide)) G3.out.2.2.1);unfold pk at HX;go_wp2_with fail;refine HX.out.mono ?_;rintro e w4 ⟨⟨v4,rfl⟩,hf,hk⟩;clear HX;clear k0 k1 k2 k3 k4 k6 k7;have G4:Hid (Fr Y w w4/\aj Y Y2 w/\bf P es env (.error (aN,9)) Y2 w4/\aZ w4 Y2 w.heap.size p TA tc UA uc/\aF w4 Y2 A2 c2 t1):=aB ⟨Fr.new G3.out.1 hf G3.out.2.1,aj.trans G3.out.2.1 (aj.refl _ _) G3.out.1.size,hk,G3.out.2.2.2.1.fr hf (aj.refl _ _),G3.out.2.2.2.2.fr hf (aj.refl _ _)⟩;clear G3;obtain ⟨k0,k1,k2,k3,k4,k6,k7⟩:=G4.out.2.2.2.1.cells;clear hf hk;have HX:=aB (gy P es env (aN,9) (.slice TA p.T.length tc) (.slice UA p.U.length uc) aN Y2 w4 G4.out.2.2.1);unfold pk at HX;go_wp2_with fail;refine HX.out.mono ?_;rintro e w5 ⟨⟨v5,rfl⟩,hf,hk⟩;clear HX;clear k0 k1 k2 k3 k4 k6 k7;have G5:Hid (Fr Y w w5/\aj Y Y2 w/\bf P es env (.error (aN,9)) Y2 w5/\aZ w5 Y2 w.heap.size p TA tc UA uc/\aF w5 Y2 A2 c2 t1):=aB ⟨Fr.new G4.out.1 hf G4.out.2.1,aj.trans G4.out.2.1 (aj.refl _ _) G4.out.1.size,hk,G4.out.2.2.2.1.fr hf (aj.refl _ _),G4.out.2.2.2.2.fr hf (aj.refl _ _)⟩;clear G4;obtain ⟨k0,k1,k2,k3,k4,k6,k7⟩:=G5.out.2.2.2.1.cells;clear hf hk
   have HQ:Hid (bI P es env Y r w (.returned (.slice UA p.U.length uc)) w5):=aB (by
    have hr:=HS.out;simp at hr;subst hr;exact ⟨Y2,G5.out.1,G5.out.2.1,G5.out.2.2.1,_,_,_,rfl⟩)
   go_wp2_with fail;go_ret;exact HQ.out
theorem PO (P:Nat) (es:List Pt) (nx:Nx) (HN:Hid (nR P es nx)) (env:Env) (p:Pt) (aN a:Nat) (r:fF) (Y:Nat->Prop) (w:World) (TA UA:Option Addr) (tc uc:Nat) (h:bf P es env (.ok a) Y w) (hT:aF w Y TA tc p.T) (hU:aF w Y UA uc p.U) (gT:Gd p.T) (hG:∀env a t b,nx env a=some (.ok (t,b))->Gd t) (hm:GR nx env p aN a=some r):
  Calls Tryz.prog 75 #[pk P,pv p TA tc UA uc,.int .i64 aN] w (bI P es env Y r w):=by
 obtain ⟨w1,hw1⟩:∃w1,w1=w.alloc (.cells #[.int .i64 p.k,.string p.lb,.string p.nm,.string p.bd,.int .i64 p.mn,.int .i64 p.num,.slice TA p.T.length tc,.slice UA p.U.length uc] 33):=⟨_,rfl⟩;have hpm:=aZ.new h.lt hT hU;have hb1:Below w.heap.size w w1:=by rw [hw1];exact au (aI _ _) _
 rw [<-hw1] at hpm;have G1:Hid (Fr Y w w1/\aj Y Y w/\bf P es env (.ok a) Y w1/\aZ w1 Y w.heap.size p TA tc UA uc):=aB ⟨Fr.below hb1,aj.refl _ _,h.later hb1,hpm⟩;have HR:=aB (show GR nx env p aN a=some r from hm);have HD:=aB (And.intro gT hG);clear h hT hU hm hG hpm hb1;unfold pk pv;go_enter Tryz.func75,Tryz.ntmps75;go_upto_region 1 with fail
 rw [<-hw1];clear hw1;obtain ⟨k0,k1,k2,k3,k4,k6,k7⟩:=G1.out.2.2.2.cells;rcases fP HR.out with ⟨x,h1,hr⟩|⟨t1,b1,h1,hr⟩
 ·have HX:=aB (HN.out env (.ok a) (.error x) Y w1 h1 G1.out.2.2.1)
  unfold pk at HX;go_wp2_with fail;refine HX.out.mono ?_;rintro e w2 ⟨Y2,hf,hy,hk,rfl⟩;clear HX;clear k0 k1 k2 k3 k4 k6 k7;have G2:Hid (Fr Y w w2/\aj Y Y2 w/\bf P es env (.error x) Y2 w2/\aZ w2 Y2 w.heap.size p TA tc UA uc):=aB ⟨Fr.new G1.out.1 hf G1.out.2.1,aj.trans G1.out.2.1 hy G1.out.1.size,hk,G1.out.2.2.2.fr hf hy⟩;clear G1;obtain ⟨k0,k1,k2,k3,k4,k6,k7⟩:=G2.out.2.2.2.cells;clear hf hy hk;have HX:=aB (H_ P es env x (.slice TA p.T.length tc) (.string p.nm) aN Y2 w2 G2.out.2.2.1);unfold pk at HX;go_wp2_with fail;refine HX.out.mono ?_;rintro e w3 ⟨Y3,hf,hy,hk,rfl⟩;clear HX;clear k0 k1 k2 k3 k4 k6 k7;have G3:Hid (Fr Y w w3/\aj Y Y3 w/\bf P es env (.error x) Y3 w3/\aZ w3 Y3 w.heap.size p TA tc UA uc):=aB ⟨Fr.new G2.out.1 hf G2.out.2.1,aj.trans G2.out.2.1 hy G2.out.1.size,hk,G2.out.2.2.2.fr hf hy⟩;clear G2;obtain ⟨k0,k1,k2,k3,k4,k6,k7⟩:=G3.out.2.2.2.cells;clear hf hy hk;have HX:=aB (gy P es env x (.slice none 0 0) (.slice none 0 0) aN Y3 w3 G3.out.2.2.1);unfold pk at HX;go_wp2_with fail;refine HX.out.mono ?_;rintro e w4 ⟨⟨v4,rfl⟩,hf,hk⟩;clear HX;clear k0 k1 k2 k3 k4 k6 k7;have G4:Hid (Fr Y w w4/\aj Y Y3 w/\bf P es env (.error x) Y3 w4/\aZ w4 Y3 w.heap.size p TA tc UA uc):=aB ⟨Fr.new G3.out.1 hf G3.out.2.1,aj.trans G3.out.2.1 (aj.refl _ _) G3.out.1.size,hk,G3.out.2.2.2.fr hf (aj.refl _ _)⟩;clear G3;obtain ⟨k0,k1,k2,k3,k4,k6,k7⟩:=G4.out.2.2.2.cells;clear hf hk
  have HQ:Hid (bI P es env Y r w (.returned (.slice TA p.T.length tc)) w4):=aB (by
   subst hr;exact ⟨Y3,G4.out.1,G4.out.2.1,G4.out.2.2.1,_,_,_,rfl⟩)
  go_wp2_with fail;go_ret;exact HQ.out
 ·have HX:=aB (HN.out env (.ok a) _ Y w1 h1 G1.out.2.2.1)
  unfold pk at HX;go_wp2_with fail;refine HX.out.mono ?_;rintro e w2 ⟨Y2,hf,hy,hk,A2,c2,rfl,ht⟩;clear HX;clear k0 k1 k2 k3 k4 k6 k7;have G2:Hid (Fr Y w w2/\aj Y Y2 w/\bf P es env (.ok b1) Y2 w2/\aZ w2 Y2 w.heap.size p TA tc UA uc/\aF w2 Y2 A2 c2 t1):=aB ⟨Fr.new G1.out.1 hf G1.out.2.1,aj.trans G1.out.2.1 hy G1.out.1.size,hk,G1.out.2.2.2.fr hf hy,ht⟩;clear G1;obtain ⟨k0,k1,k2,k3,k4,k6,k7⟩:=G2.out.2.2.2.1.cells;clear hf hy hk ht;rcases fP hr with ⟨x,h2,hr⟩|⟨t2,b2,h2,hr⟩
  ·have HX:=aB (Ec P es env b1 TA tc p.T p.nm aN _ Y2 w2 G2.out.2.2.1 G2.out.2.2.2.1.T HD.out.1 h2)
   unfold pk at HX;go_wp2_with fail;refine HX.out.mono ?_;rintro e w3 ⟨Y3,hf,hy,hk,rfl⟩;clear HX;clear k0 k1 k2 k3 k4 k6 k7;have G3:Hid (Fr Y w w3/\aj Y Y3 w/\bf P es env (.error x) Y3 w3/\aZ w3 Y3 w.heap.size p TA tc UA uc/\aF w3 Y3 A2 c2 t1):=aB ⟨Fr.new G2.out.1 hf G2.out.2.1,aj.trans G2.out.2.1 hy G2.out.1.size,hk,G2.out.2.2.2.1.fr hf hy,G2.out.2.2.2.2.fr hf hy⟩;clear G2;obtain ⟨k0,k1,k2,k3,k4,k6,k7⟩:=G3.out.2.2.2.1.cells;clear hf hy hk;have HX:=aB (gy P es env x (.slice A2 t1.length c2) (.slice none 0 0) aN Y3 w3 G3.out.2.2.1);unfold pk at HX;go_wp2_with fail;refine HX.out.mono ?_;rintro e w4 ⟨⟨v4,rfl⟩,hf,hk⟩;clear HX;clear k0 k1 k2 k3 k4 k6 k7;have G4:Hid (Fr Y w w4/\aj Y Y3 w/\bf P es env (.error x) Y3 w4/\aZ w4 Y3 w.heap.size p TA tc UA uc/\aF w4 Y3 A2 c2 t1):=aB ⟨Fr.new G3.out.1 hf G3.out.2.1,aj.trans G3.out.2.1 (aj.refl _ _) G3.out.1.size,hk,G3.out.2.2.2.1.fr hf (aj.refl _ _),G3.out.2.2.2.2.fr hf (aj.refl _ _)⟩;clear G3;obtain ⟨k0,k1,k2,k3,k4,k6,k7⟩:=G4.out.2.2.2.1.cells;clear hf hk
   have HQ:Hid (bI P es env Y r w (.returned (.slice TA p.T.length tc)) w4):=aB (by
    subst hr;exact ⟨Y3,G4.out.1,G4.out.2.1,G4.out.2.2.1,_,_,_,rfl⟩)
   go_wp2_with fail;go_ret;exact HQ.out
  ·have HX:=aB (Ec P es env b1 TA tc p.T p.nm aN _ Y2 w2 G2.out.2.2.1 G2.out.2.2.2.1.T HD.out.1 h2)
   unfold pk at HX;go_wp2_with fail;refine HX.out.mono ?_;rintro e w3 ⟨Y3,hf,hy,hk,A3,c3,rfl,ht⟩;clear HX;clear k0 k1 k2 k3 k4 k6 k7;have G3:Hid (Fr Y w w3/\aj Y Y3 w/\bf P es env (.ok b2) Y3 w3/\aZ w3 Y3 w.heap.size p TA tc UA uc/\aF w3 Y3 A2 c2 t1/\aF w3 Y3 A3 c3 t2):=aB ⟨Fr.new G2.out.1 hf G2.out.2.1,aj.trans G2.out.2.1 hy G2.out.1.size,hk,G2.out.2.2.2.1.fr hf hy,G2.out.2.2.2.2.fr hf hy,ht⟩;clear G2;obtain ⟨k0,k1,k2,k3,k4,k6,k7⟩:=G3.out.2.2.2.1.cells;clear hf hy hk ht;have HX:=aB (nK P es env b2 A2 A3 c2 c3 t1 t2 aN Y3 w3 G3.out.2.2.1 G3.out.2.2.2.2.1.ty G3.out.2.2.2.2.2.ty (HD.out.2 _ _ _ _ h1) (WS HD.out.1 h2));unfold pk at HX;go_wp2_with fail;refine HX.out.mono ?_;rintro e w4 ⟨⟨v4,rfl⟩,hf,hk⟩;clear HX;clear k0 k1 k2 k3 k4 k6 k7;have G4:Hid (Fr Y w w4/\aj Y Y3 w/\bf P es env (og t1 t2 aN b2) Y3 w4/\aZ w4 Y3 w.heap.size p TA tc UA uc/\aF w4 Y3 A2 c2 t1/\aF w4 Y3 A3 c3 t2):=aB ⟨Fr.new G3.out.1 hf G3.out.2.1,aj.trans G3.out.2.1 (aj.refl _ _) G3.out.1.size,hk,G3.out.2.2.2.1.fr hf (aj.refl _ _),G3.out.2.2.2.2.1.fr hf (aj.refl _ _),G3.out.2.2.2.2.2.fr hf (aj.refl _ _)⟩;clear G3;obtain ⟨k0,k1,k2,k3,k4,k6,k7⟩:=G4.out.2.2.2.1.cells;clear hf hk
   cases hag:jR t1 t2 with
   |true=>
    have HQ:Hid (bI P es env Y r w (.returned (.slice TA p.T.length tc)) w4):=aB (by
     have hk:=G4.out.2.2.1;simp only [hag,og,if_true] at hr hk;injection hr with hr
     subst hr;exact ⟨Y3,G4.out.1,G4.out.2.1,hk,_,_,rfl,G4.out.2.2.2.1.T⟩)
    go_wp2_with fail;go_ret
    exact HQ.out
   |false=>
    have HQ:Hid (bI P es env Y r w (.returned (.slice TA p.T.length tc)) w4):=aB (by
     have hk:=G4.out.2.2.1;simp [hag,og] at hr hk;subst hr;exact ⟨Y3,G4.out.1,G4.out.2.1,hk,_,_,_,rfl⟩)
    go_wp2_with fail;go_ret;exact HQ.out
theorem WU (P:Nat) (es:List Pt) (nx:Nx) (HN:Hid (nR P es nx)) (env:Env) (p:Pt) (aN a:Nat) (r:fF) (Y:Nat->Prop) (w:World) (TA UA:Option Addr) (tc uc:Nat) (h:bf P es env (.ok a) Y w) (hT:aF w Y TA tc p.T) (hU:aF w Y UA uc p.U) (hG:∀env a t b,nx env a=some (.ok (t,b))->Gd t) (hm:Bz nx env aN a=some r):
  Calls Tryz.prog 70 #[pk P,pv p TA tc UA uc,.int .i64 aN] w (bI P es env Y r w):=by
 obtain ⟨w1,hw1⟩:∃w1,w1=w.alloc (.cells #[.int .i64 p.k,.string p.lb,.string p.nm,.string p.bd,.int .i64 p.mn,.int .i64 p.num,.slice TA p.T.length tc,.slice UA p.U.length uc] 33):=⟨_,rfl⟩;have hpm:=aZ.new h.lt hT hU;have hb1:Below w.heap.size w w1:=by rw [hw1];exact au (aI _ _) _
 rw [<-hw1] at hpm;have G1:Hid (Fr Y w w1/\aj Y Y w/\bf P es env (.ok a) Y w1/\aZ w1 Y w.heap.size p TA tc UA uc):=aB ⟨Fr.below hb1,aj.refl _ _,h.later hb1,hpm⟩;have HR:=aB (show Bz nx env aN a=some r from hm);have HD:=aB (hG);clear h hT hU hm hG hpm hb1;unfold pk pv;go_enter Tryz.func70,Tryz.ntmps70;go_upto_region 1 with fail
 rw [<-hw1];clear hw1;obtain ⟨k0,k1,k2,k3,k4,k6,k7⟩:=G1.out.2.2.2.cells;rcases fP HR.out with ⟨x,h1,hr⟩|⟨t1,b1,h1,hr⟩
 ·have HX:=aB (HN.out env (.ok a) (.error x) Y w1 h1 G1.out.2.2.1)
  unfold pk at HX;go_wp2_with fail;refine HX.out.mono ?_;rintro e w2 ⟨Y2,hf,hy,hk,rfl⟩;clear HX;clear k0 k1 k2 k3 k4 k6 k7;have G2:Hid (Fr Y w w2/\aj Y Y2 w/\bf P es env (.error x) Y2 w2/\aZ w2 Y2 w.heap.size p TA tc UA uc):=aB ⟨Fr.new G1.out.1 hf G1.out.2.1,aj.trans G1.out.2.1 hy G1.out.1.size,hk,G1.out.2.2.2.fr hf hy⟩;clear G1;obtain ⟨k0,k1,k2,k3,k4,k6,k7⟩:=G2.out.2.2.2.cells;clear hf hy hk;have HX:=aB (HN.out env (.error x) (.error x) Y2 w2 rfl G2.out.2.2.1);unfold pk at HX;go_wp2_with fail;refine HX.out.mono ?_;rintro e w3 ⟨Y3,hf,hy,hk,rfl⟩;clear HX;clear k0 k1 k2 k3 k4 k6 k7;have G3:Hid (Fr Y w w3/\aj Y Y3 w/\bf P es env (.error x) Y3 w3/\aZ w3 Y3 w.heap.size p TA tc UA uc):=aB ⟨Fr.new G2.out.1 hf G2.out.2.1,aj.trans G2.out.2.1 hy G2.out.1.size,hk,G2.out.2.2.2.fr hf hy⟩;clear G2;obtain ⟨k0,k1,k2,k3,k4,k6,k7⟩:=G3.out.2.2.2.cells;clear hf hy hk;have HX:=aB (HN.out env (.error x) (.error x) Y3 w3 rfl G3.out.2.2.1);unfold pk at HX;go_wp2_with fail;refine HX.out.mono ?_;rintro e w4 ⟨Y4,hf,hy,hk,rfl⟩;clear HX;clear k0 k1 k2 k3 k4 k6 k7;have G4:Hid (Fr Y w w4/\aj Y Y4 w/\bf P es env (.error x) Y4 w4/\aZ w4 Y4 w.heap.size p TA tc UA uc):=aB ⟨Fr.new G3.out.1 hf G3.out.2.1,aj.trans G3.out.2.1 hy G3.out.1.size,hk,G3.out.2.2.2.fr hf hy⟩;clear G3;obtain ⟨k0,k1,k2,k3,k4,k6,k7⟩:=G4.out.2.2.2.cells;clear hf hy hk;have HX:=aB (iZ 2 w4);go_wp2_with fail;refine HX.out.mono ?_;rintro e w5 ⟨A5,c5,rfl,hown,hb⟩;clear HX;clear k0 k1 k2 k3 k4 k6 k7
  have G5:Hid (Fr Y w w5/\aj Y Y4 w/\bf P es env (.error x) Y4 w5/\aZ w5 Y4 w.heap.size p TA tc UA uc/\aF w5 Y4 A5 c5 (aH 2)):=aB ⟨Fr.new G4.out.1 (Fr.below hb) G4.out.2.1,aj.trans G4.out.2.1 (aj.refl _ _) G4.out.1.size,(G4.out.2.2.1.later hb),G4.out.2.2.2.fr (Fr.below hb) (aj.refl _ _),(aF.own hown (G4.out.2.2.1.lt))⟩;clear G4;obtain ⟨k0,k1,k2,k3,k4,k6,k7⟩:=G5.out.2.2.2.1.cells;clear hown hb;have HX:=aB (gy P es env x (.slice none 0 0) (.slice A5 1 c5) aN Y4 w5 G5.out.2.2.1);unfold pk at HX;go_wp2_with fail;refine HX.out.mono ?_;rintro e w6 ⟨⟨v6,rfl⟩,hf,hk⟩;clear HX;clear k0 k1 k2 k3 k4 k6 k7;have G6:Hid (Fr Y w w6/\aj Y Y4 w/\bf P es env (.error x) Y4 w6/\aZ w6 Y4 w.heap.size p TA tc UA uc/\aF w6 Y4 A5 c5 (aH 2)):=aB ⟨Fr.new G5.out.1 hf G5.out.2.1,aj.trans G5.out.2.1 (aj.refl _ _) G5.out.1.size,hk,G5.out.2.2.2.1.fr hf (aj.refl _ _),G5.out.2.2.2.2.fr hf (aj.refl _ _)⟩;clear G5;obtain ⟨k0,k1,k2,k3,k4,k6,k7⟩:=G6.out.2.2.2.1.cells;clear hf hk;have HX:=aB (tC P es env x (.slice none 0 0) (.slice none 0 0) aN Y4 w6 G6.out.2.2.1);unfold pk at HX;go_wp2_with fail;refine HX.out.mono ?_;rintro e w7 ⟨Y7,hf,hy,hk,rfl⟩;clear HX;clear k0 k1 k2 k3 k4 k6 k7;have G7:Hid (Fr Y w w7/\aj Y Y7 w/\bf P es env (.error x) Y7 w7/\aZ w7 Y7 w.heap.size p TA tc UA uc/\aF w7 Y7 A5 c5 (aH 2)):=aB ⟨Fr.new G6.out.1 hf G6.out.2.1,aj.trans G6.out.2.1 hy G6.out.1.size,hk,G6.out.2.2.2.1.fr hf hy,G6.out.2.2.2.2.fr hf hy⟩;clear G6;obtain ⟨k0,k1,k2,k3,k4,k6,k7⟩:=G7.out.2.2.2.1.cells;clear hf hy hk
  have HQ:Hid (bI P es env Y r w (.returned (.slice none 0 0)) w7):=aB (by
   subst hr;exact ⟨Y7,G7.out.1,G7.out.2.1,G7.out.2.2.1,_,_,_,rfl⟩)
  go_wp2_with fail;go_ret;exact HQ.out
 ·have HX:=aB (HN.out env (.ok a) _ Y w1 h1 G1.out.2.2.1)
  unfold pk at HX;go_wp2_with fail;refine HX.out.mono ?_;rintro e w2 ⟨Y2,hf,hy,hk,A2,c2,rfl,ht⟩;clear HX;clear k0 k1 k2 k3 k4 k6 k7;have G2:Hid (Fr Y w w2/\aj Y Y2 w/\bf P es env (.ok b1) Y2 w2/\aZ w2 Y2 w.heap.size p TA tc UA uc/\aF w2 Y2 A2 c2 t1):=aB ⟨Fr.new G1.out.1 hf G1.out.2.1,aj.trans G1.out.2.1 hy G1.out.1.size,hk,G1.out.2.2.2.fr hf hy,ht⟩;clear G1;obtain ⟨k0,k1,k2,k3,k4,k6,k7⟩:=G2.out.2.2.2.1.cells;clear hf hy hk ht;rcases fP hr with ⟨x,h2,hr⟩|⟨t2,b2,h2,hr⟩
  ·have HX:=aB (HN.out env (.ok b1) (.error x) Y2 w2 h2 G2.out.2.2.1)
   unfold pk at HX;go_wp2_with fail;refine HX.out.mono ?_;rintro e w3 ⟨Y3,hf,hy,hk,rfl⟩;clear HX;clear k0 k1 k2 k3 k4 k6 k7;have G3:Hid (Fr Y w w3/\aj Y Y3 w/\bf P es env (.error x) Y3 w3/\aZ w3 Y3 w.heap.size p TA tc UA uc/\aF w3 Y3 A2 c2 t1):=aB ⟨Fr.new G2.out.1 hf G2.out.2.1,aj.trans G2.out.2.1 hy G2.out.1.size,hk,G2.out.2.2.2.1.fr hf hy,G2.out.2.2.2.2.fr hf hy⟩;clear G2;obtain ⟨k0,k1,k2,k3,k4,k6,k7⟩:=G3.out.2.2.2.1.cells;clear hf hy hk;have HX:=aB (HN.out env (.error x) (.error x) Y3 w3 rfl G3.out.2.2.1);unfold pk at HX;go_wp2_with fail;refine HX.out.mono ?_;rintro e w4 ⟨Y4,hf,hy,hk,rfl⟩;clear HX;clear k0 k1 k2 k3 k4 k6 k7;have G4:Hid (Fr Y w w4/\aj Y Y4 w/\bf P es env (.error x) Y4 w4/\aZ w4 Y4 w.heap.size p TA tc UA uc/\aF w4 Y4 A2 c2 t1):=aB ⟨Fr.new G3.out.1 hf G3.out.2.1,aj.trans G3.out.2.1 hy G3.out.1.size,hk,G3.out.2.2.2.1.fr hf hy,G3.out.2.2.2.2.fr hf hy⟩;clear G3;obtain ⟨k0,k1,k2,k3,k4,k6,k7⟩:=G4.out.2.2.2.1.cells;clear hf hy hk;have HX:=aB (iZ 2 w4);go_wp2_with fail;refine HX.out.mono ?_;rintro e w5 ⟨A5,c5,rfl,hown,hb⟩;clear HX;clear k0 k1 k2 k3 k4 k6 k7;have G5:Hid (Fr Y w w5/\aj Y Y4 w/\bf P es env (.error x) Y4 w5/\aZ w5 Y4 w.heap.size p TA tc UA uc/\aF w5 Y4 A2 c2 t1/\aF w5 Y4 A5 c5 (aH 2)):=aB ⟨Fr.new G4.out.1 (Fr.below hb) G4.out.2.1,aj.trans G4.out.2.1 (aj.refl _ _) G4.out.1.size,(G4.out.2.2.1.later hb),G4.out.2.2.2.1.fr (Fr.below hb) (aj.refl _ _),G4.out.2.2.2.2.fr (Fr.below hb) (aj.refl _ _),(aF.own hown (G4.out.2.2.1.lt))⟩;clear G4
   obtain ⟨k0,k1,k2,k3,k4,k6,k7⟩:=G5.out.2.2.2.1.cells;clear hown hb;have HX:=aB (gy P es env x (.slice A2 t1.length c2) (.slice A5 1 c5) aN Y4 w5 G5.out.2.2.1);unfold pk at HX;go_wp2_with fail;refine HX.out.mono ?_;rintro e w6 ⟨⟨v6,rfl⟩,hf,hk⟩;clear HX;clear k0 k1 k2 k3 k4 k6 k7;have G6:Hid (Fr Y w w6/\aj Y Y4 w/\bf P es env (.error x) Y4 w6/\aZ w6 Y4 w.heap.size p TA tc UA uc/\aF w6 Y4 A2 c2 t1/\aF w6 Y4 A5 c5 (aH 2)):=aB ⟨Fr.new G5.out.1 hf G5.out.2.1,aj.trans G5.out.2.1 (aj.refl _ _) G5.out.1.size,hk,G5.out.2.2.2.1.fr hf (aj.refl _ _),G5.out.2.2.2.2.1.fr hf (aj.refl _ _),G5.out.2.2.2.2.2.fr hf (aj.refl _ _)⟩;clear G5;obtain ⟨k0,k1,k2,k3,k4,k6,k7⟩:=G6.out.2.2.2.1.cells;clear hf hk;have HX:=aB (tC P es env x (.slice none 0 0) (.slice none 0 0) aN Y4 w6 G6.out.2.2.1);unfold pk at HX;go_wp2_with fail;refine HX.out.mono ?_;rintro e w7 ⟨Y7,hf,hy,hk,rfl⟩;clear HX;clear k0 k1 k2 k3 k4 k6 k7;have G7:Hid (Fr Y w w7/\aj Y Y7 w/\bf P es env (.error x) Y7 w7/\aZ w7 Y7 w.heap.size p TA tc UA uc/\aF w7 Y7 A2 c2 t1/\aF w7 Y7 A5 c5 (aH 2)):=aB ⟨Fr.new G6.out.1 hf G6.out.2.1,aj.trans G6.out.2.1 hy G6.out.1.size,hk,G6.out.2.2.2.1.fr hf hy,G6.out.2.2.2.2.1.fr hf hy,G6.out.2.2.2.2.2.fr hf hy⟩;clear G6;obtain ⟨k0,k1,k2,k3,k4,k6,k7⟩:=G7.out.2.2.2.1.cells;clear hf hy hk
   have HQ:Hid (bI P es env Y r w (.returned (.slice none 0 0)) w7):=aB (by
    subst hr;exact ⟨Y7,G7.out.1,G7.out.2.1,G7.out.2.2.1,_,_,_,rfl⟩)
   go_wp2_with fail;go_ret;exact HQ.out
  ·have HX:=aB (HN.out env (.ok b1) _ Y2 w2 h2 G2.out.2.2.1)
   unfold pk at HX;go_wp2_with fail;refine HX.out.mono ?_;rintro e w3 ⟨Y3,hf,hy,hk,A3,c3,rfl,ht⟩;clear HX;clear k0 k1 k2 k3 k4 k6 k7;have G3:Hid (Fr Y w w3/\aj Y Y3 w/\bf P es env (.ok b2) Y3 w3/\aZ w3 Y3 w.heap.size p TA tc UA uc/\aF w3 Y3 A2 c2 t1/\aF w3 Y3 A3 c3 t2):=aB ⟨Fr.new G2.out.1 hf G2.out.2.1,aj.trans G2.out.2.1 hy G2.out.1.size,hk,G2.out.2.2.2.1.fr hf hy,G2.out.2.2.2.2.fr hf hy,ht⟩;clear G2;obtain ⟨k0,k1,k2,k3,k4,k6,k7⟩:=G3.out.2.2.2.1.cells;clear hf hy hk ht;rcases fP hr with ⟨x,h3,hr⟩|⟨t3,b3,h3,hr⟩
   ·have HX:=aB (HN.out env (.ok b2) (.error x) Y3 w3 h3 G3.out.2.2.1)
    unfold pk at HX;go_wp2_with fail;refine HX.out.mono ?_;rintro e w4 ⟨Y4,hf,hy,hk,rfl⟩;clear HX;clear k0 k1 k2 k3 k4 k6 k7;have G4:Hid (Fr Y w w4/\aj Y Y4 w/\bf P es env (.error x) Y4 w4/\aZ w4 Y4 w.heap.size p TA tc UA uc/\aF w4 Y4 A2 c2 t1/\aF w4 Y4 A3 c3 t2):=aB ⟨Fr.new G3.out.1 hf G3.out.2.1,aj.trans G3.out.2.1 hy G3.out.1.size,hk,G3.out.2.2.2.1.fr hf hy,G3.out.2.2.2.2.1.fr hf hy,G3.out.2.2.2.2.2.fr hf hy⟩;clear G3;obtain ⟨k0,k1,k2,k3,k4,k6,k7⟩:=G4.out.2.2.2.1.cells;clear hf hy hk;have HX:=aB (iZ 2 w4);go_wp2_with fail;refine HX.out.mono ?_;rintro e w5 ⟨A5,c5,rfl,hown,hb⟩;clear HX;clear k0 k1 k2 k3 k4 k6 k7;have G5:Hid (Fr Y w w5/\aj Y Y4 w/\bf P es env (.error x) Y4 w5/\aZ w5 Y4 w.heap.size p TA tc UA uc/\aF w5 Y4 A2 c2 t1/\aF w5 Y4 A3 c3 t2/\aF w5 Y4 A5 c5 (aH 2)):=aB ⟨Fr.new G4.out.1 (Fr.below hb) G4.out.2.1,aj.trans G4.out.2.1 (aj.refl _ _) G4.out.1.size,(G4.out.2.2.1.later hb),G4.out.2.2.2.1.fr (Fr.below hb) (aj.refl _ _),G4.out.2.2.2.2.1.fr (Fr.below hb) (aj.refl _ _),G4.out.2.2.2.2.2.fr (Fr.below hb) (aj.refl _ _),(aF.own hown (G4.out.2.2.1.lt))⟩;clear G4;obtain ⟨k0,k1,k2,k3,k4,k6,k7⟩:=G5.out.2.2.2.1.cells;clear hown hb;have HX:=aB (gy P es env x (.slice A2 t1.length c2) (.slice A5 1 c5) aN Y4 w5 G5.out.2.2.1);unfold pk at HX;go_wp2_with fail;refine HX.out.mono ?_;rintro e w6 ⟨⟨v6,rfl⟩,hf,hk⟩;clear HX;clear k0 k1 k2 k3 k4 k6 k7
    have G6:Hid (Fr Y w w6/\aj Y Y4 w/\bf P es env (.error x) Y4 w6/\aZ w6 Y4 w.heap.size p TA tc UA uc/\aF w6 Y4 A2 c2 t1/\aF w6 Y4 A3 c3 t2/\aF w6 Y4 A5 c5 (aH 2)):=aB ⟨Fr.new G5.out.1 hf G5.out.2.1,aj.trans G5.out.2.1 (aj.refl _ _) G5.out.1.size,hk,G5.out.2.2.2.1.fr hf (aj.refl _ _),G5.out.2.2.2.2.1.fr hf (aj.refl _ _),G5.out.2.2.2.2.2.1.fr hf (aj.refl _ _),G5.out.2.2.2.2.2.2.fr hf (aj.refl _ _)⟩;clear G5;obtain ⟨k0,k1,k2,k3,k4,k6,k7⟩:=G6.out.2.2.2.1.cells;clear hf hk;have HX:=aB (tC P es env x (.slice A3 t2.length c3) (.slice none 0 0) aN Y4 w6 G6.out.2.2.1);unfold pk at HX;go_wp2_with fail;refine HX.out.mono ?_;rintro e w7 ⟨Y7,hf,hy,hk,rfl⟩;clear HX;clear k0 k1 k2 k3 k4 k6 k7;have G7:Hid (Fr Y w w7/\aj Y Y7 w/\bf P es env (.error x) Y7 w7/\aZ w7 Y7 w.heap.size p TA tc UA uc/\aF w7 Y7 A2 c2 t1/\aF w7 Y7 A3 c3 t2/\aF w7 Y7 A5 c5 (aH 2)):=aB ⟨Fr.new G6.out.1 hf G6.out.2.1,aj.trans G6.out.2.1 hy G6.out.1.size,hk,G6.out.2.2.2.1.fr hf hy,G6.out.2.2.2.2.1.fr hf hy,G6.out.2.2.2.2.2.1.fr hf hy,G6.out.2.2.2.2.2.2.fr hf hy⟩;clear G6;obtain ⟨k0,k1,k2,k3,k4,k6,k7⟩:=G7.out.2.2.2.1.cells;clear hf hy hk
    have HQ:Hid (bI P es env Y r w (.returned (.slice none 0 0)) w7):=aB (by
     subst hr;exact ⟨Y7,G7.out.1,G7.out.2.1,G7.out.2.2.1,_,_,_,rfl⟩)
    go_wp2_with fail;go_ret;exact HQ.out
   ·have HX:=aB (HN.out env (.ok b2) _ Y3 w3 h3 G3.out.2.2.1)
    unfold pk at HX;go_wp2_with fail;refine HX.out.mono ?_;rintro e w4 ⟨Y4,hf,hy,hk,A4,c4,rfl,ht⟩;clear HX;clear k0 k1 k2 k3 k4 k6 k7;have G4:Hid (Fr Y w w4/\aj Y Y4 w/\bf P es env (.ok b3) Y4 w4/\aZ w4 Y4 w.heap.size p TA tc UA uc/\aF w4 Y4 A2 c2 t1/\aF w4 Y4 A3 c3 t2/\aF w4 Y4 A4 c4 t3):=aB ⟨Fr.new G3.out.1 hf G3.out.2.1,aj.trans G3.out.2.1 hy G3.out.1.size,hk,G3.out.2.2.2.1.fr hf hy,G3.out.2.2.2.2.1.fr hf hy,G3.out.2.2.2.2.2.fr hf hy,ht⟩;clear G3;obtain ⟨k0,k1,k2,k3,k4,k6,k7⟩:=G4.out.2.2.2.1.cells;clear hf hy hk ht;have HX:=aB (iZ 2 w4);go_wp2_with fail;refine HX.out.mono ?_;rintro e w5 ⟨A5,c5,rfl,hown,hb⟩;clear HX;clear k0 k1 k2 k3 k4 k6 k7;have G5:Hid (Fr Y w w5/\aj Y Y4 w/\bf P es env (.ok b3) Y4 w5/\aZ w5 Y4 w.heap.size p TA tc UA uc/\aF w5 Y4 A2 c2 t1/\aF w5 Y4 A3 c3 t2/\aF w5 Y4 A4 c4 t3/\aF w5 Y4 A5 c5 (aH 2)):=aB ⟨Fr.new G4.out.1 (Fr.below hb) G4.out.2.1,aj.trans G4.out.2.1 (aj.refl _ _) G4.out.1.size,(G4.out.2.2.1.later hb),G4.out.2.2.2.1.fr (Fr.below hb) (aj.refl _ _),G4.out.2.2.2.2.1.fr (Fr.below hb) (aj.refl _ _),G4.out.2.2.2.2.2.1.fr (Fr.below hb) (aj.refl _ _),G4.out.2.2.2.2.2.2.fr (Fr.below hb) (aj.refl _ _),(aF.own hown (G4.out.2.2.1.lt))⟩;clear G4;obtain ⟨k0,k1,k2,k3,k4,k6,k7⟩:=G5.out.2.2.2.1.cells;clear hown hb;have HX:=aB (nK P es env b3 A2 A5 c2 c5 t1 (aH 2) aN Y4 w5 G5.out.2.2.1 G5.out.2.2.2.2.1.ty G5.out.2.2.2.2.2.2.2.ty (HD.out _ _ _ _ h1) (CP 2 (by decide)));unfold pk at HX;go_wp2_with fail;refine HX.out.mono ?_;rintro e w6 ⟨⟨v6,rfl⟩,hf,hk⟩;clear HX
    clear k0 k1 k2 k3 k4 k6 k7;have G6:Hid (Fr Y w w6/\aj Y Y4 w/\bf P es env (og t1 (aH 2) aN b3) Y4 w6/\aZ w6 Y4 w.heap.size p TA tc UA uc/\aF w6 Y4 A2 c2 t1/\aF w6 Y4 A3 c3 t2/\aF w6 Y4 A4 c4 t3/\aF w6 Y4 A5 c5 (aH 2)):=aB ⟨Fr.new G5.out.1 hf G5.out.2.1,aj.trans G5.out.2.1 (aj.refl _ _) G5.out.1.size,hk,G5.out.2.2.2.1.fr hf (aj.refl _ _),G5.out.2.2.2.2.1.fr hf (aj.refl _ _),G5.out.2.2.2.2.2.1.fr hf (aj.refl _ _),G5.out.2.2.2.2.2.2.1.fr hf (aj.refl _ _),G5.out.2.2.2.2.2.2.2.fr hf (aj.refl _ _)⟩;clear G5;obtain ⟨k0,k1,k2,k3,k4,k6,k7⟩:=G6.out.2.2.2.1.cells;clear hf hk
    cases hag:jR t1 (aH 2) with
    |true=>
     have hr2:sj t2 t3 aN b3=some r:=by rw [hag,if_pos rfl] at hr;exact hr
     have hk2:bf P es env (.ok b3) Y4 w6:=by have hk:=G6.out.2.2.1;unfold og at hk;rw [hag,if_pos rfl] at hk;exact hk
     have HX:=aB (yV P es env b3 A3 A4 c3 c4 t2 t3 aN r Y4 w6 hk2 G6.out.2.2.2.2.2.1 G6.out.2.2.2.2.2.2.1 (HD.out _ _ _ _ h2) (HD.out _ _ _ _ h3) hr2);unfold pk at HX;clear hk2 hr2;go_wp2_with fail;refine HX.out.mono ?_;intro e w9 hp;have HQ:=aB (hp.to G6.out.1 G6.out.2.1);clear hp;obtain ⟨v9,vI⟩:=HQ.out.ret;subst vI;go_wp2_with fail;go_ret
     exact HQ.out
    |false=>
     have hk2:bf P es env (.error (aN,9)) Y4 w6:=by have hk:=G6.out.2.2.1;unfold og at hk;rw [hag,if_neg (by simp)] at hk;exact hk
     have HX:=aB (tC P es env (aN,9) (.slice A3 t2.length c3) (.slice A4 t3.length c4) aN Y4 w6 hk2);unfold pk at HX;go_wp2_with fail;refine HX.out.mono ?_;rintro e w7 ⟨Y7,hf,hy,hk,rfl⟩;clear HX;clear k0 k1 k2 k3 k4 k6 k7;have G7:Hid (Fr Y w w7/\aj Y Y7 w/\bf P es env (.error (aN,9)) Y7 w7/\aZ w7 Y7 w.heap.size p TA tc UA uc/\aF w7 Y7 A2 c2 t1/\aF w7 Y7 A3 c3 t2/\aF w7 Y7 A4 c4 t3/\aF w7 Y7 A5 c5 (aH 2)):=aB ⟨Fr.new G6.out.1 hf G6.out.2.1,aj.trans G6.out.2.1 hy G6.out.1.size,hk,G6.out.2.2.2.1.fr hf hy,G6.out.2.2.2.2.1.fr hf hy,G6.out.2.2.2.2.2.1.fr hf hy,G6.out.2.2.2.2.2.2.1.fr hf hy,G6.out.2.2.2.2.2.2.2.fr hf hy⟩;clear G6;obtain ⟨k0,k1,k2,k3,k4,k6,k7⟩:=G7.out.2.2.2.1.cells;clear hf hy hk
     have HQ:Hid (bI P es env Y r w (.returned (.slice none 0 0)) w7):=aB (by
      simp [hag] at hr;subst hr;exact ⟨Y7,G7.out.1,G7.out.2.1,G7.out.2.2.1,_,_,_,rfl⟩)
     go_wp2_with fail;go_ret;exact HQ.out
theorem ZB (P:Nat) (es:List Pt) (nx:Nx) (HN:Hid (nR P es nx)) (env:Env) (p:Pt) (aN a:Nat) (r:fF) (Y:Nat->Prop) (w:World) (TA UA:Option Addr) (tc uc:Nat) (h:bf P es env (.ok a) Y w) (hT:aF w Y TA tc p.T) (hU:aF w Y UA uc p.U) (hG:∀env a t b,nx env a=some (.ok (t,b))->Gd t) (hm:GQ nx env aN a=some r):
  Calls Tryz.prog 67 #[pk P,pv p TA tc UA uc,.int .i64 aN] w (bI P es env Y r w):=by
 obtain ⟨w1,hw1⟩:∃w1,w1=w.alloc (.cells #[.int .i64 p.k,.string p.lb,.string p.nm,.string p.bd,.int .i64 p.mn,.int .i64 p.num,.slice TA p.T.length tc,.slice UA p.U.length uc] 33):=⟨_,rfl⟩;have hpm:=aZ.new h.lt hT hU;have hb1:Below w.heap.size w w1:=by rw [hw1];exact au (aI _ _) _
 rw [<-hw1] at hpm;have G1:Hid (Fr Y w w1/\aj Y Y w/\bf P es env (.ok a) Y w1/\aZ w1 Y w.heap.size p TA tc UA uc):=aB ⟨Fr.below hb1,aj.refl _ _,h.later hb1,hpm⟩;have HR:=aB (show GQ nx env aN a=some r from hm);have HD:=aB (hG);clear h hT hU hm hG hpm hb1;unfold pk pv;go_enter Tryz.func67,Tryz.ntmps67;go_upto_region 1 with fail
 rw [<-hw1];clear hw1;obtain ⟨k0,k1,k2,k3,k4,k6,k7⟩:=G1.out.2.2.2.cells;rcases fP HR.out with ⟨x,h1,hr⟩|⟨t1,b1,h1,hr⟩
 ·have HX:=aB (HN.out env (.ok a) (.error x) Y w1 h1 G1.out.2.2.1)
  unfold pk at HX;go_wp2_with fail;refine HX.out.mono ?_;rintro e w2 ⟨Y2,hf,hy,hk,rfl⟩;clear HX;clear k0 k1 k2 k3 k4 k6 k7;have G2:Hid (Fr Y w w2/\aj Y Y2 w/\bf P es env (.error x) Y2 w2/\aZ w2 Y2 w.heap.size p TA tc UA uc):=aB ⟨Fr.new G1.out.1 hf G1.out.2.1,aj.trans G1.out.2.1 hy G1.out.1.size,hk,G1.out.2.2.2.fr hf hy⟩;clear G1;obtain ⟨k0,k1,k2,k3,k4,k6,k7⟩:=G2.out.2.2.2.cells;clear hf hy hk;have HX:=aB (HN.out env (.error x) (.error x) Y2 w2 rfl G2.out.2.2.1);unfold pk at HX;go_wp2_with fail;refine HX.out.mono ?_;rintro e w3 ⟨Y3,hf,hy,hk,rfl⟩;clear HX;clear k0 k1 k2 k3 k4 k6 k7;have G3:Hid (Fr Y w w3/\aj Y Y3 w/\bf P es env (.error x) Y3 w3/\aZ w3 Y3 w.heap.size p TA tc UA uc):=aB ⟨Fr.new G2.out.1 hf G2.out.2.1,aj.trans G2.out.2.1 hy G2.out.1.size,hk,G2.out.2.2.2.fr hf hy⟩;clear G2;obtain ⟨k0,k1,k2,k3,k4,k6,k7⟩:=G3.out.2.2.2.cells;clear hf hy hk;have HX:=aB (jg P es env _ _ _ G3.out.2.2.1);simp only [qC] at HX;unfold pk at HX;go_wp2_with fail;refine HX.out.mono ?_;rintro e w4 ⟨rfl,hb⟩;clear HX;clear k0 k1 k2 k3 k4 k6 k7;have G4:Hid (Fr Y w w4/\aj Y Y3 w/\bf P es env (.error x) Y3 w4/\aZ w4 Y3 w.heap.size p TA tc UA uc):=aB ⟨Fr.new G3.out.1 (Fr.below hb) G3.out.2.1,aj.trans G3.out.2.1 (aj.refl _ _) G3.out.1.size,(G3.out.2.2.1.later hb),G3.out.2.2.2.fr (Fr.below hb) (aj.refl _ _)⟩;clear G3;obtain ⟨k0,k1,k2,k3,k4,k6,k7⟩:=G4.out.2.2.2.cells;clear hb
  have HQ:Hid (bI P es env Y r w (.returned (.slice none 0 0)) w4):=aB (by
   subst hr;exact ⟨Y3,G4.out.1,G4.out.2.1,G4.out.2.2.1,_,_,_,rfl⟩)
  go_wp2_with fail;go_ret;exact HQ.out
 ·have HX:=aB (HN.out env (.ok a) _ Y w1 h1 G1.out.2.2.1)
  unfold pk at HX;go_wp2_with fail;refine HX.out.mono ?_;rintro e w2 ⟨Y2,hf,hy,hk,A2,c2,rfl,ht⟩;clear HX;clear k0 k1 k2 k3 k4 k6 k7;have G2:Hid (Fr Y w w2/\aj Y Y2 w/\bf P es env (.ok b1) Y2 w2/\aZ w2 Y2 w.heap.size p TA tc UA uc/\aF w2 Y2 A2 c2 t1):=aB ⟨Fr.new G1.out.1 hf G1.out.2.1,aj.trans G1.out.2.1 hy G1.out.1.size,hk,G1.out.2.2.2.fr hf hy,ht⟩;clear G1;obtain ⟨k0,k1,k2,k3,k4,k6,k7⟩:=G2.out.2.2.2.1.cells;clear hf hy hk ht;rcases fP hr with ⟨x,h2,hr⟩|⟨t2,b2,h2,hr⟩
  ·have HX:=aB (HN.out env (.ok b1) (.error x) Y2 w2 h2 G2.out.2.2.1)
   unfold pk at HX;go_wp2_with fail;refine HX.out.mono ?_;rintro e w3 ⟨Y3,hf,hy,hk,rfl⟩;clear HX;clear k0 k1 k2 k3 k4 k6 k7;have G3:Hid (Fr Y w w3/\aj Y Y3 w/\bf P es env (.error x) Y3 w3/\aZ w3 Y3 w.heap.size p TA tc UA uc/\aF w3 Y3 A2 c2 t1):=aB ⟨Fr.new G2.out.1 hf G2.out.2.1,aj.trans G2.out.2.1 hy G2.out.1.size,hk,G2.out.2.2.2.1.fr hf hy,G2.out.2.2.2.2.fr hf hy⟩;clear G2;obtain ⟨k0,k1,k2,k3,k4,k6,k7⟩:=G3.out.2.2.2.1.cells;clear hf hy hk;have HX:=aB (jg P es env _ _ _ G3.out.2.2.1);simp only [qC] at HX;unfold pk at HX;go_wp2_with fail;refine HX.out.mono ?_;rintro e w4 ⟨rfl,hb⟩;clear HX;clear k0 k1 k2 k3 k4 k6 k7;have G4:Hid (Fr Y w w4/\aj Y Y3 w/\bf P es env (.error x) Y3 w4/\aZ w4 Y3 w.heap.size p TA tc UA uc/\aF w4 Y3 A2 c2 t1):=aB ⟨Fr.new G3.out.1 (Fr.below hb) G3.out.2.1,aj.trans G3.out.2.1 (aj.refl _ _) G3.out.1.size,(G3.out.2.2.1.later hb),G3.out.2.2.2.1.fr (Fr.below hb) (aj.refl _ _),G3.out.2.2.2.2.fr (Fr.below hb) (aj.refl _ _)⟩;clear G3;obtain ⟨k0,k1,k2,k3,k4,k6,k7⟩:=G4.out.2.2.2.1.cells;clear hb
   have HQ:Hid (bI P es env Y r w (.returned (.slice none 0 0)) w4):=aB (by
    subst hr;exact ⟨Y3,G4.out.1,G4.out.2.1,G4.out.2.2.1,_,_,_,rfl⟩)
   go_wp2_with fail;go_ret;exact HQ.out
  ·have HX:=aB (HN.out env (.ok b1) _ Y2 w2 h2 G2.out.2.2.1)
   unfold pk at HX;go_wp2_with fail;refine HX.out.mono ?_;rintro e w3 ⟨Y3,hf,hy,hk,A3,c3,rfl,ht⟩;clear HX;clear k0 k1 k2 k3 k4 k6 k7;have G3:Hid (Fr Y w w3/\aj Y Y3 w/\bf P es env (.ok b2) Y3 w3/\aZ w3 Y3 w.heap.size p TA tc UA uc/\aF w3 Y3 A2 c2 t1/\aF w3 Y3 A3 c3 t2):=aB ⟨Fr.new G2.out.1 hf G2.out.2.1,aj.trans G2.out.2.1 hy G2.out.1.size,hk,G2.out.2.2.2.1.fr hf hy,G2.out.2.2.2.2.fr hf hy,ht⟩;clear G2;obtain ⟨k0,k1,k2,k3,k4,k6,k7⟩:=G3.out.2.2.2.1.cells;clear hf hy hk ht;have HX:=aB (jg P es env _ _ _ G3.out.2.2.1);simp only [qC] at HX;unfold pk at HX;go_wp2_with fail;refine HX.out.mono ?_;rintro e w4 ⟨rfl,hb⟩;clear HX;clear k0 k1 k2 k3 k4 k6 k7;have G4:Hid (Fr Y w w4/\aj Y Y3 w/\bf P es env (.ok b2) Y3 w4/\aZ w4 Y3 w.heap.size p TA tc UA uc/\aF w4 Y3 A2 c2 t1/\aF w4 Y3 A3 c3 t2):=aB ⟨Fr.new G3.out.1 (Fr.below hb) G3.out.2.1,aj.trans G3.out.2.1 (aj.refl _ _) G3.out.1.size,(G3.out.2.2.1.later hb),G3.out.2.2.2.1.fr (Fr.below hb) (aj.refl _ _),G3.out.2.2.2.2.1.fr (Fr.below hb) (aj.refl _ _),G3.out.2.2.2.2.2.fr (Fr.below hb) (aj.refl _ _)⟩;clear G3;obtain ⟨k0,k1,k2,k3,k4,k6,k7⟩:=G4.out.2.2.2.1.cells;clear hb;have HC:=aB (DX A2 c2 t1 w4 G4.out.2.2.2.2.1.ty.eY (HD.out _ _ _ _ h1) G4.out.2.2.2.2.1.cap)
   cases hc:iP t1 with
   |none=>
    go_wp2_with fail;refine HC.out.mono ?_;rintro e w5 ⟨hb,h9⟩;rw [hc] at h9;subst h9;clear k0 k1 k2 k3 k4 k6 k7;have G5:Hid (Fr Y w w5/\aj Y Y3 w/\bf P es env (.ok b2) Y3 w5/\aZ w5 Y3 w.heap.size p TA tc UA uc/\aF w5 Y3 A2 c2 t1/\aF w5 Y3 A3 c3 t2):=aB ⟨Fr.new G4.out.1 (Fr.below hb) G4.out.2.1,aj.trans G4.out.2.1 (aj.refl _ _) G4.out.1.size,(G4.out.2.2.1.later hb),G4.out.2.2.2.1.fr (Fr.below hb) (aj.refl _ _),G4.out.2.2.2.2.1.fr (Fr.below hb) (aj.refl _ _),G4.out.2.2.2.2.2.fr (Fr.below hb) (aj.refl _ _)⟩;clear G4;obtain ⟨k0,k1,k2,k3,k4,k6,k7⟩:=G5.out.2.2.2.1.cells;clear hb;have HX:=aB (jB P es env (.ok b2) false aN 9 Y3 w5 (.inl (by decide)) G5.out.2.2.1);unfold pk at HX;go_wp2_with fail;refine HX.out.mono ?_;rintro e w6 ⟨⟨v6,rfl⟩,hf,hk⟩;clear HX;clear k0 k1 k2 k3 k4 k6 k7;have G6:Hid (Fr Y w w6/\aj Y Y3 w/\bf P es env (.error (aN,9)) Y3 w6/\aZ w6 Y3 w.heap.size p TA tc UA uc/\aF w6 Y3 A2 c2 t1/\aF w6 Y3 A3 c3 t2):=aB ⟨Fr.new G5.out.1 hf G5.out.2.1,aj.trans G5.out.2.1 (aj.refl _ _) G5.out.1.size,hk,G5.out.2.2.2.1.fr hf (aj.refl _ _),G5.out.2.2.2.2.1.fr hf (aj.refl _ _),G5.out.2.2.2.2.2.fr hf (aj.refl _ _)⟩;clear G5;obtain ⟨k0,k1,k2,k3,k4,k6,k7⟩:=G6.out.2.2.2.1.cells;clear hf hk;have HX:=aB (gy P es env (aN,9) (.slice A3 t2.length c3) (.slice none 0 0) aN Y3 w6 G6.out.2.2.1);unfold pk at HX;go_wp2_with fail;refine HX.out.mono ?_;rintro e w7 ⟨⟨v7,rfl⟩,hf,hk⟩;clear HX;clear k0 k1 k2 k3 k4 k6 k7
    have G7:Hid (Fr Y w w7/\aj Y Y3 w/\bf P es env (.error (aN,9)) Y3 w7/\aZ w7 Y3 w.heap.size p TA tc UA uc/\aF w7 Y3 A2 c2 t1/\aF w7 Y3 A3 c3 t2):=aB ⟨Fr.new G6.out.1 hf G6.out.2.1,aj.trans G6.out.2.1 (aj.refl _ _) G6.out.1.size,hk,G6.out.2.2.2.1.fr hf (aj.refl _ _),G6.out.2.2.2.2.1.fr hf (aj.refl _ _),G6.out.2.2.2.2.2.fr hf (aj.refl _ _)⟩;clear G6;obtain ⟨k0,k1,k2,k3,k4,k6,k7⟩:=G7.out.2.2.2.1.cells;clear hf hk
    have HQ:Hid (bI P es env Y r w (.returned (.slice none 0 0)) w7):=aB (by
     rw [hc] at hr;injection hr with hr
     subst hr;exact ⟨Y3,G7.out.1,G7.out.2.1,G7.out.2.2.1,_,_,_,rfl⟩)
    go_wp2_with fail;go_ret
    exact HQ.out
   |some q=>
    obtain ⟨tk,tl⟩:=q;go_wp2_with fail;refine HC.out.mono ?_;rintro e w5 ⟨hb,h9⟩;rw [hc] at h9;obtain ⟨B1,d1,B2,d2,rfl,hown1,hown2⟩:=h9;rw [hc] at hr;have HRR:=aB hr;clear hr;clear k0 k1 k2 k3 k4 k6 k7;have G5:Hid (Fr Y w w5/\aj Y Y3 w/\bf P es env (.ok b2) Y3 w5/\aZ w5 Y3 w.heap.size p TA tc UA uc/\aF w5 Y3 A2 c2 t1/\aF w5 Y3 A3 c3 t2/\aF w5 Y3 B1 d1 tk/\aF w5 Y3 B2 d2 tl):=aB ⟨Fr.new G4.out.1 (Fr.below hb) G4.out.2.1,aj.trans G4.out.2.1 (aj.refl _ _) G4.out.1.size,(G4.out.2.2.1.later hb),G4.out.2.2.2.1.fr (Fr.below hb) (aj.refl _ _),G4.out.2.2.2.2.1.fr (Fr.below hb) (aj.refl _ _),G4.out.2.2.2.2.2.fr (Fr.below hb) (aj.refl _ _),(aF.own hown1 (G4.out.2.2.1.lt)),(aF.own hown2 (G4.out.2.2.1.lt))⟩;clear G4;obtain ⟨k0,k1,k2,k3,k4,k6,k7⟩:=G5.out.2.2.2.1.cells;clear hb hown1 hown2;have HX:=aB (jB P es env (.ok b2) true aN 0 Y3 w5 (.inr rfl) G5.out.2.2.1);unfold pk at HX;go_wp2_with fail;refine HX.out.mono ?_;rintro e w6 ⟨⟨v6,rfl⟩,hf,hk⟩;clear HX;clear k0 k1 k2 k3 k4 k6 k7;have G6:Hid (Fr Y w w6/\aj Y Y3 w/\bf P es env (.ok b2) Y3 w6/\aZ w6 Y3 w.heap.size p TA tc UA uc/\aF w6 Y3 A2 c2 t1/\aF w6 Y3 A3 c3 t2/\aF w6 Y3 B1 d1 tk/\aF w6 Y3 B2 d2 tl):=aB ⟨Fr.new G5.out.1 hf G5.out.2.1,aj.trans G5.out.2.1 (aj.refl _ _) G5.out.1.size,hk,G5.out.2.2.2.1.fr hf (aj.refl _ _),G5.out.2.2.2.2.1.fr hf (aj.refl _ _),G5.out.2.2.2.2.2.1.fr hf (aj.refl _ _),G5.out.2.2.2.2.2.2.1.fr hf (aj.refl _ _),G5.out.2.2.2.2.2.2.2.fr hf (aj.refl _ _)⟩;clear G5;obtain ⟨k0,k1,k2,k3,k4,k6,k7⟩:=G6.out.2.2.2.1.cells
    clear hf hk;have HX:=aB (nK P es env b2 A3 B1 c3 d1 t2 tk aN Y3 w6 G6.out.2.2.1 G6.out.2.2.2.2.2.1.ty G6.out.2.2.2.2.2.2.1.ty (HD.out _ _ _ _ h2) (CQ (HD.out _ _ _ _ h1) hc).1);unfold pk at HX;go_wp2_with fail;refine HX.out.mono ?_;rintro e w7 ⟨⟨v7,rfl⟩,hf,hk⟩;clear HX;clear k0 k1 k2 k3 k4 k6 k7;have G7:Hid (Fr Y w w7/\aj Y Y3 w/\bf P es env (og t2 tk aN b2) Y3 w7/\aZ w7 Y3 w.heap.size p TA tc UA uc/\aF w7 Y3 A2 c2 t1/\aF w7 Y3 A3 c3 t2/\aF w7 Y3 B1 d1 tk/\aF w7 Y3 B2 d2 tl):=aB ⟨Fr.new G6.out.1 hf G6.out.2.1,aj.trans G6.out.2.1 (aj.refl _ _) G6.out.1.size,hk,G6.out.2.2.2.1.fr hf (aj.refl _ _),G6.out.2.2.2.2.1.fr hf (aj.refl _ _),G6.out.2.2.2.2.2.1.fr hf (aj.refl _ _),G6.out.2.2.2.2.2.2.1.fr hf (aj.refl _ _),G6.out.2.2.2.2.2.2.2.fr hf (aj.refl _ _)⟩;clear G6;obtain ⟨k0,k1,k2,k3,k4,k6,k7⟩:=G7.out.2.2.2.1.cells;clear hf hk
    cases hag:jR t2 tk with
    |true=>
     have HQ:Hid (bI P es env Y r w (.returned (.slice B2 tl.length d2)) w7):=aB (by
      have hk:=G7.out.2.2.1;have hr:=HRR.out;simp only [hag,og,if_true] at hr hk;injection hr with hr
      subst hr;exact ⟨Y3,G7.out.1,G7.out.2.1,hk,_,_,rfl,G7.out.2.2.2.2.2.2.2⟩)
     go_wp2_with fail;go_ret
     exact HQ.out
    |false=>
     have HQ:Hid (bI P es env Y r w (.returned (.slice B2 tl.length d2)) w7):=aB (by
      have hk:=G7.out.2.2.1;have hr:=HRR.out;simp [hag,og] at hr hk;subst hr;exact ⟨Y3,G7.out.1,G7.out.2.1,hk,_,_,_,rfl⟩)
     go_wp2_with fail;go_ret;exact HQ.out
end Go.Proofs.YtmjdhfbnmmdjiaaGreat
