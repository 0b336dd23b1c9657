/- Laid together by a tool from the texts of this seat: CsC CsD CsE. Conditions: each theorem's own. -/
import Derived.Test.YtmjdhfbnmmdjiaaGreatH20
import Derived.Test.YtmjdhfbnmmdjiaaGreatH14
set_option maxHeartbeats 8000000
set_option maxRecDepth 100000
namespace Go.Proofs.YtmjdhfbnmmdjiaaGreat
open Go.Lib renaming hid->aB
open Go.World renaming cell?->DI,frozen?->Gb,size_alloc->FT,ownsRow->aaz
open _root_.Nat renaming le_refl->aK,lt_of_lt_of_le->Yy
open Go.RowKit.Below renaming refl->aI
open _root_.And renaming intro->DF
open _root_.ByteArray renaming empty->dQ
open Go.Value renaming slice->gq,ownBlock->gQ
open _root_.List renaming length_append->lS
open _root_.Array renaming getElem?_eq_some_iff->aai
open Go.RowKit
def vN (w:World) (Y:Nat->Prop) (A:Option Addr) (vs:List PV):Prop:=vs≠[]->∃b o,A=some ⟨b,o,none⟩/\b<w.heap.size/\¬Y b/\iQ w b 33/\∀(i:Nat) (v:PV),vs[i]?=some v->∀(j:Nat) (u:Value),(ng v)[j]?=some u->w.cell? ⟨b,o+i*8+j,none⟩=some u
def bN (w:World) (Y:Nat->Prop) (A:Option Addr) (c:Nat) (es:List Pt):Prop:=∃vs,vN w Y A vs/\dz w Y vs es/\es.length<=c
section
variable {w w':World} {Y Y':Nat->Prop} {A:Option Addr} {c:Nat} {vs:List PV} {es:List Pt}
theorem vN.fr (h:vN w Y A vs) (hf:Fr Y w w') (hY:∀q,Y' q->Y q\/w.heap.size<=q):vN w' Y' A vs:=fun hne=>by
 obtain ⟨b,o,hA,hb,hy,ho,hc⟩:=h hne;have hbk:=hf.block b hb hy;refine ⟨b,o,hA,Yy hb hf.size,fun h2=>?_,lG hbk ho,fun i v hv j u hu=>?_⟩
 ·rcases hY b h2 with h3|h3
  ·exact hy h3
  ·omega
 ·have:=hc i v hv j u hu
  simp only [DI,hbk] at this ⊢;exact this
theorem bN.fr (h:bN w Y A c es) (hf:Fr Y w w') (hY:∀q,Y' q->Y q\/w.heap.size<=q):bN w' Y' A c es:=by
 obtain ⟨vs,h1,h2,h3⟩:=h;exact ⟨vs,h1.fr hf hY,h2.fr hf hY,h3⟩
theorem vN.read (h:vN w Y A vs):vM w w.heap.size A vs:=fun hne=>by
 obtain ⟨b,o,hA,hb,_,_,hc⟩:=h hne;exact ⟨b,o,hA,hb,hc⟩
theorem vN.own {base:Nat} (h:fq w base A c vs) (hY:∀q,Y q->q<base):vN w Y A vs:=fun hne=>by
 obtain ⟨b,o,hA,hb,hc⟩:=ay.read fH h hne;refine ⟨b,o,hA,hb,fun hy=>?_,ay.rO h hA,hc⟩;have:=(ay.lt h _ hA).1;have:=hY b hy;dsimp only at*;omega
end
def iU:List Pt->ByteArray
 |[]=>dQ
 |p::_=>p.lb
def bQ (s:ByteArray):List Pt->List Pt
 |[]=>[]
 |p::ps=>{p with lb:=s}::ps
def mg (lb:ByteArray) (t u:List Nd):Pt:=⟨14,lb,dQ,dQ,0,0,aC t,aC u⟩
def toM (x:List Pt) (t u:List Nd):List Pt:=if lZ t u=true then x else mg (iU x) t u::bQ dQ x
def aaj (Y:Nat->Prop) (es:List Pt) (w:World) (e:Ending) (w':World):Prop:=Below w.heap.size w w'/\∃A c,e= .returned (.slice A es.length c)/\bN w' Y A c es
theorem Qo (w:World) (v u:Option Addr×Nat×Nat):jV (w.alloc (.cells #[.slice v.1 v.2.1 v.2.2,.slice u.1 u.2.1 u.2.2] 24)) (w.heap.size+1) (some ⟨w.heap.size,0,none⟩) [v,u]:=fun _=>by
 refine ⟨w.heap.size,0,rfl,by omega,fun i x hx j y hy=>?_⟩
 have hj:j=0:=by
  have:=aP hy;rw [jv] at this;omega
 subst hj
 match i,hx with
 |0,hx=>simp at hx;subst hx;simp [encS] at hy;subst hy;simp
 |1,hx=>simp at hx;subst hx;simp [encS] at hy;subst hy;simp
 |i+2,hx=>simp at hx
theorem ay.aak {w:World} {base g cap:Nat} {v:PV} {l:List PV} (h:fq w base (some ⟨g,0,none⟩) cap (v::l)) (s:ByteArray):
  w.cell? ⟨g,1,none⟩=some (.string v.lb)/\w.frozen? ⟨g,1,none⟩=false/\fq (w.setCell ⟨g,1,none⟩ (.string s)) base (some ⟨g,0,none⟩) cap ({v with lb:=s}::l):=by
 obtain ⟨b,o,e1,hb,hc⟩:=ay.read fH h (by simp);injection e1 with e1
 injection e1 with e1 e2
 subst e1 e2;have c1:=hc 0 v rfl 1 _ rfl;have h':w.ownsRow base 33 8 (.slice (some ⟨g,0,none⟩) (v::l).length cap) (v::l).length ((v::l).flatMap ng):=h;obtain ⟨h2,_⟩:=aaz.stored h' 1 (.string s);refine ⟨by simpa using c1,aaz.frozenAt h' _,?_⟩;show (w.setCell ⟨g,1,none⟩ (.string s)).ownsRow base 33 8 (.slice (some ⟨g,0,none⟩) ({v with lb:=s}::l).length cap) ({v with lb:=s}::l).length (({v with lb:=s}::l).flatMap ng);exact h2
def AZ (w:World) (Q:Nat) (lb:ByteArray) (TA:Option Addr) (tn tc:Nat) (UA:Option Addr) (un uc:Nat):World:=
 (((((((w.setCell ⟨Q,0,none⟩ (.int .i64 14)).setCell ⟨Q,1,none⟩ (.string lb)).setCell ⟨Q,2,none⟩ (.string ⟨#[]⟩)).setCell ⟨Q,3,none⟩ (.string ⟨#[]⟩)).setCell ⟨Q,4,none⟩ (.int .i64 0)).setCell ⟨Q,5,none⟩ (.int .i64 0)).setCell ⟨Q,6,none⟩ (.slice TA tn tc)).setCell ⟨Q,7,none⟩ (.slice UA un uc)
theorem aal (w:World) (Q:Nat) (lb:ByteArray) (TA:Option Addr) (tn tc:Nat) (UA:Option Addr) (un uc:Nat):Fr (fun q=>q=Q) w (AZ w Q lb TA tn tc UA un uc):=by
 unfold AZ;exact (((((((dZ _ _ _ _).trans (dZ _ _ _ _)).trans (dZ _ _ _ _)).trans (dZ _ _ _ _)).trans (dZ _ _ _ _)).trans (dZ _ _ _ _)).trans (dZ _ _ _ _)).trans (dZ _ _ _ _)
structure af4 (w3:World) (t u:List Nd) (lb:ByteArray) (Q:Nat) (TA:Option Addr) (tc:Nat) (UA:Option Addr) (uc:Nat) (w6:World):Prop where
 b:Below w3.heap.size w3 w6
 q:w6.heap[Q]?=some (.cells #[.int .i64 14,.string lb,.string ⟨#[]⟩,.string ⟨#[]⟩,.int .i64 0,.int .i64 0,.slice TA (aC t).length tc,.slice UA (aC u).length uc] 33 (0,0))
 z:w3.heap.size<=Q
 T:dF w6 w3.heap.size TA tc (aC t)
 U:dF w6 w3.heap.size UA uc (aC u)
abbrev S9 (w:World) (Q:Nat):Prop:=w.heap[Q]?=some (.cells #[.int .i64 0,.string ⟨#[]⟩,.string ⟨#[]⟩,.string ⟨#[]⟩,.int .i64 0,.int .i64 0,.slice none 0 0,.slice none 0 0] 33 (0,0))
theorem S_ {w3 w w':World} {Q:Nat} (h:S9 w Q/\Q<w.heap.size/\w3.heap.size<=Q) (hb:Below w.heap.size w w'):S9 w' Q/\Q<w'.heap.size/\w3.heap.size<=Q:=⟨(hb.block Q h.2.1).trans h.1,Yy h.2.1 hb.size,h.2.2⟩
theorem BN {w3 w:World} {t u:List Nd} {Q:Nat} {TA UA:Option Addr} {tc uc:Nat} (hb:Hid (Below w3.heap.size w3 w)) (hT:Hid (dF w w3.heap.size TA tc (aC t))) (hU:Hid (dF w w3.heap.size UA uc (aC u))) (hq:Hid (S9 w Q/\Q<w.heap.size/\w3.heap.size<=Q)) (lb:ByteArray):
  Hid (af4 w3 t u lb Q TA tc UA uc (AZ w Q lb TA (aC t).length tc UA (aC u).length uc)):=by
 refine aB ?_;have hf:=aal w Q lb TA (aC t).length tc UA (aC u).length uc
 have hne:∀{A:Option Addr} {c:Nat} {l:List Nd},dF w w3.heap.size A c l->∀a,A=some a->a.block≠Q:=fun h a ha e=>by
  have:=ay.rO h ha;rw [e] at this;exact iQ.ne this ⟨_,_,hq.out.1⟩ (by decide) rfl
 refine ⟨Fr.toBelow (Fr.new (Fr.below hb.out:Fr (fun _=>False) w3 w) hf fun b e=>.inr (by rw [e];exact hq.out.2.2)) fun k e=>e.elim,?_,hq.out.2.2,ay.fr hT.out hf (hne hT.out),ay.fr hU.out hf (hne hU.out)⟩;unfold AZ;rw [heap_set (heap_set (heap_set (heap_set (heap_set (heap_set (heap_set (heap_set hq.out.1 0 _) 1 _) 2 _) 3 _) 4 _) 5 _) 6 _) 7];rfl
theorem iH (EA:Option Addr) (c:Nat) (es:List Pt) (TA:Option Addr) (tc:Nat) (t:List Nd) (UA:Option Addr) (uc:Nat) (u:List Nd) (Y:Nat->Prop) (w:World) (hx:bN w Y EA c es) (hne:es≠[]) (hT:aF w Y TA tc t) (hU:aF w Y UA uc u) (htn:t≠[]) (hun:u≠[]) (hlt:∀q,Y q->q<w.heap.size)
  (hl:es.length<=100000) (htl:t.length<=5000000) (hul:u.length<=5000000):
  Calls Tryz.prog 84 #[.agg #[.slice EA es.length c,.slice TA t.length tc],.slice UA u.length uc] w (aaj Y (toM es t u) w):=by
 have H:=aB (DF hx (DF hT hU));go_enter Tryz.func84,Tryz.ntmps84;go_upto_region 1 with fail
 obtain ⟨w1,hw1⟩:∃w1,w1=w.alloc (.cells #[.slice EA es.length c,.slice TA t.length tc] 65):=⟨_,rfl⟩;obtain ⟨B,hB⟩:∃B,B=w.heap.size:=⟨_,rfl⟩;have hb1:Below w.heap.size w w1:=by rw [hw1];exact au (aI _ _) _
 have hbl:w1.heap[B]?=some (.cells #[.slice EA es.length c,.slice TA t.length tc] 65 (0,0)):=by rw [hw1,hB];exact heap_alloc_new _ _
 have hs1:B<w1.heap.size:=by rw [hw1,hB];simp
 have HC:Hid (∀v,Below w1.heap.size w1 v->v.cell? ⟨B,0,none⟩=some (.slice EA es.length c)/\v.cell? ⟨B,1,none⟩=some (.slice TA t.length tc)):=aB fun v hv=>by
  refine ⟨(hv.cell (p:=⟨B,0,none⟩) hs1).trans ?_,(hv.cell (p:=⟨B,1,none⟩) hs1).trans ?_⟩<;>simp [DI,hbl]
 have HB1:=aB hb1;have H1:Hid (∀v,Below w.heap.size w v->bN v Y EA c es/\aF v Y TA tc t/\aF v Y UA uc u):=aB fun v hv=>⟨H.out.1.fr (Fr.below hv:Fr Y w v) fun q hq=>.inl hq,H.out.2.1.fr (Fr.below hv:Fr Y w v) fun q hq=>.inl hq,H.out.2.2.fr (Fr.below hv:Fr Y w v) fun q hq=>.inl hq⟩;have Ta:=aB (Ea TA UA tc uc t u w1 (H1.out w1 hb1).2.1.ty.eY (H1.out w1 hb1).2.2.ty.eY (by omega));obtain ⟨p0,p1⟩:=HC.out w1 (aI _ _);have MV:=aB (DF hne (DF htn (DF hun hlt)));rw [<-hw1,<-hB];clear hw1 hB hb1 hbl hs1 hx hT hU hne htn hun hlt;go_wp2_with fail;refine Ta.out.mono ?_;rintro e w2 ⟨rfl,hb2⟩;have HB2:=aB (ah HB1.out hb2);have Va:=aB hb2;obtain ⟨p0,p1⟩:=HC.out w2 hb2;clear hb2
 cases hsm:lZ t u
 rotate_left
 ·have HT:Hid (toM es t u=es):=aB (by unfold toM;rw [if_pos hsm])
  go_wp2_with fail;go_ret;rw [HT.out];exact ⟨HB2.out,EA,c,rfl,(H1.out _ HB2.out).1⟩
 have HT:Hid (toM es t u=mg (iU es) t u::bQ dQ es):=aB (by unfold toM;rw [if_neg (by rw [hsm];simp)]);obtain ⟨vs,hrd,hpm,hcap⟩:=(H1.out _ HB2.out).1;have hvl:=hpm.1
 have A_:vs≠[]:=fun e=>by
  rw [e] at hvl;exact MV.out.1 (List.eq_nil_of_length_eq_zero hvl.symm)
 have vO:=aB (zf EA c vs w2 hrd.read A_ (by omega));rw [hvl] at vO;have HV:=aB (DF hpm A_);clear hrd hpm hcap hsm hvl;go_wp2_with fail;refine vO.out.mono ?_;rintro e w3 ⟨A3,c3,rfl,hown3,hb3⟩;have HB3:=aB (ah HB2.out hb3);have aln:=aB hb3;have Ip:=aB (ah Va.out hb3);have PG:=aB hown3;obtain ⟨p0,p1⟩:=HC.out w3 Ip.out;obtain ⟨v0,vt,hvs⟩:=List.exists_cons_of_ne_nil HV.out.2;obtain ⟨g3,hA3,hg3,aqz,_,_⟩:=ay.form hown3 (by rw [hvs];simp);subst hA3;have Qp:=aB hvs;have hl0:0<es.length:=List.length_pos_iff.2 MV.out.1
 have HL:Hid (∀v,Below w3.heap.size w3 v->v.cell? ⟨g3,1,none⟩=some (.string v0.lb)):=aB fun v hv=>by
  obtain ⟨b,o,e1,hb,hc⟩:=ay.read fH (ay.below PG.out hv (aK _)) (by rw [Qp.out];simp);injection e1 with e1
  injection e1 with e1 e2
  subst e1 e2;have:=hc 0 v0 (by rw [Qp.out];rfl) 1 _ rfl;simpa using this
 have HBt:=aB (fun v (hv:Below w3.heap.size w3 v)=>Lg TA tc t v ((H1.out v (ah HB3.out hv)).2.1.ty.eY) MV.out.2.1 htl);have HBu:=aB (fun v (hv:Below w3.heap.size w3 v)=>Lg UA uc u v ((H1.out v (ah HB3.out hv)).2.2.ty.eY) MV.out.2.2.1 hul);have S0:Hid (∀v,Below w3.heap.size w3 v->v.cell? ⟨B,1,none⟩=some (.slice TA t.length tc)/\v.cell? ⟨g3,1,none⟩=some (.string v0.lb)/\Hid (Below w3.heap.size w3 v)):=aB fun v hv=>⟨(HC.out v (ah Ip.out hv)).2,HL.out v hv,aB hv⟩;clear hown3 hb3 hvs;go_upto_region 4 with fail
 obtain ⟨SS,hSS⟩:∃SS:World->Prop,SS=fun v=>v.cell? ⟨B,1,none⟩=some (.slice TA t.length tc)/\v.cell? ⟨g3,1,none⟩=some (.string v0.lb):=⟨_,rfl⟩;have HS:Hid (∀v,Below w3.heap.size w3 v->SS v):=aB fun v hv=>by rw [hSS];exact ⟨(S0.out v hv).1,(S0.out v hv).2.1⟩
 apply share
 ·intro HT
  obtain ⟨wd,hwd⟩:∃wd,wd=w3.drew:=⟨_,rfl⟩;have bM:Hid (Below w3.heap.size w3 wd):=aB (by rw [hwd];exact (aI _ _).drew);have sd:=HS.out _ bM.out;refine aG (S:=SS) [11] (by kernel_rfl) (by rw [<-hwd];exact sd) (fun hHeld=>?_);rw [<-hwd] at hHeld ⊢;clear hwd;refine aM 0 [11] (some 16) rfl rfl ?_;refine aM 1 [11] (some 17) rfl rfl ?_;refine aM 2 [11] (some 18) rfl rfl ?_;refine aM 3 [11] (some 19) rfl rfl ?_;refine aM 4 [11] (some 20) rfl rfl ?_;refine aM 5 [11] (some 21) rfl rfl ?_;refine aM 7 [11] (some 23) rfl rfl ?_;refine pF 6 10 (by kernel_rfl) rfl rfl (by rfl) (by rfl) ?_ ?_
  ·skip
   refine qh (some 22) rfl (by go_simp) (HBt.out _ bM.out) ?_;rintro e w4 ⟨zi,zk,rfl,hown,hb⟩;have zl:=aB (ah bM.out hb);have Tc:=aB (ay.lower hown (bM.out.size));have hbx:=aB hb;clear hown hb;have aam:=HS.out _ zl.out;refine ⟨_,rfl,fun _=>aam,?_⟩;refine aA ?_;refine pF 8 10 (by kernel_rfl) rfl rfl (by rfl) (by rfl) ?_ ?_
   ·skip
    refine qh (some 24) rfl (by go_simp) (HBu.out _ zl.out) ?_;rintro e w5 ⟨zm,zn,rfl,hown,hb⟩;have Bc:=aB (ah zl.out hb);have Qq:=aB (ay.lower hown (zl.out.size));have Qr:=aB (ay.below Tc.out hb (aK _));have hbx:=aB hb;clear hown hb;have Qs:=HS.out _ Bc.out;refine ⟨_,rfl,fun _=>Qs,?_⟩;refine aA ?_;refine aM 9 [11] (some 25) rfl rfl ?_;refine aX 10 (some 6) (v:=.pointer (some ⟨w5.heap.size,0,none⟩)) (w':=w5.alloc (.cells #[.int .i64 0,.string ⟨#[]⟩,.string ⟨#[]⟩,.string ⟨#[]⟩,.int .i64 0,.int .i64 0,.slice none 0 0,.slice none 0 0] 33)) rfl rfl (by kernel_rfl) (by rfl) (by go_simp) (fun _=>HS.out _ (au Bc.out _)) ?_;obtain ⟨wz,hwz⟩:∃wz,wz=w5.alloc (.cells #[.int .i64 0,.string ⟨#[]⟩,.string ⟨#[]⟩,.string ⟨#[]⟩,.int .i64 0,.int .i64 0,.slice none 0 0,.slice none 0 0] 33):=⟨_,rfl⟩;have pG:Hid (Below w3.heap.size w3 wz):=aB (by rw [hwz];exact au Bc.out _);obtain ⟨Q,hQ⟩:∃Q,Q=w5.heap.size:=⟨_,rfl⟩;have nM:Hid (wz.heap[Q]?=some (.cells #[.int .i64 0,.string ⟨#[]⟩,.string ⟨#[]⟩,.string ⟨#[]⟩,.int .i64 0,.int .i64 0,.slice none 0 0,.slice none 0 0] 33 (0,0))/\Q<wz.heap.size/\w3.heap.size<=Q):=aB ⟨by rw [hwz,hQ];exact heap_alloc_new _ _,by rw [hwz,hQ];simp,by rw [hQ];exact Bc.out.size⟩;have Xg:=aB (show dF wz w3.heap.size zi zk (aC t) from (by rw [hwz];exact ay.alloc Qr.out _));have HUz:=aB (show dF wz w3.heap.size zm zn (aC u) from (by rw [hwz];exact ay.alloc Qq.out _));rw [<-hwz,<-hQ];clear hwz hQ;have Iq:=HS.out _ pG.out;refine aA ?_
    have g0:wz.cell? ⟨Q,0,none⟩=some (.int .i64 0):=by simp [DI,nM.out.1]
    have g1:wz.cell? ⟨Q,1,none⟩=some (.string ⟨#[]⟩):=by simp [DI,nM.out.1]
    have g2:wz.cell? ⟨Q,2,none⟩=some (.string ⟨#[]⟩):=by simp [DI,nM.out.1]
    have g3:wz.cell? ⟨Q,3,none⟩=some (.string ⟨#[]⟩):=by simp [DI,nM.out.1]
    have g4:wz.cell? ⟨Q,4,none⟩=some (.int .i64 0):=by simp [DI,nM.out.1]
    have g5:wz.cell? ⟨Q,5,none⟩=some (.int .i64 0):=by simp [DI,nM.out.1]
    have g6:wz.cell? ⟨Q,6,none⟩=some (.slice none 0 0):=by simp [DI,nM.out.1]
    have g7:wz.cell? ⟨Q,7,none⟩=some (.slice none 0 0):=by simp [DI,nM.out.1]
    have f0:wz.frozen? ⟨Q,0,none⟩=false:=by simp [Gb,nM.out.1]
    have f1:wz.frozen? ⟨Q,1,none⟩=false:=by simp [Gb,nM.out.1]
    have f2:wz.frozen? ⟨Q,2,none⟩=false:=by simp [Gb,nM.out.1]
    have f3:wz.frozen? ⟨Q,3,none⟩=false:=by simp [Gb,nM.out.1]
    have f4:wz.frozen? ⟨Q,4,none⟩=false:=by simp [Gb,nM.out.1]
    have f5:wz.frozen? ⟨Q,5,none⟩=false:=by simp [Gb,nM.out.1]
    have f6:wz.frozen? ⟨Q,6,none⟩=false:=by simp [Gb,nM.out.1]
    have f7:wz.frozen? ⟨Q,7,none⟩=false:=by simp [Gb,nM.out.1]
    refine jl 11 none (w':=?_) rfl rfl (by kernel_rfl) (by rfl) ?_ (zL (by kernel_rfl)) ?_
    rotate_left
    ·(go_simp;try with_reducible rfl)
    refine aA ?_;refine bB (by kernel_rfl) ?_ _;have HQ:=BN pG Xg HUz nM v0.lb;obtain ⟨w6,nS⟩:∃w6,w6=AZ wz Q v0.lb zi (aC t).length zk zm (aC u).length zn:=⟨_,rfl⟩;rw [<-nS] at HQ;unfold AZ at nS;rw [<-nS];clear nS g0 f0 g1 f1 g2 f2 g3 f3 g4 f4 g5 f5 g6 f6 g7 f7
    try clear Xg
    try clear HUz
    try clear Qr
    try clear Qq
    try clear Tc
    try clear uQ
    try clear nX
    try clear nM
    revert HQ;revert w6 Q zi zk zm zn;exact HT.out
   ·skip
    refine fC (some 6) (v:=.pointer (some ⟨w4.heap.size,0,none⟩)) (w':=w4.alloc (.cells #[.int .i64 0,.string ⟨#[]⟩,.string ⟨#[]⟩,.string ⟨#[]⟩,.int .i64 0,.int .i64 0,.slice none 0 0,.slice none 0 0] 33)) rfl (by go_simp) ?_;obtain ⟨wz,hwz⟩:∃wz,wz=w4.alloc (.cells #[.int .i64 0,.string ⟨#[]⟩,.string ⟨#[]⟩,.string ⟨#[]⟩,.int .i64 0,.int .i64 0,.slice none 0 0,.slice none 0 0] 33):=⟨_,rfl⟩;have pG:Hid (Below w3.heap.size w3 wz):=aB (by rw [hwz];exact au zl.out _);obtain ⟨Q,hQ⟩:∃Q,Q=w4.heap.size:=⟨_,rfl⟩;have nM:Hid (wz.heap[Q]?=some (.cells #[.int .i64 0,.string ⟨#[]⟩,.string ⟨#[]⟩,.string ⟨#[]⟩,.int .i64 0,.int .i64 0,.slice none 0 0,.slice none 0 0] 33 (0,0))/\Q<wz.heap.size/\w3.heap.size<=Q):=aB ⟨by rw [hwz,hQ];exact heap_alloc_new _ _,by rw [hwz,hQ];simp,by rw [hQ];exact zl.out.size⟩;have Xg:=aB (show dF wz w3.heap.size zi zk (aC t) from (by rw [hwz];exact ay.alloc Tc.out _));rw [<-hwz,<-hQ];clear hwz hQ;have Iq:=HS.out _ pG.out;refine ⟨fun _=>Iq,?_⟩;refine aA ?_;refine aY 8 (some 24) rfl rfl (by kernel_rfl) (by rfl) (by go_simp) (HBu.out _ pG.out) ?_;rintro e w5 ⟨zm,zn,rfl,hown,hb⟩;have Bc:=aB (ah pG.out hb);have Qq:=aB (ay.lower hown (pG.out.size));have Qr:=aB (ay.below Xg.out hb (aK _));have hbx:=aB hb;clear hown hb;have Qs:=HS.out _ Bc.out;refine ⟨_,rfl,Qs,?_⟩;refine aA ?_;have nX:=aB (S_ nM.out hbx.out);refine aM 9 [11] (some 25) rfl rfl ?_;have g0:w5.cell? ⟨Q,0,none⟩=some (.int .i64 0):=by simp [DI,nX.out.1]
    have g1:w5.cell? ⟨Q,1,none⟩=some (.string ⟨#[]⟩):=by simp [DI,nX.out.1]
    have g2:w5.cell? ⟨Q,2,none⟩=some (.string ⟨#[]⟩):=by simp [DI,nX.out.1]
    have g3:w5.cell? ⟨Q,3,none⟩=some (.string ⟨#[]⟩):=by simp [DI,nX.out.1]
    have g4:w5.cell? ⟨Q,4,none⟩=some (.int .i64 0):=by simp [DI,nX.out.1]
    have g5:w5.cell? ⟨Q,5,none⟩=some (.int .i64 0):=by simp [DI,nX.out.1]
    have g6:w5.cell? ⟨Q,6,none⟩=some (.slice none 0 0):=by simp [DI,nX.out.1]
    have g7:w5.cell? ⟨Q,7,none⟩=some (.slice none 0 0):=by simp [DI,nX.out.1]
    have f0:w5.frozen? ⟨Q,0,none⟩=false:=by simp [Gb,nX.out.1]
    have f1:w5.frozen? ⟨Q,1,none⟩=false:=by simp [Gb,nX.out.1]
    have f2:w5.frozen? ⟨Q,2,none⟩=false:=by simp [Gb,nX.out.1]
    have f3:w5.frozen? ⟨Q,3,none⟩=false:=by simp [Gb,nX.out.1]
    have f4:w5.frozen? ⟨Q,4,none⟩=false:=by simp [Gb,nX.out.1]
    have f5:w5.frozen? ⟨Q,5,none⟩=false:=by simp [Gb,nX.out.1]
    have f6:w5.frozen? ⟨Q,6,none⟩=false:=by simp [Gb,nX.out.1]
    have f7:w5.frozen? ⟨Q,7,none⟩=false:=by simp [Gb,nX.out.1]
    refine jl 11 none (w':=?_) rfl rfl (by kernel_rfl) (by rfl) ?_ (zL (by kernel_rfl)) ?_
    rotate_left
    ·(go_simp;try with_reducible rfl)
    refine aA ?_;refine bB (by kernel_rfl) ?_ _;have HQ:=BN Bc Qr Qq nX v0.lb;obtain ⟨w6,nS⟩:∃w6,w6=AZ w5 Q v0.lb zi (aC t).length zk zm (aC u).length zn:=⟨_,rfl⟩;rw [<-nS] at HQ;unfold AZ at nS;rw [<-nS];clear nS g0 f0 g1 f1 g2 f2 g3 f3 g4 f4 g5 f5 g6 f6 g7 f7
    try clear Xg
    try clear HUz
    try clear Qr
    try clear Qq
    try clear Tc
    try clear uQ
    try clear nX
    try clear nM
    exact HT.out zi zk zm zn Q w6 HQ
  ·skip
   refine fC (some 6) (v:=.pointer (some ⟨wd.heap.size,0,none⟩)) (w':=wd.alloc (.cells #[.int .i64 0,.string ⟨#[]⟩,.string ⟨#[]⟩,.string ⟨#[]⟩,.int .i64 0,.int .i64 0,.slice none 0 0,.slice none 0 0] 33)) rfl (by go_simp) ?_;obtain ⟨wz,hwz⟩:∃wz,wz=wd.alloc (.cells #[.int .i64 0,.string ⟨#[]⟩,.string ⟨#[]⟩,.string ⟨#[]⟩,.int .i64 0,.int .i64 0,.slice none 0 0,.slice none 0 0] 33):=⟨_,rfl⟩;have pG:Hid (Below w3.heap.size w3 wz):=aB (by rw [hwz];exact au bM.out _);obtain ⟨Q,hQ⟩:∃Q,Q=wd.heap.size:=⟨_,rfl⟩;have nM:Hid (wz.heap[Q]?=some (.cells #[.int .i64 0,.string ⟨#[]⟩,.string ⟨#[]⟩,.string ⟨#[]⟩,.int .i64 0,.int .i64 0,.slice none 0 0,.slice none 0 0] 33 (0,0))/\Q<wz.heap.size/\w3.heap.size<=Q):=aB ⟨by rw [hwz,hQ];exact heap_alloc_new _ _,by rw [hwz,hQ];simp,by rw [hQ];exact bM.out.size⟩;rw [<-hwz,<-hQ];clear hwz hQ;have Iq:=HS.out _ pG.out;refine ⟨fun _=>Iq,?_⟩;refine aA ?_;refine aY 6 (some 22) rfl rfl (by kernel_rfl) (by rfl) (by go_simp) (HBt.out _ pG.out) ?_;rintro e w4 ⟨zi,zk,rfl,hown,hb⟩;have zl:=aB (ah pG.out hb);have Tc:=aB (ay.lower hown (pG.out.size));have hbx:=aB hb;clear hown hb;have aam:=HS.out _ zl.out;refine ⟨_,rfl,aam,?_⟩;refine aA ?_;have nX:=aB (S_ nM.out hbx.out);refine aY 8 (some 24) rfl rfl (by kernel_rfl) (by rfl) (by go_simp) (HBu.out _ zl.out) ?_;rintro e w5 ⟨zm,zn,rfl,hown,hb⟩;have Bc:=aB (ah zl.out hb);have Qq:=aB (ay.lower hown (zl.out.size));have Qr:=aB (ay.below Tc.out hb (aK _));have hbx:=aB hb;clear hown hb;have Qs:=HS.out _ Bc.out
   refine ⟨_,rfl,Qs,?_⟩;refine aA ?_;have uQ:=aB (S_ nX.out hbx.out);refine aM 9 [11] (some 25) rfl rfl ?_;have g0:w5.cell? ⟨Q,0,none⟩=some (.int .i64 0):=by simp [DI,uQ.out.1]
   have g1:w5.cell? ⟨Q,1,none⟩=some (.string ⟨#[]⟩):=by simp [DI,uQ.out.1]
   have g2:w5.cell? ⟨Q,2,none⟩=some (.string ⟨#[]⟩):=by simp [DI,uQ.out.1]
   have g3:w5.cell? ⟨Q,3,none⟩=some (.string ⟨#[]⟩):=by simp [DI,uQ.out.1]
   have g4:w5.cell? ⟨Q,4,none⟩=some (.int .i64 0):=by simp [DI,uQ.out.1]
   have g5:w5.cell? ⟨Q,5,none⟩=some (.int .i64 0):=by simp [DI,uQ.out.1]
   have g6:w5.cell? ⟨Q,6,none⟩=some (.slice none 0 0):=by simp [DI,uQ.out.1]
   have g7:w5.cell? ⟨Q,7,none⟩=some (.slice none 0 0):=by simp [DI,uQ.out.1]
   have f0:w5.frozen? ⟨Q,0,none⟩=false:=by simp [Gb,uQ.out.1]
   have f1:w5.frozen? ⟨Q,1,none⟩=false:=by simp [Gb,uQ.out.1]
   have f2:w5.frozen? ⟨Q,2,none⟩=false:=by simp [Gb,uQ.out.1]
   have f3:w5.frozen? ⟨Q,3,none⟩=false:=by simp [Gb,uQ.out.1]
   have f4:w5.frozen? ⟨Q,4,none⟩=false:=by simp [Gb,uQ.out.1]
   have f5:w5.frozen? ⟨Q,5,none⟩=false:=by simp [Gb,uQ.out.1]
   have f6:w5.frozen? ⟨Q,6,none⟩=false:=by simp [Gb,uQ.out.1]
   have f7:w5.frozen? ⟨Q,7,none⟩=false:=by simp [Gb,uQ.out.1]
   refine jl 11 none (w':=?_) rfl rfl (by kernel_rfl) (by rfl) ?_ (zL (by kernel_rfl)) ?_
   rotate_left
   ·(go_simp;try with_reducible rfl)
   refine aA ?_;refine bB (by kernel_rfl) ?_ _;have HQ:=BN Bc Qr Qq uQ v0.lb;obtain ⟨w6,nS⟩:∃w6,w6=AZ w5 Q v0.lb zi (aC t).length zk zm (aC u).length zn:=⟨_,rfl⟩;rw [<-nS] at HQ;unfold AZ at nS;rw [<-nS];clear nS g0 f0 g1 f1 g2 f2 g3 f3 g4 f4 g5 f5 g6 f6 g7 f7
   try clear Xg
   try clear HUz
   try clear Qr
   try clear Qq
   try clear Tc
   try clear uQ
   try clear nX
   try clear nM
   exact HT.out zi zk zm zn Q w6 HQ
 case t=>
  intro zi zk zm zn Q w6 HQ;have BO:=aB (ah HB3.out HQ.out.b);have HO6:=aB (ay.below PG.out HQ.out.b (aK _));have alp:Hid (fq w6 w2.heap.size (some ⟨g3,0,none⟩) c3 (v0::vt)):=aB (by have:=HO6.out;rwa [Qp.out] at this);obtain ⟨f1,f2,f3⟩:=ay.aak alp.out ⟨#[]⟩;have F3:=aB f3;clear f3;go_upto_region 6 with fail
  obtain ⟨w7,hw7⟩:∃w7,w7=w6.setCell ⟨g3,1,none⟩ (.string ⟨#[]⟩):=⟨_,rfl⟩;rw [<-hw7] at F3 ⊢;have BI:Fr (fun q=>q=g3) w6 w7:=by rw [hw7];exact dZ _ _ _ _
  have HQ7:Hid (w7.heap[Q]?=some (.cells #[.int .i64 14,.string v0.lb,.string ⟨#[]⟩,.string ⟨#[]⟩,.int .i64 0,.int .i64 0,.slice zi (aC t).length zk,.slice zm (aC u).length zn] 33 (0,0))):=aB ((BI.block Q (aai.1 HQ.out.q).1 (by have:=HQ.out.z;omega)).trans HQ.out.q);have HT7:Hid (dF w7 w3.heap.size zi zk (aC t)/\dF w7 w3.heap.size zm zn (aC u)):=aB ⟨ay.fr HQ.out.T BI fun a ha e=>by have:=(ay.lt HQ.out.T a ha).1;omega,ay.fr HQ.out.U BI fun a ha e=>by have:=(ay.lt HQ.out.U a ha).1;omega⟩;have gI:Hid (Below w.heap.size w w7):=aB (Fr.toBelow (Fr.new (Fr.below BO.out:Fr (fun _=>False) w w6) BI fun b e=>.inr (by rw [e];exact Nat.le_trans HB2.out.size hg3)) fun k e=>e.elim);have alr:Hid (Below w2.heap.size w2 w7):=aB (Fr.toBelow (Fr.new (Fr.below (ah aln.out HQ.out.b):Fr (fun _=>False) w2 w6) BI fun b e=>.inr (by rw [e];exact hg3)) fun k e=>e.elim)
  obtain ⟨q0,q1,q2,q3,q4,q5,q6,q7⟩:w7.cell? ⟨Q,0,none⟩=some (.int .i64 14)/\w7.cell? ⟨Q,1,none⟩=some (.string v0.lb)/\w7.cell? ⟨Q,2,none⟩=some (.string ⟨#[]⟩)/\w7.cell? ⟨Q,3,none⟩=some (.string ⟨#[]⟩)/\w7.cell? ⟨Q,4,none⟩=some (.int .i64 0)/\w7.cell? ⟨Q,5,none⟩=some (.int .i64 0)/\w7.cell? ⟨Q,6,none⟩=some (.slice zi (aC t).length zk)/\w7.cell? ⟨Q,7,none⟩=some (.slice zm (aC u).length zn):=by
   refine ⟨?_,?_,?_,?_,?_,?_,?_,?_⟩<;>simp [DI,HQ7.out]
  obtain ⟨w8,hw8⟩:∃w8,w8=w7.alloc (.cells #[.int .i64 14,.string v0.lb,.string ⟨#[]⟩,.string ⟨#[]⟩,.int .i64 0,.int .i64 0,.slice zi (aC t).length zk,.slice zm (aC u).length zn] 33):=⟨_,rfl⟩;obtain ⟨w9,Av⟩:∃w9,w9=w8.alloc (.cells #[.slice (some ⟨w7.heap.size,0,none⟩) 1 1,.slice (some ⟨g3,0,none⟩) es.length c3] 24):=⟨_,rfl⟩;have Nh:w8.heap.size=w7.heap.size+1:=by rw [hw8];exact FT _ _
  have hz9:w9.heap.size=w8.heap.size+1:=by rw [Av];exact FT _ _
  have Qt:Hid (Below w7.heap.size w7 w9):=aB (by rw [Av,hw8];exact au (au (aI _ _) _) _)
  have HCt:Hid (Calls Tryz.prog 83 #[.slice (some ⟨w8.heap.size,0,none⟩) 2 2] w9 fun e w'=>∃A' cap',e= .returned (.slice A' (toM es t u).length cap')/\fq w' w9.heap.size A' cap' (⟨14,v0.lb,⟨#[]⟩,⟨#[]⟩,0,0,zi,(aC t).length,zk,zm,(aC u).length,zn⟩::{v0 with lb:=⟨#[]⟩}::vt)/\Below w9.heap.size w9 w'):=aB (by
   have hve:(v0::vt).length=es.length:=by rw [<-Qp.out];exact HV.out.1.1
   have hn9:(toM es t u).length=es.length+1:=by rw [HT.out];cases es<;>simp [bQ]
   refine (C8 (some ⟨w8.heap.size,0,none⟩) 2 [(some ⟨w7.heap.size,0,none⟩,1,1),(some ⟨g3,0,none⟩,es.length,c3)] [[⟨14,v0.lb,⟨#[]⟩,⟨#[]⟩,0,0,zi,(aC t).length,zk,zm,(aC u).length,zn⟩],{v0 with lb:=⟨#[]⟩}::vt] w9 ?_ ?_ (by simp) (by simp at hve ⊢;omega)).mono ?_
   ·rw [Av,FT]
    exact Qo w8 _ _
   ·refine ⟨rfl,fun i v xs hv hx=>?_⟩
    match i,hv,hx with
    |0,hv,hx=>
     simp at hv hx;subst hv hx;refine ⟨rfl,?_⟩;rw [hz9,Nh,Av];refine (aS.below (B:=w7.heap.size+1) ?_ (Below.alloc (aI _ _) (by omega) _)).more (by omega);rw [hw8]
     exact SV w7 ⟨14,v0.lb,⟨#[]⟩,⟨#[]⟩,0,0,zi,(aC t).length,zk,zm,(aC u).length,zn⟩
    |1,hv,hx=>
     simp at hv hx;subst hv hx;refine ⟨by simpa using hve.symm,?_⟩
     exact (aS.below (ay.read fH F3.out) Qt.out).more Qt.out.size
    |i+2,hv,_=>simp at hv
   ·rintro e w' ⟨A',c',rfl,h1,h2⟩
    refine ⟨A',c',?_,by simpa using h1,h2⟩;rw [hn9];simp at hve ⊢;omega)
  have Hw9:=aB Av;clear hw7 BI f1 f2 hz9;go_wp2_with fail;rw [<-hw8,<-Nh,<-Av];clear hw8 Av Nh q0 q1 q2 q3 q4 q5 q6 q7;refine HCt.out.mono ?_;rintro e cK ⟨CX,c10,rfl,Ni,zo⟩
  have HR:Hid (aaj Y (toM es t u) w (.returned (.slice CX (toM es t u).length c10)) cK):=aB (by
   have ad_:Below w2.heap.size w2 cK:=ah alr.out (ah Qt.out zo);have aea:Below w7.heap.size w7 cK:=ah Qt.out zo;have hba:Below w.heap.size w cK:=ah HB2.out ad_;refine ⟨hba,CX,c10,rfl,_,vN.own Ni (fun q hq=>by have:=MV.out.2.2.2 q hq;have:=gI.out.size;have:=Qt.out.size;omega),?_,?_⟩
   ·rw [HT.out]
    have hpm:dz cK Y (v0::vt) es:=by rw [<-Qp.out];exact HV.out.1.fr (Fr.below ad_:Fr Y w2 cK) fun q hq=>.inl hq
    have hY3:∀q,Y q->q<w3.heap.size:=fun q hq=>by have:=MV.out.2.2.2 q hq;have:=HB3.out.size;omega
    cases es with
    |nil=>exact absurd rfl MV.out.1
    |cons y0 ps=>
     have k0:=hpm.2 0 v0 y0 rfl rfl;refine dz.cons ⟨rfl,k0.lb,rfl,rfl,rfl,rfl,rfl,rfl,aF.own (ay.below HT7.out.1 aea (aK _)) hY3,aF.own (ay.below HT7.out.2 aea (aK _)) hY3⟩ (dz.cons ⟨k0.k,rfl,k0.nm,k0.bd,k0.mn,k0.num,k0.tn,k0.un,k0.T,k0.U⟩ ⟨by have:=hpm.1;simpa using this,fun i v p hv hp=>hpm.2 (i+1) v p hv hp⟩)
   ·have hl1:=ay.l5 Ni
    have hve:(v0::vt).length=es.length:=by rw [<-Qp.out];exact HV.out.1.1
    have hn9:(toM es t u).length=es.length+1:=by rw [HT.out];cases es<;>simp [bQ]
    simp at hl1 hve;omega)
  clear Ni zo;go_wp2_with fail;go_ret;exact HR.out
structure sD (P:Nat) (es:List Pt) (env:Env) (a:Nat) (EA:Option Addr) (ec:Nat) (VA:Option Addr) (vc:Nat) (bs:List Bn) (Y:Nat->Prop) (w:World):Prop where
 blk:w.heap[P]?=some (.cells #[.slice EA es.length ec,.int .i64 (a:Int),.slice VA bs.length vc] 85 (0,0))
 own:CK w 0 VA vc bs
 ex:kF w Y EA es
 eo:∀a,EA=some a->CJ Y a.block
 en:dY w Y bs env
 y:∀q,Y q↔(q=P\/∃a,VA=some a/\a.block=q)
 np:∀a,VA=some a->a.block≠P
 el:es.length<=1000000
 vl:env.length<=1000000
def iV (P:Nat) (es:List Pt) (env:Env) (a:Nat) (Y:Nat->Prop) (w:World):Prop:=∃EA ec VA vc bs,sD P es env a EA ec VA vc bs Y w
abbrev eF:=List Pt×List Nd×Nat
abbrev kW:=Env->Nat->Option eF
def bU (P:Nat) (es:List Pt) (env:Env) (Y:Nat->Prop) (r:eF) (w:World) (e:Ending) (w':World):Prop:=
 ∃Y',Fr Y w w'/\aj Y Y' w/\iV P es env r.2.2 Y' w'/\∃A c TA tc,e= .returned (.agg #[.slice A r.1.length c,.slice TA r.2.1.length tc])/\bN w' Y' A c r.1/\aF w' Y' TA tc r.2.1/\∀a,A=some a->w.heap.size<=a.block
def lJ (P:Nat) (es:List Pt) (nx:kW):Prop:=∀env a r Y w,nx env a=some r->iV P es env a Y w->Calls Tryz.prog 53 #[pk P] w (bU P es env Y r w)
section
variable {P a:Nat} {es:List Pt} {env:Env} {EA VA:Option Addr} {ec vc:Nat} {bs:List Bn} {Y Y':Nat->Prop} {w w':World}
theorem sD.lt (h:sD P es env a EA ec VA vc bs Y w):∀q,Y q->q<w.heap.size:=fun q hq=>by
 rcases (h.y q).1 hq with rfl|⟨b,hb,rfl⟩
 ·exact (aai.1 h.blk).1
 ·exact (ay.lt h.own b hb).2
theorem iV.yP (h:iV P es env a Y w):Y P:=by
 obtain ⟨EA,ec,VA,vc,bs,h⟩:=h;exact (h.y P).2 (.inl rfl)
theorem iV.lt (h:iV P es env a Y w):∀q,Y q->q<w.heap.size:=by
 obtain ⟨EA,ec,VA,vc,bs,h⟩:=h;exact h.lt
theorem sD.later (h:sD P es env a EA ec VA vc bs Y w) (hb:Below w.heap.size w w'):sD P es env a EA ec VA vc bs Y w':=by
 have hf:Fr Y w w':=Fr.below hb;have hP:=h.lt P ((h.y P).2 (.inl rfl));exact ⟨(hb.block P hP).trans h.blk,h.own.below hb (aK _),h.ex.fr hf fun q hq=>.inl hq,h.eo,h.en.fr hf fun q hq=>.inl hq,h.y,h.np,h.el,h.vl⟩
theorem iV.later (h:iV P es env a Y w) (hb:Below w.heap.size w w'):iV P es env a Y w':=by
 obtain ⟨EA,ec,VA,vc,bs,h⟩:=h;exact ⟨EA,ec,VA,vc,bs,h.later hb⟩
theorem sD.cells (h:sD P es env a EA ec VA vc bs Y w):w.cell? ⟨P,0,none⟩=some (.slice EA es.length ec)/\w.cell? ⟨P,1,none⟩=some (.int .i64 (a:Int))/\w.cell? ⟨P,2,none⟩=some (.slice VA bs.length vc):=
 ⟨by simp [DI,h.blk],by simp [DI,h.blk],by simp [DI,h.blk]⟩
theorem sD.frozen (h:sD P es env a EA ec VA vc bs Y w):∀i,i<3->w.frozen? ⟨P,i,none⟩=false:=fun i hi=>by
 have:i=0\/i=1\/i=2:=by omega
 rcases this with rfl|rfl|rfl<;>simp [Gb,h.blk]
theorem sD.bW {U:TypeId} (h:sD P es env a EA ec VA vc bs Y w) (k:iF w w' U Y) (h1:U≠49) (h2:U≠33) (h3:U≠36) (h4:U≠85):sD P es env a EA ec VA vc bs Y w':=by
 have hP:=h.lt P ((h.y P).2 (.inl rfl));refine ⟨(k.block P hP fun h5=>iQ.ne h5.1 ⟨_,_,h.blk⟩ h4 rfl).trans h.blk,ay.fr h.own k.fr (fun a ha h5=>iQ.ne h5.1 (ay.rO h.own ha) h3 rfl),?_,h.eo,⟨h.en.1,fun i b e hb he=>⟨(h.en.2 i b e hb he).1,(h.en.2 i b e hb he).2.1,(h.en.2 i b e hb he).2.2.bW k h1⟩⟩,h.y,h.np,h.el,h.vl⟩;intro i p hp;obtain ⟨b,o,e,hb,hy,hr,ho⟩:=h.ex i p hp;have hbk:=k.block b hb fun h5=>ho.elim (fun ho=>iQ.ne h5.1 ho h2 rfl) h5.2;refine ⟨b,o,e,Yy hb k.size,hy,?_,ho.imp (lG hbk) fun h=>h⟩;obtain ⟨TA,tc,UA,uc,f1,f2,f3⟩:=hr;refine ⟨TA,tc,UA,uc,f1.bW k h1,f2.bW k h1,?_⟩;simp only [DI,hbk] at f3 ⊢;exact f3
theorem iV.bW {U:TypeId} (h:iV P es env a Y w) (k:iF w w' U Y) (h1:U≠49) (h2:U≠33) (h3:U≠36) (h4:U≠85):iV P es env a Y w':=by
 obtain ⟨EA,ec,VA,vc,bs,h⟩:=h;exact ⟨EA,ec,VA,vc,bs,h.bW k h1 h2 h3 h4⟩
theorem AY.bW {U:TypeId} {v:PV} {p:Pt} (h:AY w Y v p) (k:iF w w' U Y) (h1:U≠49):AY w' Y v p:=
 ⟨h.k,h.lb,h.nm,h.bd,h.mn,h.num,h.tn,h.un,h.T.bW k h1,h.U.bW k h1⟩
theorem bN.bW {U:TypeId} {A:Option Addr} {c:Nat} {xs:List Pt} (h:bN w Y A c xs) (k:iF w w' U Y) (h1:U≠49) (h2:U≠33):bN w' Y A c xs:=by
 obtain ⟨vs,h3,h4,h5⟩:=h;refine ⟨vs,fun hne=>?_,⟨h4.1,fun i v p hv hp=>(h4.2 i v p hv hp).bW k h1⟩,h5⟩;obtain ⟨b,o,hA,hb,hy,ho,hc⟩:=h3 hne;have hbk:=k.block b hb fun h6=>iQ.ne h6.1 ho h2 rfl;refine ⟨b,o,hA,Yy hb k.size,hy,lG hbk ho,fun i v hv j u hu=>?_⟩;have:=hc i v hv j u hu;simp only [DI,hbk] at this ⊢;exact this
theorem sD.fu (h:sD P es env a EA ec VA vc bs Y w) (k:iF w w' 33 Y):sD P es env a EA ec VA vc bs Y w':=by
 have hP:=h.lt P ((h.y P).2 (.inl rfl));refine ⟨(k.block P hP fun h5=>iQ.ne h5.1 ⟨_,_,h.blk⟩ (by decide) rfl).trans h.blk,ay.fr h.own k.fr (fun a ha h5=>iQ.ne h5.1 (ay.rO h.own ha) (by decide) rfl),?_,h.eo,⟨h.en.1,fun i b e hb he=>⟨(h.en.2 i b e hb he).1,(h.en.2 i b e hb he).2.1,(h.en.2 i b e hb he).2.2.bW k (by decide)⟩⟩,h.y,h.np,h.el,h.vl⟩;intro i p hp;obtain ⟨b,o,e,hb,hy,hr,ho⟩:=h.ex i p hp;have hbk:=k.block b hb fun h5=>h5.2 (h.eo _ e);refine ⟨b,o,e,Yy hb k.size,hy,?_,ho.imp (lG hbk) fun h=>h⟩;obtain ⟨TA,tc,UA,uc,f1,f2,f3⟩:=hr;refine ⟨TA,tc,UA,uc,f1.bW k (by decide),f2.bW k (by decide),?_⟩;simp only [DI,hbk] at f3 ⊢;exact f3
theorem iV.fu (h:iV P es env a Y w) (k:iF w w' 33 Y):iV P es env a Y w':=by
 obtain ⟨EA,ec,VA,vc,bs,h⟩:=h;exact ⟨EA,ec,VA,vc,bs,h.fu k⟩
theorem dz.bW {U:TypeId} {vs:List PV} {xs:List Pt} (h:dz w Y vs xs) (k:iF w w' U Y) (h1:U≠49):dz w' Y vs xs:=⟨h.1,fun i v p hv hp=>(h.2 i v p hv hp).bW k h1⟩
theorem sD.put (h:sD P es env a EA ec VA vc bs Y w) (a2:Nat):
  sD P es env a2 EA ec VA vc bs Y (w.setCell ⟨P,1,none⟩ (.int .i64 (a2:Int)))/\Fr Y w (w.setCell ⟨P,1,none⟩ (.int .i64 (a2:Int))):=by
 have hf:=dZ w P 1 (.int .i64 (a2:Int));have hf2:Fr Y w (w.setCell ⟨P,1,none⟩ (.int .i64 (a2:Int))):=hf.mono fun q hq=>(h.y q).2 (.inl hq);exact ⟨⟨by rw [heap_set h.blk 1];rfl,ay.fr h.own hf h.np,h.ex.fr hf2 fun q hq=>.inl hq,h.eo,h.en.fr hf2 fun q hq=>.inl hq,h.y,h.np,h.el,h.vl⟩,hf2⟩
theorem sD.app {e2:Env} {A5:Option Addr} {c5:Nat} {ls:List Bn} {w5:World} (h:sD P es env a EA ec VA vc bs Y w) (hown:CK w5 0 A5 c5 (bs++ls)) (hg:w.grownBy w5 ((gq VA bs.length vc).ownBlock))
  (hA:(gq A5 (bs.length+ls.length) c5).ownBlock=(gq VA bs.length vc).ownBlock\/(gq A5 (bs.length+ls.length) c5).ownBlock=some w.heap.size) (k:dY w Y ls e2) (hv:env.length+e2.length<=1000000):
  sD P es (env++e2) a EA ec A5 c5 (bs++ls) (YW P A5) (w5.setCell ⟨P,2,none⟩ (.slice A5 (bs.length+ls.length) c5))/\Fr Y w (w5.setCell ⟨P,2,none⟩ (.slice A5 (bs.length+ls.length) c5))/\aj Y (YW P A5) w/\
   w5.cell? ⟨P,2,none⟩=some (.slice VA bs.length vc)/\w5.frozen? ⟨P,2,none⟩=false:=by
 have hP:=h.lt P ((h.y P).2 (.inl rfl))
 have hb:w5.heap[P]?=w.heap[P]?:=hg.block P hP fun e=>by
  obtain ⟨b,hb,e2⟩:=bL e.symm;exact h.np b hb e2
 have hblk:=hb.trans h.blk
 have hne:∀b,A5=some b->b.block≠P:=by
  rintro b rfl;simp only [gQ] at hA;rcases hA with e|e
  ·obtain ⟨a2,rfl,e2⟩:=bL e.symm
   rw [<-e2];exact h.np a2 rfl
  ·injection e with e
   omega
 have hyn:aj Y (YW P A5) w:=by
  rintro q (rfl|⟨b,rfl,rfl⟩)
  ·exact .inl ((h.y _).2 (.inl rfl))
  ·simp only [gQ] at hA
   rcases hA with e|e
   ·obtain ⟨a2,rfl,e2⟩:=bL e.symm
    exact .inl ((h.y _).2 (.inr ⟨a2,rfl,e2⟩))
   ·injection e with e
    exact .inr (by omega)
 have hf:Fr Y w (w5.setCell ⟨P,2,none⟩ (.slice A5 (bs.length+ls.length) c5)):=by
  refine Fr.setCell (Fr.grown hg fun q e=>?_) (.inl ((h.y _).2 (.inl rfl))) _;obtain ⟨b,hb,e2⟩:=bL e;exact (h.y q).2 (.inr ⟨b,hb,e2⟩)
 refine ⟨⟨?_,?_,h.ex.fr hf hyn,fun a ha q hq=>?_,dY.app (h.en.fr hf hyn) (k.fr hf hyn),fun q=>Iff.rfl,hne,h.el,by rw [lS];exact hv⟩,hf,hyn,by simp [DI,hblk],by simp [Gb,hblk]⟩
 ·rw [heap_set hblk 2,lS]
  rfl
 ·exact ay.fr hown (dZ w5 P 2 _) hne
 ·rcases hyn q hq with h5|h5
  ·exact h.eo a ha q h5
  ·have:=h.eo a ha P ((h.y P).2 (.inl rfl))
   omega
theorem sD.cut {e2:Env} {n:Nat} (h:sD P es (env++e2) a EA ec VA vc bs Y w) (hn:n=env.length):
  sD P es env a EA ec VA vc (bs.take n) Y (w.setCell ⟨P,2,none⟩ (.slice VA n vc))/\Fr Y w (w.setCell ⟨P,2,none⟩ (.slice VA n vc))/\n<=bs.length/\n<=vc:=by
 subst hn;have hl:bs.length=env.length+e2.length:=by rw [h.en.1,lS]
 have hlt:(bs.take env.length).length=env.length:=by rw [List.length_take,hl];omega
 have hf2:Fr Y w (w.setCell ⟨P,2,none⟩ (.slice VA env.length vc)):=(dZ w P 2 _).mono fun q hq=>(h.y q).2 (.inl hq);refine ⟨⟨?_,?_,h.ex.fr hf2 fun q hq=>.inl hq,h.eo,dY.take (h.en.fr hf2 fun q hq=>.inl hq),h.y,h.np,h.el,?_⟩,hf2,by omega,?_⟩
 ·rw [heap_set h.blk 2,hlt]
  rfl
 ·exact ay.fr (ay.cut tu h.own (by omega)) (dZ w P 2 _) h.np
 ·have:=h.vl
  rw [lS] at this;omega
 ·have:=ay.l5 h.own
  omega
structure aQ (w:World) (Y:Nat->Prop) (b:Nat) (cs:Array Value) (T:TypeId):Prop where
 blk:w.heap[b]?=some (.cells cs T (0,0))
 ny:¬Y b
theorem aQ.lt {b:Nat} {cs:Array Value} {T:TypeId} (h:aQ w Y b cs T):b<w.heap.size:=(aai.1 h.blk).1
theorem aQ.fr {b:Nat} {cs:Array Value} {T:TypeId} (h:aQ w Y b cs T) (hf:Fr Y w w') (hY:aj Y Y' w):aQ w' Y' b cs T:=
 ⟨(hf.block b h.lt h.ny).trans h.blk,fun h2=>by
  rcases hY b h2 with h3|h3
  ·exact h.ny h3
  ·have:=h.lt
   omega⟩
theorem aQ.new (hlt:∀q,Y q->q<w.heap.size) (cs:Array Value) (T:TypeId):aQ (w.alloc (.cells cs T)) Y w.heap.size cs T:=
 ⟨heap_alloc_new _ _,fun h=>by have:=hlt _ h;omega⟩
theorem aQ.below {b:Nat} {cs:Array Value} {T:TypeId} (h:aQ w Y b cs T) (hb:Below w.heap.size w w'):aQ w' Y b cs T:=h.fr (Fr.below hb) (aj.refl _ _)
def set2 (w:World) (R:Nat) (x y:Value):World:=(w.setCell ⟨R,0,none⟩ x).setCell ⟨R,1,none⟩ y
theorem aQ.alv {R:Nat} {x0 y0:Value} {T:TypeId} (h:aQ w Y R #[x0,y0] T) (hP:Y P) (hR:P<R) (x y:Value):
  iF w (set2 w R x y) T Y/\Fr (fun q=>q=R) w (set2 w R x y)/\(set2 w R x y).heap[R]?=some (.cells #[x,y] T (0,0)):=by
 have hf:Fr (fun q=>q=R) w (set2 w R x y):=(dZ _ _ _ _).trans (dZ _ _ _ _);refine ⟨⟨hf.os,hf.tape,hf.output,hf.size,fun k hk ho=>hf.block k hk fun e=>ho ⟨?_,fun h5=>?_⟩⟩,hf,?_⟩
 ·rw [e]
  exact ⟨_,_,h.blk⟩
 ·have:=h5 P hP
  omega
 ·unfold set2
  rw [heap_set (heap_set h.blk 0 _) 1];rfl
end
theorem Ga {P R:Nat} {es:List Pt} {env:Env} {Y Y1:Nat->Prop} {w w1:World} {r:eF} {A TA:Option Addr} {c tc:Nat} {x0 y0:Value} (hf:Fr Y w w1) (hy:aj Y Y1 w) (hk:iV P es env r.2.2 Y1 w1) (hR:aQ w1 Y1 R #[x0,y0] 65) (hPR:P<R) (hRw:w.heap.size<=R)
  (hx:bN w1 Y1 A c r.1) (ht:aF w1 Y1 TA tc r.2.1) (hA:∀a,A=some a->w.heap.size<=a.block):
  bU P es env Y r w (.returned (.agg #[.slice A r.1.length c,.slice TA r.2.1.length tc])) (set2 w1 R (.slice A r.1.length c) (.slice TA r.2.1.length tc))/\
   (set2 w1 R (.slice A r.1.length c) (.slice TA r.2.1.length tc)).cell? ⟨R,0,none⟩=some (.slice A r.1.length c)/\(set2 w1 R (.slice A r.1.length c) (.slice TA r.2.1.length tc)).cell? ⟨R,1,none⟩=some (.slice TA r.2.1.length tc):=by
 obtain ⟨ho,hf2,hb⟩:=hR.alv hk.yP hPR (.slice A r.1.length c) (.slice TA r.2.1.length tc);refine ⟨⟨Y1,hf.new hf2 fun b e=>.inr (by rw [e];exact hRw),hy,hk.bW ho (by decide) (by decide) (by decide) (by decide),A,c,TA,tc,rfl,hx.bW ho (by decide) (by decide),ht.bW ho (by decide),hA⟩,by simp [DI,hb],by simp [DI,hb]⟩
theorem uj (P:Nat) (es:List Pt) (nx:kW) (HN:Hid (lJ P es nx)) (env e2:Env) (a:Nat) (r:eF) (LA:Option Addr) (lc:Nat) (ls:List Bn) (Y:Nat->Prop) (w:World) (h:iV P es env a Y w) (hr:mZ w w.heap.size LA ls) (he:dY w Y ls e2) (hl:e2.length<=2) (hvl:env.length<=900000) (hn:nx (env++e2) a=some r):
  Calls Tryz.prog 81 #[pk P,.slice LA ls.length lc] w (bU P es env Y r w):=by
 have hlt:=h.lt;have Qu:=hlt P h.yP;obtain ⟨w1,hw1⟩:∃w1,w1=w.alloc (.cells #[.slice none 0 0,.slice none 0 0] 65):=⟨_,rfl⟩;obtain ⟨R,hR⟩:∃R,R=w.heap.size:=⟨_,rfl⟩;have hb1:Below w.heap.size w w1:=by rw [hw1];exact au (aI _ _) _
 have Ir:aQ w1 Y R #[.slice none 0 0,.slice none 0 0] 65:=by rw [hw1,hR];exact aQ.new hlt _ _
 obtain ⟨EA,ec,VA,vc,bs,hm⟩:=h.later hb1;have HR:Hid (P<R/\w.heap.size<=R/\Fr Y w w1):=aB ⟨by rw [hR];exact Qu,by rw [hR];exact aK _,Fr.below hb1⟩;have HK:=aB Ir;obtain ⟨_,_,c2⟩:=hm.cells;have f2:=hm.frozen 2 (by omega);have HM:=aB hm;have J3:Hid (mZ w1 w1.heap.size LA ls/\dY w1 Y ls e2/\nx (env++e2) a=some r):=aB ⟨(aS.below hr hb1).more hb1.size,he.fr (Fr.below hb1) fun q hq=>.inl hq,hn⟩;have hbl:bs.length<=900000:=by rw [hm.en.1];exact hvl
 have hll:ls.length<=2:=by rw [he.1];exact hl
 clear h hm hr he hn Ir hb1 hlt;unfold pk;go_enter Tryz.func81,Tryz.ntmps81;go_upto_region 1 with fail
 rw [<-hw1,<-hR];clear hw1 hR;go_wp2_with (at_builtin;refine xB rfl (.tmp 16) (.tmp 17) rfl 0 (m:=bs.length) (n:=ls.length) rfl rfl HM.out.own rfl rfl J3.out.1 (by omega) (Nat.zero_le _) ?_;intro A5 c5 w5 hown5 hg5 Zy;have K5:=aB (HM.out.app hown5 hg5 Zy J3.out.2.1 (by omega));have k2:=K5.out.2.2.2.1;have R7:=K5.out.2.2.2.2;clear hown5 hg5 Zy);obtain ⟨w6,nS⟩:∃w6,w6=w5.setCell ⟨P,2,none⟩ (.slice A5 (bs.length+ls.length) c5):=⟨_,rfl⟩;rw [<-nS] at K5;rw [<-nS];clear nS k2 R7 c2 f2;have HX:=aB (HN.out (env++e2) a r _ w6 J3.out.2.2 ⟨EA,ec,A5,c5,_,K5.out.1⟩);have HK6:=aB (HK.out.fr K5.out.2.1 K5.out.2.2.1);have Po:Hid (Fr Y w w6/\aj Y (YW P A5) w):=aB ⟨HR.out.2.2.trans K5.out.2.1,aj.trans (aj.refl _ _) K5.out.2.2.1 HR.out.2.2.size⟩;unfold pk at HX;go_wp2_with fail;refine HX.out.mono ?_;rintro x w7 ⟨Y7,BI,PK,⟨EA7,ec7,uP,xC,bs7,D_⟩,A7,c7,Xh,Xi,rfl,hx7,ht7,Zc⟩;have HK7:=aB (HK6.out.fr BI PK);have HF7:Hid (Fr Y w w7/\aj Y Y7 w):=aB ⟨Fr.new Po.out.1 BI Po.out.2,aj.trans Po.out.2 PK Po.out.1.size⟩;have BJ:Hid (bN w7 Y7 A7 c7 r.1/\aF w7 Y7 Xh Xi r.2.1/\∀a,A7=some a->w.heap.size<=a.block):=aB ⟨hx7,ht7,fun a ha=>Nat.le_trans Po.out.1.size (Zc a ha)⟩;have Qv:=aB D_;clear BI PK D_ hx7 ht7 Zc HX;go_upto_region 4 with fail
 obtain ⟨w8,hw8⟩:∃w8,w8=w7.alloc (.cells #[.slice A7 r.1.length c7,.slice Xh r.2.1.length Xi] 65):=⟨_,rfl⟩;obtain ⟨B,hB⟩:∃B,B=w7.heap.size:=⟨_,rfl⟩;have ni:Below w7.heap.size w7 w8:=by rw [hw8];exact au (aI _ _) _
 have HKB:Hid (aQ w8 Y7 B #[.slice A7 r.1.length c7,.slice Xh r.2.1.length Xi] 65):=aB (by rw [hw8,hB];exact aQ.new Qv.out.lt _ _);have HC:=aB ((Qv.out.later ni).cut (n:=bs.length) HM.out.en.1);obtain ⟨_,_,c2⟩:=(Qv.out.later ni).cells;have f2:=(Qv.out.later ni).frozen 2 (by omega);have l8:=HC.out.2.2.1;have hc7:=HC.out.2.2.2;have dV:=aB ni;rw [<-hw8,<-hB];clear hw8 hB ni;go_upto_region 5 with fail
 obtain ⟨w9,Av⟩:∃w9,w9=w8.setCell ⟨P,2,none⟩ (.slice uP bs.length xC):=⟨_,rfl⟩;rw [<-Av] at HC ⊢;have HF9:Hid (Fr Y7 w7 w9):=aB ((Fr.below dV.out:Fr Y7 w7 w8).trans HC.out.2.1);have hKB:=HKB.out.fr HC.out.2.1 (aj.refl _ _);have Xj:=(HK7.out.fr HF9.out (aj.refl _ _));have b0:w9.cell? ⟨B,0,none⟩=some (.slice A7 r.1.length c7):=by simp [DI,hKB.blk]
 have b1:w9.cell? ⟨B,1,none⟩=some (.slice Xh r.2.1.length Xi):=by simp [DI,hKB.blk]
 have r0:w9.cell? ⟨R,0,none⟩=some (.slice none 0 0):=by simp [DI,Xj.blk]
 have r1:w9.cell? ⟨R,1,none⟩=some (.slice none 0 0):=by simp [DI,Xj.blk]
 have rU:w9.frozen? ⟨R,0,none⟩=false:=by simp [Gb,Xj.blk]
 have rV:w9.frozen? ⟨R,1,none⟩=false:=by simp [Gb,Xj.blk]
 have HE:=aB (Ga (r:=r) (env:=env) (es:=es) (P:=P) (Y:=Y) (w:=w) (w1:=w9) (Fr.new HF7.out.1 HF9.out HF7.out.2) HF7.out.2 ⟨EA7,ec7,uP,xC,_,HC.out.1⟩ Xj HR.out.1 HR.out.2.1 (BJ.out.1.fr HF9.out (aj.refl _ _)) (BJ.out.2.1.fr HF9.out (aj.refl _ _)) BJ.out.2.2);clear Av c2 f2 hKB Xj;go_wp2_with fail;obtain ⟨wz,hwz⟩:∃wz,wz=set2 w9 R (.slice A7 r.1.length c7) (.slice Xh r.2.1.length Xi):=⟨_,rfl⟩;rw [<-hwz] at HE;unfold set2 at hwz;rw [<-hwz];have q0:=HE.out.2.1;have q1:=HE.out.2.2;refine bodyPost_ret (v:=.agg #[.slice A7 r.1.length c7,.slice Xh r.2.1.length Xi]) (by simp [results,Tryz.results81,go_sem,q0,q1]) rfl HE.out.1
end Go.Proofs.YtmjdhfbnmmdjiaaGreat
