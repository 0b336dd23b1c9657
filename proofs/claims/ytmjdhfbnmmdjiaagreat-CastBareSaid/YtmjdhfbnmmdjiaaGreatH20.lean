/- Laid together by a tool from the texts of this seat: ChD ChEx CsA CsB. Conditions: each theorem's own. -/
import Derived.Test.YtmjdhfbnmmdjiaaGreatH18
import Derived.Test.YtmjdhfbnmmdjiaaGreatH19
import Derived.Test.YtmjdhfbnmmdjiaaGreatH16
import Derived.Laws.CopyOwn
set_option maxHeartbeats 8000000
set_option maxRecDepth 100000
namespace Go.Proofs.YtmjdhfbnmmdjiaaGreat
open Go.Lib renaming hid->aB,run_eql_slice_nil->aax
open _root_.Nat renaming le_refl->aK,zero_le->cu,zero_add->iO
open Go.RowKit.Below renaming refl->aI
open _root_.And renaming intro->DF
open _root_.List renaming length_append->lS,flatMap_cons->iW,getElem?_append_right->kg,getElem?_append_left->YX,take_add_one->yj,take_length->wH,length_take->jm,set_append_right->aay,drop_of_length_le->bE,append_nil->mO,take_of_length_le->ji
open Go.Value renaming slice->gq
open _root_.ByteArray renaming empty->dQ
open Go.RowKit
def vw (p:Pt):Prop:=((p.k=2\/p.k=4\/p.k=5\/p.k=11\/p.k=12\/p.k=13\/p.k=14)->p.k≠11->Gd p.T)/\((p.k=5\/p.k=14)->Gd p.U)
instance (p:Pt):Decidable (vw p):=inferInstanceAs (Decidable (_/\_))
def gK (nx:Nx) (es:List Pt) (env:Env) (p:Pt) (aN a:Nat):Option fF:=
 if p.k=0 then KX p a else
 if p.k=1 then xu env p aN a else
 if p.k=2 then KY nx env p a else
 if p.k=3 then GQ nx env aN a else
 if p.k=4 then KZ nx env p aN a else
 if p.k=5 then K3 nx env p aN a else
 if p.k=6 then Bz nx env aN a else
 if p.k=7 then rC nx es env p aN a else
 if p.k=9 then Sg nx env p aN a else
 if p.k=10 then vH nx es env p a else
 if p.k=11 then getM nx env p aN a else
 if p.k=12 then GR nx env p aN a else
 if p.k=13 then asM nx env p aN a else
 if p.k=14 then xw nx env p aN a else none
def BM:Option fF->Option fF
 |some (.ok (t,b))=>if Gd t then some (.ok (t,b)) else none
 |x=>x
def iT:Nat->List Pt->Nx
 |0,_=>fun _ _=>none
 |f+1,es=>fun env a=>
  match es[a]? with
  |none=>none
  |some p=>if env.length<=900000/\vw p then BM (gK (iT f es) es env p a (a+1)) else none
theorem Xb {x:Option fF} {t:List Nd} {b:Nat} (h:BM x=some (.ok (t,b))):Gd t:=by
 match x,h with
 |some (.ok (t2,b2)),h=>
  simp only [BM] at h;split at h
  ·rename_i hg
   injection h with h
   injection h with h
   injection h with h1 h2
   rw [<-h1];exact hg
  ·cases h
theorem Qk {x:Option fF} {r:fF} (h:BM x=some r):x=some r:=by
 match x,h with
 |none,h=>cases h
 |some (.error b),h=>exact h
 |some (.ok (t,b)),h=>
  simp only [BM] at h;split at h
  ·exact h
  ·cases h
theorem acS:∀(f:Nat) (es:List Pt) (env:Env) (a:Nat) (t:List Nd) (b:Nat),iT f es env a=some (.ok (t,b))->Gd t
 |0,_,_,_,_,_,h=>by cases h
 |f+1,es,env,a,t,b,h=>by
  unfold iT at h;split at h
  ·cases h
  ·split at h
   ·exact Xb h
   ·cases h
def Nf:Value:=.agg #[.func (.func 64) #[] #[],.func (.func 65) #[] #[],.func (.func 66) #[] #[],.func (.func 67) #[] #[],.func (.func 68) #[] #[],.func (.func 69) #[] #[],.func (.func 70) #[] #[],.func (.func 71) #[] #[],.nilFunc,.func (.func 72) #[] #[],.func (.func 73) #[] #[],.func (.func 74) #[] #[],.func (.func 75) #[] #[],.func (.func 76) #[] #[],.func (.func 77) #[] #[]]
theorem Xc (w:World):Calls Tryz.prog 46 #[] w fun e w'=>e= .returned Nf/\Below w.heap.size w w':=by
 go_enter Tryz.func46,Tryz.ntmps46;go_wp2;exact bodyPost_ret (v:=Nf) (by simp [results,Tryz.results46,go_sem,Nf]) rfl ⟨rfl,au (aI _ _) _⟩
theorem aae (P:Nat) (es:List Pt) (nx:Nx) (HN:Hid (nR P es nx)) (env:Env) (p:Pt) (aN:Nat) (r:fF) (hes:dN es) (hp:vw p) (hv:env.length<=900000) (hG:∀env a t b,nx env a=some (.ok (t,b))->Gd t) (hm:gK nx es env p aN (aN+1)=some r):
  ∃K:FuncId,(∀args w,(callFunc K args).run Tryz.prog w= .ok (.enter K args) w)/\(∀w,(Instr.index 77 Nf (.int .i64 p.k)).run Tryz.prog w= .ok (.func (.func K) #[] #[]) w)/\
   ∀(w:World) (Y:Nat->Prop) (TA UA:Option Addr) (tc uc:Nat),bf P es env (.ok (aN+1)) Y w->aF w Y TA tc p.T->aF w Y UA uc p.U->Calls Tryz.prog K #[pk P,pv p TA tc UA uc,.int .i64 aN] w (bI P es env Y r w):=by
 unfold gK at hm;by_cases h0:p.k=0
 ·rw [if_pos h0] at hm
  refine ⟨64,fun _ _=>by kernel_rfl,fun w=>by rw [h0];kernel_rfl,fun w Y TA UA tc uc h hT hU=>?_⟩;exact Zz P es env p aN (aN+1) r Y w TA UA tc uc h hT hU hm
 rw [if_neg h0] at hm;by_cases h1:p.k=1
 ·rw [if_pos h1] at hm
  refine ⟨65,fun _ _=>by kernel_rfl,fun w=>by rw [h1];kernel_rfl,fun w Y TA UA tc uc h hT hU=>?_⟩;exact W_ P es env p aN (aN+1) r Y w TA UA tc uc h hT hU hm
 rw [if_neg h1] at hm;by_cases h2:p.k=2
 ·rw [if_pos h2] at hm
  refine ⟨66,fun _ _=>by kernel_rfl,fun w=>by rw [h2];kernel_rfl,fun w Y TA UA tc uc h hT hU=>?_⟩;exact ZF P es nx HN env p aN (aN+1) r Y w TA UA tc uc h hT hU (hp.1 (by omega) (by omega)) hv hG hm
 rw [if_neg h2] at hm;by_cases h3:p.k=3
 ·rw [if_pos h3] at hm
  refine ⟨67,fun _ _=>by kernel_rfl,fun w=>by rw [h3];kernel_rfl,fun w Y TA UA tc uc h hT hU=>?_⟩;exact ZB P es nx HN env p aN (aN+1) r Y w TA UA tc uc h hT hU hG hm
 rw [if_neg h3] at hm;by_cases h4:p.k=4
 ·rw [if_pos h4] at hm
  refine ⟨68,fun _ _=>by kernel_rfl,fun w=>by rw [h4];kernel_rfl,fun w Y TA UA tc uc h hT hU=>?_⟩;exact ZE P es nx HN env p aN (aN+1) r Y w TA UA tc uc h hT hU (hp.1 (by omega) (by omega)) hv hG hm
 rw [if_neg h4] at hm;by_cases h5:p.k=5
 ·rw [if_pos h5] at hm
  refine ⟨69,fun _ _=>by kernel_rfl,fun w=>by rw [h5];kernel_rfl,fun w Y TA UA tc uc h hT hU=>?_⟩;exact ZW P es nx HN env p aN (aN+1) r Y w TA UA tc uc h hT hU (hp.1 (by omega) (by omega)) (hp.2 (by omega)) hv hG hm
 rw [if_neg h5] at hm;by_cases h6:p.k=6
 ·rw [if_pos h6] at hm
  refine ⟨70,fun _ _=>by kernel_rfl,fun w=>by rw [h6];kernel_rfl,fun w Y TA UA tc uc h hT hU=>?_⟩;exact WU P es nx HN env p aN (aN+1) r Y w TA UA tc uc h hT hU hG hm
 rw [if_neg h6] at hm;by_cases h7:p.k=7
 ·rw [if_pos h7] at hm
  refine ⟨71,fun _ _=>by kernel_rfl,fun w=>by rw [h7];kernel_rfl,fun w Y TA UA tc uc h hT hU=>?_⟩;exact SG P es nx HN env p aN (aN+1) r Y w TA UA tc uc hes h hT hU hG hm
 rw [if_neg h7] at hm;by_cases h9:p.k=9
 ·rw [if_pos h9] at hm
  refine ⟨72,fun _ _=>by kernel_rfl,fun w=>by rw [h9];kernel_rfl,fun w Y TA UA tc uc h hT hU=>?_⟩;exact acO P es nx HN env p aN (aN+1) r Y w TA UA tc uc h hT hU hG hm
 rw [if_neg h9] at hm;by_cases h10:p.k=10
 ·rw [if_pos h10] at hm
  refine ⟨73,fun _ _=>by kernel_rfl,fun w=>by rw [h10];kernel_rfl,fun w Y TA UA tc uc h hT hU=>?_⟩;exact WZ P es nx HN env p aN (aN+1) r Y w TA UA tc uc h hT hU hG hm
 rw [if_neg h10] at hm;by_cases h11:p.k=11
 ·rw [if_pos h11] at hm
  refine ⟨74,fun _ _=>by kernel_rfl,fun w=>by rw [h11];kernel_rfl,fun w Y TA UA tc uc h hT hU=>?_⟩;exact ZC P es nx HN env p aN (aN+1) r Y w TA UA tc uc h hT hU hG hm
 rw [if_neg h11] at hm;by_cases h12:p.k=12
 ·rw [if_pos h12] at hm
  refine ⟨75,fun _ _=>by kernel_rfl,fun w=>by rw [h12];kernel_rfl,fun w Y TA UA tc uc h hT hU=>?_⟩;exact PO P es nx HN env p aN (aN+1) r Y w TA UA tc uc h hT hU (hp.1 (by omega) (by omega)) hG hm
 rw [if_neg h12] at hm;by_cases jT:p.k=13
 ·rw [if_pos jT] at hm
  refine ⟨76,fun _ _=>by kernel_rfl,fun w=>by rw [jT];kernel_rfl,fun w Y TA UA tc uc h hT hU=>?_⟩;exact acI P es nx HN env p aN (aN+1) r Y w TA UA tc uc h hT hU (hp.1 (by omega) (by omega)) hG hm
 rw [if_neg jT] at hm;by_cases gW:p.k=14
 ·rw [if_pos gW] at hm
  refine ⟨77,fun _ _=>by kernel_rfl,fun w=>by rw [gW];kernel_rfl,fun w Y TA UA tc uc h hT hU=>?_⟩;exact WT P es nx HN env p aN (aN+1) r Y w TA UA tc uc h hT hU (hp.1 (by omega) (by omega)) (hp.2 (by omega)) hG hm
 rw [if_neg gW] at hm
 cases hm
theorem aaf (P:Nat) (es:List Pt) (nx:Nx) (HN:Hid (nR P es nx)) (env:Env) (p:Pt) (aN:Nat) (r:fF) (hes:dN es) (hx:es[aN]?=some p) (hp:vw p) (hv:env.length<=900000) (hG:∀env a t b,nx env a=some (.ok (t,b))->Gd t) (hm:gK nx es env p aN (aN+1)=some r) (Y:Nat->Prop) (w:World) (h:bf P es env (.ok aN) Y w):
  Calls Tryz.prog 32 #[pk P] w (jL P es env Y r w):=by
 obtain ⟨K,heg,hidx,hK⟩:=aae P es nx HN env p aN r hes hp hv hG hm;have HK:=aB (DF hidx hK);have HO:=aB (jg P es env _ Y w h);simp only [qC] at HO;unfold pk at HO;obtain ⟨a',p',e',⟨EA,ec,Ar,Au,bs,F4⟩,ha,hpp,he⟩:=h;subst ha hpp he;have HM:=aB F4;have HX:=aB hx;have hel:=F4.el;have hal:=aP hx;clear hes hx hp hv hG hm hidx hK F4;unfold pk;go_enter Tryz.func32,Tryz.ntmps32;go_wp2_with fail;refine HO.out.mono ?_;rintro e w1 ⟨rfl,hb1⟩;have xI:=aB (HM.out.later hb1);have HB1:=aB hb1;obtain ⟨c0,c1,_,_,_⟩:=xI.out.cells;have f1:=xI.out.frozen 1 (by omega);clear hb1;go_upto_region 5 with fail
 obtain ⟨w2,hw2⟩:∃w2,w2=w1.setCell ⟨P,1,none⟩ (.int .i64 ((a':Int)+1)):=⟨_,rfl⟩
 have H2:Hid (Fr Y w w2/\rP P es env (a'+1) 0 0 EA ec Ar Au bs Y w2):=aB (by
  have hb:w2.heap[P]?=some (.cells #[.slice EA es.length ec,.int .i64 ((a'+1:Nat):Int),.slice Ar bs.length Au,.int .i64 0,.int .i64 0] 60 (0,0)):=by
   rw [hw2,heap_set xI.out.blk 1];rfl
  have hf:Fr (fun q=>q=P) w1 w2:=by rw [hw2];exact dZ _ _ _ _
  have hp:=xI.out.put hb hf;exact ⟨(Fr.below HB1.out).trans hp.2,hp.1⟩)
 rw [<-hw2];clear hw2 c0 c1 f1 xI;obtain ⟨c0,c1,_,_,_⟩:=H2.out.2.cells;obtain ⟨eb,eo,rfl,aqy,Z5,hpt,_⟩:=H2.out.2.ex _ _ HX.out;obtain ⟨XA,xc,WA,wc,Z6,Z7,q0,q1,q2,q3,q4,q5,q6,q7⟩:=hpt;have HT:=aB (DF Z6 Z7);clear Z6 Z7;go_upto_region 6 with fail
 clear c0 c1 q0 q1 q2 q3 q4 q5 q6 q7;obtain ⟨w3,hw3⟩:∃w3,w3=w2.alloc (.cells #[.int .i64 p.k,.string p.lb,.string p.nm,.string p.bd,.int .i64 p.mn,.int .i64 p.num,.slice XA p.T.length xc,.slice WA p.U.length wc] 33):=⟨_,rfl⟩;have HB3:Hid (Below w2.heap.size w2 w3):=aB (by rw [hw3];exact au (aI _ _) _);have DY:Hid (aZ w3 Y w2.heap.size p XA xc WA wc):=aB (by rw [hw3];exact aZ.new H2.out.2.lt HT.out.1 HT.out.2);have HK3:Hid (bf P es env (.ok (a'+1)) Y w3):=aB ⟨_,_,_,⟨_,_,_,_,_,H2.out.2.later HB3.out⟩,rfl,rfl,rfl⟩;obtain ⟨gx,hgx⟩:∃gx,gx=w2.heap.size:=⟨_,rfl⟩;rw [<-hgx] at DY;rw [<-hw3,<-hgx];clear hw3 hgx;obtain ⟨SS,hSS⟩:∃SS:World->Prop,SS=fun v=>v.cell? ⟨gx,0,none⟩=some (.int .i64 p.k)/\v.cell? ⟨gx,1,none⟩=some (.string p.lb)/\v.cell? ⟨gx,2,none⟩=some (.string p.nm)/\v.cell? ⟨gx,3,none⟩=some (.string p.bd)/\v.cell? ⟨gx,4,none⟩=some (.int .i64 p.mn)/\v.cell? ⟨gx,5,none⟩=some (.int .i64 p.num)/\v.cell? ⟨gx,6,none⟩=some (.slice XA p.T.length xc)/\v.cell? ⟨gx,7,none⟩=some (.slice WA p.U.length wc):=⟨_,rfl⟩
 have HS:Hid (∀v Y',aZ v Y' gx p XA xc WA wc->SS v):=aB fun v Y' hv=>by
  rw [hSS];exact ⟨hv.cells.1,hv.cells.2.1,hv.cells.2.2.1,hv.cells.2.2.2.1,hv.cells.2.2.2.2.1,by simp [World.cell?,hv.blk],hv.cells.2.2.2.2.2.1,hv.cells.2.2.2.2.2.2⟩
 obtain ⟨wd,hwd⟩:∃wd,wd=w3.drew:=⟨_,rfl⟩;have bM:Hid (Below w3.heap.size w3 wd):=aB (by rw [hwd];exact (aI _ _).drew);have HPd:=aB (DY.out.later bM.out);have Ie:=aB (HK3.out.later bM.out);have hsd:SS wd:=HS.out _ _ HPd.out;refine aG (S:=SS) [7] (by kernel_rfl) (by rw [<-hwd];exact hsd) (fun hHeld=>?_);rw [<-hwd] at hHeld ⊢;clear hwd;refine aM 1 [2,3,7] (some 28) rfl rfl ?_;refine aM 2 [3,7] (some 29) rfl rfl ?_;refine aM 4 [7] (some 31) rfl rfl ?_;refine aM 5 [7] (some 32) rfl rfl ?_;refine aM 6 [7] (some 33) rfl rfl ?_;refine aY 0 (some 27) rfl rfl (by kernel_rfl) (by rfl) (by kernel_rfl) (Xc wd) ?_;rintro e w4 ⟨rfl,hb4⟩;have HP4:=aB (HPd.out.later hb4);have HK4:=aB (Ie.out.later hb4);have HF4:Hid (Fr Y w w4):=aB (((H2.out.1.trans (Fr.below HB3.out)).trans (Fr.below bM.out)).trans (Fr.below hb4));have hs4:SS w4:=HS.out _ _ HP4.out;refine ⟨_,rfl,hs4,?_⟩;refine aA ?_;refine aX 3 (some 30) (v:=.func (.func K) #[] #[]) (w':=w4) rfl rfl (by kernel_rfl) (by rfl) (by have h:=HK.out.1 w4;simp only [execOp];go_simp;first|done|(rw [h];first|rfl|go_simp)) (fun _=>hs4) ?_;refine aA ?_;have HW:=aB (HK.out.2 w4 Y XA WA xc wc HK4.out HP4.out.T HP4.out.U);unfold pk pv at HW;clear hb4 hsd hHeld;refine aY 7 (some 34) rfl rfl (by kernel_rfl) (by rfl) (by go_simp) HW.out ?_;intro e w5 hp;obtain ⟨v5,rfl⟩:=hp.ret;obtain ⟨Y5,uL,hy5,hk5,hv5⟩:=hp;have HP5:=aB (HP4.out.fr uL hy5);have H5:Hid (Fr Y w w5/\aj Y Y5 w):=aB ⟨Fr.new HF4.out uL (aj.refl _ _),aj.trans (aj.refl _ _) hy5 HF4.out.size⟩
 refine ⟨_,rfl,HS.out _ _ HP5.out,?_⟩;refine aA ?_;refine aX 8 (some 5) rfl rfl (by kernel_rfl) (by rfl) (by go_simp;first|with_reducible rfl|(constructor<;>with_reducible rfl)) (zL (by kernel_rfl)) ?_;refine aA ?_;refine bB (by kernel_rfl) ?_ _;have Ql:=aB (jg P es env _ Y5 w5 hk5);unfold pk at Ql
 match r,hk5,hv5,Ql with
 | .ok (t,b),hk5,⟨A9,c9,vI,ht9⟩,Ql=>
  injection vI with vI
  subst vI;simp only [fF.st,qC] at Ql;go_wp2_with fail;refine Ql.out.mono ?_;rintro e w6 ⟨rfl,hb6⟩;have HQ:Hid (jL P es env Y (.ok (t,b)) w (.returned (.slice A9 t.length c9)) w6):=aB ⟨Y5,H5.out.1.trans (Fr.below hb6),H5.out.2,hk5.later hb6,A9,c9,rfl,ht9.later hb6⟩;clear hb6 uL hy5 hk5 ht9 hs4;go_wp2_with fail;go_ret
  exact HQ.out
 | .error x,hk5,hv5,Ql=>
  obtain ⟨A9,n9,c9,vI⟩:=hv5;injection vI with vI
  subst vI;simp only [fF.st,qC] at Ql;go_wp2_with fail;refine Ql.out.mono ?_;rintro e w6 ⟨rfl,hb6⟩;have HQ:Hid (jL P es env Y (.error x) w (.returned (.slice none 0 0)) w6):=aB ⟨Y5,H5.out.1.trans (Fr.below hb6),H5.out.2,hk5.later hb6,rfl⟩;clear hb6 uL hy5 hk5 hs4;go_wp2_with fail;go_ret;exact HQ.out
theorem Le (P:Nat) (es:List Pt) (env:Env) (x:Nat×Int) (Y:Nat->Prop) (w:World) (h:bf P es env (.error x) Y w):
  Calls Tryz.prog 32 #[pk P] w (jL P es env Y (.error x) w):=by
 have H:=aB h;have HO:=aB (jg P es env _ Y w h);simp only [qC] at HO;unfold pk at*;clear h;go_enter Tryz.func32,Tryz.ntmps32;go_wp2_with fail;refine HO.out.mono ?_;rintro e w1 ⟨rfl,hb1⟩;have HB:=aB hb1;clear hb1;go_wp2_with fail;go_ret;exact ⟨Y,Fr.below HB.out,aj.refl _ _,H.out.later HB.out,rfl⟩
theorem Xd (P:Nat) (es:List Pt) (hes:dN es):∀f:Nat,nR P es (iT f es):=by
 intro f
 induction f with
 |zero=>
  intro env s r Y w hn h
  match s,hn,h with
  | .ok a,hn,_=>cases hn
  | .error x,hn,h=>
   injection hn with hn
   subst hn
   exact Le P es env x Y w h
 |succ f ih=>
  intro env s r Y w hn h
  match s,hn,h with
  | .error x,hn,h=>
   injection hn with hn
   subst hn
   exact Le P es env x Y w h
  | .ok a,hn,h=>
   have hn:iT (f+1) es env a=some r:=hn;unfold iT at hn;split at hn
   ·cases hn
   ·rename_i p hp
    split at hn
    ·rename_i hc
     exact aaf P es (iT f es) (aB ih) env p a r hes hp hc.2 hc.1 (acS f es) (Qk hn) Y w h
    ·cases hn
theorem Fv (A:Option Addr) (c:Nat) (bs:List Bn) (w:World) (ha:mZ w w.heap.size A bs) (hA:A=none->bs=[]) (hs:∀a,A=some a->∃b o,a=⟨b,o,none⟩) (hl:bs.length<=1000000):
  Calls Tryz.prog 31 #[.slice A bs.length c] w fun e w'=>∃A' cap',e= .returned (.slice A' bs.length cap')/\CK w' w.heap.size A' cap' bs/\Below w.heap.size w w':=by
 cases A with
 |none=>
  have:=hA rfl;subst this;simp only [List.length_nil];go_enter Tryz.func31,Tryz.ntmps31;go_wp2_with fail;rw [aax _ _ _ _ _ _ _ _ Tryz.underlying22];clear hA;go_wp2_with fail;go_ret
  exact ⟨none,0,rfl,ay.nil,aI _ _⟩
 |some a=>
  obtain ⟨b,o,rfl⟩:=hs a rfl;have hown0:=gL 36 2 qG w;have hb0:=au (aI w.heap.size w) (.cells #[] 36);clear hA hs;go_enter Tryz.func31,Tryz.ntmps31;go_wp2_with fail;rw [aax _ _ _ _ _ _ _ _ Tryz.underlying22];go_wp2_with (at_builtin;refine xB rfl (.tmp 5) (.tmp 6) rfl w.heap.size (m:=0) (n:=bs.length) (l:=[]) rfl rfl hown0 (l2:=bs) rfl rfl (aS.below ha hb0) (by omega) (by simp) ?_;intro A2 cap2 w3 hown3 hg3 _);have dH:=iB hb0 hg3 (fun k hk=>(ay.block hown0 k hk).1);go_wp2_with fail;go_ret;exact ⟨A2,cap2,by simp,by simpa using hown3,dH⟩
def U_ (r:fF) (w:World) (e:Ending) (w':World):Prop:=
 Below w.heap.size w w'/\match r with
  | .ok (t,_)=>∃A c,e= .returned (.tuple #[.slice A t.length c,.int .i64 0,.int .i64 0])/\uO w' (fun _=>False) A t/\t.length<=c
  | .error (p,er)=>e= .returned (.tuple #[.slice none 0 0,.int .i64 (p:Int),.int .i64 er])
theorem Ee (f:Nat) (es:List Pt) (hes:dN es) (env:Env) (r:fF) (A EA:Option Addr) (c ec:Nat) (bs:List Bn) (w:World) (ha:mZ w w.heap.size A bs) (hA:A=none->bs=[]) (hs:∀a,A=some a->∃b o,a=⟨b,o,none⟩) (hen:dY w (fun _=>False) bs env) (hex:kF w (fun _=>False) EA es) (hl:env.length<=100000) (hel:es.length<=1000000) (hm:iT f es env 0=some r):
  Calls Tryz.prog 11 #[.slice A bs.length c,.slice EA es.length ec] w (U_ r w):=by
 have Hc:=aB (Fv A c bs w ha hA hs (by rw [hen.1];omega));have H:=aB (DF hen (DF hex hm));clear ha hA hs hen hex hm;go_enter Tryz.func11,Tryz.ntmps11;go_wp2_with fail;refine Hc.out.mono ?_;rintro e w1 ⟨VA,vc,rfl,hown,hb1⟩;have H1:=aB (DF hown hb1);clear hown hb1;go_upto_region 2 with fail
 obtain ⟨w2,hw2⟩:∃w2,w2=w1.alloc (.cells #[.slice EA es.length ec,.int .i64 0,.slice VA bs.length vc,.int .i64 0,.int .i64 0] 60):=⟨_,rfl⟩;obtain ⟨P,hP⟩:∃P,P=w1.heap.size:=⟨_,rfl⟩;have hz1:=H1.out.2.size;have HB2:Hid (Below w.heap.size w w2/\w.heap.size<=P):=aB ⟨by rw [hw2];exact au H1.out.2 _,by rw [hP];exact hz1⟩
 have HK:Hid (bf P es env (.ok 0) (YW P VA) w2):=aB (by
  have hYn:aj (fun _=>False) (YW P VA) w:=by
   rintro q (rfl|⟨a,rfl,rfl⟩)
   ·exact .inr HB2.out.2
   ·exact .inr (ay.lt H1.out.1 a rfl).1
  have hfr:Fr (fun _=>False) w w2:=Fr.below HB2.out.1;refine ⟨0,0,0,⟨EA,ec,VA,vc,bs,?_,?_,H.out.2.1.fr hfr hYn,H.out.1.fr hfr hYn,fun q=>Iff.rfl,?_,hel,by omega⟩,rfl,rfl,rfl⟩
  ·rw [hw2,hP]
   exact heap_alloc_new _ _
  ·rw [hw2]
   exact ay.alloc (ay.lower H1.out.1 (cu _)) _
  ·rintro a rfl
   rw [hP];have:=(ay.lt H1.out.1 a rfl).2;omega)
 rw [<-hw2,<-hP];clear hw2 hP hz1;have HN:=aB (Xd P es hes f env (.ok 0) r (YW P VA) w2 H.out.2.2 HK.out);unfold pk at HN;go_wp2_with fail;refine HN.out.mono ?_;intro e w3 hp;obtain ⟨v3,rfl⟩:=hp.keep;obtain ⟨Y3,hf3,hy3,⟨a3,p3,e3,⟨EA3,ec3,VA3,vc3,bs3,hm3⟩,hr3⟩,hv3⟩:=hp
 have HB3:Hid (Below w.heap.size w w3):=aB (by
  refine (Fr.new (Fr.below HB2.out.1:Fr (fun _=>False) w w2) hf3 ?_).toBelow fun k h=>h.elim;rintro q (rfl|⟨a,rfl,rfl⟩)
  ·exact .inr HB2.out.2
  ·exact .inr (ay.lt H1.out.1 a rfl).1)
 obtain ⟨_,_,_,k3,k4⟩:=hm3.cells;have g3:∀n,(w3.drewN n).cell? ⟨P,3,none⟩=some (.int .i64 p3):=fun n=>k3;have g4:∀n,(w3.drewN n).cell? ⟨P,4,none⟩=some (.int .i64 e3):=fun n=>k4;have H3:=aB (DF hr3 hv3);clear hf3 hy3 hm3 hr3 hv3 k3 k4;go_upto_region 3 with fail
 go_quiet (fail);go_wp2_with fail;go_ret3;refine ⟨below_drewN HB3.out _,?_⟩
 match r,H3 with
 | .ok (t,b),H3=>
  obtain ⟨hr,A9,c9,hv,ht⟩:=H3.out;injection hv with hv
  obtain ⟨_,h2,h3⟩:=hr;subst hv h2 h3;refine ⟨A9,c9,rfl,fun hne=>?_,ht.cap⟩;obtain ⟨b,o,e,g1,g2,g5,g6⟩:=ht.ty hne
  exact ⟨b,o,e,g1,fun h=>h,g5.mono fun _=>rfl,.inr fun q hq=>hq.elim⟩
 | .error (q,er),H3=>
  obtain ⟨hr,hv⟩:=H3.out;injection hv with hv
  obtain ⟨h1,h2,_⟩:=hr;subst hv h1 h2;rfl
structure PV where
 k:Int
 lb:ByteArray
 nm:ByteArray
 bd:ByteArray
 mn:Int
 num:Int
 TA:Option Addr
 tn:Nat
 tc:Nat
 UA:Option Addr
 un:Nat
 uc:Nat
def ng (v:PV):List Value:=[.int .i64 v.k,.string v.lb,.string v.nm,.string v.bd,.int .i64 v.mn,.int .i64 v.num,.slice v.TA v.tn v.tc,.slice v.UA v.un v.uc]
theorem fH (v:PV):(ng v).length=8:=rfl
theorem z8 (v:PV):∀u∈ng v,u.oneCell'=true:=by
 intro u hu;simp [ng] at hu;rcases hu with rfl|rfl|rfl|rfl|rfl|rfl|rfl|rfl<;>rfl
abbrev fq (w:World) (base:Nat) (A:Option Addr) (cap:Nat) (l:List PV):Prop:=ay 33 8 ng w base A cap l
abbrev vM (w:World) (B:Nat) (A:Option Addr) (l:List PV):Prop:=aS 8 ng w B A l
structure AY (w:World) (Y:Nat->Prop) (v:PV) (p:Pt):Prop where
 k:v.k=p.k
 lb:v.lb=p.lb
 nm:v.nm=p.nm
 bd:v.bd=p.bd
 mn:v.mn=p.mn
 num:v.num=p.num
 tn:v.tn=p.T.length
 un:v.un=p.U.length
 T:aF w Y v.TA v.tc p.T
 U:aF w Y v.UA v.uc p.U
def dz (w:World) (Y:Nat->Prop) (vs:List PV) (es:List Pt):Prop:=vs.length=es.length/\∀(i:Nat) (v:PV) (p:Pt),vs[i]?=some v->es[i]?=some p->AY w Y v p
section
variable {w w':World} {Y Y':Nat->Prop} {v:PV} {p:Pt} {vs vs2:List PV} {es es2:List Pt} {A:Option Addr}
theorem AY.fr (h:AY w Y v p) (hf:Fr Y w w') (hY:∀q,Y' q->Y q\/w.heap.size<=q):AY w' Y' v p:=
 ⟨h.k,h.lb,h.nm,h.bd,h.mn,h.num,h.tn,h.un,h.T.fr hf hY,h.U.fr hf hY⟩
theorem dz.fr (h:dz w Y vs es) (hf:Fr Y w w') (hY:∀q,Y' q->Y q\/w.heap.size<=q):dz w' Y' vs es:=⟨h.1,fun i v p hv hp=>(h.2 i v p hv hp).fr hf hY⟩
theorem dz.nil:dz w Y [] []:=⟨rfl,fun i v p hv=>by simp at hv⟩
theorem dz.cons (h:AY w Y v p) (k:dz w Y vs es):dz w Y (v::vs) (p::es):=⟨by simp [k.1],fun i u q hu hq=>by
 cases i with
 |zero=>
  simp at hu hq;subst hu hq
  exact h
 |succ i=>exact k.2 i u q (by simpa using hu) (by simpa using hq)⟩
theorem dz.app (h:dz w Y vs es) (k:dz w Y vs2 es2):dz w Y (vs++vs2) (es++es2):=⟨by simp [h.1,k.1],fun i u q hu hq=>by
 by_cases hi:i<vs.length
 ·rw [YX hi] at hu
  rw [YX (by rw [<-h.1];exact hi)] at hq;exact h.2 i u q hu hq
 ·rw [kg (by omega)] at hu
  rw [kg (by rw [<-h.1];omega),<-h.1] at hq;exact k.2 _ u q hu hq⟩
theorem dz.ex (h:dz w (fun _=>False) vs es) (hr:vM w w.heap.size A vs):kF w (fun _=>False) A es:=fun i p hp=>by
 obtain ⟨v,hv⟩:=aJ (show i<vs.length by rw [h.1];exact aP hp);obtain ⟨b,o,hA,hb,hc⟩:=hr (by rintro rfl;simp at hv);have k:=h.2 i v p hv hp;refine ⟨b,o,hA,hb,fun h=>h,⟨v.TA,v.tc,v.UA,v.uc,k.T,k.U,?_,?_,?_,?_,?_,?_,?_,?_⟩,.inr fun q hq=>hq.elim⟩
 ·rw [<-k.k];exact hc i v hv 0 _ rfl
 ·rw [<-k.lb];exact hc i v hv 1 _ rfl
 ·rw [<-k.nm];exact hc i v hv 2 _ rfl
 ·rw [<-k.bd];exact hc i v hv 3 _ rfl
 ·rw [<-k.mn];exact hc i v hv 4 _ rfl
 ·rw [<-k.num];exact hc i v hv 5 _ rfl
 ·rw [<-k.tn];exact hc i v hv 6 _ rfl
 ·rw [<-k.un];exact hc i v hv 7 _ rfl
end
theorem SV (w:World) (v:PV):vM (w.alloc (.cells #[.int .i64 v.k,.string v.lb,.string v.nm,.string v.bd,.int .i64 v.mn,.int .i64 v.num,.slice v.TA v.tn v.tc,.slice v.UA v.un v.uc] 33)) (w.heap.size+1) (some ⟨w.heap.size,0,none⟩) [v]:=fun _=>by
 refine ⟨w.heap.size,0,rfl,by omega,fun i x hx j u hu=>?_⟩
 match i,hx with
 |0,hx=>
  simp at hx;subst hx;have hj:j<8:=aP hu;have hj8:j=0\/j=1\/j=2\/j=3\/j=4\/j=5\/j=6\/j=7:=by omega
  rcases hj8 with rfl|rfl|rfl|rfl|rfl|rfl|rfl|rfl<;>simp [ng] at hu<;>subst hu<;>simp
 |i+1,hx=>simp at hx
theorem Xe (w:World) (v:PV):fq (w.alloc (.cells #[.int .i64 v.k,.string v.lb,.string v.nm,.string v.bd,.int .i64 v.mn,.int .i64 v.num,.slice v.TA v.tn v.tc,.slice v.UA v.un v.uc] 33)) w.heap.size (some ⟨w.heap.size,0,none⟩) 1 [v]:=
 ⟨rfl,.inr ⟨w.heap.size,1,_,rfl,aK _,heap_alloc_new w _,aK _,by simp [maxLen],rfl,rfl⟩⟩
theorem infoP:(Tryz.prog.info? 33).map (fun i=>(i.zero,i.size,i.bytes))=some (some (.agg #[.int .i64 0,.string dQ,.string dQ,.string dQ,.int .i64 0,.int .i64 0,.slice none 0 0,.slice none 0 0]),8,120):=by kernel_rfl
section
variable {w:World} {ops:Array Oper} {rest:List Oper} {o:Oper} {a:Act} {Q:Exit->Act->World->Prop}
theorem sS (hgd:o.guard=none) (s x:Operand)
  (ho:o.op= .call {callee:=.builtin .append,args:=#[s,x],argTypes:=#[24,24]})
  (base:Nat) {A:Option Addr} {cap m n:Nat} {l:List PV} (hm:l.length=m) (hs:a.eval s= .slice A m cap) (hown:fq w base A cap l) {B:Nat} {A2:Option Addr} {c:Nat} {l2:List PV} (hn:l2.length=n) (hx:a.eval x= .slice A2 n c) (hr:vM w B A2 l2)
  (hlen:m+n<=10000000000) (hbase:base<=w.heap.size)
  (h:∀A' cap' w',fq w' base A' cap' (l++l2)->w.grownBy w' ((gq A l.length cap).ownBlock)->
   ((gq A' (l.length+l2.length) cap').ownBlock=(gq A l.length cap).ownBlock\/(gq A' (l.length+l2.length) cap').ownBlock=some w.heap.size)->wpList Tryz.prog ops Q rest (a.put o.dst (.slice A' (m+n) cap')) w'):wpList Tryz.prog ops Q (o::rest) a w:=by
 subst hm hn;obtain ⟨i0,hi,hz0,hz1,hz2⟩:=info_parts infoP;exact mV w fH z8 hgd s x 24 ho base 33 i0 _ 120 Tryz.underlying24 hi hz0 hz1 hz2 rfl (by decide) hs hown hx hr (by unfold maxLen;omega) (by omega) hbase h
end
theorem SX (n:Nat) (hn:n<=1000000000) (w:World):
  Calls Tryz.prog 109 #[.slice none 0 0,.int .i64 (n:Int)] w fun e w'=>∃A cap,e= .returned (.slice A 0 cap)/\fq w' w.heap.size A cap []/\Below w.heap.size w w':=by
 by_cases h0:n=0
 ·subst h0
  refine (Any8.slices_Grow_room Tryz.growP none 0 0 0 w (aK _) (by omega) (by omega) (by omega)).mono ?_;rintro e w' ⟨rfl,rfl⟩;exact ⟨none,0,rfl,ay.nil,aI _ _⟩
 ·obtain ⟨i0,hi,hz0,hz1,hz2⟩:=info_parts infoP
  refine (Any8.slices_Grow_grow Tryz.growP i0 _ hi hz0 (by rw [hz1];decide) none 0 0 n [] w (aK _) (by omega) (by rw [hz2];omega) (by omega) (by simp) (fun _=>rfl) (by intro a h;cases h)).mono ?_;rintro e w' ⟨rfl,rfl⟩;refine ⟨_,_,rfl,?_,(aI _ _:Below w.heap.size w w).drew.alloc (by simp) _⟩
  exact World.ownsRow_made w.drew _ _ (aK _) (grownCap_le_maxLen w _ _ _ (by unfold maxLen;omega)) (by
   have:=grownCap_ge w (0+n) 0 33;rw [Array.size_append,Array.size_append,size_zeroCells,size_zeroCells];show 0+(0+n-0)*8+(grownCap w (0+n) 0 33-(0+n))*8=grownCap w (0+n) 0 33*8;omega)
def alk (w:World) (B:Nat) (vs:List (Option Addr×Nat×Nat)) (xss:List (List PV)):Prop:=
 vs.length=xss.length/\∀(i:Nat) (v:Option Addr×Nat×Nat) (xs:List PV),vs[i]?=some v->xss[i]?=some xs->v.2.1=xs.length/\vM w B v.1 xs
theorem Fw {xss:List (List PV)} {k:Nat} {xs:List PV} (h:xss[k]?=some xs):(xss.take (k+1)).flatten=(xss.take k).flatten++xs:=by
 rw [yj,h];simp
theorem Lf (xss:List (List PV)) (k:Nat):(xss.take k).flatten.length<=xss.flatten.length:=by
 conv=>rhs;rw [<-List.take_append_drop k xss]
 rw [List.flatten_append,lS];omega
theorem C8 (A:Option Addr) (c:Nat) (vs:List (Option Addr×Nat×Nat)) (xss:List (List PV)) (w:World) (hr:jV w w.heap.size A vs) (hS:alk w w.heap.size vs xss) (hv:vs.length<=1000) (hlen:xss.flatten.length<=1000000000):
  Calls Tryz.prog 83 #[.slice A vs.length c] w fun e w'=>
   ∃A' cap',e= .returned (.slice A' xss.flatten.length cap')/\fq w' w.heap.size A' cap' xss.flatten/\Below w.heap.size w w':=by
 have HS:=aB hS.2;have JY:=hS.1;clear hS;go_enter Tryz.func83,Tryz.ntmps83;go_wp2_with fail
 go_loopw [3,11] (fun s3 i11 wr=>∃(k n:Nat),s3= .int .i64 n/\i11= .int .i64 k/\k<=vs.length/\n<=1000000000/\Below w.heap.size w wr/\Hid (n=(xss.take k).flatten.length))
  (fun _ i11 _=>vs.length-(intOf i11).toNat)
 case atStart=>exact ⟨0,0,rfl,rfl,cu _,by omega,aI _ _,aB (by simp)⟩
 case round=>
  obtain ⟨k,n,rfl,rfl,hk,hn6,hbel,hn⟩:=hrel;have zr:=hbel.size;by_cases hlt:k<vs.length
  ·obtain ⟨v,hvk⟩:=aJ hlt
   obtain ⟨xs,hxk⟩:=aJ (show k<xss.length by omega);obtain ⟨hvl,_⟩:=HS.out k v xs hvk hxk;obtain ⟨b1,o1,rfl,hb1,c10⟩:=hr.slice hvk;have Gy:=(hbel.cell (p:=⟨b1,o1+k,none⟩) hb1).trans c10;have hstep:=Fw hxk;have hle:=Lf xss (k+1)
   have hle2:n+xs.length<=1000000000:=by
    rw [hstep,lS,<-hn.out] at hle;omega
   have r_:=aB hstep;rw [hvl] at Gy;have YR:b1<wr.heap.size:=by omega
   clear hvk hxk hstep c10 hle;go_wp2_with fail;go_roundw
   case rel=>exact ⟨k+1,n+xs.length,by go_num,by go_num,by omega,hle2,hbel,aB (by rw [r_.out,lS,<-hn.out])⟩
   case measure=>simp [intOf];omega
  ·have hkk:k=vs.length:=by omega
   have hnn:n=xss.flatten.length:=by rw [hn.out,hkk,JY,wH]
   subst hnn;clear hn;generalize hL:xss.flatten.length=L at*;have HL:=aB hL;clear hL;go_wp2_with fail;refine (SX L hn6 wr).mono ?_;rintro e w1 ⟨A1,Pg,rfl,hown1,jD⟩;have Cv:=ah hbel jD;have hown0:fq w1 w.heap.size A1 Pg []:=ay.lower hown1 hbel.size;go_wp2_with fail;clear hown1 jD hbel zr hlt hkk
   go_loopw [6,27] (fun s6 i27 wr=>∃(k n:Nat) (A':Option Addr) (cap':Nat),s6= .slice A' n cap'/\i27= .int .i64 k/\k<=vs.length/\Hid (n=(xss.take k).flatten.length)/\fq wr w.heap.size A' cap' (xss.take k).flatten/\Below w.heap.size w wr)
    (fun _ i27 _=>vs.length-(intOf i27).toNat)
   case atStart=>exact ⟨0,0,A1,Pg,rfl,rfl,cu _,aB (by simp),by simpa using hown0,Cv⟩
   case round=>
    clear hown0 Cv;obtain ⟨k,n,A',cap',rfl,rfl,hk,hn,hown,hbel⟩:=hrel;have zr:=hbel.size;by_cases hlt:k<vs.length
    ·obtain ⟨v,hvk⟩:=aJ hlt
     obtain ⟨xs,hxk⟩:=aJ (show k<xss.length by omega);obtain ⟨hvl,V_⟩:=HS.out k v xs hvk hxk;obtain ⟨b1,o1,rfl,hb1,c10⟩:=hr.slice hvk;have Gy:=(hbel.cell (p:=⟨b1,o1+k,none⟩) hb1).trans c10;have hstep:=Fw hxk;have hle:=Lf xss (k+1)
     have hle2:n+xs.length<=1000000000:=by
      rw [hstep,lS,<-hn.out,HL.out] at hle;omega
     have r_:=aB hstep;rw [hvl] at Gy;have YR:b1<wr.heap.size:=by omega
     generalize hys:(xss.take k).flatten=ys at hn hown;have YS:=aB hys;have hn':=hn.out;subst hn';clear hvk hxk hstep c10 hle hys hn;go_wp2_with (at_builtin;refine sS rfl (.tmp 31) (.tmp 32) rfl w.heap.size (m:=ys.length) (n:=xs.length) (l:=ys) rfl rfl hown (l2:=xs) rfl rfl (aS.below V_ hbel) (by omega) (by omega) ?_;intro A2 cap2 w3 hown3 hg3 _);have dH:=iB hbel hg3 (fun k hk=>(ay.block hown k hk).1);go_roundw
     case rel=>exact ⟨k+1,_,A2,cap2,rfl,by go_num,by omega,aB (by rw [r_.out,YS.out,lS]),by rw [r_.out,YS.out];exact hown3,dH⟩
     case measure=>simp [intOf];omega
    ·have hkk:k=vs.length:=by omega
     have htk:xss.take k=xss:=by rw [hkk,JY,wH]
     rw [htk] at hown hn;have hn':=hn.out;subst hn';clear hn;go_wp2_with fail;go_ret;rw [<-HL.out];exact ⟨A',cap',rfl,hown,hbel⟩
theorem zf (A:Option Addr) (c:Nat) (vs:List PV) (w:World) (ha:vM w w.heap.size A vs) (hne:vs≠[]) (hl:vs.length<=1000000):
  Calls Tryz.prog 54 #[.slice A vs.length c] w fun e w'=>∃A' cap',e= .returned (.slice A' vs.length cap')/\fq w' w.heap.size A' cap' vs/\Below w.heap.size w w':=by
 obtain ⟨b,o,rfl,_⟩:=ha hne;have hown0:=gL 33 8 ng w;have hb0:=au (aI w.heap.size w) (.cells #[] 33);clear hne;go_enter Tryz.func54,Tryz.ntmps54;go_wp2_with fail;rw [aax _ _ _ _ _ _ _ _ Tryz.underlying24];go_wp2_with (at_builtin;refine sS rfl (.tmp 5) (.tmp 6) rfl w.heap.size (m:=0) (n:=vs.length) (l:=[]) rfl rfl hown0 (l2:=vs) rfl rfl (aS.below ha hb0) (by omega) (by simp) ?_;intro A2 cap2 w3 hown3 hg3 _);have dH:=iB hb0 hg3 (fun k hk=>(ay.block hown0 k hk).1);go_wp2_with fail;go_ret;exact ⟨A2,cap2,by simp,by simpa using hown3,dH⟩
def gJ (n:Nd):Nd:=if n.k=0 then ⟨n.k,n.s,0⟩ else n
def aC (t:List Nd):List Nd:=t.map gJ
theorem jM (t:List Nd):(aC t).length=t.length:=by simp [aC]
theorem Xf {α:Type} {l:List α} {k:Nat} {x:α} (h:l[k]?=some x):l.set k x=l:=by
 refine List.ext_getElem? fun i=>?_;rw [List.getElem?_set];split
 ·next e=>
  subst e;rw [if_pos (aP h),h]
 ·rfl
theorem Ki {t:List Nd} {k:Nat} {x:Nd} (h:t[k]?=some x):(aC (t.take k)++t.drop k).set k (gJ x)=aC (t.take (k+1))++t.drop (k+1):=by
 have hk:=aP h;have hl2:(aC (t.take k)).length=k:=by rw [jM,jm];omega
 rw [aay _ _ (by omega),hl2,Nat.sub_self,List.drop_eq_getElem_cons hk,(List.getElem?_eq_some_iff.1 h).2,List.set_cons_zero,yj,h];simp [aC]
section
variable {P:Program}
theorem Io (w:World) (dT sT ty elem:TypeId) (g dLen dCap size:Nat) (a:Addr) (sLen sCap:Nat) (cur:Array Value) (t:TypeId) (cs:List Value)
  (hu:P.underlying dT=some (.slice elem)) (hs:(P.info? elem).map (·.size)=some size)
  (hg:w.heap[g]?=some (.cells cur t (0,0))) (hn:cs.length=Nat.min sLen dLen*size)
  (hsrc:∀j v,cs[j]?=some v->w.cell? (a.add j)=some v) (hfit:0+cs.length<=cur.size) (h1:∀v∈cs,v.oneCell'=true):
  (Builtin.copy_ #[dT,sT] ty #[.slice (some ⟨g,0,none⟩) dLen dCap,.slice (some a) sLen sCap]).run P w=
   .ok (goInt (Nat.min sLen dLen)) (w.setRow g (cur.toList.take 0++cs++cur.toList.drop (0+cs.length)).toArray):=by
 have hl:=run_loadCells_list (P:=P) w a cs hsrc;have hst:=run_storeCells_at P g 0 t cs 0 cur w hg (by simpa using hfit) h1
 cases hq:P.info? elem with
 |none=>simp [hq] at hs
 |some i=>
  have hi:i.size=size:=by simpa [hq] using hs
  simp [Builtin.copy_,run_underlying hu,Builtin.lenOf,Builtin.firstCells,sizeOf,typeInfo,hq,hi,<-hn,hl,hst]
end
theorem SY (w:World) (base n:Nat) (hn:n<=5000000) (hbase:base<=w.heap.size):
  ∃w',(Instr.makeSlice 28 (.int .i64 (n:Int)) (.int .i64 (n:Int))).run Tryz.prog w= .ok (.slice (some ⟨w.heap.size,0,none⟩) n n) w'/\(∃cur:Array Value,w'.heap[w.heap.size]?=some (.cells cur 49 (0,0))/\cur.size=n*3)/\w.grownBy w' none/\base<=w.heap.size:=by
 obtain ⟨i0,hi,hz0,hz1,hz2⟩:=info_parts MC;obtain ⟨w',h1,h2,h3⟩:=run_makeSlice_full (w:=w) base 28 49 i0 _ 3 Tryz.underlying28 hi hz0 hz1 .i64 .i64 n (by omega) (by rw [hz2];omega) (by unfold maxLen;omega) hbase;refine ⟨w',h1,?_,h3,hbase⟩;rcases h2.2 with ⟨hv,_⟩|⟨g,cap',cur,hv,_,hg,_,_,hcs,_⟩
 ·cases hv
 ·injection hv with e1 e2 e3
  injection e1 with e1
  injection e1 with e1
  subst e1 e3;exact ⟨cur,hg,hcs⟩
theorem zh (v:Int) (x:Nd):∀(l:List Nd) (j:Nat),l[j]?=some x->(l.set j ⟨x.k,x.s,v⟩).flatMap iy=(l.flatMap iy).set (j*3+2) (.int .i64 v)
 |[],j,h=>by simp at h
 |y::l,0,h=>by
  simp at h;subst h;rw [List.set_cons_zero,iW,iW]
  rfl
 |y::l,j+1,h=>by
  rw [List.getElem?_cons_succ] at h;rw [List.set_cons_succ,iW,iW,zh v x l j h,aay _ _ (by rw [ku];omega),ku,show (j+1)*3+2-3=j*3+2 by omega]
theorem ay.af2 {w:World} {base:Nat} {g:Nat} {cap:Nat} {l:List Nd} (h:dF w base (some ⟨g,0,none⟩) cap l) {j:Nat} {x:Nd} (hx:l[j]?=some x) (v:Int):
  w.cell? ⟨g,j*3+2,none⟩=some (.int .i64 x.n)/\w.frozen? ⟨g,j*3+2,none⟩=false/\
   dF (w.setCell ⟨g,j*3+2,none⟩ (.int .i64 v)) base (some ⟨g,0,none⟩) cap (l.set j ⟨x.k,x.s,v⟩):=by
 obtain ⟨b,o,hA,hb,c0,c1,c2⟩:=(ay.eY h).at_ hx;injection hA with hA
 injection hA with e1 e2
 subst e1 e2;rw [iO] at c2;have h':w.ownsRow base 49 3 (.slice (some ⟨g,0,none⟩) l.length cap) l.length (l.flatMap iy):=h;obtain ⟨h2,_⟩:=World.ownsRow.stored h' (j*3+2) (.int .i64 v);refine ⟨c2,World.ownsRow.frozenAt h' _,?_⟩;show (w.setCell ⟨g,j*3+2,none⟩ (.int .i64 v)).ownsRow base 49 3 (.slice (some ⟨g,0,none⟩) (l.set j ⟨x.k,x.s,v⟩).length cap) (l.set j ⟨x.k,x.s,v⟩).length ((l.set j ⟨x.k,x.s,v⟩).flatMap iy);rw [List.length_set,zh v x l j hx];exact h2
theorem Qm {w:World} {base g:Nat} {t:List Nd} {cur:Array Value} (hg:w.heap[g]?=some (.cells cur 49 (0,0))) (hs:cur.size=t.length*3) (hb:base<=g) (hl:t.length<=5000000):
  dF (w.setRow g (t.flatMap iy++cur.toList.drop (t.flatMap iy).length).toArray) base (some ⟨g,0,none⟩) t.length t:=by
 have hfl:(t.flatMap iy).length=t.length*3:=jJ ku t;have hd:cur.toList.drop (t.flatMap iy).length=[]:=bE (by rw [hfl];simp [hs]);rw [hd,mO];refine ⟨hfl,.inr ⟨g,t.length,_,rfl,hb,setRow_heap w g cur _ 49 _ hg,aK _,by unfold maxLen;omega,?_,?_⟩⟩
 ·simp [hfl]
 ·show (t.flatMap iy).take (t.length*3)=_
  exact ji (by rw [hfl];exact aK _)
theorem aS.flat {w:World} {B b o:Nat} {t:List Nd} (h:aS 3 iy w B (some ⟨b,o,none⟩) t) (hne:t≠[]):∀(j:Nat) (u:Value),(t.flatMap iy)[j]?=some u->w.cell? ((Addr.mk b o none).add j)=some u:=by
 obtain ⟨b2,o2,he,hb,hc⟩:=h hne;injection he with he
 injection he with e1 e2
 subst e1 e2;intro j u hu;have hj:=aP hu;rw [jJ ku] at hj;obtain ⟨x,hx⟩:=aJ (show j / 3<t.length by omega);obtain ⟨u',hu'⟩:=aJ (show j % 3<(iy x).length by rw [ku];omega);have e1:=yG ku hx hu';rw [show j / 3*3+j % 3=j by omega,hu] at e1;injection e1 with e1
 subst e1;have:=hc _ _ hx _ _ hu';rw [KN]
 rwa [show o+j / 3*3+j % 3=o+j by omega] at this
theorem Kj {w w':World} (h:w.grownBy w' none) (cs:Array Value):Below w.heap.size w (w'.setRow w.heap.size cs):=below_setRow (rM h) (aK _) cs
theorem Lg (A:Option Addr) (c:Nat) (t:List Nd) (w:World) (ha:bJ w w.heap.size A t) (hne:t≠[]) (hl:t.length<=5000000):
  Calls Tryz.prog 110 #[.slice A t.length c] w (AQ w (aC t)):=by
 obtain ⟨b,o,rfl,hb,_⟩:=ha hne;obtain ⟨n,hn⟩:∃n,n=t.length:=⟨_,rfl⟩;have hn0:0<n:=by rw [hn];exact List.length_pos_iff.2 hne
 obtain ⟨w1,hmk,⟨cur,hg,hcs⟩,hgr,_⟩:=SY w w.heap.size n (by omega) (aK _);have hfl:(t.flatMap iy).length=n*3:=by rw [jJ ku,hn]
 have hone:∀v∈t.flatMap iy,v.oneCell'=true:=fun u hu=>by
  rw [List.mem_flatMap] at hu;obtain ⟨x,_,hx⟩:=hu;exact DL x u hx
 have hcp:=Io (P:=Tryz.prog) w1 28 28 3 49 w.heap.size n n 3 ⟨b,o,none⟩ n c cur 49 (t.flatMap iy) Tryz.underlying28 (by kernel_rfl) hg (by rw [hfl,show Nat.min n n=n from Nat.min_self n]) (fun j u hu=>(aS.flat (aS.below ha.ME (rM hgr)) hne) j u hu) (by omega) hone;rw [show Nat.min n n=n from Nat.min_self n,List.take_zero,List.nil_append,iO] at hcp;have hown2:=Qm (base:=w.heap.size) hg (by rw [hcs,hn]) (aK _) hl;have hb2:=Kj hgr (t.flatMap iy++cur.toList.drop (t.flatMap iy).length).toArray;obtain ⟨w2,hw2⟩:∃w2,w2=w1.setRow w.heap.size (t.flatMap iy++cur.toList.drop (t.flatMap iy).length).toArray:=⟨_,rfl⟩;rw [<-hw2] at hcp hown2 hb2;rw [<-hn] at hown2 hl;obtain ⟨G,hG⟩:∃G,G=w.heap.size:=⟨_,rfl⟩;have HG:=aB hG;rw [<-hG] at hcp hown2 hmk;have H2:Hid (dF w2 w.heap.size (some ⟨G,0,none⟩) n t/\Below w.heap.size w w2):=aB ⟨by rw [hG] at hown2 ⊢;exact hown2,hb2⟩;have Hn:=aB hn;rw [<-hn];clear ha hg hcs hfl hgr hn hne hw2 hone hown2 hb2 hG;go_enter Tryz.func110,Tryz.ntmps110;go_wp2_with fail;clear hmk hcp;go_loopw [14] (fun o14 wr=>∃k:Nat,o14= .int .i64 k/\k<=n/\Hid (dF wr w.heap.size (some ⟨G,0,none⟩) n (aC (t.take k)++t.drop k)/\Below w.heap.size w wr)) (fun o14 _=>n-(Lib.intOf o14).toNat)
 case atStart=>exact ⟨0,rfl,cu _,aB ⟨by simpa [aC] using H2.out.1,H2.out.2⟩⟩
 case round=>
  obtain ⟨k,rfl,hk,HI⟩:=hrel;by_cases hlt:k<n
  ·obtain ⟨x,hx⟩:=aJ (show k<t.length by rw [<-Hn.out];exact hlt)
   have hx2:(aC (t.take k)++t.drop k)[k]?=some x:=by
    have hl2:(aC (t.take k)).length=k:=by rw [jM,jm,<-Hn.out];omega
    rw [kg (by omega),hl2,Nat.sub_self,List.getElem?_drop,Nat.add_zero];exact hx
   have hstep:Hid ((aC (t.take k)++t.drop k).set k (gJ x)=aC (t.take (k+1))++t.drop (k+1)):=aB (Ki hx);obtain ⟨b3,o3,e3,hb3,c0,c1,c2⟩:=(ay.eY HI.out.1).at_ hx2;injection e3 with e3
   injection e3 with e1 e2
   subst e1 e2;have Ng:Hid (k+1<=n):=aB hlt;rw [iO] at c0 c1 c2;have Hx2:=aB hx2;have HS:Hid (gJ x=if x.k=0 then ⟨x.k,x.s,0⟩ else x):=aB rfl;clear hx hx2
   cases hk0:(x.k==0)
   ·have HE:Hid (aC (t.take (k+1))++t.drop (k+1)=aC (t.take k)++t.drop k):=aB (by
     rw [<-hstep.out,HS.out,if_neg (by simpa using hk0)];exact Xf Hx2.out)
    go_wp2_with fail;go_roundw
    case rel=>exact ⟨k+1,by go_num,Ng.out,aB ⟨by rw [HE.out];exact ay.alloc HI.out.1 _,au HI.out.2 _⟩⟩
    case measure=>have:=Ng.out;simp [Lib.intOf];omega
   ·have HE:Hid ((aC (t.take k)++t.drop k).set k ⟨x.k,x.s,0⟩=aC (t.take (k+1))++t.drop (k+1)):=aB (by
     rw [<-hstep.out,HS.out,if_pos (by simpa using hk0)])
    go_upto_region 6 with fail
    obtain ⟨wa,xJ⟩:∃wa,wa=wr.alloc (.cells #[.int .i64 x.k,.string x.s,.int .i64 x.n] 49):=⟨_,rfl⟩;obtain ⟨Q,hQ⟩:∃Q,Q=wr.heap.size:=⟨_,rfl⟩;have hbl:wa.heap[Q]?=some (.cells #[.int .i64 x.k,.string x.s,.int .i64 x.n] 49 (0,0)):=by rw [xJ,hQ];exact heap_alloc_new _ _
    have q0:wa.cell? ⟨Q,0,none⟩=some (.int .i64 x.k):=by simp [World.cell?,hbl]
    have HA:Hid (dF wa w.heap.size (some ⟨G,0,none⟩) n (aC (t.take k)++t.drop k)/\Below w.heap.size w wa):=aB ⟨by rw [xJ];exact ay.alloc HI.out.1 _,by rw [xJ];exact au HI.out.2 _⟩;obtain ⟨f1,f2,f3⟩:=ay.af2 HA.out.1 Hx2.out 0;have F3:=aB f3;rw [<-xJ,<-hQ];clear xJ hQ hbl c0 c1 c2 f3;go_wp2_with fail;go_roundw
    case rel=>exact ⟨k+1,by go_num,Ng.out,aB ⟨by rw [<-HE.out];exact F3.out,kY HA.out.2 (p:=⟨G,k*3+2,none⟩) (by show _<=G;rw [HG.out];exact aK _) _⟩⟩
    case measure=>have:=Ng.out;simp [Lib.intOf];omega
  ·have hkk:k=n:=by omega
   have HO:Hid (dF wr w.heap.size (some ⟨G,0,none⟩) n (aC t)):=aB (by
    have:=HI.out.1;rw [ji (by rw [<-Hn.out];omega),bE (by rw [<-Hn.out];omega),mO] at this;exact this)
   have hnl:=jM t;go_wp2_with fail;go_ret;exact ⟨some ⟨G,0,none⟩,n,by rw [jM,<-Hn.out];rfl,HO.out,HI.out.2⟩
end Go.Proofs.YtmjdhfbnmmdjiaaGreat
