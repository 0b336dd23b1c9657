/- Laid together by a tool from the texts of this seat: ChC. Conditions: each theorem's own. -/
import Derived.Test.YtmjdhfbnmmdjiaaGreatH14
import Derived.Test.YtmjdhfbnmmdjiaaGreatH16
import Derived.Test.YtmjdhfbnmmdjiaaGreatH17
set_option maxHeartbeats 8000000
set_option maxRecDepth 100000
namespace Go.Proofs.YtmjdhfbnmmdjiaaGreat
open Go.Lib renaming hid->aB
open Go.RowKit.Below renaming refl->aI
open _root_.And renaming intro->DF
open _root_.Nat renaming le_refl->aK,zero_le->cu
open _root_.List renaming length_append->lS,getElem?_cons_succ->OO,getElem?_append_left->YX,getElem?_append_right->kg,getElem?_eq_some_iff->RQ,drop_eq_getElem_cons->aU,mem_of_getElem?->O8,drop_eq_nil_of_le->JU
open Go.RowKit
theorem Kg {nx:Nx} {es:List Pt} {env:Env} {ot:List Nd} {m a:Nat} {ts:List (List Nd)} {R:Except (Nat×Int) (List (List Nd)×Nat)} (h:fO nx es env ot (m+1) a ts=some R):
  ∃x,es[a]?=some x/\((∃b,nx (env++[(x.bd,(bG ot x.lb).getD [])]) (a+1)=some (.error b)/\R= .error b)\/∃t b,nx (env++[(x.bd,(bG ot x.lb).getD [])]) (a+1)=some (.ok (t,b))/\fO nx es env ot m b (ts++[t])=some R):=by
 unfold fO at h;split at h
 ·cases h
 ·rename_i x hx
  refine ⟨x,hx,?_⟩;split at h
  ·cases h
  ·rename_i b hb
   injection h with h
   exact .inl ⟨b,hb,h.symm⟩
  ·rename_i t b hb
   exact .inr ⟨t,b,hb,h⟩
theorem jV.cut {w:World} {B g c:Nat} {v:Option Addr×Nat×Nat} {vs:List (Option Addr×Nat×Nat)} (h:jV w B (some ⟨g,0,none⟩) (v::vs)) (hc:(v::vs).length<=c):jV w B (if c=1 then some ⟨g,0,none⟩ else some ⟨g,1,none⟩) vs:=fun hne=>by
 obtain ⟨b,o,e,hb,hr⟩:=h (by simp);injection e with e
 injection e with e1 e2 _
 subst e1 e2
 have hc1:¬c=1:=fun e=>by
  cases vs with
  |nil=>exact hne rfl
  |cons _ _=>simp at hc;omega
 rw [if_neg hc1];refine ⟨g,1,rfl,hb,fun i x hx j u hu=>?_⟩;have:=hr (i+1) x (by rw [OO];exact hx) j u hu;rw [show 0+(i+1)*1+j=1+i*1+j by omega] at this;exact this
theorem CW {aN:Nat} {m t:List Nd} {ts:List (List Nd)} {R:Except (Nat×Int) (List Nd)} (h:bT aN m (t::ts)=some R):
  (met 1 m t=none/\R= .error (aN,9))\/∃m2,met 1 m t=some m2/\Gd m2/\bT aN m2 ts=some R:=by
 unfold bT at h;split at h
 ·rename_i hm
  injection h with h
  exact .inl ⟨hm,h.symm⟩
 ·rename_i m2 hm
  split at h
  ·rename_i hg
   exact .inr ⟨m2,hm,hg,h⟩
  ·cases h
structure M7 (P:Nat) (es:List Pt) (env:Env) (nx:Nx) (p:Pt) (TA:Option Addr) (tc:Nat) (UA:Option Addr) (uc:Nat) (Y:Nat->Prop) (w:World) (n:Nat) (R:Except (Nat×Int) (List (List Nd)×Nat)) (OA:Option Addr) (oc:Nat) (ot:List Nd) (k:Nat) (Yk:Nat->Prop) (a:Nat) (ts:List (List Nd)) (VA:Option Addr) (vc:Nat) (vs:List (Option Addr×Nat×Nat)) (wr:World):Prop where
 fr:Fr Y w wr
 yn:aj Y Yk w
 wk:bf P es env (.ok a) Yk wr
 pm:aZ wr Yk w.heap.size p TA tc UA uc
 vt:iA wr w.heap.size VA vc vs
 vl:vs.length=ts.length
 sl:∀(i:Nat) (v:Option Addr×Nat×Nat) (t:List Nd),vs[i]?=some v->ts[i]?=some t->v.2.1=t.length/\aF wr Yk v.1 v.2.2 t
 gd:∀t∈ts,Gd t
 len:ts.length=k
 oo:aF wr Yk OA oc ot
 run:fO nx es env ot (n-k) a ts=some R
theorem M8 (t:List Nd) (s:ByteArray) (w:World) (e:Ending) (w':World) (h:GK t s w e w'):∃A c er,e= .returned (.tuple #[.slice A ((bG t s).getD []).length c,.int .i64 er])/\Below w.heap.size w w'/\dF w' w.heap.size A c ((bG t s).getD []):=by
 obtain ⟨hb,h⟩:=h
 cases hf:bG t s with
 |some u=>
  rw [hf] at h;obtain ⟨A,c,rfl,ho⟩:=h
  exact ⟨A,c,0,rfl,hb,ho⟩
 |none=>
  rw [hf] at h;subst h;exact ⟨none,0,9,rfl,hb,ay.nil⟩
def CM (P:Nat) (es:List Pt) (env:Env) (aN:Nat) (r:fF) (_p:Pt) (_TA:Option Addr) (_tc:Nat) (_UA:Option Addr) (_uc:Nat) (Y:Nat->Prop) (w:World) (VA:Option Addr) (vc:Nat) (v0:Option Addr×Nat×Nat) (vr:List (Option Addr×Nat×Nat)) (tr:List (List Nd)) (ak:Nat) (Yj:Nat->Prop) (m:List Nd) (MA:Option Addr) (mc:Nat) (j:Nat) (wr:World):Prop:=
 Fr Y w wr/\aj Y Yj w/\bf P es env (.ok ak) Yj wr/\iA wr w.heap.size VA vc (v0::vr)/\(∀(i:Nat) (v:Option Addr×Nat×Nat) (t:List Nd),vr[i]?=some v->tr[i]?=some t->v.2.1=t.length/\aF wr Yj v.1 v.2.2 t)/\aF wr Yj MA mc m/\Gd m/\vr.length=tr.length/\(∀t∈tr,Gd t)/\∃RR,bT aN m (tr.drop j)=some RR/\(∀x,RR= .error x->r= .error x)/\(∀m,RR= .ok m->r= .ok (m,ak))
def CE (P:Nat) (es:List Pt) (env:Env) (r:fF) (_p:Pt) (_TA:Option Addr) (_tc:Nat) (_UA:Option Addr) (_uc:Nat) (Y:Nat->Prop) (w:World) (VA:Option Addr) (vc:Nat) (v0:Option Addr×Nat×Nat) (vr:List (Option Addr×Nat×Nat)) (x:Nat×Int) (Yj:Nat->Prop) (wr:World):Prop:=
 r= .error x/\Fr Y w wr/\aj Y Yj w/\bf P es env (.error x) Yj wr/\iA wr w.heap.size VA vc (v0::vr)
theorem SG (P:Nat) (es:List Pt) (nx:Nx) (HN:Hid (nR P es nx)) (env:Env) (p:Pt) (aN a:Nat) (r:fF) (Y:Nat->Prop) (w:World) (TA UA:Option Addr) (tc uc:Nat) (hes:dN es) (h:bf P es env (.ok a) Y w) (hT:aF w Y TA tc p.T) (hU:aF w Y UA uc p.U) (hG:∀env a t b,nx env a=some (.ok (t,b))->Gd t) (hm:rC nx es env p aN a=some r):
  Calls Tryz.prog 71 #[pk P,pv p TA tc UA uc,.int .i64 aN] w (bI P es env Y r w):=by
 have vL:Hid (P<w.heap.size):=aB (h.lt P h.yP);obtain ⟨w1,hw1⟩:∃w1,w1=w.alloc (.cells #[.int .i64 p.k,.string p.lb,.string p.nm,.string p.bd,.int .i64 p.mn,.int .i64 p.num,.slice TA p.T.length tc,.slice UA p.U.length uc] 33):=⟨_,rfl⟩;have hpm:=aZ.new h.lt hT hU;have hb1:Below w.heap.size w w1:=by rw [hw1];exact au (aI _ _) _
 rw [<-hw1] at hpm;unfold rC at hm;split at hm
 ·rename_i hmn
  obtain ⟨n,hn⟩:∃n:Nat,p.mn=(n:Int):=⟨p.mn.toNat,by omega⟩;have Zk:n<=50:=by omega
  have hn1:1<=n:=by omega
  have hvl:=hmn.2.2;rw [show p.mn.toNat=n by omega] at hm;have Eb:Hid (∀v Y',aZ v Y' w.heap.size p TA tc UA uc->v.cell? ⟨w.heap.size,4,none⟩=some (.int .i64 (n:Int))):=aB fun v Y' hv=>by rw [<-hn];exact hv.cells.2.2.2.2.1
  have H1:Hid (Fr Y w w1/\aj Y Y w/\bf P es env (.ok a) Y w1/\aZ w1 Y w.heap.size p TA tc UA uc):=aB ⟨Fr.below hb1,aj.refl _ _,h.later hb1,hpm⟩;have HR:=aB (fP hm);have HD:=aB (DF hG (DF hes hvl));clear h hT hU hm hG hpm hb1 hmn hn hes;unfold pk pv;go_enter Tryz.func71,Tryz.ntmps71;go_upto_region 1 with fail
  rw [<-hw1];clear hw1;rcases HR.out with ⟨x,h1,hr⟩|⟨ot,b,h1,hr⟩
  ·have HX:=aB (HN.out env (.ok a) _ Y w1 h1 H1.out.2.2.1)
   unfold pk at HX;go_wp2_with fail;refine HX.out.mono ?_;rintro e w2 ⟨Y2,hf2,hy2,hk2,rfl⟩;have H2:Hid (Fr Y w w2/\aj Y Y2 w/\bf P es env (.error x) Y2 w2/\aZ w2 Y2 w.heap.size p TA tc UA uc):=aB ⟨Fr.new H1.out.1 hf2 H1.out.2.1,aj.trans H1.out.2.1 hy2 H1.out.1.size,hk2,H1.out.2.2.2.fr hf2 hy2⟩;clear hf2 hy2 hk2 HX;have HO:=aB (jg P es env _ _ _ H2.out.2.2.1);simp only [qC] at HO;unfold pk at HO;go_wp2_with fail;refine HO.out.mono ?_;rintro e w3 ⟨rfl,hb3⟩;have H3:Hid (Fr Y w w3/\bf P es env (.error x) Y2 w3):=aB ⟨H2.out.1.trans (Fr.below hb3),H2.out.2.2.1.later hb3⟩;have k4:=Eb.out w3 _ (H2.out.2.2.2.later hb3);clear hb3 HO;go_upto_region 6 with fail
   clear k4;go_loopw [25] (fun SH wr=>SH= .int .i64 0/\wr=w3) (fun _ _=>0)
   case atStart=>exact ⟨rfl,rfl⟩
   case round=>
    obtain ⟨rfl,rfl⟩:=hrel;have J8:=aB (jg P es env _ _ _ H3.out.2);simp only [qC] at J8;unfold pk at J8;go_wp2_with fail;refine J8.out.mono ?_;rintro e w4 ⟨rfl,hb4⟩
    have HQ:Hid (bI P es env Y r w (.returned (.slice none 0 0)) w4):=aB (by
     rw [hr];exact ⟨Y2,H3.out.1.trans (Fr.below hb4),H2.out.2.1,H3.out.2.later hb4,_,_,_,rfl⟩)
    clear hb4;go_wp2_with fail;go_ret;exact HQ.out
  ·have HX:=aB (HN.out env (.ok a) _ Y w1 h1 H1.out.2.2.1)
   unfold pk at HX;go_wp2_with fail;refine HX.out.mono ?_;rintro e w2 ⟨Y2,hf2,hy2,hk2,OA,oc,rfl,ht2⟩;have H2:Hid (Fr Y w w2/\aj Y Y2 w/\bf P es env (.ok b) Y2 w2/\aZ w2 Y2 w.heap.size p TA tc UA uc/\aF w2 Y2 OA oc ot):=aB ⟨Fr.new H1.out.1 hf2 H1.out.2.1,aj.trans H1.out.2.1 hy2 H1.out.1.size,hk2,H1.out.2.2.2.fr hf2 hy2,ht2⟩;have SI:=aB (HD.out.1 _ _ _ _ h1);clear hf2 hy2 hk2 HX ht2 h1;have HO:=aB (jg P es env _ _ _ H2.out.2.2.1);simp only [qC] at HO;unfold pk at HO;go_wp2_with fail;refine HO.out.mono ?_;rintro e w3 ⟨rfl,hb3⟩;have H3:Hid (Fr Y w w3/\bf P es env (.ok b) Y2 w3/\aZ w3 Y2 w.heap.size p TA tc UA uc/\aF w3 Y2 OA oc ot):=aB ⟨H2.out.1.trans (Fr.below hb3),H2.out.2.2.1.later hb3,H2.out.2.2.2.1.later hb3,H2.out.2.2.2.2.later hb3⟩;clear hb3 HO
   obtain ⟨bb,htk⟩:∃bb,nI es ot aN=some bb:=by
    cases htk:nI es ot aN with
    |none=>rw [htk] at hr;cases hr
    |some bb=>exact ⟨bb,rfl⟩
   have ZI:=aB (Sv P es env b OA oc ot aN bb Y2 w3 HD.out.2.1 H3.out.2.1 H3.out.2.2.2 SI.out htk);unfold pk at ZI;rw [htk] at hr;go_wp2_with fail;refine ZI.out.mono ?_;rintro e w4 ⟨⟨v4,rfl⟩,hf4,hk4⟩;have H4:Hid (Fr Y w w4/\bf P es env (D9 bb aN 9 (.ok b)) Y2 w4/\aZ w4 Y2 w.heap.size p TA tc UA uc/\aF w4 Y2 OA oc ot):=aB ⟨Fr.new H3.out.1 hf4 H2.out.2.1,hk4,H3.out.2.2.1.fr hf4 (aj.refl _ _),H3.out.2.2.2.fr hf4 (aj.refl _ _)⟩;have k4:=Eb.out w4 _ H4.out.2.2.1;clear hf4 hk4 ZI htk;go_upto_region 6 with fail
   clear k4
   cases bb with
   |false=>
    have HR9:Hid (r= .error (aN,9)):=aB (by injection hr with hr;exact hr.symm);clear hr;go_loopw [25] (fun SH wr=>SH= .int .i64 0/\wr=w4) (fun _ _=>0)
    case atStart=>exact ⟨rfl,rfl⟩
    case round=>
     obtain ⟨rfl,rfl⟩:=hrel;have J8:=aB (jg P es env (.error (aN,9)) _ _ H4.out.2.1);simp only [qC] at J8;unfold pk at J8;go_wp2_with fail;refine J8.out.mono ?_;rintro e w5 ⟨rfl,hb5⟩
     have HQ:Hid (bI P es env Y r w (.returned (.slice none 0 0)) w5):=aB (by
      rw [HR9.out];exact ⟨Y2,H4.out.1.trans (Fr.below hb5),H2.out.2.1,H4.out.2.1.later hb5,_,_,_,rfl⟩)
     clear hb5;go_wp2_with fail;go_ret
     exact HQ.out
   |true=>
    obtain ⟨R,hR⟩:∃R,fO nx es env ot n b []=some R:=by
     cases h9:fO nx es env ot n b [] with
     |none=>simp only [h9] at hr;cases hr
     |some R=>exact ⟨R,rfl⟩
    simp only [hR] at hr;have HRR:=aB hr;have HI0:Hid (M7 P es env nx p TA tc UA uc Y w n R OA oc ot 0 Y2 b [] none 0 [] w4):=aB ⟨H4.out.1,H2.out.2.1,H4.out.2.1,H4.out.2.2.1,ay.nil,rfl,fun i v t hv=>by simp at hv,fun t ht=>by simp at ht,rfl,H4.out.2.2.2,hR⟩;clear hr hR;go_loopw [8,25] (fun s8 SH wr=>∃(k:Nat) (VA:Option Addr) (vc:Nat) (vs:List (Option Addr×Nat×Nat)),k<=n/\s8= .slice VA k vc/\SH= .int .i64 k/\((∃(Yk:Nat->Prop) (ak:Nat) (ts:List (List Nd)),Hid (M7 P es env nx p TA tc UA uc Y w n R OA oc ot k Yk ak ts VA vc vs wr))\/(∃(x:Nat×Int) (Yk:Nat->Prop),R= .error x/\1<=k/\Hid (M5 P es env p TA tc UA uc Y w x Yk wr/\iA wr w.heap.size VA vc vs/\vs.length=k)))) (fun _ SH _=>n-(Lib.intOf SH).toNat)
    case atStart=>exact ⟨0,none,0,[],cu _,rfl,rfl,.inl ⟨Y2,b,[],HI0⟩⟩
    case round=>
     clear HI0;obtain ⟨k,VA,vc,vs,hk,rfl,rfl,hmode⟩:=hrel;by_cases hlt:k<n
     ·rcases hmode with ⟨Yk,ak,ts,HI⟩|⟨x,Yk,Qe,hk1,HE⟩
      ·have oh:=aB (jg P es env _ _ _ HI.out.wk)
       simp only [qC] at oh;unfold pk at oh;go_wp2_with fail;refine oh.out.mono ?_;rintro e w5 ⟨rfl,hb5⟩;obtain ⟨x,hx,hst⟩:=Kg (m:=n-k-1) (by rw [show n-k-1+1=n-k by omega];exact HI.out.run);obtain ⟨a',p',e',⟨EA,ec,Ar,Au,bs,F4⟩,ha,hp,he⟩:=HI.out.wk.later hb5;subst ha hp he;obtain ⟨eb,eo,eA,hel,Z5,hpt,_⟩:=F4.ex _ _ hx;subst eA;obtain ⟨XA,xc,WA,wc,Z6,Z7,q0,q1,q2,q3,q4,q5,q6,q7⟩:=hpt;obtain ⟨c0,c1,_,_,_⟩:=F4.cells;have hal:=aP hx;have ZV:=F4.el;have W9:=F4.lt P ((F4.y P).2 (.inl rfl));have hPY:=(F4.y P).2 (.inl rfl);have HXs:=aB hst;have Ij:=aB F4;have HI2:Hid (Fr Y w w5/\aZ w5 Yk w.heap.size p TA tc UA uc/\iA w5 w.heap.size VA vc vs/\aF w5 Yk OA oc ot/\(∀(i:Nat) (v:Option Addr×Nat×Nat) (t:List Nd),vs[i]?=some v->ts[i]?=some t->v.2.1=t.length/\aF w5 Yk v.1 v.2.2 t)/\aF w5 Yk XA xc x.T/\aF w5 Yk WA wc x.U):=aB ⟨HI.out.fr.trans (Fr.below hb5),HI.out.pm.later hb5,HI.out.vt.below hb5 (aK _),HI.out.oo.later hb5,fun i v t hv ht=>⟨(HI.out.sl i v t hv ht).1,(HI.out.sl i v t hv ht).2.later hb5⟩,Z6,Z7⟩;clear hb5 F4 hst hx Z6 Z7;go_upto_region 9 with fail
       obtain ⟨SS,hSS⟩:∃SS:World->Prop,SS=fun v=>v.cell? ⟨P,0,none⟩=some (.slice (some ⟨eb,eo,none⟩) es.length ec)/\v.cell? ⟨P,1,none⟩=some (.int .i64 (a':Int))/\v.cell? ⟨eb,eo+a'*8,none⟩=some (.int .i64 x.k)/\v.cell? ⟨eb,eo+a'*8+1,none⟩=some (.string x.lb)/\v.cell? ⟨eb,eo+a'*8+2,none⟩=some (.string x.nm)/\v.cell? ⟨eb,eo+a'*8+3,none⟩=some (.string x.bd)/\v.cell? ⟨eb,eo+a'*8+4,none⟩=some (.int .i64 x.mn)/\v.cell? ⟨eb,eo+a'*8+5,none⟩=some (.int .i64 x.num)/\v.cell? ⟨eb,eo+a'*8+6,none⟩=some (.slice XA x.T.length xc)/\v.cell? ⟨eb,eo+a'*8+7,none⟩=some (.slice WA x.U.length wc):=⟨_,rfl⟩
       have HS:Hid (∀v,Below w5.heap.size w5 v->SS v):=aB fun v hv=>by
        rw [hSS];exact ⟨(hv.cell W9).trans c0,(hv.cell W9).trans c1,(hv.cell hel).trans q0,(hv.cell hel).trans q1,(hv.cell hel).trans q2,(hv.cell hel).trans q3,(hv.cell hel).trans q4,(hv.cell hel).trans q5,(hv.cell hel).trans q6,(hv.cell hel).trans q7⟩
       obtain ⟨wd,hwd⟩:∃wd,wd=w5.drew:=⟨_,rfl⟩;have bM:Hid (Below w5.heap.size w5 wd):=aB (by rw [hwd];exact (aI _ _).drew);have hsd:SS wd:=HS.out _ bM.out;refine aG (S:=SS) [11] (by kernel_rfl) (by rw [<-hwd];exact hsd) (fun hHeld=>?_);rw [<-hwd] at hHeld ⊢;clear hwd c0 c1 q0 q1 q2 q3 q4 q5 q6 q7;refine aM 0 [1,2,3,8,9,11] (some 30) rfl rfl ?_;refine aM 1 [2,3,8,9,11] (some 31) rfl rfl ?_;refine aM 2 [3,8,9,11] (some 32) rfl rfl ?_;refine aM 3 [8,9,11] (some 33) rfl rfl ?_;refine aM 4 [5,6,7,8,9,11] (some 34) rfl rfl ?_;refine aM 5 [6,7,8,9,11] (some 35) rfl rfl ?_;refine aM 6 [7,8,9,11] (some 36) rfl rfl ?_;refine aM 7 [8,9,11] (some 37) rfl rfl ?_;refine aM 8 [9,11] (some 38) rfl rfl ?_;refine aM 9 [11] (some 39) rfl rfl ?_;refine aX 10 (some 9) (v:=?_) (w':=?_) rfl rfl (by kernel_rfl) (by rfl) ?_ (fun _=>?_) ?_
       rotate_left
       rotate_left
       ·(go_simp;first|with_reducible rfl|(constructor<;>with_reducible rfl))
       ·exact HS.out _ (au bM.out _)
       refine aA ?_;refine jl 11 none (w':=?_) rfl rfl (by kernel_rfl) (by rfl) ?_ (zL (by kernel_rfl)) ?_
       rotate_left
       ·(go_simp;try with_reducible rfl)
       refine aA ?_;refine bB (by kernel_rfl) ?_ _;obtain ⟨we,j_⟩:∃we,we=wd.alloc (.cells #[.int .i64 x.k,.string x.lb,.string x.nm,.string x.bd,.int .i64 x.mn,.int .i64 x.num,.slice XA x.T.length xc,.slice WA x.U.length wc] 33):=⟨_,rfl⟩;have jF:Hid (Below w5.heap.size w5 we):=aB (by rw [j_];exact au bM.out _);obtain ⟨gx,hgx⟩:∃gx,gx=wd.heap.size:=⟨_,rfl⟩
       have HPX:Hid (aZ we Yk gx x XA xc WA wc):=aB (by
        rw [j_,hgx];exact aZ.new (fun q hq=>Nat.lt_of_lt_of_le (Ij.out.lt q hq) bM.out.size) (HI2.out.2.2.2.2.2.1.later bM.out) (HI2.out.2.2.2.2.2.2.later bM.out))
       have Qh:=aB (Ij.out.later jF.out);rw [<-j_,<-hgx];clear j_ hgx hHeld hsd HS hSS;obtain ⟨_,c1,_,_,_⟩:=Qh.out.cells;have f1:=Qh.out.frozen 1 (by omega);go_upto_region 11 with fail
       obtain ⟨w6,nS⟩:∃w6,w6=we.setCell ⟨P,1,none⟩ (.int .i64 ((a':Int)+1)):=⟨_,rfl⟩
       have H6:Hid (Fr Y w w6/\bf P es env (.ok (a'+1)) Yk w6/\aZ w6 Yk w.heap.size p TA tc UA uc/\iA w6 w.heap.size VA vc vs/\aF w6 Yk OA oc ot/\(∀(i:Nat) (v:Option Addr×Nat×Nat) (t:List Nd),vs[i]?=some v->ts[i]?=some t->v.2.1=t.length/\aF w6 Yk v.1 v.2.2 t)/\aZ w6 Yk gx x XA xc WA wc):=aB (by
        have hb:w6.heap[P]?=some (.cells #[.slice (some ⟨eb,eo,none⟩) es.length ec,.int .i64 ((a'+1:Nat):Int),.slice Ar bs.length Au,.int .i64 0,.int .i64 0] 60 (0,0)):=by
         rw [nS,heap_set Qh.out.blk 1];rfl
        have hf:Fr (fun q=>q=P) we w6:=by rw [nS];exact dZ _ _ _ _
        have hp:=Qh.out.put hb hf;have SK:Fr Yk w5 w6:=(Fr.below jF.out).trans hp.2;exact ⟨Fr.new HI2.out.1 SK HI.out.yn,⟨_,_,_,⟨_,_,_,_,_,hp.1⟩,rfl,rfl,rfl⟩,HI2.out.2.1.fr SK (aj.refl _ _),ay.step HI2.out.2.2.1 (show bf P es env (.ok a') Yk w5 from ⟨_,_,_,⟨_,_,_,_,_,Ij.out⟩,rfl,rfl,rfl⟩) SK (by decide) (by decide),HI2.out.2.2.2.1.fr SK (aj.refl _ _),fun i v t hv ht=>⟨(HI2.out.2.2.2.2.1 i v t hv ht).1,(HI2.out.2.2.2.2.1 i v t hv ht).2.fr SK (aj.refl _ _)⟩,HPX.out.fr hp.2 (aj.refl _ _)⟩)
       rw [<-nS];clear nS c1 f1;have xG:=aB (t_ OA oc ot x.lb w6 H6.out.2.2.2.2.1.ty.eY SI.out H6.out.2.2.2.2.1.cap);obtain ⟨m0,m1,m2,m3,m4,m6,m7⟩:=H6.out.2.2.2.2.2.2.cells;go_wp2_with fail;refine xG.out.mono ?_;intro e w7 hp7;obtain ⟨CX,c10,er,rfl,l8,ho7⟩:=M8 _ _ _ _ _ hp7;clear hp7 m0 m1 m2 m3 m4 m6 m7;obtain ⟨u,hu⟩:∃u,u=(bG ot x.lb).getD []:=⟨_,rfl⟩;rw [<-hu] at ho7 ⊢;have ad8:=HXs;rw [<-hu] at ad8;have H7:Hid (Fr Y w w7/\bf P es env (.ok (a'+1)) Yk w7/\aZ w7 Yk w.heap.size p TA tc UA uc/\iA w7 w.heap.size VA vc vs/\aF w7 Yk OA oc ot/\(∀(i:Nat) (v:Option Addr×Nat×Nat) (t:List Nd),vs[i]?=some v->ts[i]?=some t->v.2.1=t.length/\aF w7 Yk v.1 v.2.2 t)/\aZ w7 Yk gx x XA xc WA wc/\aF w7 Yk CX c10 u):=aB ⟨H6.out.1.trans (Fr.below l8),H6.out.2.1.later l8,H6.out.2.2.1.later l8,H6.out.2.2.2.1.below l8 (aK _),H6.out.2.2.2.2.1.later l8,fun i v t hv ht=>⟨(H6.out.2.2.2.2.2.1 i v t hv ht).1,(H6.out.2.2.2.2.2.1 i v t hv ht).2.later l8⟩,H6.out.2.2.2.2.2.2.later l8,aF.own ho7 H6.out.2.1.lt⟩;clear l8 ho7 hu HXs xG H6 Qh Ij;obtain ⟨m0,m1,m2,m3,m4,m6,m7⟩:=H7.out.2.2.2.2.2.2.1.cells;have hvk:vs.length=k:=by rw [HI.out.vl,HI.out.len]
       have M6:=aB hvk;have HW:=aB (fun r1 (h1:nx (env++[(x.bd,u)]) (a'+1)=some r1)=>qM P es nx HN env [(x.bd,u)] (.ok (a'+1)) r1 (some ⟨w7.heap.size,0,none⟩) 1 [⟨x.bd,CX,u.length,c10⟩] Yk (w7.alloc (.cells #[.string x.bd,.slice CX u.length c10] 36)) (H7.out.2.1.later (au (aI _ _) _)) (by rw [World.size_alloc];exact kP w7 ⟨x.bd,CX,u.length,c10⟩) (dY.one (H7.out.2.2.2.2.2.2.2.later (au (aI _ _) _)) rfl) (by simp) HD.out.2.2 h1);have Cz:Hid (Below w7.heap.size w7 (w7.alloc (.cells #[.string x.bd,.slice CX u.length c10] 36))):=aB (au (aI _ _) _);have HKw:Hid (bf P es env (.ok (a'+1)) Yk (w7.alloc (.cells #[.string x.bd,.slice CX u.length c10] 36))):=aB (H7.out.2.1.later Cz.out);unfold pk at HW;clear hvk;rcases ad8.out with ⟨x2,h1,hr2⟩|⟨t,b2,h1,hr2⟩
       ·have za:=aB (HW.out _ h1)
        clear HW;go_wp2_with fail;refine za.out.mono ?_;rintro e w8 ⟨Y6,gZ,j4,oq,rfl⟩
        have H8:Hid (Fr Y w w8/\aj Y Y6 w/\bf P es env (.error x2) Y6 w8/\aZ w8 Y6 w.heap.size p TA tc UA uc/\iA w8 w.heap.size VA vc vs):=aB (by
         have f0:=H7.out.1.trans (Fr.below Cz.out);exact ⟨Fr.new f0 gZ HI.out.yn,aj.trans HI.out.yn j4 f0.size,oq,(H7.out.2.2.1.later Cz.out).fr gZ j4,ay.step (H7.out.2.2.2.1.below Cz.out (aK _)) HKw.out gZ (by decide) (by decide)⟩)
        clear gZ j4 oq h1 m0 m1 m2 m3 m4 m6 m7;go_wp2_with (at_builtin;refine nL rfl (.tmp 54) (.tmp 62) rfl w.heap.size (m:=k) (n:=1) M6.out rfl (ay.alloc H8.out.2.2.2.2 _) (l2:=[(none,0,0)]) rfl rfl (oK w8 (none,0,0)) (by omega) (by have:=H8.out.1.size;simp;omega) ?_;intro uP xC w9 nQ tY);have ug:Hid (iF (w8.alloc (.cells #[.slice none 0 0] 28)) w9 28 Y6):=aB (iF.grown (ay.alloc H8.out.2.2.2.2 _) rfl tY H8.out.2.2.1.yP (Nat.le_of_lt vL.out));have pK:Hid (Below w8.heap.size w8 (w8.alloc (.cells #[.slice none 0 0] 28))):=aB (au (aI _ _) _);have qD:Hid (M5 P es env p TA tc UA uc Y w x2 Y6 w9/\iA w9 w.heap.size uP xC (vs++[(none,0,0)])/\(vs++[((none:Option Addr),0,0)]).length=k+1):=aB ⟨⟨Fr.new (H8.out.1.trans (Fr.below pK.out)) (Fr.grown tY fun q e=>e) (fun q e=>.inr (ay.block H8.out.2.2.2.2 q e).1),H8.out.2.1,(H8.out.2.2.1.later pK.out).bW ug.out (by decide) (by decide) (by decide) (by decide),(H8.out.2.2.2.1.later pK.out).bW ug.out (by decide) (by decide)⟩,nQ,by rw [lS,M6.out];rfl⟩;clear nQ tY;go_wp2_with fail;go_roundw
        case rel=>exact ⟨k+1,uP,xC,_,by omega,by go_num,by go_num,.inr ⟨x2,Y6,hr2,by omega,qD⟩⟩
        case measure=>simp [Lib.intOf];omega
       ·have za:=aB (HW.out _ h1)
        clear HW;go_wp2_with fail;refine za.out.mono ?_;rintro e w8 ⟨Y6,gZ,j4,oq,A6,c6,rfl,CV⟩
        have H8:Hid (Fr Y w w8/\aj Y Y6 w/\bf P es env (.ok b2) Y6 w8/\aZ w8 Y6 w.heap.size p TA tc UA uc/\iA w8 w.heap.size VA vc vs/\aF w8 Y6 OA oc ot/\aF w8 Y6 A6 c6 t/\∀(i:Nat) (v:Option Addr×Nat×Nat) (t:List Nd),vs[i]?=some v->ts[i]?=some t->v.2.1=t.length/\aF w8 Y6 v.1 v.2.2 t):=aB (by
         have f0:=H7.out.1.trans (Fr.below Cz.out);exact ⟨Fr.new f0 gZ HI.out.yn,aj.trans HI.out.yn j4 f0.size,oq,(H7.out.2.2.1.later Cz.out).fr gZ j4,ay.step (H7.out.2.2.2.1.below Cz.out (aK _)) HKw.out gZ (by decide) (by decide),(H7.out.2.2.2.2.1.later Cz.out).fr gZ j4,CV,fun i v t hv ht=>⟨(H7.out.2.2.2.2.2.1 i v t hv ht).1,((H7.out.2.2.2.2.2.1 i v t hv ht).2.later Cz.out).fr gZ j4⟩⟩)
        have SF:=aB (HD.out.1 _ _ _ _ h1);have Qf:=aB hr2;clear gZ j4 oq CV h1 hr2 m0 m1 m2 m3 m4 m6 m7;go_wp2_with (at_builtin;refine nL rfl (.tmp 54) (.tmp 62) rfl w.heap.size (m:=k) (n:=1) M6.out rfl (ay.alloc H8.out.2.2.2.2.1 _) (l2:=[(A6,t.length,c6)]) rfl rfl (oK w8 (A6,t.length,c6)) (by omega) (by have:=H8.out.1.size;simp;omega) ?_;intro uP xC w9 nQ tY);have ug:Hid (iF (w8.alloc (.cells #[.slice A6 t.length c6] 28)) w9 28 Y6):=aB (iF.grown (ay.alloc H8.out.2.2.2.2.1 _) rfl tY H8.out.2.2.1.yP (Nat.le_of_lt vL.out));have pK:Hid (Below w8.heap.size w8 (w8.alloc (.cells #[.slice A6 t.length c6] 28))):=aB (au (aI _ _) _)
        have nW:Hid (M7 P es env nx p TA tc UA uc Y w n R OA oc ot (k+1) Y6 b2 (ts++[t]) uP xC (vs++[(A6,t.length,c6)]) w9):=aB (by
         refine ⟨Fr.new (H8.out.1.trans (Fr.below pK.out)) (Fr.grown tY fun q e=>e) (fun q e=>.inr (ay.block H8.out.2.2.2.2.1 q e).1),H8.out.2.1,(H8.out.2.2.1.later pK.out).bW ug.out (by decide) (by decide) (by decide) (by decide),(H8.out.2.2.2.1.later pK.out).bW ug.out (by decide) (by decide),nQ,?_,?_,?_,?_,(H8.out.2.2.2.2.2.1.later pK.out).bW ug.out (by decide),?_⟩
         ·rw [lS,lS,HI.out.vl]
          rfl
         ·intro i v t2 hv hf
          rcases Nat.lt_or_ge i vs.length with hi|hi
          ·rw [YX hi] at hv
           rw [YX (by rw [<-HI.out.vl];exact hi)] at hf;exact ⟨(H8.out.2.2.2.2.2.2.2 i v t2 hv hf).1,((H8.out.2.2.2.2.2.2.2 i v t2 hv hf).2.later pK.out).bW ug.out (by decide)⟩
          ·rw [kg hi] at hv
           rw [kg (by rw [<-HI.out.vl];exact hi),<-HI.out.vl] at hf
           cases hj:i-vs.length with
           |zero=>
            rw [hj] at hv hf;simp at hv hf;subst hv hf
            exact ⟨rfl,(H8.out.2.2.2.2.2.2.1.later pK.out).bW ug.out (by decide)⟩
           |succ j=>rw [hj] at hv;simp at hv
         ·intro f hf
          rcases List.mem_append.1 hf with hf|hf
          ·exact HI.out.gd f hf
          ·simp at hf
           subst hf;exact SF.out
         ·rw [lS,HI.out.len]
          rfl
         ·rw [show n-(k+1)=n-k-1 by omega]
          exact Qf.out)
        clear nQ tY;go_wp2_with fail;go_roundw
        case rel=>exact ⟨k+1,uP,xC,vs++[(A6,t.length,c6)],by omega,by go_num,by go_num,.inl ⟨Y6,b2,ts++[t],nW⟩⟩
        case measure=>simp [Lib.intOf];omega
      ·have oh:=aB (jg P es env _ _ _ HE.out.1.wk)
       simp only [qC] at oh;unfold pk at oh;go_wp2_with fail;refine oh.out.mono ?_;rintro e w5 ⟨rfl,hb5⟩
       have HQ:Hid (bI P es env Y r w (.returned (.slice none 0 0)) w5):=aB (by
        have BL:r= .error x:=by
         have:=HRR.out;rw [Qe] at this;injection this with this
         exact this.symm
        rw [BL];exact ⟨Yk,HE.out.1.fr.trans (Fr.below hb5),HE.out.1.yn,HE.out.1.wk.later hb5,_,_,_,rfl⟩)
       clear hb5 Qe;go_wp2_with fail;go_ret;exact HQ.out
     ·have hkn:k=n:=by omega
      subst hkn
      have hex:∃(v0:Option Addr×Nat×Nat) (vr:List (Option Addr×Nat×Nat)),vs=v0::vr/\vr.length+1=k/\iA wr w.heap.size VA vc vs/\((∃(Yj:Nat->Prop) (ak:Nat) (m:List Nd) (tr:List (List Nd)),v0.2.1=m.length/\CM P es env aN r p TA tc UA uc Y w VA vc v0 vr tr ak Yj m v0.1 v0.2.2 0 wr)\/(∃(x:Nat×Int) (Yj:Nat->Prop),CE P es env r p TA tc UA uc Y w VA vc v0 vr x Yj wr)):=by
       rcases hmode with ⟨Yk,ak,ts,HI⟩|⟨x,Yk,Qe,hk1,HE⟩
       ·have HI:=HI.out
        have hR2:R= .ok (ts,ak):=by
         have:=HI.run;rw [Nat.sub_self] at this;unfold fO at this;injection this with this
         exact this.symm
        obtain ⟨t0,tr,rfl⟩:∃t0 tr,ts=t0::tr:=by
         cases ts with
         |nil=>have:=HI.len;simp at this;omega
         |cons t0 tr=>exact ⟨t0,tr,rfl⟩
        obtain ⟨v0,vr,rfl⟩:∃v0 vr,vs=v0::vr:=by
         cases vs with
         |nil=>have:=HI.vl;simp at this
         |cons v0 vr=>exact ⟨v0,vr,rfl⟩
        have hv0:=HI.sl 0 v0 t0 rfl rfl;refine ⟨v0,vr,rfl,by have:=HI.vl;have h2:=HI.len;rw [<-this] at h2;simpa using h2,HI.vt,.inl ⟨Yk,ak,t0,tr,hv0.1,HI.fr,HI.yn,HI.wk,HI.vt,fun i v t hv ht=>HI.sl (i+1) v t (by rw [OO];exact hv) (by rw [OO];exact ht),hv0.2,HI.gd t0 (by simp),by have:=HI.vl;simpa using this,fun t ht=>HI.gd t (by simp [ht]),?_⟩⟩;have:=HRR.out;rw [hR2] at this;simp only [List.drop_zero] at this ⊢
        cases h9:bT aN t0 tr with
        |none=>rw [h9] at this;cases this
        |some RR=>
         rw [h9] at this;refine ⟨RR,rfl,fun x hx=>?_,fun m hx=>?_⟩
         ·rw [hx] at this
          injection this with this
          exact this.symm
         ·rw [hx] at this
          injection this with this
          exact this.symm
       ·obtain ⟨v0,vr,rfl⟩:∃v0 vr,vs=v0::vr:=by
         cases vs with
         |nil=>have:=HE.out.2.2;simp at this;omega
         |cons v0 vr=>exact ⟨v0,vr,rfl⟩
        have BL:r= .error x:=by
         have:=HRR.out;rw [Qe] at this;injection this with this
         exact this.symm
        exact ⟨v0,vr,rfl,by have:=HE.out.2.2;simpa using this,HE.out.2.1,.inr ⟨x,Yk,BL,HE.out.1.fr,HE.out.1.yn,HE.out.1.wk,HE.out.2.1⟩⟩
      obtain ⟨v0,vr,rfl,hvn,hown,hmd⟩:=hex;have Qi:=aB hvn;have aqw:=aB hown;have Z8:=aB hmd;obtain ⟨g,rfl,hg0,hgl,hg1,hg2⟩:=ay.form hown (by simp);have hcap:=ay.l5 hown;rw [List.length_cons,hvn] at hcap;obtain ⟨_,_,eg,_,hz0⟩:=aS.slice (ay.read jv hown) (i:=0) (v:=v0) rfl;injection eg with eg
      injection eg with M9 M_ _
      subst M9 M_;rw [Nat.add_zero] at hz0;clear hg0 hgl hg1 hg2 hvn hown hmd hmode hk hlt;by_cases hc1:vc=1
      ·have HR3:Hid (∀v,iA v w.heap.size (some ⟨g,0,none⟩) vc (v0::vr)->jV v v.heap.size (some ⟨g,0,none⟩) vr):=aB (fun v hv=>by have:=jV.cut (ay.read jv hv) (ay.l5 hv);rwa [if_pos hc1] at this)
       go_wp2_with fail;clear hz0 hcap hc1;go_loopw [12,71] (fun s12 SL wr=>∃j:Nat,j<=k-1/\SL= .int .i64 j/\((∃(Yj:Nat->Prop) (ak:Nat) (m:List Nd) (tr:List (List Nd)) (MA:Option Addr) (mc:Nat),s12= .slice MA m.length mc/\Hid (CM P es env aN r p TA tc UA uc Y w (some ⟨g,0,none⟩) vc v0 vr tr ak Yj m MA mc j wr))\/(∃(x:Nat×Int) (Yj:Nat->Prop) (MA:Option Addr) (mn mc:Nat),s12= .slice MA mn mc/\Hid (CE P es env r p TA tc UA uc Y w (some ⟨g,0,none⟩) vc v0 vr x Yj wr)))) (fun _ SL _=>(k-1)-(Lib.intOf SL).toNat)
       case atStart=>
        refine ⟨0,cu _,rfl,?_⟩;rcases Z8.out with ⟨Yj,ak,m,tr,hm0,h⟩|⟨x,Yj,h⟩
        ·exact .inl ⟨Yj,ak,m,tr,v0.1,v0.2.2,by rw [<-hm0],aB h⟩
        ·exact .inr ⟨x,Yj,v0.1,v0.2.1,v0.2.2,rfl,aB h⟩
       case round=>
        obtain ⟨j,hj,rfl,Na⟩:=hrel;rcases Na with ⟨Yj,ak,m,tr,MA,mc,rfl,HC⟩|⟨x,Yj,MA,mn,mc,rfl,HC⟩
        ·by_cases hlt2:j<k-1
         ·obtain ⟨v,hv⟩:=aJ (l:=vr) (i:=j) (by have:=Qi.out;omega)
          obtain ⟨t,ht⟩:=aJ (l:=tr) (i:=j) (by have:=Qi.out;have:=HC.out.2.2.2.2.2.2.2.1;omega);obtain ⟨e1,e2⟩:=HC.out.2.2.2.2.1 j v t hv ht;obtain ⟨_,_,eg,_,hz⟩:=aS.slice (HR3.out _ HC.out.2.2.2.1) hv;injection eg with eg
          injection eg with M9 M_ _
          subst M9 M_;rw [e1] at hz;rw [Nat.zero_add] at hz;obtain ⟨RR,hrun,hx1,hx2⟩:=HC.out.2.2.2.2.2.2.2.2.2
          have hdr:tr.drop j=t::tr.drop (j+1):=by
           obtain ⟨_,h2⟩:=RQ.1 ht;rw [aU (aP ht),h2]
          rw [hdr] at hrun;have hgt:=HC.out.2.2.2.2.2.2.2.2.1 t (O8 ht);have SN:=aB (DF hx1 hx2);rcases CW hrun with ⟨Ik,BL⟩|⟨m2,Ik,oM,BL⟩
          ·have HX:=aB (yV P es env ak MA v.1 mc v.2.2 m t aN (.error (aN,9)) Yj wr HC.out.2.2.1 HC.out.2.2.2.2.2.1 e2 HC.out.2.2.2.2.2.2.1 hgt (by unfold sj;rw [Ik]))
           unfold pk at HX;have Nb:=aB BL;clear hrun hx1 hx2 hdr hgt hv ht e1 e2 Ik BL;go_wp2_with fail;refine HX.out.mono ?_;rintro e w6 ⟨Y6,gZ,j4,oq,rfl⟩;have H6:Hid (CE P es env r p TA tc UA uc Y w (some ⟨g,0,none⟩) vc v0 vr (aN,9) Y6 w6):=aB ⟨SN.out.1 _ Nb.out,Fr.new HC.out.1 gZ HC.out.2.1,aj.trans HC.out.2.1 j4 HC.out.1.size,oq,ay.step HC.out.2.2.2.1 HC.out.2.2.1 gZ (by decide) (by decide)⟩;clear gZ j4 oq hz;go_wp2_with fail;go_roundw
           case rel=>exact ⟨j+1,by omega,by go_num,.inr ⟨_,Y6,none,0,0,rfl,H6⟩⟩
           case measure=>simp [Lib.intOf];omega
          ·have HX:=aB (yV P es env ak MA v.1 mc v.2.2 m t aN (.ok (m2,ak)) Yj wr HC.out.2.2.1 HC.out.2.2.2.2.2.1 e2 HC.out.2.2.2.2.2.2.1 hgt (by unfold sj;rw [Ik]))
           unfold pk at HX;have Nb:=aB (DF BL oM);clear hrun hx1 hx2 hdr hgt hv ht e1 e2 Ik BL oM;go_wp2_with fail;refine HX.out.mono ?_;rintro e w6 ⟨Y6,gZ,j4,oq,A6,c6,rfl,CV⟩;have H6:Hid (CM P es env aN r p TA tc UA uc Y w (some ⟨g,0,none⟩) vc v0 vr tr ak Y6 m2 A6 c6 (j+1) w6):=aB ⟨Fr.new HC.out.1 gZ HC.out.2.1,aj.trans HC.out.2.1 j4 HC.out.1.size,oq,ay.step HC.out.2.2.2.1 HC.out.2.2.1 gZ (by decide) (by decide),fun i v t hv ht=>⟨(HC.out.2.2.2.2.1 i v t hv ht).1,(HC.out.2.2.2.2.1 i v t hv ht).2.fr gZ j4⟩,CV,Nb.out.2,HC.out.2.2.2.2.2.2.2.1,HC.out.2.2.2.2.2.2.2.2.1,RR,Nb.out.1,SN.out.1,SN.out.2⟩;clear gZ j4 oq hz CV;go_wp2_with fail;go_roundw
           case rel=>exact ⟨j+1,by omega,by go_num,.inl ⟨Y6,ak,m2,tr,A6,c6,rfl,H6⟩⟩
           case measure=>simp [Lib.intOf];omega
         ·have HQ:Hid (bI P es env Y r w (.returned (.slice MA m.length mc)) wr):=aB (by
           obtain ⟨RR,hrun,hx1,hx2⟩:=HC.out.2.2.2.2.2.2.2.2.2;have hdr:tr.drop j=[]:=JU (by have:=Qi.out;have:=HC.out.2.2.2.2.2.2.2.1;omega);rw [hdr] at hrun;unfold bT at hrun;injection hrun with hrun
           rw [hx2 m hrun.symm];exact ⟨Yj,HC.out.1,HC.out.2.1,HC.out.2.2.1,MA,mc,rfl,HC.out.2.2.2.2.2.1⟩)
          go_wp2_with fail;go_ret;exact HQ.out
        ·by_cases hlt2:j<k-1
         ·obtain ⟨v,hv⟩:=aJ (l:=vr) (i:=j) (by have:=Qi.out;omega)
          obtain ⟨_,_,eg,_,hz⟩:=aS.slice (HR3.out _ HC.out.2.2.2.2) hv;injection eg with eg
          injection eg with M9 M_ _
          subst M9 M_;rw [Nat.zero_add] at hz;have HX:=aB (tC P es env x (.slice MA mn mc) (.slice v.1 v.2.1 v.2.2) aN Yj wr HC.out.2.2.2.1);unfold pk at HX;clear hv;go_wp2_with fail;refine HX.out.mono ?_;rintro e w6 ⟨Y6,gZ,j4,oq,rfl⟩;have H6:Hid (CE P es env r p TA tc UA uc Y w (some ⟨g,0,none⟩) vc v0 vr x Y6 w6):=aB ⟨HC.out.1,Fr.new HC.out.2.1 gZ HC.out.2.2.1,aj.trans HC.out.2.2.1 j4 HC.out.2.1.size,oq,ay.step HC.out.2.2.2.2 HC.out.2.2.2.1 gZ (by decide) (by decide)⟩;clear gZ j4 oq hz;go_wp2_with fail;go_roundw
          case rel=>exact ⟨j+1,by omega,by go_num,.inr ⟨_,Y6,none,0,0,rfl,H6⟩⟩
          case measure=>simp [Lib.intOf];omega
         ·have HQ:Hid (bI P es env Y r w (.returned (.slice MA mn mc)) wr):=aB (by
           rw [HC.out.1];exact ⟨Yj,HC.out.2.1,HC.out.2.2.1,HC.out.2.2.2.1,_,_,_,rfl⟩)
          go_wp2_with fail;go_ret;exact HQ.out
      ·have HR3:Hid (∀v,iA v w.heap.size (some ⟨g,0,none⟩) vc (v0::vr)->jV v v.heap.size (some ⟨g,1,none⟩) vr):=aB (fun v hv=>by have:=jV.cut (ay.read jv hv) (ay.l5 hv);rwa [if_neg hc1] at this)
       go_wp2_with fail;clear hz0 hcap hc1;go_loopw [12,71] (fun s12 SL wr=>∃j:Nat,j<=k-1/\SL= .int .i64 j/\((∃(Yj:Nat->Prop) (ak:Nat) (m:List Nd) (tr:List (List Nd)) (MA:Option Addr) (mc:Nat),s12= .slice MA m.length mc/\Hid (CM P es env aN r p TA tc UA uc Y w (some ⟨g,0,none⟩) vc v0 vr tr ak Yj m MA mc j wr))\/(∃(x:Nat×Int) (Yj:Nat->Prop) (MA:Option Addr) (mn mc:Nat),s12= .slice MA mn mc/\Hid (CE P es env r p TA tc UA uc Y w (some ⟨g,0,none⟩) vc v0 vr x Yj wr)))) (fun _ SL _=>(k-1)-(Lib.intOf SL).toNat)
       case atStart=>
        refine ⟨0,cu _,rfl,?_⟩;rcases Z8.out with ⟨Yj,ak,m,tr,hm0,h⟩|⟨x,Yj,h⟩
        ·exact .inl ⟨Yj,ak,m,tr,v0.1,v0.2.2,by rw [<-hm0],aB h⟩
        ·exact .inr ⟨x,Yj,v0.1,v0.2.1,v0.2.2,rfl,aB h⟩
       case round=>
        obtain ⟨j,hj,rfl,Na⟩:=hrel;rcases Na with ⟨Yj,ak,m,tr,MA,mc,rfl,HC⟩|⟨x,Yj,MA,mn,mc,rfl,HC⟩
        ·by_cases hlt2:j<k-1
         ·obtain ⟨v,hv⟩:=aJ (l:=vr) (i:=j) (by have:=Qi.out;omega)
          obtain ⟨t,ht⟩:=aJ (l:=tr) (i:=j) (by have:=Qi.out;have:=HC.out.2.2.2.2.2.2.2.1;omega);obtain ⟨e1,e2⟩:=HC.out.2.2.2.2.1 j v t hv ht;obtain ⟨_,_,eg,_,hz⟩:=aS.slice (HR3.out _ HC.out.2.2.2.1) hv;injection eg with eg
          injection eg with M9 M_ _
          subst M9 M_;rw [e1] at hz;obtain ⟨RR,hrun,hx1,hx2⟩:=HC.out.2.2.2.2.2.2.2.2.2
          have hdr:tr.drop j=t::tr.drop (j+1):=by
           obtain ⟨_,h2⟩:=RQ.1 ht;rw [aU (aP ht),h2]
          rw [hdr] at hrun;have hgt:=HC.out.2.2.2.2.2.2.2.2.1 t (O8 ht);have SN:=aB (DF hx1 hx2);rcases CW hrun with ⟨Ik,BL⟩|⟨m2,Ik,oM,BL⟩
          ·have HX:=aB (yV P es env ak MA v.1 mc v.2.2 m t aN (.error (aN,9)) Yj wr HC.out.2.2.1 HC.out.2.2.2.2.2.1 e2 HC.out.2.2.2.2.2.2.1 hgt (by unfold sj;rw [Ik]))
           unfold pk at HX;have Nb:=aB BL;clear hrun hx1 hx2 hdr hgt hv ht e1 e2 Ik BL;go_wp2_with fail;refine HX.out.mono ?_;rintro e w6 ⟨Y6,gZ,j4,oq,rfl⟩;have H6:Hid (CE P es env r p TA tc UA uc Y w (some ⟨g,0,none⟩) vc v0 vr (aN,9) Y6 w6):=aB ⟨SN.out.1 _ Nb.out,Fr.new HC.out.1 gZ HC.out.2.1,aj.trans HC.out.2.1 j4 HC.out.1.size,oq,ay.step HC.out.2.2.2.1 HC.out.2.2.1 gZ (by decide) (by decide)⟩;clear gZ j4 oq hz;go_wp2_with fail;go_roundw
           case rel=>exact ⟨j+1,by omega,by go_num,.inr ⟨_,Y6,none,0,0,rfl,H6⟩⟩
           case measure=>simp [Lib.intOf];omega
          ·have HX:=aB (yV P es env ak MA v.1 mc v.2.2 m t aN (.ok (m2,ak)) Yj wr HC.out.2.2.1 HC.out.2.2.2.2.2.1 e2 HC.out.2.2.2.2.2.2.1 hgt (by unfold sj;rw [Ik]))
           unfold pk at HX;have Nb:=aB (DF BL oM);clear hrun hx1 hx2 hdr hgt hv ht e1 e2 Ik BL oM;go_wp2_with fail;refine HX.out.mono ?_;rintro e w6 ⟨Y6,gZ,j4,oq,A6,c6,rfl,CV⟩;have H6:Hid (CM P es env aN r p TA tc UA uc Y w (some ⟨g,0,none⟩) vc v0 vr tr ak Y6 m2 A6 c6 (j+1) w6):=aB ⟨Fr.new HC.out.1 gZ HC.out.2.1,aj.trans HC.out.2.1 j4 HC.out.1.size,oq,ay.step HC.out.2.2.2.1 HC.out.2.2.1 gZ (by decide) (by decide),fun i v t hv ht=>⟨(HC.out.2.2.2.2.1 i v t hv ht).1,(HC.out.2.2.2.2.1 i v t hv ht).2.fr gZ j4⟩,CV,Nb.out.2,HC.out.2.2.2.2.2.2.2.1,HC.out.2.2.2.2.2.2.2.2.1,RR,Nb.out.1,SN.out.1,SN.out.2⟩;clear gZ j4 oq hz CV;go_wp2_with fail;go_roundw
           case rel=>exact ⟨j+1,by omega,by go_num,.inl ⟨Y6,ak,m2,tr,A6,c6,rfl,H6⟩⟩
           case measure=>simp [Lib.intOf];omega
         ·have HQ:Hid (bI P es env Y r w (.returned (.slice MA m.length mc)) wr):=aB (by
           obtain ⟨RR,hrun,hx1,hx2⟩:=HC.out.2.2.2.2.2.2.2.2.2;have hdr:tr.drop j=[]:=JU (by have:=Qi.out;have:=HC.out.2.2.2.2.2.2.2.1;omega);rw [hdr] at hrun;unfold bT at hrun;injection hrun with hrun
           rw [hx2 m hrun.symm];exact ⟨Yj,HC.out.1,HC.out.2.1,HC.out.2.2.1,MA,mc,rfl,HC.out.2.2.2.2.2.1⟩)
          go_wp2_with fail;go_ret;exact HQ.out
        ·by_cases hlt2:j<k-1
         ·obtain ⟨v,hv⟩:=aJ (l:=vr) (i:=j) (by have:=Qi.out;omega)
          obtain ⟨_,_,eg,_,hz⟩:=aS.slice (HR3.out _ HC.out.2.2.2.2) hv;injection eg with eg
          injection eg with M9 M_ _
          subst M9 M_;have HX:=aB (tC P es env x (.slice MA mn mc) (.slice v.1 v.2.1 v.2.2) aN Yj wr HC.out.2.2.2.1);unfold pk at HX;clear hv;go_wp2_with fail;refine HX.out.mono ?_;rintro e w6 ⟨Y6,gZ,j4,oq,rfl⟩;have H6:Hid (CE P es env r p TA tc UA uc Y w (some ⟨g,0,none⟩) vc v0 vr x Y6 w6):=aB ⟨HC.out.1,Fr.new HC.out.2.1 gZ HC.out.2.2.1,aj.trans HC.out.2.2.1 j4 HC.out.2.1.size,oq,ay.step HC.out.2.2.2.2 HC.out.2.2.2.1 gZ (by decide) (by decide)⟩;clear gZ j4 oq hz;go_wp2_with fail;go_roundw
          case rel=>exact ⟨j+1,by omega,by go_num,.inr ⟨_,Y6,none,0,0,rfl,H6⟩⟩
          case measure=>simp [Lib.intOf];omega
         ·have HQ:Hid (bI P es env Y r w (.returned (.slice MA mn mc)) wr):=aB (by
           rw [HC.out.1];exact ⟨Yj,HC.out.2.1,HC.out.2.2.1,HC.out.2.2.2.1,_,_,_,rfl⟩)
          go_wp2_with fail;go_ret;exact HQ.out
 ·cases hm
end Go.Proofs.YtmjdhfbnmmdjiaaGreat
