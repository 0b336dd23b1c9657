/- Laid together by a tool from the texts of this seat: ChC. Conditions: each theorem's own. -/
import Derived.Test.YtmjdhfbnmmdjiaaGreatJ13
import Derived.Test.YtmjdhfbnmmdjiaaGreatJ15
set_option maxHeartbeats 8000000
set_option maxRecDepth 100000
namespace Go.Proofs.YtmjdhfbnmmdjiaaGreat
open Go.Lib renaming hid->aD
open Go.RowKit.Below renaming refl->aF
open _root_.And renaming intro->Cj
open _root_.Nat renaming le_refl->aG,zero_le->bE
open _root_.List renaming length_append->jX,getElem?_cons_succ->FR,getElem?_append_left->aaf,getElem?_append_right->jd,getElem?_eq_some_iff->Ro,drop_eq_getElem_cons->aJ,mem_of_getElem?->Ox,drop_eq_nil_of_le->M6
open Go.RowKit
theorem Ja {nx:Nx} {es:List Pt} {env:Env} {ot:List Nd} {m a:Nat} {ts:List (List Nd)} {R:Except (Nat×Int) (List (List Nd)×Nat)} (h:eu nx es env ot (m+1) a ts=some R):
  ∃x,es[a]?=some x/\((∃b,nx (env++[(x.bd,(bJ ot x.lb).getD [])]) (a+1)=some (.error b)/\R= .error b)\/∃t b,nx (env++[(x.bd,(bJ ot x.lb).getD [])]) (a+1)=some (.ok (t,b))/\eu nx es env ot m b (ts++[t])=some R):=by
 unfold eu at h;split at h
 ·cases h
 ·rename_i x hx
  refine ⟨x,hx,?_⟩;split at h
  ·cases h
  ·rename_i b hb
   injection h with h
   exact .inl ⟨b,hb,h.symm⟩
  ·rename_i t b hb
   exact .inr ⟨t,b,hb,h⟩
theorem jU.cut {w:World} {B g c:Nat} {v:Option Addr×Nat×Nat} {vs:List (Option Addr×Nat×Nat)} (h:jU w B (some ⟨g,0,none⟩) (v::vs)) (hc:(v::vs).length<=c):jU w B (if c=1 then some ⟨g,0,none⟩ else some ⟨g,1,none⟩) vs:=fun hne=>by
 obtain ⟨b,o,e,hb,hr⟩:=h (by simp);injection e with e
 injection e with e1 e2 _
 subst e1 e2
 have hc1:¬c=1:=fun e=>by
  cases vs with
  |nil=>exact hne rfl
  |cons _ _=>simp at hc;omega
 rw [if_neg hc1];refine ⟨g,1,rfl,hb,fun i x hx j u hu=>?_⟩;have:=hr (i+1) x (by rw [FR];exact hx) j u hu;rw [show 0+(i+1)*1+j=1+i*1+j by omega] at this;exact this
theorem Bu {aK:Nat} {m t:List Nd} {ts:List (List Nd)} {R:Except (Nat×Int) (List Nd)} (h:bT aK m (t::ts)=some R):
  (met 1 m t=none/\R= .error (aK,9))\/∃m2,met 1 m t=some m2/\Gd m2/\bT aK m2 ts=some R:=by
 unfold bT at h;split at h
 ·rename_i hm
  injection h with h
  exact .inl ⟨hm,h.symm⟩
 ·rename_i m2 hm
  split at h
  ·rename_i hg
   exact .inr ⟨m2,hm,hg,h⟩
  ·cases h
structure Le (P:Nat) (es:List Pt) (env:Env) (nx:Nx) (p:Pt) (TA:Option Addr) (tc:Nat) (UA:Option Addr) (uc:Nat) (Y:Nat->Prop) (w:World) (n:Nat) (R:Except (Nat×Int) (List (List Nd)×Nat)) (OA:Option Addr) (oc:Nat) (ot:List Nd) (k:Nat) (Yk:Nat->Prop) (a:Nat) (ts:List (List Nd)) (VA:Option Addr) (vc:Nat) (vs:List (Option Addr×Nat×Nat)) (wr:World):Prop where
 fr:Fr Y w wr
 yn:ah Y Yk w
 wk:aM P es env (.ok a) Yk wr
 pm:aO wr Yk w.heap.size p TA tc UA uc
 vt:iH wr w.heap.size VA vc vs
 vl:vs.length=ts.length
 sl:∀(i:Nat) (v:Option Addr×Nat×Nat) (t:List Nd),vs[i]?=some v->ts[i]?=some t->v.2.1=t.length/\aA wr Yk v.1 v.2.2 t
 gd:∀t∈ts,Gd t
 len:ts.length=k
 oo:aA wr Yk OA oc ot
 run:eu nx es env ot (n-k) a ts=some R
theorem Lf (t:List Nd) (s:ByteArray) (w:World) (e:Ending) (w':World) (h:Fw t s w e w'):∃A c er,e= .returned (.tuple #[.slice A ((bJ t s).getD []).length c,.int .i64 er])/\Below w.heap.size w w'/\dK w' w.heap.size A c ((bJ t s).getD []):=by
 obtain ⟨hb,h⟩:=h
 cases hf:bJ t s with
 |some u=>
  rw [hf] at h;obtain ⟨A,c,rfl,ho⟩:=h
  exact ⟨A,c,0,rfl,hb,ho⟩
 |none=>
  rw [hf] at h;subst h;exact ⟨none,0,9,rfl,hb,aB.nil⟩
def CM (P:Nat) (es:List Pt) (env:Env) (aK:Nat) (r:fC) (_p:Pt) (_TA:Option Addr) (_tc:Nat) (_UA:Option Addr) (_uc:Nat) (Y:Nat->Prop) (w:World) (VA:Option Addr) (vc:Nat) (v0:Option Addr×Nat×Nat) (vr:List (Option Addr×Nat×Nat)) (tr:List (List Nd)) (ak:Nat) (Yj:Nat->Prop) (m:List Nd) (MA:Option Addr) (mc:Nat) (j:Nat) (wr:World):Prop:=
 Fr Y w wr/\ah Y Yj w/\aM P es env (.ok ak) Yj wr/\iH wr w.heap.size VA vc (v0::vr)/\(∀(i:Nat) (v:Option Addr×Nat×Nat) (t:List Nd),vr[i]?=some v->tr[i]?=some t->v.2.1=t.length/\aA wr Yj v.1 v.2.2 t)/\aA wr Yj MA mc m/\Gd m/\vr.length=tr.length/\(∀t∈tr,Gd t)/\∃RR,bT aK m (tr.drop j)=some RR/\(∀x,RR= .error x->r= .error x)/\(∀m,RR= .ok m->r= .ok (m,ak))
def CE (P:Nat) (es:List Pt) (env:Env) (r:fC) (_p:Pt) (_TA:Option Addr) (_tc:Nat) (_UA:Option Addr) (_uc:Nat) (Y:Nat->Prop) (w:World) (VA:Option Addr) (vc:Nat) (v0:Option Addr×Nat×Nat) (vr:List (Option Addr×Nat×Nat)) (x:Nat×Int) (Yj:Nat->Prop) (wr:World):Prop:=
 r= .error x/\Fr Y w wr/\ah Y Yj w/\aM P es env (.error x) Yj wr/\iH wr w.heap.size VA vc (v0::vr)
theorem QK (P:Nat) (es:List Pt) (nx:Nx) (HN:Hid (nC P es nx)) (env:Env) (p:Pt) (aK a:Nat) (r:fC) (Y:Nat->Prop) (w:World) (TA UA:Option Addr) (tc uc:Nat) (hes:dZ es) (h:aM P es env (.ok a) Y w) (hT:aA w Y TA tc p.T) (hU:aA w Y UA uc p.U) (hG:∀env a t b,nx env a=some (.ok (t,b))->Gd t) (hm:oN nx es env p aK a=some r):
  Calls Tryz.prog 71 #[pk P,pv p TA tc UA uc,.int .i64 aK] w (aY P es env Y r w):=by
 have xW:Hid (P<w.heap.size):=aD (h.lt P h.yP);obtain ⟨w1,hw1⟩:∃w1,w1=w.alloc (.cells #[.int .i64 p.k,.string p.lb,.string p.nm,.string p.bd,.int .i64 p.mn,.int .i64 p.num,.slice TA p.T.length tc,.slice UA p.U.length uc] 33):=⟨_,rfl⟩;have hpm:=aO.new h.lt hT hU;have hb1:Below w.heap.size w w1:=by rw [hw1];exact aj (aF _ _) _
 rw [<-hw1] at hpm;unfold oN at hm;split at hm
 ·rename_i hmn
  obtain ⟨n,hn⟩:∃n:Nat,p.mn=(n:Int):=⟨p.mn.toNat,by omega⟩;have W_:n<=50:=by omega
  have hn1:1<=n:=by omega
  have hvl:=hmn.2.2;rw [show p.mn.toNat=n by omega] at hm;have CQ:Hid (∀v Y',aO v Y' w.heap.size p TA tc UA uc->v.cell? ⟨w.heap.size,4,none⟩=some (.int .i64 (n:Int))):=aD fun v Y' hv=>by rw [<-hn];exact hv.cells.2.2.2.2.1
  have H1:Hid (Fr Y w w1/\ah Y Y w/\aM P es env (.ok a) Y w1/\aO w1 Y w.heap.size p TA tc UA uc):=aD ⟨Fr.below hb1,ah.refl _ _,h.later hb1,hpm⟩;have HR:=aD (b_ hm);have HD:=aD (Cj hG (Cj hes hvl));clear h hT hU hm hG hpm hb1 hmn hn hes;unfold pk pv;go_enter Tryz.func71,Tryz.ntmps71;go_upto_region 1 with fail
  rw [<-hw1];clear hw1;rcases HR.out with ⟨x,h1,hr⟩|⟨ot,b,h1,hr⟩
  ·have HX:=aD (HN.out env (.ok a) _ Y w1 h1 H1.out.2.2.1)
   unfold pk at HX;go_wp2_with fail;refine HX.out.mono ?_;rintro e w2 ⟨Y2,hf2,hy2,hk2,rfl⟩;have H2:Hid (Fr Y w w2/\ah Y Y2 w/\aM P es env (.error x) Y2 w2/\aO w2 Y2 w.heap.size p TA tc UA uc):=aD ⟨Fr.new H1.out.1 hf2 H1.out.2.1,ah.trans H1.out.2.1 hy2 H1.out.1.size,hk2,H1.out.2.2.2.fr hf2 hy2⟩;clear hf2 hy2 hk2 HX;have HO:=aD (iZ P es env _ _ _ H2.out.2.2.1);simp only [pz] at HO;unfold pk at HO;go_wp2_with fail;refine HO.out.mono ?_;rintro e w3 ⟨rfl,hb3⟩;have H3:Hid (Fr Y w w3/\aM P es env (.error x) Y2 w3):=aD ⟨H2.out.1.trans (Fr.below hb3),H2.out.2.2.1.later hb3⟩;have k4:=CQ.out w3 _ (H2.out.2.2.2.later hb3);clear hb3 HO;go_upto_region 6 with fail
   clear k4;go_loopw [25] (fun QL wr=>QL= .int .i64 0/\wr=w3) (fun _ _=>0)
   case atStart=>exact ⟨rfl,rfl⟩
   case round=>
    obtain ⟨rfl,rfl⟩:=hrel;have I5:=aD (iZ P es env _ _ _ H3.out.2);simp only [pz] at I5;unfold pk at I5;go_wp2_with fail;refine I5.out.mono ?_;rintro e w4 ⟨rfl,hb4⟩
    have HQ:Hid (aY P es env Y r w (.returned (.slice none 0 0)) w4):=aD (by
     rw [hr];exact ⟨Y2,H3.out.1.trans (Fr.below hb4),H2.out.2.1,H3.out.2.later hb4,_,_,_,rfl⟩)
    clear hb4;go_wp2_with fail;go_ret;exact HQ.out
  ·have HX:=aD (HN.out env (.ok a) _ Y w1 h1 H1.out.2.2.1)
   unfold pk at HX;go_wp2_with fail;refine HX.out.mono ?_;rintro e w2 ⟨Y2,hf2,hy2,hk2,OA,oc,rfl,ht2⟩;have H2:Hid (Fr Y w w2/\ah Y Y2 w/\aM P es env (.ok b) Y2 w2/\aO w2 Y2 w.heap.size p TA tc UA uc/\aA w2 Y2 OA oc ot):=aD ⟨Fr.new H1.out.1 hf2 H1.out.2.1,ah.trans H1.out.2.1 hy2 H1.out.1.size,hk2,H1.out.2.2.2.fr hf2 hy2,ht2⟩;have QM:=aD (HD.out.1 _ _ _ _ h1);clear hf2 hy2 hk2 HX ht2 h1;have HO:=aD (iZ P es env _ _ _ H2.out.2.2.1);simp only [pz] at HO;unfold pk at HO;go_wp2_with fail;refine HO.out.mono ?_;rintro e w3 ⟨rfl,hb3⟩;have H3:Hid (Fr Y w w3/\aM P es env (.ok b) Y2 w3/\aO w3 Y2 w.heap.size p TA tc UA uc/\aA w3 Y2 OA oc ot):=aD ⟨H2.out.1.trans (Fr.below hb3),H2.out.2.2.1.later hb3,H2.out.2.2.2.1.later hb3,H2.out.2.2.2.2.later hb3⟩;clear hb3 HO
   obtain ⟨bb,htk⟩:∃bb,kQ es ot aK=some bb:=by
    cases htk:kQ es ot aK with
    |none=>rw [htk] at hr;cases hr
    |some bb=>exact ⟨bb,rfl⟩
   have Xx:=aD (QC P es env b OA oc ot aK bb Y2 w3 HD.out.2.1 H3.out.2.1 H3.out.2.2.2 QM.out htk);unfold pk at Xx;rw [htk] at hr;go_wp2_with fail;refine Xx.out.mono ?_;rintro e w4 ⟨⟨v4,rfl⟩,hf4,hk4⟩;have H4:Hid (Fr Y w w4/\aM P es env (CK bb aK 9 (.ok b)) Y2 w4/\aO w4 Y2 w.heap.size p TA tc UA uc/\aA w4 Y2 OA oc ot):=aD ⟨Fr.new H3.out.1 hf4 H2.out.2.1,hk4,H3.out.2.2.1.fr hf4 (ah.refl _ _),H3.out.2.2.2.fr hf4 (ah.refl _ _)⟩;have k4:=CQ.out w4 _ H4.out.2.2.1;clear hf4 hk4 Xx htk;go_upto_region 6 with fail
   clear k4
   cases bb with
   |false=>
    have HR9:Hid (r= .error (aK,9)):=aD (by injection hr with hr;exact hr.symm);clear hr;go_loopw [25] (fun QL wr=>QL= .int .i64 0/\wr=w4) (fun _ _=>0)
    case atStart=>exact ⟨rfl,rfl⟩
    case round=>
     obtain ⟨rfl,rfl⟩:=hrel;have I5:=aD (iZ P es env (.error (aK,9)) _ _ H4.out.2.1);simp only [pz] at I5;unfold pk at I5;go_wp2_with fail;refine I5.out.mono ?_;rintro e w5 ⟨rfl,hb5⟩
     have HQ:Hid (aY P es env Y r w (.returned (.slice none 0 0)) w5):=aD (by
      rw [HR9.out];exact ⟨Y2,H4.out.1.trans (Fr.below hb5),H2.out.2.1,H4.out.2.1.later hb5,_,_,_,rfl⟩)
     clear hb5;go_wp2_with fail;go_ret
     exact HQ.out
   |true=>
    obtain ⟨R,hR⟩:∃R,eu nx es env ot n b []=some R:=by
     cases h9:eu nx es env ot n b [] with
     |none=>simp only [h9] at hr;cases hr
     |some R=>exact ⟨R,rfl⟩
    simp only [hR] at hr;have HRR:=aD hr;have HI0:Hid (Le P es env nx p TA tc UA uc Y w n R OA oc ot 0 Y2 b [] none 0 [] w4):=aD ⟨H4.out.1,H2.out.2.1,H4.out.2.1,H4.out.2.2.1,aB.nil,rfl,fun i v t hv=>by simp at hv,fun t ht=>by simp at ht,rfl,H4.out.2.2.2,hR⟩;clear hr hR;go_loopw [8,25] (fun s8 QL wr=>∃(k:Nat) (VA:Option Addr) (vc:Nat) (vs:List (Option Addr×Nat×Nat)),k<=n/\s8= .slice VA k vc/\QL= .int .i64 k/\((∃(Yk:Nat->Prop) (ak:Nat) (ts:List (List Nd)),Hid (Le P es env nx p TA tc UA uc Y w n R OA oc ot k Yk ak ts VA vc vs wr))\/(∃(x:Nat×Int) (Yk:Nat->Prop),R= .error x/\1<=k/\Hid (Lc P es env p TA tc UA uc Y w x Yk wr/\iH wr w.heap.size VA vc vs/\vs.length=k)))) (fun _ QL _=>n-(Lib.intOf QL).toNat)
    case atStart=>exact ⟨0,none,0,[],bE _,rfl,rfl,.inl ⟨Y2,b,[],HI0⟩⟩
    case round=>
     clear HI0;obtain ⟨k,VA,vc,vs,hk,rfl,rfl,hmode⟩:=hrel;by_cases hlt:k<n
     ·rcases hmode with ⟨Yk,ak,ts,HI⟩|⟨x,Yk,Ou,hk1,HE⟩
      ·have nL:=aD (iZ P es env _ _ _ HI.out.wk)
       simp only [pz] at nL;unfold pk at nL;go_wp2_with fail;refine nL.out.mono ?_;rintro e w5 ⟨rfl,hb5⟩;obtain ⟨x,hx,hst⟩:=Ja (m:=n-k-1) (by rw [show n-k-1+1=n-k by omega];exact HI.out.run);obtain ⟨a',p',e',⟨EA,ec,zA,zB,bs,EC⟩,ha,hp,he⟩:=HI.out.wk.later hb5;subst ha hp he;obtain ⟨eb,eo,eA,hel,XP,hpt,_⟩:=EC.ex _ _ hx;subst eA;obtain ⟨XA,xc,WA,wc,XQ,XR,q0,q1,q2,q3,q4,q5,q6,q7⟩:=hpt;obtain ⟨c0,c1,_,_,_⟩:=EC.cells;have hal:=aU hx;have XK:=EC.el;have U1:=EC.lt P ((EC.y P).2 (.inl rfl));have hPY:=(EC.y P).2 (.inl rfl);have HXs:=aD hst;have F9:=aD EC;have HI2:Hid (Fr Y w w5/\aO w5 Yk w.heap.size p TA tc UA uc/\iH w5 w.heap.size VA vc vs/\aA w5 Yk OA oc ot/\(∀(i:Nat) (v:Option Addr×Nat×Nat) (t:List Nd),vs[i]?=some v->ts[i]?=some t->v.2.1=t.length/\aA w5 Yk v.1 v.2.2 t)/\aA w5 Yk XA xc x.T/\aA w5 Yk WA wc x.U):=aD ⟨HI.out.fr.trans (Fr.below hb5),HI.out.pm.later hb5,HI.out.vt.below hb5 (aG _),HI.out.oo.later hb5,fun i v t hv ht=>⟨(HI.out.sl i v t hv ht).1,(HI.out.sl i v t hv ht).2.later hb5⟩,XQ,XR⟩;clear hb5 EC hst hx XQ XR;go_upto_region 9 with fail
       obtain ⟨SS,hSS⟩:∃SS:World->Prop,SS=fun v=>v.cell? ⟨P,0,none⟩=some (.slice (some ⟨eb,eo,none⟩) es.length ec)/\v.cell? ⟨P,1,none⟩=some (.int .i64 (a':Int))/\v.cell? ⟨eb,eo+a'*8,none⟩=some (.int .i64 x.k)/\v.cell? ⟨eb,eo+a'*8+1,none⟩=some (.string x.lb)/\v.cell? ⟨eb,eo+a'*8+2,none⟩=some (.string x.nm)/\v.cell? ⟨eb,eo+a'*8+3,none⟩=some (.string x.bd)/\v.cell? ⟨eb,eo+a'*8+4,none⟩=some (.int .i64 x.mn)/\v.cell? ⟨eb,eo+a'*8+5,none⟩=some (.int .i64 x.num)/\v.cell? ⟨eb,eo+a'*8+6,none⟩=some (.slice XA x.T.length xc)/\v.cell? ⟨eb,eo+a'*8+7,none⟩=some (.slice WA x.U.length wc):=⟨_,rfl⟩
       have HS:Hid (∀v,Below w5.heap.size w5 v->SS v):=aD fun v hv=>by
        rw [hSS];exact ⟨(hv.cell U1).trans c0,(hv.cell U1).trans c1,(hv.cell hel).trans q0,(hv.cell hel).trans q1,(hv.cell hel).trans q2,(hv.cell hel).trans q3,(hv.cell hel).trans q4,(hv.cell hel).trans q5,(hv.cell hel).trans q6,(hv.cell hel).trans q7⟩
       obtain ⟨wd,hwd⟩:∃wd,wd=w5.drew:=⟨_,rfl⟩;have bM:Hid (Below w5.heap.size w5 wd):=aD (by rw [hwd];exact (aF _ _).drew);have hsd:SS wd:=HS.out _ bM.out;refine aI (S:=SS) [11] (by kernel_rfl) (by rw [<-hwd];exact hsd) (fun hHeld=>?_);rw [<-hwd] at hHeld ⊢;clear hwd c0 c1 q0 q1 q2 q3 q4 q5 q6 q7;refine aL 0 [1,2,3,8,9,11] (some 30) rfl rfl ?_;refine aL 1 [2,3,8,9,11] (some 31) rfl rfl ?_;refine aL 2 [3,8,9,11] (some 32) rfl rfl ?_;refine aL 3 [8,9,11] (some 33) rfl rfl ?_;refine aL 4 [5,6,7,8,9,11] (some 34) rfl rfl ?_;refine aL 5 [6,7,8,9,11] (some 35) rfl rfl ?_;refine aL 6 [7,8,9,11] (some 36) rfl rfl ?_;refine aL 7 [8,9,11] (some 37) rfl rfl ?_;refine aL 8 [9,11] (some 38) rfl rfl ?_;refine aL 9 [11] (some 39) rfl rfl ?_;refine bB 10 (some 9) (v:=?_) (w':=?_) rfl rfl (by kernel_rfl) (by rfl) ?_ (fun _=>?_) ?_
       rotate_left
       rotate_left
       ·(go_simp;first|with_reducible rfl|(constructor<;>with_reducible rfl))
       ·exact HS.out _ (aj bM.out _)
       refine aC ?_;refine je 11 none (w':=?_) rfl rfl (by kernel_rfl) (by rfl) ?_ (zL (by kernel_rfl)) ?_
       rotate_left
       ·(go_simp;try with_reducible rfl)
       refine aC ?_;refine bG (by kernel_rfl) ?_ _;obtain ⟨we,jV⟩:∃we,we=wd.alloc (.cells #[.int .i64 x.k,.string x.lb,.string x.nm,.string x.bd,.int .i64 x.mn,.int .i64 x.num,.slice XA x.T.length xc,.slice WA x.U.length wc] 33):=⟨_,rfl⟩;have iP:Hid (Below w5.heap.size w5 we):=aD (by rw [jV];exact aj bM.out _);obtain ⟨gx,hgx⟩:∃gx,gx=wd.heap.size:=⟨_,rfl⟩
       have HPX:Hid (aO we Yk gx x XA xc WA wc):=aD (by
        rw [jV,hgx];exact aO.new (fun q hq=>Nat.lt_of_lt_of_le (F9.out.lt q hq) bM.out.size) (HI2.out.2.2.2.2.2.1.later bM.out) (HI2.out.2.2.2.2.2.2.later bM.out))
       have Oy:=aD (F9.out.later iP.out);rw [<-jV,<-hgx];clear jV hgx hHeld hsd HS hSS;obtain ⟨_,c1,_,_,_⟩:=Oy.out.cells;have f1:=Oy.out.frozen 1 (by omega);go_upto_region 11 with fail
       obtain ⟨w6,nD⟩:∃w6,w6=we.setCell ⟨P,1,none⟩ (.int .i64 ((a':Int)+1)):=⟨_,rfl⟩
       have H6:Hid (Fr Y w w6/\aM P es env (.ok (a'+1)) Yk w6/\aO w6 Yk w.heap.size p TA tc UA uc/\iH w6 w.heap.size VA vc vs/\aA w6 Yk OA oc ot/\(∀(i:Nat) (v:Option Addr×Nat×Nat) (t:List Nd),vs[i]?=some v->ts[i]?=some t->v.2.1=t.length/\aA w6 Yk v.1 v.2.2 t)/\aO w6 Yk gx x XA xc WA wc):=aD (by
        have hb:w6.heap[P]?=some (.cells #[.slice (some ⟨eb,eo,none⟩) es.length ec,.int .i64 ((a'+1:Nat):Int),.slice zA bs.length zB,.int .i64 0,.int .i64 0] 60 (0,0)):=by
         rw [nD,heap_set Oy.out.blk 1];rfl
        have hf:Fr (fun q=>q=P) we w6:=by rw [nD];exact dY _ _ _ _
        have hp:=Oy.out.put hb hf;have QN:Fr Yk w5 w6:=(Fr.below iP.out).trans hp.2;exact ⟨Fr.new HI2.out.1 QN HI.out.yn,⟨_,_,_,⟨_,_,_,_,_,hp.1⟩,rfl,rfl,rfl⟩,HI2.out.2.1.fr QN (ah.refl _ _),aB.step HI2.out.2.2.1 (show aM P es env (.ok a') Yk w5 from ⟨_,_,_,⟨_,_,_,_,_,F9.out⟩,rfl,rfl,rfl⟩) QN (by decide) (by decide),HI2.out.2.2.2.1.fr QN (ah.refl _ _),fun i v t hv ht=>⟨(HI2.out.2.2.2.2.1 i v t hv ht).1,(HI2.out.2.2.2.2.1 i v t hv ht).2.fr QN (ah.refl _ _)⟩,HPX.out.fr hp.2 (ah.refl _ _)⟩)
       rw [<-nD];clear nD c1 f1;have wu:=aD (sK OA oc ot x.lb w6 H6.out.2.2.2.2.1.ty.eY QM.out H6.out.2.2.2.2.1.cap);obtain ⟨m0,m1,m2,m3,m4,m6,m7⟩:=H6.out.2.2.2.2.2.2.cells;go_wp2_with fail;refine wu.out.mono ?_;intro e w7 hp7;obtain ⟨Bv,c10,er,rfl,pE,ho7⟩:=Lf _ _ _ _ _ hp7;clear hp7 m0 m1 m2 m3 m4 m6 m7;obtain ⟨u,hu⟩:∃u,u=(bJ ot x.lb).getD []:=⟨_,rfl⟩;rw [<-hu] at ho7 ⊢;have abV:=HXs;rw [<-hu] at abV;have H7:Hid (Fr Y w w7/\aM P es env (.ok (a'+1)) Yk w7/\aO w7 Yk w.heap.size p TA tc UA uc/\iH w7 w.heap.size VA vc vs/\aA w7 Yk OA oc ot/\(∀(i:Nat) (v:Option Addr×Nat×Nat) (t:List Nd),vs[i]?=some v->ts[i]?=some t->v.2.1=t.length/\aA w7 Yk v.1 v.2.2 t)/\aO w7 Yk gx x XA xc WA wc/\aA w7 Yk Bv c10 u):=aD ⟨H6.out.1.trans (Fr.below pE),H6.out.2.1.later pE,H6.out.2.2.1.later pE,H6.out.2.2.2.1.below pE (aG _),H6.out.2.2.2.2.1.later pE,fun i v t hv ht=>⟨(H6.out.2.2.2.2.2.1 i v t hv ht).1,(H6.out.2.2.2.2.2.1 i v t hv ht).2.later pE⟩,H6.out.2.2.2.2.2.2.later pE,aA.own ho7 H6.out.2.1.lt⟩;clear pE ho7 hu HXs wu H6 Oy F9;obtain ⟨m0,m1,m2,m3,m4,m6,m7⟩:=H7.out.2.2.2.2.2.2.1.cells;have hvk:vs.length=k:=by rw [HI.out.vl,HI.out.len]
       have Ld:=aD hvk;have HW:=aD (fun r1 (h1:nx (env++[(x.bd,u)]) (a'+1)=some r1)=>p9 P es nx HN env [(x.bd,u)] (.ok (a'+1)) r1 (some ⟨w7.heap.size,0,none⟩) 1 [⟨x.bd,Bv,u.length,c10⟩] Yk (w7.alloc (.cells #[.string x.bd,.slice Bv u.length c10] 36)) (H7.out.2.1.later (aj (aF _ _) _)) (by rw [World.size_alloc];exact kJ w7 ⟨x.bd,Bv,u.length,c10⟩) (dX.one (H7.out.2.2.2.2.2.2.2.later (aj (aF _ _) _)) rfl) (by simp) HD.out.2.2 h1);have Bd:Hid (Below w7.heap.size w7 (w7.alloc (.cells #[.string x.bd,.slice Bv u.length c10] 36))):=aD (aj (aF _ _) _);have HKw:Hid (aM P es env (.ok (a'+1)) Yk (w7.alloc (.cells #[.string x.bd,.slice Bv u.length c10] 36))):=aD (H7.out.2.1.later Bd.out);unfold pk at HW;clear hvk;rcases abV.out with ⟨x2,h1,hr2⟩|⟨t,b2,h1,hr2⟩
       ·have CU:=aD (HW.out _ h1)
        clear HW;go_wp2_with fail;refine CU.out.mono ?_;rintro e w8 ⟨Y6,gM,jR,nN,rfl⟩
        have H8:Hid (Fr Y w w8/\ah Y Y6 w/\aM P es env (.error x2) Y6 w8/\aO w8 Y6 w.heap.size p TA tc UA uc/\iH w8 w.heap.size VA vc vs):=aD (by
         have f0:=H7.out.1.trans (Fr.below Bd.out);exact ⟨Fr.new f0 gM HI.out.yn,ah.trans HI.out.yn jR f0.size,nN,(H7.out.2.2.1.later Bd.out).fr gM jR,aB.step (H7.out.2.2.2.1.below Bd.out (aG _)) HKw.out gM (by decide) (by decide)⟩)
        clear gM jR nN h1 m0 m1 m2 m3 m4 m6 m7;go_wp2_with (at_builtin;refine mW rfl (.tmp 54) (.tmp 62) rfl w.heap.size (m:=k) (n:=1) Ld.out rfl (aB.alloc H8.out.2.2.2.2 _) (l2:=[(none,0,0)]) rfl rfl (pR w8 (none,0,0)) (by omega) (by have:=H8.out.1.size;simp;omega) ?_;intro tN vY w9 nu sI);have sN:Hid (g_ (w8.alloc (.cells #[.slice none 0 0] 28)) w9 28 Y6):=aD (g_.grown (aB.alloc H8.out.2.2.2.2 _) rfl sI H8.out.2.2.1.yP (Nat.le_of_lt xW.out));have oM:Hid (Below w8.heap.size w8 (w8.alloc (.cells #[.slice none 0 0] 28))):=aD (aj (aF _ _) _);have pF:Hid (Lc P es env p TA tc UA uc Y w x2 Y6 w9/\iH w9 w.heap.size tN vY (vs++[(none,0,0)])/\(vs++[((none:Option Addr),0,0)]).length=k+1):=aD ⟨⟨Fr.new (H8.out.1.trans (Fr.below oM.out)) (Fr.grown sI fun q e=>e) (fun q e=>.inr (aB.block H8.out.2.2.2.2 q e).1),H8.out.2.1,(H8.out.2.2.1.later oM.out).bW sN.out (by decide) (by decide) (by decide) (by decide),(H8.out.2.2.2.1.later oM.out).bW sN.out (by decide) (by decide)⟩,nu,by rw [jX,Ld.out];rfl⟩;clear nu sI;go_wp2_with fail;go_roundw
        case rel=>exact ⟨k+1,tN,vY,_,by omega,by go_num,by go_num,.inr ⟨x2,Y6,hr2,by omega,pF⟩⟩
        case measure=>simp [Lib.intOf];omega
       ·have CU:=aD (HW.out _ h1)
        clear HW;go_wp2_with fail;refine CU.out.mono ?_;rintro e w8 ⟨Y6,gM,jR,nN,A6,c6,rfl,Bt⟩
        have H8:Hid (Fr Y w w8/\ah Y Y6 w/\aM P es env (.ok b2) Y6 w8/\aO w8 Y6 w.heap.size p TA tc UA uc/\iH w8 w.heap.size VA vc vs/\aA w8 Y6 OA oc ot/\aA w8 Y6 A6 c6 t/\∀(i:Nat) (v:Option Addr×Nat×Nat) (t:List Nd),vs[i]?=some v->ts[i]?=some t->v.2.1=t.length/\aA w8 Y6 v.1 v.2.2 t):=aD (by
         have f0:=H7.out.1.trans (Fr.below Bd.out);exact ⟨Fr.new f0 gM HI.out.yn,ah.trans HI.out.yn jR f0.size,nN,(H7.out.2.2.1.later Bd.out).fr gM jR,aB.step (H7.out.2.2.2.1.below Bd.out (aG _)) HKw.out gM (by decide) (by decide),(H7.out.2.2.2.2.1.later Bd.out).fr gM jR,Bt,fun i v t hv ht=>⟨(H7.out.2.2.2.2.2.1 i v t hv ht).1,((H7.out.2.2.2.2.2.1 i v t hv ht).2.later Bd.out).fr gM jR⟩⟩)
        have QJ:=aD (HD.out.1 _ _ _ _ h1);have Ov:=aD hr2;clear gM jR nN Bt h1 hr2 m0 m1 m2 m3 m4 m6 m7;go_wp2_with (at_builtin;refine mW rfl (.tmp 54) (.tmp 62) rfl w.heap.size (m:=k) (n:=1) Ld.out rfl (aB.alloc H8.out.2.2.2.2.1 _) (l2:=[(A6,t.length,c6)]) rfl rfl (pR w8 (A6,t.length,c6)) (by omega) (by have:=H8.out.1.size;simp;omega) ?_;intro tN vY w9 nu sI);have sN:Hid (g_ (w8.alloc (.cells #[.slice A6 t.length c6] 28)) w9 28 Y6):=aD (g_.grown (aB.alloc H8.out.2.2.2.2.1 _) rfl sI H8.out.2.2.1.yP (Nat.le_of_lt xW.out));have oM:Hid (Below w8.heap.size w8 (w8.alloc (.cells #[.slice A6 t.length c6] 28))):=aD (aj (aF _ _) _)
        have nE:Hid (Le P es env nx p TA tc UA uc Y w n R OA oc ot (k+1) Y6 b2 (ts++[t]) tN vY (vs++[(A6,t.length,c6)]) w9):=aD (by
         refine ⟨Fr.new (H8.out.1.trans (Fr.below oM.out)) (Fr.grown sI fun q e=>e) (fun q e=>.inr (aB.block H8.out.2.2.2.2.1 q e).1),H8.out.2.1,(H8.out.2.2.1.later oM.out).bW sN.out (by decide) (by decide) (by decide) (by decide),(H8.out.2.2.2.1.later oM.out).bW sN.out (by decide) (by decide),nu,?_,?_,?_,?_,(H8.out.2.2.2.2.2.1.later oM.out).bW sN.out (by decide),?_⟩
         ·rw [jX,jX,HI.out.vl]
          rfl
         ·intro i v t2 hv hf
          rcases Nat.lt_or_ge i vs.length with hi|hi
          ·rw [aaf hi] at hv
           rw [aaf (by rw [<-HI.out.vl];exact hi)] at hf;exact ⟨(H8.out.2.2.2.2.2.2.2 i v t2 hv hf).1,((H8.out.2.2.2.2.2.2.2 i v t2 hv hf).2.later oM.out).bW sN.out (by decide)⟩
          ·rw [jd hi] at hv
           rw [jd (by rw [<-HI.out.vl];exact hi),<-HI.out.vl] at hf
           cases hj:i-vs.length with
           |zero=>
            rw [hj] at hv hf;simp at hv hf;subst hv hf
            exact ⟨rfl,(H8.out.2.2.2.2.2.2.1.later oM.out).bW sN.out (by decide)⟩
           |succ j=>rw [hj] at hv;simp at hv
         ·intro f hf
          rcases List.mem_append.1 hf with hf|hf
          ·exact HI.out.gd f hf
          ·simp at hf
           subst hf;exact QJ.out
         ·rw [jX,HI.out.len]
          rfl
         ·rw [show n-(k+1)=n-k-1 by omega]
          exact Ov.out)
        clear nu sI;go_wp2_with fail;go_roundw
        case rel=>exact ⟨k+1,tN,vY,vs++[(A6,t.length,c6)],by omega,by go_num,by go_num,.inl ⟨Y6,b2,ts++[t],nE⟩⟩
        case measure=>simp [Lib.intOf];omega
      ·have nL:=aD (iZ P es env _ _ _ HE.out.1.wk)
       simp only [pz] at nL;unfold pk at nL;go_wp2_with fail;refine nL.out.mono ?_;rintro e w5 ⟨rfl,hb5⟩
       have HQ:Hid (aY P es env Y r w (.returned (.slice none 0 0)) w5):=aD (by
        have Al:r= .error x:=by
         have:=HRR.out;rw [Ou] at this;injection this with this
         exact this.symm
        rw [Al];exact ⟨Yk,HE.out.1.fr.trans (Fr.below hb5),HE.out.1.yn,HE.out.1.wk.later hb5,_,_,_,rfl⟩)
       clear hb5 Ou;go_wp2_with fail;go_ret;exact HQ.out
     ·have hkn:k=n:=by omega
      subst hkn
      have hex:∃(v0:Option Addr×Nat×Nat) (vr:List (Option Addr×Nat×Nat)),vs=v0::vr/\vr.length+1=k/\iH wr w.heap.size VA vc vs/\((∃(Yj:Nat->Prop) (ak:Nat) (m:List Nd) (tr:List (List Nd)),v0.2.1=m.length/\CM P es env aK r p TA tc UA uc Y w VA vc v0 vr tr ak Yj m v0.1 v0.2.2 0 wr)\/(∃(x:Nat×Int) (Yj:Nat->Prop),CE P es env r p TA tc UA uc Y w VA vc v0 vr x Yj wr)):=by
       rcases hmode with ⟨Yk,ak,ts,HI⟩|⟨x,Yk,Ou,hk1,HE⟩
       ·have HI:=HI.out
        have hR2:R= .ok (ts,ak):=by
         have:=HI.run;rw [Nat.sub_self] at this;unfold eu at this;injection this with this
         exact this.symm
        obtain ⟨t0,tr,rfl⟩:∃t0 tr,ts=t0::tr:=by
         cases ts with
         |nil=>have:=HI.len;simp at this;omega
         |cons t0 tr=>exact ⟨t0,tr,rfl⟩
        obtain ⟨v0,vr,rfl⟩:∃v0 vr,vs=v0::vr:=by
         cases vs with
         |nil=>have:=HI.vl;simp at this
         |cons v0 vr=>exact ⟨v0,vr,rfl⟩
        have hv0:=HI.sl 0 v0 t0 rfl rfl;refine ⟨v0,vr,rfl,by have:=HI.vl;have h2:=HI.len;rw [<-this] at h2;simpa using h2,HI.vt,.inl ⟨Yk,ak,t0,tr,hv0.1,HI.fr,HI.yn,HI.wk,HI.vt,fun i v t hv ht=>HI.sl (i+1) v t (by rw [FR];exact hv) (by rw [FR];exact ht),hv0.2,HI.gd t0 (by simp),by have:=HI.vl;simpa using this,fun t ht=>HI.gd t (by simp [ht]),?_⟩⟩;have:=HRR.out;rw [hR2] at this;simp only [List.drop_zero] at this ⊢
        cases h9:bT aK t0 tr with
        |none=>rw [h9] at this;cases this
        |some RR=>
         rw [h9] at this;refine ⟨RR,rfl,fun x hx=>?_,fun m hx=>?_⟩
         ·rw [hx] at this
          injection this with this
          exact this.symm
         ·rw [hx] at this
          injection this with this
          exact this.symm
       ·obtain ⟨v0,vr,rfl⟩:∃v0 vr,vs=v0::vr:=by
         cases vs with
         |nil=>have:=HE.out.2.2;simp at this;omega
         |cons v0 vr=>exact ⟨v0,vr,rfl⟩
        have Al:r= .error x:=by
         have:=HRR.out;rw [Ou] at this;injection this with this
         exact this.symm
        exact ⟨v0,vr,rfl,by have:=HE.out.2.2;simpa using this,HE.out.2.1,.inr ⟨x,Yk,Al,HE.out.1.fr,HE.out.1.yn,HE.out.1.wk,HE.out.2.1⟩⟩
      obtain ⟨v0,vr,rfl,hvn,hown,hmd⟩:=hex;have Oz:=aD hvn;have anK:=aD hown;have XT:=aD hmd;obtain ⟨g,rfl,hg0,hgl,hg1,hg2⟩:=aB.form hown (by simp);have hcap:=aB.l7 hown;rw [List.length_cons,hvn] at hcap;obtain ⟨_,_,eg,_,hz0⟩:=bf.slice (aB.read jI hown) (i:=0) (v:=v0) rfl;injection eg with eg
      injection eg with Lg Lh _
      subst Lg Lh;rw [Nat.add_zero] at hz0;clear hg0 hgl hg1 hg2 hvn hown hmd hmode hk hlt;by_cases hc1:vc=1
      ·have HR3:Hid (∀v,iH v w.heap.size (some ⟨g,0,none⟩) vc (v0::vr)->jU v v.heap.size (some ⟨g,0,none⟩) vr):=aD (fun v hv=>by have:=jU.cut (aB.read jI hv) (aB.l7 hv);rwa [if_pos hc1] at this)
       go_wp2_with fail;clear hz0 hcap hc1;go_loopw [12,71] (fun s12 QO wr=>∃j:Nat,j<=k-1/\QO= .int .i64 j/\((∃(Yj:Nat->Prop) (ak:Nat) (m:List Nd) (tr:List (List Nd)) (MA:Option Addr) (mc:Nat),s12= .slice MA m.length mc/\Hid (CM P es env aK r p TA tc UA uc Y w (some ⟨g,0,none⟩) vc v0 vr tr ak Yj m MA mc j wr))\/(∃(x:Nat×Int) (Yj:Nat->Prop) (MA:Option Addr) (mn mc:Nat),s12= .slice MA mn mc/\Hid (CE P es env r p TA tc UA uc Y w (some ⟨g,0,none⟩) vc v0 vr x Yj wr)))) (fun _ QO _=>(k-1)-(Lib.intOf QO).toNat)
       case atStart=>
        refine ⟨0,bE _,rfl,?_⟩;rcases XT.out with ⟨Yj,ak,m,tr,hm0,h⟩|⟨x,Yj,h⟩
        ·exact .inl ⟨Yj,ak,m,tr,v0.1,v0.2.2,by rw [<-hm0],aD h⟩
        ·exact .inr ⟨x,Yj,v0.1,v0.2.1,v0.2.2,rfl,aD h⟩
       case round=>
        obtain ⟨j,hj,rfl,Li⟩:=hrel;rcases Li with ⟨Yj,ak,m,tr,MA,mc,rfl,HC⟩|⟨x,Yj,MA,mn,mc,rfl,HC⟩
        ·by_cases hlt2:j<k-1
         ·obtain ⟨v,hv⟩:=aN (l:=vr) (i:=j) (by have:=Oz.out;omega)
          obtain ⟨t,ht⟩:=aN (l:=tr) (i:=j) (by have:=Oz.out;have:=HC.out.2.2.2.2.2.2.2.1;omega);obtain ⟨e1,e2⟩:=HC.out.2.2.2.2.1 j v t hv ht;obtain ⟨_,_,eg,_,hz⟩:=bf.slice (HR3.out _ HC.out.2.2.2.1) hv;injection eg with eg
          injection eg with Lg Lh _
          subst Lg Lh;rw [e1] at hz;rw [Nat.zero_add] at hz;obtain ⟨RR,hrun,hx1,hx2⟩:=HC.out.2.2.2.2.2.2.2.2.2
          have hdr:tr.drop j=t::tr.drop (j+1):=by
           obtain ⟨_,h2⟩:=Ro.1 ht;rw [aJ (aU ht),h2]
          rw [hdr] at hrun;have hgt:=HC.out.2.2.2.2.2.2.2.2.1 t (Ox ht);have QS:=aD (Cj hx1 hx2);rcases Bu hrun with ⟨Ga,Al⟩|⟨m2,Ga,sJ,Al⟩
          ·have HX:=aD (xS P es env ak MA v.1 mc v.2.2 m t aK (.error (aK,9)) Yj wr HC.out.2.2.1 HC.out.2.2.2.2.2.1 e2 HC.out.2.2.2.2.2.2.1 hgt (by unfold ru;rw [Ga]))
           unfold pk at HX;have Lj:=aD Al;clear hrun hx1 hx2 hdr hgt hv ht e1 e2 Ga Al;go_wp2_with fail;refine HX.out.mono ?_;rintro e w6 ⟨Y6,gM,jR,nN,rfl⟩;have H6:Hid (CE P es env r p TA tc UA uc Y w (some ⟨g,0,none⟩) vc v0 vr (aK,9) Y6 w6):=aD ⟨QS.out.1 _ Lj.out,Fr.new HC.out.1 gM HC.out.2.1,ah.trans HC.out.2.1 jR HC.out.1.size,nN,aB.step HC.out.2.2.2.1 HC.out.2.2.1 gM (by decide) (by decide)⟩;clear gM jR nN hz;go_wp2_with fail;go_roundw
           case rel=>exact ⟨j+1,by omega,by go_num,.inr ⟨_,Y6,none,0,0,rfl,H6⟩⟩
           case measure=>simp [Lib.intOf];omega
          ·have HX:=aD (xS P es env ak MA v.1 mc v.2.2 m t aK (.ok (m2,ak)) Yj wr HC.out.2.2.1 HC.out.2.2.2.2.2.1 e2 HC.out.2.2.2.2.2.2.1 hgt (by unfold ru;rw [Ga]))
           unfold pk at HX;have Lj:=aD (Cj Al sJ);clear hrun hx1 hx2 hdr hgt hv ht e1 e2 Ga Al sJ;go_wp2_with fail;refine HX.out.mono ?_;rintro e w6 ⟨Y6,gM,jR,nN,A6,c6,rfl,Bt⟩;have H6:Hid (CM P es env aK r p TA tc UA uc Y w (some ⟨g,0,none⟩) vc v0 vr tr ak Y6 m2 A6 c6 (j+1) w6):=aD ⟨Fr.new HC.out.1 gM HC.out.2.1,ah.trans HC.out.2.1 jR HC.out.1.size,nN,aB.step HC.out.2.2.2.1 HC.out.2.2.1 gM (by decide) (by decide),fun i v t hv ht=>⟨(HC.out.2.2.2.2.1 i v t hv ht).1,(HC.out.2.2.2.2.1 i v t hv ht).2.fr gM jR⟩,Bt,Lj.out.2,HC.out.2.2.2.2.2.2.2.1,HC.out.2.2.2.2.2.2.2.2.1,RR,Lj.out.1,QS.out.1,QS.out.2⟩;clear gM jR nN hz Bt;go_wp2_with fail;go_roundw
           case rel=>exact ⟨j+1,by omega,by go_num,.inl ⟨Y6,ak,m2,tr,A6,c6,rfl,H6⟩⟩
           case measure=>simp [Lib.intOf];omega
         ·have HQ:Hid (aY P es env Y r w (.returned (.slice MA m.length mc)) wr):=aD (by
           obtain ⟨RR,hrun,hx1,hx2⟩:=HC.out.2.2.2.2.2.2.2.2.2;have hdr:tr.drop j=[]:=M6 (by have:=Oz.out;have:=HC.out.2.2.2.2.2.2.2.1;omega);rw [hdr] at hrun;unfold bT at hrun;injection hrun with hrun
           rw [hx2 m hrun.symm];exact ⟨Yj,HC.out.1,HC.out.2.1,HC.out.2.2.1,MA,mc,rfl,HC.out.2.2.2.2.2.1⟩)
          go_wp2_with fail;go_ret;exact HQ.out
        ·by_cases hlt2:j<k-1
         ·obtain ⟨v,hv⟩:=aN (l:=vr) (i:=j) (by have:=Oz.out;omega)
          obtain ⟨_,_,eg,_,hz⟩:=bf.slice (HR3.out _ HC.out.2.2.2.2) hv;injection eg with eg
          injection eg with Lg Lh _
          subst Lg Lh;rw [Nat.zero_add] at hz;have HX:=aD (rY P es env x (.slice MA mn mc) (.slice v.1 v.2.1 v.2.2) aK Yj wr HC.out.2.2.2.1);unfold pk at HX;clear hv;go_wp2_with fail;refine HX.out.mono ?_;rintro e w6 ⟨Y6,gM,jR,nN,rfl⟩;have H6:Hid (CE P es env r p TA tc UA uc Y w (some ⟨g,0,none⟩) vc v0 vr x Y6 w6):=aD ⟨HC.out.1,Fr.new HC.out.2.1 gM HC.out.2.2.1,ah.trans HC.out.2.2.1 jR HC.out.2.1.size,nN,aB.step HC.out.2.2.2.2 HC.out.2.2.2.1 gM (by decide) (by decide)⟩;clear gM jR nN hz;go_wp2_with fail;go_roundw
          case rel=>exact ⟨j+1,by omega,by go_num,.inr ⟨_,Y6,none,0,0,rfl,H6⟩⟩
          case measure=>simp [Lib.intOf];omega
         ·have HQ:Hid (aY P es env Y r w (.returned (.slice MA mn mc)) wr):=aD (by
           rw [HC.out.1];exact ⟨Yj,HC.out.2.1,HC.out.2.2.1,HC.out.2.2.2.1,_,_,_,rfl⟩)
          go_wp2_with fail;go_ret;exact HQ.out
      ·have HR3:Hid (∀v,iH v w.heap.size (some ⟨g,0,none⟩) vc (v0::vr)->jU v v.heap.size (some ⟨g,1,none⟩) vr):=aD (fun v hv=>by have:=jU.cut (aB.read jI hv) (aB.l7 hv);rwa [if_neg hc1] at this)
       go_wp2_with fail;clear hz0 hcap hc1;go_loopw [12,71] (fun s12 QO wr=>∃j:Nat,j<=k-1/\QO= .int .i64 j/\((∃(Yj:Nat->Prop) (ak:Nat) (m:List Nd) (tr:List (List Nd)) (MA:Option Addr) (mc:Nat),s12= .slice MA m.length mc/\Hid (CM P es env aK r p TA tc UA uc Y w (some ⟨g,0,none⟩) vc v0 vr tr ak Yj m MA mc j wr))\/(∃(x:Nat×Int) (Yj:Nat->Prop) (MA:Option Addr) (mn mc:Nat),s12= .slice MA mn mc/\Hid (CE P es env r p TA tc UA uc Y w (some ⟨g,0,none⟩) vc v0 vr x Yj wr)))) (fun _ QO _=>(k-1)-(Lib.intOf QO).toNat)
       case atStart=>
        refine ⟨0,bE _,rfl,?_⟩;rcases XT.out with ⟨Yj,ak,m,tr,hm0,h⟩|⟨x,Yj,h⟩
        ·exact .inl ⟨Yj,ak,m,tr,v0.1,v0.2.2,by rw [<-hm0],aD h⟩
        ·exact .inr ⟨x,Yj,v0.1,v0.2.1,v0.2.2,rfl,aD h⟩
       case round=>
        obtain ⟨j,hj,rfl,Li⟩:=hrel;rcases Li with ⟨Yj,ak,m,tr,MA,mc,rfl,HC⟩|⟨x,Yj,MA,mn,mc,rfl,HC⟩
        ·by_cases hlt2:j<k-1
         ·obtain ⟨v,hv⟩:=aN (l:=vr) (i:=j) (by have:=Oz.out;omega)
          obtain ⟨t,ht⟩:=aN (l:=tr) (i:=j) (by have:=Oz.out;have:=HC.out.2.2.2.2.2.2.2.1;omega);obtain ⟨e1,e2⟩:=HC.out.2.2.2.2.1 j v t hv ht;obtain ⟨_,_,eg,_,hz⟩:=bf.slice (HR3.out _ HC.out.2.2.2.1) hv;injection eg with eg
          injection eg with Lg Lh _
          subst Lg Lh;rw [e1] at hz;obtain ⟨RR,hrun,hx1,hx2⟩:=HC.out.2.2.2.2.2.2.2.2.2
          have hdr:tr.drop j=t::tr.drop (j+1):=by
           obtain ⟨_,h2⟩:=Ro.1 ht;rw [aJ (aU ht),h2]
          rw [hdr] at hrun;have hgt:=HC.out.2.2.2.2.2.2.2.2.1 t (Ox ht);have QS:=aD (Cj hx1 hx2);rcases Bu hrun with ⟨Ga,Al⟩|⟨m2,Ga,sJ,Al⟩
          ·have HX:=aD (xS P es env ak MA v.1 mc v.2.2 m t aK (.error (aK,9)) Yj wr HC.out.2.2.1 HC.out.2.2.2.2.2.1 e2 HC.out.2.2.2.2.2.2.1 hgt (by unfold ru;rw [Ga]))
           unfold pk at HX;have Lj:=aD Al;clear hrun hx1 hx2 hdr hgt hv ht e1 e2 Ga Al;go_wp2_with fail;refine HX.out.mono ?_;rintro e w6 ⟨Y6,gM,jR,nN,rfl⟩;have H6:Hid (CE P es env r p TA tc UA uc Y w (some ⟨g,0,none⟩) vc v0 vr (aK,9) Y6 w6):=aD ⟨QS.out.1 _ Lj.out,Fr.new HC.out.1 gM HC.out.2.1,ah.trans HC.out.2.1 jR HC.out.1.size,nN,aB.step HC.out.2.2.2.1 HC.out.2.2.1 gM (by decide) (by decide)⟩;clear gM jR nN hz;go_wp2_with fail;go_roundw
           case rel=>exact ⟨j+1,by omega,by go_num,.inr ⟨_,Y6,none,0,0,rfl,H6⟩⟩
           case measure=>simp [Lib.intOf];omega
          ·have HX:=aD (xS P es env ak MA v.1 mc v.2.2 m t aK (.ok (m2,ak)) Yj wr HC.out.2.2.1 HC.out.2.2.2.2.2.1 e2 HC.out.2.2.2.2.2.2.1 hgt (by unfold ru;rw [Ga]))
           unfold pk at HX;have Lj:=aD (Cj Al sJ);clear hrun hx1 hx2 hdr hgt hv ht e1 e2 Ga Al sJ;go_wp2_with fail;refine HX.out.mono ?_;rintro e w6 ⟨Y6,gM,jR,nN,A6,c6,rfl,Bt⟩;have H6:Hid (CM P es env aK r p TA tc UA uc Y w (some ⟨g,0,none⟩) vc v0 vr tr ak Y6 m2 A6 c6 (j+1) w6):=aD ⟨Fr.new HC.out.1 gM HC.out.2.1,ah.trans HC.out.2.1 jR HC.out.1.size,nN,aB.step HC.out.2.2.2.1 HC.out.2.2.1 gM (by decide) (by decide),fun i v t hv ht=>⟨(HC.out.2.2.2.2.1 i v t hv ht).1,(HC.out.2.2.2.2.1 i v t hv ht).2.fr gM jR⟩,Bt,Lj.out.2,HC.out.2.2.2.2.2.2.2.1,HC.out.2.2.2.2.2.2.2.2.1,RR,Lj.out.1,QS.out.1,QS.out.2⟩;clear gM jR nN hz Bt;go_wp2_with fail;go_roundw
           case rel=>exact ⟨j+1,by omega,by go_num,.inl ⟨Y6,ak,m2,tr,A6,c6,rfl,H6⟩⟩
           case measure=>simp [Lib.intOf];omega
         ·have HQ:Hid (aY P es env Y r w (.returned (.slice MA m.length mc)) wr):=aD (by
           obtain ⟨RR,hrun,hx1,hx2⟩:=HC.out.2.2.2.2.2.2.2.2.2;have hdr:tr.drop j=[]:=M6 (by have:=Oz.out;have:=HC.out.2.2.2.2.2.2.2.1;omega);rw [hdr] at hrun;unfold bT at hrun;injection hrun with hrun
           rw [hx2 m hrun.symm];exact ⟨Yj,HC.out.1,HC.out.2.1,HC.out.2.2.1,MA,mc,rfl,HC.out.2.2.2.2.2.1⟩)
          go_wp2_with fail;go_ret;exact HQ.out
        ·by_cases hlt2:j<k-1
         ·obtain ⟨v,hv⟩:=aN (l:=vr) (i:=j) (by have:=Oz.out;omega)
          obtain ⟨_,_,eg,_,hz⟩:=bf.slice (HR3.out _ HC.out.2.2.2.2) hv;injection eg with eg
          injection eg with Lg Lh _
          subst Lg Lh;have HX:=aD (rY P es env x (.slice MA mn mc) (.slice v.1 v.2.1 v.2.2) aK Yj wr HC.out.2.2.2.1);unfold pk at HX;clear hv;go_wp2_with fail;refine HX.out.mono ?_;rintro e w6 ⟨Y6,gM,jR,nN,rfl⟩;have H6:Hid (CE P es env r p TA tc UA uc Y w (some ⟨g,0,none⟩) vc v0 vr x Y6 w6):=aD ⟨HC.out.1,Fr.new HC.out.2.1 gM HC.out.2.2.1,ah.trans HC.out.2.2.1 jR HC.out.2.1.size,nN,aB.step HC.out.2.2.2.2 HC.out.2.2.2.1 gM (by decide) (by decide)⟩;clear gM jR nN hz;go_wp2_with fail;go_roundw
          case rel=>exact ⟨j+1,by omega,by go_num,.inr ⟨_,Y6,none,0,0,rfl,H6⟩⟩
          case measure=>simp [Lib.intOf];omega
         ·have HQ:Hid (aY P es env Y r w (.returned (.slice MA mn mc)) wr):=aD (by
           rw [HC.out.1];exact ⟨Yj,HC.out.2.1,HC.out.2.2.1,HC.out.2.2.2.1,_,_,_,rfl⟩)
          go_wp2_with fail;go_ret;exact HQ.out
 ·cases hm
end Go.Proofs.YtmjdhfbnmmdjiaaGreat
