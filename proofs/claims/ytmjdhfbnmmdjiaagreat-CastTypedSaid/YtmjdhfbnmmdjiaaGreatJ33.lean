/- Laid together by a tool from the texts of this seat: CsZ AlK Sm5 CtA OpenA. Conditions: each theorem's own. -/
import Derived.Test.YtmjdhfbnmmdjiaaGreatJ27
import Derived.Test.YtmjdhfbnmmdjiaaGreatJ30
import Derived.Test.YtmjdhfbnmmdjiaaGreatJ32
import Derived.Test.YtmjdhfbnmmdjiaaGreatJ15
import Derived.Test.YtmjdhfbnmmdjiaaGreatJ31
import Derived.Test.YtmjdhfbnmmdjiaaGreatJ01
import Derived.Test.YtmjdhfbnmmdjiaaGreatRows
import Derived.ProofKit
import Derived.LaidMore
import Derived.OpenShut
import Derived.Stop.Joined
import Derived.Stop.LaidErr
import Derived.Deep.Slices
import Derived.Deep.Fields
set_option maxHeartbeats 8000000
set_option maxRecDepth 100000
namespace Go.Proofs.YtmjdhfbnmmdjiaaGreat
open Go.Lib renaming hid->aD
open Go.World renaming cell?->Ck,size_alloc->Er,block_lt_of_cell?->Db,frozen?->EJ,cells?_some->aaW,cell?_spot->aa1
open Go.RowKit.Below renaming refl->aF,heap_alloc->Ew
open _root_.List renaming range->Np,mem_of_getElem?->Ox,getElem?_map->TW,getElem?_range->aaZ,mem_map->aas,mem_range->PG
open _root_.And renaming intro->Cj
open _root_.Nat renaming le_refl->aG,add_assoc->aaS,zero_le->bE,lt_of_lt_of_le->Yw,eq_zero_or_pos->aa0
open _root_.Array renaming getElem?_eq_some_iff->aaj
open _root_.Classical renaming choose->aaX,choose_spec->aaY
open Go.RowKit
theorem aA.set {w w':World} {Y:Nat->Prop} {A:Option Addr} {c:Nat} {t:List Nd} {R:Nat} {x y:Value} {fz:Nat×Nat} (h:aA w Y A c t) (hR:w.heap[R]?=some (.cells #[x,y] 65 fz)) (hx:∀i,x≠ .int .i64 i) (hy:∀i,y≠ .int .i64 i) (hf:Fr (fun q=>q=R) w w'):aA w' (fun _=>False) A c t:=⟨fun hne=>by
 obtain ⟨b,o,e,g1,_,g5,_⟩:=h.ty hne
 have hbR:b≠R:=by
  rintro rfl;obtain ⟨n,t0,rfl⟩:=List.exists_cons_of_ne_nil hne;have c0:=g5.c0 0 n rfl;simp only [Ck,hR] at c0;rcases o with _|_|o
  ·simp at c0
   exact hx _ c0
  ·simp at c0
   exact hy _ c0
  ·simp at c0
 have hbk:=hf.block b g1 hbR;exact ⟨b,o,e,Yw g1 hf.size,fun h=>h,g5.mono fun off=>by simp [Ck,hbk],.inr fun q hq=>hq.elim⟩,h.cap⟩
theorem bP.set {w w':World} {Y:Nat->Prop} {A:Option Addr} {c:Nat} {xs:List Pt} {R:Nat} {x y:Value} {fz:Nat×Nat} (h:bP w Y A c xs) (hR:w.heap[R]?=some (.cells #[x,y] 65 fz)) (hx:∀i,x≠ .int .i64 i) (hy:∀i,y≠ .int .i64 i) (hf:Fr (fun q=>q=R) w w'):bP w' (fun _=>False) A c xs:=by
 obtain ⟨vs,hr,hp,hc⟩:=h;refine ⟨vs,fun hne=>?_,⟨hp.1,fun i v p hv hq=>?_⟩,hc⟩
 ·obtain ⟨b,o,hA,hb,_,ho,h5⟩:=hr hne
  have hbk:=hf.block b hb fun e=>iE.ne ho ⟨_,_,hR⟩ (by decide) e;refine ⟨b,o,hA,Yw hb hf.size,fun h=>h,kY hbk ho,fun i v hv j u hu=>?_⟩;have:=h5 i v hv j u hu;simp only [Ck,hbk] at this ⊢;exact this
 ·have k:=hp.2 i v p hv hq
  exact ⟨k.k,k.lb,k.nm,k.bd,k.mn,k.num,k.tn,k.un,k.T.set hR hx hy hf,k.U.set hR hx hy hf⟩
def TY (r:Except Int (List Pt×List Nd)) (w:World) (e:Ending) (w':World):Prop:=
 Below w.heap.size w w'/\match r with
  | .ok (x,t)=>∃A c T d,e= .returned (.tuple #[.agg #[.slice A x.length c,.slice T t.length d],.int .i64 0])/\bP w' (fun _=>False) A c x/\aA w' (fun _=>False) T d t
  | .error er=>e= .returned (.tuple #[.agg #[.slice none 0 0,.slice none 0 0],.int .i64 er])
def EO (r:Except Int (List Pt×List Nd)) (w:World) (e:Ending) (w':World):Prop:=
 Below w.heap.size w w'/\match r with
  | .ok (x,t)=>∃A c T d,e= .returned (.tuple #[.slice A x.length c,.slice T t.length d,.int .i64 0])/\bP w' (fun _=>False) A c x/\aA w' (fun _=>False) T d t
  | .error er=>e= .returned (.tuple #[.slice none 0 0,.slice none 0 0,.int .i64 er])
theorem Sl (f:Nat) (es:List Pt) (hes:dZ es) (env:Env) (q:Nat) (er:Int) (her:er≠0) (A EA:Option Addr) (c ec:Nat) (bs:List Bn) (w:World) (ha:mK w w.heap.size A bs) (hA:A=none->bs=[]) (hs:∀a,A=some a->∃b o,a=⟨b,o,none⟩) (hen:dX w (fun _=>False) bs env) (hex:jW w (fun _=>False) EA es) (hl:env.length<=100000) (hel:es.length<=1000000) (hm:gW f es env 0=some (.error (q,er))):
  Calls Tryz.prog 36 #[.slice A bs.length c,.slice EA es.length ec] w (TY (.error er) w):=by
 obtain ⟨w1,hw1⟩:∃w1,w1=w.alloc (.cells #[.slice none 0 0,.slice none 0 0] 65):=⟨_,rfl⟩;obtain ⟨R,hR⟩:∃R,R=w.heap.size:=⟨_,rfl⟩;have hb1:Below w.heap.size w w1:=by rw [hw1];exact aj (aF _ _) _
 have hf1:Fr (fun _=>False) w w1:=Fr.below hb1;have Hex:=aD (CX f es hes env _ A EA c ec bs w1 ((bf.below ha hb1).more hb1.size) hA hs (hen.fr hf1 fun q hq=>.inl hq) (hex.fr hf1 fun q hq=>.inl hq) hl hel hm);have HR1:Hid (w1.heap[R]?=some (.cells #[.slice none 0 0,.slice none 0 0] 65 (0,0))/\w.heap.size<=R/\R<w1.heap.size/\Below w.heap.size w w1):=aD ⟨by rw [hw1,hR];exact heap_alloc_new _ _,by rw [hR];exact aG _,by rw [hw1,hR,Er];exact Nat.lt_succ_self _,hb1⟩;clear ha hA hs hen hex hm hb1 hf1;go_enter Tryz.func36,Tryz.ntmps36;go_upto_region 1 with fail
 rw [<-hw1,<-hR];clear hw1 hR;go_wp2_with fail;refine Hex.out.mono ?_;rintro e w2 ⟨hb2,rfl⟩;have hRb:w2.heap[R]?=some (.cells #[.slice none 0 0,.slice none 0 0] 65 (0,0)):=(hb2.block R HR1.out.2.2.1).trans HR1.out.1;have HB2:Hid (Below w.heap.size w w2):=aD (au HR1.out.2.2.2 hb2);have r0:w2.cell? ⟨R,0,none⟩=some (.slice none 0 0):=by simp [Ck,hRb]
 have r1:w2.cell? ⟨R,1,none⟩=some (.slice none 0 0):=by simp [Ck,hRb]
 have qQ:w2.frozen? ⟨R,0,none⟩=false:=by simp [EJ,hRb]
 have qR:w2.frozen? ⟨R,1,none⟩=false:=by simp [EJ,hRb]
 have hen:(er !=0)=true:=by simp [her]
 have HRb:=aD hRb;clear hb2 Hex hRb;go_wp2_with fail;obtain ⟨wy,bN⟩:∃wy,wy=set2 w2 R (.slice none 0 0) (.slice none 0 0):=⟨_,rfl⟩;have hf:Fr (fun q=>q=R) w2 wy:=by rw [bN];exact (dY _ _ _ _).trans (dY _ _ _ _)
 have HF:Hid (Below w.heap.size w wy):=aD (Fr.toBelow (Fr.new (Fr.below HB2.out:Fr (fun _=>False) w w2) hf fun b e=>.inr (by rw [e];exact HR1.out.2.1)) fun k e=>e.elim)
 have hRy:wy.heap[R]?=some (.cells #[.slice none 0 0,.slice none 0 0] 65 (0,0)):=by
  rw [bN];unfold set2;rw [heap_set (heap_set HRb.out 0 _) 1];rfl
 have q0:wy.cell? ⟨R,0,none⟩=some (.slice none 0 0):=by simp [Ck,hRy]
 have q1:wy.cell? ⟨R,1,none⟩=some (.slice none 0 0):=by simp [Ck,hRy]
 unfold set2 at bN;rw [<-bN];refine bodyPost_ret (v:=.tuple #[.agg #[.slice none 0 0,.slice none 0 0],.int .i64 er]) (by simp [results,Tryz.results36,go_sem,q0,q1]) rfl ⟨HF.out,rfl⟩
theorem V8 (f fx:Nat) (es:List Pt) (hes:dZ es) (env:Env) (t0:List Nd) (b0:Nat) (x:List Pt) (t:List Nd) (b:Nat) (A EA:Option Addr) (c ec:Nat) (bs:List Bn) (w:World) (ha:mK w w.heap.size A bs) (hA:A=none->bs=[]) (hs:∀a,A=some a->∃b o,a=⟨b,o,none⟩) (hen:dX w (fun _=>False) bs env) (hex:jW w (fun _=>False) EA es) (heo:∀a,EA=some a->a.block<w.heap.size) (hl:env.length<=100000) (hel:es.length<=1000000) (hm:gW f es env 0=some (.ok (t0,b0))) (hc:cst fx es env 0=some (x,t,b)):
  Calls Tryz.prog 36 #[.slice A bs.length c,.slice EA es.length ec] w (TY (.ok (x,t)) w):=by
 obtain ⟨w1,hw1⟩:∃w1,w1=w.alloc (.cells #[.slice none 0 0,.slice none 0 0] 65):=⟨_,rfl⟩;obtain ⟨R,hR⟩:∃R,R=w.heap.size:=⟨_,rfl⟩;have hb1:Below w.heap.size w w1:=by rw [hw1];exact aj (aF _ _) _
 have hf1:Fr (fun _=>False) w w1:=Fr.below hb1;have Hex:=aD (CX f es hes env _ A EA c ec bs w1 ((bf.below ha hb1).more hb1.size) hA hs (hen.fr hf1 fun q hq=>.inl hq) (hex.fr hf1 fun q hq=>.inl hq) hl hel hm);have HR1:Hid (w1.heap[R]?=some (.cells #[.slice none 0 0,.slice none 0 0] 65 (0,0))/\w.heap.size<=R/\R<w1.heap.size/\Below w.heap.size w w1):=aD ⟨by rw [hw1,hR];exact heap_alloc_new _ _,by rw [hR];exact aG _,by rw [hw1,hR,Er];exact Nat.lt_succ_self _,hb1⟩;have H:=aD (Cj hen (Cj hex (Cj hc heo)));have HC:Hid (∀w2,Below w.heap.size w w2->Calls Tryz.prog 31 #[.slice A bs.length c] w2 fun e w'=>∃A' cap',e= .returned (.slice A' bs.length cap')/\Bl w' w2.heap.size A' cap' bs/\Below w2.heap.size w2 w'):=aD fun w2 hb=>D8 A c bs w2 ((bf.below ha hb).more hb.size) hA hs (by rw [hen.1];omega);clear ha hA hs hen hex hm hb1 hf1 hc heo;go_enter Tryz.func36,Tryz.ntmps36;go_upto_region 1 with fail
 rw [<-hw1,<-hR];clear hw1 hR;go_wp2_with fail;refine Hex.out.mono ?_;rintro e w2 ⟨hb2,A0,c0,rfl,_,_⟩;have HB2:Hid (Below w.heap.size w w2/\w1.heap.size<=w2.heap.size/\w2.heap[R]?=some (.cells #[.slice none 0 0,.slice none 0 0] 65 (0,0))):=aD ⟨au HR1.out.2.2.2 hb2,hb2.size,(hb2.block R HR1.out.2.2.1).trans HR1.out.1⟩;have HCc:=aD (HC.out w2 HB2.out.1);clear hb2 Hex HC;go_upto_region 4 with fail
 go_wp2_with fail;refine HCc.out.mono ?_;rintro e w3 ⟨VA,vc,rfl,hown,hb3⟩;have H3:Hid (Bl w3 w2.heap.size VA vc bs/\Below w.heap.size w w3/\w2.heap.size<=w3.heap.size/\w3.heap[R]?=some (.cells #[.slice none 0 0,.slice none 0 0] 65 (0,0))):=aD ⟨hown,au HB2.out.1 hb3,hb3.size,(hb3.block R (by have:=HR1.out.2.2.1;have:=HB2.out.2.1;omega)).trans HB2.out.2.2⟩;clear hown hb3 HCc;go_upto_region 5 with fail
 obtain ⟨w4,hw4⟩:∃w4,w4=w3.alloc (.cells #[.slice EA es.length ec,.int .i64 0,.slice VA bs.length vc] 85):=⟨_,rfl⟩;obtain ⟨P,hP⟩:∃P,P=w3.heap.size:=⟨_,rfl⟩;have hb4:Below w3.heap.size w3 w4:=by rw [hw4];exact aj (aF _ _) _
 have nY:Hid (Below w.heap.size w w4/\w.heap.size<=P/\R<P):=aD ⟨au H3.out.2.1 hb4,by rw [hP];exact H3.out.2.1.size,by rw [hP];have:=HR1.out.2.2.1;have:=HB2.out.2.1;have:=H3.out.2.2.1;omega⟩
 have HYn:Hid (∀q,YW P VA q->w2.heap.size<=q):=aD (by
  rintro q (rfl|⟨a,rfl,rfl⟩)
  ·rw [hP];exact H3.out.2.2.1
  ·exact (aB.lt H3.out.1 a rfl).1)
 have YH:Hid (aS w4 (YW P VA) R #[.slice none 0 0,.slice none 0 0] 65):=aD ⟨(hb4.block R (by have:=(aaj.1 H3.out.2.2.2).1;exact this)).trans H3.out.2.2.2,fun h=>by have:=HYn.out R h;have:=HR1.out.2.2.1;have:=HB2.out.2.1;omega⟩
 have HK:Hid (iI P es env 0 (YW P VA) w4):=aD (by
  have Yb:ah (fun _=>False) (YW P VA) w:=fun q hq=>.inr (Nat.le_trans HB2.out.1.size (HYn.out q hq));have hfr:Fr (fun _=>False) w w4:=Fr.below nY.out.1;refine ⟨EA,ec,VA,vc,bs,?_,?_,H.out.2.1.fr hfr Yb,fun a ha q hq=>?_,H.out.1.fr hfr Yb,fun q=>Iff.rfl,?_,hel,by omega⟩
  ·rw [hw4,hP]
   exact heap_alloc_new _ _
  ·rw [hw4]
   exact aB.alloc (aB.lower H3.out.1 (bE _)) _
  ·have h5:=HYn.out q hq
   have h6:=HB2.out.1.size;have h7:=H.out.2.2.2 a ha;omega
  ·rintro a rfl
   rw [hP];have:=(aB.lt H3.out.1 a rfl).2;omega)
 rw [<-hw4,<-hP];clear hw4 hP hb4;have HN:=aD (Ig es hes P fx env 0 _ (YW P VA) w4 H.out.2.2.1 HK.out);unfold pk at HN;go_wp2_with fail;refine HN.out.mono ?_;rintro e w5 ⟨Y5,hf,hy,hkk,A5,c5,T5,d5,rfl,hx,ht,hA⟩;have V9:=aD (YH.out.fr hf hy);have H5:Hid (bP w5 Y5 A5 c5 x/\aA w5 Y5 T5 d5 t/\Y5 P):=aD ⟨hx,ht,hkk.yP⟩;have z_:Hid (Below w.heap.size w w5):=aD (Fr.toBelow (Fr.new (Fr.below nY.out.1:Fr (fun _=>False) w w4) hf fun q hq=>.inr (Nat.le_trans HB2.out.1.size (HYn.out q hq))) fun k h=>h.elim);clear hf hy hkk hx ht hA HN;obtain ⟨r0,r1⟩:=V9.out.kR;have qQ:w5.frozen? ⟨R,0,none⟩=false:=by simp [EJ,V9.out.blk]
 have qR:w5.frozen? ⟨R,1,none⟩=false:=by simp [EJ,V9.out.blk]
 go_wp2_with fail;obtain ⟨wy,bN⟩:∃wy,wy=set2 w5 R (.slice A5 (x:List Pt).length c5) (.slice T5 (t:List Nd).length d5):=⟨_,rfl⟩;have hf2:Fr (fun q=>q=R) w5 (set2 w5 R (.slice A5 (x:List Pt).length c5) (.slice T5 (t:List Nd).length d5)):=(dY _ _ _ _).trans (dY _ _ _ _)
 have hbk:(set2 w5 R (.slice A5 (x:List Pt).length c5) (.slice T5 (t:List Nd).length d5)).heap[R]?=some (.cells #[.slice A5 (x:List Pt).length c5,.slice T5 (t:List Nd).length d5] 65 (0,0)):=by
  unfold set2;rw [heap_set (heap_set V9.out.blk 0 _) 1];rfl
 have HF:Hid (Below w.heap.size w wy/\bP wy (fun _=>False) A5 c5 x/\aA wy (fun _=>False) T5 d5 t/\wy.heap[R]?=some (.cells #[.slice A5 (x:List Pt).length c5,.slice T5 (t:List Nd).length d5] 65 (0,0))):=aD (by
  rw [bN];exact ⟨Fr.toBelow (Fr.new (Fr.below z_.out:Fr (fun _=>False) w w5) hf2 fun b e=>.inr (by rw [e];exact HR1.out.2.1)) fun k e=>e.elim,H5.out.1.set V9.out.blk (by simp) (by simp) hf2,H5.out.2.1.set V9.out.blk (by simp) (by simp) hf2,hbk⟩)
 unfold set2 at bN;rw [<-bN];clear bN hf2 hbk r0 r1 qQ qR;have q0:wy.cell? ⟨R,0,none⟩=some (.slice A5 (x:List Pt).length c5):=by simp [Ck,HF.out.2.2.2]
 have q1:wy.cell? ⟨R,1,none⟩=some (.slice T5 (t:List Nd).length d5):=by simp [Ck,HF.out.2.2.2]
 refine bodyPost_ret (v:=.tuple #[.agg #[.slice A5 (x:List Pt).length c5,.slice T5 (t:List Nd).length d5],.int .i64 0]) (by simp [results,Tryz.results36,go_sem,q0,q1]) rfl ⟨HF.out.1,A5,c5,T5,d5,rfl,HF.out.2.1,HF.out.2.2.1⟩
theorem Sm (f:Nat) (es:List Pt) (hes:dZ es) (env:Env) (q:Nat) (er:Int) (her:er≠0) (A EA:Option Addr) (c ec:Nat) (bs:List Bn) (w:World) (ha:mK w w.heap.size A bs) (hA:A=none->bs=[]) (hs:∀a,A=some a->∃b o,a=⟨b,o,none⟩) (hen:dX w (fun _=>False) bs env) (hex:jW w (fun _=>False) EA es) (hl:env.length<=100000) (hel:es.length<=1000000) (hm:gW f es env 0=some (.error (q,er))):
  Calls Tryz.prog 20 #[.slice A bs.length c,.slice EA es.length ec] w (EO (.error er) w):=by
 have HX:=aD (Sl f es hes env q er her A EA c ec bs w ha hA hs hen hex hl hel hm);have hne:(er !=0)=true:=by simp [her]
 clear ha hA hs hen hex hm;go_enter Tryz.func20,Tryz.ntmps20;go_wp2_with fail;refine HX.out.mono ?_;rintro e w1 ⟨hb,rfl⟩;have HB:=aD hb;clear hb HX;go_wp2_with fail;go_ret3;exact ⟨aj HB.out _,rfl⟩
theorem Ky (f fx:Nat) (es:List Pt) (hes:dZ es) (env:Env) (t0:List Nd) (b0:Nat) (x:List Pt) (t:List Nd) (b:Nat) (A EA:Option Addr) (c ec:Nat) (bs:List Bn) (w:World) (ha:mK w w.heap.size A bs) (hA:A=none->bs=[]) (hs:∀a,A=some a->∃b o,a=⟨b,o,none⟩) (hen:dX w (fun _=>False) bs env) (hex:jW w (fun _=>False) EA es) (heo:∀a,EA=some a->a.block<w.heap.size) (hl:env.length<=100000) (hel:es.length<=1000000) (hm:gW f es env 0=some (.ok (t0,b0))) (hc:cst fx es env 0=some (x,t,b)):
  Calls Tryz.prog 20 #[.slice A bs.length c,.slice EA es.length ec] w (EO (.ok (iw 0 x,t)) w):=by
 have HX:=aD (V8 f fx es hes env t0 b0 x t b A EA c ec bs w ha hA hs hen hex heo hl hel hm hc);have HG:=aD (BP _ _ _ _ _ _ _ hc);clear ha hA hs hen hex hm hc heo;go_enter Tryz.func20,Tryz.ntmps20;go_wp2_with fail;refine HX.out.mono ?_;rintro e w1 ⟨hb,A1,c1,T1,d1,rfl,hx,ht⟩;have H1:Hid (Below w.heap.size w w1/\bP w1 (fun _=>False) A1 c1 x/\aA w1 (fun _=>False) T1 d1 t):=aD ⟨hb,hx,ht⟩;clear hb hx ht HX;go_upto_region 2 with fail
 obtain ⟨w2,hw2⟩:∃w2,w2=w1.alloc (.cells #[.slice A1 (x:List Pt).length c1,.slice T1 (t:List Nd).length d1] 65):=⟨_,rfl⟩;obtain ⟨G,hG⟩:∃G,G=w1.heap.size:=⟨_,rfl⟩;have hb2:Below w1.heap.size w1 w2:=by rw [hw2];exact aj (aF _ _) _
 have H2:Hid (Below w.heap.size w w2/\bP w2 (fun _=>False) A1 c1 x/\aA w2 (fun _=>False) T1 d1 t/\aS w2 (fun _=>False) G #[.slice A1 (x:List Pt).length c1,.slice T1 (t:List Nd).length d1] 65):=aD ⟨au H1.out.1 hb2,H1.out.2.1.fr (Fr.below hb2) (ah.refl _ _),H1.out.2.2.later hb2,by rw [hw2,hG];exact aS.new (fun q hq=>hq.elim) _ _⟩;rw [<-hw2,<-hG];clear hw2 hG hb2;obtain ⟨g0,g1⟩:=H2.out.2.2.2.kR;have HNm:=aD (MR A1 c1 x 0 (by omega) (fun _=>False) w2 H2.out.2.1 HG.out.ne (by have:=HG.out.len;omega) (fun q hq=>hq.elim));go_wp2_with fail;refine HNm.out.mono ?_;rintro e w3 ⟨hb3,A3,c3,rfl,hx3⟩;have H3:Hid (Below w.heap.size w w3/\bP w3 (fun _=>False) A3 c3 (iw 0 x)/\aA w3 (fun _=>False) T1 d1 t):=aD ⟨au H2.out.1 hb3,hx3,H2.out.2.2.1.later hb3⟩;have X_:=H2.out.2.2.2.below hb3;have s0:∀n,(w3.drewN n).cell? ⟨G,0,none⟩=some (.slice A1 (x:List Pt).length c1):=fun n=>X_.kR.1;have s1:∀n,(w3.drewN n).cell? ⟨G,1,none⟩=some (.slice T1 (t:List Nd).length d1):=fun n=>X_.kR.2;clear hb3 hx3 HNm g0 g1 X_;go_upto_region 5 with fail
 go_quiet (fail);go_wp2_with fail;go_ret3;refine ⟨below_drewN H3.out.1 _,A3,c3,T1,d1,by rw [show (iw 0 x).length=x.length from vM _ _ _ _];rfl,?_,?_⟩
 ·exact H3.out.2.1.fr (Fr.below (below_drewN (aF _ _) _)) (ah.refl _ _)
 ·exact H3.out.2.2.fr (Fr.below (below_drewN (aF _ _) _)) (ah.refl _ _)
def yZ:Pt:=⟨2,⟨#[]⟩,⟨#[]⟩,⟨#[120]⟩,0,0,[⟨0,⟨#[]⟩,0⟩],[]⟩
def Jr:Pt:=⟨9,⟨#[]⟩,⟨#[43]⟩,⟨#[]⟩,0,0,[],[]⟩
def Js:Pt:=⟨1,⟨#[]⟩,⟨#[120]⟩,⟨#[]⟩,0,0,[],[]⟩
def wY:Pt:=⟨0,⟨#[]⟩,⟨#[]⟩,⟨#[]⟩,0,1,[⟨1,⟨#[]⟩,0⟩],[]⟩
def Jt:List Pt:=[yZ,Jr,Js,wY]
theorem Sn:gW 5 Jt [] 0=some (.ok ([⟨5,⟨#[]⟩,0⟩,⟨0,⟨#[]⟩,0⟩,⟨1,⟨#[]⟩,0⟩],4)):=by kernel_rfl
theorem Kz:iD 100 [⟨5,⟨#[]⟩,0⟩,⟨0,⟨#[]⟩,0⟩,⟨1,⟨#[]⟩,0⟩]=[63,32,45,62,32,105,110,116]:=by kernel_rfl
def Em (p:Pt) (TA:Option Addr) (tc:Nat):List Value:=[.int .i64 p.k,.string p.lb,.string p.nm,.string p.bd,.int .i64 p.mn,.int .i64 p.num,.slice TA p.T.length tc,.slice none 0 0]
theorem Sq (w:World) (t0 t1:Nat) (h0:w.heap[t0]?=some (.cells #[.int .i64 0,.string ⟨#[]⟩,.int .i64 0] 49 (0,0))) (h1:w.heap[t1]?=some (.cells #[.int .i64 1,.string ⟨#[]⟩,.int .i64 0] 49 (0,0))) (b:Nat)
  (hb:w.heap[b]?=some (.cells (Em yZ (some ⟨t0,0,none⟩) 1++Em Jr none 0++Em Js none 0++Em wY (some ⟨t1,0,none⟩) 1).toArray 33 (0,0))):
  jW w (fun _=>False) (some ⟨b,0,none⟩) Jt/\jW w (fun _=>False) (some ⟨b,8,none⟩) [Jr,Js,wY]:=by
 have l0:=(aaj.1 h0).1;have l1:=(aaj.1 h1).1;have lb:=(aaj.1 hb).1
 have hT0:aA w (fun _=>False) (some ⟨t0,0,none⟩) 1 yZ.T:=⟨fun _=>⟨t0,0,rfl,l0,fun h=>h,⟨fun i x hx=>by
   match i,hx with
   |0,hx=>simp [yZ] at hx;subst hx;simp [Ck,h0]
   |i+1,hx=>simp [yZ] at hx,fun i x hx=>by
   match i,hx with
   |0,hx=>simp [yZ] at hx;subst hx;simp [Ck,h0]
   |i+1,hx=>simp [yZ] at hx,fun i x hx=>by
   match i,hx with
   |0,hx=>simp [yZ] at hx;subst hx;simp [Ck,h0]
   |i+1,hx=>simp [yZ] at hx⟩,.inr fun q h=>h.elim⟩,by simp [yZ]⟩
 have hT1:aA w (fun _=>False) (some ⟨t1,0,none⟩) 1 wY.T:=⟨fun _=>⟨t1,0,rfl,l1,fun h=>h,⟨fun i x hx=>by
   match i,hx with
   |0,hx=>simp [wY] at hx;subst hx;simp [Ck,h1]
   |i+1,hx=>simp [wY] at hx,fun i x hx=>by
   match i,hx with
   |0,hx=>simp [wY] at hx;subst hx;simp [Ck,h1]
   |i+1,hx=>simp [wY] at hx,fun i x hx=>by
   match i,hx with
   |0,hx=>simp [wY] at hx;subst hx;simp [Ck,h1]
   |i+1,hx=>simp [wY] at hx⟩,.inr fun q h=>h.elim⟩,by simp [wY]⟩
 have hN:∀A,aA w (fun _=>False) A 0 []:=fun A=>aA.nil;have p0:zO w (fun _=>False) b 0 yZ:=⟨some ⟨t0,0,none⟩,1,none,0,hT0,hN _,by simp [Ck,hb,Em,yZ,Jr,Js,wY]⟩;have p1:zO w (fun _=>False) b 8 Jr:=⟨none,0,none,0,hN _,hN _,by simp [Ck,hb,Em,yZ,Jr,Js,wY]⟩;have p2:zO w (fun _=>False) b 16 Js:=⟨none,0,none,0,hN _,hN _,by simp [Ck,hb,Em,yZ,Jr,Js,wY]⟩;have p3:zO w (fun _=>False) b 24 wY:=⟨some ⟨t1,0,none⟩,1,none,0,hT1,hN _,by simp [Ck,hb,Em,yZ,Jr,Js,wY]⟩;refine ⟨fun i p hp=>⟨b,0,rfl,lb,fun h=>h,?_,.inr fun q h=>h.elim⟩,fun i p hp=>⟨b,8,rfl,lb,fun h=>h,?_,.inr fun q h=>h.elim⟩⟩
 ·match i,hp with
  |0,hp=>simp [Jt] at hp;subst hp;exact p0
  |1,hp=>simp [Jt] at hp;subst hp;exact p1
  |2,hp=>simp [Jt] at hp;subst hp;exact p2
  |3,hp=>simp [Jt] at hp;subst hp;exact p3
  |i+4,hp=>simp [Jt] at hp
 ·match i,hp with
  |0,hp=>simp at hp;subst hp;exact p1
  |1,hp=>simp at hp;subst hp;exact p2
  |2,hp=>simp at hp;subst hp;exact p3
  |i+3,hp=>simp at hp
def Sr:List Nd:=[⟨5,⟨#[]⟩,0⟩,⟨0,⟨#[]⟩,0⟩,⟨1,⟨#[]⟩,0⟩]
def aCs:List Pt:=[yZ,Jr,n_ ByteArray.empty [⟨0,⟨#[]⟩,0⟩] [⟨1,⟨#[]⟩,0⟩],Js,wY]
theorem Sv:cst 5 Jt [] 0=some (aCs,Sr,4):=by kernel_rfl
theorem II:iw 0 aCs=wX:=by kernel_rfl
theorem bP.exF {w:World} {A:Option Addr} {c:Nat} {xs:List Pt} (h:bP w (fun _=>False) A c xs):jW w (fun _=>False) A xs:=by
 obtain ⟨vs,h1,h2,_⟩:=h;exact h2.ex h1.read
theorem PY (A:Option Addr) (c:Nat) (w:World) (hx:jW w (fun _=>False) A wX):Calls Tryz.prog 35 #[.slice A 5 c] w (qZ ⟨#[40,102,117,110,32,40,120,58,32,63,41,32,45,62,32,40,60,120,58,32,63,32,61,62,32,105,110,116,62,32,43,32,49,41,41]⟩ w):=by
 have H:=aD (V7 A c w hx);clear hx;go_enter Tryz.func35,Tryz.ntmps35;go_wp2_with fail;refine H.out.mono ?_;rintro e w1 ⟨rfl,hb⟩;have HB:=aD hb;clear hb;go_wp2_with fail;go_ret;exact ⟨rfl,HB.out⟩
theorem wN (w:World):Calls Tryz.prog 19 #[] w fun e w'=>e= .returned (.bool true)/\Below w.heap.size w w':=by
 go_enter Tryz.func19,Tryz.ntmps19;go_upto_region 2 with fail
 obtain ⟨w1,hw1⟩:∃w1,w1=(((w.alloc (.cells #[.int .i64 0,.string ⟨#[]⟩,.int .i64 0] 49)).alloc (.cells #[.int .i64 1,.string ⟨#[]⟩,.int .i64 0] 49)).alloc (.cells #[.int .i64 2,.string ⟨#[]⟩,.string ⟨#[]⟩,.string ⟨#[120]⟩,.int .i64 0,.int .i64 0,.slice (some ⟨w.heap.size,0,none⟩) 1 1,.slice none 0 0,.int .i64 9,.string ⟨#[]⟩,.string ⟨#[43]⟩,.string ⟨#[]⟩,.int .i64 0,.int .i64 0,.slice none 0 0,.slice none 0 0,.int .i64 1,.string ⟨#[]⟩,.string ⟨#[120]⟩,.string ⟨#[]⟩,.int .i64 0,.int .i64 0,.slice none 0 0,.slice none 0 0,.int .i64 0,.string ⟨#[]⟩,.string ⟨#[]⟩,.string ⟨#[]⟩,.int .i64 0,.int .i64 1,.slice (some ⟨w.heap.size+1,0,none⟩) 1 1,.slice none 0 0] 33)):=⟨_,rfl⟩;have hb1:Below w.heap.size w w1:=by rw [hw1];exact aj (aj (aj (aF _ _) _) _) _
 have hmem:jW w1 (fun _=>False) (some ⟨w.heap.size+1+1,0,none⟩) Jt/\jW w1 (fun _=>False) (some ⟨w.heap.size+1+1,8,none⟩) [Jr,Js,wY]:=by
  refine Sq w1 w.heap.size (w.heap.size+1) ?_ ?_ (w.heap.size+1+1) ?_
  ·rw [hw1]
   refine (Ew _ _ _ ?_).trans ((Ew _ _ _ ?_).trans (heap_alloc_new _ _))
   ·simp only [Er];omega
   ·simp only [Er];omega
  ·rw [hw1]
   refine (Ew _ _ _ ?_).trans ?_
   ·simp only [Er];omega
   ·have:=heap_alloc_new (w.alloc (.cells #[.int .i64 0,.string ⟨#[]⟩,.int .i64 0] 49)) (.cells #[.int .i64 1,.string ⟨#[]⟩,.int .i64 0] 49)
    have e:(w.alloc (.cells #[.int .i64 0,.string ⟨#[]⟩,.int .i64 0] 49)).heap.size=w.heap.size+1:=by simp only [Er]
    rw [e] at this;exact this
  ·rw [hw1]
   have:=heap_alloc_new ((w.alloc (.cells #[.int .i64 0,.string ⟨#[]⟩,.int .i64 0] 49)).alloc (.cells #[.int .i64 1,.string ⟨#[]⟩,.int .i64 0] 49)) (.cells #[.int .i64 2,.string ⟨#[]⟩,.string ⟨#[]⟩,.string ⟨#[120]⟩,.int .i64 0,.int .i64 0,.slice (some ⟨w.heap.size,0,none⟩) 1 1,.slice none 0 0,.int .i64 9,.string ⟨#[]⟩,.string ⟨#[43]⟩,.string ⟨#[]⟩,.int .i64 0,.int .i64 0,.slice none 0 0,.slice none 0 0,.int .i64 1,.string ⟨#[]⟩,.string ⟨#[120]⟩,.string ⟨#[]⟩,.int .i64 0,.int .i64 0,.slice none 0 0,.slice none 0 0,.int .i64 0,.string ⟨#[]⟩,.string ⟨#[]⟩,.string ⟨#[]⟩,.int .i64 0,.int .i64 1,.slice (some ⟨w.heap.size+1,0,none⟩) 1 1,.slice none 0 0] 33);have e:((w.alloc (.cells #[.int .i64 0,.string ⟨#[]⟩,.int .i64 0] 49)).alloc (.cells #[.int .i64 1,.string ⟨#[]⟩,.int .i64 0] 49)).heap.size=w.heap.size+1+1:=by simp only [Er]
   rw [e] at this;exact this
 rw [<-hw1];clear hw1;obtain ⟨g,hg⟩:∃g,g=w.heap.size+1+1:=⟨_,rfl⟩;rw [<-hg] at hmem ⊢;clear hg;have HB1:=aD hb1;have HX:=aD hmem;clear hb1 hmem;have HE1:=aD (Ky 5 5 Jt (by unfold dZ;decide) [] _ _ aCs Sr 4 none (some ⟨g,0,none⟩) 0 4 [] w1 bf.nil (fun _=>rfl) (fun a h=>by cases h) dX.nil HX.out.1 (fun a ha=>by injection ha with ha;rw [<-ha];obtain ⟨b,o,e,hb,_⟩:=HX.out.1 0 yZ rfl;injection e with e;injection e with e _;rw [e];exact hb) (by decide) (by decide) Sn Sv);go_wp2_with fail;refine HE1.out.mono ?_;rintro e w2 ⟨hb2,A,c,T,d,rfl,hxv,htv⟩;rw [II] at hxv;have HB2:=aD hb2;have HT2:=aD htv.ty.eY;have mh:=aD hxv
 have HP:Hid (∀v,Below w2.heap.size w2 v->Calls Tryz.prog 30 #[.slice T 3 d] v fun e w'=>e= .returned (.string ⟨#[63,32,45,62,32,105,110,116]⟩)/\Below v.heap.size v w'):=aD fun v hv=>by
  have h:=yY 3 d T Sr v (by kernel_rfl) ((HT2.out.below hv).more hv.size) (by decide) (by decide) (fun x hx=>by
   unfold Sr at hx;simp only [List.mem_cons,List.not_mem_nil,or_false] at hx;rcases hx with rfl|rfl|rfl<;>exact ⟨by decide,by decide,by decide,by decide,by decide⟩) (by unfold Sr;rw [Kz];decide)
  unfold Sr at h;rw [Kz] at h;exact h
 have HP5:Hid (∀v,Below w2.heap.size w2 v->Calls Tryz.prog 35 #[.slice A 5 c] v (qZ ⟨#[40,102,117,110,32,40,120,58,32,63,41,32,45,62,32,40,60,120,58,32,63,32,61,62,32,105,110,116,62,32,43,32,49,41,41]⟩ v)):=aD fun v hv=>PY A c v (mh.out.exF.fr (Fr.below hv:Fr (fun _=>False) w2 v) fun q hq=>.inl hq);have hl5:(iw 0 aCs).length=5:=by rw [II];rfl
 have hl3:Sr.length=3:=rfl;rw [hl5,hl3];obtain ⟨xb,xo,rfl,hxb,_,⟨TA,tc,UA,uc,_,_,c0,_,_,_,_,c5,_⟩,_⟩:=hxv.exF 2 Z5 rfl;replace c0:w2.cell? ⟨xb,xo+16,none⟩=some (.int .i64 14):=c0;replace c5:w2.cell? ⟨xb,xo+21,none⟩=some (.int .i64 1):=c5;clear hb2 hxv htv hl5 hl3;have HPc:=aD (HP.out w2 (aF _ _));go_wp2_with fail;refine HPc.out.mono ?_;rintro e w3 ⟨rfl,hb3⟩;replace c0:=(hb3.cell hxb).trans c0;replace c5:=(hb3.cell hxb).trans c5;have HB3:=aD hb3;clear hb3 HPc hxb;have acS:=aD (HP5.out w3 HB3.out);go_wp2_with fail;refine acS.out.mono ?_;rintro e w4 ⟨rfl,hb4⟩;have nY:=aD (au HB1.out (au HB2.out (au HB3.out hb4)));clear hb4 acS c0 c5;go_wp2_with fail;go_ret;exact ⟨rfl,nY.out⟩
theorem En (t:List Nd):mE t t=true:=by unfold mE;simp
def aae (xs:List Pt):Prop:=xs.length<=1000000/\∀x∈xs,x.T.length<=5000000/\x.U.length<=5000000
theorem KC (w:World) (cs ds:Array Value) (T:TypeId):((w.alloc (.cells cs T)).alloc (.cells ds T)).drew.heap[w.heap.size]?=some (.cells cs T (0,0))/\((w.alloc (.cells cs T)).alloc (.cells ds T)).drew.heap[w.heap.size+1]?=some (.cells ds T (0,0)):=by
 constructor
 ·show ((w.alloc (.cells cs T)).alloc (.cells ds T)).heap[w.heap.size]?=_
  refine (Ew _ _ _ ?_).trans (heap_alloc_new _ _);rw [Er];omega
 ·show ((w.alloc (.cells cs T)).alloc (.cells ds T)).heap[w.heap.size+1]?=_
  have h:=heap_alloc_new (w.alloc (.cells cs T)) (.cells ds T);rw [Er] at h;exact h
theorem Sw (Y:Nat->Prop) (A B:Option Addr) (c d:Nat) (xs:List Pt) (w:World) (ha:jW w Y A xs) (hb:jW w Y B xs) (hl:aae xs):
  Calls Tryz.prog 24 #[.slice A xs.length c,.slice B xs.length d] w fun e w'=>e= .returned (.bool true)/\Below w.heap.size w w':=by
 have HA:=aD (Cj ha hb);have hl0:=hl.1;have HL:=aD hl.2;clear ha hb hl;go_enter Tryz.func24,Tryz.ntmps24;go_wp2_with fail;go_loopw [5] (fun i w'=>∃k:Nat,k<=xs.length/\i= .int .i64 k/\Hid (Below w.heap.size w w')) (fun i _=>xs.length-(Lib.intOf i).toNat)
 case atStart=>exact ⟨0,bE _,rfl,aD (aF _ _)⟩
 case round=>
  obtain ⟨k,hk,rfl,hbel⟩:=hrel;by_cases hp:k<xs.length
  ·obtain ⟨x,hx⟩:=aN hp
   obtain ⟨b1,o1,rfl,hb1,_,⟨TA,tc,UA,uc,hT,hU,c0,c1,c2,c3,c4,c5,c6,c7⟩,_⟩:=(HA.out.1.fr (Fr.below hbel.out:Fr Y w wr) fun q hq=>.inl hq) k x hx;obtain ⟨b2,o2,rfl,hb2,_,⟨FY,FZ,F4,F5,hT2,hU2,d0,d1,d2,d3,d4,d5,d6,d7⟩,_⟩:=(HA.out.2.fr (Fr.below hbel.out:Fr Y w wr) fun q hq=>.inl hq) k x hx;have hlx:=HL.out x (Ox hx)
   have HST:Hid (∀v,Below wr.heap.size wr v->Calls Tryz.prog 21 #[.slice TA x.T.length tc,.slice FY x.T.length FZ] v fun e w'=>e= .returned (.bool true)/\Below v.heap.size v w'):=aD fun v hv=>by
    have h:=r_ TA FY tc FZ x.T x.T v ((hT.ty.eY.below hv).more hv.size) ((hT2.ty.eY.below hv).more hv.size) (by have:=hlx.1;omega);rw [En] at h;exact h
   have HSU:Hid (∀v,Below wr.heap.size wr v->Calls Tryz.prog 21 #[.slice UA x.U.length uc,.slice F4 x.U.length F5] v fun e w'=>e= .returned (.bool true)/\Below v.heap.size v w'):=aD fun v hv=>by
    have h:=r_ UA F4 uc F5 x.U x.U v ((hU.ty.eY.below hv).more hv.size) ((hU2.ty.eY.below hv).more hv.size) (by have:=hlx.2;omega);rw [En] at h;exact h
   have q1:b1<wr.heap.size+1:=by omega
   have q2:b2<wr.heap.size+1:=by omega
   have hlt1:(k:Int)<(xs.length:Int):=by omega
   clear hx hT hU hT2 hU2 hlx;go_upto_region 6 with fail
   go_cut [6,7] (fun s6 s7 wx=>∃(P Q:Nat),s6= .pointer (some ⟨P,0,none⟩)/\s7= .pointer (some ⟨Q,0,none⟩)/\Hid (Below wr.heap.size wr wx/\wx.heap[P]?=some (.cells #[.int .i64 x.k,.string x.lb,.string x.nm,.string x.bd,.int .i64 x.mn,.int .i64 x.num,.slice TA x.T.length tc,.slice UA x.U.length uc] 33 (0,0))/\wx.heap[Q]?=some (.cells #[.int .i64 x.k,.string x.lb,.string x.nm,.string x.bd,.int .i64 x.mn,.int .i64 x.num,.slice FY x.T.length FZ,.slice F4 x.U.length F5] 33 (0,0))))
   case first=>
    go_region
    all_goals go_wp2_with fail
    all_goals go_meet
    all_goals refine ⟨_,_,rfl,rfl,aD ⟨(aj (aj (aF _ _) _) _).drew,?_,?_⟩⟩
    all_goals first
     |exact (KC _ _ _ _).1
     |exact (KC _ _ _ _).2
   case rest=>
    obtain ⟨P,Q,rfl,rfl,HC⟩:=hcut;have M0:=HC.out.2.1;have M4:=HC.out.2.2;have k0:wc.cell? ⟨P,0,none⟩=some (.int .i64 x.k):=by simp [Ck,M0]
    have k1:wc.cell? ⟨P,1,none⟩=some (.string x.lb):=by simp [Ck,M0]
    have k2:wc.cell? ⟨P,2,none⟩=some (.string x.nm):=by simp [Ck,M0]
    have k3:wc.cell? ⟨P,3,none⟩=some (.string x.bd):=by simp [Ck,M0]
    have k4:wc.cell? ⟨P,4,none⟩=some (.int .i64 x.mn):=by simp [Ck,M0]
    have k5:wc.cell? ⟨P,5,none⟩=some (.int .i64 x.num):=by simp [Ck,M0]
    have k6:wc.cell? ⟨P,6,none⟩=some (.slice TA x.T.length tc):=by simp [Ck,M0]
    have k7:wc.cell? ⟨P,7,none⟩=some (.slice UA x.U.length uc):=by simp [Ck,M0]
    have m0:wc.cell? ⟨Q,0,none⟩=some (.int .i64 x.k):=by simp [Ck,M4]
    have m1:wc.cell? ⟨Q,1,none⟩=some (.string x.lb):=by simp [Ck,M4]
    have m2:wc.cell? ⟨Q,2,none⟩=some (.string x.nm):=by simp [Ck,M4]
    have m3:wc.cell? ⟨Q,3,none⟩=some (.string x.bd):=by simp [Ck,M4]
    have m4:wc.cell? ⟨Q,4,none⟩=some (.int .i64 x.mn):=by simp [Ck,M4]
    have m5:wc.cell? ⟨Q,5,none⟩=some (.int .i64 x.num):=by simp [Ck,M4]
    have m6:wc.cell? ⟨Q,6,none⟩=some (.slice FY x.T.length FZ):=by simp [Ck,M4]
    have m7:wc.cell? ⟨Q,7,none⟩=some (.slice F4 x.U.length F5):=by simp [Ck,M4]
    have HB1:=aD (au hbel.out HC.out.1);have HT:=aD (HST.out wc HC.out.1);clear M0 M4 c0 c1 c2 c3 c4 c5 c6 c7 d0 d1 d2 d3 d4 d5 d6 d7 q1 q2 hb1 hb2;go_wp2_with fail;refine HT.out.mono ?_;rintro e w2 ⟨rfl,hb2⟩;replace k7:=(hb2.cell (Db _ _ k7)).trans k7;replace m7:=(hb2.cell (Db _ _ m7)).trans m7;have HU:=aD (HSU.out w2 (au HC.out.1 hb2));have HB2:=aD (au HB1.out hb2);clear hb2 HT k0 k1 k2 k3 k4 k5 k6 m0 m1 m2 m3 m4 m5 m6;go_wp2_with fail;refine HU.out.mono ?_;rintro e w3 ⟨rfl,hb3⟩;have HB3:=aD (au HB2.out hb3);clear hb3 HU k7 m7;go_wp2_with fail;go_roundw
    case rel=>exact ⟨k+1,by omega,by go_num,HB3⟩
    case measure=>simp [Lib.intOf];omega
  ·go_wp2_with fail
   go_ret;exact ⟨rfl,hbel.out⟩
theorem V_ (Y:Nat->Prop) (A B:Option Addr) (c d:Nat) (xs:List Pt) (w:World) (ha:jW w Y A xs) (hb:jW w Y B xs) (hl:aae xs):
  Calls Tryz.prog 22 #[.slice A xs.length c,.slice B xs.length d] w fun e w'=>e= .returned (.bool true)/\Below w.heap.size w w':=by
 have HA:=aD (Cj ha hb);have HS:=aD (Sw Y A B c d xs w ha hb hl);have hl0:=hl.1;have HL:=aD hl.2;clear ha hb hl;go_enter Tryz.func22,Tryz.ntmps22;go_wp2_with fail;refine HS.out.mono ?_;rintro e w1 ⟨rfl,hb1⟩;have HB1:=aD hb1;clear hb1 HS;go_wp2_with fail;go_loopw [5] (fun i w'=>∃k:Nat,k<=xs.length/\i= .int .i64 k/\Hid (Below w.heap.size w w')) (fun i _=>xs.length-(Lib.intOf i).toNat)
 case atStart=>exact ⟨0,bE _,rfl,HB1⟩
 case round=>
  obtain ⟨k,hk,rfl,hbel⟩:=hrel;by_cases hp:k<xs.length
  ·obtain ⟨x,hx⟩:=aN hp
   obtain ⟨b1,o1,rfl,hb1,_,⟨TA,tc,UA,uc,hT,hU,c0,c1,c2,c3,c4,c5,c6,c7⟩,_⟩:=(HA.out.1.fr (Fr.below hbel.out:Fr Y w wr) fun q hq=>.inl hq) k x hx;obtain ⟨b2,o2,rfl,hb2,_,⟨FY,FZ,F4,F5,hT2,hU2,d0,d1,d2,d3,d4,d5,d6,d7⟩,_⟩:=(HA.out.2.fr (Fr.below hbel.out:Fr Y w wr) fun q hq=>.inl hq) k x hx;have hlx:=HL.out x (Ox hx)
   have HST:Hid (∀v,Below wr.heap.size wr v->Calls Tryz.prog 17 #[.slice TA x.T.length tc,.slice FY x.T.length FZ] v fun e w'=>e= .returned (.bool true)/\∃n,w'=v.drewN n):=aD fun v hv=>by
    have h:=Nb TA FY tc FZ v.heap.size v.heap.size x.T x.T v ((hT.ty.eY.below hv).more hv.size) ((hT2.ty.eY.below hv).more hv.size) (by have:=hlx.1;omega);rw [decide_eq_true rfl] at h;exact h
   have HSU:Hid (∀v,Below wr.heap.size wr v->Calls Tryz.prog 17 #[.slice UA x.U.length uc,.slice F4 x.U.length F5] v fun e w'=>e= .returned (.bool true)/\∃n,w'=v.drewN n):=aD fun v hv=>by
    have h:=Nb UA F4 uc F5 v.heap.size v.heap.size x.U x.U v ((hU.ty.eY.below hv).more hv.size) ((hU2.ty.eY.below hv).more hv.size) (by have:=hlx.2;omega);rw [decide_eq_true rfl] at h;exact h
   have hlt1:(k:Int)<(xs.length:Int):=by omega
   clear hx hT hU hT2 hU2 hlx c0 c1 c2 c3 c4 c5 d0 d1 d2 d3 d4 d5 hb1 hb2;have hk0:(0:Int)<=(k:Int):=by omega
   obtain ⟨SS,hSS⟩:∃SS:World->Prop,SS=fun v=>v.cell? ⟨b1,o1+k*8+6,none⟩=some (.slice TA x.T.length tc)/\v.cell? ⟨b1,o1+k*8+7,none⟩=some (.slice UA x.U.length uc)/\v.cell? ⟨b2,o2+k*8+6,none⟩=some (.slice FY x.T.length FZ)/\v.cell? ⟨b2,o2+k*8+7,none⟩=some (.slice F4 x.U.length F5):=⟨_,rfl⟩
   have HS:Hid (∀v,Below wr.heap.size wr v->SS v):=aD fun v hv=>by
    rw [hSS];exact ⟨(hv.cell (Db _ _ c6)).trans c6,(hv.cell (Db _ _ c7)).trans c7,(hv.cell (Db _ _ d6)).trans d6,(hv.cell (Db _ _ d7)).trans d7⟩
   go_upto_region 6 with fail
   obtain ⟨wd,hwd⟩:∃wd,wd=wr.drew:=⟨_,rfl⟩;have bM:Hid (Below wr.heap.size wr wd):=aD (by rw [hwd];exact (aF _ _).drew);have sd:=HS.out _ bM.out;refine aI (S:=SS) [23] (by kernel_rfl) (by rw [<-hwd];exact sd) (fun hHeld=>?_);rw [<-hwd] at hHeld ⊢;clear hwd hHeld c6 c7 d6 d7;refine aL 0 [2,3,4,10,11,12,23] (some 16) rfl rfl ?_;refine aL 1 [2,3,4,10,11,12,23] (some 17) rfl rfl ?_;refine aL 2 [3,4,10,11,12,23] (some 18) rfl rfl ?_;refine aL 3 [4,10,11,12,23] (some 19) rfl rfl ?_;refine aL 4 [10,11,12,23] (some 20) rfl rfl ?_;refine aL 5 [7,8,9,10,11,12,23] (some 21) rfl rfl ?_;refine aL 6 [7,8,9,10,11,12,23] (some 22) rfl rfl ?_;refine aL 7 [8,9,10,11,12,23] (some 23) rfl rfl ?_;refine aL 8 [9,10,11,12,23] (some 24) rfl rfl ?_;refine aL 9 [10,11,12,23] (some 25) rfl rfl ?_;refine bD 10 (some 26) rfl rfl (by kernel_rfl) (by rfl) (by go_simp) (HST.out _ bM.out) ?_;rintro e we ⟨rfl,z1,hz1⟩;have iP:Hid (Below wr.heap.size wr we):=aD (by rw [hz1];exact below_drewN bM.out _);have se:=HS.out _ iP.out;clear hz1;refine ⟨_,rfl,se,?_⟩;refine aC ?_;refine aL 11 [12,23] (some 27) rfl rfl ?_;refine aL 12 [23] (some 28) rfl rfl ?_;refine aL 13 [15,16,17,23] (some 29) rfl rfl ?_;refine aL 14 [15,16,17,23] (some 30) rfl rfl ?_;refine aL 15 [16,17,23] (some 31) rfl rfl ?_;refine aL 16 [17,23] (some 32) rfl rfl ?_;refine aL 17 [23] (some 33) rfl rfl ?_;refine aL 18 [20,21,22,23] (some 34) rfl rfl ?_;refine aL 19 [20,21,22,23] (some 35) rfl rfl ?_;refine aL 20 [21,22,23] (some 36) rfl rfl ?_
   refine aL 21 [22,23] (some 37) rfl rfl ?_;refine aL 22 [23] (some 38) rfl rfl ?_;refine bD 23 (some 39) rfl rfl (by kernel_rfl) (by rfl) (by go_simp) (HSU.out _ iP.out) ?_;rintro e wf ⟨rfl,z2,hz2⟩;have Eu:Hid (Below wr.heap.size wr wf):=aD (by rw [hz2];exact below_drewN iP.out _);have sf:=HS.out _ Eu.out;clear hz2;refine ⟨_,rfl,sf,?_⟩;refine aC ?_;refine bB 24 (some 40) rfl rfl (by kernel_rfl) (by rfl) (by go_simp;first|with_reducible rfl|(constructor<;>with_reducible rfl)) (zL (by kernel_rfl)) ?_;refine aC ?_;refine bB 25 (some 41) rfl rfl (by kernel_rfl) (by rfl) (by go_simp;first|with_reducible rfl|(constructor<;>with_reducible rfl)) (zL (by kernel_rfl)) ?_;refine aC ?_;refine bG (by kernel_rfl) ?_ _;have HBg:=aD (au hbel.out Eu.out);clear sd se sf;go_wp2_with fail;go_roundw
   case rel=>exact ⟨k+1,by omega,by go_num,HBg⟩
   case measure=>simp [Lib.intOf];omega
  ·go_wp2_with fail
   go_ret;exact ⟨rfl,hbel.out⟩
structure o9 (w:World) (A EA:Option Addr) (bs:List Bn) (env:Env) (es:List Pt):Prop where
 rd:mK w w.heap.size A bs
 nil:A=none->bs=[]
 form:∀a,A=some a->∃b o,a=⟨b,o,none⟩
 hv:dX w (fun _=>False) bs env
 hx:jW w (fun _=>False) EA es
 sz:F6 env
 len:es.length<=9223372036854775807
theorem o9.below {w v:World} {A EA:Option Addr} {bs:List Bn} {env:Env} {es:List Pt} (h:o9 w A EA bs env es) (hb:Below w.heap.size w v):o9 v A EA bs env es:=
 ⟨(bf.below h.rd hb).more hb.size,h.nil,h.form,h.hv.fr (Fr.below hb:Fr (fun _=>False) w v) fun _q hq=>.inl hq,h.hx.fr (Fr.below hb:Fr (fun _=>False) w v) fun _q hq=>.inl hq,h.sz,h.len⟩
theorem jW.akL {w:World} {A:Option Addr} {es:List Pt} (h:jW w (fun _=>False) A es) (hne:es≠[]):∀a,A=some a->a.block<w.heap.size:=fun a ha=>by
 obtain ⟨p,x,rfl⟩:=List.exists_cons_of_ne_nil hne;obtain ⟨b,o,e,hb,_⟩:=h 0 p rfl;rw [ha] at e;injection e with e
 rw [e];exact hb
section
variable {w:World} {A EA:Option Addr} {c ec:Nat} {bs:List Bn} {env:Env} {es:List Pt}
theorem o9.check (h:o9 w A EA bs env es) (hok:dZ es) (hv:env.length<=20) (hl:es.length<=1000000) {f:Nat} {r:fC} (hr:gW f es env 0=some r):
  Calls Tryz.prog 11 #[.slice A bs.length c,.slice EA es.length ec] w (SY r w):=
 CX f es hok env r A EA c ec bs w h.rd h.nil h.form h.hv h.hx (by omega) hl hr
theorem o9.ahx (h:o9 w A EA bs env es) (hok:dZ es) (hv:env.length<=20) (hl:es.length<=1000000) {f q:Nat} {er:Int} (her:er≠0) (hr:gW f es env 0=some (.error (q,er))):
  Calls Tryz.prog 20 #[.slice A bs.length c,.slice EA es.length ec] w (EO (.error er) w):=
 Sm f es hok env q er her A EA c ec bs w h.rd h.nil h.form h.hv h.hx (by omega) hl hr
theorem o9.aah (h:o9 w A EA bs env es) (hok:dZ es) (hne:es≠[]) (hv:env.length<=20) (hl:es.length<=1000000) {f g b0 b:Nat} {t0 t:List Nd} {x:List Pt} (hr:gW f es env 0=some (.ok (t0,b0))) (hc:cst g es env 0=some (x,t,b)):
  Calls Tryz.prog 20 #[.slice A bs.length c,.slice EA es.length ec] w (EO (.ok (iw 0 x,t)) w):=
 Ky f g es hok env t0 b0 x t b A EA c ec bs w h.rd h.nil h.form h.hv h.hx (h.hx.akL hne) (by omega) hl hr hc
end
theorem KD (n:Nat) (x:List Pt):(iw n x).length=x.length:=vM _ _ _ _
section
variable {env:Env} {es:List Pt} {t t':List Nd} {x:List Pt}
theorem ig.akM (h:ig env es):iX es:=fun q hq=>by
 have hf:=h.few.2 q hq;exact ⟨by have:=hf.T;omega,by have:=hf.U;omega⟩
theorem yV.acT (h:ig env es) (k:yV env es t x t'):aae (iw 0 x):=by
 have h1:=(PK 40 es h.akM _ _ _ _ _ k.MX.c).1;exact ⟨by rw [KD];have:=k.MX.gd.len;omega,iX.num 0 x h1⟩
theorem yV.okX (k:yV env es t x t'):dZ (iw 0 x):=dZ.num 0 x k.MX.ok
theorem yV.neX (k:yV env es t x t'):iw 0 x≠[]:=fun e=>by
 have h1:=KD 0 x;rw [e] at h1;exact k.MX.gd.ne (List.eq_nil_of_length_eq_zero h1.symm)
end
open Go.ChangeShapes Go.WideShapes Go.ChangeAt Go.WideMaps Go.WideElems Go.RowKit Go.Deep
theorem own:ownKnob Tryz.prog.godebug=none:=by kernel_rfl
theorem KE:laidOutB Tryz.prog=true:=by kernel_rfl
theorem IJ:Tryz.prog.cellsOf 49=3:=by kernel_rfl
section
variable {H:Type} {enc:TypeId×Value->H} {W:World} {base:Nat} {d:DataW H} {p:List MemPlace} {v:Value}
theorem EP {n:Int} (h:(Lit.int .i64 n).wf=true): -9223372036854775808<=n/\n<=9223372036854775807:=by
 have e1:IntKind.i64.min= -9223372036854775808:=rfl;have e2:IntKind.i64.max=9223372036854775807:=rfl;simpa [Lit.wf,e1,e2] using h
theorem akO (hv:Value.okWide Tryz.prog W .any base 28 v) (h:DataW.Trod enc Tryz.prog W 0 (fun _=>true) true 28 v d p):
  ∃(A:Option Addr) (xs:List Nd) (c:Nat),v= .slice A xs.length c/\bO W W.heap.size A xs/\xs.length<=c/\xs.length<=9223372036854775807/\∀x∈xs,x.Ok:=by
 obtain ⟨a0,n0,c0,rfl⟩:=okWide_slice Tryz.underlying28 hv;obtain ⟨fuel,hf⟩:=h;rcases open_slice Tryz.underlying28 hf with ⟨hcs,_⟩|⟨a,len,cap,m,n,D,Pl,hcs,_,hl,hcm,hm,_,hel⟩
 ·simp [Value.cells] at hcs
  obtain ⟨rfl,rfl,rfl⟩:=hcs;exact ⟨none,[],0,rfl,bO.nil,aG _,by simp,by simp⟩
 ·simp [Value.cells] at hcs
  obtain ⟨rfl,rfl,rfl⟩:=hcs;simp only [if_true] at hm;subst hm
  have uU:∀i,i<n0->∃x:Nd,x.Ok/\W.cell? (a.add (i*3))=some (.int .i64 x.k)/\W.cell? (a.add (i*3+1))=some (.string x.s)/\W.cell? (a.add (i*3+2))=some (.int .i64 x.n):=fun i hi=>by
   obtain ⟨cs',hc,ht⟩:=hel i (by omega);rw [IJ] at hc;obtain ⟨_,hlen,hat⟩:=aaW hc
   match cs',hlen with
   |[v0,v1,v2],_=>
    obtain ⟨ys,n',_,_,_,_,o_⟩:=DataW.trod_struct Tryz.underlying49 ht;have h0:=o_ 0 _ rfl;have h1:=o_ 1 _ rfl;have h2:=o_ 2 _ rfl;change DataW.trod enc Tryz.prog W 0 _ true n' 3 (([v0,v1,v2].drop 0).take (Tryz.prog.cellsOf 3))=_ at h0;change DataW.trod enc Tryz.prog W 0 _ true n' 9 (([v0,v1,v2].drop 1).take (Tryz.prog.cellsOf 9))=_ at h1;change DataW.trod enc Tryz.prog W 0 _ true n' 3 (([v0,v1,v2].drop 2).take (Tryz.prog.cellsOf 3))=_ at h2;rw [show Tryz.prog.cellsOf 3=1 by kernel_rfl] at h0 h2;rw [show Tryz.prog.cellsOf 9=1 by kernel_rfl] at h1
    have hne:∀j,j<3->∃y,ys[j]?=some y:=fun j hj=>by
     have:ys.length=3:=by assumption
     exact aN (by omega)
    obtain ⟨y0,e0⟩:=hne 0 (by omega);obtain ⟨y1,e1⟩:=hne 1 (by omega);obtain ⟨y2,e2⟩:=hne 2 (by omega);obtain ⟨k,hk,_,hkw⟩:=DataW.trod_int Tryz.underlying3 (h0.trans e0);obtain ⟨s,hs,_,hsw⟩:=DataW.trod_string Tryz.underlying9 (h1.trans e1);obtain ⟨nn,hnn,_,hnw⟩:=DataW.trod_int Tryz.underlying3 (h2.trans e2);simp at hk hs hnn;subst hk hs hnn;obtain ⟨k0,k1⟩:=EP hkw;obtain ⟨n0,n1⟩:=EP hnw;refine ⟨⟨k,s,nn⟩,⟨k0,k1,n0,n1,hsw⟩,?_,?_,?_⟩
    ·have:=hat 0 (by omega);rw [add_add] at this;simpa using this
    ·have:=hat 1 (by omega);rw [add_add] at this;simpa using this
    ·have:=hat 2 (by omega);rw [add_add] at this;simpa using this
  have hch:∃f:Nat->Nd,∀i,i<n0->(f i).Ok/\W.cell? (a.add (i*3))=some (.int .i64 (f i).k)/\W.cell? (a.add (i*3+1))=some (.string (f i).s)/\W.cell? (a.add (i*3+2))=some (.int .i64 (f i).n):=
   ⟨fun i=>if h:i<n0 then aaX (uU i h) else default,fun i hi=>by
    simp only [dif_pos hi];exact aaY (uU i hi)⟩
  obtain ⟨f,hf2⟩:=hch;have hxl:((Np n0).map f).length=n0:=by simp
  have hget:∀i x,((Np n0).map f)[i]?=some x->i<n0/\x=f i:=fun i x hx=>by
   have hi:i<n0:=by have:=aU hx;simpa using this
   rw [TW,aaZ hi] at hx;injection hx with hx
   exact ⟨hi,hx.symm⟩
  refine ⟨some a,(Np n0).map f,m,by rw [hxl],fun hne=>?_,by rw [hxl];exact hl,by rw [hxl];unfold maxLen at hcm;omega,fun x hx=>?_⟩
  ·have hn:0<n0:=by
    rcases aa0 n0 with h|h
    ·subst h;exact absurd rfl hne
    ·exact h
   obtain ⟨b,off,spot⟩:=a;have h0:=(hf2 0 hn).2.1;have hspot:spot=none:=by simpa [Addr.add] using aa1 h0
   subst hspot;simp only [add_plain] at hf2;refine ⟨b,off,rfl,?_,⟨fun i x hx=>?_,fun i x hx=>?_,fun i x hx=>?_⟩⟩
   ·exact Db W _ (hf2 0 hn).2.1
   ·obtain ⟨hi,rfl⟩:=hget i x hx;exact (hf2 i hi).2.1
   ·obtain ⟨hi,rfl⟩:=hget i x hx;have:=(hf2 i hi).2.2.1;rwa [<-aaS] at this
   ·obtain ⟨hi,rfl⟩:=hget i x hx;have:=(hf2 i hi).2.2.2;rwa [<-aaS] at this
  ·obtain ⟨i,hi,rfl⟩:=aas.1 hx
   exact (hf2 i (PG.1 hi)).1
end
section
variable {H:Type} {enc:TypeId×Value->H} {W:World} {base:Nat} {d:DataW H} {p:List MemPlace} {v:Value} {fuel:Nat} {cs:List Value} {X:DataW H×List MemPlace}
theorem Dw (hf:DataW.trod enc Tryz.prog W 0 (fun _=>true) true fuel 28 cs=some X):
  ∃(A:Option Addr) (xs:List Nd) (c:Nat),cs=[.slice A xs.length c]/\bO W W.heap.size A xs/\xs.length<=c/\xs.length<=9223372036854775807/\∀x∈xs,x.Ok:=by
 rcases open_slice Tryz.underlying28 hf with ⟨hcs,_⟩|⟨a,n0,cap,m,n,D,Pl,hcs,_,hl,hcm,hm,_,hel⟩
 ·exact ⟨none,[],0,hcs,bO.nil,aG _,by simp,by simp⟩
 ·simp only [if_true] at hm
  subst hm;subst hcs
  have uU:∀i,i<n0->∃x:Nd,x.Ok/\W.cell? (a.add (i*3))=some (.int .i64 x.k)/\W.cell? (a.add (i*3+1))=some (.string x.s)/\W.cell? (a.add (i*3+2))=some (.int .i64 x.n):=fun i hi=>by
   obtain ⟨cs',hc,ht⟩:=hel i (by omega);rw [IJ] at hc;obtain ⟨_,hlen,hat⟩:=aaW hc
   match cs',hlen with
   |[v0,v1,v2],_=>
    obtain ⟨ys,n',_,_,_,_,o_⟩:=DataW.trod_struct Tryz.underlying49 ht;have h0:=o_ 0 _ rfl;have h1:=o_ 1 _ rfl;have h2:=o_ 2 _ rfl;change DataW.trod enc Tryz.prog W 0 _ true n' 3 (([v0,v1,v2].drop 0).take (Tryz.prog.cellsOf 3))=_ at h0;change DataW.trod enc Tryz.prog W 0 _ true n' 9 (([v0,v1,v2].drop 1).take (Tryz.prog.cellsOf 9))=_ at h1;change DataW.trod enc Tryz.prog W 0 _ true n' 3 (([v0,v1,v2].drop 2).take (Tryz.prog.cellsOf 3))=_ at h2;rw [show Tryz.prog.cellsOf 3=1 by kernel_rfl] at h0 h2;rw [show Tryz.prog.cellsOf 9=1 by kernel_rfl] at h1
    have hne:∀j,j<3->∃y,ys[j]?=some y:=fun j hj=>by
     have:ys.length=3:=by assumption
     exact aN (by omega)
    obtain ⟨y0,e0⟩:=hne 0 (by omega);obtain ⟨y1,e1⟩:=hne 1 (by omega);obtain ⟨y2,e2⟩:=hne 2 (by omega);obtain ⟨k,hk,_,hkw⟩:=DataW.trod_int Tryz.underlying3 (h0.trans e0);obtain ⟨s,hs,_,hsw⟩:=DataW.trod_string Tryz.underlying9 (h1.trans e1);obtain ⟨nn,hnn,_,hnw⟩:=DataW.trod_int Tryz.underlying3 (h2.trans e2);simp at hk hs hnn;subst hk hs hnn;obtain ⟨k0,k1⟩:=EP hkw;obtain ⟨n0,n1⟩:=EP hnw;refine ⟨⟨k,s,nn⟩,⟨k0,k1,n0,n1,hsw⟩,?_,?_,?_⟩
    ·have:=hat 0 (by omega);rw [add_add] at this;simpa using this
    ·have:=hat 1 (by omega);rw [add_add] at this;simpa using this
    ·have:=hat 2 (by omega);rw [add_add] at this;simpa using this
  have hch:∃f:Nat->Nd,∀i,i<n0->(f i).Ok/\W.cell? (a.add (i*3))=some (.int .i64 (f i).k)/\W.cell? (a.add (i*3+1))=some (.string (f i).s)/\W.cell? (a.add (i*3+2))=some (.int .i64 (f i).n):=
   ⟨fun i=>if h:i<n0 then aaX (uU i h) else default,fun i hi=>by
    simp only [dif_pos hi];exact aaY (uU i hi)⟩
  obtain ⟨f,hf2⟩:=hch;have hxl:((Np n0).map f).length=n0:=by simp
  have hget:∀i x,((Np n0).map f)[i]?=some x->i<n0/\x=f i:=fun i x hx=>by
   have hi:i<n0:=by have:=aU hx;simpa using this
   rw [TW,aaZ hi] at hx;injection hx with hx
   exact ⟨hi,hx.symm⟩
  refine ⟨some a,(Np n0).map f,m,by rw [hxl],fun hne=>?_,by rw [hxl];exact hl,by rw [hxl];unfold maxLen at hcm;omega,fun x hx=>?_⟩
  ·have hn:0<n0:=by
    rcases aa0 n0 with h|h
    ·subst h;exact absurd rfl hne
    ·exact h
   obtain ⟨b,off,spot⟩:=a;have h0:=(hf2 0 hn).2.1;have hspot:spot=none:=by simpa [Addr.add] using aa1 h0
   subst hspot;simp only [add_plain] at hf2;refine ⟨b,off,rfl,?_,⟨fun i x hx=>?_,fun i x hx=>?_,fun i x hx=>?_⟩⟩
   ·exact Db W _ (hf2 0 hn).2.1
   ·obtain ⟨hi,rfl⟩:=hget i x hx;exact (hf2 i hi).2.1
   ·obtain ⟨hi,rfl⟩:=hget i x hx;have:=(hf2 i hi).2.2.1;rwa [<-aaS] at this
   ·obtain ⟨hi,rfl⟩:=hget i x hx;have:=(hf2 i hi).2.2.2;rwa [<-aaS] at this
  ·obtain ⟨i,hi,rfl⟩:=aas.1 hx
   exact (hf2 i (PG.1 hi)).1
end
end Go.Proofs.YtmjdhfbnmmdjiaaGreat
