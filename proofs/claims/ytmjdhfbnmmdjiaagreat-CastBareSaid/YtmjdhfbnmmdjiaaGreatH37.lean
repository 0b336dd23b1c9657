/- Laid together by a tool from the texts of this seat: CsZ AlK Sm5 CtA PxP OpenA. Conditions: each theorem's own. -/
import Derived.Test.YtmjdhfbnmmdjiaaGreatH30
import Derived.Test.YtmjdhfbnmmdjiaaGreatH34
import Derived.Test.YtmjdhfbnmmdjiaaGreatH36
import Derived.Test.YtmjdhfbnmmdjiaaGreatH16
import Derived.Test.YtmjdhfbnmmdjiaaGreatH35
import Derived.Test.YtmjdhfbnmmdjiaaGreatH01
import Derived.Test.YtmjdhfbnmmdjiaaGreatRows
import Derived.ProofKit
import Derived.LaidMore
import Derived.OpenShut
import Derived.Stop.Joined
import Derived.Stop.LaidErr
import Derived.Deep.Slices
import Derived.Deep.Fields
set_option maxHeartbeats 8000000
set_option maxRecDepth 100000
namespace Go.Proofs.YtmjdhfbnmmdjiaaGreat
open Go.Lib renaming hid->aB
open Go.World renaming cell?->DI,size_alloc->FT,frozen?->Gb,block_lt_of_cell?->FD,cells?_some->abW,cell?_spot->ab1
open Go.RowKit.Below renaming refl->aI,heap_alloc->FW
open _root_.List renaming range->MQ,map_cons->RH,mem_cons->qm,mem_of_getElem?->O8,length_drop->xX,getElem?_map->Tz,getElem?_range->abZ,mem_map->aaw,mem_range->Xt
open _root_.Nat renaming le_refl->aK,add_assoc->abE,zero_le->cu,lt_of_lt_of_le->Yy,eq_zero_or_pos->ab0
open _root_.And renaming intro->DF
open _root_.Array renaming getElem?_eq_some_iff->aai
open _root_.Option renaming map_eq_some_iff->aaE
open _root_.Classical renaming choose->abX,choose_spec->abY
open Go.RowKit
theorem aF.set {w w':World} {Y:Nat->Prop} {A:Option Addr} {c:Nat} {t:List Nd} {R:Nat} {x y:Value} {fz:Nat×Nat} (h:aF w Y A c t) (hR:w.heap[R]?=some (.cells #[x,y] 65 fz)) (hx:∀i,x≠ .int .i64 i) (hy:∀i,y≠ .int .i64 i) (hf:Fr (fun q=>q=R) w w'):aF w' (fun _=>False) A c t:=⟨fun hne=>by
 obtain ⟨b,o,e,g1,_,g5,_⟩:=h.ty hne
 have hbR:b≠R:=by
  rintro rfl;obtain ⟨n,t0,rfl⟩:=List.exists_cons_of_ne_nil hne;have c0:=g5.c0 0 n rfl;simp only [DI,hR] at c0;rcases o with _|_|o
  ·simp at c0
   exact hx _ c0
  ·simp at c0
   exact hy _ c0
  ·simp at c0
 have hbk:=hf.block b g1 hbR;exact ⟨b,o,e,Yy g1 hf.size,fun h=>h,g5.mono fun off=>by simp [DI,hbk],.inr fun q hq=>hq.elim⟩,h.cap⟩
theorem bN.set {w w':World} {Y:Nat->Prop} {A:Option Addr} {c:Nat} {xs:List Pt} {R:Nat} {x y:Value} {fz:Nat×Nat} (h:bN w Y A c xs) (hR:w.heap[R]?=some (.cells #[x,y] 65 fz)) (hx:∀i,x≠ .int .i64 i) (hy:∀i,y≠ .int .i64 i) (hf:Fr (fun q=>q=R) w w'):bN w' (fun _=>False) A c xs:=by
 obtain ⟨vs,hr,hp,hc⟩:=h;refine ⟨vs,fun hne=>?_,⟨hp.1,fun i v p hv hq=>?_⟩,hc⟩
 ·obtain ⟨b,o,hA,hb,_,ho,h5⟩:=hr hne
  have hbk:=hf.block b hb fun e=>iQ.ne ho ⟨_,_,hR⟩ (by decide) e;refine ⟨b,o,hA,Yy hb hf.size,fun h=>h,lG hbk ho,fun i v hv j u hu=>?_⟩;have:=h5 i v hv j u hu;simp only [DI,hbk] at this ⊢;exact this
 ·have k:=hp.2 i v p hv hq
  exact ⟨k.k,k.lb,k.nm,k.bd,k.mn,k.num,k.tn,k.un,k.T.set hR hx hy hf,k.U.set hR hx hy hf⟩
def VR (r:Except Int (List Pt×List Nd)) (w:World) (e:Ending) (w':World):Prop:=
 Below w.heap.size w w'/\match r with
  | .ok (x,t)=>∃A c T d,e= .returned (.tuple #[.agg #[.slice A x.length c,.slice T t.length d],.int .i64 0])/\bN w' (fun _=>False) A c x/\aF w' (fun _=>False) T d t
  | .error er=>e= .returned (.tuple #[.agg #[.slice none 0 0,.slice none 0 0],.int .i64 er])
def Gh (r:Except Int (List Pt×List Nd)) (w:World) (e:Ending) (w':World):Prop:=
 Below w.heap.size w w'/\match r with
  | .ok (x,t)=>∃A c T d,e= .returned (.tuple #[.slice A x.length c,.slice T t.length d,.int .i64 0])/\bN w' (fun _=>False) A c x/\aF w' (fun _=>False) T d t
  | .error er=>e= .returned (.tuple #[.slice none 0 0,.slice none 0 0,.int .i64 er])
theorem Uw (f:Nat) (es:List Pt) (hes:dN es) (env:Env) (q:Nat) (er:Int) (her:er≠0) (A EA:Option Addr) (c ec:Nat) (bs:List Bn) (w:World) (ha:mZ w w.heap.size A bs) (hA:A=none->bs=[]) (hs:∀a,A=some a->∃b o,a=⟨b,o,none⟩) (hen:dY w (fun _=>False) bs env) (hex:kF w (fun _=>False) EA es) (hl:env.length<=100000) (hel:es.length<=1000000) (hm:iT f es env 0=some (.error (q,er))):
  Calls Tryz.prog 36 #[.slice A bs.length c,.slice EA es.length ec] w (VR (.error er) w):=by
 obtain ⟨w1,hw1⟩:∃w1,w1=w.alloc (.cells #[.slice none 0 0,.slice none 0 0] 65):=⟨_,rfl⟩;obtain ⟨R,hR⟩:∃R,R=w.heap.size:=⟨_,rfl⟩;have hb1:Below w.heap.size w w1:=by rw [hw1];exact au (aI _ _) _
 have hf1:Fr (fun _=>False) w w1:=Fr.below hb1;have Hex:=aB (Ee f es hes env _ A EA c ec bs w1 ((aS.below ha hb1).more hb1.size) hA hs (hen.fr hf1 fun q hq=>.inl hq) (hex.fr hf1 fun q hq=>.inl hq) hl hel hm);have HR1:Hid (w1.heap[R]?=some (.cells #[.slice none 0 0,.slice none 0 0] 65 (0,0))/\w.heap.size<=R/\R<w1.heap.size/\Below w.heap.size w w1):=aB ⟨by rw [hw1,hR];exact heap_alloc_new _ _,by rw [hR];exact aK _,by rw [hw1,hR,FT];exact Nat.lt_succ_self _,hb1⟩;clear ha hA hs hen hex hm hb1 hf1;go_enter Tryz.func36,Tryz.ntmps36;go_upto_region 1 with fail
 rw [<-hw1,<-hR];clear hw1 hR;go_wp2_with fail;refine Hex.out.mono ?_;rintro e w2 ⟨hb2,rfl⟩;have hRb:w2.heap[R]?=some (.cells #[.slice none 0 0,.slice none 0 0] 65 (0,0)):=(hb2.block R HR1.out.2.2.1).trans HR1.out.1;have HB2:Hid (Below w.heap.size w w2):=aB (ah HR1.out.2.2.2 hb2);have r0:w2.cell? ⟨R,0,none⟩=some (.slice none 0 0):=by simp [DI,hRb]
 have r1:w2.cell? ⟨R,1,none⟩=some (.slice none 0 0):=by simp [DI,hRb]
 have rU:w2.frozen? ⟨R,0,none⟩=false:=by simp [Gb,hRb]
 have rV:w2.frozen? ⟨R,1,none⟩=false:=by simp [Gb,hRb]
 have hen:(er !=0)=true:=by simp [her]
 have HRb:=aB hRb;clear hb2 Hex hRb;go_wp2_with fail;obtain ⟨wy,bK⟩:∃wy,wy=set2 w2 R (.slice none 0 0) (.slice none 0 0):=⟨_,rfl⟩;have hf:Fr (fun q=>q=R) w2 wy:=by rw [bK];exact (dZ _ _ _ _).trans (dZ _ _ _ _)
 have HF:Hid (Below w.heap.size w wy):=aB (Fr.toBelow (Fr.new (Fr.below HB2.out:Fr (fun _=>False) w w2) hf fun b e=>.inr (by rw [e];exact HR1.out.2.1)) fun k e=>e.elim)
 have hRy:wy.heap[R]?=some (.cells #[.slice none 0 0,.slice none 0 0] 65 (0,0)):=by
  rw [bK];unfold set2;rw [heap_set (heap_set HRb.out 0 _) 1];rfl
 have q0:wy.cell? ⟨R,0,none⟩=some (.slice none 0 0):=by simp [DI,hRy]
 have q1:wy.cell? ⟨R,1,none⟩=some (.slice none 0 0):=by simp [DI,hRy]
 unfold set2 at bK;rw [<-bK];refine bodyPost_ret (v:=.tuple #[.agg #[.slice none 0 0,.slice none 0 0],.int .i64 er]) (by simp [results,Tryz.results36,go_sem,q0,q1]) rfl ⟨HF.out,rfl⟩
theorem Yo (f fx:Nat) (es:List Pt) (hes:dN es) (env:Env) (t0:List Nd) (b0:Nat) (x:List Pt) (t:List Nd) (b:Nat) (A EA:Option Addr) (c ec:Nat) (bs:List Bn) (w:World) (ha:mZ w w.heap.size A bs) (hA:A=none->bs=[]) (hs:∀a,A=some a->∃b o,a=⟨b,o,none⟩) (hen:dY w (fun _=>False) bs env) (hex:kF w (fun _=>False) EA es) (heo:∀a,EA=some a->a.block<w.heap.size) (hl:env.length<=100000) (hel:es.length<=1000000) (hm:iT f es env 0=some (.ok (t0,b0))) (hc:cst fx es env 0=some (x,t,b)):
  Calls Tryz.prog 36 #[.slice A bs.length c,.slice EA es.length ec] w (VR (.ok (x,t)) w):=by
 obtain ⟨w1,hw1⟩:∃w1,w1=w.alloc (.cells #[.slice none 0 0,.slice none 0 0] 65):=⟨_,rfl⟩;obtain ⟨R,hR⟩:∃R,R=w.heap.size:=⟨_,rfl⟩;have hb1:Below w.heap.size w w1:=by rw [hw1];exact au (aI _ _) _
 have hf1:Fr (fun _=>False) w w1:=Fr.below hb1;have Hex:=aB (Ee f es hes env _ A EA c ec bs w1 ((aS.below ha hb1).more hb1.size) hA hs (hen.fr hf1 fun q hq=>.inl hq) (hex.fr hf1 fun q hq=>.inl hq) hl hel hm);have HR1:Hid (w1.heap[R]?=some (.cells #[.slice none 0 0,.slice none 0 0] 65 (0,0))/\w.heap.size<=R/\R<w1.heap.size/\Below w.heap.size w w1):=aB ⟨by rw [hw1,hR];exact heap_alloc_new _ _,by rw [hR];exact aK _,by rw [hw1,hR,FT];exact Nat.lt_succ_self _,hb1⟩;have H:=aB (DF hen (DF hex (DF hc heo)));have HC:Hid (∀w2,Below w.heap.size w w2->Calls Tryz.prog 31 #[.slice A bs.length c] w2 fun e w'=>∃A' cap',e= .returned (.slice A' bs.length cap')/\CK w' w2.heap.size A' cap' bs/\Below w2.heap.size w2 w'):=aB fun w2 hb=>Fv A c bs w2 ((aS.below ha hb).more hb.size) hA hs (by rw [hen.1];omega);clear ha hA hs hen hex hm hb1 hf1 hc heo;go_enter Tryz.func36,Tryz.ntmps36;go_upto_region 1 with fail
 rw [<-hw1,<-hR];clear hw1 hR;go_wp2_with fail;refine Hex.out.mono ?_;rintro e w2 ⟨hb2,A0,c0,rfl,_,_⟩;have HB2:Hid (Below w.heap.size w w2/\w1.heap.size<=w2.heap.size/\w2.heap[R]?=some (.cells #[.slice none 0 0,.slice none 0 0] 65 (0,0))):=aB ⟨ah HR1.out.2.2.2 hb2,hb2.size,(hb2.block R HR1.out.2.2.1).trans HR1.out.1⟩;have HCc:=aB (HC.out w2 HB2.out.1);clear hb2 Hex HC;go_upto_region 4 with fail
 go_wp2_with fail;refine HCc.out.mono ?_;rintro e w3 ⟨VA,vc,rfl,hown,hb3⟩;have H3:Hid (CK w3 w2.heap.size VA vc bs/\Below w.heap.size w w3/\w2.heap.size<=w3.heap.size/\w3.heap[R]?=some (.cells #[.slice none 0 0,.slice none 0 0] 65 (0,0))):=aB ⟨hown,ah HB2.out.1 hb3,hb3.size,(hb3.block R (by have:=HR1.out.2.2.1;have:=HB2.out.2.1;omega)).trans HB2.out.2.2⟩;clear hown hb3 HCc;go_upto_region 5 with fail
 obtain ⟨w4,hw4⟩:∃w4,w4=w3.alloc (.cells #[.slice EA es.length ec,.int .i64 0,.slice VA bs.length vc] 85):=⟨_,rfl⟩;obtain ⟨P,hP⟩:∃P,P=w3.heap.size:=⟨_,rfl⟩;have hb4:Below w3.heap.size w3 w4:=by rw [hw4];exact au (aI _ _) _
 have jS:Hid (Below w.heap.size w w4/\w.heap.size<=P/\R<P):=aB ⟨ah H3.out.2.1 hb4,by rw [hP];exact H3.out.2.1.size,by rw [hP];have:=HR1.out.2.2.1;have:=HB2.out.2.1;have:=H3.out.2.2.1;omega⟩
 have HYn:Hid (∀q,YW P VA q->w2.heap.size<=q):=aB (by
  rintro q (rfl|⟨a,rfl,rfl⟩)
  ·rw [hP];exact H3.out.2.2.1
  ·exact (ay.lt H3.out.1 a rfl).1)
 have HKb:Hid (aQ w4 (YW P VA) R #[.slice none 0 0,.slice none 0 0] 65):=aB ⟨(hb4.block R (by have:=(aai.1 H3.out.2.2.2).1;exact this)).trans H3.out.2.2.2,fun h=>by have:=HYn.out R h;have:=HR1.out.2.2.1;have:=HB2.out.2.1;omega⟩
 have HK:Hid (iV P es env 0 (YW P VA) w4):=aB (by
  have hYn:aj (fun _=>False) (YW P VA) w:=fun q hq=>.inr (Nat.le_trans HB2.out.1.size (HYn.out q hq));have hfr:Fr (fun _=>False) w w4:=Fr.below jS.out.1;refine ⟨EA,ec,VA,vc,bs,?_,?_,H.out.2.1.fr hfr hYn,fun a ha q hq=>?_,H.out.1.fr hfr hYn,fun q=>Iff.rfl,?_,hel,by omega⟩
  ·rw [hw4,hP]
   exact heap_alloc_new _ _
  ·rw [hw4]
   exact ay.alloc (ay.lower H3.out.1 (cu _)) _
  ·have h5:=HYn.out q hq
   have h6:=HB2.out.1.size;have h7:=H.out.2.2.2 a ha;omega
  ·rintro a rfl
   rw [hP];have:=(ay.lt H3.out.1 a rfl).2;omega)
 rw [<-hw4,<-hP];clear hw4 hP hb4;have HN:=aB (Jj es hes P fx env 0 _ (YW P VA) w4 H.out.2.2.1 HK.out);unfold pk at HN;go_wp2_with fail;refine HN.out.mono ?_;rintro e w5 ⟨Y5,hf,hy,hkk,A5,c5,T5,d5,rfl,hx,ht,hA⟩;have Yp:=aB (HKb.out.fr hf hy);have H5:Hid (bN w5 Y5 A5 c5 x/\aF w5 Y5 T5 d5 t/\Y5 P):=aB ⟨hx,ht,hkk.yP⟩;have qB:Hid (Below w.heap.size w w5):=aB (Fr.toBelow (Fr.new (Fr.below jS.out.1:Fr (fun _=>False) w w4) hf fun q hq=>.inr (Nat.le_trans HB2.out.1.size (HYn.out q hq))) fun k h=>h.elim);clear hf hy hkk hx ht hA HN;obtain ⟨r0,r1⟩:=Yp.out.kX;have rU:w5.frozen? ⟨R,0,none⟩=false:=by simp [Gb,Yp.out.blk]
 have rV:w5.frozen? ⟨R,1,none⟩=false:=by simp [Gb,Yp.out.blk]
 go_wp2_with fail;obtain ⟨wy,bK⟩:∃wy,wy=set2 w5 R (.slice A5 (x:List Pt).length c5) (.slice T5 (t:List Nd).length d5):=⟨_,rfl⟩;have hf2:Fr (fun q=>q=R) w5 (set2 w5 R (.slice A5 (x:List Pt).length c5) (.slice T5 (t:List Nd).length d5)):=(dZ _ _ _ _).trans (dZ _ _ _ _)
 have hbk:(set2 w5 R (.slice A5 (x:List Pt).length c5) (.slice T5 (t:List Nd).length d5)).heap[R]?=some (.cells #[.slice A5 (x:List Pt).length c5,.slice T5 (t:List Nd).length d5] 65 (0,0)):=by
  unfold set2;rw [heap_set (heap_set Yp.out.blk 0 _) 1];rfl
 have HF:Hid (Below w.heap.size w wy/\bN wy (fun _=>False) A5 c5 x/\aF wy (fun _=>False) T5 d5 t/\wy.heap[R]?=some (.cells #[.slice A5 (x:List Pt).length c5,.slice T5 (t:List Nd).length d5] 65 (0,0))):=aB (by
  rw [bK];exact ⟨Fr.toBelow (Fr.new (Fr.below qB.out:Fr (fun _=>False) w w5) hf2 fun b e=>.inr (by rw [e];exact HR1.out.2.1)) fun k e=>e.elim,H5.out.1.set Yp.out.blk (by simp) (by simp) hf2,H5.out.2.1.set Yp.out.blk (by simp) (by simp) hf2,hbk⟩)
 unfold set2 at bK;rw [<-bK];clear bK hf2 hbk r0 r1 rU rV;have q0:wy.cell? ⟨R,0,none⟩=some (.slice A5 (x:List Pt).length c5):=by simp [DI,HF.out.2.2.2]
 have q1:wy.cell? ⟨R,1,none⟩=some (.slice T5 (t:List Nd).length d5):=by simp [DI,HF.out.2.2.2]
 refine bodyPost_ret (v:=.tuple #[.agg #[.slice A5 (x:List Pt).length c5,.slice T5 (t:List Nd).length d5],.int .i64 0]) (by simp [results,Tryz.results36,go_sem,q0,q1]) rfl ⟨HF.out.1,A5,c5,T5,d5,rfl,HF.out.2.1,HF.out.2.2.1⟩
theorem Ux (f:Nat) (es:List Pt) (hes:dN es) (env:Env) (q:Nat) (er:Int) (her:er≠0) (A EA:Option Addr) (c ec:Nat) (bs:List Bn) (w:World) (ha:mZ w w.heap.size A bs) (hA:A=none->bs=[]) (hs:∀a,A=some a->∃b o,a=⟨b,o,none⟩) (hen:dY w (fun _=>False) bs env) (hex:kF w (fun _=>False) EA es) (hl:env.length<=100000) (hel:es.length<=1000000) (hm:iT f es env 0=some (.error (q,er))):
  Calls Tryz.prog 20 #[.slice A bs.length c,.slice EA es.length ec] w (Gh (.error er) w):=by
 have HX:=aB (Uw f es hes env q er her A EA c ec bs w ha hA hs hen hex hl hel hm);have hne:(er !=0)=true:=by simp [her]
 clear ha hA hs hen hex hm;go_enter Tryz.func20,Tryz.ntmps20;go_wp2_with fail;refine HX.out.mono ?_;rintro e w1 ⟨hb,rfl⟩;have HB:=aB hb;clear hb HX;go_wp2_with fail;go_ret3;exact ⟨au HB.out _,rfl⟩
theorem Mi (f fx:Nat) (es:List Pt) (hes:dN es) (env:Env) (t0:List Nd) (b0:Nat) (x:List Pt) (t:List Nd) (b:Nat) (A EA:Option Addr) (c ec:Nat) (bs:List Bn) (w:World) (ha:mZ w w.heap.size A bs) (hA:A=none->bs=[]) (hs:∀a,A=some a->∃b o,a=⟨b,o,none⟩) (hen:dY w (fun _=>False) bs env) (hex:kF w (fun _=>False) EA es) (heo:∀a,EA=some a->a.block<w.heap.size) (hl:env.length<=100000) (hel:es.length<=1000000) (hm:iT f es env 0=some (.ok (t0,b0))) (hc:cst fx es env 0=some (x,t,b)):
  Calls Tryz.prog 20 #[.slice A bs.length c,.slice EA es.length ec] w (Gh (.ok (fQ 0 x,t)) w):=by
 have HX:=aB (Yo f fx es hes env t0 b0 x t b A EA c ec bs w ha hA hs hen hex heo hl hel hm hc);have HG:=aB (Dk _ _ _ _ _ _ _ hc);clear ha hA hs hen hex hm hc heo;go_enter Tryz.func20,Tryz.ntmps20;go_wp2_with fail;refine HX.out.mono ?_;rintro e w1 ⟨hb,A1,c1,T1,d1,rfl,hx,ht⟩;have H1:Hid (Below w.heap.size w w1/\bN w1 (fun _=>False) A1 c1 x/\aF w1 (fun _=>False) T1 d1 t):=aB ⟨hb,hx,ht⟩;clear hb hx ht HX;go_upto_region 2 with fail
 obtain ⟨w2,hw2⟩:∃w2,w2=w1.alloc (.cells #[.slice A1 (x:List Pt).length c1,.slice T1 (t:List Nd).length d1] 65):=⟨_,rfl⟩;obtain ⟨G,hG⟩:∃G,G=w1.heap.size:=⟨_,rfl⟩;have hb2:Below w1.heap.size w1 w2:=by rw [hw2];exact au (aI _ _) _
 have H2:Hid (Below w.heap.size w w2/\bN w2 (fun _=>False) A1 c1 x/\aF w2 (fun _=>False) T1 d1 t/\aQ w2 (fun _=>False) G #[.slice A1 (x:List Pt).length c1,.slice T1 (t:List Nd).length d1] 65):=aB ⟨ah H1.out.1 hb2,H1.out.2.1.fr (Fr.below hb2) (aj.refl _ _),H1.out.2.2.later hb2,by rw [hw2,hG];exact aQ.new (fun q hq=>hq.elim) _ _⟩;rw [<-hw2,<-hG];clear hw2 hG hb2;obtain ⟨g0,g1⟩:=H2.out.2.2.2.kX;have HNm:=aB (Oz A1 c1 x 0 (by omega) (fun _=>False) w2 H2.out.2.1 HG.out.ne (by have:=HG.out.len;omega) (fun q hq=>hq.elim));go_wp2_with fail;refine HNm.out.mono ?_;rintro e w3 ⟨hb3,A3,c3,rfl,hx3⟩;have H3:Hid (Below w.heap.size w w3/\bN w3 (fun _=>False) A3 c3 (fQ 0 x)/\aF w3 (fun _=>False) T1 d1 t):=aB ⟨ah H2.out.1 hb3,hx3,H2.out.2.2.1.later hb3⟩;have HK3:=H2.out.2.2.2.below hb3;have s0:∀n,(w3.drewN n).cell? ⟨G,0,none⟩=some (.slice A1 (x:List Pt).length c1):=fun n=>HK3.kX.1;have s1:∀n,(w3.drewN n).cell? ⟨G,1,none⟩=some (.slice T1 (t:List Nd).length d1):=fun n=>HK3.kX.2;clear hb3 hx3 HNm g0 g1 HK3;go_upto_region 5 with fail
 go_quiet (fail);go_wp2_with fail;go_ret3;refine ⟨below_drewN H3.out.1 _,A3,c3,T1,d1,by rw [show (fQ 0 x).length=x.length from nO _ _ _ _];rfl,?_,?_⟩
 ·exact H3.out.2.1.fr (Fr.below (below_drewN (aI _ _) _)) (aj.refl _ _)
 ·exact H3.out.2.2.fr (Fr.below (below_drewN (aI _ _) _)) (aj.refl _ _)
def zT:Pt:=⟨2,⟨#[]⟩,⟨#[]⟩,⟨#[120]⟩,0,0,[⟨0,⟨#[]⟩,0⟩],[]⟩
def Kz:Pt:=⟨9,⟨#[]⟩,⟨#[43]⟩,⟨#[]⟩,0,0,[],[]⟩
def KC:Pt:=⟨1,⟨#[]⟩,⟨#[120]⟩,⟨#[]⟩,0,0,[],[]⟩
def yx:Pt:=⟨0,⟨#[]⟩,⟨#[]⟩,⟨#[]⟩,0,1,[⟨1,⟨#[]⟩,0⟩],[]⟩
def KD:List Pt:=[zT,Kz,KC,yx]
theorem Uy:iT 5 KD [] 0=some (.ok ([⟨5,⟨#[]⟩,0⟩,⟨0,⟨#[]⟩,0⟩,⟨1,⟨#[]⟩,0⟩],4)):=by kernel_rfl
theorem Mk:iN 100 [⟨5,⟨#[]⟩,0⟩,⟨0,⟨#[]⟩,0⟩,⟨1,⟨#[]⟩,0⟩]=[63,32,45,62,32,105,110,116]:=by kernel_rfl
def FK (p:Pt) (TA:Option Addr) (tc:Nat):List Value:=[.int .i64 p.k,.string p.lb,.string p.nm,.string p.bd,.int .i64 p.mn,.int .i64 p.num,.slice TA p.T.length tc,.slice none 0 0]
theorem Uz (w:World) (t0 t1:Nat) (h0:w.heap[t0]?=some (.cells #[.int .i64 0,.string ⟨#[]⟩,.int .i64 0] 49 (0,0))) (h1:w.heap[t1]?=some (.cells #[.int .i64 1,.string ⟨#[]⟩,.int .i64 0] 49 (0,0))) (b:Nat)
  (hb:w.heap[b]?=some (.cells (FK zT (some ⟨t0,0,none⟩) 1++FK Kz none 0++FK KC none 0++FK yx (some ⟨t1,0,none⟩) 1).toArray 33 (0,0))):
  kF w (fun _=>False) (some ⟨b,0,none⟩) KD/\kF w (fun _=>False) (some ⟨b,8,none⟩) [Kz,KC,yx]:=by
 have l0:=(aai.1 h0).1;have l1:=(aai.1 h1).1;have lb:=(aai.1 hb).1
 have hT0:aF w (fun _=>False) (some ⟨t0,0,none⟩) 1 zT.T:=⟨fun _=>⟨t0,0,rfl,l0,fun h=>h,⟨fun i x hx=>by
   match i,hx with
   |0,hx=>simp [zT] at hx;subst hx;simp [DI,h0]
   |i+1,hx=>simp [zT] at hx,fun i x hx=>by
   match i,hx with
   |0,hx=>simp [zT] at hx;subst hx;simp [DI,h0]
   |i+1,hx=>simp [zT] at hx,fun i x hx=>by
   match i,hx with
   |0,hx=>simp [zT] at hx;subst hx;simp [DI,h0]
   |i+1,hx=>simp [zT] at hx⟩,.inr fun q h=>h.elim⟩,by simp [zT]⟩
 have hT1:aF w (fun _=>False) (some ⟨t1,0,none⟩) 1 yx.T:=⟨fun _=>⟨t1,0,rfl,l1,fun h=>h,⟨fun i x hx=>by
   match i,hx with
   |0,hx=>simp [yx] at hx;subst hx;simp [DI,h1]
   |i+1,hx=>simp [yx] at hx,fun i x hx=>by
   match i,hx with
   |0,hx=>simp [yx] at hx;subst hx;simp [DI,h1]
   |i+1,hx=>simp [yx] at hx,fun i x hx=>by
   match i,hx with
   |0,hx=>simp [yx] at hx;subst hx;simp [DI,h1]
   |i+1,hx=>simp [yx] at hx⟩,.inr fun q h=>h.elim⟩,by simp [yx]⟩
 have hN:∀A,aF w (fun _=>False) A 0 []:=fun A=>aF.nil;have p0:AV w (fun _=>False) b 0 zT:=⟨some ⟨t0,0,none⟩,1,none,0,hT0,hN _,by simp [DI,hb,FK,zT,Kz,KC,yx]⟩;have p1:AV w (fun _=>False) b 8 Kz:=⟨none,0,none,0,hN _,hN _,by simp [DI,hb,FK,zT,Kz,KC,yx]⟩;have p2:AV w (fun _=>False) b 16 KC:=⟨none,0,none,0,hN _,hN _,by simp [DI,hb,FK,zT,Kz,KC,yx]⟩;have p3:AV w (fun _=>False) b 24 yx:=⟨some ⟨t1,0,none⟩,1,none,0,hT1,hN _,by simp [DI,hb,FK,zT,Kz,KC,yx]⟩;refine ⟨fun i p hp=>⟨b,0,rfl,lb,fun h=>h,?_,.inr fun q h=>h.elim⟩,fun i p hp=>⟨b,8,rfl,lb,fun h=>h,?_,.inr fun q h=>h.elim⟩⟩
 ·match i,hp with
  |0,hp=>simp [KD] at hp;subst hp;exact p0
  |1,hp=>simp [KD] at hp;subst hp;exact p1
  |2,hp=>simp [KD] at hp;subst hp;exact p2
  |3,hp=>simp [KD] at hp;subst hp;exact p3
  |i+4,hp=>simp [KD] at hp
 ·match i,hp with
  |0,hp=>simp at hp;subst hp;exact p1
  |1,hp=>simp at hp;subst hp;exact p2
  |2,hp=>simp at hp;subst hp;exact p3
  |i+3,hp=>simp at hp
def UC:List Nd:=[⟨5,⟨#[]⟩,0⟩,⟨0,⟨#[]⟩,0⟩,⟨1,⟨#[]⟩,0⟩]
def aCs:List Pt:=[zT,Kz,mg ByteArray.empty [⟨0,⟨#[]⟩,0⟩] [⟨1,⟨#[]⟩,0⟩],KC,yx]
theorem UD:cst 5 KD [] 0=some (aCs,UC,4):=by kernel_rfl
theorem JG:fQ 0 aCs=yw:=by kernel_rfl
theorem bN.exF {w:World} {A:Option Addr} {c:Nat} {xs:List Pt} (h:bN w (fun _=>False) A c xs):kF w (fun _=>False) A xs:=by
 obtain ⟨vs,h1,h2,_⟩:=h;exact h2.ex h1.read
theorem Ru (A:Option Addr) (c:Nat) (w:World) (hx:kF w (fun _=>False) A yw):Calls Tryz.prog 35 #[.slice A 5 c] w (r9 ⟨#[40,102,117,110,32,40,120,58,32,63,41,32,45,62,32,40,60,120,58,32,63,32,61,62,32,105,110,116,62,32,43,32,49,41,41]⟩ w):=by
 have H:=aB (Yn A c w hx);clear hx;go_enter Tryz.func35,Tryz.ntmps35;go_wp2_with fail;refine H.out.mono ?_;rintro e w1 ⟨rfl,hb⟩;have HB:=aB hb;clear hb;go_wp2_with fail;go_ret;exact ⟨rfl,HB.out⟩
theorem dU (w:World):Calls Tryz.prog 19 #[] w fun e w'=>e= .returned (.bool true)/\Below w.heap.size w w':=by
 go_enter Tryz.func19,Tryz.ntmps19;go_upto_region 2 with fail
 obtain ⟨w1,hw1⟩:∃w1,w1=(((w.alloc (.cells #[.int .i64 0,.string ⟨#[]⟩,.int .i64 0] 49)).alloc (.cells #[.int .i64 1,.string ⟨#[]⟩,.int .i64 0] 49)).alloc (.cells #[.int .i64 2,.string ⟨#[]⟩,.string ⟨#[]⟩,.string ⟨#[120]⟩,.int .i64 0,.int .i64 0,.slice (some ⟨w.heap.size,0,none⟩) 1 1,.slice none 0 0,.int .i64 9,.string ⟨#[]⟩,.string ⟨#[43]⟩,.string ⟨#[]⟩,.int .i64 0,.int .i64 0,.slice none 0 0,.slice none 0 0,.int .i64 1,.string ⟨#[]⟩,.string ⟨#[120]⟩,.string ⟨#[]⟩,.int .i64 0,.int .i64 0,.slice none 0 0,.slice none 0 0,.int .i64 0,.string ⟨#[]⟩,.string ⟨#[]⟩,.string ⟨#[]⟩,.int .i64 0,.int .i64 1,.slice (some ⟨w.heap.size+1,0,none⟩) 1 1,.slice none 0 0] 33)):=⟨_,rfl⟩;have hb1:Below w.heap.size w w1:=by rw [hw1];exact au (au (au (aI _ _) _) _) _
 have hmem:kF w1 (fun _=>False) (some ⟨w.heap.size+1+1,0,none⟩) KD/\kF w1 (fun _=>False) (some ⟨w.heap.size+1+1,8,none⟩) [Kz,KC,yx]:=by
  refine Uz w1 w.heap.size (w.heap.size+1) ?_ ?_ (w.heap.size+1+1) ?_
  ·rw [hw1]
   refine (FW _ _ _ ?_).trans ((FW _ _ _ ?_).trans (heap_alloc_new _ _))
   ·simp only [FT];omega
   ·simp only [FT];omega
  ·rw [hw1]
   refine (FW _ _ _ ?_).trans ?_
   ·simp only [FT];omega
   ·have:=heap_alloc_new (w.alloc (.cells #[.int .i64 0,.string ⟨#[]⟩,.int .i64 0] 49)) (.cells #[.int .i64 1,.string ⟨#[]⟩,.int .i64 0] 49)
    have e:(w.alloc (.cells #[.int .i64 0,.string ⟨#[]⟩,.int .i64 0] 49)).heap.size=w.heap.size+1:=by simp only [FT]
    rw [e] at this;exact this
  ·rw [hw1]
   have:=heap_alloc_new ((w.alloc (.cells #[.int .i64 0,.string ⟨#[]⟩,.int .i64 0] 49)).alloc (.cells #[.int .i64 1,.string ⟨#[]⟩,.int .i64 0] 49)) (.cells #[.int .i64 2,.string ⟨#[]⟩,.string ⟨#[]⟩,.string ⟨#[120]⟩,.int .i64 0,.int .i64 0,.slice (some ⟨w.heap.size,0,none⟩) 1 1,.slice none 0 0,.int .i64 9,.string ⟨#[]⟩,.string ⟨#[43]⟩,.string ⟨#[]⟩,.int .i64 0,.int .i64 0,.slice none 0 0,.slice none 0 0,.int .i64 1,.string ⟨#[]⟩,.string ⟨#[120]⟩,.string ⟨#[]⟩,.int .i64 0,.int .i64 0,.slice none 0 0,.slice none 0 0,.int .i64 0,.string ⟨#[]⟩,.string ⟨#[]⟩,.string ⟨#[]⟩,.int .i64 0,.int .i64 1,.slice (some ⟨w.heap.size+1,0,none⟩) 1 1,.slice none 0 0] 33);have e:((w.alloc (.cells #[.int .i64 0,.string ⟨#[]⟩,.int .i64 0] 49)).alloc (.cells #[.int .i64 1,.string ⟨#[]⟩,.int .i64 0] 49)).heap.size=w.heap.size+1+1:=by simp only [FT]
   rw [e] at this;exact this
 rw [<-hw1];clear hw1;obtain ⟨g,hg⟩:∃g,g=w.heap.size+1+1:=⟨_,rfl⟩;rw [<-hg] at hmem ⊢;clear hg;have HB1:=aB hb1;have HX:=aB hmem;clear hb1 hmem;have HE1:=aB (Mi 5 5 KD (by unfold dN;decide) [] _ _ aCs UC 4 none (some ⟨g,0,none⟩) 0 4 [] w1 aS.nil (fun _=>rfl) (fun a h=>by cases h) dY.nil HX.out.1 (fun a ha=>by injection ha with ha;rw [<-ha];obtain ⟨b,o,e,hb,_⟩:=HX.out.1 0 zT rfl;injection e with e;injection e with e _;rw [e];exact hb) (by decide) (by decide) Uy UD);go_wp2_with fail;refine HE1.out.mono ?_;rintro e w2 ⟨hb2,A,c,T,d,rfl,hxv,htv⟩;rw [JG] at hxv;have HB2:=aB hb2;have HT2:=aB htv.ty.eY;have nV:=aB hxv
 have HP:Hid (∀v,Below w2.heap.size w2 v->Calls Tryz.prog 30 #[.slice T 3 d] v fun e w'=>e= .returned (.string ⟨#[63,32,45,62,32,105,110,116]⟩)/\Below v.heap.size v w'):=aB fun v hv=>by
  have h:=zS 3 d T UC v (by kernel_rfl) ((HT2.out.below hv).more hv.size) (by decide) (by decide) (fun x hx=>by
   unfold UC at hx;simp only [qm,List.not_mem_nil,or_false] at hx;rcases hx with rfl|rfl|rfl<;>exact ⟨by decide,by decide,by decide,by decide,by decide⟩) (by unfold UC;rw [Mk];decide)
  unfold UC at h;rw [Mk] at h;exact h
 have HP5:Hid (∀v,Below w2.heap.size w2 v->Calls Tryz.prog 35 #[.slice A 5 c] v (r9 ⟨#[40,102,117,110,32,40,120,58,32,63,41,32,45,62,32,40,60,120,58,32,63,32,61,62,32,105,110,116,62,32,43,32,49,41,41]⟩ v)):=aB fun v hv=>Ru A c v (nV.out.exF.fr (Fr.below hv:Fr (fun _=>False) w2 v) fun q hq=>.inl hq);have hl5:(fQ 0 aCs).length=5:=by rw [JG];rfl
 have hl3:UC.length=3:=rfl;rw [hl5,hl3];obtain ⟨xb,xo,rfl,hxb,_,⟨TA,tc,UA,uc,_,_,c0,_,_,_,_,c5,_⟩,_⟩:=hxv.exF 2 yE2 rfl;replace c0:w2.cell? ⟨xb,xo+16,none⟩=some (.int .i64 14):=c0;replace c5:w2.cell? ⟨xb,xo+21,none⟩=some (.int .i64 1):=c5;clear hb2 hxv htv hl5 hl3;have HPc:=aB (HP.out w2 (aI _ _));go_wp2_with fail;refine HPc.out.mono ?_;rintro e w3 ⟨rfl,hb3⟩;replace c0:=(hb3.cell hxb).trans c0;replace c5:=(hb3.cell hxb).trans c5;have HB3:=aB hb3;clear hb3 HPc hxb;have aeY:=aB (HP5.out w3 HB3.out);go_wp2_with fail;refine aeY.out.mono ?_;rintro e w4 ⟨rfl,hb4⟩;have jS:=aB (ah HB1.out (ah HB2.out (ah HB3.out hb4)));clear hb4 aeY c0 c5;go_wp2_with fail;go_ret;exact ⟨rfl,jS.out⟩
theorem FL (t:List Nd):lZ t t=true:=by unfold lZ;simp
def Rv (xs:List Pt):Prop:=xs.length<=1000000/\∀x∈xs,x.T.length<=5000000/\x.U.length<=5000000
theorem Ml (w:World) (cs ds:Array Value) (T:TypeId):((w.alloc (.cells cs T)).alloc (.cells ds T)).drew.heap[w.heap.size]?=some (.cells cs T (0,0))/\((w.alloc (.cells cs T)).alloc (.cells ds T)).drew.heap[w.heap.size+1]?=some (.cells ds T (0,0)):=by
 constructor
 ·show ((w.alloc (.cells cs T)).alloc (.cells ds T)).heap[w.heap.size]?=_
  refine (FW _ _ _ ?_).trans (heap_alloc_new _ _);rw [FT];omega
 ·show ((w.alloc (.cells cs T)).alloc (.cells ds T)).heap[w.heap.size+1]?=_
  have h:=heap_alloc_new (w.alloc (.cells cs T)) (.cells ds T);rw [FT] at h;exact h
theorem JH (Y:Nat->Prop) (A B:Option Addr) (c d:Nat) (xs:List Pt) (w:World) (ha:kF w Y A xs) (hb:kF w Y B xs) (hl:Rv xs):
  Calls Tryz.prog 24 #[.slice A xs.length c,.slice B xs.length d] w fun e w'=>e= .returned (.bool true)/\Below w.heap.size w w':=by
 have HA:=aB (DF ha hb);have hl0:=hl.1;have HL:=aB hl.2;clear ha hb hl;go_enter Tryz.func24,Tryz.ntmps24;go_wp2_with fail;go_loopw [5] (fun i w'=>∃k:Nat,k<=xs.length/\i= .int .i64 k/\Hid (Below w.heap.size w w')) (fun i _=>xs.length-(Lib.intOf i).toNat)
 case atStart=>exact ⟨0,cu _,rfl,aB (aI _ _)⟩
 case round=>
  obtain ⟨k,hk,rfl,hbel⟩:=hrel;by_cases hp:k<xs.length
  ·obtain ⟨x,hx⟩:=aJ hp
   obtain ⟨b1,o1,rfl,hb1,_,⟨TA,tc,UA,uc,hT,hU,c0,c1,c2,c3,c4,c5,c6,c7⟩,_⟩:=(HA.out.1.fr (Fr.below hbel.out:Fr Y w wr) fun q hq=>.inl hq) k x hx;obtain ⟨b2,o2,rfl,hb2,_,⟨Sz,SB,yX,yY,hT2,hU2,d0,d1,d2,d3,d4,d5,d6,d7⟩,_⟩:=(HA.out.2.fr (Fr.below hbel.out:Fr Y w wr) fun q hq=>.inl hq) k x hx;have hlx:=HL.out x (O8 hx)
   have HST:Hid (∀v,Below wr.heap.size wr v->Calls Tryz.prog 21 #[.slice TA x.T.length tc,.slice Sz x.T.length SB] v fun e w'=>e= .returned (.bool true)/\Below v.heap.size v w'):=aB fun v hv=>by
    have h:=Bj TA Sz tc SB x.T x.T v ((hT.ty.eY.below hv).more hv.size) ((hT2.ty.eY.below hv).more hv.size) (by have:=hlx.1;omega);rw [FL] at h;exact h
   have HSU:Hid (∀v,Below wr.heap.size wr v->Calls Tryz.prog 21 #[.slice UA x.U.length uc,.slice yX x.U.length yY] v fun e w'=>e= .returned (.bool true)/\Below v.heap.size v w'):=aB fun v hv=>by
    have h:=Bj UA yX uc yY x.U x.U v ((hU.ty.eY.below hv).more hv.size) ((hU2.ty.eY.below hv).more hv.size) (by have:=hlx.2;omega);rw [FL] at h;exact h
   have q1:b1<wr.heap.size+1:=by omega
   have q2:b2<wr.heap.size+1:=by omega
   have hlt1:(k:Int)<(xs.length:Int):=by omega
   clear hx hT hU hT2 hU2 hlx;go_upto_region 6 with fail
   go_cut [6,7] (fun s6 s7 wx=>∃(P Q:Nat),s6= .pointer (some ⟨P,0,none⟩)/\s7= .pointer (some ⟨Q,0,none⟩)/\Hid (Below wr.heap.size wr wx/\wx.heap[P]?=some (.cells #[.int .i64 x.k,.string x.lb,.string x.nm,.string x.bd,.int .i64 x.mn,.int .i64 x.num,.slice TA x.T.length tc,.slice UA x.U.length uc] 33 (0,0))/\wx.heap[Q]?=some (.cells #[.int .i64 x.k,.string x.lb,.string x.nm,.string x.bd,.int .i64 x.mn,.int .i64 x.num,.slice Sz x.T.length SB,.slice yX x.U.length yY] 33 (0,0))))
   case first=>
    go_region
    all_goals go_wp2_with fail
    all_goals go_meet
    all_goals refine ⟨_,_,rfl,rfl,aB ⟨(au (au (aI _ _) _) _).drew,?_,?_⟩⟩
    all_goals first
     |exact (Ml _ _ _ _).1
     |exact (Ml _ _ _ _).2
   case rest=>
    obtain ⟨P,Q,rfl,rfl,HC⟩:=hcut;have OC:=HC.out.2.1;have OD:=HC.out.2.2;have k0:wc.cell? ⟨P,0,none⟩=some (.int .i64 x.k):=by simp [DI,OC]
    have k1:wc.cell? ⟨P,1,none⟩=some (.string x.lb):=by simp [DI,OC]
    have k2:wc.cell? ⟨P,2,none⟩=some (.string x.nm):=by simp [DI,OC]
    have k3:wc.cell? ⟨P,3,none⟩=some (.string x.bd):=by simp [DI,OC]
    have k4:wc.cell? ⟨P,4,none⟩=some (.int .i64 x.mn):=by simp [DI,OC]
    have k5:wc.cell? ⟨P,5,none⟩=some (.int .i64 x.num):=by simp [DI,OC]
    have k6:wc.cell? ⟨P,6,none⟩=some (.slice TA x.T.length tc):=by simp [DI,OC]
    have k7:wc.cell? ⟨P,7,none⟩=some (.slice UA x.U.length uc):=by simp [DI,OC]
    have m0:wc.cell? ⟨Q,0,none⟩=some (.int .i64 x.k):=by simp [DI,OD]
    have m1:wc.cell? ⟨Q,1,none⟩=some (.string x.lb):=by simp [DI,OD]
    have m2:wc.cell? ⟨Q,2,none⟩=some (.string x.nm):=by simp [DI,OD]
    have m3:wc.cell? ⟨Q,3,none⟩=some (.string x.bd):=by simp [DI,OD]
    have m4:wc.cell? ⟨Q,4,none⟩=some (.int .i64 x.mn):=by simp [DI,OD]
    have m5:wc.cell? ⟨Q,5,none⟩=some (.int .i64 x.num):=by simp [DI,OD]
    have m6:wc.cell? ⟨Q,6,none⟩=some (.slice Sz x.T.length SB):=by simp [DI,OD]
    have m7:wc.cell? ⟨Q,7,none⟩=some (.slice yX x.U.length yY):=by simp [DI,OD]
    have HB1:=aB (ah hbel.out HC.out.1);have HT:=aB (HST.out wc HC.out.1);clear OC OD c0 c1 c2 c3 c4 c5 c6 c7 d0 d1 d2 d3 d4 d5 d6 d7 q1 q2 hb1 hb2;go_wp2_with fail;refine HT.out.mono ?_;rintro e w2 ⟨rfl,hb2⟩;replace k7:=(hb2.cell (FD _ _ k7)).trans k7;replace m7:=(hb2.cell (FD _ _ m7)).trans m7;have HU:=aB (HSU.out w2 (ah HC.out.1 hb2));have HB2:=aB (ah HB1.out hb2);clear hb2 HT k0 k1 k2 k3 k4 k5 k6 m0 m1 m2 m3 m4 m5 m6;go_wp2_with fail;refine HU.out.mono ?_;rintro e w3 ⟨rfl,hb3⟩;have HB3:=aB (ah HB2.out hb3);clear hb3 HU k7 m7;go_wp2_with fail;go_roundw
    case rel=>exact ⟨k+1,by omega,by go_num,HB3⟩
    case measure=>simp [Lib.intOf];omega
  ·go_wp2_with fail
   go_ret;exact ⟨rfl,hbel.out⟩
structure oH (w:World) (A EA:Option Addr) (bs:List Bn) (env:Env) (es:List Pt):Prop where
 rd:mZ w w.heap.size A bs
 nil:A=none->bs=[]
 form:∀a,A=some a->∃b o,a=⟨b,o,none⟩
 hv:dY w (fun _=>False) bs env
 hx:kF w (fun _=>False) EA es
 sz:Ig env
 len:es.length<=9223372036854775807
theorem oH.below {w v:World} {A EA:Option Addr} {bs:List Bn} {env:Env} {es:List Pt} (h:oH w A EA bs env es) (hb:Below w.heap.size w v):oH v A EA bs env es:=
 ⟨(aS.below h.rd hb).more hb.size,h.nil,h.form,h.hv.fr (Fr.below hb:Fr (fun _=>False) w v) fun _q hq=>.inl hq,h.hx.fr (Fr.below hb:Fr (fun _=>False) w v) fun _q hq=>.inl hq,h.sz,h.len⟩
theorem kF.ana {w:World} {A:Option Addr} {es:List Pt} (h:kF w (fun _=>False) A es) (hne:es≠[]):∀a,A=some a->a.block<w.heap.size:=fun a ha=>by
 obtain ⟨p,x,rfl⟩:=List.exists_cons_of_ne_nil hne;obtain ⟨b,o,e,hb,_⟩:=h 0 p rfl;rw [ha] at e;injection e with e
 rw [e];exact hb
section
variable {w:World} {A EA:Option Addr} {c ec:Nat} {bs:List Bn} {env:Env} {es:List Pt}
theorem oH.check (h:oH w A EA bs env es) (hok:dN es) (hv:env.length<=20) (hl:es.length<=1000000) {f:Nat} {r:fF} (hr:iT f es env 0=some r):
  Calls Tryz.prog 11 #[.slice A bs.length c,.slice EA es.length ec] w (U_ r w):=
 Ee f es hok env r A EA c ec bs w h.rd h.nil h.form h.hv h.hx (by omega) hl hr
theorem oH.UE (h:oH w A EA bs env es) (hok:dN es) (hv:env.length<=20) (hl:es.length<=1000000) {f q:Nat} {er:Int} (her:er≠0) (hr:iT f es env 0=some (.error (q,er))):
  Calls Tryz.prog 20 #[.slice A bs.length c,.slice EA es.length ec] w (Gh (.error er) w):=
 Ux f es hok env q er her A EA c ec bs w h.rd h.nil h.form h.hv h.hx (by omega) hl hr
theorem oH.UF (h:oH w A EA bs env es) (hok:dN es) (hne:es≠[]) (hv:env.length<=20) (hl:es.length<=1000000) {f g b0 b:Nat} {t0 t:List Nd} {x:List Pt} (hr:iT f es env 0=some (.ok (t0,b0))) (hc:cst g es env 0=some (x,t,b)):
  Calls Tryz.prog 20 #[.slice A bs.length c,.slice EA es.length ec] w (Gh (.ok (fQ 0 x,t)) w):=
 Mi f g es hok env t0 b0 x t b A EA c ec bs w h.rd h.nil h.form h.hv h.hx (h.hx.ana hne) (by omega) hl hr hc
end
theorem Mq (n:Nat) (x:List Pt):(fQ n x).length=x.length:=nO _ _ _ _
section
variable {env:Env} {es:List Pt} {t t':List Nd} {x:List Pt}
theorem gY.ab6 (h:gY env es):gX es:=fun q hq=>by
 have hf:=h.few.2 q hq;exact ⟨by have:=hf.T;omega,by have:=hf.U;omega⟩
theorem oW.ab7 (h:gY env es) (k:oW env es t x t'):Rv (fQ 0 x):=by
 have h1:=(Rj 40 es h.ab6 _ _ _ _ _ k.Dr.c).1;exact ⟨by rw [Mq];have:=k.Dr.gd.len;omega,gX.num 0 x h1⟩
theorem oW.okX (k:oW env es t x t'):dN (fQ 0 x):=dN.num 0 x k.Dr.ok
theorem oW.neX (k:oW env es t x t'):fQ 0 x≠[]:=fun e=>by
 have h1:=Mq 0 x;rw [e] at h1;exact k.Dr.gd.ne (List.eq_nil_of_length_eq_zero h1.symm)
end
theorem JI:∀(n:Nat) (x:List Pt),(fQ n x).map eP=x.map eP
 |_,[]=>rfl
 |n,p::x=>by
  show (mF Pt.k _ n (p::x)).map eP=_;rw [mF];split
  ·rw [RH,RH]
   exact congrArg _ (JI (n+1) x)
  ·rw [RH,RH]
   exact congrArg _ (JI n x)
theorem Mr {es:List Pt}:∀(n a:Nat) (l:List Nat),bZ es n a=some l->eD es n a=l
 |0,a,l,h=>by
  unfold bZ at h
  injection h
 |n+1,a,l,h=>by
  unfold bZ at h;split at h
  ·cases h
  ·rename_i b hb
   rw [aaE] at h;obtain ⟨l2,h1,rfl⟩:=h;have h2:=rQ _ _ _ _ hb;rw [xX] at h2;unfold eD;rw [if_pos (by omega),oN _ _ _ _ hb,Mr n b l2 h1]
theorem FM {es:List Pt}:∀(n a:Nat) (l:List Nat),bZ es n a=some l->l.length=n/\∀i∈l,i<es.length
 |0,a,l,h=>by
  unfold bZ at h;injection h with h
  subst h
  exact ⟨rfl,fun i hi=>by cases hi⟩
 |n+1,a,l,h=>by
  unfold bZ at h;split at h
  ·cases h
  ·rename_i b hb
   rw [aaE] at h;obtain ⟨l2,h1,rfl⟩:=h;have h2:=rQ _ _ _ _ hb;rw [xX] at h2;obtain ⟨h3,h4⟩:=FM n b l2 h1;refine ⟨by simp [h3],fun i hi=>?_⟩;rcases qm.1 hi with rfl|hi
   ·omega
   ·exact h4 i hi
structure ajN (X:List Pt) (i:Nat) (q:Pt) (l:List Nat):Prop where
 k13:q.k≠13
 kids:eD X (aL q) (i+1)=l
 lt:∀c∈l,c<X.length
 one:q.k=14->l.length=1
 no:(q.k=11\/q.k=2\/q.k=10\/q.k=14)->∀c∈l,∀r,X[c]?=some r->r.k≠14
 len:l.length<=51
theorem oW.parts {env:Env} {es:List Pt} {t t':List Nd} {x:List Pt} (k:oW env es t x t') (hraw:∀p∈es,p.k≠13/\p.k≠14):es.length<=(fQ 0 x).length/\∀i q,(fQ 0 x)[i]?=some q->∃l,ajN (fQ 0 x) i q l:=by
 have hat:qH (fQ 0 x) 0 x:=⟨[],by rw [List.drop_zero,List.append_nil];exact JI 0 x⟩;have h1:=k.Dr.rl.long hraw;obtain ⟨_,_,h2⟩:=k.Dr.rl.parts hraw (fQ 0 x) 0 hat;refine ⟨by rw [nO];omega,fun i q hq=>?_⟩;obtain ⟨h3,l,h4,h5⟩:=h2 i (cu _) (by have:=(List.getElem?_eq_some_iff.1 hq).1;rw [nO] at this;omega) q hq;obtain ⟨h6,h7⟩:=FM _ _ _ h4;refine ⟨l,h3,Mr _ _ _ h4,h7,fun h=>by rw [h6];exact Ot h,fun h=>h5 (by unfold wrK;rcases h with h|h|h|h<;>simp [h]),by rw [h6];exact nJ (k.okX q (O8 hq)).2⟩
open Go.ChangeShapes Go.WideShapes Go.ChangeAt Go.WideMaps Go.WideElems Go.RowKit Go.Deep
theorem own:ownKnob Tryz.prog.godebug=none:=by kernel_rfl
theorem tK:laidOutB Tryz.prog=true:=by kernel_rfl
theorem JJ:Tryz.prog.cellsOf 49=3:=by kernel_rfl
section
variable {H:Type} {enc:TypeId×Value->H} {W:World} {base:Nat} {d:DataW H} {p:List MemPlace} {v:Value}
theorem Gi {n:Int} (h:(Lit.int .i64 n).wf=true): -9223372036854775808<=n/\n<=9223372036854775807:=by
 have e1:IntKind.i64.min= -9223372036854775808:=rfl;have e2:IntKind.i64.max=9223372036854775807:=rfl;simpa [Lit.wf,e1,e2] using h
theorem anc (hv:Value.okWide Tryz.prog W .any base 28 v) (h:DataW.Trod enc Tryz.prog W 0 (fun _=>true) true 28 v d p):
  ∃(A:Option Addr) (xs:List Nd) (c:Nat),v= .slice A xs.length c/\bJ W W.heap.size A xs/\xs.length<=c/\xs.length<=9223372036854775807/\∀x∈xs,x.Ok:=by
 obtain ⟨a0,n0,c0,rfl⟩:=okWide_slice Tryz.underlying28 hv;obtain ⟨fuel,hf⟩:=h;rcases open_slice Tryz.underlying28 hf with ⟨hcs,_⟩|⟨a,len,cap,m,n,D,Pl,hcs,_,hl,hcm,hm,_,hel⟩
 ·simp [Value.cells] at hcs
  obtain ⟨rfl,rfl,rfl⟩:=hcs;exact ⟨none,[],0,rfl,bJ.nil,aK _,by simp,by simp⟩
 ·simp [Value.cells] at hcs
  obtain ⟨rfl,rfl,rfl⟩:=hcs;simp only [if_true] at hm;subst hm
  have vX:∀i,i<n0->∃x:Nd,x.Ok/\W.cell? (a.add (i*3))=some (.int .i64 x.k)/\W.cell? (a.add (i*3+1))=some (.string x.s)/\W.cell? (a.add (i*3+2))=some (.int .i64 x.n):=fun i hi=>by
   obtain ⟨cs',hc,ht⟩:=hel i (by omega);rw [JJ] at hc;obtain ⟨_,hlen,hat⟩:=abW hc
   match cs',hlen with
   |[v0,v1,v2],_=>
    obtain ⟨ys,n',_,_,_,_,qy⟩:=DataW.trod_struct Tryz.underlying49 ht;have h0:=qy 0 _ rfl;have h1:=qy 1 _ rfl;have h2:=qy 2 _ rfl;change DataW.trod enc Tryz.prog W 0 _ true n' 3 (([v0,v1,v2].drop 0).take (Tryz.prog.cellsOf 3))=_ at h0;change DataW.trod enc Tryz.prog W 0 _ true n' 9 (([v0,v1,v2].drop 1).take (Tryz.prog.cellsOf 9))=_ at h1;change DataW.trod enc Tryz.prog W 0 _ true n' 3 (([v0,v1,v2].drop 2).take (Tryz.prog.cellsOf 3))=_ at h2;rw [show Tryz.prog.cellsOf 3=1 by kernel_rfl] at h0 h2;rw [show Tryz.prog.cellsOf 9=1 by kernel_rfl] at h1
    have hne:∀j,j<3->∃y,ys[j]?=some y:=fun j hj=>by
     have:ys.length=3:=by assumption
     exact aJ (by omega)
    obtain ⟨y0,e0⟩:=hne 0 (by omega);obtain ⟨y1,e1⟩:=hne 1 (by omega);obtain ⟨y2,e2⟩:=hne 2 (by omega);obtain ⟨k,hk,_,hkw⟩:=DataW.trod_int Tryz.underlying3 (h0.trans e0);obtain ⟨s,hs,_,hsw⟩:=DataW.trod_string Tryz.underlying9 (h1.trans e1);obtain ⟨nn,hnn,_,hnw⟩:=DataW.trod_int Tryz.underlying3 (h2.trans e2);simp at hk hs hnn;subst hk hs hnn;obtain ⟨k0,k1⟩:=Gi hkw;obtain ⟨n0,n1⟩:=Gi hnw;refine ⟨⟨k,s,nn⟩,⟨k0,k1,n0,n1,hsw⟩,?_,?_,?_⟩
    ·have:=hat 0 (by omega);rw [add_add] at this;simpa using this
    ·have:=hat 1 (by omega);rw [add_add] at this;simpa using this
    ·have:=hat 2 (by omega);rw [add_add] at this;simpa using this
  have hch:∃f:Nat->Nd,∀i,i<n0->(f i).Ok/\W.cell? (a.add (i*3))=some (.int .i64 (f i).k)/\W.cell? (a.add (i*3+1))=some (.string (f i).s)/\W.cell? (a.add (i*3+2))=some (.int .i64 (f i).n):=
   ⟨fun i=>if h:i<n0 then abX (vX i h) else default,fun i hi=>by
    simp only [dif_pos hi];exact abY (vX i hi)⟩
  obtain ⟨f,hf2⟩:=hch;have hxl:((MQ n0).map f).length=n0:=by simp
  have hget:∀i x,((MQ n0).map f)[i]?=some x->i<n0/\x=f i:=fun i x hx=>by
   have hi:i<n0:=by have:=aP hx;simpa using this
   rw [Tz,abZ hi] at hx;injection hx with hx
   exact ⟨hi,hx.symm⟩
  refine ⟨some a,(MQ n0).map f,m,by rw [hxl],fun hne=>?_,by rw [hxl];exact hl,by rw [hxl];unfold maxLen at hcm;omega,fun x hx=>?_⟩
  ·have hn:0<n0:=by
    rcases ab0 n0 with h|h
    ·subst h;exact absurd rfl hne
    ·exact h
   obtain ⟨b,off,spot⟩:=a;have h0:=(hf2 0 hn).2.1;have hspot:spot=none:=by simpa [Addr.add] using ab1 h0
   subst hspot;simp only [add_plain] at hf2;refine ⟨b,off,rfl,?_,⟨fun i x hx=>?_,fun i x hx=>?_,fun i x hx=>?_⟩⟩
   ·exact FD W _ (hf2 0 hn).2.1
   ·obtain ⟨hi,rfl⟩:=hget i x hx;exact (hf2 i hi).2.1
   ·obtain ⟨hi,rfl⟩:=hget i x hx;have:=(hf2 i hi).2.2.1;rwa [<-abE] at this
   ·obtain ⟨hi,rfl⟩:=hget i x hx;have:=(hf2 i hi).2.2.2;rwa [<-abE] at this
  ·obtain ⟨i,hi,rfl⟩:=aaw.1 hx
   exact (hf2 i (Xt.1 hi)).1
end
section
variable {H:Type} {enc:TypeId×Value->H} {W:World} {base:Nat} {d:DataW H} {p:List MemPlace} {v:Value} {fuel:Nat} {cs:List Value} {X:DataW H×List MemPlace}
theorem EI (hf:DataW.trod enc Tryz.prog W 0 (fun _=>true) true fuel 28 cs=some X):
  ∃(A:Option Addr) (xs:List Nd) (c:Nat),cs=[.slice A xs.length c]/\bJ W W.heap.size A xs/\xs.length<=c/\xs.length<=9223372036854775807/\∀x∈xs,x.Ok:=by
 rcases open_slice Tryz.underlying28 hf with ⟨hcs,_⟩|⟨a,n0,cap,m,n,D,Pl,hcs,_,hl,hcm,hm,_,hel⟩
 ·exact ⟨none,[],0,hcs,bJ.nil,aK _,by simp,by simp⟩
 ·simp only [if_true] at hm
  subst hm;subst hcs
  have vX:∀i,i<n0->∃x:Nd,x.Ok/\W.cell? (a.add (i*3))=some (.int .i64 x.k)/\W.cell? (a.add (i*3+1))=some (.string x.s)/\W.cell? (a.add (i*3+2))=some (.int .i64 x.n):=fun i hi=>by
   obtain ⟨cs',hc,ht⟩:=hel i (by omega);rw [JJ] at hc;obtain ⟨_,hlen,hat⟩:=abW hc
   match cs',hlen with
   |[v0,v1,v2],_=>
    obtain ⟨ys,n',_,_,_,_,qy⟩:=DataW.trod_struct Tryz.underlying49 ht;have h0:=qy 0 _ rfl;have h1:=qy 1 _ rfl;have h2:=qy 2 _ rfl;change DataW.trod enc Tryz.prog W 0 _ true n' 3 (([v0,v1,v2].drop 0).take (Tryz.prog.cellsOf 3))=_ at h0;change DataW.trod enc Tryz.prog W 0 _ true n' 9 (([v0,v1,v2].drop 1).take (Tryz.prog.cellsOf 9))=_ at h1;change DataW.trod enc Tryz.prog W 0 _ true n' 3 (([v0,v1,v2].drop 2).take (Tryz.prog.cellsOf 3))=_ at h2;rw [show Tryz.prog.cellsOf 3=1 by kernel_rfl] at h0 h2;rw [show Tryz.prog.cellsOf 9=1 by kernel_rfl] at h1
    have hne:∀j,j<3->∃y,ys[j]?=some y:=fun j hj=>by
     have:ys.length=3:=by assumption
     exact aJ (by omega)
    obtain ⟨y0,e0⟩:=hne 0 (by omega);obtain ⟨y1,e1⟩:=hne 1 (by omega);obtain ⟨y2,e2⟩:=hne 2 (by omega);obtain ⟨k,hk,_,hkw⟩:=DataW.trod_int Tryz.underlying3 (h0.trans e0);obtain ⟨s,hs,_,hsw⟩:=DataW.trod_string Tryz.underlying9 (h1.trans e1);obtain ⟨nn,hnn,_,hnw⟩:=DataW.trod_int Tryz.underlying3 (h2.trans e2);simp at hk hs hnn;subst hk hs hnn;obtain ⟨k0,k1⟩:=Gi hkw;obtain ⟨n0,n1⟩:=Gi hnw;refine ⟨⟨k,s,nn⟩,⟨k0,k1,n0,n1,hsw⟩,?_,?_,?_⟩
    ·have:=hat 0 (by omega);rw [add_add] at this;simpa using this
    ·have:=hat 1 (by omega);rw [add_add] at this;simpa using this
    ·have:=hat 2 (by omega);rw [add_add] at this;simpa using this
  have hch:∃f:Nat->Nd,∀i,i<n0->(f i).Ok/\W.cell? (a.add (i*3))=some (.int .i64 (f i).k)/\W.cell? (a.add (i*3+1))=some (.string (f i).s)/\W.cell? (a.add (i*3+2))=some (.int .i64 (f i).n):=
   ⟨fun i=>if h:i<n0 then abX (vX i h) else default,fun i hi=>by
    simp only [dif_pos hi];exact abY (vX i hi)⟩
  obtain ⟨f,hf2⟩:=hch;have hxl:((MQ n0).map f).length=n0:=by simp
  have hget:∀i x,((MQ n0).map f)[i]?=some x->i<n0/\x=f i:=fun i x hx=>by
   have hi:i<n0:=by have:=aP hx;simpa using this
   rw [Tz,abZ hi] at hx;injection hx with hx
   exact ⟨hi,hx.symm⟩
  refine ⟨some a,(MQ n0).map f,m,by rw [hxl],fun hne=>?_,by rw [hxl];exact hl,by rw [hxl];unfold maxLen at hcm;omega,fun x hx=>?_⟩
  ·have hn:0<n0:=by
    rcases ab0 n0 with h|h
    ·subst h;exact absurd rfl hne
    ·exact h
   obtain ⟨b,off,spot⟩:=a;have h0:=(hf2 0 hn).2.1;have hspot:spot=none:=by simpa [Addr.add] using ab1 h0
   subst hspot;simp only [add_plain] at hf2;refine ⟨b,off,rfl,?_,⟨fun i x hx=>?_,fun i x hx=>?_,fun i x hx=>?_⟩⟩
   ·exact FD W _ (hf2 0 hn).2.1
   ·obtain ⟨hi,rfl⟩:=hget i x hx;exact (hf2 i hi).2.1
   ·obtain ⟨hi,rfl⟩:=hget i x hx;have:=(hf2 i hi).2.2.1;rwa [<-abE] at this
   ·obtain ⟨hi,rfl⟩:=hget i x hx;have:=(hf2 i hi).2.2.2;rwa [<-abE] at this
  ·obtain ⟨i,hi,rfl⟩:=aaw.1 hx
   exact (hf2 i (Xt.1 hi)).1
end
end Go.Proofs.YtmjdhfbnmmdjiaaGreat
