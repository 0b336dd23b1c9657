/- Laid together by a tool from the texts of this seat: CxLit CsN CxName CxFun CsP. Conditions: each theorem's own. -/
import Derived.Test.YtmjdhfbnmmdjiaaGreatJ20
import Derived.Test.YtmjdhfbnmmdjiaaGreatJ18
set_option maxHeartbeats 8000000
set_option maxRecDepth 100000
namespace Go.Proofs.YtmjdhfbnmmdjiaaGreat
open Go.Lib renaming hid->aD
open Go.World renaming cell?->Ck,frozen?->EJ,size_alloc->Er
open _root_.And renaming intro->Cj
open Go.RowKit.Below renaming refl->aF,heap_alloc->Ew
open _root_.Nat renaming le_refl->aG
open _root_.List renaming length_singleton->aaB,length_cons->mX
open Go.RowKit
theorem Q9 (P:Nat) (es:List Pt) (nx:kP) (_HN:Hid (lg P es nx)) (env:Env) (a:Nat) (p:Pt) (r:dV) (Y:Nat->Prop) (w:World) (h:iI P es env a Y w) (hp:es[a]?=some p) (hk:p.k=0) (hal:a<=1000000) (hm:(some ([p],p.T,a+1):Option dV)=some r):
  Calls Tryz.prog 53 #[pk P] w (bU P es env Y r w):=by
 have jM:=aD (Cj hm hp);have oI:=aD hk;refine (iG P es env a p r Y w).2 h hp hal ?_;clear h hp hal hm hk;intro eb eo ec TA tc UA uc R B G w4 H4;dsimp only [iG];intro K1 hK1 K2 hK2;obtain ⟨k0,k1,k2,k3,k4,k6,k7⟩:=H4.out.pt.cells;have ji:w4.cell? ⟨B,0,none⟩=some (.int .i64 0):=by rw [k0,oI.out]
 clear k0;have hr:=jM.out.1;injection hr with hr
 subst hr;clear jM;have HE:=aD (H4.out.done (r:=([p],p.T,(a+1))) rfl (H4.out.ex) (H4.out.pt.T) (fun a ha=>by injection ha with ha;rw [<-ha];exact H4.out.gw));obtain ⟨r0,r1,qQ,qR⟩:=H4.out.jF;go_wp2_with fail;obtain ⟨wy,bN⟩:∃wy,wy=set2 w4 R (.slice (some ⟨G,0,none⟩) ([p]:List Pt).length 1) (.slice TA (p.T:List Nd).length tc):=⟨_,rfl⟩;have HE2:Hid (bU P es env Y ([p],p.T,(a+1)) w (.returned (.agg #[.slice (some ⟨G,0,none⟩) ([p]:List Pt).length 1,.slice TA (p.T:List Nd).length tc])) wy/\wy.cell? ⟨R,0,none⟩=some (.slice (some ⟨G,0,none⟩) ([p]:List Pt).length 1)/\wy.cell? ⟨R,1,none⟩=some (.slice TA (p.T:List Nd).length tc)):=aD (by rw [bN];exact HE.out);unfold set2 at bN
 first|rw [<-bN]|(simp only [aaB] at bN;rw [<-bN])
 have q0:=HE2.out.2.1;have q1:=HE2.out.2.2;refine bodyPost_ret (v:=.agg #[.slice (some ⟨G,0,none⟩) ([p]:List Pt).length 1,.slice TA (p.T:List Nd).length tc]) (by simp [results,Tryz.results53,go_sem,q0,q1]) rfl HE2.out.1
open Go.RowKit Go.Shelf
attribute [local go_sem] Oper.semAt_some
def NaI (w:World) (s:ByteArray) (pre:List Jb) (W:World):Prop:=
 (∀x∈pre,x.2.s.toList≠s.toList)/\W.heap[w.heap.size]?=some (.cells #[.string s] 9 (0,0))/\W.heap[w.heap.size+1]?=some (.cells #[.slice none 0 0] 28 (0,0))/\Below w.heap.size w W/\w.heap.size+3<=W.heap.size
def NaX (w:World) (s:ByteArray) (c:Code) (pre:List Jb) (W:World):Prop:=
 (∃pre' x,c= .ret/\pre=pre'++[x]/\(∀y∈pre',y.2.s.toList≠s.toList)/\x.2.s.toList=s.toList/\W.heap[w.heap.size+1]?=some (.cells #[.slice x.2.A x.2.n x.2.c] 28 (0,0)))/\Below w.heap.size w W
theorem Yq (w:World) (s:ByteArray) (B:Nat) (hB:w.heap.size<=B):OwnFrom B (NaI w s):=fun _s W W' row hs hg hr=>
 ⟨hs.1,qN B _ (fun _:Unit=>_) (fun _=>rfl) () W W' row hs.2.1 hg hr,qN B _ (fun _:Unit=>_) (fun _=>rfl) () W W' row hs.2.2.1 hg hr,ownFrom_below (β:=Unit) (aG _) hB () W W' row hs.2.2.2.1 hg hr,Nat.le_trans hs.2.2.2.2 hg.size⟩
theorem Yr (w:World) (s:ByteArray) (B:Nat) (hB:w.heap.size<=B) (c:Code):OwnFrom B (NaX w s c):=fun s W W' row hs hg hr=>by
 obtain ⟨⟨pre',x,h1,h2,h3,h4,h5⟩,h6⟩:=hs;exact ⟨⟨pre',x,h1,h2,h3,h4,qN B _ (fun _:Unit=>_) (fun _=>rfl) () W W' row h5 hg hr⟩,ownFrom_below (β:=Unit) (aG _) hB () W W' row h6 hg hr⟩
theorem Q_ (P:Nat) (es:List Pt) (env:Env) (s:ByteArray) (a:Nat) (t:List Nd) (Y:Nat->Prop) (w:World) (h:iI P es env a Y w) (hm:lY env s=some t):
  Calls Tryz.prog 80 #[pk P,.string s] w fun e w'=>Below w.heap.size w w'/\∃A c,e= .returned (.slice A t.length c)/\aA w' Y A c t:=by
 have xW:Hid (P<w.heap.size):=aD (h.lt P h.yP);obtain ⟨EA,ec,VA,vc,bs,hmk⟩:=h;have HM:=aD (Cj hmk hm);obtain ⟨_,_,c2⟩:=hmk.cells;have U1:=hmk.lt P ((hmk.y P).2 (.inl rfl));have hbl:bs.length<=1000000:=by rw [hmk.en.1];exact hmk.vl
 have h1:((w.alloc (.cells #[.string s] 9)).alloc (.cells #[.slice none 0 0] 28)).cell? ⟨P,2,none⟩=some (.slice VA bs.length vc):=by
  rw [<-c2];exact (aj (aj (aF _ _) _) _:Below w.heap.size w _).cell U1
 clear hmk hm c2;refine (callsIn_wide (n:=9)).1 ?_;unfold pk;refine callsIn_of_wp_marks Tryz.func80 rfl trivial ?_ rfl;simp only [Tryz.ntmps80,List.size_toArray,mX,List.length_nil,Nat.reduceAdd,Nat.reduceSub,Array.replicate_succ,Array.replicate_zero,List.push_toArray,List.append_toArray,List.nil_append,List.cons_append]
 gi_wp2
 refine ⟨trivial,?_⟩;refine (XU 8 VA bs.length vc _).mono ?_;rintro e w' ⟨rfl,rfl⟩;clear h1;obtain ⟨W0,hW0⟩:∃W0,W0=((w.alloc (.cells #[.string s] 9)).alloc (.cells #[.slice none 0 0] 28)).alloc (.cells #[.slice VA bs.length vc] 22):=⟨_,rfl⟩;have hsz:W0.heap.size=w.heap.size+3:=by rw [hW0];simp
 have hB0:Below w.heap.size w W0:=by rw [hW0];exact aj (aj (aj (aF _ _) _) _) _
 obtain ⟨q0,q1,q2⟩:=JQ w _ _ _ _ _ _ W0 hW0;rw [<-hW0];clear hW0
 gi_wp2
 have HQ:=aD (Cj hsz (Cj hB0 (Cj q0 (Cj q1 q2))));have hbs:W0.cell? ⟨w.heap.size+1+1,0,none⟩=some (.slice VA bs.length vc):=by simp [Ck,q2]
 have hbw:QT (w.heap.size+3) (w.heap.size+1) W0 VA bs:=fun hne=>by
  obtain ⟨b,o,e,hb,hr⟩:=(aB.read rX HM.out.1.own) hne;refine ⟨b,o,e,by omega,by omega,fun j hj=>?_⟩;have hx:bs[j]?=some bs[j]:=List.getElem?_eq_getElem hj;have h0:=hr j _ hx 0 _ rfl;have h1:=hr j _ hx 1 _ rfl;rw [hx];exact ⟨(hB0.cell hb).trans h0,(hB0.cell hb).trans h1⟩
 refine wpIn_rangeFunc_ownH rfl (by decide) (gf:=119) (lb:=#[.pointer (some ⟨w.heap.size+1+1,0,none⟩)]) rfl trivial (enters_of Tryz.func119 (by kernel_rfl) rfl)
  (JO 8 (by decide) (w.heap.size+1+1) (w.heap.size+3) (w.heap.size+1) vc VA bs hbl W0 (by omega) (by omega) (by omega) hbs hbw) rz.trans (rz.put (by omega)) (aF _ _) (fun _=>rfl)
  (NaI w s) (NaX w s) (Yq w s W0.heap.size (by omega)) (fun c=>Yr w s W0.heap.size (by omega) c)
  ⟨fun x hx=>by simp at hx,q0,q1,hB0,by omega⟩
  (fun x a2 W=>∃Bx,w.heap.size+3<=Bx/\W.heap[Bx]?=some (.cells #[.string x.2.s,.slice x.2.A x.2.n x.2.c] 36 (0,0))/\a2={tmps:=#[.pointer (some ⟨P,0,none⟩),.string s,undef,.pointer (some ⟨w.heap.size,0,none⟩),.pointer (some ⟨w.heap.size+1,0,none⟩),undef,.pointer (some ⟨Bx,0,none⟩),.pointer (some ⟨P,0,none⟩),.pointer (some ⟨P,0,none⟩),.pointer (some ⟨P,2,none⟩),.slice VA bs.length vc,.func (.func 119) #[] #[.pointer (some ⟨w.heap.size+1+1,0,none⟩)],.int .i64 (x.1:Int),.agg #[.string x.2.s,.slice x.2.A x.2.n x.2.c],undef,undef,undef,undef,undef,undef],defers:=[]})
  (fun x a2 _ X Y row hs hg hr=>by
   obtain ⟨Bx,e1,e2,e3⟩:=hs;exact ⟨Bx,e1,qN W0.heap.size Bx (fun _:Unit=>_) (fun _=>rfl) () X Y row e2 hg hr,e3⟩)
  ?assign ?body ?done ?stop
 case assign=>
  rintro l pre x W K hI hK;have HK:=aD (Cj hI hK);clear hI hK;unfold Gb
  gi_wp2
  have hzW:=HK.out.1.2.2.2.2;exact HK.out.2 _ _ ((KeepsOthers.alloc _ _).from _) ⟨by simp,fun k hk _=>Ew _ _ _ (by omega)⟩ ⟨HK.out.1.1,(Ew _ _ _ (by omega)).trans HK.out.1.2.1,(Ew _ _ _ (by omega)).trans HK.out.1.2.2.1,D6 HK.out.1.2.2.2.1 _,by simp;omega⟩ ⟨W.heap.size,hzW,heap_alloc_new _ _,rfl⟩
 case body=>
  rintro l pre x a2 W hl ⟨r1,hr⟩ hI ⟨Bx,hBx,bX,rfl⟩ hlt;have b0:W.cell? ⟨Bx,0,none⟩=some (.string x.2.s):=by simp [Ck,bX]
  have b1:W.cell? ⟨Bx,1,none⟩=some (.slice x.2.A x.2.n x.2.c):=by simp [Ck,bX]
  have n2:W.cell? ⟨w.heap.size,0,none⟩=some (.string s):=by simp [Ck,hI.2.1]
  have cR:W.cell? ⟨w.heap.size+1,0,none⟩=some (.slice none 0 0):=by simp [Ck,hI.2.2.1]
  have fR:W.frozen? ⟨w.heap.size+1,0,none⟩=false:=by simp [EJ,hI.2.2.1]
  have HI:=aD hI;by_cases heq:x.2.s.toList=s.toList
  ·have hq:(x.2.s.toList==s.toList)=true:=by simp [heq]
   have HE:=aD heq;clear heq hI hr hl hlt bX
   gi_wp2
   exact ⟨(KeepsOthers.setCell _ _ _).from _,⟨pre,x,rfl,rfl,HI.out.1,HE.out,heap_set HI.out.2.2.1 0 _⟩,HI.out.2.2.2.1.setCell (p:=⟨w.heap.size+1,0,none⟩) (by simp) _⟩
  ·have hq:(x.2.s.toList==s.toList)=false:=by simp [heq]
   have HE:=aD heq;clear heq hI hr hl hlt bX
   gi_wp2
   refine ⟨KeepsFrom.refl _ _,rz.refl _ _ _,fun y hy=>?_,HI.out.2⟩;rcases List.mem_append.1 hy with hy|hy
   ·exact HI.out.1 y hy
   ·simp at hy
    subst hy;exact HE.out
 case done=>
  rintro D xs W hD hS hI hK;exfalso;have hRn:lY env s=none:=D7 HM.out.1.en (by rw [<-hS];exact hI.1);have:=HM.out.2;rw [hRn] at this
  cases this
 case stop=>
  rintro D c pre W hD hpre hI hK;obtain ⟨⟨pre',x,rfl,hpe,hno,heq,hb⟩,hB⟩:=hI;obtain ⟨kk,hkk,hpk⟩:=hpre;obtain ⟨t2,hlk,hxn,hxc⟩:=JR HM.out.1.en hkk hpk hpe hno heq
  have IY:Hid (t2=t):=aD (by
   have:=HM.out.2;rw [hlk] at this;injection this with this)
  gi_wp2
  refine ⟨by simp,.inl ⟨_,_,rfl,run_takeDeferred hK,?_⟩⟩;have hne:D≠w.heap.size+1:=by omega
  have pE:(W.putObj D (.deferred none)).heap[w.heap.size+1]?=some (.cells #[.slice x.2.A x.2.n x.2.c] 28 (0,0)):=(World.putObj_heap_other (fun e=>hne e.symm)).trans hb;have Ll:(W.putObj D (.deferred none)).cell? ⟨w.heap.size+1,0,none⟩=some (.slice x.2.A x.2.n x.2.c):=by simp [Ck,pE]
  have U3:Below w.heap.size w (W.putObj D (.deferred none)):=hB.trans (belowK_b (w:=w) (aG _) W D _ _ (by omega) hK rfl rfl);refine ⟨.slice x.2.A x.2.n x.2.c,?_,?_⟩
  ·simp [results,Tryz.f80,go_sem,Ll]
  ·exact ⟨U3,x.2.A,x.2.c,by rw [hxn,IY.out],by rw [<-IY.out];exact aA.fr hxc (Fr.below U3) (ah.refl _ _)⟩
theorem OV (P:Nat) (es:List Pt) (nx:kP) (_HN:Hid (lg P es nx)) (env:Env) (a:Nat) (p:Pt) (r:dV) (Y:Nat->Prop) (w:World) (h:iI P es env a Y w) (hp:es[a]?=some p) (hk:p.k=1) (hal:a<=1000000) (hm:Ap env p (a+1)=some r):
  Calls Tryz.prog 53 #[pk P] w (bU P es env Y r w):=by
 have jM:=aD (Cj hm hp);have oI:=aD hk;refine (iG P es env a p r Y w).2 h hp hal ?_;clear h hp hal hm hk;intro eb eo ec TA tc UA uc R B G w4 H4;dsimp only [iG];intro K1 hK1 K2 hK2;obtain ⟨k0,k1,k2,k3,k4,k6,k7⟩:=H4.out.pt.cells;have ji:w4.cell? ⟨B,0,none⟩=some (.int .i64 1):=by rw [k0,oI.out]
 clear k0
 obtain ⟨t,hlk,hr⟩:∃t,lY env p.nm=some t/\([p],t,a+1)=r:=by
  have h5:=jM.out.1;unfold Ap at h5
  cases h6:lY env p.nm with
  |none=>rw [h6] at h5;cases h5
  |some t=>rw [h6] at h5;injection h5 with h5;exact ⟨t,rfl,h5⟩
 subst hr;have HL:=aD hlk;clear hlk jM;have HX:=aD (Q_ P es env p.nm (a+1) t Y w4 H4.out.wk HL.out);go_wp2_with fail;refine HX.out.mono ?_;rintro e w5 ⟨hb,A9,c9,rfl,ht⟩;clear HX;have H5:=aD (H4.out.later hb);have cu:Hid (aA w5 Y A9 c9 t):=aD ht;clear ht hb
 try clear k0 k1 k2 k3 k4 k6 k7
 try clear ji
 try clear k1 k2 k3 k4 k6 k7
 obtain ⟨k0,k1,k2,k3,k4,k6,k7⟩:=H5.out.pt.cells
 skip
 have HE:=aD (H5.out.done (r:=([p],t,(a+1))) rfl (H5.out.ex) (cu.out) (fun a ha=>by injection ha with ha;rw [<-ha];exact H5.out.gw));obtain ⟨r0,r1,qQ,qR⟩:=H5.out.jF;go_wp2_with fail;obtain ⟨wy,bN⟩:∃wy,wy=set2 w5 R (.slice (some ⟨G,0,none⟩) ([p]:List Pt).length 1) (.slice A9 (t:List Nd).length c9):=⟨_,rfl⟩;have HE2:Hid (bU P es env Y ([p],t,(a+1)) w (.returned (.agg #[.slice (some ⟨G,0,none⟩) ([p]:List Pt).length 1,.slice A9 (t:List Nd).length c9])) wy/\wy.cell? ⟨R,0,none⟩=some (.slice (some ⟨G,0,none⟩) ([p]:List Pt).length 1)/\wy.cell? ⟨R,1,none⟩=some (.slice A9 (t:List Nd).length c9)):=aD (by rw [bN];exact HE.out);unfold set2 at bN
 first|rw [<-bN]|(simp only [aaB] at bN;rw [<-bN])
 have q0:=HE2.out.2.1;have q1:=HE2.out.2.2;refine bodyPost_ret (v:=.agg #[.slice (some ⟨G,0,none⟩) ([p]:List Pt).length 1,.slice A9 (t:List Nd).length c9]) (by simp [results,Tryz.results53,go_sem,q0,q1]) rfl HE2.out.1
theorem Ra (P:Nat) (es:List Pt) (nx:kP) (HN:Hid (lg P es nx)) (env:Env) (a:Nat) (p:Pt) (r:dV) (Y:Nat->Prop) (w:World) (h:iI P es env a Y w) (hp:es[a]?=some p) (hk:p.k=2) (hal:a<=1000000) (hvl:env.length<=900000) (BG:Gd p.T) (BH:p.T.length<=5000000) (hG:∀env a x t b,nx env a=some (x,t,b)->pI x t) (hm:Gj nx env p (a+1)=some r):
  Calls Tryz.prog 53 #[pk P] w (bU P es env Y r w):=by
 have jM:=aD (Cj hm hp);have oI:=aD hk;refine (iG P es env a p r Y w).2 h hp hal ?_;clear h hp hal hm hk;intro eb eo ec TA tc UA uc R B G w4 H4;dsimp only [iG];intro K1 hK1 K2 hK2;obtain ⟨k0,k1,k2,k3,k4,k6,k7⟩:=H4.out.pt.cells;have ji:w4.cell? ⟨B,0,none⟩=some (.int .i64 2):=by rw [k0,oI.out]
 clear k0;obtain ⟨x,t,b,h1,hr⟩:=bH jM.out.1;injection hr with hr
 subst hr;have uL:=aD h1;have fH:=aD (hG _ _ _ _ _ h1);have Gs:=aD (Cj BG BH);clear h1 BG BH jM;have hbl:Below w4.heap.size w4 (w4.alloc (.cells #[.string p.bd,.slice TA (p.T:List Nd).length tc] 36)):=aj (aF _ _) _;have HL:=aD (H4.out.later hbl);have Gt:=aD (sP P es nx HN env [(p.bd,p.T)] (a+1) (x,t,b) (some ⟨w4.heap.size,0,none⟩) 1 [⟨p.bd,TA,(p.T:List Nd).length,tc⟩] Y (w4.alloc (.cells #[.string p.bd,.slice TA (p.T:List Nd).length tc] 36)) HL.out.wk (by rw [Er];exact kJ w4 ⟨p.bd,TA,(p.T:List Nd).length,tc⟩) (dX.one ((H4.out.pt.T).later hbl) rfl) (by simp) hvl uL.out);clear hbl;have HX:=aD (Gt.out);unfold pk at HX;go_wp2_with fail;refine HX.out.mono ?_;rintro e w5 ⟨Y5,hf,hy,hkk,A5,c5,T5,d5,rfl,hx,ht,hA⟩;clear HX;have H5:=aD (HL.out.step hf hy hkk);have hV:Hid (bP w5 Y5 A5 c5 x/\aA w5 Y5 T5 d5 t/\∀a,A5=some a->w.heap.size<=a.block):=aD ⟨hx,ht,fun a ha=>Nat.le_trans HL.out.fr.size (hA a ha)⟩;clear hf hy hkk hx ht hA
 try clear k0 k1 k2 k3 k4 k6 k7
 try clear ji
 try clear k1 k2 k3 k4 k6 k7
 go_upto_region 11 with fail
 obtain ⟨w6,hw⟩:∃w6,w6=w5.alloc (.cells #[.slice A5 (x:List Pt).length c5,.slice T5 (t:List Nd).length d5] 65):=⟨_,rfl⟩;obtain ⟨b6,hb⟩:∃b6,b6=w5.heap.size:=⟨_,rfl⟩;have hbb:Below w5.heap.size w5 w6:=by rw [hw];exact aj (aF _ _) _
 have H6:=aD (H5.out.later hbb);have X6:Hid (jr w b6 A5 c5 x T5 d5 t Y5 w6):=aD ⟨by rw [hw,hb];exact aS.new H5.out.wk.lt _ _,hV.out.1.fr (Fr.below hbb) (ah.refl _ _),hV.out.2.1.later hbb,hV.out.2.2⟩;rw [<-hw,<-hb];clear hw hb hbb hV;obtain ⟨k0,k1,k2,k3,k4,k6,k7⟩:=H6.out.pt.cells;obtain ⟨kL,kM⟩:=X6.out.cells;obtain ⟨SS,hSS⟩:∃SS:World->Prop,SS=fun v=>v.cell? ⟨B,2,none⟩=some (.string p.nm)/\v.cell? ⟨B,3,none⟩=some (.string p.bd)/\v.cell? ⟨B,6,none⟩=some (.slice TA p.T.length tc)/\v.cell? ⟨B,7,none⟩=some (.slice UA p.U.length uc)/\v.cell? ⟨b6,0,none⟩=some (.slice A5 (x:List Pt).length c5)/\v.cell? ⟨b6,1,none⟩=some (.slice T5 (t:List Nd).length d5):=⟨_,rfl⟩;obtain ⟨w7,hwd⟩:∃w7,w7=w6.drew:=⟨_,rfl⟩;have hb:Below w6.heap.size w6 w7:=by rw [hwd];exact (aF _ _).drew
 have H7:=aD (H6.out.later hb);replace X6:=aD (X6.out.later hb);clear hb
 try clear k0 k1 k2 k3 k4 k6 k7
 try clear ji
 try clear k1 k2 k3 k4 k6 k7
 try clear kL kM
 have Rb:SS w7:=by rw [hSS];exact ⟨H7.out.pt.cells.2.2.1,H7.out.pt.cells.2.2.2.1,H7.out.pt.cells.2.2.2.2.2.1,H7.out.pt.cells.2.2.2.2.2.2,X6.out.cells.1,X6.out.cells.2⟩
 refine aI (S:=SS) [10] (by kernel_rfl) (by rw [<-hwd];exact Rb) (fun hHeld=>?_);rw [<-hwd] at hHeld ⊢;clear hwd hHeld;refine aL 0 [10] (some 71) rfl rfl ?_;refine aL 1 [10] (some 72) rfl rfl ?_;refine aL 2 [10] (some 73) rfl rfl ?_;refine aL 4 [10] (some 75) rfl rfl ?_;refine aL 5 [10] (some 76) rfl rfl ?_;refine aL 6 [10] (some 77) rfl rfl ?_;refine aL 7 [10] (some 78) rfl rfl ?_;obtain ⟨vs,hrd,hpm,hcp⟩:=X6.out.ex;have Je:=aD hpm.1;have BI:=aD (Cj hrd.read hpm);clear hrd hpm hcp;refine dQ 3 rfl (by kernel_rfl) (by rfl) ?_;refine Gq (.tmp 71) (.tmp 73) rfl w.heap.size (m:=1) (n:=(x:List Pt).length) (l:=[⟨p.k,p.lb,p.nm,p.bd,p.mn,p.num,TA,p.T.length,tc,UA,p.U.length,uc⟩]) rfl rfl H7.out.own (l2:=vs) Je.out rfl BI.out.1 (k:=(x:List Pt).length+1) (by omega) (by have:=fH.out.len;omega) H7.out.fr.size ?_;intro A8 c8 w8 hown hg hd;have jv:=aD (H7.out.app BI.out.2 hown hg hd);clear hown hg hd;have Gu:SS w8:=by rw [hSS];exact ⟨jv.out.2.2.2.2.1.cells.2.2.1,jv.out.2.2.2.2.1.cells.2.2.2.1,jv.out.2.2.2.2.1.cells.2.2.2.2.2.1,jv.out.2.2.2.2.1.cells.2.2.2.2.2.2,(X6.out.box.eX jv.out.1 (by decide)).kR.1,(X6.out.box.eX jv.out.1 (by decide)).kR.2⟩
 have Yt:Hid (aA w8 Y5 TA tc p.T):=aD ((H7.out.pt.T).bW jv.out.1 (by decide));have HTt:Hid (aA w8 Y5 T5 d5 t):=aD ((X6.out.ty).bW jv.out.1 (by decide));refine ⟨fun _=>Gu,?_⟩;refine aC ?_;have HX:=aD (oq TA T5 tc d5 p.T t w8 Yt.out.ty.eY HTt.out.ty.eY (by have:=Gs.out.2;have:=fH.out.tl;omega));refine bD 8 (some 79) rfl rfl (by kernel_rfl) (by rfl) (by go_simp) HX.out ?_;rintro e w9 ⟨A9,c9,rfl,hown,hb⟩;clear HX;have HZ:Hid (iI P es env b Y5 w9/\aS w9 Y5 R #[.slice none 0 0,.slice none 0 0] 65/\Fr Y w w9/\bP w9 Y5 A8 c8 (p::x)/\aA w9 Y5 A9 c9 (aW p.T t)):=aD ⟨jv.out.2.2.1.later hb,jv.out.2.2.2.1.below hb,jv.out.2.2.2.2.2.1.trans (Fr.below hb),jv.out.2.2.2.2.2.2.1.fr (Fr.below hb) (ah.refl _ _),aA.own hown fun q hq=>jv.out.2.2.1.lt q hq⟩;have hpt:=jv.out.2.2.2.2.1.later hb;have hbx:=(X6.out.box.eX jv.out.1 (by decide)).below hb;have CZ:SS w9:=by rw [hSS];exact ⟨hpt.cells.2.2.1,hpt.cells.2.2.2.1,hpt.cells.2.2.2.2.2.1,hpt.cells.2.2.2.2.2.2,hbx.kR.1,hbx.kR.2⟩
 refine ⟨_,rfl,CZ,?_⟩;refine aC ?_;clear hown hb hpt hbx;refine aL 9 [10] (some 80) rfl rfl ?_;have hR:=HZ.out.2.1;have r0:w9.cell? ⟨R,0,none⟩=some (.slice none 0 0):=by simp [Ck,hR.blk]
 have r1:w9.cell? ⟨R,1,none⟩=some (.slice none 0 0):=by simp [Ck,hR.blk]
 have qQ:w9.frozen? ⟨R,0,none⟩=false:=by simp [EJ,hR.blk]
 have qR:w9.frozen? ⟨R,1,none⟩=false:=by simp [EJ,hR.blk]
 clear hR;refine je 10 none (w':=?_) rfl rfl (by kernel_rfl) (by rfl) ?_ (zL (by kernel_rfl)) ?_
 rotate_left
 ·(go_simp;try with_reducible rfl)
 refine aC ?_;refine bG (by kernel_rfl) ?_ _;have HE:=aD (yA (r:=(p::x,aW p.T t,b)) (TX:=A9) (tx:=c9) HZ.out.2.2.1 H7.out.yn HZ.out.1 HZ.out.2.1 H7.out.pr H7.out.rw HZ.out.2.2.2.1 HZ.out.2.2.2.2 jv.out.2.2.2.2.2.2.2);go_wp2_with fail;obtain ⟨wy,bN⟩:∃wy,wy=set2 w9 R (.slice A8 ((p::x):List Pt).length c8) (.slice A9 ((aW p.T t):List Nd).length c9):=⟨_,rfl⟩;have HE2:Hid (bU P es env Y ((p::x),(aW p.T t),b) w (.returned (.agg #[.slice A8 ((p::x):List Pt).length c8,.slice A9 ((aW p.T t):List Nd).length c9])) wy/\wy.cell? ⟨R,0,none⟩=some (.slice A8 ((p::x):List Pt).length c8)/\wy.cell? ⟨R,1,none⟩=some (.slice A9 ((aW p.T t):List Nd).length c9)):=aD (by rw [bN];exact HE.out);unfold set2 at bN
 first|rw [<-bN]|(rw [mX] at bN;rw [<-bN])
 have q0:=HE2.out.2.1;have q1:=HE2.out.2.2;refine bodyPost_ret (v:=.agg #[.slice A8 ((p::x):List Pt).length c8,.slice A9 ((aW p.T t):List Nd).length c9]) (by simp [results,Tryz.results53,go_sem,q0,q1]) rfl HE2.out.1
structure pK (P:Nat) (es:List Pt) (env:Env) (a:Nat) (Y0:Nat->Prop) (w0:World) (R B:Nat) (p:Pt) (TA:Option Addr) (tc:Nat) (UA:Option Addr) (uc:Nat) (Y:Nat->Prop) (w:World):Prop where
 fr:Fr Y0 w0 w
 yn:ah Y0 Y w0
 wk:iI P es env a Y w
 pt:aO w Y B p TA tc UA uc
 res:aS w Y R #[.slice none 0 0,.slice none 0 0] 65
 pr:P<w0.heap.size
 rw:w0.heap.size<=R
section
variable {P a a':Nat} {es:List Pt} {env:Env} {Y0 Y Y':Nat->Prop} {w0 w w':World} {R B:Nat} {p:Pt} {TA UA:Option Addr} {tc uc:Nat}
theorem pK.step (h:pK P es env a Y0 w0 R B p TA tc UA uc Y w) (hf:Fr Y w w') (hy:ah Y Y' w) (hk:iI P es env a' Y' w'):pK P es env a' Y0 w0 R B p TA tc UA uc Y' w':=
 ⟨Fr.new h.fr hf h.yn,ah.trans h.yn hy h.fr.size,hk,h.pt.fr hf hy,h.res.fr hf hy,h.pr,h.rw⟩
theorem pK.later (h:pK P es env a Y0 w0 R B p TA tc UA uc Y w) (hb:Below w.heap.size w w'):pK P es env a Y0 w0 R B p TA tc UA uc Y w':=h.step (Fr.below hb) (ah.refl _ _) (h.wk.later hb)
theorem pK.done (h:pK P es env a Y0 w0 R B p TA tc UA uc Y w) {r:dV} {A TX:Option Addr} {c tx:Nat} (ha:r.2.2=a) (hx:bP w Y A c r.1) (ht:aA w Y TX tx r.2.1) (hA:∀a,A=some a->w0.heap.size<=a.block):
  bU P es env Y0 r w0 (.returned (.agg #[.slice A r.1.length c,.slice TX r.2.1.length tx])) (set2 w R (.slice A r.1.length c) (.slice TX r.2.1.length tx))/\
   (set2 w R (.slice A r.1.length c) (.slice TX r.2.1.length tx)).cell? ⟨R,0,none⟩=some (.slice A r.1.length c)/\(set2 w R (.slice A r.1.length c) (.slice TX r.2.1.length tx)).cell? ⟨R,1,none⟩=some (.slice TX r.2.1.length tx):=
 EI h.fr h.yn (by rw [ha];exact h.wk) h.res (by have:=h.pr;have:=h.rw;omega) h.rw hx ht hA
theorem pK.jF (h:pK P es env a Y0 w0 R B p TA tc UA uc Y w):w.cell? ⟨R,0,none⟩=some (.slice none 0 0)/\w.cell? ⟨R,1,none⟩=some (.slice none 0 0)/\w.frozen? ⟨R,0,none⟩=false/\w.frozen? ⟨R,1,none⟩=false:=
 ⟨by simp [Ck,h.res.blk],by simp [Ck,h.res.blk],by simp [EJ,h.res.blk],by simp [EJ,h.res.blk]⟩
theorem aO.av (h:aO w Y B p TA tc UA uc):w.cell? ⟨B,0,none⟩=some (.int .i64 p.k)/\w.cell? ⟨B,1,none⟩=some (.string p.lb)/\w.cell? ⟨B,2,none⟩=some (.string p.nm)/\w.cell? ⟨B,3,none⟩=some (.string p.bd)/\w.cell? ⟨B,4,none⟩=some (.int .i64 p.mn)/\w.cell? ⟨B,5,none⟩=some (.int .i64 p.num)/\
  w.cell? ⟨B,6,none⟩=some (.slice TA p.T.length tc)/\w.cell? ⟨B,7,none⟩=some (.slice UA p.U.length uc):=
 ⟨by simp [Ck,h.blk],by simp [Ck,h.blk],by simp [Ck,h.blk],by simp [Ck,h.blk],by simp [Ck,h.blk],by simp [Ck,h.blk],by simp [Ck,h.blk],by simp [Ck,h.blk]⟩
theorem pK.new (h:iI P es env a Y w) (hT:aA w Y TA tc p.T) (hU:aA w Y UA uc p.U) {w1 w2:World} (h1:w1=w.alloc (.cells #[.int .i64 p.k,.string p.lb,.string p.nm,.string p.bd,.int .i64 p.mn,.int .i64 p.num,.slice TA p.T.length tc,.slice UA p.U.length uc] 33)) (h2:w2=w1.alloc (.cells #[.slice none 0 0,.slice none 0 0] 65)):
  pK P es env a Y w (w.heap.size+1) w.heap.size p TA tc UA uc Y w2:=by
 have hlt:=h.lt;have hz:w1.heap.size=w.heap.size+1:=by rw [h1];exact Er _ _
 have hb1:Below w.heap.size w w1:=by rw [h1];exact aj (aF _ _) _
 have hb2:Below w1.heap.size w1 w2:=by rw [h2];exact aj (aF _ _) _
 have hb:Below w.heap.size w w2:=au hb1 hb2;refine ⟨Fr.below hb,ah.refl _ _,h.later hb,?_,?_,hlt P h.yP,Nat.le_succ _⟩
 ·have h5:=aO.new (w:=w) hlt hT hU
  rw [<-h1] at h5;exact h5.later hb2
 ·rw [h2,<-hz]
  exact aS.new (fun q hq=>Nat.lt_of_lt_of_le (hlt q hq) hb1.size) _ _
theorem JY (w:World) (p:Pt) (TA UA:Option Addr) (tc uc:Nat):gV (w.alloc (.cells #[.int .i64 p.k,.string p.lb,.string p.nm,.string p.bd,.int .i64 p.mn,.int .i64 p.num,.slice TA p.T.length tc,.slice UA p.U.length uc] 33)) w.heap.size (some ⟨w.heap.size,0,none⟩) 1 [⟨p.k,p.lb,p.nm,p.bd,p.mn,p.num,TA,p.T.length,tc,UA,p.U.length,uc⟩]:=
 ⟨rfl,.inr ⟨w.heap.size,1,_,rfl,aG _,heap_alloc_new _ _,aG _,by simp [maxLen],rfl,rfl⟩⟩
theorem JZ (hT:aA w Y TA tc p.T) (hU:aA w Y UA uc p.U):dO w Y [⟨p.k,p.lb,p.nm,p.bd,p.mn,p.num,TA,p.T.length,tc,UA,p.U.length,uc⟩] [p]:=dO.cons ⟨rfl,rfl,rfl,rfl,rfl,rfl,rfl,rfl,hT,hU⟩ dO.nil
theorem nO (hlt:∀q,Y q->q<w.heap.size) (hT:aA w Y TA tc p.T) (hU:aA w Y UA uc p.U):bP (w.alloc (.cells #[.int .i64 p.k,.string p.lb,.string p.nm,.string p.bd,.int .i64 p.mn,.int .i64 p.num,.slice TA p.T.length tc,.slice UA p.U.length uc] 33)) Y (some ⟨w.heap.size,0,none⟩) 1 [p]:=by
 have hb:Below w.heap.size w (w.alloc (.cells #[.int .i64 p.k,.string p.lb,.string p.nm,.string p.bd,.int .i64 p.mn,.int .i64 p.num,.slice TA p.T.length tc,.slice UA p.U.length uc] 33)):=aj (aF _ _) _;refine ⟨_,uJ.S9 (JY w p TA UA tc uc) fun a ha h5=>?_,JZ (hT.later hb) (hU.later hb),aG _⟩;injection ha with ha
 rw [<-ha] at h5;exact Nat.lt_irrefl _ (hlt _ h5)
end
end Go.Proofs.YtmjdhfbnmmdjiaaGreat
