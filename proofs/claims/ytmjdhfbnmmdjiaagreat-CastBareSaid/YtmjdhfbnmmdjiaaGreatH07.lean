/- Laid together by a tool from the texts of this seat: ChM ChN RowA. Conditions: each theorem's own. -/
import Derived.Test.YtmjdhfbnmmdjiaaGreatH06
import Derived.Test.YtmjdhfbnmmdjiaaGreatH05
import Derived.BigQuiet
import Derived.Laws.EntriesVeiled
set_option maxHeartbeats 8000000
set_option maxRecDepth 100000
namespace Go.Proofs.YtmjdhfbnmmdjiaaGreat
open Go.Lib renaming hid->aB
open Go.World renaming cell?->DI,size_alloc->FT,frozen?->Gb,setCell->Js
open _root_.Nat renaming le_trans->vV,le_refl->aK
open _root_.And renaming intro->DF
open _root_.List renaming length_cons->oG,length_append->lS,length->sI,drop_eq_nil_of_le->JU,append_assoc->kV
open Go.RowKit.Below renaming refl->aI,heap_alloc->FW,heap_setCell->IX
open Go.Value renaming slice->gq
open Go.RowKit
theorem Wp:∀args w,(callFunc 138 args).run Tryz.prog w= .ok (.enter 138 args) w:=by
 intro args w
 kernel_rfl
structure mH (bo bd pa pb:Nat) (A B:Option Addr) (c d:Nat) (a b:List Nd) (lo:Nat) (OA:Option Addr) (oc:Nat) (OUT:List Nd) (dn:Nat) (w:World):Prop where
 co:w.heap[bo]?=some (.cells #[.slice OA OUT.length oc] 28 (0,0))
 cd:w.heap[bd]?=some (.cells #[.int .i64 (dn:Int)] 3 (0,0))
 ca:w.heap[pa]?=some (.cells #[.slice A a.length c] 28 (0,0))
 cb:w.heap[pb]?=some (.cells #[.slice B b.length d] 28 (0,0))
 own:dF w lo OA oc OUT
 lo:lo<=w.heap.size
structure DV (bo bd pa pb base lo:Nat):Prop where
 o:base<=bo/\bo<lo
 d:base<=bd/\bd<lo
 a:base<=pa/\pa<lo
 b:base<=pb/\pb<lo
 od:bo≠bd
 oa:bo≠pa
 ob:bo≠pb
 da:bd≠pa
 db:bd≠pb
def mI (bo bd:Nat) (OA:Option Addr) (q:Nat):Prop:=q=bo\/q=bd\/∃p,OA=some p/\p.block=q
section
variable {bo bd pa pb base lo:Nat} {A B:Option Addr} {c d:Nat} {a b:List Nd} {OA:Option Addr} {oc:Nat} {OUT:List Nd} {dn:Nat} {w w':World}
theorem mH.later (h:mH bo bd pa pb A B c d a b lo OA oc OUT dn w) (k:DV bo bd pa pb base lo) (hb:Below w.heap.size w w'):mH bo bd pa pb A B c d a b lo OA oc OUT dn w':=by
 have:=h.lo;have:=k.o.2;have:=k.d.2;have:=k.a.2;have:=k.b.2;exact ⟨(hb.block _ (by omega)).trans h.co,(hb.block _ (by omega)).trans h.cd,(hb.block _ (by omega)).trans h.ca,(hb.block _ (by omega)).trans h.cb,h.own.below hb (aK _),vV h.lo hb.size⟩
theorem mH.cells (h:mH bo bd pa pb A B c d a b lo OA oc OUT dn w):w.cell? ⟨bo,0,none⟩=some (.slice OA OUT.length oc)/\w.cell? ⟨bd,0,none⟩=some (.int .i64 (dn:Int))/\w.cell? ⟨pa,0,none⟩=some (.slice A a.length c)/\w.cell? ⟨pb,0,none⟩=some (.slice B b.length d):=
 ⟨by simp [DI,h.co],by simp [DI,h.cd],by simp [DI,h.ca],by simp [DI,h.cb]⟩
theorem mH.frozen (h:mH bo bd pa pb A B c d a b lo OA oc OUT dn w):w.frozen? ⟨bo,0,none⟩=false/\w.frozen? ⟨bd,0,none⟩=false:=
 ⟨by simp [Gb,h.co],by simp [Gb,h.cd]⟩
theorem mH.app (h:mH bo bd pa pb A B c d a b lo OA oc OUT dn w) (k:DV bo bd pa pb base lo) {A7:Option Addr} {DW:Nat} {l2:List Nd} {w7:World} (hown:dF w7 lo A7 DW (OUT++l2)) (hg:w.grownBy w7 ((gq OA OUT.length oc).ownBlock))
  (hA:(gq A7 (OUT.length+l2.length) DW).ownBlock=(gq OA OUT.length oc).ownBlock\/(gq A7 (OUT.length+l2.length) DW).ownBlock=some w.heap.size):
  mH bo bd pa pb A B c d a b lo A7 DW (OUT++l2) dn (w7.setCell ⟨bo,0,none⟩ (.slice A7 (OUT.length+l2.length) DW))/\Fr (mI bo bd OA) w (w7.setCell ⟨bo,0,none⟩ (.slice A7 (OUT.length+l2.length) DW))/\
   (∀q,mI bo bd A7 q->mI bo bd OA q\/w.heap.size<=q)/\mH bo bd pa pb A B c d a b lo OA oc OUT dn w/\
   w7.cell? ⟨bo,0,none⟩=some (.slice OA OUT.length oc)/\w7.cell? ⟨bd,0,none⟩=some (.int .i64 (dn:Int))/\w7.cell? ⟨pa,0,none⟩=some (.slice A a.length c)/\w7.cell? ⟨pb,0,none⟩=some (.slice B b.length d)/\w7.frozen? ⟨bo,0,none⟩=false:=by
 have hlo:=h.lo;have k1:=k.o.2;have k2:=k.d.2;have k3:=k.a.2;have k4:=k.b.2
 have off:∀q,q<lo->¬(gq OA OUT.length oc).ownBlock=some q:=fun q hq e=>by
  have:=(ay.block h.own q e).1;omega
 have bk:∀q,q<lo->w7.heap[q]?=w.heap[q]?:=fun q hq=>hg.block q (by omega) fun e=>off q hq e.symm;have bo7:=(bk bo k1).trans h.co;have bd7:=(bk bd k2).trans h.cd;have ba7:=(bk pa k3).trans h.ca;have bb7:=(bk pb k4).trans h.cb;have hne:∀q,q≠bo->∀u:Value,(w7.setCell ⟨bo,0,none⟩ u).heap[q]?=w7.heap[q]?:=fun q hq u=>IX _ _ _ _ hq;refine ⟨⟨?_,?_,?_,?_,?_,?_⟩,?_,?_,h,by simp [DI,bo7],by simp [DI,bd7],by simp [DI,ba7],by simp [DI,bb7],by simp [Gb,bo7]⟩
 ·have:=heap_set bo7 0 (.slice A7 (OUT.length+l2.length) DW)
  rw [this,lS];rfl
 ·rw [hne _ (Ne.symm k.od)];exact bd7
 ·rw [hne _ (Ne.symm k.oa)];exact ba7
 ·rw [hne _ (Ne.symm k.ob)];exact bb7
 ·exact ay.fr (Y:=fun q=>q=bo) hown (Fr.setCell (X:=fun q=>q=bo) (Fr.refl _ _) (.inl rfl) _) fun p hp e=>by
   have:=(ay.lt hown p hp).1;omega
 ·have:=hg.size
  simp [Js];omega
 ·refine Fr.setCell (Fr.grown hg fun q e=>?_) (.inl (.inl rfl)) _
  obtain ⟨p,hp,hb⟩:=bL e;exact .inr (.inr ⟨p,hp,hb⟩)
 ·rintro q (e|e|⟨p,hp,hb⟩)
  ·exact .inl (.inl e)
  ·exact .inl (.inr (.inl e))
  ·subst hp
   rcases hA with e|e
   ·obtain ⟨p2,hp2,hb2⟩:=bL e.symm
    exact .inl (.inr (.inr ⟨p2,hp2,hb2.trans hb⟩))
   ·simp [Value.ownBlock] at e
    exact .inr (by omega)
theorem mH.put (h:mH bo bd pa pb A B c d a b lo OA oc OUT dn w) (k:DV bo bd pa pb base lo) (n:Nat):
  mH bo bd pa pb A B c d a b lo OA oc OUT n (w.setCell ⟨bd,0,none⟩ (.int .i64 (n:Int)))/\Fr (mI bo bd OA) w (w.setCell ⟨bd,0,none⟩ (.int .i64 (n:Int))):=by
 have hne:∀q,q≠bd->∀u:Value,(w.setCell ⟨bd,0,none⟩ u).heap[q]?=w.heap[q]?:=fun q hq u=>IX _ _ _ _ hq;refine ⟨⟨?_,?_,?_,?_,?_,?_⟩,Fr.setCell (Fr.refl _ _) (.inl (.inr (.inl rfl))) _⟩
 ·rw [hne _ k.od];exact h.co
 ·exact heap_set h.cd 0 _
 ·rw [hne _ (Ne.symm k.da)];exact h.ca
 ·rw [hne _ (Ne.symm k.db)];exact h.cb
 ·exact ay.fr (Y:=fun q=>q=bd) h.own (Fr.setCell (X:=fun q=>q=bd) (Fr.refl _ _) (.inl rfl) _) fun p hp e=>by
   have:=(ay.lt h.own p hp).1;have:=k.d.2;omega
 ·have:=h.lo
  simp [Js];omega
end
structure acw (bo bd pa pb:Nat) (A B:Option Addr) (c d:Nat) (a b:List Nd) (lo:Nat) (Y:Nat->Prop) (M:List Nd) (i k:Nat) (w:World) (OA:Option Addr) (oc:Nat) (OUT:List Nd) (dn:Nat):Prop where
 m:mH bo bd pa pb A B c d a b lo OA oc OUT dn w
 di:dn<=i
 il:i<=a.length
 all:M=OUT++(a.take i).drop dn
 few:M.length<=i+k
 y:∀q,Y q↔mI bo bd OA q
def Bt (bo bd pa pb:Nat) (A B:Option Addr) (c d:Nat) (a b:List Nd) (lo:Nat) (Y:Nat->Prop) (M:List Nd) (i k:Nat) (w:World):Prop:=∃OA oc OUT dn,acw bo bd pa pb A B c d a b lo Y M i k w OA oc OUT dn
theorem take_drop_succ {a:List Nd} {i dn:Nat} {x:Nd} (h:a[i]?=some x) (hd:dn<=i):(a.take (i+1)).drop dn=(a.take i).drop dn++[x]:=by
 have hi:=aP h;rw [List.take_add_one,h,Option.toList_some,List.drop_append_of_le_length (by simp;omega)]
theorem xY {a ts r:List Nd} {i:Nat} (h:a.drop i=ts++r):(a.take (i+ts.length)).drop i=ts:=by
 rw [List.drop_take,h,Nat.add_sub_cancel_left,List.take_left]
theorem KS {a ts r:List Nd} {i:Nat} (h:a.drop i=ts++r) (hp:0<ts.length):i+ts.length<=a.length:=by
 have:=congrArg sI h;rw [List.length_drop,lS] at this;omega
theorem R6 (bo bd pa pb base lo:Nat) (A B:Option Addr) (c d:Nat) (a b:List Nd) (hO:DV bo bd pa pb base lo) (hla:a.length<=1000000000) (hlb:b.length<=1000000000) (hc:a.length<=c) (hd:b.length<=d)
  (Y:Nat->Prop) (M:List Nd) (i k:Nat) (ts us r s:List Nd) (w:World) (hda:a.drop i=ts++r) (hdb:b.drop k=us++s) (hoa:bC ts) (YV:bC us) (h1:Fo 1 ts) (h2:Fo 1 us) (hA:bJ w base A a) (hB:bJ w base B b) (hbw:base<=w.heap.size) (hS:Bt bo bd pa pb A B c d a b lo Y M i k w):
  Calls Tryz.prog 138 (#[.int .i64 i,.int .i64 k]++#[.pointer (some ⟨bo,0,none⟩),.pointer (some ⟨pa,0,none⟩),.pointer (some ⟨bd,0,none⟩),.pointer (some ⟨pb,0,none⟩)]) w
   fun e w'=>e= .returned (.bool true)/\Fr Y w w'/\∃Y',Bt bo bd pa pb A B c d a b lo Y' (M++if (aD us).k=0 then ts else us) (i+ts.length) (k+us.length) w'/\∀q,Y' q->Y q\/w.heap.size<=q:=by
 obtain ⟨OA,oc,OUT,dn,S0⟩:=hS;rcases us with _|⟨y,yt⟩
 ·exact absurd h2.pos (by simp)
 have hlt:=KS hda h1.pos;have hlu:=KS hdb h2.pos;have hpt:=h1.pos;have hy:b[k]?=some y:=jP hdb;obtain ⟨x,hx⟩:=aJ (l:=a) (i:=i) (by omega);obtain ⟨b1,o1,eA,hb1,c10,c11,c12⟩:=hA.at_ hx;obtain ⟨b2,o2,eB,hb2,c20,c21,JW⟩:=hB.at_ hy;subst eA eB;have hdi:=S0.di;have hil:=S0.il
 have hOL:OUT.length+(i-dn)<=i+k:=by
  have:=S0.few;rw [S0.all,lS,lD S0.il] at this;exact this
 have H:=aB S0;have HA:=aB (DF hA hB);have HD:=aB (DF hda (DF hdb (DF hoa (DF YV (DF h1 h2)))));have HY:=aB hy;have HO:=aB hO;clear hda hdb hoa YV h1 h2 hA hB S0 hO hx hy c10 c11 c12 c20 c21 JW;simp only [oG] at hlu;go_enter Tryz.func138,Tryz.ntmps138;go_upto_region 1 with fail
 have hcc:i<=c:=by omega
 have hdc:dn<c:=by omega
 have hii:i<c:=by omega
 have hic:i+ts.length<=c:=by omega
 have hkk:k+(yt.length+1)<=d:=by omega
 have hkd:k<d:=by omega
 obtain ⟨ie,hie⟩:∃ie,ie=i+ts.length:=⟨_,rfl⟩;have aqg:i<=ie:=by omega
 have aqh:ie<=c:=by omega
 obtain ⟨ke,hke⟩:∃ke,ke=k+(y::yt).length:=⟨_,rfl⟩;have aqi:ie<=a.length:=by omega
 have aqj:ke<=b.length:=by rw [hke];simp only [oG];omega
 have aqk:k<=ke:=by omega
 have hke2:ke<=d:=by rw [hke];simp only [oG];omega
 have Wq:=aB hie;have Ws:=aB hke;clear hie hke;obtain ⟨on,hon⟩:∃on,on=OUT.length:=⟨_,rfl⟩;obtain ⟨SS,hSS⟩:∃SS:World->Prop,SS=fun v=>v.cell? ⟨bo,0,none⟩=some (.slice OA on oc)/\v.cell? ⟨bd,0,none⟩=some (.int .i64 (dn:Int))/\v.cell? ⟨pa,0,none⟩=some (.slice (some ⟨b1,o1,none⟩) a.length c)/\v.cell? ⟨pb,0,none⟩=some (.slice (some ⟨b2,o2,none⟩) b.length d):=⟨_,rfl⟩;obtain ⟨wd,hwd⟩:∃wd,wd=w.drew:=⟨_,rfl⟩;have bM:Hid (Below w.heap.size w wd):=aB (by rw [hwd];exact (aI _ _).drew);have mY:=aB (H.out.m.later HO.out bM.out);have hsd:SS wd:=by rw [hSS,hon];exact mY.out.cells
 refine aG (S:=SS) [6] (by kernel_rfl) (by rw [<-hwd];exact hsd) (fun hHeld=>?_);rw [<-hwd] at hHeld ⊢;clear hwd;refine aM 0 [5,6] (some 9) rfl rfl ?_;refine aM 1 [4,5,6] (some 10) rfl rfl ?_;refine aM 2 [4,5,6] (some 11) rfl rfl ?_;refine aM 3 [4,5,6] (some 12) rfl rfl ?_;refine aM 4 [5,6] (some 13) rfl rfl ?_;refine aA ?_
 have HT1:Hid (bJ wd base (if c=dn then some ⟨b1,o1,none⟩ else some ⟨b1,o1+dn*3,none⟩) ((a.take i).drop dn)):=aB (by
  rw [if_neg (by omega)];exact (HA.out.1.below (bM.out.mono hbw)).sub dn i)
 refine dO 5 rfl (by kernel_rfl) (by rfl) ?_;refine yQ (.tmp 9) (.tmp 13) (by rfl) lo (m:=OUT.length) (n:=i-dn) rfl (by rfl) mY.out.own (lD hil) (by rfl) HT1.out (by omega) mY.out.lo (some 14) rfl ?_;intro A7 DW w7 nQ tY Zc;have K7:=aB (mY.out.app HO.out nQ tY Zc);have SS7:SS w7:=by rw [hSS,hon];exact ⟨K7.out.2.2.2.2.1,K7.out.2.2.2.2.2.1,K7.out.2.2.2.2.2.2.1,K7.out.2.2.2.2.2.2.2.1⟩
 clear nQ tY Zc;refine ⟨fun _=>SS7,?_⟩;refine aA ?_;have kf:=K7.out.2.2.2.2.2.2.2.2;have ka:=K7.out.2.2.2.2.1;refine jl 6 none (w':=?_) rfl rfl (by kernel_rfl) (by rfl) ?_ (zL (by kernel_rfl)) ?_
 rotate_left
 ·(go_simp;try with_reducible rfl)
 refine aA ?_;refine bB (by kernel_rfl) ?_ _;clear kf ka SS7 hHeld hsd;obtain ⟨w8,hw8⟩:∃w8,w8=w7.setCell ⟨bo,0,none⟩ (.slice A7 (OUT.length+(i-dn)) DW):=⟨_,rfl⟩;rw [<-hw8]
 have w_:Hid (mH bo bd pa pb (some ⟨b1,o1,none⟩) (some ⟨b2,o2,none⟩) c d a b lo A7 DW (OUT++(a.take i).drop dn) dn w8/\Fr (mI bo bd OA) w w8/\(∀q,mI bo bd A7 q->mI bo bd OA q\/w.heap.size<=q)):=aB (by
  have h1:=K7.out.1;have h2:=K7.out.2.1;rw [lD hil,<-hw8] at h1 h2
  exact ⟨h1,(Fr.below bM.out).trans h2,fun q hq=>by
   rcases K7.out.2.2.1 q hq with h|h
   ·exact .inl h
   ·exact .inr (vV bM.out.size h)⟩)
 have uN:Hid ((OUT++(a.take i).drop dn).length=OUT.length+(i-dn)):=aB (by rw [lS,lD hil]);clear hw8
 have hY8:∀q,mI bo bd OA q->base<=q:=fun q hq=>by
  rcases hq with e|e|⟨p,hp,hb⟩
  ·have:=HO.out.o;omega
  ·have:=HO.out.d;omega
  ·have:=(ay.lt H.out.m.own p hp).1
   have:=HO.out.o;omega
 have HW8:Hid (∀v,Below w8.heap.size w8 v->bJ v base (some ⟨b1,o1,none⟩) a/\bJ v base (some ⟨b2,o2,none⟩) b/\base<=v.heap.size):=aB fun v hv=>by
  have hz:=w_.out.2.1.size;have hbb:Below base w v:=⟨hv.os.trans w_.out.2.1.os,hv.tape.trans w_.out.2.1.tape,hv.output.trans w_.out.2.1.output,vV hz hv.size,fun q hq=>(hv.block q (by omega)).trans (w_.out.2.1.block q (by omega) fun e=>by have:=hY8 q e;omega)⟩;exact ⟨HA.out.1.below hbb,HA.out.2.below hbb,vV hbw hbb.size⟩
 obtain ⟨Wt,Wu,Wv,Ww⟩:=w_.out.1.cells;have R7:=w_.out.1.frozen.2;have uW:=aB (qK (some ⟨b1,o1,none⟩) c a ts r i w8 (((HW8.out w8 (aI _ _)).1).more (HW8.out w8 (aI _ _)).2.2) hla HD.out.1 HD.out.2.2.1 HD.out.2.2.2.2.1);rw [<-Wq.out] at uW;clear hY8;go_wp2_with fail;refine uW.out.mono ?_;rintro e w9 ⟨rfl,xg⟩;clear Wt Wu Wv Ww R7;have Zd:=aB (w_.out.1.later HO.out xg);have HW9:Hid (∀v,Below w9.heap.size w9 v->bJ v base (some ⟨b1,o1,none⟩) a/\bJ v base (some ⟨b2,o2,none⟩) b/\base<=v.heap.size):=aB fun v hv=>HW8.out v (ah xg hv);have pK:=aB xg;obtain ⟨Wt,Wu,Wv,Ww⟩:=Zd.out.cells;have R7:=Zd.out.frozen.2;clear xg;go_upto_region 3 with fail
 obtain ⟨cK,CB⟩:∃cK,cK=w9.setCell ⟨bd,0,none⟩ (.int .i64 (ie:Int)):=⟨_,rfl⟩;rw [<-CB]
 have yR:Hid (mH bo bd pa pb (some ⟨b1,o1,none⟩) (some ⟨b2,o2,none⟩) c d a b lo A7 DW (OUT++(a.take i).drop dn) ie cK/\Fr (mI bo bd OA) w cK):=aB (by
  have h1:=Zd.out.put HO.out ie;rw [<-CB] at h1;exact ⟨h1.1,Fr.new (w_.out.2.1.trans (Fr.below pK.out)) h1.2 w_.out.2.2⟩)
 have adW:∀q,mI bo bd OA q->base<=q:=fun q hq=>by
  rcases hq with e|e|⟨p,hp,hb⟩
  ·have:=HO.out.o;omega
  ·have:=HO.out.d;omega
  ·have:=(ay.lt H.out.m.own p hp).1
   have:=HO.out.o;omega
 have Pp:Hid (∀v,Below cK.heap.size cK v->bJ v base (some ⟨b1,o1,none⟩) a/\bJ v base (some ⟨b2,o2,none⟩) b/\base<=v.heap.size):=aB fun v hv=>by
  have hz:=yR.out.2.size;have hbb:Below base w v:=⟨hv.os.trans yR.out.2.os,hv.tape.trans yR.out.2.tape,hv.output.trans yR.out.2.output,vV hz hv.size,fun q hq=>(hv.block q (by omega)).trans (yR.out.2.block q (by omega) fun e=>by have:=adW q e;omega)⟩;exact ⟨HA.out.1.below hbb,HA.out.2.below hbb,vV hbw hbb.size⟩
 clear CB adW Wt Wu Wv Ww R7;obtain ⟨Wt,Wu,Wv,Ww⟩:=yR.out.1.cells;obtain ⟨_,_,eB,_,c20,c21,JW⟩:=(Pp.out cK (aI _ _)).2.1.at_ HY.out;injection eB with eB
 injection eB with eB1 eB2 _
 subst eB1 eB2
 have Ze:Hid (∀(zs:List Nd) A9 yh v,mH bo bd pa pb (some ⟨b1,o1,none⟩) (some ⟨b2,o2,none⟩) c d a b lo A9 yh ((OUT++(a.take i).drop dn)++zs) ie v->Fr (mI bo bd OA) w v->(∀q,mI bo bd A9 q->mI bo bd OA q\/w.heap.size<=q)->zs.length<=ts.length+(yt.length+1)->zs=(if y.k=0 then ts else y::yt)->
   Fr Y w v/\∃Y',Bt bo bd pa pb (some ⟨b1,o1,none⟩) (some ⟨b2,o2,none⟩) c d a b lo Y' (M++if (aD (y::yt)).k=0 then ts else y::yt) (i+ts.length) (k+(y::yt).length) v/\∀q,Y' q->Y q\/w.heap.size<=q):=aB (by
  intro zs A9 yh v hm hf hy hz he;refine ⟨hf.mono fun q hq=>(H.out.y q).2 hq,mI bo bd A9,⟨A9,yh,_,_,hm,Nat.le_of_eq Wq.out,hlt,?_,?_,fun q=>Iff.rfl⟩,fun q hq=>?_⟩
  ·rw [show (aD (y::yt)).k=y.k from rfl,<-he,show (a.take (i+ts.length)).drop ie=[] from JU (by rw [Wq.out];simp;omega),List.append_nil,H.out.all,kV]
  ·rw [show (aD (y::yt)).k=y.k from rfl,<-he,lS]
   have:=H.out.few;simp only [oG];omega
  ·rcases hy q hq with h|h
   ·exact .inl ((H.out.y q).2 h)
   ·exact .inr h)
 by_cases hy0:y.k=0
 ·have bY:(y.k==0)=true:=by simp [hy0]
  go_upto_region 4 with fail
  obtain ⟨SS,hSS⟩:∃SS:World->Prop,SS=fun v=>v.cell? ⟨bo,0,none⟩=some (.slice A7 (OUT++(a.take i).drop dn).length DW)/\v.cell? ⟨bd,0,none⟩=some (.int .i64 (ie:Int))/\v.cell? ⟨pa,0,none⟩=some (.slice (some ⟨b1,o1,none⟩) a.length c)/\v.cell? ⟨pb,0,none⟩=some (.slice (some ⟨b2,o2,none⟩) b.length d):=⟨_,rfl⟩;obtain ⟨we,j_⟩:∃we,we=cK.drew:=⟨_,rfl⟩;have jF:Hid (Below cK.heap.size cK we):=aB (by rw [j_];exact (aI _ _).drew);have Al:=aB (yR.out.1.later HO.out jF.out);have hse:SS we:=by rw [hSS];exact Al.out.cells
  clear Wt Wu Wv Ww c20 c21 JW;refine aG (S:=SS) [6] (by kernel_rfl) (by rw [<-j_];exact hse) (fun hHeld=>?_);rw [<-j_] at hHeld ⊢;clear j_;refine aM 0 [5,6] (some 24) rfl rfl ?_;refine aM 1 [4,5,6] (some 25) rfl rfl ?_;refine aM 2 [4,5,6] (some 26) rfl rfl ?_;refine aM 3 [4,5,6] (some 27) rfl rfl ?_;refine aM 4 [5,6] (some 28) rfl rfl ?_;refine aA ?_
  have HT2:Hid (bJ we base (if c=i then some ⟨b1,o1,none⟩ else some ⟨b1,o1+i*3,none⟩) ((a.take ie).drop i)):=aB (by
   rw [if_neg (by omega)];exact (Pp.out we jF.out).1.sub i ie)
  refine dO 5 rfl (by kernel_rfl) (by rfl) ?_;refine yQ (.tmp 24) (.tmp 28) (by rfl) lo (m:=OUT.length+(i-dn)) (n:=(ie-i)) uN.out (by rfl) Al.out.own (lD (by omega)) (by rfl) HT2.out (by omega) Al.out.lo (some 29) rfl ?_;intro A9 yh fJ jK oM JZ;have K9:=aB (Al.out.app HO.out jK oM JZ);have Zf:SS fJ:=by rw [hSS];exact ⟨K9.out.2.2.2.2.1,K9.out.2.2.2.2.2.1,K9.out.2.2.2.2.2.2.1,K9.out.2.2.2.2.2.2.2.1⟩
  clear jK oM JZ;refine ⟨fun _=>Zf,?_⟩;refine aA ?_;have kf:=K9.out.2.2.2.2.2.2.2.2;have ka:=K9.out.2.2.2.2.1;refine jl 6 none (w':=?_) rfl rfl (by kernel_rfl) (by rfl) ?_ (zL (by kernel_rfl)) ?_
  rotate_left
  ·(go_simp;try with_reducible rfl)
  refine aA ?_;refine bB (by kernel_rfl) ?_ _;clear kf ka Zf hHeld hse;obtain ⟨fU,GI⟩:∃fU,fU=fJ.setCell ⟨bo,0,none⟩ (.slice A9 (OUT.length+(i-dn)+(ie-i)) yh):=⟨_,rfl⟩
  have HP:Hid (Fr Y w fU/\∃Y',Bt bo bd pa pb (some ⟨b1,o1,none⟩) (some ⟨b2,o2,none⟩) c d a b lo Y' (M++if (aD (y::yt)).k=0 then ts else y::yt) (i+ts.length) (k+(y::yt).length) fU/\∀q,Y' q->Y q\/w.heap.size<=q):=aB (by
   have h1:=K9.out.1;have h2:=K9.out.2.1;have h3:=K9.out.2.2.1;have hl:((a.take ie).drop i).length=(ie-i):=(lD (by omega));rw [hl,uN.out,<-GI] at h1 h2;have hfw:Fr (mI bo bd OA) w we:=yR.out.2.trans (Fr.below jF.out);refine Ze.out _ A9 yh fU h1 (Fr.new hfw h2 w_.out.2.2) (fun q hq=>?_) (by rw [hl];first|(rw [Wq.out];omega)|(rw [Ws.out];simp only [oG];omega)) (by rw [Wq.out,xY HD.out.1];simp [hy0]);rcases h3 q hq with h|h
   ·exact w_.out.2.2 q h
   ·exact .inr (vV hfw.size h))
  rw [<-GI];clear GI;go_wp2_with fail;go_ret;have hp:=HP.out;simp only [show (aD (y::yt)).k=y.k from rfl,hy0,if_true,oG] at hp;exact ⟨rfl,hp⟩
 ·have bY:(y.k==0)=false:=by simp [hy0]
  go_upto_region 6 with fail
  obtain ⟨SS,hSS⟩:∃SS:World->Prop,SS=fun v=>v.cell? ⟨bo,0,none⟩=some (.slice A7 (OUT++(a.take i).drop dn).length DW)/\v.cell? ⟨bd,0,none⟩=some (.int .i64 (ie:Int))/\v.cell? ⟨pa,0,none⟩=some (.slice (some ⟨b1,o1,none⟩) a.length c)/\v.cell? ⟨pb,0,none⟩=some (.slice (some ⟨b2,o2,none⟩) b.length d):=⟨_,rfl⟩;obtain ⟨we,j_⟩:∃we,we=cK.drew:=⟨_,rfl⟩;have jF:Hid (Below cK.heap.size cK we):=aB (by rw [j_];exact (aI _ _).drew);have Al:=aB (yR.out.1.later HO.out jF.out);have hse:SS we:=by rw [hSS];exact Al.out.cells
  clear Wt Wu Wv Ww c20 c21 JW;refine aG (S:=SS) [8] (by kernel_rfl) (by rw [<-j_];exact hse) (fun hHeld=>?_);rw [<-j_] at hHeld ⊢;clear j_;refine aM 0 [7,8] (some 30) rfl rfl ?_;refine aM 1 [6,7,8] (some 31) rfl rfl ?_;refine aM 2 [6,7,8] (some 32) rfl rfl ?_;refine aM 3 [5,6,7,8] (some 33) rfl rfl ?_;refine aM 4 [5,6,7,8] (some 34) rfl rfl ?_;have Zg:=aB (qK (some ⟨b2,o2,none⟩) d b (y::yt) s k we (((Pp.out we jF.out).2.1).more (Pp.out we jF.out).2.2) hlb HD.out.2.1 HD.out.2.2.2.1 HD.out.2.2.2.2.2);rw [<-Ws.out] at Zg;refine aY 5 (some 35) rfl rfl (by kernel_rfl) (by rfl) (by kernel_rfl) Zg.out ?_;rintro e wf ⟨rfl,hbf⟩;have GJ:Hid (Below cK.heap.size cK wf):=aB (ah jF.out hbf);have HMf:=aB (yR.out.1.later HO.out GJ.out);have hsf:SS wf:=by rw [hSS];exact HMf.out.cells
  refine ⟨_,rfl,hsf,?_⟩;refine aA ?_;clear hse hbf;refine aM 6 [7,8] (some 36) rfl rfl ?_;refine aA ?_
  have HT2:Hid (bJ wf base (if d=k then some ⟨b2,o2,none⟩ else some ⟨b2,o2+k*3,none⟩) ((b.take ke).drop k)):=aB (by
   rw [if_neg (by omega)];exact (Pp.out wf GJ.out).2.1.sub k ke)
  refine dO 7 rfl (by kernel_rfl) (by rfl) ?_;refine yQ (.tmp 30) (.tmp 36) (by rfl) lo (m:=OUT.length+(i-dn)) (n:=(ke-k)) uN.out (by rfl) HMf.out.own (lD (by rw [Ws.out];simp only [oG];omega)) (by rfl) HT2.out (by omega) HMf.out.lo (some 37) rfl ?_;intro A9 yh fJ jK oM JZ;have K9:=aB (HMf.out.app HO.out jK oM JZ);have Zf:SS fJ:=by rw [hSS];exact ⟨K9.out.2.2.2.2.1,K9.out.2.2.2.2.2.1,K9.out.2.2.2.2.2.2.1,K9.out.2.2.2.2.2.2.2.1⟩
  clear jK oM JZ;refine ⟨fun _=>Zf,?_⟩;refine aA ?_;have kf:=K9.out.2.2.2.2.2.2.2.2;have ka:=K9.out.2.2.2.2.1;refine jl 8 none (w':=?_) rfl rfl (by kernel_rfl) (by rfl) ?_ (zL (by kernel_rfl)) ?_
  rotate_left
  ·(go_simp;try with_reducible rfl)
  refine aA ?_;refine bB (by kernel_rfl) ?_ _;clear kf ka Zf hHeld hsf;obtain ⟨fU,GI⟩:∃fU,fU=fJ.setCell ⟨bo,0,none⟩ (.slice A9 (OUT.length+(i-dn)+(ke-k)) yh):=⟨_,rfl⟩
  have HP:Hid (Fr Y w fU/\∃Y',Bt bo bd pa pb (some ⟨b1,o1,none⟩) (some ⟨b2,o2,none⟩) c d a b lo Y' (M++if (aD (y::yt)).k=0 then ts else y::yt) (i+ts.length) (k+(y::yt).length) fU/\∀q,Y' q->Y q\/w.heap.size<=q):=aB (by
   have h1:=K9.out.1;have h2:=K9.out.2.1;have h3:=K9.out.2.2.1;have hl:((b.take ke).drop k).length=(ke-k):=(lD (by rw [Ws.out];simp only [oG];omega));rw [hl,uN.out,<-GI] at h1 h2;have hfw:Fr (mI bo bd OA) w wf:=yR.out.2.trans (Fr.below GJ.out);refine Ze.out _ A9 yh fU h1 (Fr.new hfw h2 w_.out.2.2) (fun q hq=>?_) (by rw [hl];first|(rw [Wq.out];omega)|(rw [Ws.out];simp only [oG];omega)) (by rw [Ws.out,xY HD.out.2.1];simp [hy0]);rcases h3 q hq with h|h
   ·exact w_.out.2.2 q h
   ·exact .inr (vV hfw.size h))
  rw [<-GI];clear GI;go_wp2_with fail;go_ret;have hp:=HP.out;simp only [show (aD (y::yt)).k=y.k from rfl,hy0,if_false,oG] at hp;exact ⟨rfl,hp⟩
theorem Wx (bo bd pa pb base lo:Nat) (A B:Option Addr) (c d:Nat) (a b:List Nd) (hO:DV bo bd pa pb base lo) (hla:a.length<=1000000000) (hlb:b.length<=1000000000) (hc:a.length<=c) (hd:b.length<=d):
  Ovr 138 #[.pointer (some ⟨bo,0,none⟩),.pointer (some ⟨pa,0,none⟩),.pointer (some ⟨bd,0,none⟩),.pointer (some ⟨pb,0,none⟩)] a b A B base (Bt bo bd pa pb A B c d a b lo) where
 eg:=Wp
 low:=by
  rintro Y M i k w ⟨OA,oc,OUT,dn,h⟩ q hq;have hlo:=h.m.lo;rcases (h.y q).1 hq with e|e|⟨p,hp,hb⟩
  ·have:=hO.o;omega
  ·have:=hO.d;omega
  ·have:=ay.lt h.m.own p hp
   have:=hO.o;omega
 later:=by
  rintro Y M i k w w' ⟨OA,oc,OUT,dn,h⟩ hb;exact ⟨OA,oc,OUT,dn,h.m.later hO hb,h.di,h.il,h.all,h.few,h.y⟩
 node:=by
  rintro Y M i k x w ⟨OA,oc,OUT,dn,h⟩ hx;have:=aP hx;have:=h.di;refine ⟨OA,oc,OUT,dn,h.m,by omega,by omega,?_,?_,h.y⟩
  ·rw [h.all,take_drop_succ hx h.di,kV]
  ·have:=h.few
   rw [lS,List.length_singleton];omega
 dyn:=fun Y M i k ts us r s w h1 h2 h3 h4 h5 h6 _ h8 h9 h10 h11=>R6 bo bd pa pb base lo A B c d a b hO hla hlb hc hd Y M i k ts us r s w h1 h2 h3 h4 h5 h6 h8 h9 h10 h11
def Zh (a b:List Nd) (w:World) (e:Ending) (w':World):Prop:=
 Below w.heap.size w w'/\match met 1 a b with
  |some m=>∃A' cap',e= .returned (.tuple #[.slice A' m.length cap',.int .i64 0])/\dF w' w.heap.size A' cap' m
  |none=>e= .returned (.tuple #[.slice none 0 0,.int .i64 9])
theorem Zi (w:World) (c0 c1 c2 c3 c4:Array Value) (t0 t1 t2 t3 t4:TypeId) (W:World) (hW:W=((((w.alloc (.cells c0 t0)).alloc (.cells c1 t1)).alloc (.cells c2 t2)).alloc (.cells c3 t3)).alloc (.cells c4 t4)):
  W.heap[w.heap.size]?=some (.cells c0 t0 (0,0))/\W.heap[w.heap.size+1]?=some (.cells c1 t1 (0,0))/\W.heap[w.heap.size+1+1]?=some (.cells c2 t2 (0,0))/\W.heap[w.heap.size+1+1+1]?=some (.cells c3 t3 (0,0))/\W.heap[w.heap.size+1+1+1+1]?=some (.cells c4 t4 (0,0))/\Below w.heap.size w W/\W.heap.size=w.heap.size+5:=by
 subst hW;obtain ⟨w1,h1⟩:∃w1,w1=w.alloc (.cells c0 t0):=⟨_,rfl⟩;obtain ⟨w2,h2⟩:∃w2,w2=w1.alloc (.cells c1 t1):=⟨_,rfl⟩;obtain ⟨w3,h3⟩:∃w3,w3=w2.alloc (.cells c2 t2):=⟨_,rfl⟩;obtain ⟨w4,h4⟩:∃w4,w4=w3.alloc (.cells c3 t3):=⟨_,rfl⟩;have s1:w1.heap.size=w.heap.size+1:=by rw [h1];simp
 have s2:w2.heap.size=w.heap.size+1+1:=by rw [h2,FT,s1]
 have s3:w3.heap.size=w.heap.size+1+1+1:=by rw [h3,FT,s2]
 have s4:w4.heap.size=w.heap.size+1+1+1+1:=by rw [h4,FT,s3]
 rw [<-h1,<-h2,<-h3,<-h4];have n0:=heap_alloc_new w (.cells c0 t0);have n1:=heap_alloc_new w1 (.cells c1 t1);have n2:=heap_alloc_new w2 (.cells c2 t2);have n3:=heap_alloc_new w3 (.cells c3 t3);have n4:=heap_alloc_new w4 (.cells c4 t4);have e1:=fun q (hq:q<w1.heap.size)=>FW w1 (.cells c1 t1) q hq;have e2:=fun q (hq:q<w2.heap.size)=>FW w2 (.cells c2 t2) q hq;have e3:=fun q (hq:q<w3.heap.size)=>FW w3 (.cells c3 t3) q hq;have e4:=fun q (hq:q<w4.heap.size)=>FW w4 (.cells c4 t4) q hq;rw [<-h1] at n0;rw [<-h2,s1] at n1;rw [<-h3,s2] at n2;rw [<-h4,s3] at n3;rw [s4] at n4;rw [<-h2] at e1;rw [<-h3] at e2;rw [<-h4] at e3;refine ⟨?_,?_,?_,?_,n4,?_,?_⟩
 ·rw [e4 _ (by omega),e3 _ (by omega),e2 _ (by omega),e1 _ (by omega),n0]
 ·rw [e4 _ (by omega),e3 _ (by omega),e2 _ (by omega),n1]
 ·rw [e4 _ (by omega),e3 _ (by omega),n2]
 ·rw [e4 _ (by omega),n3]
 ·rw [h4,h3,h2,h1]
  exact au (au (au (au (au (aI _ _) _) _) _) _) _
 ·rw [FT,s4]
theorem KU (A B:Option Addr) (c d:Nat) (a b:List Nd) (w:World) (ha:bJ w w.heap.size A a) (hb:bJ w w.heap.size B b) (ga:Gd a) (gb:Gd b) (hc:a.length<=c) (hd:b.length<=d):
  Calls Tryz.prog 111 #[.slice A a.length c,.slice B b.length d] w (Zh a b w):=by
 obtain ⟨x0,hx0⟩:=aJ (l:=a) (i:=0) ga.fo.pos;obtain ⟨b1,o1,eA,_,_,_,_⟩:=ha.at_ hx0;subst eA;clear hx0;go_enter Tryz.func111,Tryz.ntmps111;go_upto_region 5 with fail
 obtain ⟨W,hW⟩:∃W,W=((((w.alloc (.cells #[.slice (some ⟨b1,o1,none⟩) a.length c] 28)).alloc (.cells #[.slice B b.length d] 28)).alloc (.cells #[.slice none 0 0] 28)).alloc (.cells #[.int .i64 0] 3)).alloc
   (.cells #[.slice (some ⟨b1,o1,none⟩) a.length c,.slice B b.length d,.func (.func 138) #[] #[.pointer (some ⟨w.heap.size+1+1,0,none⟩),.pointer (some ⟨w.heap.size,0,none⟩),.pointer (some ⟨w.heap.size+1+1+1,0,none⟩),.pointer (some ⟨w.heap.size+1,0,none⟩)]] 148):=⟨_,rfl⟩
 obtain ⟨k0,k1,k2,k3,k4,hb5,hs5⟩:=Zi w _ _ _ _ _ _ _ _ _ _ W hW;rw [<-hW];clear hW
 have hO:DV (w.heap.size+1+1) (w.heap.size+1+1+1) w.heap.size (w.heap.size+1) w.heap.size (w.heap.size+5):=by
  constructor<;>omega
 have hS:Bt (w.heap.size+1+1) (w.heap.size+1+1+1) w.heap.size (w.heap.size+1) (some ⟨b1,o1,none⟩) B c d a b (w.heap.size+5) (mI (w.heap.size+1+1) (w.heap.size+1+1+1) none) [] 0 0 W:=
  ⟨none,0,[],0,⟨k2,k3,k0,k1,ay.nil,by omega⟩,aK _,Nat.zero_le _,by simp,by simp,fun q=>Iff.rfl⟩
 have Hov:=aB (KR _ _ a b (some ⟨b1,o1,none⟩) B c d w.heap.size _ (Wx (w.heap.size+1+1) (w.heap.size+1+1+1) w.heap.size (w.heap.size+1) w.heap.size (w.heap.size+5) (some ⟨b1,o1,none⟩) B c d a b hO ga.len gb.len hc hd) ga.len gb.len a.length a b [] [] [] 0 0 _ W (aK _) (by simp) (by simp) ga.ok gb.ok ga.fo gb.fo (by rw [ga.s,gb.s]) (ha.below hb5) (hb.below hb5) hb5.size hS);have HO:=aB hO;have qB:=aB hb5;have HA:=aB (DF ha (DF hb (DF ga gb)));have p0:W.cell? ⟨w.heap.size+1+1+1+1,0,none⟩=some (.slice (some ⟨b1,o1,none⟩) a.length c):=by simp [DI,k4]
 have p1:W.cell? ⟨w.heap.size+1+1+1+1,1,none⟩=some (.slice B b.length d):=by simp [DI,k4]
 have p2:W.cell? ⟨w.heap.size+1+1+1+1,2,none⟩=some (.func (.func 138) #[] #[.pointer (some ⟨w.heap.size+1+1,0,none⟩),.pointer (some ⟨w.heap.size,0,none⟩),.pointer (some ⟨w.heap.size+1+1+1,0,none⟩),.pointer (some ⟨w.heap.size+1,0,none⟩)]):=by simp [DI,k4]
 clear k0 k1 k2 k3 k4 hb5 hs5 hO hS ha hb ga gb;go_wp2_with fail;refine Hov.out.mono ?_;rintro e w2 ⟨hf,h⟩
 have HB2:Hid (Below w.heap.size w w2):=aB (by
  have hz:=qB.out.size;refine ⟨hf.os.trans qB.out.os,hf.tape.trans qB.out.tape,hf.output.trans qB.out.output,vV hz hf.size,fun q hq=>(hf.block q (by omega) ?_).trans (qB.out.block q hq)⟩;rintro (e|e|⟨p,hp,_⟩)
  ·omega
  ·omega
  ·cases hp)
 clear p0 p1 p2 hf;rcases h with ⟨zs,Y',hm,rfl,hst,_⟩|⟨hm,rfl⟩
 ·obtain ⟨OA,oc,OUT,dn,S2⟩:=hst
  simp only [List.nil_append,Nat.zero_add] at S2;have hdl:=S2.di;have hdc:dn<=c:=vV hdl hc;have HM:=aB (DF hm S2)
  have hOL:OUT.length+(a.length-dn)<=2000000000:=by
   have h1:=S2.few;rw [S2.all,lS,lD (aK _)] at h1;have:=HA.out.2.2.1.len;have:=HA.out.2.2.2.len;omega
  clear hm S2;by_cases he:c=dn
  ·have hz2:=HB2.out.size
   go_upto_region 8 with fail
   obtain ⟨SS,hSS⟩:∃SS:World->Prop,SS=fun v=>v.cell? ⟨w.heap.size+1+1,0,none⟩=some (.slice OA OUT.length oc)/\v.cell? ⟨w.heap.size+1+1+1,0,none⟩=some (.int .i64 (dn:Int))/\v.cell? ⟨w.heap.size,0,none⟩=some (.slice (some ⟨b1,o1,none⟩) a.length c)/\v.cell? ⟨w.heap.size+1,0,none⟩=some (.slice B b.length d):=⟨_,rfl⟩;obtain ⟨we,j_⟩:∃we,we=w2.drew:=⟨_,rfl⟩;have jF:Hid (Below w.heap.size w we):=aB (by rw [j_];exact HB2.out.drew);have Al:=aB (HM.out.2.m.later HO.out (show Below w2.heap.size w2 we by rw [j_];exact (aI _ _).drew));have hse:SS we:=by rw [hSS];exact Al.out.cells
   refine aG (S:=SS) [4] (by kernel_rfl) (by rw [<-j_];exact hse) (fun hHeld=>?_);rw [<-j_] at hHeld ⊢;clear j_;refine aM 0 [4,5,6] (some 25) rfl rfl ?_;refine aM 1 [3,4,5,6] (some 26) rfl rfl ?_;refine aM 2 [3,4,5,6] (some 27) rfl rfl ?_;refine aM 3 [4,5,6] (some 28) rfl rfl ?_;refine aA ?_
   have HT2:Hid (bJ we w.heap.size (some ⟨b1,o1,none⟩) ((a.take a.length).drop dn)):=aB (by
    have:((a.take a.length).drop dn)=[]:=JU (by simp;omega);rw [this];exact bJ.nil)
   refine dO 4 rfl (by kernel_rfl) (by rfl) ?_;refine yQ (.tmp 25) (.tmp 28) (by rfl) (w.heap.size+5) (m:=OUT.length) (n:=a.length-dn) rfl (by rfl) Al.out.own (lD (aK _)) (by rfl) HT2.out (by omega) Al.out.lo (some 29) rfl ?_;intro A9 yh w9 jK oM _
   have HP:Hid (Below w.heap.size w w9/\∃A' cap',Ending.returned (.tuple #[.slice A9 (OUT.length+(a.length-dn)) yh,.int .i64 0])= .returned (.tuple #[.slice A' zs.length cap',.int .i64 0])/\dF w9 w.heap.size A' cap' zs):=aB (by
    have hz:OUT++(a.take a.length).drop dn=zs:=HM.out.2.all.symm;have hl:=congrArg sI hz;rw [lS,lD (aK _)] at hl;rw [hz] at jK;exact ⟨iB jF.out oM (fun k hk=>by have:=(ay.block Al.out.own k hk).1;omega),A9,yh,by rw [hl],ay.lower jK (by omega)⟩)
   clear jK oM;refine ⟨zL (by kernel_rfl),?_⟩;refine aA ?_;refine aX 5 (some 4) rfl rfl (by kernel_rfl) (by rfl) (by go_simp;first|with_reducible rfl|(constructor<;>with_reducible rfl)) (zL (by kernel_rfl)) ?_;refine aA ?_;refine aX 6 (some 5) rfl rfl (by kernel_rfl) (by rfl) (by go_simp;first|with_reducible rfl|(constructor<;>with_reducible rfl)) (zL (by kernel_rfl)) ?_;refine aA ?_;refine bB (by kernel_rfl) ?_ _;go_wp2_with fail;go_ret2;refine ⟨HP.out.1,?_⟩;rw [HM.out.1];exact HP.out.2
  ·have hz2:=HB2.out.size
   go_upto_region 8 with fail
   obtain ⟨SS,hSS⟩:∃SS:World->Prop,SS=fun v=>v.cell? ⟨w.heap.size+1+1,0,none⟩=some (.slice OA OUT.length oc)/\v.cell? ⟨w.heap.size+1+1+1,0,none⟩=some (.int .i64 (dn:Int))/\v.cell? ⟨w.heap.size,0,none⟩=some (.slice (some ⟨b1,o1,none⟩) a.length c)/\v.cell? ⟨w.heap.size+1,0,none⟩=some (.slice B b.length d):=⟨_,rfl⟩;obtain ⟨we,j_⟩:∃we,we=w2.drew:=⟨_,rfl⟩;have jF:Hid (Below w.heap.size w we):=aB (by rw [j_];exact HB2.out.drew);have Al:=aB (HM.out.2.m.later HO.out (show Below w2.heap.size w2 we by rw [j_];exact (aI _ _).drew));have hse:SS we:=by rw [hSS];exact Al.out.cells
   refine aG (S:=SS) [4] (by kernel_rfl) (by rw [<-j_];exact hse) (fun hHeld=>?_);rw [<-j_] at hHeld ⊢;clear j_;refine aM 0 [4,5,6] (some 25) rfl rfl ?_;refine aM 1 [3,4,5,6] (some 26) rfl rfl ?_;refine aM 2 [3,4,5,6] (some 27) rfl rfl ?_;refine aM 3 [4,5,6] (some 28) rfl rfl ?_;refine aA ?_;have HT2:Hid (bJ we w.heap.size (some ⟨b1,o1+dn*3,none⟩) ((a.take a.length).drop dn)):=aB ((HA.out.1.below jF.out).sub dn a.length);refine dO 4 rfl (by kernel_rfl) (by rfl) ?_;refine yQ (.tmp 25) (.tmp 28) (by rfl) (w.heap.size+5) (m:=OUT.length) (n:=a.length-dn) rfl (by rfl) Al.out.own (lD (aK _)) (by rfl) HT2.out (by omega) Al.out.lo (some 29) rfl ?_;intro A9 yh w9 jK oM _
   have HP:Hid (Below w.heap.size w w9/\∃A' cap',Ending.returned (.tuple #[.slice A9 (OUT.length+(a.length-dn)) yh,.int .i64 0])= .returned (.tuple #[.slice A' zs.length cap',.int .i64 0])/\dF w9 w.heap.size A' cap' zs):=aB (by
    have hz:OUT++(a.take a.length).drop dn=zs:=HM.out.2.all.symm;have hl:=congrArg sI hz;rw [lS,lD (aK _)] at hl;rw [hz] at jK;exact ⟨iB jF.out oM (fun k hk=>by have:=(ay.block Al.out.own k hk).1;omega),A9,yh,by rw [hl],ay.lower jK (by omega)⟩)
   clear jK oM;refine ⟨zL (by kernel_rfl),?_⟩;refine aA ?_;refine aX 5 (some 4) rfl rfl (by kernel_rfl) (by rfl) (by go_simp;first|with_reducible rfl|(constructor<;>with_reducible rfl)) (zL (by kernel_rfl)) ?_;refine aA ?_;refine aX 6 (some 5) rfl rfl (by kernel_rfl) (by rfl) (by go_simp;first|with_reducible rfl|(constructor<;>with_reducible rfl)) (zL (by kernel_rfl)) ?_;refine aA ?_;refine bB (by kernel_rfl) ?_ _;go_wp2_with fail;go_ret2;refine ⟨HP.out.1,?_⟩;rw [HM.out.1];exact HP.out.2
 ·have HM:=aB hm
  clear hm;go_wp2_with fail;go_ret2;refine ⟨HB2.out,?_⟩;rw [HM.out];rfl
def tZ (s:ByteArray):List Value:=[.string s]
theorem jA (s:ByteArray):(tZ s).length=1:=rfl
abbrev p9 (w:World) (B:Nat) (A:Option Addr) (l:List ByteArray):Prop:=aS 1 tZ w B A l
theorem aS.str {w:World} {B:Nat} {A:Option Addr} {l:List ByteArray} (h:p9 w B A l) {i:Nat} {s:ByteArray} (hn:l[i]?=some s):
  ∃b o,A=some ⟨b,o,none⟩/\b<B/\w.cell? ⟨b,o+i,none⟩=some (.string s):=by
 obtain ⟨b,o,rfl,hb,hc⟩:=h (by rintro rfl;simp at hn);have:=hc i s hn 0 _ rfl;rw [Nat.mul_one,Nat.add_zero] at this;exact ⟨b,o,rfl,hb,this⟩
def lF (kind:Int) (ls:List ByteArray) (k:Nat):Bool:=(ls.drop k).any fun s=> !bP kind s
theorem J2 {kind:Int} {ls:List ByteArray} {k:Nat} {s:ByteArray} (hx:ls[k]?=some s):lF kind ls k=(!bP kind s||lF kind ls (k+1)):=by
 unfold lF;have e:ls.drop k=s::ls.drop (k+1):=by rw [List.drop_eq_getElem_cons (aP hx),(List.getElem?_eq_some_iff.1 hx).2]
 rw [e,List.any_cons]
theorem MR {kind:Int} {ls:List ByteArray} {k:Nat} (h:¬k<ls.length):lF kind ls k=false:=by
 unfold lF;rw [List.drop_of_length_le (by omega)];rfl
theorem Bu (s:ByteArray) (w:World):Calls Tryz.prog 151 #[.string s] w fun e w'=>e= .returned (.bool false)/\w=w':=by
 go_enter Tryz.func151,Tryz.ntmps151;go_wp2_with fail;go_ret;exact ⟨aO (by simp),rfl⟩
def AU (a b:ByteArray):Int:=if Op.bytesLess a.toList b.toList=true then-1 else if (a.toList==b.toList)=true then 0 else 1
theorem MS (a b:ByteArray) (w:World):Calls Tryz.prog 132 #[.string a,.string b] w fun e w'=>e= .returned (.int .i64 (AU a b))/\w=w':=by
 cases h1:Op.bytesLess a.toList b.toList
 ·cases h2:a.toList==b.toList
  ·have hc:=aB (show AU a b=1 by unfold AU;rw [h1,h2];rfl)
   go_enter Tryz.func132,Tryz.ntmps132;go_wp2_with (go_at_call 151;refine (Bu _ _).mono ?_;rintro e w1 ⟨rfl,rfl⟩);go_ret;exact ⟨kZ (by rw [hc.out]),rfl⟩
  ·have hc:=aB (show AU a b=0 by unfold AU;rw [h1,h2];rfl)
   go_enter Tryz.func132,Tryz.ntmps132;go_wp2_with (go_at_call 151;refine (Bu _ _).mono ?_;rintro e w1 ⟨rfl,rfl⟩);go_ret;exact ⟨kZ (by rw [hc.out]),rfl⟩
 ·have hc:=aB (show AU a b= -1 by unfold AU;rw [h1];rfl)
  go_enter Tryz.func132,Tryz.ntmps132;go_wp2_with (go_at_call 151;refine (Bu _ _).mono ?_;rintro e w1 ⟨rfl,rfl⟩);go_ret;exact ⟨kZ (by rw [hc.out]),rfl⟩
end Go.Proofs.YtmjdhfbnmmdjiaaGreat
