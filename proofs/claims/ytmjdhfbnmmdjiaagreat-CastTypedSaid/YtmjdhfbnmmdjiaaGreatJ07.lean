/- Laid together by a tool from the texts of this seat: ChM ChN RowA ChF. Conditions: each theorem's own. -/
import Derived.Test.YtmjdhfbnmmdjiaaGreatJ06
import Derived.Test.YtmjdhfbnmmdjiaaGreatJ05
import Derived.BigQuiet
import Derived.Laws.EntriesVeiled
set_option maxHeartbeats 8000000
set_option maxRecDepth 100000
namespace Go.Proofs.YtmjdhfbnmmdjiaaGreat
open Go.Lib renaming hid->aD
open Go.RowKit.Below renaming refl->aF,heap_alloc->Ew,heap_setCell->Ip
open _root_.List renaming length_cons->mX,length_append->jX,append_assoc->kE,take_left->xO,length->uS,append_nil->lI,getElem?_cons_succ->FR,take_add_one->KV,drop_eq_nil_of_le->M6,map_cons->Nc
open _root_.And renaming intro->Cj
open Go.World renaming cell?->Ck,size_alloc->Er,frozen?->EJ,setCell->JN
open _root_.Nat renaming le_refl->aG,le_trans->Ed,add_sub_cancel->nZ
open _root_.ByteArray renaming empty->bZ
open Go.Value renaming slice->fq
open Go.RowKit
theorem Um:∀args w,(callFunc 138 args).run Tryz.prog w= .ok (.enter 138 args) w:=by
 intro args w
 kernel_rfl
structure lW (bo bd pa pb:Nat) (A B:Option Addr) (c d:Nat) (a b:List Nd) (lo:Nat) (OA:Option Addr) (oc:Nat) (OUT:List Nd) (dn:Nat) (w:World):Prop where
 co:w.heap[bo]?=some (.cells #[.slice OA OUT.length oc] 28 (0,0))
 cd:w.heap[bd]?=some (.cells #[.int .i64 (dn:Int)] 3 (0,0))
 ca:w.heap[pa]?=some (.cells #[.slice A a.length c] 28 (0,0))
 cb:w.heap[pb]?=some (.cells #[.slice B b.length d] 28 (0,0))
 own:dK w lo OA oc OUT
 lo:lo<=w.heap.size
structure Cw (bo bd pa pb base lo:Nat):Prop where
 o:base<=bo/\bo<lo
 d:base<=bd/\bd<lo
 a:base<=pa/\pa<lo
 b:base<=pb/\pb<lo
 od:bo≠bd
 oa:bo≠pa
 ob:bo≠pb
 da:bd≠pa
 db:bd≠pb
def lX (bo bd:Nat) (OA:Option Addr) (q:Nat):Prop:=q=bo\/q=bd\/∃p,OA=some p/\p.block=q
section
variable {bo bd pa pb base lo:Nat} {A B:Option Addr} {c d:Nat} {a b:List Nd} {OA:Option Addr} {oc:Nat} {OUT:List Nd} {dn:Nat} {w w':World}
theorem lW.later (h:lW bo bd pa pb A B c d a b lo OA oc OUT dn w) (k:Cw bo bd pa pb base lo) (hb:Below w.heap.size w w'):lW bo bd pa pb A B c d a b lo OA oc OUT dn w':=by
 have:=h.lo;have:=k.o.2;have:=k.d.2;have:=k.a.2;have:=k.b.2;exact ⟨(hb.block _ (by omega)).trans h.co,(hb.block _ (by omega)).trans h.cd,(hb.block _ (by omega)).trans h.ca,(hb.block _ (by omega)).trans h.cb,h.own.below hb (aG _),Ed h.lo hb.size⟩
theorem lW.cells (h:lW bo bd pa pb A B c d a b lo OA oc OUT dn w):w.cell? ⟨bo,0,none⟩=some (.slice OA OUT.length oc)/\w.cell? ⟨bd,0,none⟩=some (.int .i64 (dn:Int))/\w.cell? ⟨pa,0,none⟩=some (.slice A a.length c)/\w.cell? ⟨pb,0,none⟩=some (.slice B b.length d):=
 ⟨by simp [Ck,h.co],by simp [Ck,h.cd],by simp [Ck,h.ca],by simp [Ck,h.cb]⟩
theorem lW.frozen (h:lW bo bd pa pb A B c d a b lo OA oc OUT dn w):w.frozen? ⟨bo,0,none⟩=false/\w.frozen? ⟨bd,0,none⟩=false:=
 ⟨by simp [EJ,h.co],by simp [EJ,h.cd]⟩
theorem lW.app (h:lW bo bd pa pb A B c d a b lo OA oc OUT dn w) (k:Cw bo bd pa pb base lo) {A7:Option Addr} {Cx:Nat} {l2:List Nd} {w7:World} (hown:dK w7 lo A7 Cx (OUT++l2)) (hg:w.grownBy w7 ((fq OA OUT.length oc).ownBlock))
  (hA:(fq A7 (OUT.length+l2.length) Cx).ownBlock=(fq OA OUT.length oc).ownBlock\/(fq A7 (OUT.length+l2.length) Cx).ownBlock=some w.heap.size):
  lW bo bd pa pb A B c d a b lo A7 Cx (OUT++l2) dn (w7.setCell ⟨bo,0,none⟩ (.slice A7 (OUT.length+l2.length) Cx))/\Fr (lX bo bd OA) w (w7.setCell ⟨bo,0,none⟩ (.slice A7 (OUT.length+l2.length) Cx))/\
   (∀q,lX bo bd A7 q->lX bo bd OA q\/w.heap.size<=q)/\lW bo bd pa pb A B c d a b lo OA oc OUT dn w/\
   w7.cell? ⟨bo,0,none⟩=some (.slice OA OUT.length oc)/\w7.cell? ⟨bd,0,none⟩=some (.int .i64 (dn:Int))/\w7.cell? ⟨pa,0,none⟩=some (.slice A a.length c)/\w7.cell? ⟨pb,0,none⟩=some (.slice B b.length d)/\w7.frozen? ⟨bo,0,none⟩=false:=by
 have hlo:=h.lo;have k1:=k.o.2;have k2:=k.d.2;have k3:=k.a.2;have k4:=k.b.2
 have off:∀q,q<lo->¬(fq OA OUT.length oc).ownBlock=some q:=fun q hq e=>by
  have:=(aB.block h.own q e).1;omega
 have bk:∀q,q<lo->w7.heap[q]?=w.heap[q]?:=fun q hq=>hg.block q (by omega) fun e=>off q hq e.symm;have bo7:=(bk bo k1).trans h.co;have bd7:=(bk bd k2).trans h.cd;have ba7:=(bk pa k3).trans h.ca;have bb7:=(bk pb k4).trans h.cb;have hne:∀q,q≠bo->∀u:Value,(w7.setCell ⟨bo,0,none⟩ u).heap[q]?=w7.heap[q]?:=fun q hq u=>Ip _ _ _ _ hq;refine ⟨⟨?_,?_,?_,?_,?_,?_⟩,?_,?_,h,by simp [Ck,bo7],by simp [Ck,bd7],by simp [Ck,ba7],by simp [Ck,bb7],by simp [EJ,bo7]⟩
 ·have:=heap_set bo7 0 (.slice A7 (OUT.length+l2.length) Cx)
  rw [this,jX];rfl
 ·rw [hne _ (Ne.symm k.od)];exact bd7
 ·rw [hne _ (Ne.symm k.oa)];exact ba7
 ·rw [hne _ (Ne.symm k.ob)];exact bb7
 ·exact aB.fr (Y:=fun q=>q=bo) hown (Fr.setCell (X:=fun q=>q=bo) (Fr.refl _ _) (.inl rfl) _) fun p hp e=>by
   have:=(aB.lt hown p hp).1;omega
 ·have:=hg.size
  simp [JN];omega
 ·refine Fr.setCell (Fr.grown hg fun q e=>?_) (.inl (.inl rfl)) _
  obtain ⟨p,hp,hb⟩:=cK e;exact .inr (.inr ⟨p,hp,hb⟩)
 ·rintro q (e|e|⟨p,hp,hb⟩)
  ·exact .inl (.inl e)
  ·exact .inl (.inr (.inl e))
  ·subst hp
   rcases hA with e|e
   ·obtain ⟨p2,hp2,hb2⟩:=cK e.symm
    exact .inl (.inr (.inr ⟨p2,hp2,hb2.trans hb⟩))
   ·simp [Value.ownBlock] at e
    exact .inr (by omega)
theorem lW.put (h:lW bo bd pa pb A B c d a b lo OA oc OUT dn w) (k:Cw bo bd pa pb base lo) (n:Nat):
  lW bo bd pa pb A B c d a b lo OA oc OUT n (w.setCell ⟨bd,0,none⟩ (.int .i64 (n:Int)))/\Fr (lX bo bd OA) w (w.setCell ⟨bd,0,none⟩ (.int .i64 (n:Int))):=by
 have hne:∀q,q≠bd->∀u:Value,(w.setCell ⟨bd,0,none⟩ u).heap[q]?=w.heap[q]?:=fun q hq u=>Ip _ _ _ _ hq;refine ⟨⟨?_,?_,?_,?_,?_,?_⟩,Fr.setCell (Fr.refl _ _) (.inl (.inr (.inl rfl))) _⟩
 ·rw [hne _ k.od];exact h.co
 ·exact heap_set h.cd 0 _
 ·rw [hne _ (Ne.symm k.da)];exact h.ca
 ·rw [hne _ (Ne.symm k.db)];exact h.cb
 ·exact aB.fr (Y:=fun q=>q=bd) h.own (Fr.setCell (X:=fun q=>q=bd) (Fr.refl _ _) (.inl rfl) _) fun p hp e=>by
   have:=(aB.lt h.own p hp).1;have:=k.d.2;omega
 ·have:=h.lo
  simp [JN];omega
end
structure aaq (bo bd pa pb:Nat) (A B:Option Addr) (c d:Nat) (a b:List Nd) (lo:Nat) (Y:Nat->Prop) (M:List Nd) (i k:Nat) (w:World) (OA:Option Addr) (oc:Nat) (OUT:List Nd) (dn:Nat):Prop where
 m:lW bo bd pa pb A B c d a b lo OA oc OUT dn w
 di:dn<=i
 il:i<=a.length
 all:M=OUT++(a.take i).drop dn
 few:M.length<=i+k
 y:∀q,Y q↔lX bo bd OA q
def zZ (bo bd pa pb:Nat) (A B:Option Addr) (c d:Nat) (a b:List Nd) (lo:Nat) (Y:Nat->Prop) (M:List Nd) (i k:Nat) (w:World):Prop:=∃OA oc OUT dn,aaq bo bd pa pb A B c d a b lo Y M i k w OA oc OUT dn
theorem take_drop_succ {a:List Nd} {i dn:Nat} {x:Nd} (h:a[i]?=some x) (hd:dn<=i):(a.take (i+1)).drop dn=(a.take i).drop dn++[x]:=by
 have hi:=aU h;rw [KV,h,Option.toList_some,List.drop_append_of_le_length (by simp;omega)]
theorem wP {a ts r:List Nd} {i:Nat} (h:a.drop i=ts++r):(a.take (i+ts.length)).drop i=ts:=by
 rw [List.drop_take,h,Nat.add_sub_cancel_left,xO]
theorem JE {a ts r:List Nd} {i:Nat} (h:a.drop i=ts++r) (hp:0<ts.length):i+ts.length<=a.length:=by
 have:=congrArg uS h;rw [List.length_drop,jX] at this;omega
theorem Qj (bo bd pa pb base lo:Nat) (A B:Option Addr) (c d:Nat) (a b:List Nd) (hO:Cw bo bd pa pb base lo) (hla:a.length<=1000000000) (hlb:b.length<=1000000000) (hc:a.length<=c) (hd:b.length<=d)
  (Y:Nat->Prop) (M:List Nd) (i k:Nat) (ts us r s:List Nd) (w:World) (hda:a.drop i=ts++r) (hdb:b.drop k=us++s) (hoa:bI ts) (WK:bI us) (h1:Fo 1 ts) (h2:Fo 1 us) (hA:bO w base A a) (hB:bO w base B b) (hbw:base<=w.heap.size) (hS:zZ bo bd pa pb A B c d a b lo Y M i k w):
  Calls Tryz.prog 138 (#[.int .i64 i,.int .i64 k]++#[.pointer (some ⟨bo,0,none⟩),.pointer (some ⟨pa,0,none⟩),.pointer (some ⟨bd,0,none⟩),.pointer (some ⟨pb,0,none⟩)]) w
   fun e w'=>e= .returned (.bool true)/\Fr Y w w'/\∃Y',zZ bo bd pa pb A B c d a b lo Y' (M++if (aQ us).k=0 then ts else us) (i+ts.length) (k+us.length) w'/\∀q,Y' q->Y q\/w.heap.size<=q:=by
 obtain ⟨OA,oc,OUT,dn,S0⟩:=hS;rcases us with _|⟨y,yt⟩
 ·exact absurd h2.pos (by simp)
 have hlt:=JE hda h1.pos;have hlu:=JE hdb h2.pos;have hpt:=h1.pos;have hy:b[k]?=some y:=kH hdb;obtain ⟨x,hx⟩:=aN (l:=a) (i:=i) (by omega);obtain ⟨b1,o1,eA,hb1,c10,c11,c12⟩:=hA.at_ hx;obtain ⟨b2,o2,eB,hb2,c20,c21,IU⟩:=hB.at_ hy;subst eA eB;have hdi:=S0.di;have hil:=S0.il
 have hOL:OUT.length+(i-dn)<=i+k:=by
  have:=S0.few;rw [S0.all,jX,kW S0.il] at this;exact this
 have H:=aD S0;have HA:=aD (Cj hA hB);have HD:=aD (Cj hda (Cj hdb (Cj hoa (Cj WK (Cj h1 h2)))));have HY:=aD hy;have HO:=aD hO;clear hda hdb hoa WK h1 h2 hA hB S0 hO hx hy c10 c11 c12 c20 c21 IU;simp only [mX] at hlu;go_enter Tryz.func138,Tryz.ntmps138;go_upto_region 1 with fail
 have hcc:i<=c:=by omega
 have hdc:dn<c:=by omega
 have hii:i<c:=by omega
 have hic:i+ts.length<=c:=by omega
 have hkk:k+(yt.length+1)<=d:=by omega
 have hkd:k<d:=by omega
 obtain ⟨ie,hie⟩:∃ie,ie=i+ts.length:=⟨_,rfl⟩;have anu:i<=ie:=by omega
 have anv:ie<=c:=by omega
 obtain ⟨ke,hke⟩:∃ke,ke=k+(y::yt).length:=⟨_,rfl⟩;have anw:ie<=a.length:=by omega
 have anx:ke<=b.length:=by rw [hke];simp only [mX];omega
 have anz:k<=ke:=by omega
 have hke2:ke<=d:=by rw [hke];simp only [mX];omega
 have Un:=aD hie;have Uo:=aD hke;clear hie hke;obtain ⟨on,hon⟩:∃on,on=OUT.length:=⟨_,rfl⟩;obtain ⟨SS,hSS⟩:∃SS:World->Prop,SS=fun v=>v.cell? ⟨bo,0,none⟩=some (.slice OA on oc)/\v.cell? ⟨bd,0,none⟩=some (.int .i64 (dn:Int))/\v.cell? ⟨pa,0,none⟩=some (.slice (some ⟨b1,o1,none⟩) a.length c)/\v.cell? ⟨pb,0,none⟩=some (.slice (some ⟨b2,o2,none⟩) b.length d):=⟨_,rfl⟩;obtain ⟨wd,hwd⟩:∃wd,wd=w.drew:=⟨_,rfl⟩;have bM:Hid (Below w.heap.size w wd):=aD (by rw [hwd];exact (aF _ _).drew);have mI:=aD (H.out.m.later HO.out bM.out);have hsd:SS wd:=by rw [hSS,hon];exact mI.out.cells
 refine aI (S:=SS) [6] (by kernel_rfl) (by rw [<-hwd];exact hsd) (fun hHeld=>?_);rw [<-hwd] at hHeld ⊢;clear hwd;refine aL 0 [5,6] (some 9) rfl rfl ?_;refine aL 1 [4,5,6] (some 10) rfl rfl ?_;refine aL 2 [4,5,6] (some 11) rfl rfl ?_;refine aL 3 [4,5,6] (some 12) rfl rfl ?_;refine aL 4 [5,6] (some 13) rfl rfl ?_;refine aC ?_
 have HT1:Hid (bO wd base (if c=dn then some ⟨b1,o1,none⟩ else some ⟨b1,o1+dn*3,none⟩) ((a.take i).drop dn)):=aD (by
  rw [if_neg (by omega)];exact (HA.out.1.below (bM.out.mono hbw)).sub dn i)
 refine dQ 5 rfl (by kernel_rfl) (by rfl) ?_;refine xK (.tmp 9) (.tmp 13) (by rfl) lo (m:=OUT.length) (n:=i-dn) rfl (by rfl) mI.out.own (kW hil) (by rfl) HT1.out (by omega) mI.out.lo (some 14) rfl ?_;intro A7 Cx w7 nu sI WT;have K7:=aD (mI.out.app HO.out nu sI WT);have SS7:SS w7:=by rw [hSS,hon];exact ⟨K7.out.2.2.2.2.1,K7.out.2.2.2.2.2.1,K7.out.2.2.2.2.2.2.1,K7.out.2.2.2.2.2.2.2.1⟩
 clear nu sI WT;refine ⟨fun _=>SS7,?_⟩;refine aC ?_;have kf:=K7.out.2.2.2.2.2.2.2.2;have ka:=K7.out.2.2.2.2.1;refine je 6 none (w':=?_) rfl rfl (by kernel_rfl) (by rfl) ?_ (zL (by kernel_rfl)) ?_
 rotate_left
 ·(go_simp;try with_reducible rfl)
 refine aC ?_;refine bG (by kernel_rfl) ?_ _;clear kf ka SS7 hHeld hsd;obtain ⟨w8,hw8⟩:∃w8,w8=w7.setCell ⟨bo,0,none⟩ (.slice A7 (OUT.length+(i-dn)) Cx):=⟨_,rfl⟩;rw [<-hw8]
 have vU:Hid (lW bo bd pa pb (some ⟨b1,o1,none⟩) (some ⟨b2,o2,none⟩) c d a b lo A7 Cx (OUT++(a.take i).drop dn) dn w8/\Fr (lX bo bd OA) w w8/\(∀q,lX bo bd A7 q->lX bo bd OA q\/w.heap.size<=q)):=aD (by
  have h1:=K7.out.1;have h2:=K7.out.2.1;rw [kW hil,<-hw8] at h1 h2
  exact ⟨h1,(Fr.below bM.out).trans h2,fun q hq=>by
   rcases K7.out.2.2.1 q hq with h|h
   ·exact .inl h
   ·exact .inr (Ed bM.out.size h)⟩)
 have u_:Hid ((OUT++(a.take i).drop dn).length=OUT.length+(i-dn)):=aD (by rw [jX,kW hil]);clear hw8
 have hY8:∀q,lX bo bd OA q->base<=q:=fun q hq=>by
  rcases hq with e|e|⟨p,hp,hb⟩
  ·have:=HO.out.o;omega
  ·have:=HO.out.d;omega
  ·have:=(aB.lt H.out.m.own p hp).1
   have:=HO.out.o;omega
 have HW8:Hid (∀v,Below w8.heap.size w8 v->bO v base (some ⟨b1,o1,none⟩) a/\bO v base (some ⟨b2,o2,none⟩) b/\base<=v.heap.size):=aD fun v hv=>by
  have hz:=vU.out.2.1.size;have hbb:Below base w v:=⟨hv.os.trans vU.out.2.1.os,hv.tape.trans vU.out.2.1.tape,hv.output.trans vU.out.2.1.output,Ed hz hv.size,fun q hq=>(hv.block q (by omega)).trans (vU.out.2.1.block q (by omega) fun e=>by have:=hY8 q e;omega)⟩;exact ⟨HA.out.1.below hbb,HA.out.2.below hbb,Ed hbw hbb.size⟩
 obtain ⟨Uq,Ur,Ut,Uu⟩:=vU.out.1.cells;have Qk:=vU.out.1.frozen.2;have t_:=aD (pV (some ⟨b1,o1,none⟩) c a ts r i w8 (((HW8.out w8 (aF _ _)).1).more (HW8.out w8 (aF _ _)).2.2) hla HD.out.1 HD.out.2.2.1 HD.out.2.2.2.2.1);rw [<-Un.out] at t_;clear hY8;go_wp2_with fail;refine t_.out.mono ?_;rintro e w9 ⟨rfl,z8⟩;clear Uq Ur Ut Uu Qk;have WU:=aD (vU.out.1.later HO.out z8);have HW9:Hid (∀v,Below w9.heap.size w9 v->bO v base (some ⟨b1,o1,none⟩) a/\bO v base (some ⟨b2,o2,none⟩) b/\base<=v.heap.size):=aD fun v hv=>HW8.out v (au z8 hv);have oM:=aD z8;obtain ⟨Uq,Ur,Ut,Uu⟩:=WU.out.cells;have Qk:=WU.out.frozen.2;clear z8;go_upto_region 3 with fail
 obtain ⟨dA,Bf⟩:∃dA,dA=w9.setCell ⟨bd,0,none⟩ (.int .i64 (ie:Int)):=⟨_,rfl⟩;rw [<-Bf]
 have xL:Hid (lW bo bd pa pb (some ⟨b1,o1,none⟩) (some ⟨b2,o2,none⟩) c d a b lo A7 Cx (OUT++(a.take i).drop dn) ie dA/\Fr (lX bo bd OA) w dA):=aD (by
  have h1:=WU.out.put HO.out ie;rw [<-Bf] at h1;exact ⟨h1.1,Fr.new (vU.out.2.1.trans (Fr.below oM.out)) h1.2 vU.out.2.2⟩)
 have abK:∀q,lX bo bd OA q->base<=q:=fun q hq=>by
  rcases hq with e|e|⟨p,hp,hb⟩
  ·have:=HO.out.o;omega
  ·have:=HO.out.d;omega
  ·have:=(aB.lt H.out.m.own p hp).1
   have:=HO.out.o;omega
 have NI:Hid (∀v,Below dA.heap.size dA v->bO v base (some ⟨b1,o1,none⟩) a/\bO v base (some ⟨b2,o2,none⟩) b/\base<=v.heap.size):=aD fun v hv=>by
  have hz:=xL.out.2.size;have hbb:Below base w v:=⟨hv.os.trans xL.out.2.os,hv.tape.trans xL.out.2.tape,hv.output.trans xL.out.2.output,Ed hz hv.size,fun q hq=>(hv.block q (by omega)).trans (xL.out.2.block q (by omega) fun e=>by have:=abK q e;omega)⟩;exact ⟨HA.out.1.below hbb,HA.out.2.below hbb,Ed hbw hbb.size⟩
 clear Bf abK Uq Ur Ut Uu Qk;obtain ⟨Uq,Ur,Ut,Uu⟩:=xL.out.1.cells;obtain ⟨_,_,eB,_,c20,c21,IU⟩:=(NI.out dA (aF _ _)).2.1.at_ HY.out;injection eB with eB
 injection eB with eB1 eB2 _
 subst eB1 eB2
 have WV:Hid (∀(zs:List Nd) A9 wV v,lW bo bd pa pb (some ⟨b1,o1,none⟩) (some ⟨b2,o2,none⟩) c d a b lo A9 wV ((OUT++(a.take i).drop dn)++zs) ie v->Fr (lX bo bd OA) w v->(∀q,lX bo bd A9 q->lX bo bd OA q\/w.heap.size<=q)->zs.length<=ts.length+(yt.length+1)->zs=(if y.k=0 then ts else y::yt)->
   Fr Y w v/\∃Y',zZ bo bd pa pb (some ⟨b1,o1,none⟩) (some ⟨b2,o2,none⟩) c d a b lo Y' (M++if (aQ (y::yt)).k=0 then ts else y::yt) (i+ts.length) (k+(y::yt).length) v/\∀q,Y' q->Y q\/w.heap.size<=q):=aD (by
  intro zs A9 wV v hm hf hy hz he;refine ⟨hf.mono fun q hq=>(H.out.y q).2 hq,lX bo bd A9,⟨A9,wV,_,_,hm,Nat.le_of_eq Un.out,hlt,?_,?_,fun q=>Iff.rfl⟩,fun q hq=>?_⟩
  ·rw [show (aQ (y::yt)).k=y.k from rfl,<-he,show (a.take (i+ts.length)).drop ie=[] from M6 (by rw [Un.out];simp;omega),lI,H.out.all,kE]
  ·rw [show (aQ (y::yt)).k=y.k from rfl,<-he,jX]
   have:=H.out.few;simp only [mX];omega
  ·rcases hy q hq with h|h
   ·exact .inl ((H.out.y q).2 h)
   ·exact .inr h)
 by_cases hy0:y.k=0
 ·have bY:(y.k==0)=true:=by simp [hy0]
  go_upto_region 4 with fail
  obtain ⟨SS,hSS⟩:∃SS:World->Prop,SS=fun v=>v.cell? ⟨bo,0,none⟩=some (.slice A7 (OUT++(a.take i).drop dn).length Cx)/\v.cell? ⟨bd,0,none⟩=some (.int .i64 (ie:Int))/\v.cell? ⟨pa,0,none⟩=some (.slice (some ⟨b1,o1,none⟩) a.length c)/\v.cell? ⟨pb,0,none⟩=some (.slice (some ⟨b2,o2,none⟩) b.length d):=⟨_,rfl⟩;obtain ⟨we,jV⟩:∃we,we=dA.drew:=⟨_,rfl⟩;have iP:Hid (Below dA.heap.size dA we):=aD (by rw [jV];exact (aF _ _).drew);have zw:=aD (xL.out.1.later HO.out iP.out);have hse:SS we:=by rw [hSS];exact zw.out.cells
  clear Uq Ur Ut Uu c20 c21 IU;refine aI (S:=SS) [6] (by kernel_rfl) (by rw [<-jV];exact hse) (fun hHeld=>?_);rw [<-jV] at hHeld ⊢;clear jV;refine aL 0 [5,6] (some 24) rfl rfl ?_;refine aL 1 [4,5,6] (some 25) rfl rfl ?_;refine aL 2 [4,5,6] (some 26) rfl rfl ?_;refine aL 3 [4,5,6] (some 27) rfl rfl ?_;refine aL 4 [5,6] (some 28) rfl rfl ?_;refine aC ?_
  have HT2:Hid (bO we base (if c=i then some ⟨b1,o1,none⟩ else some ⟨b1,o1+i*3,none⟩) ((a.take ie).drop i)):=aD (by
   rw [if_neg (by omega)];exact (NI.out we iP.out).1.sub i ie)
  refine dQ 5 rfl (by kernel_rfl) (by rfl) ?_;refine xK (.tmp 24) (.tmp 28) (by rfl) lo (m:=OUT.length+(i-dn)) (n:=(ie-i)) u_.out (by rfl) zw.out.own (kW (by omega)) (by rfl) HT2.out (by omega) zw.out.lo (some 29) rfl ?_;intro A9 wV fJ nA sJ Ql;have K9:=aD (zw.out.app HO.out nA sJ Ql);have WW:SS fJ:=by rw [hSS];exact ⟨K9.out.2.2.2.2.1,K9.out.2.2.2.2.2.1,K9.out.2.2.2.2.2.2.1,K9.out.2.2.2.2.2.2.2.1⟩
  clear nA sJ Ql;refine ⟨fun _=>WW,?_⟩;refine aC ?_;have kf:=K9.out.2.2.2.2.2.2.2.2;have ka:=K9.out.2.2.2.2.1;refine je 6 none (w':=?_) rfl rfl (by kernel_rfl) (by rfl) ?_ (zL (by kernel_rfl)) ?_
  rotate_left
  ·(go_simp;try with_reducible rfl)
  refine aC ?_;refine bG (by kernel_rfl) ?_ _;clear kf ka WW hHeld hse;obtain ⟨fP,Fv⟩:∃fP,fP=fJ.setCell ⟨bo,0,none⟩ (.slice A9 (OUT.length+(i-dn)+(ie-i)) wV):=⟨_,rfl⟩
  have HP:Hid (Fr Y w fP/\∃Y',zZ bo bd pa pb (some ⟨b1,o1,none⟩) (some ⟨b2,o2,none⟩) c d a b lo Y' (M++if (aQ (y::yt)).k=0 then ts else y::yt) (i+ts.length) (k+(y::yt).length) fP/\∀q,Y' q->Y q\/w.heap.size<=q):=aD (by
   have h1:=K9.out.1;have h2:=K9.out.2.1;have h3:=K9.out.2.2.1;have hl:((a.take ie).drop i).length=(ie-i):=(kW (by omega));rw [hl,u_.out,<-Fv] at h1 h2;have hfw:Fr (lX bo bd OA) w we:=xL.out.2.trans (Fr.below iP.out);refine WV.out _ A9 wV fP h1 (Fr.new hfw h2 vU.out.2.2) (fun q hq=>?_) (by rw [hl];first|(rw [Un.out];omega)|(rw [Uo.out];simp only [mX];omega)) (by rw [Un.out,wP HD.out.1];simp [hy0]);rcases h3 q hq with h|h
   ·exact vU.out.2.2 q h
   ·exact .inr (Ed hfw.size h))
  rw [<-Fv];clear Fv;go_wp2_with fail;go_ret;have hp:=HP.out;simp only [show (aQ (y::yt)).k=y.k from rfl,hy0,if_true,mX] at hp;exact ⟨rfl,hp⟩
 ·have bY:(y.k==0)=false:=by simp [hy0]
  go_upto_region 6 with fail
  obtain ⟨SS,hSS⟩:∃SS:World->Prop,SS=fun v=>v.cell? ⟨bo,0,none⟩=some (.slice A7 (OUT++(a.take i).drop dn).length Cx)/\v.cell? ⟨bd,0,none⟩=some (.int .i64 (ie:Int))/\v.cell? ⟨pa,0,none⟩=some (.slice (some ⟨b1,o1,none⟩) a.length c)/\v.cell? ⟨pb,0,none⟩=some (.slice (some ⟨b2,o2,none⟩) b.length d):=⟨_,rfl⟩;obtain ⟨we,jV⟩:∃we,we=dA.drew:=⟨_,rfl⟩;have iP:Hid (Below dA.heap.size dA we):=aD (by rw [jV];exact (aF _ _).drew);have zw:=aD (xL.out.1.later HO.out iP.out);have hse:SS we:=by rw [hSS];exact zw.out.cells
  clear Uq Ur Ut Uu c20 c21 IU;refine aI (S:=SS) [8] (by kernel_rfl) (by rw [<-jV];exact hse) (fun hHeld=>?_);rw [<-jV] at hHeld ⊢;clear jV;refine aL 0 [7,8] (some 30) rfl rfl ?_;refine aL 1 [6,7,8] (some 31) rfl rfl ?_;refine aL 2 [6,7,8] (some 32) rfl rfl ?_;refine aL 3 [5,6,7,8] (some 33) rfl rfl ?_;refine aL 4 [5,6,7,8] (some 34) rfl rfl ?_;have WX:=aD (pV (some ⟨b2,o2,none⟩) d b (y::yt) s k we (((NI.out we iP.out).2.1).more (NI.out we iP.out).2.2) hlb HD.out.2.1 HD.out.2.2.2.1 HD.out.2.2.2.2.2);rw [<-Uo.out] at WX;refine bD 5 (some 35) rfl rfl (by kernel_rfl) (by rfl) (by kernel_rfl) WX.out ?_;rintro e wf ⟨rfl,hbf⟩;have Eu:Hid (Below dA.heap.size dA wf):=aD (au iP.out hbf);have HMf:=aD (xL.out.1.later HO.out Eu.out);have hsf:SS wf:=by rw [hSS];exact HMf.out.cells
  refine ⟨_,rfl,hsf,?_⟩;refine aC ?_;clear hse hbf;refine aL 6 [7,8] (some 36) rfl rfl ?_;refine aC ?_
  have HT2:Hid (bO wf base (if d=k then some ⟨b2,o2,none⟩ else some ⟨b2,o2+k*3,none⟩) ((b.take ke).drop k)):=aD (by
   rw [if_neg (by omega)];exact (NI.out wf Eu.out).2.1.sub k ke)
  refine dQ 7 rfl (by kernel_rfl) (by rfl) ?_;refine xK (.tmp 30) (.tmp 36) (by rfl) lo (m:=OUT.length+(i-dn)) (n:=(ke-k)) u_.out (by rfl) HMf.out.own (kW (by rw [Uo.out];simp only [mX];omega)) (by rfl) HT2.out (by omega) HMf.out.lo (some 37) rfl ?_;intro A9 wV fJ nA sJ Ql;have K9:=aD (HMf.out.app HO.out nA sJ Ql);have WW:SS fJ:=by rw [hSS];exact ⟨K9.out.2.2.2.2.1,K9.out.2.2.2.2.2.1,K9.out.2.2.2.2.2.2.1,K9.out.2.2.2.2.2.2.2.1⟩
  clear nA sJ Ql;refine ⟨fun _=>WW,?_⟩;refine aC ?_;have kf:=K9.out.2.2.2.2.2.2.2.2;have ka:=K9.out.2.2.2.2.1;refine je 8 none (w':=?_) rfl rfl (by kernel_rfl) (by rfl) ?_ (zL (by kernel_rfl)) ?_
  rotate_left
  ·(go_simp;try with_reducible rfl)
  refine aC ?_;refine bG (by kernel_rfl) ?_ _;clear kf ka WW hHeld hsf;obtain ⟨fP,Fv⟩:∃fP,fP=fJ.setCell ⟨bo,0,none⟩ (.slice A9 (OUT.length+(i-dn)+(ke-k)) wV):=⟨_,rfl⟩
  have HP:Hid (Fr Y w fP/\∃Y',zZ bo bd pa pb (some ⟨b1,o1,none⟩) (some ⟨b2,o2,none⟩) c d a b lo Y' (M++if (aQ (y::yt)).k=0 then ts else y::yt) (i+ts.length) (k+(y::yt).length) fP/\∀q,Y' q->Y q\/w.heap.size<=q):=aD (by
   have h1:=K9.out.1;have h2:=K9.out.2.1;have h3:=K9.out.2.2.1;have hl:((b.take ke).drop k).length=(ke-k):=(kW (by rw [Uo.out];simp only [mX];omega));rw [hl,u_.out,<-Fv] at h1 h2;have hfw:Fr (lX bo bd OA) w wf:=xL.out.2.trans (Fr.below Eu.out);refine WV.out _ A9 wV fP h1 (Fr.new hfw h2 vU.out.2.2) (fun q hq=>?_) (by rw [hl];first|(rw [Un.out];omega)|(rw [Uo.out];simp only [mX];omega)) (by rw [Uo.out,wP HD.out.2.1];simp [hy0]);rcases h3 q hq with h|h
   ·exact vU.out.2.2 q h
   ·exact .inr (Ed hfw.size h))
  rw [<-Fv];clear Fv;go_wp2_with fail;go_ret;have hp:=HP.out;simp only [show (aQ (y::yt)).k=y.k from rfl,hy0,if_false,mX] at hp;exact ⟨rfl,hp⟩
theorem Uv (bo bd pa pb base lo:Nat) (A B:Option Addr) (c d:Nat) (a b:List Nd) (hO:Cw bo bd pa pb base lo) (hla:a.length<=1000000000) (hlb:b.length<=1000000000) (hc:a.length<=c) (hd:b.length<=d):
  Ovr 138 #[.pointer (some ⟨bo,0,none⟩),.pointer (some ⟨pa,0,none⟩),.pointer (some ⟨bd,0,none⟩),.pointer (some ⟨pb,0,none⟩)] a b A B base (zZ bo bd pa pb A B c d a b lo) where
 eg:=Um
 low:=by
  rintro Y M i k w ⟨OA,oc,OUT,dn,h⟩ q hq;have hlo:=h.m.lo;rcases (h.y q).1 hq with e|e|⟨p,hp,hb⟩
  ·have:=hO.o;omega
  ·have:=hO.d;omega
  ·have:=aB.lt h.m.own p hp
   have:=hO.o;omega
 later:=by
  rintro Y M i k w w' ⟨OA,oc,OUT,dn,h⟩ hb;exact ⟨OA,oc,OUT,dn,h.m.later hO hb,h.di,h.il,h.all,h.few,h.y⟩
 node:=by
  rintro Y M i k x w ⟨OA,oc,OUT,dn,h⟩ hx;have:=aU hx;have:=h.di;refine ⟨OA,oc,OUT,dn,h.m,by omega,by omega,?_,?_,h.y⟩
  ·rw [h.all,take_drop_succ hx h.di,kE]
  ·have:=h.few
   rw [jX,List.length_singleton];omega
 dyn:=fun Y M i k ts us r s w h1 h2 h3 h4 h5 h6 _ h8 h9 h10 h11=>Qj bo bd pa pb base lo A B c d a b hO hla hlb hc hd Y M i k ts us r s w h1 h2 h3 h4 h5 h6 h8 h9 h10 h11
def WY (a b:List Nd) (w:World) (e:Ending) (w':World):Prop:=
 Below w.heap.size w w'/\match met 1 a b with
  |some m=>∃A' cap',e= .returned (.tuple #[.slice A' m.length cap',.int .i64 0])/\dK w' w.heap.size A' cap' m
  |none=>e= .returned (.tuple #[.slice none 0 0,.int .i64 9])
theorem WZ (w:World) (c0 c1 c2 c3 c4:Array Value) (t0 t1 t2 t3 t4:TypeId) (W:World) (hW:W=((((w.alloc (.cells c0 t0)).alloc (.cells c1 t1)).alloc (.cells c2 t2)).alloc (.cells c3 t3)).alloc (.cells c4 t4)):
  W.heap[w.heap.size]?=some (.cells c0 t0 (0,0))/\W.heap[w.heap.size+1]?=some (.cells c1 t1 (0,0))/\W.heap[w.heap.size+1+1]?=some (.cells c2 t2 (0,0))/\W.heap[w.heap.size+1+1+1]?=some (.cells c3 t3 (0,0))/\W.heap[w.heap.size+1+1+1+1]?=some (.cells c4 t4 (0,0))/\Below w.heap.size w W/\W.heap.size=w.heap.size+5:=by
 subst hW;obtain ⟨w1,h1⟩:∃w1,w1=w.alloc (.cells c0 t0):=⟨_,rfl⟩;obtain ⟨w2,h2⟩:∃w2,w2=w1.alloc (.cells c1 t1):=⟨_,rfl⟩;obtain ⟨w3,h3⟩:∃w3,w3=w2.alloc (.cells c2 t2):=⟨_,rfl⟩;obtain ⟨w4,h4⟩:∃w4,w4=w3.alloc (.cells c3 t3):=⟨_,rfl⟩;have s1:w1.heap.size=w.heap.size+1:=by rw [h1];simp
 have s2:w2.heap.size=w.heap.size+1+1:=by rw [h2,Er,s1]
 have s3:w3.heap.size=w.heap.size+1+1+1:=by rw [h3,Er,s2]
 have s4:w4.heap.size=w.heap.size+1+1+1+1:=by rw [h4,Er,s3]
 rw [<-h1,<-h2,<-h3,<-h4];have n0:=heap_alloc_new w (.cells c0 t0);have n1:=heap_alloc_new w1 (.cells c1 t1);have n2:=heap_alloc_new w2 (.cells c2 t2);have n3:=heap_alloc_new w3 (.cells c3 t3);have n4:=heap_alloc_new w4 (.cells c4 t4);have e1:=fun q (hq:q<w1.heap.size)=>Ew w1 (.cells c1 t1) q hq;have e2:=fun q (hq:q<w2.heap.size)=>Ew w2 (.cells c2 t2) q hq;have e3:=fun q (hq:q<w3.heap.size)=>Ew w3 (.cells c3 t3) q hq;have e4:=fun q (hq:q<w4.heap.size)=>Ew w4 (.cells c4 t4) q hq;rw [<-h1] at n0;rw [<-h2,s1] at n1;rw [<-h3,s2] at n2;rw [<-h4,s3] at n3;rw [s4] at n4;rw [<-h2] at e1;rw [<-h3] at e2;rw [<-h4] at e3;refine ⟨?_,?_,?_,?_,n4,?_,?_⟩
 ·rw [e4 _ (by omega),e3 _ (by omega),e2 _ (by omega),e1 _ (by omega),n0]
 ·rw [e4 _ (by omega),e3 _ (by omega),e2 _ (by omega),n1]
 ·rw [e4 _ (by omega),e3 _ (by omega),n2]
 ·rw [e4 _ (by omega),n3]
 ·rw [h4,h3,h2,h1]
  exact aj (aj (aj (aj (aj (aF _ _) _) _) _) _) _
 ·rw [Er,s4]
theorem JF (A B:Option Addr) (c d:Nat) (a b:List Nd) (w:World) (ha:bO w w.heap.size A a) (hb:bO w w.heap.size B b) (ga:Gd a) (gb:Gd b) (hc:a.length<=c) (hd:b.length<=d):
  Calls Tryz.prog 111 #[.slice A a.length c,.slice B b.length d] w (WY a b w):=by
 obtain ⟨x0,hx0⟩:=aN (l:=a) (i:=0) ga.fo.pos;obtain ⟨b1,o1,eA,_,_,_,_⟩:=ha.at_ hx0;subst eA;clear hx0;go_enter Tryz.func111,Tryz.ntmps111;go_upto_region 5 with fail
 obtain ⟨W,hW⟩:∃W,W=((((w.alloc (.cells #[.slice (some ⟨b1,o1,none⟩) a.length c] 28)).alloc (.cells #[.slice B b.length d] 28)).alloc (.cells #[.slice none 0 0] 28)).alloc (.cells #[.int .i64 0] 3)).alloc
   (.cells #[.slice (some ⟨b1,o1,none⟩) a.length c,.slice B b.length d,.func (.func 138) #[] #[.pointer (some ⟨w.heap.size+1+1,0,none⟩),.pointer (some ⟨w.heap.size,0,none⟩),.pointer (some ⟨w.heap.size+1+1+1,0,none⟩),.pointer (some ⟨w.heap.size+1,0,none⟩)]] 148):=⟨_,rfl⟩
 obtain ⟨k0,k1,k2,k3,k4,hb5,hs5⟩:=WZ w _ _ _ _ _ _ _ _ _ _ W hW;rw [<-hW];clear hW
 have hO:Cw (w.heap.size+1+1) (w.heap.size+1+1+1) w.heap.size (w.heap.size+1) w.heap.size (w.heap.size+5):=by
  constructor<;>omega
 have hS:zZ (w.heap.size+1+1) (w.heap.size+1+1+1) w.heap.size (w.heap.size+1) (some ⟨b1,o1,none⟩) B c d a b (w.heap.size+5) (lX (w.heap.size+1+1) (w.heap.size+1+1+1) none) [] 0 0 W:=
  ⟨none,0,[],0,⟨k2,k3,k0,k1,aB.nil,by omega⟩,aG _,Nat.zero_le _,by simp,by simp,fun q=>Iff.rfl⟩
 have Hov:=aD (JD _ _ a b (some ⟨b1,o1,none⟩) B c d w.heap.size _ (Uv (w.heap.size+1+1) (w.heap.size+1+1+1) w.heap.size (w.heap.size+1) w.heap.size (w.heap.size+5) (some ⟨b1,o1,none⟩) B c d a b hO ga.len gb.len hc hd) ga.len gb.len a.length a b [] [] [] 0 0 _ W (aG _) (by simp) (by simp) ga.ok gb.ok ga.fo gb.fo (by rw [ga.s,gb.s]) (ha.below hb5) (hb.below hb5) hb5.size hS);have HO:=aD hO;have z_:=aD hb5;have HA:=aD (Cj ha (Cj hb (Cj ga gb)));have p0:W.cell? ⟨w.heap.size+1+1+1+1,0,none⟩=some (.slice (some ⟨b1,o1,none⟩) a.length c):=by simp [Ck,k4]
 have p1:W.cell? ⟨w.heap.size+1+1+1+1,1,none⟩=some (.slice B b.length d):=by simp [Ck,k4]
 have p2:W.cell? ⟨w.heap.size+1+1+1+1,2,none⟩=some (.func (.func 138) #[] #[.pointer (some ⟨w.heap.size+1+1,0,none⟩),.pointer (some ⟨w.heap.size,0,none⟩),.pointer (some ⟨w.heap.size+1+1+1,0,none⟩),.pointer (some ⟨w.heap.size+1,0,none⟩)]):=by simp [Ck,k4]
 clear k0 k1 k2 k3 k4 hb5 hs5 hO hS ha hb ga gb;go_wp2_with fail;refine Hov.out.mono ?_;rintro e w2 ⟨hf,h⟩
 have HB2:Hid (Below w.heap.size w w2):=aD (by
  have hz:=z_.out.size;refine ⟨hf.os.trans z_.out.os,hf.tape.trans z_.out.tape,hf.output.trans z_.out.output,Ed hz hf.size,fun q hq=>(hf.block q (by omega) ?_).trans (z_.out.block q hq)⟩;rintro (e|e|⟨p,hp,_⟩)
  ·omega
  ·omega
  ·cases hp)
 clear p0 p1 p2 hf;rcases h with ⟨zs,Y',hm,rfl,hst,_⟩|⟨hm,rfl⟩
 ·obtain ⟨OA,oc,OUT,dn,S2⟩:=hst
  simp only [List.nil_append,Nat.zero_add] at S2;have hdl:=S2.di;have hdc:dn<=c:=Ed hdl hc;have HM:=aD (Cj hm S2)
  have hOL:OUT.length+(a.length-dn)<=2000000000:=by
   have h1:=S2.few;rw [S2.all,jX,kW (aG _)] at h1;have:=HA.out.2.2.1.len;have:=HA.out.2.2.2.len;omega
  clear hm S2;by_cases he:c=dn
  ·have hz2:=HB2.out.size
   go_upto_region 8 with fail
   obtain ⟨SS,hSS⟩:∃SS:World->Prop,SS=fun v=>v.cell? ⟨w.heap.size+1+1,0,none⟩=some (.slice OA OUT.length oc)/\v.cell? ⟨w.heap.size+1+1+1,0,none⟩=some (.int .i64 (dn:Int))/\v.cell? ⟨w.heap.size,0,none⟩=some (.slice (some ⟨b1,o1,none⟩) a.length c)/\v.cell? ⟨w.heap.size+1,0,none⟩=some (.slice B b.length d):=⟨_,rfl⟩;obtain ⟨we,jV⟩:∃we,we=w2.drew:=⟨_,rfl⟩;have iP:Hid (Below w.heap.size w we):=aD (by rw [jV];exact HB2.out.drew);have zw:=aD (HM.out.2.m.later HO.out (show Below w2.heap.size w2 we by rw [jV];exact (aF _ _).drew));have hse:SS we:=by rw [hSS];exact zw.out.cells
   refine aI (S:=SS) [4] (by kernel_rfl) (by rw [<-jV];exact hse) (fun hHeld=>?_);rw [<-jV] at hHeld ⊢;clear jV;refine aL 0 [4,5,6] (some 25) rfl rfl ?_;refine aL 1 [3,4,5,6] (some 26) rfl rfl ?_;refine aL 2 [3,4,5,6] (some 27) rfl rfl ?_;refine aL 3 [4,5,6] (some 28) rfl rfl ?_;refine aC ?_
   have HT2:Hid (bO we w.heap.size (some ⟨b1,o1,none⟩) ((a.take a.length).drop dn)):=aD (by
    have:((a.take a.length).drop dn)=[]:=M6 (by simp;omega);rw [this];exact bO.nil)
   refine dQ 4 rfl (by kernel_rfl) (by rfl) ?_;refine xK (.tmp 25) (.tmp 28) (by rfl) (w.heap.size+5) (m:=OUT.length) (n:=a.length-dn) rfl (by rfl) zw.out.own (kW (aG _)) (by rfl) HT2.out (by omega) zw.out.lo (some 29) rfl ?_;intro A9 wV w9 nA sJ _
   have HP:Hid (Below w.heap.size w w9/\∃A' cap',Ending.returned (.tuple #[.slice A9 (OUT.length+(a.length-dn)) wV,.int .i64 0])= .returned (.tuple #[.slice A' zs.length cap',.int .i64 0])/\dK w9 w.heap.size A' cap' zs):=aD (by
    have hz:OUT++(a.take a.length).drop dn=zs:=HM.out.2.all.symm;have hl:=congrArg uS hz;rw [jX,kW (aG _)] at hl;rw [hz] at nA;exact ⟨jw iP.out sJ (fun k hk=>by have:=(aB.block zw.out.own k hk).1;omega),A9,wV,by rw [hl],aB.lower nA (by omega)⟩)
   clear nA sJ;refine ⟨zL (by kernel_rfl),?_⟩;refine aC ?_;refine bB 5 (some 4) rfl rfl (by kernel_rfl) (by rfl) (by go_simp;first|with_reducible rfl|(constructor<;>with_reducible rfl)) (zL (by kernel_rfl)) ?_;refine aC ?_;refine bB 6 (some 5) rfl rfl (by kernel_rfl) (by rfl) (by go_simp;first|with_reducible rfl|(constructor<;>with_reducible rfl)) (zL (by kernel_rfl)) ?_;refine aC ?_;refine bG (by kernel_rfl) ?_ _;go_wp2_with fail;go_ret2;refine ⟨HP.out.1,?_⟩;rw [HM.out.1];exact HP.out.2
  ·have hz2:=HB2.out.size
   go_upto_region 8 with fail
   obtain ⟨SS,hSS⟩:∃SS:World->Prop,SS=fun v=>v.cell? ⟨w.heap.size+1+1,0,none⟩=some (.slice OA OUT.length oc)/\v.cell? ⟨w.heap.size+1+1+1,0,none⟩=some (.int .i64 (dn:Int))/\v.cell? ⟨w.heap.size,0,none⟩=some (.slice (some ⟨b1,o1,none⟩) a.length c)/\v.cell? ⟨w.heap.size+1,0,none⟩=some (.slice B b.length d):=⟨_,rfl⟩;obtain ⟨we,jV⟩:∃we,we=w2.drew:=⟨_,rfl⟩;have iP:Hid (Below w.heap.size w we):=aD (by rw [jV];exact HB2.out.drew);have zw:=aD (HM.out.2.m.later HO.out (show Below w2.heap.size w2 we by rw [jV];exact (aF _ _).drew));have hse:SS we:=by rw [hSS];exact zw.out.cells
   refine aI (S:=SS) [4] (by kernel_rfl) (by rw [<-jV];exact hse) (fun hHeld=>?_);rw [<-jV] at hHeld ⊢;clear jV;refine aL 0 [4,5,6] (some 25) rfl rfl ?_;refine aL 1 [3,4,5,6] (some 26) rfl rfl ?_;refine aL 2 [3,4,5,6] (some 27) rfl rfl ?_;refine aL 3 [4,5,6] (some 28) rfl rfl ?_;refine aC ?_;have HT2:Hid (bO we w.heap.size (some ⟨b1,o1+dn*3,none⟩) ((a.take a.length).drop dn)):=aD ((HA.out.1.below iP.out).sub dn a.length);refine dQ 4 rfl (by kernel_rfl) (by rfl) ?_;refine xK (.tmp 25) (.tmp 28) (by rfl) (w.heap.size+5) (m:=OUT.length) (n:=a.length-dn) rfl (by rfl) zw.out.own (kW (aG _)) (by rfl) HT2.out (by omega) zw.out.lo (some 29) rfl ?_;intro A9 wV w9 nA sJ _
   have HP:Hid (Below w.heap.size w w9/\∃A' cap',Ending.returned (.tuple #[.slice A9 (OUT.length+(a.length-dn)) wV,.int .i64 0])= .returned (.tuple #[.slice A' zs.length cap',.int .i64 0])/\dK w9 w.heap.size A' cap' zs):=aD (by
    have hz:OUT++(a.take a.length).drop dn=zs:=HM.out.2.all.symm;have hl:=congrArg uS hz;rw [jX,kW (aG _)] at hl;rw [hz] at nA;exact ⟨jw iP.out sJ (fun k hk=>by have:=(aB.block zw.out.own k hk).1;omega),A9,wV,by rw [hl],aB.lower nA (by omega)⟩)
   clear nA sJ;refine ⟨zL (by kernel_rfl),?_⟩;refine aC ?_;refine bB 5 (some 4) rfl rfl (by kernel_rfl) (by rfl) (by go_simp;first|with_reducible rfl|(constructor<;>with_reducible rfl)) (zL (by kernel_rfl)) ?_;refine aC ?_;refine bB 6 (some 5) rfl rfl (by kernel_rfl) (by rfl) (by go_simp;first|with_reducible rfl|(constructor<;>with_reducible rfl)) (zL (by kernel_rfl)) ?_;refine aC ?_;refine bG (by kernel_rfl) ?_ _;go_wp2_with fail;go_ret2;refine ⟨HP.out.1,?_⟩;rw [HM.out.1];exact HP.out.2
 ·have HM:=aD hm
  clear hm;go_wp2_with fail;go_ret2;refine ⟨HB2.out,?_⟩;rw [HM.out];rfl
def uh (s:ByteArray):List Value:=[.string s]
theorem j6 (s:ByteArray):(uh s).length=1:=rfl
abbrev q9 (w:World) (B:Nat) (A:Option Addr) (l:List ByteArray):Prop:=bf 1 uh w B A l
theorem bf.str {w:World} {B:Nat} {A:Option Addr} {l:List ByteArray} (h:q9 w B A l) {i:Nat} {s:ByteArray} (hn:l[i]?=some s):
  ∃b o,A=some ⟨b,o,none⟩/\b<B/\w.cell? ⟨b,o+i,none⟩=some (.string s):=by
 obtain ⟨b,o,rfl,hb,hc⟩:=h (by rintro rfl;simp at hn);have:=hc i s hn 0 _ rfl;rw [Nat.mul_one,Nat.add_zero] at this;exact ⟨b,o,rfl,hb,this⟩
def kX (kind:Int) (ls:List ByteArray) (k:Nat):Bool:=(ls.drop k).any fun s=> !bR kind s
theorem IX {kind:Int} {ls:List ByteArray} {k:Nat} {s:ByteArray} (hx:ls[k]?=some s):kX kind ls k=(!bR kind s||kX kind ls (k+1)):=by
 unfold kX;have e:ls.drop k=s::ls.drop (k+1):=by rw [List.drop_eq_getElem_cons (aU hx),(List.getElem?_eq_some_iff.1 hx).2]
 rw [e,List.any_cons]
theorem KW {kind:Int} {ls:List ByteArray} {k:Nat} (h:¬k<ls.length):kX kind ls k=false:=by
 unfold kX;rw [List.drop_of_length_le (by omega)];rfl
theorem Aa (s:ByteArray) (w:World):Calls Tryz.prog 151 #[.string s] w fun e w'=>e= .returned (.bool false)/\w=w':=by
 go_enter Tryz.func151,Tryz.ntmps151;go_wp2_with fail;go_ret;exact ⟨aT (by simp),rfl⟩
def zN (a b:ByteArray):Int:=if Op.bytesLess a.toList b.toList=true then-1 else if (a.toList==b.toList)=true then 0 else 1
theorem KX (a b:ByteArray) (w:World):Calls Tryz.prog 132 #[.string a,.string b] w fun e w'=>e= .returned (.int .i64 (zN a b))/\w=w':=by
 cases h1:Op.bytesLess a.toList b.toList
 ·cases h2:a.toList==b.toList
  ·have hc:=aD (show zN a b=1 by unfold zN;rw [h1,h2];rfl)
   go_enter Tryz.func132,Tryz.ntmps132;go_wp2_with (go_at_call 151;refine (Aa _ _).mono ?_;rintro e w1 ⟨rfl,rfl⟩);go_ret;exact ⟨kS (by rw [hc.out]),rfl⟩
  ·have hc:=aD (show zN a b=0 by unfold zN;rw [h1,h2];rfl)
   go_enter Tryz.func132,Tryz.ntmps132;go_wp2_with (go_at_call 151;refine (Aa _ _).mono ?_;rintro e w1 ⟨rfl,rfl⟩);go_ret;exact ⟨kS (by rw [hc.out]),rfl⟩
 ·have hc:=aD (show zN a b= -1 by unfold zN;rw [h1];rfl)
  go_enter Tryz.func132,Tryz.ntmps132;go_wp2_with (go_at_call 151;refine (Aa _ _).mono ?_;rintro e w1 ⟨rfl,rfl⟩);go_ret;exact ⟨kS (by rw [hc.out]),rfl⟩
def gN:List Nd->List (List Nd)
 |[]=>[]
 |x::xt=>dM (manyN x) xt
def wQ:List Nd:=[⟨0,bZ,0⟩]
def iQ (t:List Nd):Option (List Nd×List Nd):=
 if (aQ t).k=0 then some (wQ,wQ) else
 if (aQ t).k=5 then some (kV ((gN t).headD []),kV ((gN t).tail.headD [])) else none
def bJ (t:List Nd) (s:ByteArray):Option (List Nd):=
 if (aQ t).k=0 then some wQ else
 if bK (aQ t).k=true then ((gN t).find? fun ts=>(aQ ts).s.toList==s.toList).map kV else none
def kI (t:List Nd):Option (List ByteArray):=
 if (aQ t).k=0 then some [] else
 if (aQ t).k=7 then some ((gN t).map fun ts=>(aQ ts).s) else none
theorem uD {T:List Nd}:∀(n at_:Nat) (ks rest:List Nd),T.drop at_=ks++rest->bI ks->Fo n ks->∀(j pos:Nat),(aZ T n at_)[j]?=some pos->∃ts r,(dM n ks)[j]?=some ts/\T.drop pos=ts++r/\Fo 1 ts/\bI ts
 |0,_,_,_,_,_,_,j,pos,h=>by simp [aZ] at h
 |n+1,at_,ks,rest,hd,hok,hf,j,pos,h=>by
  obtain ⟨ts,rs,rfl,h1,h2⟩:=hf.first;rw [kE] at hd;have hlt:at_<T.length:=mH hd h1.pos;have h3:=jL hd (iB hok) h1;unfold aZ at h;rw [if_pos hlt,h3] at h;have hr:cZ (ts++rs)=rs:=iN h1
  have hs:dM (n+1) (ts++rs)=ts::dM n rs:=by
   show (ts++rs).take ((ts++rs).length-(cZ (ts++rs)).length)::dM n (cZ (ts++rs))=_;rw [hr,jX,nZ,xO]
  cases j with
  |zero=>
   simp at h;subst h
   exact ⟨ts,rs++rest,by rw [hs];rfl,hd,h1,iB hok⟩
  |succ j=>
   rw [FR] at h;obtain ⟨us,r,e1,e2,e3,e4⟩:=uD n (at_+ts.length) rs rest (iM hd) (iY hok) h2 j pos h;exact ⟨us,r,by rw [hs,FR];exact e1,e2,e3,e4⟩
theorem xM:∀(n:Nat) (ks:List Nd),(dM n ks).length=n
 |0,_=>rfl
 |n+1,ks=>by simp [dM,xM n]
theorem JG {α:Type} {p:α->Bool}:∀(l:List α),(l.findIdx? p=none/\l.find? p=none)\/∃k x,l.findIdx? p=some k/\l[k]?=some x/\l.find? p=some x
 |[]=>.inl ⟨rfl,rfl⟩
 |x::l=>by
  cases hp:p x with
  |true=>exact .inr ⟨0,x,by simp [List.findIdx?_cons,hp],rfl,by simp [hp]⟩
  |false=>
   rcases JG (p:=p) l with ⟨h1,h2⟩|⟨k,y,h1,h2,h3⟩
   ·exact .inl ⟨by simp [List.findIdx?_cons,hp,h1],by simp [hp,h2]⟩
   ·exact .inr ⟨k+1,y,by simp [List.findIdx?_cons,hp,h1],by simpa using h2,by simp [hp,h3]⟩
theorem NJ (A:Option Addr) (c:Nat) (x:Nd) (xt:List Nd) (w:World) (ha:bO w w.heap.size A (x::xt)):
  Calls Tryz.prog 116 #[.slice A (x::xt).length c] w fun e w'=>e= .returned (.bool (bK x.k))/\Below w.heap.size w w':=by
 obtain ⟨b,o,rfl,hb,c0,_,_⟩:=ha.at_ (i:=0) (x:=x) rfl;rw [show o+0*3=o by omega] at c0;clear ha;simp only [mX];go_enter Tryz.func116,Tryz.ntmps116;by_cases h6:x.k=6
 ·have b6:(x.k==6)=true:=by simp [h6]
  have hr:bK x.k=true:=by simp [bK,h6]
  have HR:=aD hr;clear h6 hr;go_wp2_with fail;go_ret;exact ⟨by rw [HR.out];rfl,aF _ _⟩
 ·have b6:(x.k==6)=false:=by simp [h6]
  have hr:bK x.k=(x.k==7):=by simp [bK,h6]
  have HR:=aD hr;clear h6 hr;go_wp2_with fail;go_ret;exact ⟨by rw [HR.out];rfl,aF _ _⟩
theorem W9 (w:World):dK ((w.alloc (.cells #[.int .i64 0,.string bZ,.int .i64 0] 49)).alloc (.cells #[.int .i64 0,.string bZ,.int .i64 0] 49)) w.heap.size (some ⟨w.heap.size+1,0,none⟩) 1 wQ:=by
 have h:=uZ (w.alloc (.cells #[.int .i64 0,.string bZ,.int .i64 0] 49)) ⟨0,bZ,0⟩;rw [Er] at h;exact aB.lower h (by omega)
def Uw (t:List Nd) (w:World) (e:Ending) (w':World):Prop:=
 Below w.heap.size w w'/\match iQ t with
  |some (a,b)=>∃A1 c1 A2 c2,e= .returned (.tuple #[.slice A1 a.length c1,.slice A2 b.length c2,.int .i64 0])/\dK w' w.heap.size A1 c1 a/\dK w' w.heap.size A2 c2 b
  |none=>e= .returned (.tuple #[.slice none 0 0,.slice none 0 0,.int .i64 9])
theorem Cy (A:Option Addr) (c:Nat) (t:List Nd) (w:World) (ha:bO w w.heap.size A t) (g:Gd t) (hc:t.length<=c):
  Calls Tryz.prog 98 #[.slice A t.length c] w (Uw t w):=by
 rcases t with _|⟨x,xt⟩
 ·exact absurd g.fo.pos (by simp)
 obtain ⟨b,o,rfl,hb,c0,_,_⟩:=ha.at_ (i:=0) (x:=x) rfl;rw [show o+0*3=o by omega] at c0;have HA:=aD (Cj ha g);have hl:=g.len;simp only [mX] at hl hc;clear ha g;simp only [mX];go_enter Tryz.func98,Tryz.ntmps98;by_cases h0:x.k=0
 ·have b0:(x.k==0)=true:=by simp [h0]
  have HR:Hid (iQ (x::xt)=some (wQ,wQ)):=aD (by simp [iQ,aQ,h0]);clear h0;go_wp2_with fail;go_ret3;refine ⟨aj (aj (aF _ _) _) _,?_⟩;rw [HR.out];exact ⟨_,1,_,1,rfl,aB.alloc (uZ w ⟨0,bZ,0⟩) _,W9 w⟩
 ·have b0:(x.k==0)=false:=by simp [h0]
  by_cases h5:x.k=5
  ·have b5:(x.k==5)=true:=by simp [h5]
   have hm:manyN x=2:=by simp [manyN,many,h5]
   have hk:=HA.out.2.fo.kids;rw [hm] at hk
   obtain ⟨ta,tb,hxt,f1,f3⟩:∃ta tb,xt=ta++tb/\Fo 1 ta/\Fo 1 tb:=by
    obtain ⟨ta,rs,e1,f1,f2⟩:=hk.first;exact ⟨ta,rs,e1,f1,f2⟩
   have ok1:bI (ta++tb):=fun z hz=>HA.out.2.ok z (List.mem_cons_of_mem _ (by rw [hxt];exact hz))
   have HR:Hid (iQ (x::xt)=some (kV ta,kV tb)):=aD (by
    have e1:cZ (ta++tb)=tb:=iN f1;have e2:cZ (tb++[])=[]:=iN f3;rw [lI] at e2;simp [iQ,aQ,h5,gN,hm,dM,hxt,e1,e2])
   have HP1:=aD (Cu (some ⟨b,o,none⟩) c (x::xt) ta tb 1 w HA.out.1 HA.out.2.len (by simp;omega) hxt (iB ok1) f1);have NK:=aD (fun v (hv:Below w.heap.size w v)=>pV (some ⟨b,o,none⟩) c (x::xt) ta tb 1 v ((HA.out.1.below hv).more hv.size) HA.out.2.len hxt (iB ok1) f1);have Cz:=aD (fun v (hv:Below w.heap.size w v)=>Cu (some ⟨b,o,none⟩) c (x::xt) tb [] (1+ta.length) v ((HA.out.1.below hv).more hv.size) HA.out.2.len (by simp;omega) (by rw [Nat.add_comm,List.drop_succ_cons,hxt,List.drop_left,lI]) (iY ok1) f3);obtain ⟨la,hla⟩:∃la,la=1+ta.length:=⟨_,rfl⟩;rw [<-hla] at NK Cz;clear hm hk f1 f3 ok1 h0 h5 hxt hla;go_wp2_with fail;refine HP1.out.mono ?_;rintro e w1 ⟨A1,c1,rfl,hown1,hb1⟩;have H1:=aD (Cj hown1 hb1);clear hown1 hb1;go_wp2_with fail;refine (NK.out _ H1.out.2).mono ?_;rintro e w2 ⟨rfl,hb2⟩;have H2:Hid (dK w2 w.heap.size A1 c1 (kV ta)/\Below w.heap.size w w2):=aD ⟨H1.out.1.below hb2 (aG _),au H1.out.2 hb2⟩;clear hb2;go_wp2_with fail;refine (Cz.out w2 H2.out.2).mono ?_;rintro e w3 ⟨A3,c3,rfl,hown3,hb3⟩;have H3:Hid (dK w3 w.heap.size A1 c1 (kV ta)/\dK w3 w.heap.size A3 c3 (kV tb)/\Below w.heap.size w w3):=aD ⟨H2.out.1.below hb3 (aG _),aB.lower hown3 H2.out.2.size,au H2.out.2 hb3⟩;clear hown3 hb3;go_wp2_with fail;go_ret3;refine ⟨H3.out.2.2,?_⟩;rw [HR.out];exact ⟨_,_,_,_,rfl,H3.out.1,H3.out.2.1⟩
  ·have b5:(x.k==5)=false:=by simp [h5]
   have HR:Hid (iQ (x::xt)=none):=aD (by simp [iQ,aQ,h0,h5]);clear h0 h5;go_wp2_with fail;go_ret3;exact ⟨aF _ _,by rw [HR.out];rfl⟩
def ah_ (w:World) (K:FuncId) (c1 c2:Value) (v:Value) (p:Bool):Prop:=∀w',Below w.heap.size w w'->Calls Tryz.prog K #[v,c1,c2] w' fun e w''=>e= .returned (.bool p)/\Below w'.heap.size w' w''
theorem Ux {α:Type} {p:α->Bool} {xs:List α} {i:Nat} {x:α} (hx:xs[i]?=some x) (h:(xs.take i).any p=false):(xs.take (i+1)).any p=p x:=by
 rw [KV,hx,List.any_append,h];simp
theorem DR {α:Type} {p:α->Bool}:∀{xs:List α} {i:Nat} {x:α},xs[i]?=some x->p x=true->(xs.take i).any p=false->xs.findIdx? p=some i
 |[],i,x,h,_,_=>by simp at h
 |y::ys,0,x,h,hp,_=>by
  simp at h;subst h
  simp [List.findIdx?_cons,hp]
 |y::ys,i+1,x,h,hp,ht=>by
  rw [FR] at h;rw [List.take_succ_cons,List.any_cons,Bool.or_eq_false_iff] at ht;simp [List.findIdx?_cons,ht.1,DR h hp ht.2]
theorem Uy (K:FuncId) (c1 c2:Value) (eg:∀args w,(callFunc K args).run Tryz.prog w= .ok (.enter K args) w) (p:Int->Bool) (A:Option Addr) (c:Nat) (xs:List Int) (w:World) (hx:mF w w.heap.size A xs) (hl:xs.length<=1000000) (hp:∀x∈xs,ah_ w K c1 c2 (.int .i64 x) (p x)):
  Calls Tryz.prog 114 #[.slice A xs.length c,.func (.func K) #[] #[c1,c2]] w fun e w'=>((xs.findIdx? p=none/\e= .returned (.int .i64 (-1)))\/∃k:Nat,xs.findIdx? p=some k/\e= .returned (.int .i64 (k:Int)))/\Below w.heap.size w w':=by
 have H:=aD hx;have HP:=aD hp;clear hx hp;go_enter Tryz.func114,Tryz.ntmps114;go_upto_region 2 with fail
 go_loopw [5,8] (fun _ s8 wr=>∃i:Nat,s8= .int .i64 i/\i<=xs.length/\Hid ((xs.take i).any p=false/\Below w.heap.size w wr)) (fun _ s8 _=>xs.length-(Lib.intOf s8).toNat)
 case atStart=>exact ⟨0,rfl,Nat.zero_le _,aD ⟨rfl,aF _ _⟩⟩
 case round=>
  obtain ⟨i,rfl,hi,HR⟩:=hrel;by_cases hl2:i<xs.length
  ·obtain ⟨x,hx⟩:=aN hl2
   obtain ⟨b,o,rfl,hb,hc⟩:=bf.below H.out HR.out.2 (fun e=>by rw [e] at hx;simp at hx)
   have c0:wr.cell? ⟨b,o+i,none⟩=some (.int .i64 x):=by
    have:=hc i x hx 0 _ rfl
    rwa [Nat.mul_one,Nat.add_zero] at this
   have HQ:=aD (HP.out x (List.mem_of_getElem? hx) wr HR.out.2);have HX:=aD hx;have hwi:IntKind.i64.wrap ((i:Int)+1)=((i+1:Nat):Int):=IntWalk.i64_in _ (by omega);clear hc hx;go_wp2_with fail;refine HQ.out.mono ?_;rintro e w1 ⟨rfl,hb1⟩;have HB1:=aD (au HR.out.2 hb1);clear hb1
   cases hpx:p x with
   |true=>
    have HA:Hid (xs.findIdx? p=some i):=aD (DR HX.out hpx HR.out.1);clear hpx;go_wp2_with fail;go_ret
    exact ⟨.inr ⟨i,HA.out,rfl⟩,HB1.out⟩
   |false=>
    have HA:Hid ((xs.take (i+1)).any p=false):=aD (by rw [Ux HX.out HR.out.1,hpx]);clear hpx;go_wp2_with fail;go_roundw
    case rel=>exact ⟨i+1,rfl,hl2,aD ⟨HA.out,HB1.out⟩⟩
    case measure=>simp [Lib.intOf];omega
  ·go_wp2_with fail
   go_ret;refine ⟨.inl ⟨?_,rfl⟩,HR.out.2⟩;have:=HR.out.1;rw [List.take_of_length_le (by omega)] at this;rw [List.findIdx?_eq_none_iff];intro x hx
   cases h:p x with
   |false=>rfl
   |true=>rw [List.any_eq_true.2 ⟨x,hx,h⟩] at this;cases this
theorem uj {T:List Nd}:∀(n at_:Nat) (ks rest:List Nd),T.drop at_=ks++rest->bI ks->Fo n ks->(aZ T n at_).map (fun pos=>aQ (T.drop pos))=(dM n ks).map aQ
 |0,_,_,_,_,_,_=>rfl
 |n+1,at_,ks,rest,hd,hok,hf=>by
  obtain ⟨ts,rs,rfl,h1,h2⟩:=hf.first;rw [kE] at hd;have hlt:at_<T.length:=mH hd h1.pos;have h3:=jL hd (iB hok) h1;have hr:cZ (ts++rs)=rs:=iN h1
  have hs:dM (n+1) (ts++rs)=ts::dM n rs:=by
   show (ts++rs).take ((ts++rs).length-(cZ (ts++rs)).length)::dM n (cZ (ts++rs))=_;rw [hr,jX,nZ,xO]
  have hh:aQ (T.drop at_)=aQ ts:=by
   rw [hd]
   match ts,h1.pos with
   |x::xt,_=>rfl
  rw [fB hlt,h3,hs,Nc,Nc,hh,uj n (at_+ts.length) rs rest (iM hd) (iY hok) h2]
theorem Qm:∀args w,(callFunc 115 args).run Tryz.prog w= .ok (.enter 115 args) w:=fun _ _=>by kernel_rfl
theorem NM (p0 p1:Nat) (A:Option Addr) (c:Nat) (T:List Nd) (s:ByteArray) (x:Nd) (i:Nat) (w:World) (hx:T[i]?=some x) (ha:bO w w.heap.size A T) (h0:w.cell? ⟨p0,0,none⟩=some (.slice A T.length c)) (h1:w.cell? ⟨p1,0,none⟩=some (.string s)):
  Calls Tryz.prog 115 #[.int .i64 (i:Int),.pointer (some ⟨p0,0,none⟩),.pointer (some ⟨p1,0,none⟩)] w fun e w'=>e= .returned (.bool (x.s.toList==s.toList))/\Below w.heap.size w w':=by
 obtain ⟨b,o,rfl,hb,_,c1,_⟩:=ha.at_ hx;have hi:=aU hx;have e0:∀n,(w.drewN n).cell? ⟨p0,0,none⟩=some (.slice (some ⟨b,o,none⟩) T.length c):=fun n=>h0;have e1:∀n,(w.drewN n).cell? ⟨p1,0,none⟩=some (.string s):=fun n=>h1;have e2:∀n,(w.drewN n).cell? ⟨b,o+i*3+1,none⟩=some (.string x.s):=fun n=>c1;clear ha hx h0 h1 c1;go_enter Tryz.func115,Tryz.ntmps115;go_upto_region 1 with fail
 go_quiet (fail);go_wp2_with fail;go_ret;exact ⟨rfl,below_drewN (aF _ _) _⟩
def Fw (t:List Nd) (s:ByteArray) (w:World) (e:Ending) (w':World):Prop:=
 Below w.heap.size w w'/\match bJ t s with
  |some u=>∃A1 c1,e= .returned (.tuple #[.slice A1 u.length c1,.int .i64 0])/\dK w' w.heap.size A1 c1 u
  |none=>e= .returned (.tuple #[.slice none 0 0,.int .i64 9])
end Go.Proofs.YtmjdhfbnmmdjiaaGreat
