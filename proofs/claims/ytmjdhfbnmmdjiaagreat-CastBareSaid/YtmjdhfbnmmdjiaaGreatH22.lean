/- Laid together by a tool from the texts of this seat: CsF CsG CsM CxPre CxLit CsN CxName. Conditions: each theorem's own. -/
import Derived.Test.YtmjdhfbnmmdjiaaGreatH21
import Derived.Test.YtmjdhfbnmmdjiaaGreatH19
set_option maxHeartbeats 8000000
set_option maxRecDepth 100000
namespace Go.Proofs.YtmjdhfbnmmdjiaaGreat
open Go.Lib renaming hid->aB
open _root_.And renaming intro->DF
open Go.World renaming cell?->DI,frozen?->Gb
open Go.RowKit.Below renaming refl->aI,heap_alloc->FW
open Go.Value renaming slice->gq
open _root_.Nat renaming le_refl->aK,lt_of_lt_of_le->Yy
open _root_.Array renaming getElem?_eq_some_iff->aai
open _root_.List renaming length_singleton->aaA
open Go.RowKit
theorem qP (k:Int) (w:World):Calls Tryz.prog 87 #[.int .i64 k] w (AQ w (aH k)):=by
 go_enter Tryz.func87,Tryz.ntmps87;go_wp2_with fail;go_ret;exact ⟨_,1,rfl,wC w ⟨k,ByteArray.empty,0⟩,au (aI _ _) _⟩
def Iu (s:ByteArray) (w:World) (e:Ending) (w':World):Prop:=
 ∃A1 c1 A2 c2,e= .returned (.tuple #[.slice A1 (aH (cZ s)).length c1,.slice A2 (aH (fA s)).length c2])/\dF w' w.heap.size A1 c1 (aH (cZ s))/\dF w' w.heap.size A2 c2 (aH (fA s))/\Below w.heap.size w w'
theorem Td (s:ByteArray) (i k:Int) (w w1 w2:World) (A1 A2:Option Addr) (c1 c2:Nat) (hi:cZ s=i) (hk:fA s=k) (h1:dF w1 w.heap.size A1 c1 (aH i)) (hb1:Below w.heap.size w w1) (h2:dF w2 w1.heap.size A2 c2 (aH k)) (hb2:Below w1.heap.size w1 w2):
  Iu s w (.returned (.tuple #[.slice A1 (aH i).length c1,.slice A2 (aH k).length c2])) w2:=by
 subst hi hk;exact ⟨A1,c1,A2,c2,rfl,ay.below h1 hb2 (aK _),ay.lower h2 hb1.size,ah hb1 hb2⟩
theorem Te (s:ByteArray) (w:World):Calls Tryz.prog 89 #[.string s] w (Iu s w):=by
 have hcs:(s.toList==[38,38])=true\/((s.toList==[38,38])=false/\(s.toList==[124,124])=true)\/((s.toList==[38,38])=false/\(s.toList==[124,124])=false/\(s.toList==[43,43])=true)\/
   ((s.toList==[38,38])=false/\(s.toList==[124,124])=false/\(s.toList==[43,43])=false/\(s.toList==[60])=true)\/((s.toList==[38,38])=false/\(s.toList==[124,124])=false/\(s.toList==[43,43])=false/\(s.toList==[60])=false/\(s.toList==[61,61])=true)\/
   ((s.toList==[38,38])=false/\(s.toList==[124,124])=false/\(s.toList==[43,43])=false/\(s.toList==[60])=false/\(s.toList==[61,61])=false):=by
  cases s.toList==[38,38]<;>cases s.toList==[124,124]<;>cases s.toList==[43,43]<;>cases s.toList==[60]<;>cases s.toList==[61,61]<;>simp
 have hcs2:∃i k,Hid (cZ s=i/\fA s=k)/\((s.toList==[38,38])=true/\i=2/\k=2\/((s.toList==[38,38])=false/\(s.toList==[124,124])=true/\i=2/\k=2)\/((s.toList==[38,38])=false/\(s.toList==[124,124])=false/\(s.toList==[43,43])=true/\i=3/\k=3)\/
   ((s.toList==[38,38])=false/\(s.toList==[124,124])=false/\(s.toList==[43,43])=false/\(s.toList==[60])=true/\i=1/\k=2)\/((s.toList==[38,38])=false/\(s.toList==[124,124])=false/\(s.toList==[43,43])=false/\(s.toList==[60])=false/\(s.toList==[61,61])=true/\i=1/\k=2)\/
   ((s.toList==[38,38])=false/\(s.toList==[124,124])=false/\(s.toList==[43,43])=false/\(s.toList==[60])=false/\(s.toList==[61,61])=false/\i=1/\k=1)):=by
  refine ⟨cZ s,fA s,aB ⟨rfl,rfl⟩,?_⟩;rcases hcs with h1|⟨h1,h2⟩|⟨h1,h2,h3⟩|⟨h1,h2,h3,h4⟩|⟨h1,h2,h3,h4,h5⟩|⟨h1,h2,h3,h4,h5⟩
  ·have e:s.toList=[38,38]:=by simpa using h1
   exact .inl ⟨h1,by simp [cZ,e],by simp [fA,cZ,e]⟩
  ·have e:s.toList=[124,124]:=by simpa using h2
   exact .inr (.inl ⟨h1,h2,by simp [cZ,e],by simp [fA,cZ,e]⟩)
  ·have e:s.toList=[43,43]:=by simpa using h3
   exact .inr (.inr (.inl ⟨h1,h2,h3,by simp [cZ,e],by simp [fA,cZ,e]⟩))
  ·have e:s.toList=[60]:=by simpa using h4
   exact .inr (.inr (.inr (.inl ⟨h1,h2,h3,h4,by simp [cZ,e],by simp [fA,e]⟩)))
  ·have e:s.toList=[61,61]:=by simpa using h5
   exact .inr (.inr (.inr (.inr (.inl ⟨h1,h2,h3,h4,h5,by simp [cZ,e],by simp [fA,e]⟩))))
  ·have n1:¬s.toList=[38,38]:=by simpa using h1
   have n2:¬s.toList=[124,124]:=by simpa using h2
   have n3:¬s.toList=[43,43]:=by simpa using h3
   have n4:¬s.toList=[60]:=by simpa using h4
   have n5:¬s.toList=[61,61]:=by simpa using h5
   exact .inr (.inr (.inr (.inr (.inr ⟨h1,h2,h3,h4,h5,by simp [cZ,n1,n2,n3],by simp [fA,cZ,n1,n2,n3,n4,n5]⟩))))
 obtain ⟨i,k,HIK,alz⟩:=hcs2;clear hcs;rcases alz with ⟨h1,rfl,rfl⟩|⟨h1,h2,rfl,rfl⟩|⟨h1,h2,h3,rfl,rfl⟩|⟨h1,h2,h3,h4,rfl,rfl⟩|⟨h1,h2,h3,h4,h5,rfl,rfl⟩|⟨h1,h2,h3,h4,h5,rfl,rfl⟩
 all_goals
  go_enter Tryz.func89,Tryz.ntmps89;go_wp2_with fail;refine (qP _ _).mono ?_;rintro e w1 ⟨A1,c1,rfl,hown1,hb1⟩;have H1:=aB (DF hown1 hb1);clear hown1 hb1;go_wp2_with fail;refine (qP _ _).mono ?_;rintro e w2 ⟨A2,c2,rfl,hown2,hb2⟩;have HQ:=aB (Td s _ _ w w1 w2 A1 A2 c1 c2 HIK.out.1 HIK.out.2 H1.out.1 H1.out.2 hown2 hb2);clear hown2 hb2;go_wp2_with fail;go_ret2;exact HQ.out
def aeb (w:World) (Y:Nat->Prop) (vs:List (Option Addr×Nat×Nat)) (xss:List (List Nd)):Prop:=
 vs.length=xss.length/\∀(i:Nat) (v:Option Addr×Nat×Nat) (xs:List Nd),vs[i]?=some v->xss[i]?=some xs->v.2.1=xs.length/\aF w Y v.1 v.2.2 xs
def af9 (Y:Nat->Prop) (t:List Nd) (w:World) (e:Ending) (w':World):Prop:=Below w.heap.size w w'/\∃A c,e= .returned (.slice A t.length c)/\aF w' Y A c t
theorem Lh (A:Option Addr) (c:Nat) (vs:List (Option Addr×Nat×Nat)) (t:List Nd) (ts:List (List Nd)) (m:List Nd) (Y:Nat->Prop) (w:World) (hr:jV w w.heap.size A vs) (hS:aeb w Y vs (t::ts)) (hlt:∀q,Y q->q<w.heap.size) (hc:vs.length<=c) (hv:vs.length<=1000) (hgt:Gd t) (hgs:∀u∈ts,Gd u) (hm:bT 0 t ts=some (.ok m)):
  Calls Tryz.prog 86 #[.slice A vs.length c] w (af9 Y m w):=by
 have hvl:vs.length=ts.length+1:=by rw [hS.1];simp
 obtain ⟨v0,hv0⟩:=aJ (show 0<vs.length by omega);obtain ⟨b,o,rfl,hb,c0⟩:=hr.slice hv0;obtain ⟨hl0,hT0⟩:=hS.2 0 v0 t hv0 rfl
 have HR:Hid (∀i v,vs[i]?=some v->w.cell? ⟨b,o+i,none⟩=some (.slice v.1 v.2.1 v.2.2)):=aB fun i v hvi=>by
  obtain ⟨b2,o2,e1,_,h3⟩:=hr.slice hvi;injection e1 with e1
  injection e1 with e1 e2
  subst e1 e2;exact h3
 have H:=aB (DF hS (DF hlt hgs));have H0:=aB (DF hT0 (DF hgt hm));rw [Nat.add_zero,hl0] at c0;have hc1:ts.length+1<=c:=by omega
 have hts:ts.length<=1000:=by omega
 rw [hvl];clear hr hS hlt hgs hT0 hgt hm hv0 hl0 hvl hc hv;by_cases hc2:c=1
 ·subst hc2
  have hz:ts.length=0:=by omega
  have HZ:Hid (m=t):=aB (by
   have h1:=H0.out.2.2;rw [List.eq_nil_of_length_eq_zero hz] at h1;unfold bT at h1;injection h1 with h1
   injection h1 with h1
   exact h1.symm)
  rw [hz];clear hz hc1 hts;go_enter Tryz.func86,Tryz.ntmps86;go_wp2_with fail;go_loopw [3,12] (fun o3 i12 wr=>o3= .slice v0.1 t.length v0.2.2/\i12= .int .i64 0/\wr=w) (fun _ _ _=>0)
  case atStart=>exact ⟨rfl,rfl,rfl⟩
  case round=>
   obtain ⟨rfl,rfl,rfl⟩:=hrel;go_wp2_with fail;go_ret;rw [HZ.out];exact ⟨aI _ _,_,_,rfl,H0.out.1⟩
 ·have hcb:(c==1)=false:=by simpa using hc2
  go_enter Tryz.func86,Tryz.ntmps86;go_wp2_with fail;go_loopw [3,12] (fun o3 i12 wr=>∃(k:Nat) (O:Option Addr) (oc:Nat) (x:List Nd),o3= .slice O x.length oc/\i12= .int .i64 k/\k<=ts.length/\Hid (aF wr Y O oc x/\Gd x/\Below w.heap.size w wr/\bT 0 x (ts.drop k)=some (.ok m))) (fun _ i12 _=>ts.length-(Lib.intOf i12).toNat)
  case atStart=>exact ⟨0,_,_,t,rfl,rfl,Nat.zero_le _,aB ⟨H0.out.1,H0.out.2.1,aI _ _,H0.out.2.2⟩⟩
  case round=>
   obtain ⟨k,O,oc,x,rfl,rfl,hk,HI⟩:=hrel;by_cases hkt:k<ts.length
   ·obtain ⟨u,hu⟩:=aJ hkt
    obtain ⟨v,hvk⟩:=aJ (show k+1<vs.length by rw [H.out.1.1];simp;omega);obtain ⟨hvl,hTv⟩:=H.out.1.2 (k+1) v u hvk (by simpa using hu);have cv:=(HI.out.2.2.1.cell (p:=⟨b,o+(k+1),none⟩) hb).trans (HR.out (k+1) v hvk);rw [hvl,show o+(k+1)=o+1+k by omega] at cv;have aap:=hTv.fr (Fr.below HI.out.2.2.1:Fr Y w wr) fun q hq=>.inl hq;have Iw:=aB (KU O v.1 oc v.2.2 x u wr HI.out.1.ty.eY aap.ty.eY HI.out.2.1 (H.out.2.2 u (List.mem_of_getElem? hu)) HI.out.1.cap aap.cap);have Ng:Hid (k+1<=ts.length):=aB hkt;have hst:=HI.out.2.2.2;rw [List.drop_eq_getElem_cons hkt,(List.getElem?_eq_some_iff.1 hu).2] at hst
    have HSt:Hid (∃y,met 1 x u=some y/\Gd y/\bT 0 y (ts.drop (k+1))=some (.ok m)):=aB (by
     unfold bT at hst
     cases hmt:met 1 x u with
     |none=>rw [hmt] at hst;cases hst
     |some y=>
      rw [hmt] at hst;dsimp only at hst;by_cases hg:Gd y
      ·rw [if_pos hg] at hst
       exact ⟨y,rfl,hg,hst⟩
      ·rw [if_neg hg] at hst
       cases hst)
    obtain ⟨y,hy,hgy,hmy⟩:=HSt.out;have HY:=aB (DF hy (DF hgy hmy));clear hu hvk hvl hTv aap hst hy hgy hmy HSt c0;go_wp2_with fail;refine Iw.out.mono ?_;rintro e w2 ⟨hb2,hq⟩;rw [HY.out.1] at hq;obtain ⟨A2,c2,rfl,hown⟩:=hq;have HN:Hid (aF w2 Y A2 c2 y/\Gd y/\Below w.heap.size w w2/\bT 0 y (ts.drop (k+1))=some (.ok m)):=aB ⟨aF.own hown fun q hq=>Yy (H.out.2.1 q hq) HI.out.2.2.1.size,HY.out.2.1,ah HI.out.2.2.1 hb2,HY.out.2.2⟩;clear hb2 hown;go_wp2_with fail;go_roundw
    case rel=>exact ⟨k+1,A2,c2,y,rfl,by go_num,Ng.out,HN⟩
    case measure=>have:=Ng.out;simp [Lib.intOf];omega
   ·have HO:Hid (m=x):=aB (by
     have h1:=HI.out.2.2.2;rw [List.drop_of_length_le (by omega)] at h1;unfold bT at h1;injection h1 with h1
     injection h1 with h1
     exact h1.symm)
    go_wp2_with fail;go_ret;rw [HO.out];exact ⟨HI.out.2.2.1,_,_,rfl,HI.out.1⟩
structure wJ (P:Nat) (es:List Pt) (env:Env) (a:Nat) (Y0:Nat->Prop) (w0:World) (R B G:Nat) (p:Pt) (TA:Option Addr) (tc:Nat) (UA:Option Addr) (uc:Nat) (Y:Nat->Prop) (w:World):Prop where
 fr:Fr Y0 w0 w
 yn:aj Y0 Y w0
 wk:iV P es env a Y w
 pt:aZ w Y B p TA tc UA uc
 res:aQ w Y R #[.slice none 0 0,.slice none 0 0] 65
 pr:P<w0.heap.size
 rw:w0.heap.size<=R
 rb:R<B
 bg:B<G
 here:aQ w Y G #[.int .i64 p.k,.string p.lb,.string p.nm,.string p.bd,.int .i64 p.mn,.int .i64 p.num,.slice TA p.T.length tc,.slice UA p.U.length uc] 33
 gw:w0.heap.size<=G
structure jG (w0:World) (b:Nat) (A:Option Addr) (c:Nat) (x:List Pt) (TA:Option Addr) (tc:Nat) (t:List Nd) (Y:Nat->Prop) (w:World):Prop where
 box:aQ w Y b #[.slice A x.length c,.slice TA t.length tc] 65
 ex:bN w Y A c x
 ty:aF w Y TA tc t
 nw:∀a,A=some a->w0.heap.size<=a.block
section
variable {P a a':Nat} {es:List Pt} {env:Env} {Y0 Y Y':Nat->Prop} {w0 w w':World} {R B G:Nat} {p:Pt} {TA UA:Option Addr} {tc uc:Nat}
theorem wJ.step (h:wJ P es env a Y0 w0 R B G p TA tc UA uc Y w) (hf:Fr Y w w') (hy:aj Y Y' w) (hk:iV P es env a' Y' w'):wJ P es env a' Y0 w0 R B G p TA tc UA uc Y' w':=
 ⟨Fr.new h.fr hf h.yn,aj.trans h.yn hy h.fr.size,hk,h.pt.fr hf hy,h.res.fr hf hy,h.pr,h.rw,h.rb,h.bg,h.here.fr hf hy,h.gw⟩
theorem wJ.later (h:wJ P es env a Y0 w0 R B G p TA tc UA uc Y w) (hb:Below w.heap.size w w'):wJ P es env a Y0 w0 R B G p TA tc UA uc Y w':=h.step (Fr.below hb) (aj.refl _ _) (h.wk.later hb)
theorem jG.step {b:Nat} {A TX:Option Addr} {c tx:Nat} {x:List Pt} {t:List Nd} (h:jG w0 b A c x TX tx t Y w) (hf:Fr Y w w') (hy:aj Y Y' w):jG w0 b A c x TX tx t Y' w':=⟨h.box.fr hf hy,h.ex.fr hf hy,h.ty.fr hf hy,h.nw⟩
theorem jG.later {b:Nat} {A TX:Option Addr} {c tx:Nat} {x:List Pt} {t:List Nd} (h:jG w0 b A c x TX tx t Y w) (hb:Below w.heap.size w w'):jG w0 b A c x TX tx t Y w':=h.step (Fr.below hb) (aj.refl _ _)
theorem jG.cells {b:Nat} {A TX:Option Addr} {c tx:Nat} {x:List Pt} {t:List Nd} (h:jG w0 b A c x TX tx t Y w):w.cell? ⟨b,0,none⟩=some (.slice A x.length c)/\w.cell? ⟨b,1,none⟩=some (.slice TX t.length tx):=⟨by simp [DI,h.box.blk],by simp [DI,h.box.blk]⟩
theorem wJ.own (h:wJ P es env a Y0 w0 R B G p TA tc UA uc Y w):fq w w0.heap.size (some ⟨G,0,none⟩) 1 [⟨p.k,p.lb,p.nm,p.bd,p.mn,p.num,TA,p.T.length,tc,UA,p.U.length,uc⟩]:=
 ⟨rfl,.inr ⟨G,1,_,rfl,h.gw,h.here.blk,aK _,by simp [maxLen],rfl,rfl⟩⟩
theorem wJ.prt (h:wJ P es env a Y0 w0 R B G p TA tc UA uc Y w):dz w Y [⟨p.k,p.lb,p.nm,p.bd,p.mn,p.num,TA,p.T.length,tc,UA,p.U.length,uc⟩] [p]:=dz.cons ⟨rfl,rfl,rfl,rfl,rfl,rfl,rfl,rfl,h.pt.T,h.pt.U⟩ dz.nil
theorem wJ.ex (h:wJ P es env a Y0 w0 R B G p TA tc UA uc Y w):bN w Y (some ⟨G,0,none⟩) 1 [p]:=by
 refine ⟨_,fun hne=>?_,h.prt,aK _⟩;obtain ⟨b,o,hA,hb,hc⟩:=ay.read fH h.own hne;injection hA with hA
 injection hA with e1 e2
 subst e1 e2;exact ⟨_,_,rfl,hb,h.here.ny,⟨_,_,h.here.blk⟩,hc⟩
theorem wJ.done (h:wJ P es env a Y0 w0 R B G p TA tc UA uc Y w) {r:eF} {A TX:Option Addr} {c tx:Nat} (ha:r.2.2=a) (hx:bN w Y A c r.1) (ht:aF w Y TX tx r.2.1) (hA:∀a,A=some a->w0.heap.size<=a.block):
  bU P es env Y0 r w0 (.returned (.agg #[.slice A r.1.length c,.slice TX r.2.1.length tx])) (set2 w R (.slice A r.1.length c) (.slice TX r.2.1.length tx))/\
   (set2 w R (.slice A r.1.length c) (.slice TX r.2.1.length tx)).cell? ⟨R,0,none⟩=some (.slice A r.1.length c)/\(set2 w R (.slice A r.1.length c) (.slice TX r.2.1.length tx)).cell? ⟨R,1,none⟩=some (.slice TX r.2.1.length tx):=
 Ga h.fr h.yn (by rw [ha];exact h.wk) h.res (by have:=h.pr;have:=h.rw;omega) h.rw hx ht hA
theorem wJ.jN (h:wJ P es env a Y0 w0 R B G p TA tc UA uc Y w):w.cell? ⟨R,0,none⟩=some (.slice none 0 0)/\w.cell? ⟨R,1,none⟩=some (.slice none 0 0)/\w.frozen? ⟨R,0,none⟩=false/\w.frozen? ⟨R,1,none⟩=false:=
 ⟨by simp [DI,h.res.blk],by simp [DI,h.res.blk],by simp [Gb,h.res.blk],by simp [Gb,h.res.blk]⟩
theorem vN.Vb {A:Option Addr} {c base:Nat} {vs:List PV} (h:fq w base A c vs) (hn:∀a,A=some a->¬Y a.block):vN w Y A vs:=fun hne=>by
 obtain ⟨b,o,hA,hb,hc⟩:=ay.read fH h hne;exact ⟨b,o,hA,hb,hn _ hA,ay.rO h hA,hc⟩
theorem wJ.app (h:wJ P es env a Y0 w0 R B G p TA tc UA uc Y w) {A2:Option Addr} {c2:Nat} {vs:List PV} {x:List Pt} (hpm:dz w Y vs x) (hown:fq w' w0.heap.size A2 c2 ([⟨p.k,p.lb,p.nm,p.bd,p.mn,p.num,TA,p.T.length,tc,UA,p.U.length,uc⟩]++vs)) (hg:w.grownBy w' ((gq (some ⟨G,0,none⟩) 1 1).ownBlock))
  (hd:(gq A2 (1+vs.length) c2).ownBlock=(gq (some ⟨G,0,none⟩) 1 1).ownBlock\/(gq A2 (1+vs.length) c2).ownBlock=some w.heap.size):
  iF w w' 33 Y/\Fr (fun q=>q=G) w w'/\iV P es env a Y w'/\aQ w' Y R #[.slice none 0 0,.slice none 0 0] 65/\aZ w' Y B p TA tc UA uc/\Fr Y0 w0 w'/\bN w' Y A2 c2 (p::x)/\∀a,A2=some a->w0.heap.size<=a.block:=by
 have hgo:(gq (some ⟨G,0,none⟩) 1 1).ownBlock=some G:=rfl;rw [hgo] at hg hd;have ho:iF w w' 33 Y:=iF.grown (cap:=1) (n:=1) h.own rfl (by rw [hgo];exact hg) h.wk.yP (Nat.le_of_lt h.pr);have hf:Fr (fun q=>q=G) w w':=Fr.grown hg fun k hk=>by injection hk with hk;exact hk.symm
 have h1:=h.rw;have h2:=h.rb;have h3:=h.bg;have hR:=(hf.block R h.res.lt (by omega)).trans h.res.blk;have hBl:B<w.heap.size:=(aai.1 h.pt.blk).1;refine ⟨ho,hf,h.wk.fu ho,⟨hR,h.res.ny⟩,⟨(hf.block B hBl (by omega)).trans h.pt.blk,h.pt.off,h.pt.T.bW ho (by decide),h.pt.U.bW ho (by decide)⟩,h.fr.new hf (fun b e=>.inr (by rw [e];exact h.gw)),⟨_,vN.Vb hown fun a ha=>?_,?_,?_⟩,fun a ha=>(ay.lt hown a ha).1⟩
 ·subst ha
  simp only [Value.ownBlock] at hd;rcases hd with e|e
  ·injection e with e
   rw [e];exact h.here.ny
  ·injection e with e
   rw [e];exact fun hy=>by have:=h.wk.lt _ hy;omega
 ·exact dz.cons (by have:=(h.prt.bW ho (by decide)).2 0 _ _ rfl rfl;exact this) (hpm.bW ho (by decide))
 ·have:=ay.l5 hown
  have hl:=hpm.1;simp at this ⊢;omega
theorem zq {r:eF} (hfr:Fr Y0 w0 w) (hyn:aj Y0 Y w0) (hk:iV P es env r.2.2 Y w) (hR:aQ w Y R #[.slice none 0 0,.slice none 0 0] 65) (hpr:P<w0.heap.size) (hrw:w0.heap.size<=R) {A TX:Option Addr} {c tx:Nat} (hx:bN w Y A c r.1) (ht:aF w Y TX tx r.2.1) (hA:∀a,A=some a->w0.heap.size<=a.block):
  bU P es env Y0 r w0 (.returned (.agg #[.slice A r.1.length c,.slice TX r.2.1.length tx])) (set2 w R (.slice A r.1.length c) (.slice TX r.2.1.length tx))/\
   (set2 w R (.slice A r.1.length c) (.slice TX r.2.1.length tx)).cell? ⟨R,0,none⟩=some (.slice A r.1.length c)/\(set2 w R (.slice A r.1.length c) (.slice TX r.2.1.length tx)).cell? ⟨R,1,none⟩=some (.slice TX r.2.1.length tx):=
 Ga hfr hyn hk hR (by omega) hrw hx ht hA
end
def fZ (x:Option eF) (f:List Pt->List Nd->Nat->Option eF):Option eF:=
 match x with
 |none=>none
 |some (x,t,b)=>f x t b
theorem bD {x:Option eF} {f:List Pt->List Nd->Nat->Option eF} {r:eF} (h:fZ x f=some r):∃y t b,x=some (y,t,b)/\f y t b=some r:=by
 match x,h with
 |some (y,t,b),h=>exact ⟨y,t,b,rfl,h⟩
def Vd (p:Pt) (a:Nat):Option eF:=some ([p],p.T,a)
def Ef (env:Env) (p:Pt) (a:Nat):Option eF:=(l7 env p.nm).map fun t=>([p],t,a)
def Li (nx:kW) (env:Env) (p:Pt) (a:Nat):Option eF:=fZ (nx (env++[(p.bd,p.T)]) a) fun x t b=>some (p::x,aR p.T t,b)
def Lj (nx:kW) (env:Env) (p:Pt) (a:Nat):Option eF:=
 fZ (nx env a) fun x t b=>fZ (nx (env++[(p.bd,p.T)]) b) fun y u c=>some (p::(toM x t p.T++y),u,c)
def Ll (nx:kW) (env:Env) (p:Pt) (a:Nat):Option eF:=
 fZ (nx (env++[(p.nm,aR p.T p.U),(p.bd,p.T)]) a) fun x t b=>fZ (nx (env++[(p.nm,aR p.T p.U)]) b) fun y u c=>some (p::(toM x t p.U++y),u,c)
def aT (t:List Nd):List Nd:=if (aD t).k=0 then aR (aH 0) (aH 0) else t
def Eh (nx:kW) (env:Env) (p:Pt) (a:Nat):Option eF:=
 fZ (nx env a) fun c t b=>fZ (nx env b) fun x u d=>fZ (nx env d) fun y v e=>
  match bT 0 u [v] with
  |some (.ok m)=>if m.length<=5000000 then some (p::(toM c t (aH 2)++(toM x u m++toM y v m)),m,e) else none
  |_=>none
def Xk (nx:kW) (env:Env) (p:Pt) (a:Nat):Option eF:=
 fZ (nx env a) fun x t b=>fZ (nx env b) fun y u c=>some (p::(toM x t (aH (cZ p.nm))++toM y u (aH (cZ p.nm))),aH (fA p.nm),c)
def Lm (nx:kW) (env:Env) (p:Pt) (a:Nat):Option eF:=
 fZ (nx env a) fun x t b=>match bG t p.nm with
  |none=>none
  |some u=>some (p::x,u,b)
def Lp (nx:kW) (env:Env) (p:Pt) (a:Nat):Option eF:=
 fZ (nx env a) fun x t b=>match bG p.T p.nm with
  |none=>none
  |some u=>if u≠[]/\u.length<=5000000 then some (p::toM x t u,p.T,b) else none
def asX (nx:kW) (env:Env) (p:Pt) (a:Nat):Option eF:=fZ (nx env a) fun x t b=>some (bQ p.lb (toM x t p.T),p.T,b)
def zu (nx:kW) (env:Env) (p:Pt) (a:Nat):Option eF:=fZ (nx env a) fun x _ b=>some (p::x,p.U,b)
theorem bR (x:List Pt) (t u:List Nd):(toM x t u).length<=x.length+1:=by
 unfold toM;split
 ·omega
 ·cases x<;>simp [bQ]
theorem acY {x:List Pt} {t u:List Nd} (h:x≠[]):toM x t u≠[]:=by
 unfold toM;split
 ·exact h
 ·simp
theorem mJ {t:List Nd} (h:Gd t):t≠[]:=fun e=>by
 have:=h.fo.pos;rw [e] at this;simp at this
structure qQ (x:List Pt) (t:List Nd):Prop where
 ne:x≠[]
 len:x.length<=100000
 gd:Gd t
 tl:t.length<=5000000
theorem qQ.nY {x:List Pt} {t:List Nd} (h:qQ x t):t≠[]:=fun e=>by
 have:=h.gd.fo.pos;rw [e] at this;simp at this
theorem aQ.fu {w w':World} {Y:Nat->Prop} {b:Nat} {cs:Array Value} {T U:TypeId} (h:aQ w Y b cs T) (k:iF w w' U Y) (hne:U≠T):aQ w' Y b cs T:=
 ⟨(k.block b h.lt fun h5=>iQ.ne h5.1 ⟨_,_,h.blk⟩ hne rfl).trans h.blk,h.ny⟩
theorem aZ.lt {w:World} {Y:Nat->Prop} {b:Nat} {p:Pt} {TA UA:Option Addr} {tc uc:Nat} (h:aZ w Y b p TA tc UA uc):b<w.heap.size:=(aai.1 h.blk).1
theorem aZ.alD {w w':World} {Y:Nat->Prop} {b g:Nat} {p:Pt} {TA UA:Option Addr} {tc uc:Nat} (h:aZ w Y b p TA tc UA uc) (hf:Fr (fun q=>q=g) w w') (k:iF w w' 33 Y) (hne:b≠g):aZ w' Y b p TA tc UA uc:=
 ⟨(hf.block b h.lt hne).trans h.blk,h.off,h.T.bW k (by decide),h.U.bW k (by decide)⟩
theorem aQ.kX {w:World} {Y:Nat->Prop} {b:Nat} {x y:Value} {T:TypeId} (h:aQ w Y b #[x,y] T):w.cell? ⟨b,0,none⟩=some x/\w.cell? ⟨b,1,none⟩=some y:=⟨by simp [DI,h.blk],by simp [DI,h.blk]⟩
section
variable {w:World} {o:Oper} {a:Act} {K:Act->World->Prop} {Q:Exit->Act->World->Prop}
theorem Iy (s x:Operand) (ho:o.op= .call {callee:=.builtin .append,args:=#[s,x],argTypes:=#[24,24]})
  (base:Nat) {A:Option Addr} {cap m n:Nat} {l:List PV} (hm:l.length=m) (hs:a.eval s= .slice A m cap) (hown:fq w base A cap l) {B:Nat} {A2:Option Addr} {c:Nat} {l2:List PV} (hn:l2.length=n) (hx:a.eval x= .slice A2 n c) (hr:vM w B A2 l2)
  {k:Nat} (hk:m+n=k) (hlen:k<=10000000000) (hbase:base<=w.heap.size)
  (h:∀A' cap' w',fq w' base A' cap' (l++l2)->w.grownBy w' ((gq A m cap).ownBlock)->
   ((gq A' (m+l2.length) cap').ownBlock=(gq A m cap).ownBlock\/(gq A' (m+l2.length) cap').ownBlock=some w.heap.size)->K (a.put o.dst (.slice A' k cap')) w'):o.wp Tryz.prog a w K Q:=by
 subst hm hn hk;obtain ⟨i0,hi,hz0,hz1,hz2⟩:=info_parts infoP;exact uV w fH z8 s x 24 ho base 33 i0 _ 120 Tryz.underlying24 hi hz0 hz1 hz2 rfl (by decide) hs hown hx hr (by unfold maxLen;omega) (by omega) hbase h
end
theorem Qw {w:World} {Y:Nat->Prop}:∀(L:List (Option Addr×Nat×List Pt)),(∀q∈L,bN w Y q.1 q.2.1 q.2.2)->∃xss:List (List PV),xss.length=L.length/\(∀(i:Nat) (q:Option Addr×Nat×List Pt) (xs:List PV),L[i]?=some q->xss[i]?=some xs->vN w Y q.1 xs/\xs.length=q.2.2.length)/\dz w Y xss.flatten (L.flatMap fun q=>q.2.2)
 |[],_=>⟨[],rfl,fun i q xs h=>by simp at h,dz.nil⟩
 |q::L,h=>by
  obtain ⟨vs,h1,h2,_⟩:=h q (by simp);obtain ⟨xss,h3,h4,h5⟩:=Qw L fun q hq=>h q (by simp [hq]);refine ⟨vs::xss,by simp [h3],fun i r xs hr hx=>?_,?_⟩
  ·cases i with
   |zero=>
    simp at hr hx;subst hr hx
    exact ⟨h1,h2.1⟩
   |succ i=>exact h4 i r xs (by simpa using hr) (by simpa using hx)
  ·rw [List.flatten_cons,List.flatMap_cons]
   exact h2.app h5
def bO (L:List (Option Addr×Nat×List Pt)):Array Value:=(L.map fun q=>gq q.1 q.2.2.length q.2.1).toArray
theorem Xl (w:World) (L:List (Option Addr×Nat×List Pt)):jV (w.alloc (.cells (bO L) 24)) (w.heap.size+1) (some ⟨w.heap.size,0,none⟩) (L.map fun q=>(q.1,q.2.2.length,q.2.1)):=fun _=>by
 refine ⟨w.heap.size,0,rfl,by omega,fun i x hx j u hu=>?_⟩
 have hj:j=0:=by
  have:=aP hu;rw [jv] at this;omega
 subst hj;rw [List.getElem?_map] at hx
 cases hq:L[i]? with
 |none=>rw [hq] at hx;cases hx
 |some q=>
  rw [hq] at hx;simp at hx;subst hx;simp [encS] at hu;subst hu;have hb:=heap_alloc_new w (.cells (bO L) 24);simp only [DI,hb];simp [bO,hq]
theorem fG (L:List (Option Addr×Nat×List Pt)) (Y:Nat->Prop) (w:World) (hL:∀q∈L,bN w Y q.1 q.2.1 q.2.2) (hlt:∀q,Y q->q<w.heap.size) (hn:L.length<=1000) (hlen:(L.flatMap fun q=>q.2.2).length<=1000000000):
  Calls Tryz.prog 83 #[.slice (some ⟨w.heap.size,0,none⟩) L.length L.length] (w.alloc (.cells (bO L) 24)) fun e w'=>Below (w.alloc (.cells (bO L) 24)).heap.size (w.alloc (.cells (bO L) 24)) w'/\∃A c,e= .returned (.slice A (L.flatMap fun q=>q.2.2).length c)/\bN w' Y A c (L.flatMap fun q=>q.2.2)/\∀a,A=some a->w.heap.size<=a.block:=by
 obtain ⟨xss,h3,h4,h5⟩:=Qw L hL;have hb1:Below w.heap.size w (w.alloc (.cells (bO L) 24)):=au (aI _ _) _;have hml:(L.map fun q=>(q.1,q.2.2.length,q.2.1)).length=L.length:=by simp
 have hC:=C8 (some ⟨w.heap.size,0,none⟩) L.length (L.map fun q=>(q.1,q.2.2.length,q.2.1)) xss (w.alloc (.cells (bO L) 24)) (by rw [World.size_alloc];exact Xl w L) ⟨by simp [h3],fun i v xs hv hx=>by
  rw [List.getElem?_map] at hv
  cases hq:L[i]? with
  |none=>rw [hq] at hv;cases hv
  |some q=>
   rw [hq] at hv;simp at hv;subst hv;obtain ⟨k1,k2⟩:=h4 i q xs hq hx;exact ⟨k2.symm,(aS.below k1.read hb1).more hb1.size⟩⟩ (by rw [hml];exact hn) (by rw [h5.1];exact hlen)
 rw [hml,h5.1] at hC;refine hC.mono ?_;rintro e w' ⟨A,c,rfl,hown,hb⟩;have hbw:Below w.heap.size w w':=ah hb1 hb;refine ⟨hb,A,c,rfl,⟨_,vN.own hown (fun q hq=>Yy (hlt q hq) hb1.size),h5.fr (Fr.below hbw) fun q hq=>.inl hq,?_⟩,fun a ha=>Nat.le_trans hb1.size (ay.lt hown a ha).1⟩;have:=ay.l5 hown;have:=h5.1;omega
theorem Tf (w:World) (v u:Option Addr×Nat×Nat):jV (w.alloc (.cells #[.slice v.1 v.2.1 v.2.2,.slice u.1 u.2.1 u.2.2] 28)) (w.heap.size+1) (some ⟨w.heap.size,0,none⟩) [v,u]:=fun _=>by
 refine ⟨w.heap.size,0,rfl,by omega,fun i x hx j y hy=>?_⟩
 have hj:j=0:=by
  have:=aP hy;rw [jv] at this;omega
 subst hj
 match i,hx with
 |0,hx=>simp at hx;subst hx;simp [encS] at hy;subst hy;simp
 |1,hx=>simp at hx;subst hx;simp [encS] at hy;subst hy;simp
 |i+2,hx=>simp at hx
theorem Xm {w:World} {Y:Nat->Prop} {A B:Option Addr} {c d:Nat} {t u:List Nd} (h:aF w Y A c t) (k:aF w Y B d u):aeb w Y [(A,t.length,c),(B,u.length,d)] [t,u]:=⟨rfl,fun i v xs hv hx=>by
 match i,hv,hx with
 |0,hv,hx=>simp at hv hx;subst hv hx;exact ⟨rfl,h⟩
 |1,hv,hx=>simp at hv hx;subst hv hx;exact ⟨rfl,k⟩
 |i+2,hv,_=>simp at hv⟩
theorem BP {aN:Nat}:∀(ts:List (List Nd)) (t m:List Nd),Gd t->bT aN t ts=some (.ok m)->Gd m
 |[],t,m,g,h=>by
  unfold bT at h;injection h with h
  injection h with h
  rw [<-h]
  exact g
 |u::ts,t,m,g,h=>by
  unfold bT at h
  cases hm:met 1 t u with
  |none=>rw [hm] at h;cases h
  |some y=>
   rw [hm] at h;dsimp only at h;by_cases hg:Gd y
   ·rw [if_pos hg] at h
    exact BP ts y m hg h
   ·rw [if_neg hg] at h
    cases h
abbrev Iz (w:World) (Q:Nat):Prop:=w.heap[Q]?=some (.cells #[.string ⟨#[]⟩,.slice none 0 0] 36 (0,0))
structure acZ (wm:World) (s:ByteArray) (t:List Nd) (Q:Nat) (A:Option Addr) (c:Nat) (w:World):Prop where
 b:Below wm.heap.size wm w
 q:w.heap[Q]?=some (.cells #[.string s,.slice A t.length c] 36 (0,0))
 z:wm.heap.size<=Q
 T:dF w wm.heap.size A c t
theorem Fx {wm w:World} {t:List Nd} {Q:Nat} {A:Option Addr} {c:Nat} (hb:Hid (Below wm.heap.size wm w)) (hT:Hid (dF w wm.heap.size A c t)) (hq:Hid (Iz w Q/\Q<w.heap.size/\wm.heap.size<=Q)) (s:ByteArray):Hid (acZ wm s t Q A c (set2 w Q (.string s) (.slice A t.length c))):=by
 refine aB ?_;have hf:Fr (fun q=>q=Q) w (set2 w Q (.string s) (.slice A t.length c)):=(dZ _ _ _ _).trans (dZ _ _ _ _);refine ⟨Fr.toBelow (Fr.new (Fr.below hb.out:Fr (fun _=>False) wm w) hf fun b e=>.inr (by rw [e];exact hq.out.2.2)) fun k e=>e.elim,?_,hq.out.2.2,ay.fr hT.out hf fun a ha e=>?_⟩
 ·unfold set2
  rw [heap_set (heap_set hq.out.1 0 _) 1];rfl
 ·have:=ay.rO hT.out ha
  rw [e] at this;exact iQ.ne this ⟨_,_,hq.out.1⟩ (by decide) rfl
theorem af_ {wm w w':World} {Q:Nat} (h:Iz w Q/\Q<w.heap.size/\wm.heap.size<=Q) (hb:Below w.heap.size w w'):Iz w' Q/\Q<w'.heap.size/\wm.heap.size<=Q:=⟨(hb.block Q h.2.1).trans h.1,Yy h.2.1 hb.size,h.2.2⟩
def iR (P:Nat) (es:List Pt) (env:Env) (a:Nat) (p:Pt) (r:eF) (Y:Nat->Prop) (w:World):{g:Nat->Nat->Nat->Option Addr->Nat->Option Addr->Nat->Nat->Nat->Nat->World->Prop // iV P es env a Y w->es[a]?=some p->a<=1000000->(∀eb eo ec TA tc UA uc R B G w4,Hid (wJ P es env (a+1) Y w R B G p TA tc UA uc Y w4)->g eb eo ec TA tc UA uc R B G w4)->Calls Tryz.prog 53 #[pk P] w (bU P es env Y r w)}:=by
 apply Subtype.mk;intro h hp hal HG;have hlt:=h.lt;have Qu:=hlt P h.yP;obtain ⟨w1,hw1⟩:∃w1,w1=w.alloc (.cells #[.slice none 0 0,.slice none 0 0] 65):=⟨_,rfl⟩;obtain ⟨R,hR⟩:∃R,R=w.heap.size:=⟨_,rfl⟩;have hb1:Below w.heap.size w w1:=by rw [hw1];exact au (aI _ _) _
 have Ir:aQ w1 Y R #[.slice none 0 0,.slice none 0 0] 65:=by rw [hw1,hR];exact aQ.new hlt _ _
 have hlt1:∀q,Y q->q<w1.heap.size:=fun q hq=>Yy (hlt q hq) hb1.size;obtain ⟨EA,ec,VA,vc,bs,hm1⟩:=h.later hb1;obtain ⟨eb,eo,hEA,pO,Z5,⟨TA,tc,UA,uc,hT,hU,c0,c1,c2,c3,c4,c5,c6,c7⟩,_⟩:=hm1.ex a p hp;subst hEA;have hai:=aP hp;have aar:(0:Int)<=(a:Int):=by omega
 have hai1:(a:Int)<(es.length:Int):=by omega
 have xJ:IntKind.i64.wrap ((a:Int)+1)=((a+1:Nat):Int):=IntWalk.i64_in _ (by omega);have xI:=aB hm1
 have S1:Hid (∀v,Below w1.heap.size w1 v->v.cell? ⟨P,0,none⟩=some (.slice (some ⟨eb,eo,none⟩) es.length ec)/\v.cell? ⟨P,1,none⟩=some (.int .i64 (a:Int))/\v.cell? ⟨eb,eo+a*8,none⟩=some (.int .i64 p.k)/\v.cell? ⟨eb,eo+a*8+1,none⟩=some (.string p.lb)/\v.cell? ⟨eb,eo+a*8+2,none⟩=some (.string p.nm)/\v.cell? ⟨eb,eo+a*8+3,none⟩=some (.string p.bd)/\v.cell? ⟨eb,eo+a*8+4,none⟩=some (.int .i64 p.mn)/\v.cell? ⟨eb,eo+a*8+5,none⟩=some (.int .i64 p.num)/\v.cell? ⟨eb,eo+a*8+6,none⟩=some (.slice TA p.T.length tc)/\v.cell? ⟨eb,eo+a*8+7,none⟩=some (.slice UA p.U.length uc)):=aB fun v hv=>by
  have hPz:P<w1.heap.size:=Yy Qu hb1.size;exact ⟨(hv.cell (p:=⟨P,0,none⟩) hPz).trans hm1.cells.1,(hv.cell (p:=⟨P,1,none⟩) hPz).trans hm1.cells.2.1,(hv.cell (p:=⟨eb,eo+a*8,none⟩) pO).trans c0,(hv.cell (p:=⟨eb,eo+a*8+1,none⟩) pO).trans c1,(hv.cell (p:=⟨eb,eo+a*8+2,none⟩) pO).trans c2,(hv.cell (p:=⟨eb,eo+a*8+3,none⟩) pO).trans c3,(hv.cell (p:=⟨eb,eo+a*8+4,none⟩) pO).trans c4,(hv.cell (p:=⟨eb,eo+a*8+5,none⟩) pO).trans c5,(hv.cell (p:=⟨eb,eo+a*8+6,none⟩) pO).trans c6,(hv.cell (p:=⟨eb,eo+a*8+7,none⟩) pO).trans c7⟩
 have HR:Hid (P<w.heap.size/\w.heap.size<=R/\Fr Y w w1/\aQ w1 Y R #[.slice none 0 0,.slice none 0 0] 65):=aB ⟨Qu,by rw [hR];exact aK _,Fr.below hb1,Ir⟩;have HT:=aB (DF hT (DF hU hlt1));have HZ1:=aB hb1.size;clear h hp hm1 hT hU Ir hlt hlt1 Qu hb1 c0 c1 c2 c3 c4 c5 c6 c7 pO Z5;unfold pk;go_enter Tryz.func53,Tryz.ntmps53;go_upto_region 1 with fail
 rw [<-hw1,<-hR];clear hw1 hR;obtain ⟨SS,hSS⟩:∃SS:World->Prop,SS=fun v=>v.cell? ⟨P,0,none⟩=some (.slice (some ⟨eb,eo,none⟩) es.length ec)/\v.cell? ⟨P,1,none⟩=some (.int .i64 (a:Int))/\v.cell? ⟨eb,eo+a*8,none⟩=some (.int .i64 p.k)/\v.cell? ⟨eb,eo+a*8+1,none⟩=some (.string p.lb)/\v.cell? ⟨eb,eo+a*8+2,none⟩=some (.string p.nm)/\v.cell? ⟨eb,eo+a*8+3,none⟩=some (.string p.bd)/\v.cell? ⟨eb,eo+a*8+4,none⟩=some (.int .i64 p.mn)/\v.cell? ⟨eb,eo+a*8+5,none⟩=some (.int .i64 p.num)/\v.cell? ⟨eb,eo+a*8+6,none⟩=some (.slice TA p.T.length tc)/\v.cell? ⟨eb,eo+a*8+7,none⟩=some (.slice UA p.U.length uc):=⟨_,rfl⟩;have HS:Hid (∀v,Below w1.heap.size w1 v->SS v):=aB fun v hv=>by rw [hSS];exact S1.out v hv
 obtain ⟨wd,hwd⟩:∃wd,wd=w1.drew:=⟨_,rfl⟩;have bM:Hid (Below w1.heap.size w1 wd):=aB (by rw [hwd];exact (aI _ _).drew);have sd:=HS.out _ bM.out;refine aG (S:=SS) [11] (by kernel_rfl) (by rw [<-hwd];exact sd) (fun hHeld=>?_);rw [<-hwd] at hHeld ⊢;clear hwd;refine aM 0 [11] (some 26) rfl rfl ?_;refine aM 1 [11] (some 27) rfl rfl ?_;refine aM 2 [11] (some 28) rfl rfl ?_;refine aM 3 [11] (some 29) rfl rfl ?_;refine aM 4 [11] (some 30) rfl rfl ?_;refine aM 5 [11] (some 31) rfl rfl ?_;refine aM 6 [11] (some 32) rfl rfl ?_;refine aM 7 [11] (some 33) rfl rfl ?_;refine aM 8 [11] (some 34) rfl rfl ?_;refine aM 9 [11] (some 35) rfl rfl ?_;refine aX 10 (some 3) (v:=.pointer (some ⟨wd.heap.size,0,none⟩)) (w':=wd.alloc (.cells #[.int .i64 0,.string ⟨#[]⟩,.string ⟨#[]⟩,.string ⟨#[]⟩,.int .i64 0,.int .i64 0,.slice none 0 0,.slice none 0 0] 33)) rfl rfl (by kernel_rfl) (by rfl) (by go_simp) (fun _=>HS.out _ (au bM.out _)) ?_;refine aA ?_;refine jl 11 none (w':=?_) rfl rfl (by kernel_rfl) (by rfl) ?_ (zL (by kernel_rfl)) ?_
 rotate_left
 ·(go_simp;try with_reducible rfl)
 refine aA ?_;refine bB (by kernel_rfl) ?_ _;obtain ⟨w2,hw2⟩:∃w2,w2=wd.alloc (.cells #[.int .i64 p.k,.string p.lb,.string p.nm,.string p.bd,.int .i64 p.mn,.int .i64 p.num,.slice TA p.T.length tc,.slice UA p.U.length uc] 33):=⟨_,rfl⟩;obtain ⟨B,hB⟩:∃B,B=wd.heap.size:=⟨_,rfl⟩;have x9:Hid (aZ w2 Y B p TA tc UA uc/\Below w1.heap.size w1 w2):=aB ⟨by rw [hw2,hB];exact aZ.new (fun q hq=>Yy (HT.out.2.2 q hq) bM.out.size) (HT.out.1.later bM.out) (HT.out.2.1.later bM.out),by rw [hw2];exact au bM.out _⟩;have HBR:Hid (B=wd.heap.size):=aB hB;rw [<-hw2,<-hB];clear hw2 hB sd hHeld;have Pv:=aB (xI.out.later x9.out.2);obtain ⟨_,d1,_⟩:=Pv.out.cells;have fd1:=Pv.out.frozen 1 (by omega);go_upto_region 3 with fail
 obtain ⟨w3,hw3⟩:∃w3,w3=w2.setCell ⟨P,1,none⟩ (.int .i64 ((a+1:Nat):Int)):=⟨_,rfl⟩;have DY:=aB (Pv.out.put (a+1));rw [<-hw3] at DY;have e3:w2.setCell ⟨P,1,none⟩ (.int .i64 ((a:Int)+1))=w3:=hw3.symm
 first|rw [e3]|rw [<-hw3]
 clear hw3 e3 d1 fd1;have HT3:=aB (x9.out.1.fr DY.out.2 (aj.refl _ _));obtain ⟨k0,k1,k2,k3,k4,k6,k7⟩:=HT3.out.cells;have k5:w3.cell? ⟨B,5,none⟩=some (.int .i64 p.num):=by simp [DI,HT3.out.blk]
 go_upto_region 4 with fail
 obtain ⟨w4,hw4⟩:∃w4,w4=w3.alloc (.cells #[.int .i64 p.k,.string p.lb,.string p.nm,.string p.bd,.int .i64 p.mn,.int .i64 p.num,.slice TA p.T.length tc,.slice UA p.U.length uc] 33):=⟨_,rfl⟩;obtain ⟨G,hG⟩:∃G,G=w3.heap.size:=⟨_,rfl⟩
 have H4:Hid (wJ P es env (a+1) Y w R B G p TA tc UA uc Y w4):=aB (by
  have hb4:Below w3.heap.size w3 w4:=by rw [hw4];exact au (aI _ _) _
  have hf3:Fr Y w w3:=(HR.out.2.2.1.trans (Fr.below x9.out.2)).trans DY.out.2;exact ⟨hf3.trans (Fr.below hb4),aj.refl _ _,iV.later ⟨_,_,_,_,_,DY.out.1⟩ hb4,HT3.out.later hb4,((HR.out.2.2.2.below x9.out.2).fr DY.out.2 (aj.refl _ _)).below hb4,HR.out.1,HR.out.2.1,by have:=HR.out.2.2.2.lt;have:=bM.out.size;have:=HBR.out;omega,by have:=(aai.1 HT3.out.blk).1;omega,by rw [hw4,hG];exact aQ.new DY.out.1.lt _ _,by rw [hG];exact hf3.size⟩)
 rw [<-hw4,<-hG];clear hw4 hG k0 k1 k2 k3 k4 k5 k6 k7 Pv DY HT3 x9 xI S1 HT HR HS hSS bM SS aar hai1 xJ;rename_i K1 hK1 K2 hK2;have HGG:=HG eb eo ec TA tc UA uc R B G w4 H4;clear HG H4 HBR HZ1;revert K1 K2;exact HGG
theorem Tg (P:Nat) (es:List Pt) (nx:kW) (_HN:Hid (lJ P es nx)) (env:Env) (a:Nat) (p:Pt) (r:eF) (Y:Nat->Prop) (w:World) (h:iV P es env a Y w) (hp:es[a]?=some p) (hk:p.k=0) (hal:a<=1000000) (hm:(some ([p],p.T,a+1):Option eF)=some r):
  Calls Tryz.prog 53 #[pk P] w (bU P es env Y r w):=by
 have jW:=aB (DF hm hp);have pR:=aB hk;refine (iR P es env a p r Y w).2 h hp hal ?_;clear h hp hal hm hk;intro eb eo ec TA tc UA uc R B G w4 H4;dsimp only [iR];intro K1 hK1 K2 hK2;obtain ⟨k0,k1,k2,k3,k4,k6,k7⟩:=H4.out.pt.cells;have jr:w4.cell? ⟨B,0,none⟩=some (.int .i64 0):=by rw [k0,pR.out]
 clear k0;have hr:=jW.out.1;injection hr with hr
 subst hr;clear jW;have HE:=aB (H4.out.done (r:=([p],p.T,(a+1))) rfl (H4.out.ex) (H4.out.pt.T) (fun a ha=>by injection ha with ha;rw [<-ha];exact H4.out.gw));obtain ⟨r0,r1,rU,rV⟩:=H4.out.jN;go_wp2_with fail;obtain ⟨wy,bK⟩:∃wy,wy=set2 w4 R (.slice (some ⟨G,0,none⟩) ([p]:List Pt).length 1) (.slice TA (p.T:List Nd).length tc):=⟨_,rfl⟩;have HE2:Hid (bU P es env Y ([p],p.T,(a+1)) w (.returned (.agg #[.slice (some ⟨G,0,none⟩) ([p]:List Pt).length 1,.slice TA (p.T:List Nd).length tc])) wy/\wy.cell? ⟨R,0,none⟩=some (.slice (some ⟨G,0,none⟩) ([p]:List Pt).length 1)/\wy.cell? ⟨R,1,none⟩=some (.slice TA (p.T:List Nd).length tc)):=aB (by rw [bK];exact HE.out);unfold set2 at bK
 first|rw [<-bK]|(simp only [aaA] at bK;rw [<-bK])
 have q0:=HE2.out.2.1;have q1:=HE2.out.2.2;refine bodyPost_ret (v:=.agg #[.slice (some ⟨G,0,none⟩) ([p]:List Pt).length 1,.slice TA (p.T:List Nd).length tc]) (by simp [results,Tryz.results53,go_sem,q0,q1]) rfl HE2.out.1
open Go.RowKit Go.Shelf
attribute [local go_sem] Oper.semAt_some
def NaI (w:World) (s:ByteArray) (pre:List Kh) (W:World):Prop:=
 (∀x∈pre,x.2.s.toList≠s.toList)/\W.heap[w.heap.size]?=some (.cells #[.string s] 9 (0,0))/\W.heap[w.heap.size+1]?=some (.cells #[.slice none 0 0] 28 (0,0))/\Below w.heap.size w W/\w.heap.size+3<=W.heap.size
def NaX (w:World) (s:ByteArray) (c:Code) (pre:List Kh) (W:World):Prop:=
 (∃pre' x,c= .ret/\pre=pre'++[x]/\(∀y∈pre',y.2.s.toList≠s.toList)/\x.2.s.toList=s.toList/\W.heap[w.heap.size+1]?=some (.cells #[.slice x.2.A x.2.n x.2.c] 28 (0,0)))/\Below w.heap.size w W
theorem aau (w:World) (s:ByteArray) (B:Nat) (hB:w.heap.size<=B):OwnFrom B (NaI w s):=fun _s W W' row hs hg hr=>
 ⟨hs.1,rR B _ (fun _:Unit=>_) (fun _=>rfl) () W W' row hs.2.1 hg hr,rR B _ (fun _:Unit=>_) (fun _=>rfl) () W W' row hs.2.2.1 hg hr,ownFrom_below (β:=Unit) (aK _) hB () W W' row hs.2.2.2.1 hg hr,Nat.le_trans hs.2.2.2.2 hg.size⟩
theorem aav (w:World) (s:ByteArray) (B:Nat) (hB:w.heap.size<=B) (c:Code):OwnFrom B (NaX w s c):=fun s W W' row hs hg hr=>by
 obtain ⟨⟨pre',x,h1,h2,h3,h4,h5⟩,h6⟩:=hs;exact ⟨⟨pre',x,h1,h2,h3,h4,rR B _ (fun _:Unit=>_) (fun _=>rfl) () W W' row h5 hg hr⟩,ownFrom_below (β:=Unit) (aK _) hB () W W' row h6 hg hr⟩
theorem Ti (P:Nat) (es:List Pt) (env:Env) (s:ByteArray) (a:Nat) (t:List Nd) (Y:Nat->Prop) (w:World) (h:iV P es env a Y w) (hm:l7 env s=some t):
  Calls Tryz.prog 80 #[pk P,.string s] w fun e w'=>Below w.heap.size w w'/\∃A c,e= .returned (.slice A t.length c)/\aF w' Y A c t:=by
 have vL:Hid (P<w.heap.size):=aB (h.lt P h.yP);obtain ⟨EA,ec,VA,vc,bs,hmk⟩:=h;have HM:=aB (DF hmk hm);obtain ⟨_,_,c2⟩:=hmk.cells;have W9:=hmk.lt P ((hmk.y P).2 (.inl rfl));have hbl:bs.length<=1000000:=by rw [hmk.en.1];exact hmk.vl
 have h1:((w.alloc (.cells #[.string s] 9)).alloc (.cells #[.slice none 0 0] 28)).cell? ⟨P,2,none⟩=some (.slice VA bs.length vc):=by
  rw [<-c2];exact (au (au (aI _ _) _) _:Below w.heap.size w _).cell W9
 clear hmk hm c2;refine (callsIn_wide (n:=9)).1 ?_;unfold pk;refine callsIn_of_wp_marks Tryz.func80 rfl trivial ?_ rfl;simp only [Tryz.ntmps80,List.size_toArray,List.length_cons,List.length_nil,Nat.reduceAdd,Nat.reduceSub,Array.replicate_succ,Array.replicate_zero,List.push_toArray,List.append_toArray,List.nil_append,List.cons_append]
 gi_wp2
 refine ⟨trivial,?_⟩;refine (Z9 8 VA bs.length vc _).mono ?_;rintro e w' ⟨rfl,rfl⟩;clear h1;obtain ⟨W0,hW0⟩:∃W0,W0=((w.alloc (.cells #[.string s] 9)).alloc (.cells #[.slice none 0 0] 28)).alloc (.cells #[.slice VA bs.length vc] 22):=⟨_,rfl⟩;have hsz:W0.heap.size=w.heap.size+3:=by rw [hW0];simp
 have hB0:Below w.heap.size w W0:=by rw [hW0];exact au (au (au (aI _ _) _) _) _
 obtain ⟨q0,q1,q2⟩:=Lc w _ _ _ _ _ _ W0 hW0;rw [<-hW0];clear hW0
 gi_wp2
 have HQ:=aB (DF hsz (DF hB0 (DF q0 (DF q1 q2))));have hbs:W0.cell? ⟨w.heap.size+1+1,0,none⟩=some (.slice VA bs.length vc):=by simp [DI,q2]
 have hbw:SQ (w.heap.size+3) (w.heap.size+1) W0 VA bs:=fun hne=>by
  obtain ⟨b,o,e,hb,hr⟩:=(ay.read tu HM.out.1.own) hne;refine ⟨b,o,e,by omega,by omega,fun j hj=>?_⟩;have hx:bs[j]?=some bs[j]:=List.getElem?_eq_getElem hj;have h0:=hr j _ hx 0 _ rfl;have h1:=hr j _ hx 1 _ rfl;rw [hx];exact ⟨(hB0.cell hb).trans h0,(hB0.cell hb).trans h1⟩
 refine wpIn_rangeFunc_ownH rfl (by decide) (gf:=119) (lb:=#[.pointer (some ⟨w.heap.size+1+1,0,none⟩)]) rfl trivial (enters_of Tryz.func119 (by kernel_rfl) rfl)
  (La 8 (by decide) (w.heap.size+1+1) (w.heap.size+3) (w.heap.size+1) vc VA bs hbl W0 (by omega) (by omega) (by omega) hbs hbw) sw.trans (sw.put (by omega)) (aI _ _) (fun _=>rfl)
  (NaI w s) (NaX w s) (aau w s W0.heap.size (by omega)) (fun c=>aav w s W0.heap.size (by omega) c)
  ⟨fun x hx=>by simp at hx,q0,q1,hB0,by omega⟩
  (fun x a2 W=>∃Bx,w.heap.size+3<=Bx/\W.heap[Bx]?=some (.cells #[.string x.2.s,.slice x.2.A x.2.n x.2.c] 36 (0,0))/\a2={tmps:=#[.pointer (some ⟨P,0,none⟩),.string s,undef,.pointer (some ⟨w.heap.size,0,none⟩),.pointer (some ⟨w.heap.size+1,0,none⟩),undef,.pointer (some ⟨Bx,0,none⟩),.pointer (some ⟨P,0,none⟩),.pointer (some ⟨P,0,none⟩),.pointer (some ⟨P,2,none⟩),.slice VA bs.length vc,.func (.func 119) #[] #[.pointer (some ⟨w.heap.size+1+1,0,none⟩)],.int .i64 (x.1:Int),.agg #[.string x.2.s,.slice x.2.A x.2.n x.2.c],undef,undef,undef,undef,undef,undef],defers:=[]})
  (fun x a2 _ X Y row hs hg hr=>by
   obtain ⟨Bx,e1,e2,e3⟩:=hs;exact ⟨Bx,e1,rR W0.heap.size Bx (fun _:Unit=>_) (fun _=>rfl) () X Y row e2 hg hr,e3⟩)
  ?assign ?body ?done ?stop
 case assign=>
  rintro l pre x W K hI hK;have HK:=aB (DF hI hK);clear hI hK;unfold Im
  gi_wp2
  have hzW:=HK.out.1.2.2.2.2;exact HK.out.2 _ _ ((KeepsOthers.alloc _ _).from _) ⟨by simp,fun k hk _=>FW _ _ _ (by omega)⟩ ⟨HK.out.1.1,(FW _ _ _ (by omega)).trans HK.out.1.2.1,(FW _ _ _ (by omega)).trans HK.out.1.2.2.1,Fq HK.out.1.2.2.2.1 _,by simp;omega⟩ ⟨W.heap.size,hzW,heap_alloc_new _ _,rfl⟩
 case body=>
  rintro l pre x a2 W hl ⟨r1,hr⟩ hI ⟨Bx,hBx,bX,rfl⟩ hlt;have b0:W.cell? ⟨Bx,0,none⟩=some (.string x.2.s):=by simp [DI,bX]
  have b1:W.cell? ⟨Bx,1,none⟩=some (.slice x.2.A x.2.n x.2.c):=by simp [DI,bX]
  have n2:W.cell? ⟨w.heap.size,0,none⟩=some (.string s):=by simp [DI,hI.2.1]
  have cR:W.cell? ⟨w.heap.size+1,0,none⟩=some (.slice none 0 0):=by simp [DI,hI.2.2.1]
  have fR:W.frozen? ⟨w.heap.size+1,0,none⟩=false:=by simp [Gb,hI.2.2.1]
  have HI:=aB hI;by_cases heq:x.2.s.toList=s.toList
  ·have hq:(x.2.s.toList==s.toList)=true:=by simp [heq]
   have HE:=aB heq;clear heq hI hr hl hlt bX
   gi_wp2
   exact ⟨(KeepsOthers.setCell _ _ _).from _,⟨pre,x,rfl,rfl,HI.out.1,HE.out,heap_set HI.out.2.2.1 0 _⟩,HI.out.2.2.2.1.setCell (p:=⟨w.heap.size+1,0,none⟩) (by simp) _⟩
  ·have hq:(x.2.s.toList==s.toList)=false:=by simp [heq]
   have HE:=aB heq;clear heq hI hr hl hlt bX
   gi_wp2
   refine ⟨KeepsFrom.refl _ _,sw.refl _ _ _,fun y hy=>?_,HI.out.2⟩;rcases List.mem_append.1 hy with hy|hy
   ·exact HI.out.1 y hy
   ·simp at hy
    subst hy;exact HE.out
 case done=>
  rintro D xs W hD hS hI hK;exfalso;have hRn:l7 env s=none:=Fu HM.out.1.en (by rw [<-hS];exact hI.1);have:=HM.out.2;rw [hRn] at this
  cases this
 case stop=>
  rintro D c pre W hD hpre hI hK;obtain ⟨⟨pre',x,rfl,hpe,hno,heq,hb⟩,hB⟩:=hI;obtain ⟨kk,hkk,hpk⟩:=hpre;obtain ⟨t2,hlk,hxn,hxc⟩:=Ld HM.out.1.en hkk hpk hpe hno heq
  have J4:Hid (t2=t):=aB (by
   have:=HM.out.2;rw [hlk] at this;injection this with this)
  gi_wp2
  refine ⟨by simp,.inl ⟨_,_,rfl,run_takeDeferred hK,?_⟩⟩;have hne:D≠w.heap.size+1:=by omega
  have l8:(W.putObj D (.deferred none)).heap[w.heap.size+1]?=some (.cells #[.slice x.2.A x.2.n x.2.c] 28 (0,0)):=(World.putObj_heap_other (fun e=>hne e.symm)).trans hb;have Il:(W.putObj D (.deferred none)).cell? ⟨w.heap.size+1,0,none⟩=some (.slice x.2.A x.2.n x.2.c):=by simp [DI,l8]
  have Xa:Below w.heap.size w (W.putObj D (.deferred none)):=hB.trans (belowK_b (w:=w) (aK _) W D _ _ (by omega) hK rfl rfl);refine ⟨.slice x.2.A x.2.n x.2.c,?_,?_⟩
  ·simp [results,Tryz.f80,go_sem,Il]
  ·exact ⟨Xa,x.2.A,x.2.c,by rw [hxn,J4.out],by rw [<-J4.out];exact aF.fr hxc (Fr.below Xa) (aj.refl _ _)⟩
theorem Qx (P:Nat) (es:List Pt) (nx:kW) (_HN:Hid (lJ P es nx)) (env:Env) (a:Nat) (p:Pt) (r:eF) (Y:Nat->Prop) (w:World) (h:iV P es env a Y w) (hp:es[a]?=some p) (hk:p.k=1) (hal:a<=1000000) (hm:Ef env p (a+1)=some r):
  Calls Tryz.prog 53 #[pk P] w (bU P es env Y r w):=by
 have jW:=aB (DF hm hp);have pR:=aB hk;refine (iR P es env a p r Y w).2 h hp hal ?_;clear h hp hal hm hk;intro eb eo ec TA tc UA uc R B G w4 H4;dsimp only [iR];intro K1 hK1 K2 hK2;obtain ⟨k0,k1,k2,k3,k4,k6,k7⟩:=H4.out.pt.cells;have jr:w4.cell? ⟨B,0,none⟩=some (.int .i64 1):=by rw [k0,pR.out]
 clear k0
 obtain ⟨t,hlk,hr⟩:∃t,l7 env p.nm=some t/\([p],t,a+1)=r:=by
  have h5:=jW.out.1;unfold Ef at h5
  cases h6:l7 env p.nm with
  |none=>rw [h6] at h5;cases h5
  |some t=>rw [h6] at h5;injection h5 with h5;exact ⟨t,rfl,h5⟩
 subst hr;have HL:=aB hlk;clear hlk jW;have HX:=aB (Ti P es env p.nm (a+1) t Y w4 H4.out.wk HL.out);go_wp2_with fail;refine HX.out.mono ?_;rintro e w5 ⟨hb,A9,c9,rfl,ht⟩;clear HX;have H5:=aB (H4.out.later hb);have b_:Hid (aF w5 Y A9 c9 t):=aB ht;clear ht hb
 try clear k0 k1 k2 k3 k4 k6 k7
 try clear jr
 try clear k1 k2 k3 k4 k6 k7
 obtain ⟨k0,k1,k2,k3,k4,k6,k7⟩:=H5.out.pt.cells
 skip
 have HE:=aB (H5.out.done (r:=([p],t,(a+1))) rfl (H5.out.ex) (b_.out) (fun a ha=>by injection ha with ha;rw [<-ha];exact H5.out.gw));obtain ⟨r0,r1,rU,rV⟩:=H5.out.jN;go_wp2_with fail;obtain ⟨wy,bK⟩:∃wy,wy=set2 w5 R (.slice (some ⟨G,0,none⟩) ([p]:List Pt).length 1) (.slice A9 (t:List Nd).length c9):=⟨_,rfl⟩;have HE2:Hid (bU P es env Y ([p],t,(a+1)) w (.returned (.agg #[.slice (some ⟨G,0,none⟩) ([p]:List Pt).length 1,.slice A9 (t:List Nd).length c9])) wy/\wy.cell? ⟨R,0,none⟩=some (.slice (some ⟨G,0,none⟩) ([p]:List Pt).length 1)/\wy.cell? ⟨R,1,none⟩=some (.slice A9 (t:List Nd).length c9)):=aB (by rw [bK];exact HE.out);unfold set2 at bK
 first|rw [<-bK]|(simp only [aaA] at bK;rw [<-bK])
 have q0:=HE2.out.2.1;have q1:=HE2.out.2.2;refine bodyPost_ret (v:=.agg #[.slice (some ⟨G,0,none⟩) ([p]:List Pt).length 1,.slice A9 (t:List Nd).length c9]) (by simp [results,Tryz.results53,go_sem,q0,q1]) rfl HE2.out.1
end Go.Proofs.YtmjdhfbnmmdjiaaGreat
