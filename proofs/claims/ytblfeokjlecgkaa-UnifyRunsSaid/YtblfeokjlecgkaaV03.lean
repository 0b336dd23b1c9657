/- Laid together by a tool from the texts of this seat: CanonW Vars VarsP RVars RCanon RKids Rb13. Conditions: each theorem's own. -/
import Derived.Test.YtblfeokjlecgkaaV02
import Derived.Maps.OwnSet
import Derived.Deep.RegionHeld3
import Derived.Deep.DrawnRows
set_option maxHeartbeats 8000000
set_option maxRecDepth 100000
namespace Go.Proofs.Ytblfeokjlecgkaa
open Go.Lib renaming hid->aC,compact->aaf,compactUpTo->aai,keeps->aak,compactUpTo_succ->aaP
open Go.RowKit.Below renaming refl->aT
open Go.Value renaming slice->aO
open _root_.Nat renaming le_refl->bN,zero_le->h_,le_trans->zk,sub_self->Vf,zero_add->iE,lt_of_lt_of_le->vv,lt_or_eq_of_le->aaF
open _root_.List renaming mem_append->JQ,take_add_one->GZ,getElem?_eq_getElem->jr,mem_cons->Gz,mem_of_getElem?->Yt,getD->aac,cons_append->Gx,getElem?_append_right->zA,drop_zero->Kk,append_nil->ER,take_length->M9,flatten_cons->Ry,length_append->A_,getElem_mem->aal,mem_flatten->aam,flatten_nil->aan,length_cons->Bl,length_take->zH,drop_eq_nil_of_le->aau,nil_append->RU,getElem?_append_left->aaM,mem_map->aaN,mem_filter->aaO,mem_append_left->aaR,getElem_of_mem->aaS,length_map->aaT,length_filter_le->aaU,pairwise_iff_getElem->aaV,mem_singleton->aaW,length_drop->VF
open _root_.And renaming intro->Gw
open _root_.Option renaming getD_some->aaj
open _root_.Classical renaming byContradiction->aax
open Go.Region renaming wanted->aaH
def pU (n:Int):List Int->Nat
 |[]=>0
 |m::l=>if m=n then 0 else pU n l+1
theorem KH {n:Int}:∀{l:List Int},n∈l->pU n l<l.length
 |m::l,h=>by
  unfold pU;split
  ·simp
  ·next hne=>
   rcases Gz.1 h with rfl|h
   ·exact absurd rfl hne
   ·have:=KH h;simp;omega
theorem GH {n:Int}:∀{l:List Int},n∈l->l[pU n l]?=some n
 |m::l,h=>by
  unfold pU;split
  ·next e=>simp [e]
  ·next hne=>
   rcases Gz.1 h with rfl|h
   ·exact absurd rfl hne
   ·simpa using GH h
def seen (had:List Int) (x:Nd):List Int:=if bZ x.k=true/\x.n∉had then had++[x.n] else had
def uY (had:List Int) (x:Nd):Nd:=if bZ x.k=true then ⟨x.k,x.s,(pU x.n (seen had x)+1:Nat)⟩ else x
def iX (had:List Int):List Nd->List Int
 |[]=>had
 |x::xs=>iX (seen had x) xs
def uN (had:List Int):List Nd->List Nd
 |[]=>[]
 |x::xs=>uY had x::uN (seen had x) xs
def rG (had:List Int):List (List Nd)->List Int
 |[]=>had
 |t::l=>rG (iX had t) l
def lq (had:List Int):List (List Nd)->List (List Nd)
 |[]=>[]
 |t::l=>uN had t::lq (iX had t) l
theorem tH:∀(had:List Int) (xs:List Nd),(uN had xs).length=xs.length
 |_,[]=>rfl
 |had,x::xs=>by simp [uN,tH]
theorem Oa:∀(had:List Int) (l:List (List Nd)),(lq had l).length=l.length
 |_,[]=>rfl
 |had,t::l=>by simp [lq,Oa]
theorem Zd (had:List Int) (x:Nd):(seen had x).length=if bZ x.k=true/\x.n∉had then had.length+1 else had.length:=by
 unfold seen;split<;>simp
theorem KJ {had:List Int} {x:Nd} (h:bZ x.k=true):uY had x=⟨x.k,x.s,(pU x.n (seen had x)+1:Nat)⟩:=by
 unfold uY;rw [if_pos h]
open Go.RowKit Go.Maps
theorem aM.nP {w w':World} {X:Option Addr} {xs:List Nd} {row:Option Nat} (h:aM w w.heap.size X xs) (hg:w.grownBy w' row) (hne:∀k,row=some k->∀a,X=some a->a.block≠k):aM w' w'.heap.size X xs:=by
 refine aM.more (B:=w.heap.size) (aX.g_ fun hx=>?_) hg.size;obtain ⟨b,o,rfl,hb,hc⟩:=h.PK hx;refine ⟨b,o,rfl,hb,fun i x hx j u hu=>?_⟩;have hblk:=hg.block b hb (fun e=>hne b e.symm _ rfl rfl);rw [World.cell?_of_block (a:=⟨b,o+i*3+j,none⟩) hblk];exact hc i x hx j u hu
theorem rE.nP {w w':World} {vs:List (Option Addr×Nat×Nat)} {outs:List (List Nd)} {row:Option Nat} (h:rE w w.heap.size vs outs) (hg:w.grownBy w' row) (hne:∀k,row=some k->∀v∈vs,∀a,v.1=some a->a.block≠k):rE w' w'.heap.size vs outs:=
 ⟨h.1,fun i v xs hv hx=>by
  obtain ⟨h1,h2⟩:=h.2 i v xs hv hx;exact ⟨h1,h2.nP hg fun k hk=>hne k hk v (Yt hv)⟩⟩
def pE (had:List Int) (xs:List Nd) (j:Nat):List Nd:=uN had (xs.take j)++xs.drop j
theorem Fh:∀(had:List Int) (a b:List Nd),uN had (a++b)=uN had a++uN (iX had a) b
 |_,[],_=>rfl
 |had,x::a,b=>by simp only [Gx,uN,iX,Fh (seen had x) a b]
theorem Ed:∀(had:List Int) (a b:List Nd),iX had (a++b)=iX (iX had a) b
 |_,[],_=>rfl
 |had,x::a,b=>by simp only [Gx,iX,Ed (seen had x) a b]
theorem Fj:∀(had:List Int) (a b:List (List Nd)),lq had (a++b)=lq had a++lq (rG had a) b
 |_,[],_=>rfl
 |had,x::a,b=>by simp only [Gx,lq,rG,Fj (iX had x) a b]
theorem Ee:∀(had:List Int) (a b:List (List Nd)),rG had (a++b)=rG (rG had a) b
 |_,[],_=>rfl
 |had,x::a,b=>by simp only [Gx,rG,Ee (iX had x) a b]
theorem Ob:∀(had:List Int) (xs:List Nd),(iX had xs).length<=had.length+xs.length
 |_,[]=>bN _
 |had,x::xs=>by
  have h1:=Ob (seen had x) xs;have h2:=Zd had x;simp only [iX,Bl];split at h2<;>omega
theorem Oc {m:Nat}:∀(had:List Int) (l:List (List Nd)),(∀xs∈l,xs.length<=m)->(rG had l).length<=had.length+l.length*m
 |_,[],_=>by simp [rG]
 |had,x::l,h=>by
  have h1:=Oc (iX had x) l fun xs hx=>h xs (by simp [hx]);have h2:=Ob had x;have h3:=h x (by simp);simp only [rG,Bl,Nat.succ_mul];omega
theorem BG {had:List Int} {xs:List Nd} {j:Nat} {x:Nd} (h:xs[j]?=some x):iX had (xs.take (j+1))=seen (iX had (xs.take j)) x:=by
 rw [GZ,h,Ed];rfl
theorem Sl {l:List (List Nd)} {k:Nat} {xs:List Nd} (h:l[k]?=some xs):rG [] (l.take (k+1))=iX (rG [] (l.take k)) xs/\lq [] (l.take (k+1))=lq [] (l.take k)++[uN (rG [] (l.take k)) xs]:=by
 rw [GZ,h,Ee,Fj];exact ⟨rfl,rfl⟩
theorem Sn (had:List Int) (xs:List Nd):pE had xs 0=xs:=by simp [pE,uN]
theorem Vx (had:List Int) (xs:List Nd):pE had xs xs.length=uN had xs:=by simp [pE]
theorem Vy (had:List Int) (xs:List Nd) (j:Nat):(pE had xs j).length=xs.length:=by
 unfold pE;rw [A_,tH,<-A_,List.take_append_drop]
theorem Ze {had:List Int} {xs:List Nd} {j:Nat} {x:Nd} (h:xs[j]?=some x):(pE had xs j)[j]?=some x:=by
 have hi:=bf h;unfold pE;have hl:(uN had (xs.take j)).length=j:=by rw [tH,zH];omega
 rw [zA (by omega),hl,Vf,List.getElem?_drop];simpa using h
theorem BH {had:List Int} {xs:List Nd} {j:Nat} {x:Nd} (h:xs[j]?=some x):pE had xs (j+1)=(pE had xs j).set j (uY (iX had (xs.take j)) x):=by
 have hi:=bf h;have hl:(uN had (xs.take j)).length=j:=by rw [tH,zH];omega
 unfold pE;rw [GZ,h,Fh,List.set_append_right _ _ (by omega),hl,Vf,drop_cons h,List.append_assoc];rfl
theorem XW {had:List Int} {x:Nd} (h:bZ x.k=false):uY had x=x/\seen had x=had:=by
 unfold uY seen;simp [h]
open Go.RowKit
structure mo (w0:World) (V:Option Addr) (cv:Nat) (vs:List (Option Addr×Nat×Nat)) (outs:List (List Nd)) (U:Option Addr) (uc:Nat) (us:List Nd) (w:World):Prop where
 row:vE w w0.heap.size V cv vs
 wK:rE w w.heap.size vs outs
 cur:fA w w0.heap.size U uc us
 aU:Below w0.heap.size w0 w
 uv:Off U V
 su:∀v∈vs,Off v.1 U
 sv:∀v∈vs,Off v.1 V
 lt:∀v∈vs,∀a,v.1=some a->a.block<w.heap.size
section
variable {w0 w w':World} {V:Option Addr} {cv:Nat} {vs:List (Option Addr×Nat×Nat)} {outs:List (List Nd)} {U:Option Addr} {uc:Nat} {us:List Nd}
theorem mo.step (h:mo w0 V cv vs outs U uc us w) (hb:Below w.heap.size w w'):mo w0 V cv vs outs U uc us w':=
 ⟨h.row.below hb (bN _),h.wK.nP (below_grown hb none) (fun k hk=>by cases hk),h.cur.below hb (bN _),ah h.aU hb,h.uv,h.su,h.sv,fun v hv a ha=>vv (h.lt v hv a ha) hb.size⟩
theorem mo.alloc (h:mo w0 V cv vs outs U uc us w) (o:Obj):mo w0 V cv vs outs U uc us (w.alloc o):=h.step (ak (aT _ _) o)
theorem mo.store {g:Nat} (h:mo w0 V cv vs outs (some ⟨g,0,none⟩) uc us w) {j:Nat} {x:Nd} (hx:us[j]?=some x) (v:Int):
  g<w.heap.size/\w.cell? ⟨g,j*3+2,none⟩=some (.int .i64 x.n)/\w.frozen? ⟨g,j*3+2,none⟩=false/\
   mo w0 V cv vs outs (some ⟨g,0,none⟩) uc (us.set j ⟨x.k,x.s,v⟩) (w.setCell ⟨g,j*3+2,none⟩ (.int .i64 v)):=by
 obtain ⟨g2,e,hbg,hg,hc,hf,hown,hgr⟩:=aA.Fg h.cur hx v;injection e with e
 injection e with e _ _
 subst e
 refine ⟨hg,hc,hf,⟨aA.kept h.row hgr (fun k hk a ha e=>by cases hk;exact h.uv _ a rfl ha e.symm),
  h.wK.nP hgr (fun k hk v hv a ha e=>by cases hk;exact h.su v hv a _ ha rfl e),hown,h.aU.grown hgr h.aU.size (fun k hk=>by cases hk;exact hbg),h.uv,h.su,h.sv,fun v hv a ha=>vv (h.lt v hv a ha) hgr.size⟩⟩
theorem mo.fresh {U2:Option Addr} {uc2:Nat} {pF:List Nd} (h:mo w0 V cv vs outs U uc us w) (hown:fA w' w.heap.size U2 uc2 pF) (hb:Below w.heap.size w w'):mo w0 V cv vs outs U2 uc2 pF w':=by
 have hlo:∀a,U2=some a->w.heap.size<=a.block:=fun a ha=>(aA.lt hown a ha).1;have hs:=h.step hb;have hz:=h.aU.size;refine ⟨hs.row,hs.wK,aA.lower hown hz,hs.aU,fun a b ha hb e=>?_,fun v hv a b ha hb e=>?_,h.sv,hs.lt⟩
 ·have:=hlo a ha;have:=(aA.lt h.row b hb).2;omega
 ·have:=hlo b hb;have:=h.lt v hv a ha;omega
theorem mo.app {V2:Option Addr} {gq:Nat} (h:mo w0 V cv vs outs U uc us w) (hown:vE w' w0.heap.size V2 gq (vs++[(U,us.length,uc)])) (hg:w.grownBy w' ((aO V vs.length cv).ownBlock))
  (hA:(aO V2 (vs.length+1) gq).ownBlock=(aO V vs.length cv).ownBlock\/(aO V2 (vs.length+1) gq).ownBlock=some w.heap.size):mo w0 V2 gq (vs++[(U,us.length,uc)]) (outs++[us]) none 0 [] w':=by
 have hV:∀a,V2=some a->(∃b,V=some b/\a.block=b.block)\/a.block=w.heap.size:=fun a ha=>by
  subst ha;rcases hA with hA|hA
  ·obtain ⟨b,hb,hbe⟩:=bA (hA.symm.trans (show (aO (some a) (vs.length+1) gq).ownBlock=some a.block from rfl))
   exact .inl ⟨b,hb,hbe.symm⟩
  ·exact .inr (by simpa [Value.ownBlock] using hA)
 have hlow:∀k,(aO V vs.length cv).ownBlock=some k->∃a,V=some a/\a.block=k:=fun k hk=>bA hk;have hU:∀a,U=some a->a.block<w.heap.size:=fun a ha=>(aA.lt h.cur a ha).2;refine ⟨hown,?_,aA.nil,h.aU.grown hg h.aU.size (fun k hk=>(aA.block h.row k hk).1),(fun a b ha=>by cases ha),(fun v hv a b _ hb=>by cases hb),fun v hv a b ha hb e=>?_,fun v hv a ha=>?_⟩
 ·have hs:=h.wK.nP hg (fun k hk v hv a ha e=>by
   obtain ⟨b,hb,hbe⟩:=hlow k hk;exact h.sv v hv a b ha hb (by rw [e,hbe]))
  have hc:=(aA.g_ h.cur).nP hg (fun k hk a ha e=>by
   obtain ⟨b,hb,hbe⟩:=hlow k hk;exact h.uv a b ha hb (by rw [e,hbe]))
  refine ⟨by simp [hs.1],fun i v xs hv hx=>?_⟩;by_cases hi:i<vs.length
  ·rw [aaM hi] at hv
   rw [aaM (by rw [<-hs.1];exact hi)] at hx;exact hs.2 i v xs hv hx
  ·have hi2:i=vs.length:=by have:=bf hv;simp at this;omega
   subst hi2;rw [zA (bN _),Vf] at hv;rw [zA (by rw [hs.1];exact bN _),hs.1,Vf] at hx;simp at hv hx;subst hv hx;exact ⟨rfl,hc⟩
 ·rcases hV b hb with ⟨b',hb',hbe⟩|hbe
  ·rcases JQ.1 hv with hv|hv
   ·exact h.sv v hv a b' ha hb' (by rw [e,hbe])
   ·simp at hv
    subst hv;exact h.uv a b' ha hb' (by rw [e,hbe])
  ·rcases JQ.1 hv with hv|hv
   ·have:=h.lt v hv a ha;omega
   ·simp at hv
    subst hv;have:=hU a ha;omega
 ·have:=hg.size
  rcases JQ.1 hv with hv|hv
  ·have:=h.lt v hv a ha;omega
  ·simp at hv
   subst hv;have:=hU a ha;omega
end
theorem mo.start (w:World) (V:Option Addr) (cv:Nat) {w':World} (h:vE w' w.heap.size V cv []) (hb:Below w.heap.size w w'):mo w V cv [] [] none 0 [] w':=
 ⟨h,⟨rfl,fun i v xs hv=>by simp at hv⟩,aA.nil,hb,(fun a b ha=>by cases ha),(fun v hv=>by cases hv),(fun v hv=>by cases hv),(fun v hv=>by cases hv)⟩
def abx (aG:List (List Nd)) (w:World) (e:Ending) (w':World):Prop:=
 ∃(V:Option Addr) (cv:Nat) (vs:List (Option Addr×Nat×Nat)),e= .returned (.slice V vs.length cv)/\vE w' w.heap.size V cv vs/\rE w' w'.heap.size vs aG/\Below w.heap.size w w'
theorem Nj {α:Type} [DecidableEq α] {la lb:List α} {k:Nat} {x y:α} (hx:la[k]?=some x) (hy:lb[k]?=some y):decide (la.drop k=lb.drop k)=(decide (x=y)&&decide (la.drop (k+1)=lb.drop (k+1))):=by
 rw [drop_cons hx,drop_cons hy];by_cases h:x=y<;>simp [h]
theorem rE.drewN {w:World} {B:Nat} {vs:List (Option Addr×Nat×Nat)} {aG:List (List Nd)} (h:rE w B vs aG) (n:Nat):rE (w.drewN n) B vs aG:=⟨h.1,fun i v xs hv hx=>⟨(h.2 i v xs hv hx).1,(h.2 i v xs hv hx).2.below (below_drewN (aT _ _) n)⟩⟩
theorem aX.drewN {α:Type} {size:Nat} {enc:α->List Value} {w:World} {B:Nat} {A:Option Addr} {l:List α} (h:aX size enc w B A l) (n:Nat):aX size enc (w.drewN n) B A l:=h.below (below_drewN (aT _ _) n)
theorem Vz (A B:Option Addr) (c d:Nat) (vs us:List (Option Addr×Nat×Nat)) (ass bss:List (List Nd)) (w:World) (hr:sZ w w.heap.size A vs) (hr2:sZ w w.heap.size B us) (hS:rE w w.heap.size vs ass) (hS2:rE w w.heap.size us bss)
  (hl:vs.length<=1000000) (hok:∀xs∈ass,xs.length<=1000000):
  Calls Try.prog 21 #[.slice A vs.length c,.slice B us.length d] w fun e w'=>e= .returned (.bool (decide (ass=bss)))/\∃n,w'=w.drewN n:=by
 have e1:=hS.1;have e2:=hS2.1;have HA:=aC (Gw hr hS);have HB:=aC (Gw hr2 hS2);have yw:=aC hok;clear hr hr2 hS hS2 hok;by_cases hlen:vs.length=us.length
 ·have E:=aC (Gw e1 (Gw e2 hlen))
  rw [<-hlen];clear e1 e2 hlen;go_enter Try.func21,Try.ntmps21;go_wp2_with fail;go_loopw [5] (fun s5 wr=>∃k:Nat,k<=vs.length/\s5= .int .i64 k/\Hid (∃n,wr=w.drewN n)/\Hid (decide (ass.drop k=bss.drop k)=decide (ass=bss))) (fun s5 _=>vs.length-(intOf s5).toNat)
  case atStart=>exact ⟨0,h_ _,rfl,aC ⟨0,rfl⟩,aC (by simp only [Kk])⟩
  case round=>
   obtain ⟨k,hk,rfl,hW,hgood⟩:=hrel;have hAr:Hid (sZ wr w.heap.size A vs/\rE wr w.heap.size vs ass):=aC (by obtain ⟨n,rfl⟩:=hW.out;exact ⟨HA.out.1.drewN n,HA.out.2.drewN n⟩);have hBr:Hid (sZ wr w.heap.size B us/\rE wr w.heap.size us bss):=aC (by obtain ⟨n,rfl⟩:=hW.out;exact ⟨HB.out.1.drewN n,HB.out.2.drewN n⟩);by_cases hp:k<vs.length
   ·obtain ⟨v,hv⟩:=aD hp
    obtain ⟨u,hu⟩:=aD (show k<us.length by have:=E.out.2.2;omega);obtain ⟨xs,hx⟩:=aD (show k<ass.length by have:=E.out.1;omega);obtain ⟨ys,hy⟩:=aD (show k<bss.length by have:=E.out;omega);have hstep:=aC (Nj hx hy);obtain ⟨b,o,rfl,hb,c0⟩:=aX.slice hAr.out.1 hv;obtain ⟨b2,o2,rfl,hb2,c02⟩:=aX.slice hBr.out.1 hu;obtain ⟨h1,h2⟩:=hAr.out.2.2 k v xs hv hx;obtain ⟨h3,h4⟩:=hBr.out.2.2 k u ys hu hy;have hxl:=yw.out xs (Yt hx);rw [h1] at c0;rw [h3] at c02;have H2:=aC (fun m=>h2.below (below_drewN (aT _ wr) m));have H4:=aC (fun m=>h4.below (below_drewN (aT _ wr) m));clear hv hu hx hy h1 h2 h3 h4
    cases hd:decide (xs=ys)
    all_goals
     have Hd:=aC hd;have Hq:Hid (∀m,Calls Try.prog 30 #[.slice v.1 xs.length v.2.2,.slice u.1 ys.length u.2.2] (wr.drewN m) fun e w'=>e= .returned (.bool (decide (xs=ys)))/\∃z,w'=(wr.drewN m).drewN z):=aC fun m=>aa9 v.1 u.1 v.2.2 u.2.2 _ _ xs ys _ (H2.out m) (H4.out m) (by omega);rw [hd] at Hq;clear hd;go_wp2_with fail;go_quiet ((go_at_call 30;exact Calls.quiet_of (Hq.out _)));go_wp2_with fail
    ·go_ret
     obtain ⟨n,rfl⟩:=hW.out;exact ⟨aN (by rw [<-hgood.out,hstep.out,Hd.out];rfl),_,World.drewN_drewN _ _ _⟩
    ·go_roundw
     case rel=>exact ⟨k+1,hp,by go_num,aC (by obtain ⟨n,rfl⟩:=hW.out;exact ⟨_,World.drewN_drewN _ _ _⟩),aC (by rw [<-hgood.out,hstep.out,Hd.out];rfl)⟩
     case measure=>simp [intOf];omega
   ·have hz:Hid (decide (ass=bss)=true):=aC (by
     rw [<-hgood.out,aau (by have:=E.out;omega),aau (by have:=E.out;omega)];simp)
    go_wp2_with fail;go_ret;exact ⟨aN (by rw [hz.out]),hW.out⟩
 ·have hne:((vs.length:Int) !=(us.length:Int))=true:=by simpa using fun e=>hlen (by omega)
  have hz:Hid (decide (ass=bss)=false):=aC (by
   rw [decide_eq_false];rintro rfl;omega)
  clear e1 e2 hlen;go_enter Try.func21,Try.ntmps21;go_wp2_with fail;go_ret;exact ⟨aN (by rw [hz.out]),0,rfl⟩
open Go.RowKit Go.Sort
def GI (xs:List Nd):List Int:=(xs.filter fun x=>bZ x.k).map (·.n)
def dG (xs:List Nd):List Int:=aaf ((GI xs).mergeSort fun x y=>decide (x<=y))
theorem P8 {zs:List Int} {x:Int}:x∈aaf zs↔x∈zs:=by
 constructor
 ·intro h
  unfold aaf aai at h;obtain ⟨i,hi,rfl⟩:=aaN.1 h;have hi':i<zs.length:=List.mem_range.1 (aaO.1 hi).1;simp [getElem!_pos,hi']
 ·intro h
  have key:∀(m:Nat),∀j,j<m->zs.toArray[j]! ∈aai zs.toArray m:=by
   intro m
   induction m with
   |zero=>intro j hj;omega
   |succ m ih=>
    intro j hj;rw [aaP];by_cases hjm:j<m
    ·exact aaR _ (ih j hjm)
    ·have:j=m:=by omega
     subst this;by_cases hk:aak zs.toArray j=true
     ·rw [if_pos hk]
      exact List.mem_append_right _ (by simp)
     ·have hk':¬(j=0\/zs.toArray[j]! ≠zs.toArray[j-1]!):=by simpa [aak] using hk
      have h0:j≠0:=fun e=>hk' (.inl e);have he:zs.toArray[j]! =zs.toArray[j-1]! :=aax fun e=>hk' (.inr e);rw [he];exact aaR _ (ih (j-1) (by omega))
  obtain ⟨i,hi,rfl⟩:=aaS h;have:=key zs.length i hi;have e:zs.toArray[i]! =zs[i]:=by rw [getElem!_pos _ _ (by simpa using hi)];simp
  rw [e] at this;exact this
theorem tJ {xs:List Nd} {n:Int}:n∈dG xs↔∃y∈xs,bZ y.k=true/\y.n=n:=by
 unfold dG;rw [P8,List.mem_mergeSort];unfold GI;simp [aaN,aaO,and_assoc]
theorem Zf (xs:List Nd):(GI xs).length<=xs.length:=by
 unfold GI;rw [aaT];exact aaU _ _
theorem Sq (zs:List Int):(aaf zs).length<=zs.length:=by
 unfold aaf aai;rw [aaT];refine zk (aaU _ _) ?_;simp
theorem Od (xs:List Nd):(dG xs).length<=xs.length:=by
 unfold dG;have h1:=Sq ((GI xs).mergeSort fun x y=>decide (x<=y));have h2:=Zf xs;rw [List.length_mergeSort] at h1;omega
def Zg (L:List Int) (w:World) (e:Ending) (w':World):Prop:=∃A' c',e= .returned (.slice A' L.length c')/\Kr w' w'.heap.size A' L/\Below w.heap.size w w'
theorem Jh {zs:List Int} (hs:zs.Pairwise (· <= ·)):∀m,m<=zs.length->(aai zs.toArray m).Pairwise (· < ·)/\∀x∈aai zs.toArray m,∃j,j<m/\zs.toArray[j]! =x
 |0,_=>by simp [aai]
 |m+1,hm=>by
  obtain ⟨h1,h2⟩:=Jh hs m (by omega);rw [aaP];have hget:∀j (hj:j<zs.length),zs.toArray[j]! =zs[j]:=fun j hj=>by rw [getElem!_pos zs.toArray j (by simpa using hj)];simp
  have hle:∀i j,i<=j->j<zs.length->zs.toArray[i]! <=zs.toArray[j]! :=fun i j hij hj=>by
   rw [hget i (by omega),hget j hj];rcases aaF hij with h|rfl
   ·exact aaV.1 hs i j (by omega) hj h
   ·exact Int.le_refl _
  by_cases hk:aak zs.toArray m=true
  ·rw [if_pos hk]
   have hk':m=0\/zs.toArray[m]! ≠zs.toArray[m-1]! :=by simpa [aak] using hk
   refine ⟨List.pairwise_append.2 ⟨h1,by simp,fun x hx y hy=>?_⟩,fun x hx=>?_⟩
   ·simp only [aaW] at hy
    subst hy;obtain ⟨j,hj,rfl⟩:=h2 x hx;rcases hk' with rfl|hk'
    ·omega
    ·have a1:=hle j (m-1) (by omega) (by omega)
     have a2:=hle (m-1) m (by omega) (by omega);omega
   ·rcases JQ.1 hx with hx|hx
    ·obtain ⟨j,hj,e⟩:=h2 x hx
     exact ⟨j,by omega,e⟩
    ·simp only [aaW] at hx
     exact ⟨m,by omega,hx.symm⟩
  ·rw [if_neg hk,ER]
   exact ⟨h1,fun x hx=>by obtain ⟨j,hj,e⟩:=h2 x hx;exact ⟨j,by omega,e⟩⟩
theorem Nk (xs:List Nd):(dG xs).Pairwise (· < ·):=by
 unfold dG aaf;refine (Jh ?_ _ (bN _)).1;have h:=List.pairwise_mergeSort (le:=fun (x y:Int)=>decide (x<=y)) (fun a b c h1 h2=>by simp only [decide_eq_true_eq] at*;omega) (fun a b=>by simp only [Bool.or_eq_true,decide_eq_true_eq];omega) (GI xs);exact h.imp fun h=>of_decide_eq_true h
def lF (last:Int):List Nd->Int->Int
 |[],b=>b
 |x::xs,b=>lF last xs (if bZ x.k=true/\last<x.n/\(b<0\/x.n<b) then x.n else b)
theorem Ef (last:Int):∀(a r:List Nd) (b:Int),lF last (a++r) b=lF last r (lF last a b)
 |[],_,_=>rfl
 |x::a,r,b=>by simp only [Gx,lF,Ef last a r]
theorem Sr {last:Int} {xs:List Nd} {k:Nat} {x:Nd} {b:Int} (h:xs[k]?=some x):lF last (xs.take (k+1)) b=if bZ x.k=true/\last<x.n/\(lF last (xs.take k) b<0\/x.n<lF last (xs.take k) b) then x.n else lF last (xs.take k) b:=by
 rw [GZ,h,Ef];rfl
theorem BI {last:Int} (hl: -1<=last):∀(xs:List Nd) (b:Int),(b= -1\/last<b)->
  (lF last xs b= -1/\b= -1/\∀x∈xs,bZ x.k=true->x.n<=last)\/
  (last<lF last xs b/\(lF last xs b=b\/∃x∈xs,bZ x.k=true/\x.n=lF last xs b)/\(b≠ -1->lF last xs b<=b)/\∀x∈xs,bZ x.k=true->last<x.n->lF last xs b<=x.n)
 |[],b,h=>by
  rcases h with rfl|h
  ·exact .inl ⟨rfl,rfl,fun x hx=>by simp at hx⟩
  ·exact .inr ⟨h,.inl rfl,fun _=>Int.le_refl _,fun x hx=>by simp at hx⟩
 |x::xs,b,h=>by
  by_cases hc:bZ x.k=true/\last<x.n/\(b<0\/x.n<b)
  ·have ih:=BI hl xs x.n (.inr hc.2.1)
   simp only [lF];rw [if_pos hc];rcases ih with ⟨_,h2,_⟩|⟨h1,h2,h3,h4⟩
   ·omega
   ·have h5:=h3 (by omega)
    refine .inr ⟨h1,?_,fun hb=>?_,fun y hy hv hn=>?_⟩
    ·rcases h2 with h2|⟨y,hy,hv,hn⟩
     ·exact .inr ⟨x,by simp,hc.1,h2.symm⟩
     ·exact .inr ⟨y,by simp [hy],hv,hn⟩
    ·rcases hc.2.2 with h6|h6<;>omega
    ·rcases Gz.1 hy with rfl|hy
     ·exact h5
     ·exact h4 y hy hv hn
  ·have ih:=BI hl xs b h
   simp only [lF];rw [if_neg hc];rcases ih with ⟨h1,h2,h3⟩|⟨h1,h2,h3,h4⟩
   ·refine .inl ⟨h1,h2,fun y hy hv=>?_⟩
    rcases Gz.1 hy with rfl|hy
    ·by_cases hn:last<y.n
     ·exact absurd ⟨hv,hn,.inl (by omega)⟩ hc
     ·omega
    ·exact h3 y hy hv
   ·refine .inr ⟨h1,?_,h3,fun y hy hv hn=>?_⟩
    ·rcases h2 with h2|⟨y,hy,hv,hn⟩
     ·exact .inl h2
     ·exact .inr ⟨y,by simp [hy],hv,hn⟩
    ·rcases Gz.1 hy with rfl|hy
     ·by_cases hb:b<0
      ·exact absurd ⟨hv,hn,.inl hb⟩ hc
      ·have h6:¬y.n<b:=fun h=>hc ⟨hv,hn,.inr h⟩
       have:=h3 (by omega);omega
     ·exact h4 y hy hv hn
def zN (L:List Int) (k:Nat):Int:=if k=0 then-1 else L.getD (k-1) 0
theorem Sv (L:List Int) (k:Nat):zN L (k+1)=L.getD k 0:=by
 unfold zN;rw [if_neg (by omega)];rfl
theorem Sw {xs:List Nd} (h0:∀x∈xs,bZ x.k=true->0<=x.n) {k:Nat} (hk:k<=(dG xs).length):
  lF (zN (dG xs) k) xs (-1)=if k<(dG xs).length then (dG xs).getD k 0 else-1:=by
 have hs:=Nk xs
 have hnn:∀i,i<(dG xs).length->0<=(dG xs).getD i 0:=fun i hi=>by
  have:(dG xs).getD i 0∈dG xs:=by simp only [aac,jr hi,aaj];exact aal hi
  obtain ⟨y,hy,hv,e⟩:=tJ.1 this;rw [<-e];exact h0 y hy hv
 have hlt:∀i j,i<j->j<(dG xs).length->(dG xs).getD i 0<(dG xs).getD j 0:=fun i j hij hj=>by
  simp only [aac,jr hj,jr (Nat.lt_trans hij hj),aaj];exact aaV.1 hs i j _ hj hij
 have hl: -1<=zN (dG xs) k:=by
  unfold zN;split
  ·omega
  ·have:=hnn (k-1) (by omega);omega
 have hall:∀x∈xs,bZ x.k=true->∃i,i<(dG xs).length/\(dG xs).getD i 0=x.n:=fun x hx hv=>by
  have:x.n∈dG xs:=tJ.2 ⟨x,hx,hv,rfl⟩;obtain ⟨i,hi,e⟩:=aaS this;exact ⟨i,hi,by simp only [aac,jr hi,aaj];exact e⟩
 have hlast:∀i,i<(dG xs).length->(zN (dG xs) k<(dG xs).getD i 0↔k<=i):=fun i hi=>by
  unfold zN;split
  ·have:=hnn i hi;omega
  ·constructor
   ·intro h
    apply aax;intro hki;rcases aaF (show i<=k-1 by omega) with h2|h2
    ·have:=hlt i (k-1) h2 (by omega);omega
    ·subst h2;omega
   ·intro h
    exact hlt (k-1) i (by omega) hi
 rcases BI hl xs (-1) (.inl rfl) with ⟨h1,_,h3⟩|⟨h1,h2,_,h4⟩
 ·rw [h1,if_neg]
  intro hlk;have hm:(dG xs).getD k 0∈dG xs:=by simp only [aac,jr hlk,aaj];exact aal hlk
  obtain ⟨y,hy,hv,e⟩:=tJ.1 hm;have:=h3 y hy hv;have h5:=(hlast k hlk).2 (bN _);omega
 ·rcases h2 with h2|⟨x,hx,hv,hn⟩
  ·rw [h2] at h1;omega
  ·obtain ⟨i,hi,e⟩:=hall x hx hv
   have hki:k<=i:=(hlast i hi).1 (by rw [e,hn];exact h1);have hlk:k<(dG xs).length:=by omega
   rw [if_pos hlk];have hm:(dG xs).getD k 0∈dG xs:=by simp only [aac,jr hlk,aaj];exact aal hlk
   obtain ⟨y,hy,hvy,ey⟩:=tJ.1 hm;have h5:=(hlast k hlk).2 (bN _);have h6:=h4 y hy hvy (by omega);rcases aaF hki with h7|rfl
   ·have:=hlt k i h7 hi;omega
   ·omega
theorem Ji (k n:Int) (s:ByteArray) (w:World):
  Calls Try.prog 98 #[.agg #[.int .i64 k,.string s,.int .i64 n]] w fun e w'=>e= .returned (.bool (bZ k))/\Below w.heap.size w w':=by
 unfold bZ
 cases h8:(k==8)<;>cases h9:(k==9)
 all_goals
  go_enter Try.func98,Try.ntmps98;go_wp2_with fail;go_ret;exact ⟨by simp,ak (aT _ _) _⟩
theorem VD (A:Option Addr) (c:Nat) (xs:List Nd) (w:World) (ha:aM w w.heap.size A xs) (hl:xs.length<=1000000) (h0:∀x∈xs,bZ x.k=true->0<=x.n):
  Calls Try.prog 71 #[.slice A xs.length c] w (Zg (dG xs) w):=by
 have Ha:=aC ha;have Hn:=aC (fun k (hk:k<=(dG xs).length)=>Sw (xs:=xs) h0 hk);have HL:=aC (Od xs)
 have ajh:Hid (∀k,k<(dG xs).length->0<=(dG xs).getD k 0):=aC fun k hk=>by
  have:(dG xs).getD k 0∈dG xs:=by simp only [aac,jr hk,aaj];exact aal hk
  obtain ⟨y,hy,hv,e⟩:=tJ.1 this;rw [<-e];exact h0 y hy hv
 clear ha h0;go_enter Try.func71,Try.ntmps71;go_wp2_with fail
 go_loopw [3,4] (fun s3 s4 wr=>∃(k:Nat) (A1:Option Addr) (c1:Nat) (out:List Int),s3= .slice A1 out.length c1/\s4= .int .i64 (zN (dG xs) k)/\Hid (out.length=k)/\
   Hid (k<=(dG xs).length/\out=(dG xs).take k/\sU wr w.heap.size A1 c1 out/\Below w.heap.size w wr)) (fun s3 _ _=>(dG xs).length-lenOf s3)
 case atStart=>exact ⟨0,some ⟨w.heap.size,0,none⟩,0,[],rfl,rfl,aC rfl,aC ⟨h_ _,rfl,dV _ 1 encI w,ak (aT _ _) _⟩⟩
 case round=>
  obtain ⟨k,A1,c1,out,rfl,rfl,hk,M⟩:=hrel;have hnx:=aC (Hn.out k M.out.1);generalize hlv:zN (dG xs) k=lv at*;have Hlv:=aC hlv;clear hlv;go_wp2_with fail;go_loopw [5,6] (fun s5 s6 wi=>∃i:Nat,i<=xs.length/\s5= .int .i64 (lF lv (xs.take i) (-1))/\s6= .int .i64 i/\Hid (sU wi w.heap.size A1 c1 out/\Below w.heap.size w wi)) (fun _ s6 _=>xs.length-(intOf s6).toNat)
  case atStart=>exact ⟨0,h_ _,rfl,rfl,aC M.out.2.2⟩
  case round=>
   obtain ⟨i,hi,rfl,rfl,N⟩:=hrel;by_cases hp:i<xs.length
   ·obtain ⟨x,hx⟩:=aD hp
    obtain ⟨b1,o1,rfl,hb1,c10,c11,c12⟩:=((Ha.out.below N.out.2).more N.out.2.size).at_ hx;have JN:=aC (Sr (last:=lv) (b:= -1) hx);have hT:=aC (fun v (hb:Below w.heap.size w v)=>((Ha.out.below hb).more hb.size).at_ hx);clear hx;generalize hbb:lF lv (xs.take i) (-1)=bb at*;have Hbb:=aC hbb;clear hbb;go_wp2_with fail;refine (Ji _ _ _ _).mono ?_;rintro e w2 ⟨rfl,hb2⟩;replace N:=aC (⟨N.out.1.below hb2 (bN _),ah N.out.2 hb2⟩:sU w2 w.heap.size A1 c1 out/\Below w.heap.size w w2);obtain ⟨b2,o2,hA,_,d10,d11,d12⟩:=hT.out w2 N.out.2;injection hA with hA
    injection hA with e1 e2 _
    subst e1 e2;clear hb2
    cases h8:bZ x.k
    ·have H8:=aC h8
     go_wp2_with fail;go_roundw
     case rel=>exact ⟨i+1,hp,by rw [JN.out,if_neg (by rw [H8.out];simp)],by go_num,N⟩
     case measure=>simp [intOf];omega
    ·have H8:=aC h8
     by_cases hg:lv<x.n
     ·by_cases hb0:bb<0
      ·go_wp2_with fail
       go_roundw
       case rel=>exact ⟨i+1,hp,by rw [JN.out,if_pos ⟨H8.out,hg,.inl hb0⟩],by go_num,N⟩
       case measure=>simp [intOf];omega
      ·by_cases hlb:x.n<bb
       ·go_wp2_with fail
        go_roundw
        case rel=>exact ⟨i+1,hp,by rw [JN.out,if_pos ⟨H8.out,hg,.inr hlb⟩],by go_num,N⟩
        case measure=>simp [intOf];omega
       ·go_wp2_with fail
        go_roundw
        case rel=>exact ⟨i+1,hp,by rw [JN.out,if_neg (by rintro ⟨_,_,h|h⟩<;>omega)],by go_num,N⟩
        case measure=>simp [intOf];omega
     ·go_wp2_with fail
      go_roundw
      case rel=>exact ⟨i+1,hp,by rw [JN.out,if_neg (by rintro ⟨_,h,_⟩;omega)],by go_num,N⟩
      case measure=>simp [intOf];omega
   ·have hix:i=xs.length:=by omega
    have aby:lF lv (xs.take i) (-1)=lF lv xs (-1):=by rw [hix,M9]
    rw [aby];clear aby;rw [hnx.out];by_cases hkl:k<(dG xs).length
    ·rw [if_pos hkl]
     have hge:0<=(dG xs).getD k 0:=ajh.out k hkl;have hlv1:=aC (Sv (dG xs) k);have hget:=aC (show (dG xs).take (k+1)=(dG xs).take k++[(dG xs).getD k 0] by rw [GZ,aac,jr hkl];rfl);generalize (dG xs).getD k 0=z at*;have hnl:¬z<0:=by omega
     have M2:=aC M.out.2.1;have h1m:=HL.out;have hkk:=hk.out;have hol:out.length<=1000000:=by omega
     clear hkk;go_wp2_with (at_builtin;refine vJ rfl (.tmp 49) (.tmp 51) rfl w.heap.size (l:=out) rfl (aA.alloc N.out.1 _) (l2:=[z]) rfl (zI _ z) (by simp;omega) (by have:=N.out.2.size;simp;omega) ?_;intro A2 c2 w3 hown3 hg3 _);go_roundw
     case rel=>exact ⟨k+1,A2,c2,out++[z],by simp,by rw [hlv1.out],aC (by simp [hk.out]),aC ⟨hkl,by rw [hget.out,M2.out],hown3,eG (ak N.out.2 _) hg3 (fun q hq=>(aA.block N.out.1 q hq).1)⟩⟩
     case measure=>have:=hk.out;simp [lenOf];omega
    ·rw [if_neg hkl]
     go_wp2_with fail;go_ret;have hlen:(dG xs).take k=dG xs:=List.take_of_length_le (by omega);have ho:=M.out.2.1;rw [hlen] at ho;subst ho;exact ⟨A1,c1,rfl,aA.read mH N.out.1,N.out.2⟩
section
variable {w0 w w':World} {V:Option Addr} {cv:Nat} {vs:List (Option Addr×Nat×Nat)} {outs:List (List Nd)} {U:Option Addr} {uc:Nat} {us:List Nd}
theorem mo.abz {H:Option Addr} {m c:Nat} (h:mo w0 V cv vs outs U uc us w) (hg:w.grownBy w' ((aO H m c).ownBlock)) (hlo:∀a,H=some a->w0.heap.size<=a.block) (hv:Off H V) (hu:Off H U) (hs:∀v∈vs,Off v.1 H):mo w0 V cv vs outs U uc us w':=by
 have hk:∀k,(aO H m c).ownBlock=some k->∃a,H=some a/\a.block=k:=fun k hk=>bA hk;refine ⟨GD h.row hg hv,h.wK.nP hg (fun k hk2 v hv2 a ha e=>?_),GD h.cur hg hu,h.aU.grown hg h.aU.size (fun k hk2=>?_),h.uv,h.su,h.sv,fun v hv2 a ha=>vv (h.lt v hv2 a ha) hg.size⟩
 ·obtain ⟨b,hb,hbe⟩:=hk k hk2
  exact hs v hv2 a b ha hb (by rw [e,hbe])
 ·obtain ⟨b,hb,hbe⟩:=hk k hk2
  rw [<-hbe];exact hlo b hb
end
structure kQ (w0:World) (H:Option Addr) (ch:Nat) (had:List Int) (V:Option Addr) (cv:Nat) (vs:List (Option Addr×Nat×Nat)) (outs:List (List Nd)) (U:Option Addr) (uc:Nat) (us:List Nd) (w:World):Prop where
 m:mo w0 V cv vs outs U uc us w
 had:sU w w0.heap.size H ch had
 hv:Off H V
 hu:Off H U
 hs:∀v∈vs,Off v.1 H
section
variable {w0 w w':World} {H:Option Addr} {ch:Nat} {had:List Int} {V:Option Addr} {cv:Nat} {vs:List (Option Addr×Nat×Nat)} {outs:List (List Nd)} {U:Option Addr} {uc:Nat} {us:List Nd}
theorem kQ.step (h:kQ w0 H ch had V cv vs outs U uc us w) (hb:Below w.heap.size w w'):kQ w0 H ch had V cv vs outs U uc us w':=
 ⟨h.m.step hb,h.had.below hb (bN _),h.hv,h.hu,h.hs⟩
theorem kQ.alloc (h:kQ w0 H ch had V cv vs outs U uc us w) (o:Obj):kQ w0 H ch had V cv vs outs U uc us (w.alloc o):=h.step (ak (aT _ _) o)
theorem kQ.drewN (h:kQ w0 H ch had V cv vs outs U uc us w) (n:Nat):kQ w0 H ch had V cv vs outs U uc us (w.drewN n):=h.step (dJ (aT _ _) n)
theorem kQ.store {g:Nat} (h:kQ w0 H ch had V cv vs outs (some ⟨g,0,none⟩) uc us w) {j:Nat} {x:Nd} (hx:us[j]?=some x) (v:Int):
  g<w.heap.size/\w.cell? ⟨g,j*3+2,none⟩=some (.int .i64 x.n)/\w.frozen? ⟨g,j*3+2,none⟩=false/\
   kQ w0 H ch had V cv vs outs (some ⟨g,0,none⟩) uc (us.set j ⟨x.k,x.s,v⟩) (w.setCell ⟨g,j*3+2,none⟩ (.int .i64 v)):=by
 obtain ⟨h1,h2,h3,h4⟩:=h.m.store hx v;obtain ⟨g2,e,_,_,_,_,_,hgr⟩:=aA.Fg h.m.cur hx v;injection e with e
 injection e with e _ _
 subst e;exact ⟨h1,h2,h3,h4,aA.kept h.had hgr (fun k hk a ha e=>by cases hk;exact h.hu a _ ha rfl e),h.hv,h.hu,h.hs⟩
theorem kQ.fresh {U2:Option Addr} {uc2:Nat} {pF:List Nd} (h:kQ w0 H ch had V cv vs outs U uc us w) (hown:fA w' w.heap.size U2 uc2 pF) (hb:Below w.heap.size w w'):kQ w0 H ch had V cv vs outs U2 uc2 pF w':=
 ⟨h.m.fresh hown hb,h.had.below hb (bN _),h.hv,fun a b ha hb2 e=>by have:=(aA.lt h.had a ha).2;have:=(aA.lt hown b hb2).1;omega,h.hs⟩
theorem kQ.app {V2:Option Addr} {gq:Nat} (h:kQ w0 H ch had V cv vs outs U uc us w) (hown:vE w' w0.heap.size V2 gq (vs++[(U,us.length,uc)])) (hg:w.grownBy w' ((aO V vs.length cv).ownBlock))
  (hA:(aO V2 (vs.length+1) gq).ownBlock=(aO V vs.length cv).ownBlock\/(aO V2 (vs.length+1) gq).ownBlock=some w.heap.size):kQ w0 H ch had V2 gq (vs++[(U,us.length,uc)]) (outs++[us]) none 0 [] w':=by
 refine ⟨h.m.app hown hg hA,GD h.had hg h.hv.symm,(h.hv.symm.app hA (fun x hx=>(aA.lt h.had x hx).2)).symm,(fun a b _ hb=>by cases hb),fun v hv=>?_⟩;rcases JQ.1 hv with hv|hv
 ·exact h.hs v hv
 ·simp at hv
  subst hv;exact h.hu.symm
theorem kQ.see {H2:Option Addr} {VE:Nat} {afM:List Int} {m m2:Nat} (h:kQ w0 H ch had V cv vs outs U uc us w) (hown:sU w' w0.heap.size H2 VE afM) (hg:w.grownBy w' ((aO H m ch).ownBlock))
  (hA:(aO H2 m2 VE).ownBlock=(aO H m ch).ownBlock\/(aO H2 m2 VE).ownBlock=some w.heap.size):kQ w0 H2 VE afM V cv vs outs U uc us w':=by
 refine ⟨h.m.abz hg (fun a ha=>(aA.lt h.had a ha).1) h.hv h.hu h.hs,hown,h.hv.app hA (fun x hx=>(aA.lt h.m.row x hx).2),h.hu.app hA (fun x hx=>(aA.lt h.m.cur x hx).2),fun v hv=>((h.hs v hv).symm.app hA (fun x hx=>h.m.lt v hv x hx)).symm⟩
end
theorem KL {n:Int}:∀{l:List Int} {j:Nat} {m:Int},j<pU n l->l[j]?=some m->m≠n
 |[],j,m,h,_=>by simp [pU] at h
 |y::l,j,m,h,hm=>by
  unfold pU at h;split at h
  ·omega
  ·next hne=>
   cases j with
   |zero=>simp at hm;subst hm;exact hne
   |succ j=>
    rw [List.getElem?_cons_succ] at hm;exact KL (by omega) hm
theorem mem_seen {had:List Int} {x:Nd} (h:bZ x.k=true):x.n∈seen had x:=by
 unfold seen;by_cases hm:x.n∈had
 ·rw [if_neg (by simp [hm])];exact hm
 ·rw [if_pos ⟨h,hm⟩];simp
theorem Jj (V0:Option Addr) (c0:Nat) (Sy:List (Option Addr×Nat×Nat)) (xss:List (List Nd)) (w:World) (hr:sZ w w.heap.size V0 Sy) (hS:rE w w.heap.size Sy xss) (hne:∀xs∈xss,xs≠[])
  (hl:Sy.length<=100) (h6:∀xs∈xss,xs.length<=50000):
  Calls Try.prog 55 #[.slice V0 Sy.length c0] w (abx (lq [] xss) w):=by
 have Hr:=aC hr;have HS:=aC hS;have Hne:=aC hne;have H6:=aC h6;clear hr hS hne h6;go_enter Try.func55,Try.ntmps55;go_wp2_with fail
 go_loopw [3,4,5] (fun s3 s4 s5 wr=>∃(k:Nat) (H:Option Addr) (ch:Nat) (had:List Int) (V:Option Addr) (cv:Nat) (vs:List (Option Addr×Nat×Nat)),s3= .slice H had.length ch/\s4= .slice V vs.length cv/\s5= .int .i64 k/\k<=Sy.length/\Hid (vs.length=k)/\
   Hid (had=rG [] (xss.take k)/\kQ w H ch had V cv vs (lq [] (xss.take k)) none 0 [] wr)) (fun _ _ s5 _=>Sy.length-(intOf s5).toNat)
 case atStart=>exact ⟨0,some ⟨w.heap.size,0,none⟩,0,[],some ⟨w.heap.size+1,0,none⟩,0,[],rfl,rfl,rfl,h_ _,aC rfl,aC ⟨rfl,mo.start w _ 0 (by
   have h:=dV 34 1 encS (w.alloc (.cells #[] 3));rw [World.size_alloc] at h;exact aA.lower h (by omega)) (ak (ak (aT _ _) _) _),aA.alloc (dV 3 1 encI w) _,fun a b ha hb e=>(by cases ha;cases hb;simp at e),(fun a b _ hb=>by cases hb),(fun v hv=>by cases hv)⟩⟩
 case round=>
  obtain ⟨k,H,ch,had,V,cv,vs,rfl,rfl,rfl,hk,hvk,M⟩:=hrel;by_cases hp:k<Sy.length
  ·obtain ⟨v,hv⟩:=aD hp
   obtain ⟨xs,hxs⟩:=aD (show k<xss.length by rw [<-HS.out.1];exact hp);have hmem:=Yt hxs;obtain ⟨b,o,rfl,hb,hc⟩:=aX.slice (aX.more (aX.below Hr.out M.out.2.m.aU) M.out.2.m.aU.size) hv;obtain ⟨hvl,hT⟩:=HS.out.2 k v xs hv hxs;rw [hvl] at hc;have hxl:=H6.out xs hmem;have JN:=aC (Sl hxs);obtain ⟨x0,hx0⟩:=aD (show 0<xs.length by have:=Hne.out xs hmem;cases xs with|nil=>exact absurd rfl this|cons=>simp)
   have hh5:had.length<=5000000:=by
    have:=Oc (m:=50000) [] (xss.take k) fun ys hy=>H6.out ys (List.mem_of_mem_take hy);rw [zH] at this;rw [M.out.1];simp at this;omega
   have Hh5:=aC hh5;have Hx0:=aC hx0;have HT:=aC (hT.below M.out.2.m.aU);have hown0:=aC (dV 48 3 iQ wr);have hb0:=aC (ak (aT wr.heap.size wr) (.cells #[] 48));have hWl:=M.out.2.m.aU.size;clear hv hxs hmem hT hvl hx0 hh5;go_wp2_with (at_builtin;refine eH rfl (.tmp 17) (.tmp 21) rfl wr.heap.size (l:=[]) rfl hown0.out (l2:=xs) rfl (HT.out.below (hb0.out.mono hWl)) (by simp;omega) (by simp) ?_;intro A2 cap2 w3 hown3 hg3 _);rw [RU] at hown3;have hb3:=eG hb0.out hg3 (fun q hq=>(aA.block hown0.out q hq).1);obtain ⟨g,rfl,_,_,_,_,_,_⟩:=aA.Fg hown3 Hx0.out 0;have M1:=aC (M.out.2.fresh hown3 hb3);have afN:=aC M.out.1;clear hown3 hg3 hb3 hown0 hb0 M hb hc
   go_loopw [3,7] (fun s3 s7 wi=>∃(j:Nat) (H:Option Addr) (ch:Nat) (ha:List Int),s3= .slice H ha.length ch/\s7= .int .i64 j/\j<=xs.length/\ha.length<=5000000+j/\Hid (ha=iX had (xs.take j)/\kQ w H ch ha V cv vs (lq [] (xss.take k)) (some ⟨g,0,none⟩) cap2 (pE had xs j) wi))
    (fun _ s7 _=>xs.length-(intOf s7).toNat)
   case atStart=>exact ⟨0,H,ch,had,rfl,rfl,h_ _,Hh5.out,aC ⟨rfl,by rw [Sn];exact M1.out⟩⟩
   case round=>
    clear M1;obtain ⟨j,H,ch,ha,rfl,rfl,hj,hhj,M⟩:=hrel;by_cases GA:j<xs.length
    ·obtain ⟨x,hx⟩:=aD GA
     have hxj:=Ze (had:=had) hx;have Hx:=aC hx;have Hxj:=aC hxj;have HC:=aC (fun v (h:kQ w H ch ha V cv vs (lq [] (xss.take k)) (some ⟨g,0,none⟩) cap2 (pE had xs j) v)=>(aA.g_ h.m.cur).at_ hxj);obtain ⟨b1,o1,hA,hb1,c10,c11,c12⟩:=HC.out _ M.out.2;injection hA with hA
     injection hA with e1 e2 _
     subst e1 e2;rw [iE] at c10 c11 c12;have hcl:=aC (Vy had xs j);clear hx hxj;go_wp2_with fail;refine (Ji _ _ _ _).mono ?_;rintro e w2 ⟨rfl,hb2⟩;replace M:=aC (⟨M.out.1,M.out.2.step hb2⟩:ha=iX had (xs.take j)/\kQ w H ch ha V cv vs (lq [] (xss.take k)) (some ⟨g,0,none⟩) cap2 (pE had xs j) w2);obtain ⟨b1,o1,hA,hb1,d10,d11,d12⟩:=HC.out _ M.out.2;injection hA with hA
     injection hA with e1 e2 _
     subst e1 e2;rw [iE] at d10 d11 d12;clear hb2
     cases h8:bZ x.k
     ·have H8:=aC h8
      go_wp2_with fail;go_roundw
      case rel=>exact ⟨j+1,H,ch,ha,rfl,by go_num,GA,by omega,aC ⟨by rw [BG Hx.out,(XW H8.out).2];exact M.out.1,by rw [BH Hx.out,(XW H8.out).1,set_self Hxj.out];exact M.out.2⟩⟩
      case measure=>simp [intOf];omega
     ·have H8:=aC h8
      have hIn:=aC (XU H ch w2.heap.size ha x.n w2 (aA.read mH M.out.2.had) (by omega));have abB:=aC M.out.1;clear h8;go_wp2_with fail;refine hIn.out.mono ?_;rintro e w3 ⟨rfl,rfl⟩;clear hIn
      cases hm:decide (x.n∈ha)
      ·have Hm:=aC (of_decide_eq_false hm)
       clear hm;go_wp2_with (at_builtin;refine vJ rfl (.tmp 43) (.tmp 49) rfl w.heap.size (l:=ha) rfl (aA.alloc M.out.2.had _) (l2:=[x.n]) rfl (zI _ x.n) (by simp;omega) (by have:=M.out.2.m.aU.size;simp;omega) ?_;intro H2 VE w4 qm hg4 hA4;have M4:=aC ((M.out.2.alloc _).see qm hg4 hA4);clear qm hg4 hA4);have hse:Hid (seen (iX had (xs.take j)) x=(ha++[x.n])):=aC (by rw [<-abB.out];unfold seen;rw [if_pos ⟨H8.out,Hm.out⟩]);have hmn:Hid (x.n∈(ha++[x.n])):=aC (by rw [<-hse.out];exact mem_seen H8.out);have hpl:pU x.n (ha++[x.n])<ha.length+1:=by have:=KH hmn.out;simpa using this
       have hpg:=aC (GH hmn.out);have hpn:=aC (fun (i:Nat) (m:Int) (h:i<pU x.n (ha++[x.n])) (hm:((ha++[x.n]))[i]?=some m)=>KL h hm);have hnd:Hid (uY (iX had (xs.take j)) x=⟨x.k,x.s,((pU x.n (ha++[x.n]):Nat):Int)+1⟩):=aC (by rw [KJ H8.out,hse.out];rfl);generalize hpp:pU x.n (ha++[x.n])=p at*;clear hpp;go_wp2_with fail;go_loopw [8] (fun s8 wz=>∃i:Nat,s8= .int .i64 i/\i<=p/\Hid (kQ w H2 VE (ha++[x.n]) V cv vs (lq [] (xss.take k)) (some ⟨g,0,none⟩) cap2 (pE had xs j) wz)) (fun s8 _=>p-(intOf s8).toNat)
       case atStart=>exact ⟨0,rfl,h_ _,M4⟩
       case round=>
        clear M4;obtain ⟨i,rfl,Vs,M5⟩:=hrel;obtain ⟨m,hm⟩:=aD (show i<((ha++[x.n])).length by first|omega|(simp;omega));obtain ⟨b2,o2,hA,hb2,hcm⟩:=aX.int (aA.read mH M5.out.had) hm;subst hA;obtain ⟨s1,s2,s3,_⟩:=M5.out.store Hxj.out ((p:Int)+1);have Hm:=aC hm;have hi1:i<ha.length+1:=by omega
        clear hm;by_cases Sz:i=p
        ·have hmx:m=x.n:=by
          have h1:=hpg.out;rw [<-Sz,Hm.out] at h1;injection h1
         subst hmx Sz;go_wp2_with fail;go_quiet (fail);go_wp2_with fail;go_roundw
         case rel=>exact ⟨j+1,some ⟨b2,o2,none⟩,VE,(ha++[x.n]),by simp,by go_num,GA,by first|omega|(simp;omega),aC ⟨by rw [BG Hx.out,hse.out],by rw [BH Hx.out,hnd.out];exact ((M5.out.drewN _).store Hxj.out _).2.2.2⟩⟩
         case measure=>simp [intOf];omega
        ·have hne:(m==x.n)=false:=by
          have:=hpn.out i m (by omega) Hm.out;simpa using this
         go_wp2_with fail;go_quiet (fail);go_wp2_with fail;go_roundw
         case rel=>exact ⟨i+1,by go_num,by omega,aC (M5.out.drewN _)⟩
         case measure=>simp [intOf];omega
      ·have Hm:=aC (of_decide_eq_true hm)
       have M4:=aC M.out.2;clear hm;have hse:Hid (seen (iX had (xs.take j)) x=ha):=aC (by rw [<-abB.out];unfold seen;rw [if_neg (by simp [Hm.out])]);have hmn:Hid (x.n∈ha):=aC (by rw [<-hse.out];exact mem_seen H8.out);have hpl:pU x.n ha<ha.length:=by have:=KH hmn.out;simpa using this
       have hpg:=aC (GH hmn.out);have hpn:=aC (fun (i:Nat) (m:Int) (h:i<pU x.n ha) (hm:(ha)[i]?=some m)=>KL h hm);have hnd:Hid (uY (iX had (xs.take j)) x=⟨x.k,x.s,((pU x.n ha:Nat):Int)+1⟩):=aC (by rw [KJ H8.out,hse.out];rfl);generalize hpp:pU x.n ha=p at*;clear hpp;go_wp2_with fail;go_loopw [8] (fun s8 wz=>∃i:Nat,s8= .int .i64 i/\i<=p/\Hid (kQ w H ch ha V cv vs (lq [] (xss.take k)) (some ⟨g,0,none⟩) cap2 (pE had xs j) wz)) (fun s8 _=>p-(intOf s8).toNat)
       case atStart=>exact ⟨0,rfl,h_ _,M4⟩
       case round=>
        clear M4;obtain ⟨i,rfl,Vs,M5⟩:=hrel;obtain ⟨m,hm⟩:=aD (show i<(ha).length by first|omega|(simp;omega));obtain ⟨b2,o2,hA,hb2,hcm⟩:=aX.int (aA.read mH M5.out.had) hm;subst hA;obtain ⟨s1,s2,s3,_⟩:=M5.out.store Hxj.out ((p:Int)+1);have Hm:=aC hm;have hi1:i<ha.length:=by omega
        clear hm;by_cases Sz:i=p
        ·have hmx:m=x.n:=by
          have h1:=hpg.out;rw [<-Sz,Hm.out] at h1;injection h1
         subst hmx Sz;go_wp2_with fail;go_quiet (fail);go_wp2_with fail;go_roundw
         case rel=>exact ⟨j+1,some ⟨b2,o2,none⟩,ch,ha,by rfl,by go_num,GA,by first|omega|(simp;omega),aC ⟨by rw [BG Hx.out,hse.out],by rw [BH Hx.out,hnd.out];exact ((M5.out.drewN _).store Hxj.out _).2.2.2⟩⟩
         case measure=>simp [intOf];omega
        ·have hne:(m==x.n)=false:=by
          have:=hpn.out i m (by omega) Hm.out;simpa using this
         go_wp2_with fail;go_quiet (fail);go_wp2_with fail;go_roundw
         case rel=>exact ⟨i+1,by go_num,by omega,aC (M5.out.drewN _)⟩
         case measure=>simp [intOf];omega
    ·have hjj:j=xs.length:=by omega
     have hend:=Vx had xs;have e1:xs.take j=xs:=by rw [hjj,M9]
     rw [e1,hjj,hend] at M;have M2:=aC M.out.2;have Hh:=aC M.out.1;have XY:=aC (tH had xs);have ajm:=hvk.out;have hvl:vs.length<=100:=by omega
     clear M e1 hend hjj ajm;go_wp2_with (at_builtin;refine mV rfl (.tmp 73) (.tmp 75) rfl w.heap.size (l:=vs) rfl (aA.alloc M2.out.m.row _) (l2:=[(some ⟨g,0,none⟩,xs.length,cap2)]) rfl (tu _ (some ⟨g,0,none⟩,xs.length,cap2)) (by simp;omega) (by have:=M2.out.m.aU.size;simp;omega) ?_;intro V2 gq w8 mK oO qp;have M3:=aC ((M2.out.alloc _).app (by rw [XY.out];exact mK) oO qp);clear mK oO qp);go_roundw
     case rel=>exact ⟨k+1,H,ch,ha,V2,gq,vs++[(some ⟨g,0,none⟩,xs.length,cap2)],rfl,by simp,by go_num,hp,aC (by simp [hvk.out]),aC ⟨by rw [JN.out.1,Hh.out,<-afN.out],by rw [JN.out.2,<-afN.out];have h:=M3.out;rw [XY.out] at h;exact h⟩⟩
     case measure=>simp [intOf];omega
  ·have hkk:k=Sy.length:=by omega
   have e1:xss.take k=xss:=by rw [hkk,HS.out.1,M9]
   rw [e1] at M;have M':=aC M.out.2;clear M e1;go_wp2_with fail;go_ret;exact ⟨V,cv,vs,rfl,M'.out.m.row,M'.out.m.wK,M'.out.m.aU⟩
attribute [local go_sem ↓] Go.wp_at_zero Go.wp_at_succ
theorem wL {w:World} {ops:Array Oper} {o:Oper} {a:Act} {K:Act->World->Prop} {Q:Exit->Act->World->Prop} {E:Prop} (hgd:o.guard=none) (s x:Operand)
  (ho:o.op= .call {callee:=.builtin .append,args:=#[s,x],argTypes:=#[34,34]})
  (base:Nat) {A:Option Addr} {cap:Nat} {l:List Nd} (hs:a.eval s= .slice A l.length cap) (hown:fA w base A cap l) {B:Nat} {A2:Option Addr} {c:Nat} {l2:List Nd} (hx:a.eval x= .slice A2 l2.length c) (hr:aM w B A2 l2)
  (hlen:l.length+l2.length<=1000000000000) (hbase:base<=w.heap.size)
  (h:∀A' cap' w',fA w' base A' cap' (l++l2)->w.grownBy w' ((aO A l.length cap).ownBlock)->
   ((aO A' (l.length+l2.length) cap').ownBlock=(aO A l.length cap).ownBlock\/(aO A' (l.length+l2.length) cap').ownBlock=some w.heap.size)->K (a.put o.dst (.slice A' (l.length+l2.length) cap')) w'):if aaH o (yielded ops a.tmps)=true then Oper.wp Try.prog o a w K Q else E:=by
 obtain ⟨i0,hi,hz0,hz1,hz2⟩:=info_parts Vk;have hw:aaH o (yielded ops a.tmps)=true:=by simp [aaH,hgd]
 rw [if_pos hw];exact E5 w lJ NZ s x 34 ho base 48 i0 _ 32 Try.underlying34 hi hz0 hz1 hz2 rfl (by decide) hs hown hx hr.PK (by unfold maxLen;omega) (by omega) hbase h
theorem KM {aG:List (List Nd)} {k:Nat} {ts:List Nd} (h:aG[k]?=some ts) (h9:∀t∈bI aG,(bB t).k≠9) (hk:(bB ts).k=9):bI aG=aG.take k/\jA aG=[ts]:=by
 have hi:=bf h
 cases ht:gN aG
 ·have e:bI aG=aG:=by unfold bI;rw [ht];rfl
  exact absurd hk (h9 ts (by rw [e];exact Yt h))
 ·have e:bI aG=aG.take (aG.length-1):=by unfold bI;rw [if_pos ht]
  have e2:jA aG=aG.drop (aG.length-1):=by unfold jA;rw [if_pos ht]
  have hkl:k=aG.length-1:=by
   apply aax;intro hne;refine h9 ts ?_ hk;rw [e];exact Yt (i:=k) (by rw [List.getElem?_take_of_lt (by omega)];exact h)
  subst hkl;exact ⟨e,by rw [e2,drop_cons h,aau (by omega)]⟩
theorem KN {aG:List (List Nd)} (h:∀t∈aG,(bB t).k≠9):bI aG=aG/\jA aG=[]:=by
 have ht:gN aG=false:=by
  unfold gN
  cases hl:aG.getLast? with
  |none=>rfl
  |some t=>simpa using h t (List.mem_of_getLast? hl)
 unfold bI jA;rw [ht];exact ⟨rfl,rfl⟩
theorem zO {T:List Nd}:∀(d:Nat) (at_:Nat) (zs:List (List Nd)),zs.length=d->T.drop at_=zs.flatten->(∀z∈zs,Fo 1 z/\dF z)->(bE T d at_).length=d
 |0,_,_,_,_,_=>rfl
 |d+1,at_,[],h,_,_=>by simp at h
 |d+1,at_,z::zs,hz,hd,h1=>by
  rw [Ry] at hd;obtain ⟨hz1,hz2⟩:=h1 z (by simp);rw [iH (nA hd hz1.pos),Bl,jI hd hz2 hz1,zO d _ zs (by simpa using hz) (kP hd) fun y hy=>h1 y (by simp [hy])]
def Zh (aG:List (List Nd)) (w:World) (e:Ending) (w':World):Prop:=
 ∃(V:Option Addr) (cv:Nat) (vs:List (Option Addr×Nat×Nat)) (A3:Option Addr) (c3:Nat),e= .returned (.tuple #[.slice V vs.length cv,.slice A3 (jA aG).flatten.length c3])/\vE w' w.heap.size V cv vs/\rE w' w'.heap.size vs (bI aG)/\
  aM w' w'.heap.size A3 (jA aG).flatten/\(∀q∈vs,q.2.1<=q.2.2)/\Below w.heap.size w w'
theorem P9 (A:Option Addr) (c:Nat) (T ks:List Nd) (x:Nd) (aG:List (List Nd)) (w:World) (ha:aM w w.heap.size A T) (hl:T.length<=100000000000) (hc:T.length<=c) (hT:T=x::ks) (hxo:bX x.k x.n=true) (hok:dF ks) (ht:Trees (manyN x) ks aG) (h9:∀t∈bI aG,(bB t).k≠9):
  Calls Try.prog 110 #[.slice A T.length c,.int .i64 0] w (Zh aG w):=by
 have hx:T[0]?=some x:=by rw [hT];rfl
 have XP:manyN x<=50:=vV hxo
 have Fp:dF T:=fun y hy=>by
  rw [hT] at hy;rcases Gz.1 hy with rfl|hy
  ·exact hxo
  ·exact hok y hy
 obtain ⟨M,hM,Kt,_⟩:=vU hxo;have hMm:M=manyN x:=by unfold manyN;rw [hM];simp
 subst hMm
 have hkr:iq T 0=bE T (manyN x) 1:=by
  unfold iq;rw [if_neg (by omega)];simp only [Int.toNat_zero,hx,hM];simp
 have hown0:=dV 34 1 encS w;have hb0:=ak (aT w.heap.size w) (.cells #[] 34);have hkc:=aC (Bu A c T 0 (w.alloc (.cells #[] 34)) ((ha.below hb0).more hb0.size) hl Fp);have Ht:=aC ht;have ajn:=aC Fp;have H9:=aC h9;have hT1:T.drop 1=(aG.drop 0).flatten:=by rw [hT,Kk,ht.flat];rfl
 have htl:=ht.len;have P_:(bE T (manyN x) 1).length=manyN x:=zO _ _ aG htl (by rw [hT1,Kk]) fun z hz=>⟨ht.one z hz,fun y hy=>hok y (by rw [<-ht.flat];exact aam.2 ⟨z,hz,hy⟩)⟩;have SA:∀z∈aG,dF z:=fun z hz y hy=>hok y (by rw [<-ht.flat];exact aam.2 ⟨z,hz,hy⟩);have abC:=aC SA;have Ha:=aC ha;have hown0:=aC hown0;have Hb0:=aC hb0;obtain ⟨bT,oT,rfl,hbT,_,_,_⟩:=ha.at_ hx
 have abD:Hid (∀(at_:Nat) (ts rest:List Nd) (v:World),aM v v.heap.size (some ⟨bT,oT,none⟩) T->T.drop at_=ts++rest->dF ts->Fo 1 ts->Calls Try.prog 62 #[.slice (some ⟨bT,oT,none⟩) T.length c,.int .i64 (at_:Int)] v fun e w'=>e= .returned (.int .i64 ((at_:Int)+(ts.length:Int)))/\Below v.heap.size v w'):=aC fun at_ ts rest v hv hd ho hf=>by
  have h:=zJ (some ⟨bT,oT,none⟩) c T (at_:Int) v hv hl Fp;rw [yJ (nA hd hf.pos),jI hd ho hf] at h;simpa using h
 rw [hkr] at hkc;generalize hm:manyN x=m at*;generalize hG:bE T m 1=G at*;have HG:Hid (G=[]++bE T (m-0) 1/\([]:List Nat).length=0):=aC ⟨by rw [<-hG];rfl,rfl⟩;have HT1:=aC hT1;have Htl:=aC htl;have HGl:=aC P_;clear hx hT hxo hok ht h9 hkr hb0 hM Fp hT1 hm htl ha Kt hG P_ SA;go_enter Try.func110,Try.ntmps110;go_wp2_with fail;refine hkc.out.mono ?_;rintro e w1 ⟨K,ck,rfl,hown,hb⟩;rw [Kv,HGl.out]
 have M0:Hid (kQ w K ck (nY G) (some ⟨w.heap.size,0,none⟩) 0 [] (aG.take 0) none 0 [] w1):=aC ⟨mo.start w _ 0 (hown0.out.below hb (bN _)) (ah Hb0.out hb),aA.lower hown Hb0.out.size,fun a b h1 h2 e=>by
   have:=(aA.lt hown a h1).1
   cases h2;simp at this e;omega,(fun a b _ h2=>by cases h2),(fun v hv=>by cases hv)⟩
 clear hkc hown hb hown0 Hb0;go_wp2_with fail
 go_loopw [6,8] (fun s6 s8 wr=>∃(k at_:Nat) (V:Option Addr) (cv:Nat) (vs:List (Option Addr×Nat×Nat)) (pre:List Nat),s6= .slice V vs.length cv/\s8= .int .i64 k/\k<=m/\vs.length<=50/\Hid (vs.length=k/\G=pre++bE T (m-k) at_/\pre.length=k/\T.drop at_=(aG.drop k).flatten)/\
   Hid (kQ w K ck (nY G) V cv vs (aG.take k) none 0 [] wr)/\Hid ((∀t∈aG.take k,(bB t).k≠9)/\∀q∈vs,q.2.1<=q.2.2)) (fun _ s8 _=>m-(intOf s8).toNat)
 case atStart=>exact ⟨0,1,some ⟨w.heap.size,0,none⟩,0,[],[],rfl,rfl,h_ _,by simp,aC ⟨rfl,HG.out.1,rfl,HT1.out⟩,M0,aC ⟨fun t ht=>by simp at ht,fun q hq=>by simp at hq⟩⟩
 case round=>
  clear M0 HG HT1;obtain ⟨k,at_,V,cv,vs,pre,rfl,rfl,hkm,afO,hpos,M,HF⟩:=hrel;by_cases hlt:k<m
  ·obtain ⟨ts,hts⟩:=aD (show k<aG.length by rw [Htl.out];exact hlt)
   have hmem:=Yt hts;have hf:=Ht.out.one ts hmem;have hok:=abC.out ts hmem;obtain ⟨hvk,KP,hpl,hdr⟩:=hpos.out;have hd:=hdr;rw [wI hts] at hd;have hal:at_<T.length:=nA hd hf.pos;obtain ⟨d,hdd⟩:∃d,m-k=d+1:=⟨m-k-1,by omega⟩
   have VG:G[k]?=some at_:=by
    rw [hdd,iH hal] at KP;rw [KP,zA (by rw [hpl];exact bN _),hpl];simp
   have hpos':Hid (G=(pre++[at_])++bE T (m-(k+1)) (at_+ts.length)/\(pre++[at_]).length=k+1/\T.drop (at_+ts.length)=(aG.drop (k+1)).flatten):=aC ⟨by
    rw [hdd,iH hal,jI hd hok hf] at KP;rw [KP,show m-(k+1)=d by omega];simp,by simp [hpl],kP hd⟩
   have hle:at_+ts.length<=T.length:=by
    have:=congrArg List.length hd;rw [VF,A_] at this;omega
   obtain ⟨y0,ys,rfl⟩:∃y0 ys,ts=y0::ys:=by
    cases ts with
    |nil=>exact absurd hf.PS (by omega)
    |cons y0 ys=>exact ⟨y0,ys,rfl⟩
   obtain ⟨bk,ok,hke,hkb,kc⟩:=aX.int (aA.read mH M.out.had) (E_ VG);subst hke;have hkG:k<G.length:=bf VG;have VH:Hid (∀v,Below wr.heap.size wr v->aM v v.heap.size (some ⟨bT,oT,none⟩) T):=aC fun v hb=>((Ha.out.below M.out.m.aU).below (hb.mono M.out.m.aU.size)).more (zk M.out.m.aU.size hb.size);have HE:=aC (fun v hb=>abD.out at_ (y0::ys) _ v (VH.out v hb) hd hok hf);have Ev:Hid (∀v,Below wr.heap.size wr v->aM v v.heap.size (some ⟨bT,oT+at_*3,none⟩) (y0::ys)):=aC fun v hb=>aM.part (VH.out v hb) hd;have S0:Hid (∀v,Below wr.heap.size wr v->v.cell? ⟨bk,ok+k,none⟩=some (.int .i64 (at_:Int))/\Hid (Below wr.heap.size wr v)):=aC fun v hb=>⟨(hb.cell (p:=⟨bk,ok+k,none⟩) hkb).trans kc,aC hb⟩;have VI:=aC hts;have HGk:=aC HGl.out;have ajo:vs.length<=49:=by omega
   have hac:at_+(y0::ys).length<=c:=by omega
   have hyl:(y0::ys).length<=100000000000:=by omega
   have hL0:0<(y0::ys).length:=by simp
   have hI1:(0:Int)<=(at_:Int):=by omega
   have hI2:(at_:Int)<=(at_:Int)+((y0::ys).length:Int):=by omega
   have hI3:(at_:Int)+((y0::ys).length:Int)<=(c:Int):=by omega
   have hown0:=aC (dV 48 3 iQ wr);have hwz:=M.out.m.aU.size;generalize hL:(y0::ys).length=L at*;have HL:=aC hL;clear hts hmem hf hok hvk KP hpl hdr hd hdd VG kc hal hL;go_wp2_with fail
   go_region_held3 (fun v=>v.cell? ⟨bk,ok+k,none⟩=some (.int .i64 (at_:Int))/\Hid (Below wr.heap.size wr v))
    (first
     |exact S0.out _ (aT _ _).drew
     |exact S0.out _ (ak (aT _ _) _).drew
     |exact S0.out _ hw1.out
     |exact S0.out _ (ak hw1.out _)
     |exact S0.out _ hw2.out)
    (first
     |(go_at_call 62;(with_reducible refine (HE.out _ (aT _ _).drew).mono ?_);rintro e w2 ⟨rfl,hb2⟩;have hw1:=aC (ah (aT _ wr).drew hb2);have hO:=aC (dV 48 3 iQ w2);clear hb2)
     |(go_at_call 62;(with_reducible refine (HE.out _ (ak (aT _ _) _).drew).mono ?_);rintro e w2 ⟨rfl,hb2⟩;have hw1:=aC (ah (ak (aT _ wr) _).drew hb2);have hO:=aC (aA.below (aA.below hown0.out (aT _ _).drew (bN _)) hb2 (bN _));clear hb2)
     |(refine wL (by rfl) _ _ (by rfl) wr.heap.size (l:=[]) (by rfl) hO.out (l2:=y0::ys) (A2:=some ⟨bT,oT+at_*3,none⟩) (c:=c-at_) (by show aO (if c=at_ then _ else _) (((at_:Int)+(L:Int)).toNat-at_) (c-at_)=_;rw [if_neg (by omega),HL.out,show ((at_:Int)+(L:Int)).toNat-at_=L by omega]) (B:=w2.heap.size) (Ev.out _ hw1.out) (by rw [HL.out];simp;omega) (by have:=hw1.out.size;omega) ?_;intro A2 cap2 w2' hown2 hg2 _;have hw2:=aC (eG hw1.out hg2 (fun q hq=>(aA.block hO.out q hq).1));have hX:=aC hown2;clear hown2 hg2)
     |(refine wL (by rfl) _ _ (by rfl) w2.heap.size (l:=[]) (by rfl) hO.out (l2:=y0::ys) (A2:=some ⟨bT,oT+at_*3,none⟩) (c:=c-at_) (by show aO (if c=at_ then _ else _) (((at_:Int)+(L:Int)).toNat-at_) (c-at_)=_;rw [if_neg (by omega),HL.out,show ((at_:Int)+(L:Int)).toNat-at_=L by omega]) (B:=w2.heap.size+1) (by have h:=Ev.out _ (ak hw1.out (.cells #[] 48));simpa using h) (by rw [HL.out];simp;omega) (by simp) ?_;intro A2 cap2 w2' hown2 hg2 _;have hw2:=aC (eG (ak hw1.out _) hg2 (fun q hq=>zk hw1.out.size (aA.block hO.out q hq).1));have hX:=aC (aA.lower hown2 hw1.out.size);clear hown2 hg2))
   all_goals
    rw [RU] at hX;have MX:=aC (M.out.fresh hX.out hw2.out);obtain ⟨g,hA2,_,_,_,_,_,_⟩:=aA.Fg hX.out (j:=0) (x:=y0) rfl 0;subst hA2;obtain ⟨b9,o9,VJ,dM,c10,_,_⟩:=(aA.g_ MX.out.m.cur).at_ (i:=0) (x:=y0) rfl;injection VJ with VJ
    injection VJ with e1 e2 _
    subst e1 e2;simp only [Nat.zero_mul,iE] at c10;have SB:=aC hX.out;have hcp:=aC (aA.cZ hX.out);clear hX hw2 M VH HE Ev S0 hown0 hkb
    cases h9:(y0.k==9)
    ·have VK:=aC h9
     go_wp2_with (at_builtin;refine mV rfl (.tmp 41) (.tmp 43) rfl w.heap.size (l:=vs) rfl (aA.alloc MX.out.m.row _) (l2:=[(some ⟨g,0,none⟩,ys.length+1,cap2)]) rfl (tu _ (some ⟨g,0,none⟩,ys.length+1,cap2)) (by simp;omega) (by have:=MX.out.m.aU.size;simp;omega) ?_;intro V2 gq w8 mK oO qp;have M3:=aC ((MX.out.alloc _).app mK oO qp);clear mK oO qp);go_roundw
     case rel=>exact ⟨k+1,at_+L,V2,gq,vs++[(some ⟨g,0,none⟩,ys.length+1,cap2)],pre++[at_],by simp,by go_num,hlt,by simp;omega,aC ⟨by simp [hpos.out.1],hpos'.out⟩,aC (by
      have h:=M3.out;rw [GZ,VI.out];exact h),aC ⟨fun t ht=>by
      rw [GZ,VI.out] at ht;rcases JQ.1 ht with ht|ht
      ·exact HF.out.1 t ht
      ·simp at ht
       subst ht;simpa [bB] using VK.out,fun q hq=>by
      rcases JQ.1 hq with hq|hq
      ·exact HF.out.2 q hq
      ·simp at hq
       subst hq;exact hcp.out⟩⟩
     case measure=>simp [intOf];omega
    ·have VK:=aC h9
     go_wp2_with fail;go_ret2;obtain ⟨e1,e2⟩:=KM VI.out H9.out (by simpa [bB] using VK.out);refine ⟨V,cv,vs,some ⟨g,0,none⟩,cap2,?_,MX.out.m.row,by rw [e1];exact MX.out.m.wK,?_,HF.out.2,MX.out.m.aU⟩
     ·rw [e2];simp only [Ry,aan,ER];rfl
     ·rw [e2];simp only [Ry,aan,ER];exact aA.g_ MX.out.m.cur
  ·have SC:k=m:=by omega
   have e1:aG.take k=aG:=by rw [SC,<-Htl.out,M9]
   rw [e1] at M HF;obtain ⟨e2,e3⟩:=KN HF.out.1;have E2:=aC (Gw e2 e3);clear e1 e2 e3 SC;go_wp2_with fail;go_ret2;refine ⟨V,cv,vs,none,0,?_,M.out.m.row,by rw [E2.out.1];exact M.out.m.wK,?_,HF.out.2,M.out.m.aU⟩
   ·rw [E2.out.2];rfl
   ·rw [E2.out.2];exact aM.nil
def abG (aG:List (List Nd)) (w:World) (e:Ending) (w':World):Prop:=
 ∃(V:Option Addr) (cv:Nat) (vs:List (Option Addr×Nat×Nat)) (A3:Option Addr) (c3:Nat),e= .returned (.tuple #[.slice V vs.length cv,.slice A3 (jA aG).flatten.length c3])/\vE w' w.heap.size V cv vs/\rE w' w'.heap.size vs (bI aG)/\
  aM w' w'.heap.size A3 (jA aG).flatten/\(∀q∈vs,q.2.1<=q.2.2)/\Below w.heap.size w w'/\(∀q∈vs,Off q.1 V)/\Off A3 V/\(∀q∈vs,∀a,q.1=some a->w.heap.size<=a.block)/\∀a,A3=some a->w.heap.size<=a.block
theorem Qb (A:Option Addr) (c:Nat) (T ks:List Nd) (x:Nd) (aG:List (List Nd)) (w:World) (ha:aM w w.heap.size A T) (hl:T.length<=100000000000) (hc:T.length<=c) (hT:T=x::ks) (hxo:bX x.k x.n=true) (hok:dF ks) (ht:Trees (manyN x) ks aG) (h9:∀t∈bI aG,(bB t).k≠9):
  Calls Try.prog 97 #[.slice A T.length c] w (abG aG w):=by
 have hx:T[0]?=some x:=by rw [hT];rfl
 have XP:manyN x<=50:=vV hxo
 have Fp:dF T:=fun y hy=>by
  rw [hT] at hy;rcases Gz.1 hy with rfl|hy
  ·exact hxo
  ·exact hok y hy
 obtain ⟨M,hM,Kt,_⟩:=vU hxo;have hMm:M=manyN x:=by unfold manyN;rw [hM];simp
 subst hMm
 have hkr:iq T 0=bE T (manyN x) 1:=by
  unfold iq;rw [if_neg (by omega)];simp only [Int.toNat_zero,hx,hM];simp
 have hown0:=dV 34 1 encS w;have hb0:=ak (aT w.heap.size w) (.cells #[] 34);have hkc:=aC (Bu A c T 0 (w.alloc (.cells #[] 34)) ((ha.below hb0).more hb0.size) hl Fp);have Ht:=aC ht;have ajn:=aC Fp;have H9:=aC h9;have hT1:T.drop 1=(aG.drop 0).flatten:=by rw [hT,Kk,ht.flat];rfl
 have htl:=ht.len;have P_:(bE T (manyN x) 1).length=manyN x:=zO _ _ aG htl (by rw [hT1,Kk]) fun z hz=>⟨ht.one z hz,fun y hy=>hok y (by rw [<-ht.flat];exact aam.2 ⟨z,hz,hy⟩)⟩;have SA:∀z∈aG,dF z:=fun z hz y hy=>hok y (by rw [<-ht.flat];exact aam.2 ⟨z,hz,hy⟩);have abC:=aC SA;have Ha:=aC ha;have hown0:=aC hown0;have Hb0:=aC hb0;obtain ⟨bT,oT,rfl,hbT,_,_,_⟩:=ha.at_ hx
 have abD:Hid (∀(at_:Nat) (ts rest:List Nd) (v:World),aM v v.heap.size (some ⟨bT,oT,none⟩) T->T.drop at_=ts++rest->dF ts->Fo 1 ts->Calls Try.prog 62 #[.slice (some ⟨bT,oT,none⟩) T.length c,.int .i64 (at_:Int)] v fun e w'=>e= .returned (.int .i64 ((at_:Int)+(ts.length:Int)))/\Below v.heap.size v w'):=aC fun at_ ts rest v hv hd ho hf=>by
  have h:=zJ (some ⟨bT,oT,none⟩) c T (at_:Int) v hv hl Fp;rw [yJ (nA hd hf.pos),jI hd ho hf] at h;simpa using h
 rw [hkr] at hkc;generalize hm:manyN x=m at*;generalize hG:bE T m 1=G at*;have HG:Hid (G=[]++bE T (m-0) 1/\([]:List Nat).length=0):=aC ⟨by rw [<-hG];rfl,rfl⟩;have HT1:=aC hT1;have Htl:=aC htl;have HGl:=aC P_;clear hx hT hxo hok ht h9 hkr hb0 hM Fp hT1 hm htl ha Kt hG P_ SA;go_enter Try.func97,Try.ntmps97;go_wp2_with fail;refine hkc.out.mono ?_;rintro e w1 ⟨K,ck,rfl,hown,hb⟩;rw [Kv,HGl.out]
 have M0:Hid (kQ w K ck (nY G) (some ⟨w.heap.size,0,none⟩) 0 [] (aG.take 0) none 0 [] w1):=aC ⟨mo.start w _ 0 (hown0.out.below hb (bN _)) (ah Hb0.out hb),aA.lower hown Hb0.out.size,fun a b h1 h2 e=>by
   have:=(aA.lt hown a h1).1
   cases h2;simp at this e;omega,(fun a b _ h2=>by cases h2),(fun v hv=>by cases hv)⟩
 clear hkc hown hb hown0 Hb0;go_wp2_with fail
 go_loopw [4,6] (fun s4 s6 wr=>∃(k at_:Nat) (V:Option Addr) (cv:Nat) (vs:List (Option Addr×Nat×Nat)) (pre:List Nat),s4= .slice V vs.length cv/\s6= .int .i64 k/\k<=m/\vs.length<=50/\Hid (vs.length=k/\G=pre++bE T (m-k) at_/\pre.length=k/\T.drop at_=(aG.drop k).flatten)/\
   Hid (kQ w K ck (nY G) V cv vs (aG.take k) none 0 [] wr)/\Hid ((∀t∈aG.take k,(bB t).k≠9)/\(∀q∈vs,q.2.1<=q.2.2)/\∀q∈vs,∀a,q.1=some a->w.heap.size<=a.block)) (fun _ s6 _=>m-(intOf s6).toNat)
 case atStart=>exact ⟨0,1,some ⟨w.heap.size,0,none⟩,0,[],[],rfl,rfl,h_ _,by simp,aC ⟨rfl,HG.out.1,rfl,HT1.out⟩,M0,aC ⟨fun t ht=>by simp at ht,fun q hq=>(by simp at hq),fun q hq=>by simp at hq⟩⟩
 case round=>
  clear M0 HG HT1;obtain ⟨k,at_,V,cv,vs,pre,rfl,rfl,hkm,afO,hpos,M,HF⟩:=hrel;by_cases hlt:k<m
  ·obtain ⟨ts,hts⟩:=aD (show k<aG.length by rw [Htl.out];exact hlt)
   have hmem:=Yt hts;have hf:=Ht.out.one ts hmem;have hok:=abC.out ts hmem;obtain ⟨hvk,KP,hpl,hdr⟩:=hpos.out;have hd:=hdr;rw [wI hts] at hd;have hal:at_<T.length:=nA hd hf.pos;obtain ⟨d,hdd⟩:∃d,m-k=d+1:=⟨m-k-1,by omega⟩
   have VG:G[k]?=some at_:=by
    rw [hdd,iH hal] at KP;rw [KP,zA (by rw [hpl];exact bN _),hpl];simp
   have hpos':Hid (G=(pre++[at_])++bE T (m-(k+1)) (at_+ts.length)/\(pre++[at_]).length=k+1/\T.drop (at_+ts.length)=(aG.drop (k+1)).flatten):=aC ⟨by
    rw [hdd,iH hal,jI hd hok hf] at KP;rw [KP,show m-(k+1)=d by omega];simp,by simp [hpl],kP hd⟩
   have hle:at_+ts.length<=T.length:=by
    have:=congrArg List.length hd;rw [VF,A_] at this;omega
   obtain ⟨y0,ys,rfl⟩:∃y0 ys,ts=y0::ys:=by
    cases ts with
    |nil=>exact absurd hf.PS (by omega)
    |cons y0 ys=>exact ⟨y0,ys,rfl⟩
   obtain ⟨bk,ok,hke,hkb,kc⟩:=aX.int (aA.read mH M.out.had) (E_ VG);subst hke;have hkG:k<G.length:=bf VG;have VH:Hid (∀v,Below wr.heap.size wr v->aM v v.heap.size (some ⟨bT,oT,none⟩) T):=aC fun v hb=>((Ha.out.below M.out.m.aU).below (hb.mono M.out.m.aU.size)).more (zk M.out.m.aU.size hb.size);have HE:=aC (fun v hb=>abD.out at_ (y0::ys) _ v (VH.out v hb) hd hok hf);have Ev:Hid (∀v,Below wr.heap.size wr v->aM v v.heap.size (some ⟨bT,oT+at_*3,none⟩) (y0::ys)):=aC fun v hb=>aM.part (VH.out v hb) hd;have S0:Hid (∀v,Below wr.heap.size wr v->v.cell? ⟨bk,ok+k,none⟩=some (.int .i64 (at_:Int))/\Hid (Below wr.heap.size wr v)):=aC fun v hb=>⟨(hb.cell (p:=⟨bk,ok+k,none⟩) hkb).trans kc,aC hb⟩;have VI:=aC hts;have HGk:=aC HGl.out;have ajo:vs.length<=49:=by omega
   have hac:at_+(y0::ys).length<=c:=by omega
   have hyl:(y0::ys).length<=100000000000:=by omega
   have hL0:0<(y0::ys).length:=by simp
   have hI1:(0:Int)<=(at_:Int):=by omega
   have hI2:(at_:Int)<=(at_:Int)+((y0::ys).length:Int):=by omega
   have hI3:(at_:Int)+((y0::ys).length:Int)<=(c:Int):=by omega
   have hown0:=aC (dV 48 3 iQ wr);have hwz:=M.out.m.aU.size;generalize hL:(y0::ys).length=L at*;have HL:=aC hL;clear hts hmem hf hok hvk KP hpl hdr hd hdd VG kc hal hL;go_wp2_with fail
   go_region_held3 (fun v=>v.cell? ⟨bk,ok+k,none⟩=some (.int .i64 (at_:Int))/\Hid (Below wr.heap.size wr v))
    (first
     |exact S0.out _ (aT _ _).drew
     |exact S0.out _ (ak (aT _ _) _).drew
     |exact S0.out _ hw1.out
     |exact S0.out _ (ak hw1.out _)
     |exact S0.out _ hw2.out)
    (first
     |(go_at_call 62;(with_reducible refine (HE.out _ (aT _ _).drew).mono ?_);rintro e w2 ⟨rfl,hb2⟩;have hw1:=aC (ah (aT _ wr).drew hb2);have hO:=aC (dV 48 3 iQ w2);clear hb2)
     |(go_at_call 62;(with_reducible refine (HE.out _ (ak (aT _ _) _).drew).mono ?_);rintro e w2 ⟨rfl,hb2⟩;have hw1:=aC (ah (ak (aT _ wr) _).drew hb2);have hO:=aC (aA.below (aA.below hown0.out (aT _ _).drew (bN _)) hb2 (bN _));clear hb2)
     |(refine wL (by rfl) _ _ (by rfl) wr.heap.size (l:=[]) (by rfl) hO.out (l2:=y0::ys) (A2:=some ⟨bT,oT+at_*3,none⟩) (c:=c-at_) (by show aO (if c=at_ then _ else _) (((at_:Int)+(L:Int)).toNat-at_) (c-at_)=_;rw [if_neg (by omega),HL.out,show ((at_:Int)+(L:Int)).toNat-at_=L by omega]) (B:=w2.heap.size) (Ev.out _ hw1.out) (by rw [HL.out];simp;omega) (by have:=hw1.out.size;omega) ?_;intro A2 cap2 w2' hown2 hg2 _;have hw2:=aC (eG hw1.out hg2 (fun q hq=>(aA.block hO.out q hq).1));have hX:=aC hown2;clear hown2 hg2)
     |(refine wL (by rfl) _ _ (by rfl) w2.heap.size (l:=[]) (by rfl) hO.out (l2:=y0::ys) (A2:=some ⟨bT,oT+at_*3,none⟩) (c:=c-at_) (by show aO (if c=at_ then _ else _) (((at_:Int)+(L:Int)).toNat-at_) (c-at_)=_;rw [if_neg (by omega),HL.out,show ((at_:Int)+(L:Int)).toNat-at_=L by omega]) (B:=w2.heap.size+1) (by have h:=Ev.out _ (ak hw1.out (.cells #[] 48));simpa using h) (by rw [HL.out];simp;omega) (by simp) ?_;intro A2 cap2 w2' hown2 hg2 _;have hw2:=aC (eG (ak hw1.out _) hg2 (fun q hq=>zk hw1.out.size (aA.block hO.out q hq).1));have hX:=aC (aA.lower hown2 hw1.out.size);clear hown2 hg2))
   all_goals
    rw [RU] at hX;have MX:=aC (M.out.fresh hX.out hw2.out);obtain ⟨g,hA2,hgb,_,_,_,_,_⟩:=aA.Fg hX.out (j:=0) (x:=y0) rfl 0;have hgw:w.heap.size<=g:=zk M.out.m.aU.size hgb;clear hgb;subst hA2;obtain ⟨b9,o9,VJ,dM,c10,_,_⟩:=(aA.g_ MX.out.m.cur).at_ (i:=0) (x:=y0) rfl;injection VJ with VJ
    injection VJ with e1 e2 _
    subst e1 e2;simp only [Nat.zero_mul,iE] at c10;have SB:=aC hX.out;have hcp:=aC (aA.cZ hX.out);clear hX hw2 M VH HE Ev S0 hown0 hkb
    cases h9:(y0.k==9)
    ·have VK:=aC h9
     go_wp2_with (at_builtin;refine mV rfl (.tmp 38) (.tmp 40) rfl w.heap.size (l:=vs) rfl (aA.alloc MX.out.m.row _) (l2:=[(some ⟨g,0,none⟩,ys.length+1,cap2)]) rfl (tu _ (some ⟨g,0,none⟩,ys.length+1,cap2)) (by simp;omega) (by have:=MX.out.m.aU.size;simp;omega) ?_;intro V2 gq w8 mK oO qp;have M3:=aC ((MX.out.alloc _).app mK oO qp);clear mK oO qp);go_roundw
     case rel=>exact ⟨k+1,at_+L,V2,gq,vs++[(some ⟨g,0,none⟩,ys.length+1,cap2)],pre++[at_],by simp,by go_num,hlt,by simp;omega,aC ⟨by simp [hpos.out.1],hpos'.out⟩,aC (by
      have h:=M3.out;rw [GZ,VI.out];exact h),aC ⟨fun t ht=>by
      rw [GZ,VI.out] at ht;rcases JQ.1 ht with ht|ht
      ·exact HF.out.1 t ht
      ·simp at ht
       subst ht;simpa [bB] using VK.out,fun q hq=>(by
      rcases JQ.1 hq with hq|hq
      ·exact HF.out.2.1 q hq
      ·simp at hq
       subst hq;exact hcp.out),fun q hq a ha=>by
      rcases JQ.1 hq with hq|hq
      ·exact HF.out.2.2 q hq a ha
      ·simp at hq
       subst hq;injection ha with ha
       rw [<-ha];exact hgw⟩⟩
     case measure=>simp [intOf];omega
    ·have VK:=aC h9
     go_wp2_with fail;go_ret2;obtain ⟨e1,e2⟩:=KM VI.out H9.out (by simpa [bB] using VK.out);refine ⟨V,cv,vs,some ⟨g,0,none⟩,cap2,?_,MX.out.m.row,by rw [e1];exact MX.out.m.wK,?_,HF.out.2.1,MX.out.m.aU,MX.out.m.sv,MX.out.m.uv,HF.out.2.2,fun a ha=>by injection ha with ha;rw [<-ha];exact hgw⟩
     ·rw [e2];simp only [Ry,aan,ER];rfl
     ·rw [e2];simp only [Ry,aan,ER];exact aA.g_ MX.out.m.cur
  ·have SC:k=m:=by omega
   have e1:aG.take k=aG:=by rw [SC,<-Htl.out,M9]
   rw [e1] at M HF;obtain ⟨e2,e3⟩:=KN HF.out.1;have E2:=aC (Gw e2 e3);clear e1 e2 e3 SC;go_wp2_with fail;go_ret2;refine ⟨V,cv,vs,none,0,?_,M.out.m.row,by rw [E2.out.1];exact M.out.m.wK,?_,HF.out.2.1,M.out.m.aU,M.out.m.sv,(fun a b h=>by cases h),HF.out.2.2,fun a ha=>by cases ha⟩
   ·rw [E2.out.2];rfl
   ·rw [E2.out.2];exact aM.nil
end Go.Proofs.Ytblfeokjlecgkaa
