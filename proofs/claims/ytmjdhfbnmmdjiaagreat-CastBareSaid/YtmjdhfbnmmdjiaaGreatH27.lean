/- Laid together by a tool from the texts of this seat: CsW. Conditions: each theorem's own. -/
import Derived.Test.YtmjdhfbnmmdjiaaGreatH26
namespace Go.Proofs.YtmjdhfbnmmdjiaaGreat
open Go.Value renaming slice->gq
open Go.World renaming cell?->DI
open _root_.Nat renaming le_refl->aK
open _root_.List renaming getElem?_append_left->YX,getElem?_append_right->kg,mem_append->pU
open Go Go.RowKit
abbrev Br:=Pt×List Pt×List Nd
def iI (nx:kW) (es:List Pt) (env:Env) (u:List Nd):Nat->Nat->List Br->Option (List Br×Nat)
 |0,a,l=>some (l,a)
 |n+1,a,l=>match es[a]? with
  |none=>none
  |some b=>match bG u b.lb with
   |none=>none
   |some v=>match nx (env++[(b.bd,v)]) (a+1) with
    |none=>none
    |some (y,t,c)=>iI nx es env u n c (l++[(b,y,t)])
theorem zC {nx:kW} {es:List Pt} {env:Env} {u:List Nd} {n a:Nat} {l:List Br} {S:List Br×Nat} (h:iI nx es env u (n+1) a l=some S):
  ∃b v y t c,es[a]?=some b/\bG u b.lb=some v/\nx (env++[(b.bd,v)]) (a+1)=some (y,t,c)/\iI nx es env u n c (l++[(b,y,t)])=some S:=by
 unfold iI at h;split at h
 ·cases h
 ·rename_i b hb
  split at h
  ·cases h
  ·rename_i v hv
   split at h
   ·cases h
   ·rename_i y t c hy
    exact ⟨b,v,y,t,c,hb,hv,hy,h⟩
def zD (es:List Pt) (n b:Nat) (t:List Nd):Option (List Nd):=
 if (aD t).k=0 then
  match mE es n b [] with
  |none=>none
  |some ls=>if jZ 7 ls ls.length=false/\ls.Nodup then some (d_ 7 (ls.map fun l=>(l,aH 0))) else none
 else some t
def oP (m:List Nd) (e:Br):List Pt:=e.1::toM e.2.1 e.2.2 m
def xL (nx:kW) (es:List Pt) (env:Env) (p:Pt) (a:Nat):Option eF:=
 if 1<=p.mn/\p.mn<=50 then
  fZ (nx env a) fun x t b=>
   match zD es p.mn.toNat b t with
   |none=>none
   |some u=>if Gd u/\u.length<=5000000 then
     match iI nx es env u p.mn.toNat b [] with
     |none=>none
     |some (l,c)=>match l with
      |[]=>none
      |e::l'=>match bT 0 e.2.2 (l'.map (·.2.2)) with
       |some (.ok m)=>if m.length<=5000000 then some ((p::toM x t u)++(e::l').flatMap (oP m),m,c) else none
       |_=>none
    else none
 else none
theorem Fz {nx:kW} {es:List Pt} {env:Env} {p:Pt} {a:Nat} {r:eF} (h:xL nx es env p a=some r):
  (1<=p.mn/\p.mn<=50)/\∃x t b u e l' c m,nx env a=some (x,t,b)/\zD es p.mn.toNat b t=some u/\(Gd u/\u.length<=5000000)/\iI nx es env u p.mn.toNat b []=some (e::l',c)/\
   bT 0 e.2.2 (l'.map (·.2.2))=some (.ok m)/\m.length<=5000000/\r=((p::toM x t u)++(e::l').flatMap (oP m),m,c):=by
 unfold xL at h;split at h
 rotate_left
 ·cases h
 rename_i hn;obtain ⟨x,t,b,h1,h⟩:=bD h;split at h
 ·cases h
 rename_i u hu;split at h
 rotate_left
 ·cases h
 rename_i hg;split at h
 ·cases h
 rename_i l c hl;split at h
 ·cases h
 rename_i e l';split at h
 rotate_left
 ·cases h
 rename_i m hm;split at h
 rotate_left
 ·cases h
 rename_i hml;injection h with h
 exact ⟨hn,x,t,b,u,e,l',c,m,h1,hu,hg,hl,hm,hml,h.symm⟩
section
variable {P a a':Nat} {es:List Pt} {env:Env} {Y0 Y Y':Nat->Prop} {w0 w w':World} {R B:Nat} {p:Pt} {TA UA:Option Addr} {tc uc:Nat} {N:Nat} {OA MA HA:Option Addr} {oc mc:Nat} {out:List Pt} {u:List Nd} {hall:List PV} {hs:List Pt} {cs:List XV} {bl:List (List Pt×List Nd)}
theorem uS.add (h:uS P es env a Y0 w0 R B p TA tc UA uc N OA oc out MA mc u hall hs cs bl HA Y w) {v:PV} {b:Pt} {q:XV} {e:List Pt×List Nd} (hv:AY w Y v b) (hn:q.n=e.1.length/\q.tn=e.2.length) (hx:bN w Y q.A q.c e.1) (ht:aF w Y q.TA q.tc e.2) (hne:e.1≠[]) (hd:∀a g,q.A=some a->HA=some g->a.block≠g.block):
  uS P es env a Y0 w0 R B p TA tc UA uc N OA oc out MA mc u (hall++[v]) (hs++[b]) (cs++[q]) (bl++[e]) HA Y w:=
 ⟨h.md,h.nn,h.n0,h.rn,h.bn,h.out,h.ob,h.u,h.hp.app (dz.cons hv dz.nil),by rw [List.length_append,List.length_append,h.cl];rfl,fun i q' e' hq he=>by
  rcases Nat.lt_or_ge i cs.length with hi|hi
  ·rw [YX hi] at hq
   rw [YX (by rw [<-h.cl];exact hi)] at he;exact h.sl i q' e' hq he
  ·rw [kg hi] at hq
   rw [kg (by rw [<-h.cl];exact hi),<-h.cl] at he
   cases hj:i-cs.length with
   |zero=>
    rw [hj] at hq he;simp at hq he;subst hq he
    exact ⟨hn.1,hn.2,hx,ht⟩
   |succ j=>rw [hj] at hq;simp at hq,fun e' he=>by
  rcases pU.1 he with he|he
  ·exact h.ne e' he
  ·simp at he
   rw [he];exact hne,fun q' hq a2 g ha hg=>by
  rcases pU.1 hq with hq|hq
  ·exact h.ds q' hq a2 g ha hg
  ·simp at hq
   rw [hq] at ha;exact hd a2 g ha hg⟩
end
structure CaI (P:Nat) (es:List Pt) (env:Env) (nx:kW) (p:Pt) (TA:Option Addr) (tc:Nat) (UA:Option Addr) (uc:Nat) (Y0:Nat->Prop) (w0:World) (R B N:Nat) (OA:Option Addr) (oc:Nat) (out:List Pt) (MA:Option Addr) (mc:Nat) (u:List Nd) (n:Nat) (S:List Br×Nat) (k:Nat) (Y:Nat->Prop) (a:Nat) (l:List Br) (HA:Option Addr) (hc:Nat) (hvs:List PV) (BA:Option Addr) (bc:Nat) (cs:List XV) (VA:Option Addr) (vc:Nat) (w:World):Prop where
 c:uS P es env a Y0 w0 R B p TA tc UA uc N OA oc out MA mc u hvs (l.map (·.1)) cs (l.map (·.2)) HA Y w
 ho:fq w N HA hc hvs
 bo:IW w N BA bc cs
 vo:iA w N VA vc (cs.map XV.ty)
 len:l.length=k
 gd:∀e∈l,qQ e.2.1 e.2.2
 run:iI nx es env u (n-k) a l=some S
structure Aw (P:Nat) (es:List Pt) (env:Env) (a:Nat) (Y0:Nat->Prop) (w0:World) (R B:Nat) (p:Pt) (TA:Option Addr) (tc:Nat) (UA:Option Addr) (uc:Nat) (N:Nat) (OA:Option Addr) (oc:Nat) (out:List Pt) (MA:Option Addr) (mc:Nat) (u:List Nd) (hall:List PV) (hs:List Pt) (cs:List XV) (bl:List (List Pt×List Nd)) (HA:Option Addr) (hc:Nat) (hvs:List PV) (BA:Option Addr) (bc:Nat) (bvs:List XV) (VA:Option Addr) (vc:Nat) (Eo:List (Option Addr×Nat×Nat)) (H X:Nat) (v:PV) (q:XV) (Y:Nat->Prop) (w:World):Prop where
 c:uS P es env a Y0 w0 R B p TA tc UA uc N OA oc out MA mc u hall hs cs bl HA Y w
 ho:fq w N HA hc hvs
 bo:IW w N BA bc bvs
 vo:iA w N VA vc Eo
 bh:aQ w Y H #[.int .i64 v.k,.string v.lb,.string v.nm,.string v.bd,.int .i64 v.mn,.int .i64 v.num,.slice v.TA v.tn v.tc,.slice v.UA v.un v.uc] 33
 bx:aQ w Y X #[.slice q.A q.n q.c,.slice q.TA q.tn q.tc] 65
 dh:∀g,HA=some g->g.block≠H
 dx:∀g,BA=some g->g.block≠X
section
variable {P a a':Nat} {es:List Pt} {env:Env} {Y0 Y Y':Nat->Prop} {w0 w w':World} {R B:Nat} {p:Pt} {TA UA:Option Addr} {tc uc:Nat} {N:Nat} {OA MA HA BA VA:Option Addr} {oc mc hc bc vc:Nat} {out:List Pt} {u:List Nd} {hall hvs:List PV} {hs:List Pt} {cs bvs:List XV} {Eo:List (Option Addr×Nat×Nat)} {bl:List (List Pt×List Nd)} {H X:Nat} {v:PV} {q:XV}
theorem Aw.later (h:Aw P es env a Y0 w0 R B p TA tc UA uc N OA oc out MA mc u hall hs cs bl HA hc hvs BA bc bvs VA vc Eo H X v q Y w) (hb:Below w.heap.size w w'):Aw P es env a Y0 w0 R B p TA tc UA uc N OA oc out MA mc u hall hs cs bl HA hc hvs BA bc bvs VA vc Eo H X v q Y w':=
 ⟨h.c.later hb,h.ho.below hb (aK _),h.bo.below hb (aK _),h.vo.below hb (aK _),h.bh.below hb,h.bx.below hb,h.dh,h.dx⟩
theorem Aw.cells (h:Aw P es env a Y0 w0 R B p TA tc UA uc N OA oc out MA mc u hall hs cs bl HA hc hvs BA bc bvs VA vc Eo H X v q Y w):
  w.cell? ⟨H,0,none⟩=some (.int .i64 v.k)/\w.cell? ⟨H,1,none⟩=some (.string v.lb)/\w.cell? ⟨H,2,none⟩=some (.string v.nm)/\w.cell? ⟨H,3,none⟩=some (.string v.bd)/\w.cell? ⟨H,4,none⟩=some (.int .i64 v.mn)/\w.cell? ⟨H,5,none⟩=some (.int .i64 v.num)/\w.cell? ⟨H,6,none⟩=some (.slice v.TA v.tn v.tc)/\w.cell? ⟨H,7,none⟩=some (.slice v.UA v.un v.uc)/\
   w.cell? ⟨X,0,none⟩=some (.slice q.A q.n q.c)/\w.cell? ⟨X,1,none⟩=some (.slice q.TA q.tn q.tc):=
 ⟨by simp [DI,h.bh.blk],by simp [DI,h.bh.blk],by simp [DI,h.bh.blk],by simp [DI,h.bh.blk],by simp [DI,h.bh.blk],by simp [DI,h.bh.blk],by simp [DI,h.bh.blk],by simp [DI,h.bh.blk],h.bx.kX.1,h.bx.kX.2⟩
theorem Aw.qU {hc':Nat} {Di:Option Addr} {l2:List PV} (h:Aw P es env a Y0 w0 R B p TA tc UA uc N OA oc out MA mc u hall hs cs bl HA hc hvs BA bc bvs VA vc Eo H X v q Y w) (hown:fq w' N Di hc' (hvs++l2)) (hg:w.grownBy w' ((gq HA hvs.length hc).ownBlock))
  (hd:(gq Di (hvs.length+l2.length) hc').ownBlock=(gq HA hvs.length hc).ownBlock\/(gq Di (hvs.length+l2.length) hc').ownBlock=some w.heap.size):
  Aw P es env a Y0 w0 R B p TA tc UA uc N OA oc out MA mc u hall hs cs bl Di hc' (hvs++l2) BA bc bvs VA vc Eo H X v q Y w'/\iF w w' 33 Y:=by
 obtain ⟨c2,k,hf,hnew⟩:=h.c.qU h.ho hg hd;refine ⟨⟨c2,hown,h.bo.bW k (by decide),h.vo.bW k (by decide),h.bh.frQ hf fun ⟨g,hg1,hg2⟩=>h.dh g hg1 hg2,h.bx.fu k (by decide),fun g hgg=>?_,h.dx⟩,k⟩;rcases hnew g hgg with ⟨g2,e1,e2⟩|e1
 ·rw [<-e2]
  exact h.dh g2 e1
 ·have:=h.bh.lt
  omega
theorem Aw.nu {bc':Nat} {En:Option Addr} {l2:List XV} (h:Aw P es env a Y0 w0 R B p TA tc UA uc N OA oc out MA mc u hall hs cs bl HA hc hvs BA bc bvs VA vc Eo H X v q Y w) (hown:IW w' N En bc' (bvs++l2)) (hg:w.grownBy w' ((gq BA bvs.length bc).ownBlock))
  (hd:(gq En (bvs.length+l2.length) bc').ownBlock=(gq BA bvs.length bc).ownBlock\/(gq En (bvs.length+l2.length) bc').ownBlock=some w.heap.size):
  Aw P es env a Y0 w0 R B p TA tc UA uc N OA oc out MA mc u hall hs cs bl HA hc hvs En bc' (bvs++l2) VA vc Eo H X v q Y w'/\iF w w' 65 Y:=by
 obtain ⟨c2,k,hf,hnew⟩:=h.c.nu h.bo hg hd;refine ⟨⟨c2,h.ho.bW k (by decide),hown,h.vo.bW k (by decide),h.bh.fu k (by decide),h.bx.frQ hf fun ⟨g,hg1,hg2⟩=>h.dx g hg1 hg2,h.dh,fun g hgg=>?_⟩,k⟩;rcases hnew g hgg with ⟨g2,e1,e2⟩|e1
 ·rw [<-e2]
  exact h.dx g2 e1
 ·have:=h.bx.lt
  omega
theorem Aw.nA {Au:Nat} {Ar:Option Addr} {l2:List (Option Addr×Nat×Nat)} (h:Aw P es env a Y0 w0 R B p TA tc UA uc N OA oc out MA mc u hall hs cs bl HA hc hvs BA bc bvs VA vc Eo H X v q Y w) (hown:iA w' N Ar Au (Eo++l2)) (hg:w.grownBy w' ((gq VA Eo.length vc).ownBlock)):
  Aw P es env a Y0 w0 R B p TA tc UA uc N OA oc out MA mc u hall hs cs bl HA hc hvs BA bc bvs Ar Au (Eo++l2) H X v q Y w'/\iF w w' 28 Y:=by
 obtain ⟨c2,k⟩:=h.c.nA h.vo hg;exact ⟨⟨c2,h.ho.bW k (by decide),h.bo.bW k (by decide),hown,h.bh.fu k (by decide),h.bx.fu k (by decide),h.dh,h.dx⟩,k⟩
end
structure Tx (P:Nat) (es:List Pt) (env:Env) (a:Nat) (Y0:Nat->Prop) (w0:World) (R B:Nat) (p:Pt) (TA:Option Addr) (tc:Nat) (UA:Option Addr) (uc:Nat) (l:List Br) (HA:Option Addr) (hc:Nat) (hvs:List PV) (BA:Option Addr) (bc:Nat) (cs:List XV) (GA:Option Addr) (gc:Nat) (m:List Nd) (Y:Nat->Prop) (w:World):Prop where
 md:qE P es env a Y0 w0 R B p TA tc UA uc Y w
 ho:fq w w0.heap.size HA hc hvs
 bo:IW w w0.heap.size BA bc cs
 hp:dz w Y hvs (l.map (·.1))
 cl:cs.length=l.length
 sl:∀(i:Nat) (q:XV) (e:Br),cs[i]?=some q->l[i]?=some e->q.n=e.2.1.length/\q.tn=e.2.2.length/\bN w Y q.A q.c e.2.1/\aF w Y q.TA q.tc e.2.2
 m:aF w Y GA gc m
section
variable {P a:Nat} {es:List Pt} {env:Env} {Y0 Y:Nat->Prop} {w0 w w':World} {R B:Nat} {p:Pt} {TA UA:Option Addr} {tc uc:Nat} {l:List Br} {HA BA GA:Option Addr} {hc bc gc:Nat} {hvs:List PV} {cs:List XV} {m:List Nd}
theorem Tx.later (h:Tx P es env a Y0 w0 R B p TA tc UA uc l HA hc hvs BA bc cs GA gc m Y w) (hb:Below w.heap.size w w'):Tx P es env a Y0 w0 R B p TA tc UA uc l HA hc hvs BA bc cs GA gc m Y w':=
 ⟨h.md.later hb,h.ho.below hb (aK _),h.bo.below hb (aK _),h.hp.fr (Fr.below hb) (aj.refl _ _),h.cl,fun i q e hq he=>⟨(h.sl i q e hq he).1,(h.sl i q e hq he).2.1,(h.sl i q e hq he).2.2.1.fr (Fr.below hb) (aj.refl _ _),(h.sl i q e hq he).2.2.2.later hb⟩,h.m.later hb⟩
end
end Go.Proofs.YtmjdhfbnmmdjiaaGreat
