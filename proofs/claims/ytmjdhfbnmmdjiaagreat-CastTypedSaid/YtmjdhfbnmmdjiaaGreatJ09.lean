/- Laid together by a tool from the texts of this seat: ChE ChS. Conditions: each theorem's own. -/
import Derived.Test.YtmjdhfbnmmdjiaaGreatJ08
namespace Go.Proofs.YtmjdhfbnmmdjiaaGreat
open Go.World renaming cell?->Ck
open _root_.ByteArray renaming empty->bZ
open _root_.Nat renaming lt_of_lt_of_le->Yw
open _root_.List renaming Perm->aac,pairwise_cons->aad,length_append->jX,getElem?_append_left->aaf,getElem?_append_right->jd,mem_cons->oJ,mem_cons_self->aag,pairwise_map->aai,length_map->Qx
open Go.RowKit
structure Pt where
 k:Int
 lb:ByteArray
 nm:ByteArray
 bd:ByteArray
 mn:Int
 num:Int
 T:List Nd
 U:List Nd
 deriving DecidableEq
instance:Inhabited Pt:=⟨⟨0,bZ,bZ,bZ,0,0,[],[]⟩⟩
abbrev Env:=List (ByteArray×List Nd)
abbrev fC:=Except (Nat×Int) (List Nd×Nat)
abbrev zx:=Except (Nat×Int) Nat
abbrev Nx:=Env->Nat->Option fC
instance (t:List Nd):Decidable (bI t):=inferInstanceAs (Decidable (∀x∈t,dR x.k x.n=true))
instance (n:Nat) (t:List Nd):Decidable (Fo n t):=inferInstanceAs (Decidable (skip t n=some []))
instance (t:List Nd):Decidable (Gd t):=
 if h:bI t/\Fo 1 t/\(aQ t).s=bZ/\t.length<=1000000000 then isTrue ⟨h.1,h.2.1,h.2.2.1,h.2.2.2⟩
 else isFalse fun g=>h ⟨g.ok,g.fo,g.s,g.len⟩
def NT (nx:Nx) (env:Env):zx->Option fC
 | .ok a=>nx env a
 | .error b=>some (.error b)
def fC.st:fC->zx
 | .ok (_,a)=>.ok a
 | .error b=>.error b
def dB (x:Option fC) (f:List Nd->Nat->Option fC):Option fC:=
 match x with
 |none=>none
 |some (.error b)=>some (.error b)
 |some (.ok (t,a))=>f t a
def fZ (t u:List Nd) (aK a:Nat):zx:=if jA t u=true then .ok a else .error (aK,9)
def lY (env:Env) (s:ByteArray):Option (List Nd):=(env.reverse.find? fun e=>e.1.toList==s.toList).map Prod.snd
def ay (k:Int):List Nd:=[⟨k,bZ,0⟩]
def Fy (p:Pt) (a:Nat):Option fC:=some (.ok (p.T,a))
def uE (env:Env) (p:Pt) (aK a:Nat):Option fC:=
 match lY env p.nm with
 |some t=>some (.ok (t,a))
 |none=>some (.error (aK,5))
def Fz (nx:Nx) (env:Env) (p:Pt) (a:Nat):Option fC:=dB (nx (env++[(p.bd,p.T)]) a) fun t b=>some (.ok (aW p.T t,b))
def DV (nx:Nx) (env:Env) (aK a:Nat):Option fC:=
 dB (nx env a) fun f b=>dB (nx env b) fun x c=>
  match iQ f with
  |none=>some (.error (aK,9))
  |some (tk,tl)=>if jA x tk=true then some (.ok (tl,c)) else some (.error (aK,9))
def FC (nx:Nx) (env:Env) (p:Pt) (aK a:Nat):Option fC:=
 dB (nx env a) fun t b=>NT nx (env++[(p.bd,p.T)]) (fZ t p.T aK b)
def FD (nx:Nx) (env:Env) (p:Pt) (aK a:Nat):Option fC:=
 dB (nx (env++[(p.nm,aW p.T p.U),(p.bd,p.T)]) a) fun t b=>NT nx (env++[(p.nm,aW p.T p.U)]) (fZ t p.U aK b)
def ru (t u:List Nd) (aK a:Nat):Option fC:=
 match met 1 t u with
 |some m=>some (.ok (m,a))
 |none=>some (.error (aK,9))
def xP (nx:Nx) (env:Env) (aK a:Nat):Option fC:=
 dB (nx env a) fun c b=>dB (nx env b) fun x d=>dB (nx env d) fun y e=>
  if jA c (ay 2)=true then ru x y aK e else some (.error (aK,9))
def dD (s:ByteArray):Int:=if s.toList=[38,38]\/s.toList=[124,124] then 2 else if s.toList=[43,43] then 3 else 1
def fM (s:ByteArray):Int:=if s.toList=[60]\/s.toList=[61,61] then 2 else dD s
def NU (nx:Nx) (env:Env) (p:Pt) (aK a:Nat):Option fC:=
 dB (nx env a) fun x b=>dB (nx env b) fun y c=>
  if jA x (ay (dD p.nm))=true/\jA y (ay (dD p.nm))=true then some (.ok (ay (fM p.nm),c)) else some (.error (aK,9))
def mV (t:List Nd) (s:ByteArray) (aK a:Nat):Option fC:=
 match bJ t s with
 |some u=>some (.ok (u,a))
 |none=>some (.error (aK,9))
def getM (nx:Nx) (env:Env) (p:Pt) (aK a:Nat):Option fC:=dB (nx env a) fun t b=>mV t p.nm aK b
def DW (nx:Nx) (env:Env) (p:Pt) (aK a:Nat):Option fC:=
 dB (nx env a) fun t b=>dB (mV p.T p.nm aK b) fun u c=>if jA t u=true then some (.ok (p.T,c)) else some (.error (aK,9))
def Xk (nx:Nx) (env:Env) (p:Pt) (aK a:Nat):Option fC:=
 dB (nx env a) fun t b=>if jA t p.T=true then some (.ok (p.T,b)) else some (.error (aK,9))
def uF (nx:Nx) (env:Env) (p:Pt) (aK a:Nat):Option fC:=
 dB (nx env a) fun t b=>if mE t p.T=true/\jA p.T p.U=true then some (.ok (p.U,b)) else some (.error (aK,9))
def iE (w:World) (b:Nat) (T:TypeId):Prop:=∃cs fz,w.heap[b]?=some (.cells cs T fz)
def Bj (Y:Nat->Prop) (b:Nat):Prop:=∀q,Y q->b<q
theorem kY {w w':World} {b:Nat} {T:TypeId} (hbk:w'.heap[b]?=w.heap[b]?) (h:iE w b T):iE w' b T:=by
 unfold iE;rw [hbk];exact h
theorem Bj.fr {Y Y':Nat->Prop} {b n:Nat} (h:Bj Y b) (hb:b<n) (hY:∀q,Y' q->Y q\/n<=q):Bj Y' b:=fun q hq=>by
 rcases hY q hq with h2|h2
 ·exact h q h2
 ·omega
def tL (w:World) (Y:Nat->Prop) (A:Option Addr) (t:List Nd):Prop:=t≠[]->∃b o,A=some ⟨b,o,none⟩/\b<w.heap.size/\¬Y b/\RT w b o t/\(iE w b 49\/Bj Y b)
structure aA (w:World) (Y:Nat->Prop) (A:Option Addr) (c:Nat) (t:List Nd):Prop where
 ty:tL w Y A t
 cap:t.length<=c
def zO (w:World) (Y:Nat->Prop) (b o:Nat) (p:Pt):Prop:=∃TA tc UA uc,aA w Y TA tc p.T/\aA w Y UA uc p.U/\
 w.cell? ⟨b,o,none⟩=some (.int .i64 p.k)/\w.cell? ⟨b,o+1,none⟩=some (.string p.lb)/\w.cell? ⟨b,o+2,none⟩=some (.string p.nm)/\w.cell? ⟨b,o+3,none⟩=some (.string p.bd)/\
 w.cell? ⟨b,o+4,none⟩=some (.int .i64 p.mn)/\w.cell? ⟨b,o+5,none⟩=some (.int .i64 p.num)/\w.cell? ⟨b,o+6,none⟩=some (.slice TA p.T.length tc)/\w.cell? ⟨b,o+7,none⟩=some (.slice UA p.U.length uc)
def jW (w:World) (Y:Nat->Prop) (A:Option Addr) (es:List Pt):Prop:=∀(i:Nat) (p:Pt),es[i]?=some p->∃b o,A=some ⟨b,o,none⟩/\b<w.heap.size/\¬Y b/\zO w Y b (o+i*8) p/\(iE w b 33\/Bj Y b)
structure Bn where
 s:ByteArray
 A:Option Addr
 n:Nat
 c:Nat
def pO (b:Bn):List Value:=[.string b.s,.slice b.A b.n b.c]
theorem rX (b:Bn):(pO b).length=2:=rfl
theorem UJ (b:Bn):∀u∈pO b,u.oneCell'=true:=by
 intro u hu;simp [pO] at hu;rcases hu with rfl|rfl<;>rfl
def dX (w:World) (Y:Nat->Prop) (bs:List Bn) (env:Env):Prop:=
 bs.length=env.length/\∀(i:Nat) (b:Bn) (e:ByteArray×List Nd),bs[i]?=some b->env[i]?=some e->b.s=e.1/\b.n=e.2.length/\aA w Y b.A b.c e.2
abbrev Bl (w:World) (base:Nat) (A:Option Addr) (cap:Nat) (l:List Bn):Prop:=aB 36 2 pO w base A cap l
abbrev mK (w:World) (B:Nat) (A:Option Addr) (l:List Bn):Prop:=bf 2 pO w B A l
theorem aB.qK {α:Type} {e size base:Nat} {enc:α->List Value} {w:World} {A:Option Addr} {cap:Nat} {l:List α} (h:aB e size enc w base A cap l) {a:Addr} (hA:A=some a):iE w a.block e:=by
 subst hA;rcases h.2 with ⟨hv,hn⟩|⟨g,cap',cur,hv,hbg,hg,hr⟩
 ·cases hv
 ·injection hv with h1
  injection h1 with h1
  subst h1;exact ⟨cur,_,hg⟩
theorem iE.ne {w:World} {b c:Nat} {T U:TypeId} (h:iE w b T) (k:iE w c U) (hTU:T≠U):b≠c:=by
 rintro rfl;obtain ⟨cs,fz,h⟩:=h;obtain ⟨ds,gz,k⟩:=k;rw [h] at k;injection k with k
 injection k with _ k _
 exact hTU k
section
variable {w w':World} {Y Y':Nat->Prop} {A:Option Addr} {c:Nat} {t:List Nd}
theorem tL.fr (h:tL w Y A t) (hf:Fr Y w w') (hY:∀q,Y' q->Y q\/w.heap.size<=q):tL w' Y' A t:=fun hne=>by
 obtain ⟨b,o,e,hb,hy,hr,ho⟩:=h hne;have hbk:=hf.block b hb hy;refine ⟨b,o,e,Yw hb hf.size,fun h2=>?_,hr.mono fun off=>by simp [Ck,hbk],ho.imp (kY hbk) fun h=>h.fr hb hY⟩;rcases hY b h2 with h3|h3
 ·exact hy h3
 ·omega
theorem tL.eY (h:tL w Y A t):bO w w.heap.size A t:=fun hne=>by
 obtain ⟨b,o,e,hb,_,hr,_⟩:=h hne;exact ⟨b,o,e,hb,hr⟩
theorem tL.own {base:Nat} (h:dK w base A c t) (hY:∀q,Y q->q<base):tL w Y A t:=fun hne=>by
 obtain ⟨b,o,e,hb,hr⟩:=h.eY hne;refine ⟨b,o,e,hb,fun hy=>?_,hr,.inl (aB.qK h e)⟩;have:=(aB.lt h _ e).1;have:=hY b hy;simp only at*;omega
theorem aA.fr (h:aA w Y A c t) (hf:Fr Y w w') (hY:∀q,Y' q->Y q\/w.heap.size<=q):aA w' Y' A c t:=⟨h.ty.fr hf hY,h.cap⟩
theorem aA.own {base:Nat} (h:dK w base A c t) (hY:∀q,Y q->q<base):aA w Y A c t:=⟨tL.own h hY,aB.l7 h⟩
theorem aA.nil:aA w Y A c []:=⟨fun h=>absurd rfl h,Nat.zero_le _⟩
theorem zO.fr {b o:Nat} {p:Pt} (h:zO w Y b o p) (hb:b<w.heap.size) (hy:¬Y b) (hf:Fr Y w w') (hY:∀q,Y' q->Y q\/w.heap.size<=q):zO w' Y' b o p:=by
 obtain ⟨TA,tc,UA,uc,h1,h2,h3⟩:=h;have hbk:=hf.block b hb hy;refine ⟨TA,tc,UA,uc,h1.fr hf hY,h2.fr hf hY,?_⟩;simp only [Ck,hbk] at h3 ⊢;exact h3
theorem jW.fr {es:List Pt} (h:jW w Y A es) (hf:Fr Y w w') (hY:∀q,Y' q->Y q\/w.heap.size<=q):jW w' Y' A es:=fun i p hp=>by
 obtain ⟨b,o,e,hb,hy,hr,ho⟩:=h i p hp;refine ⟨b,o,e,Yw hb hf.size,fun h2=>?_,hr.fr hb hy hf hY,ho.imp (kY (hf.block b hb hy)) fun h=>h.fr hb hY⟩;rcases hY b h2 with h3|h3
 ·exact hy h3
 ·omega
theorem dX.fr {bs:List Bn} {env:Env} (h:dX w Y bs env) (hf:Fr Y w w') (hY:∀q,Y' q->Y q\/w.heap.size<=q):dX w' Y' bs env:=
 ⟨h.1,fun i b e hb he=>⟨(h.2 i b e hb he).1,(h.2 i b e hb he).2.1,(h.2 i b e hb he).2.2.fr hf hY⟩⟩
theorem dX.app {bs bs2:List Bn} {env bL:Env} (h:dX w Y bs env) (k:dX w Y bs2 bL):dX w Y (bs++bs2) (env++bL):=by
 refine ⟨by rw [jX,jX,h.1,k.1],fun i b e hb he=>?_⟩;rcases Nat.lt_or_ge i bs.length with hi|hi
 ·rw [aaf hi] at hb
  rw [aaf (by rw [<-h.1];exact hi)] at he;exact h.2 i b e hb he
 ·rw [jd hi] at hb
  rw [jd (by rw [<-h.1];exact hi),<-h.1] at he;exact k.2 _ b e hb he
theorem dX.take {bs:List Bn} {env bL:Env} (h:dX w Y bs (env++bL)):dX w Y (bs.take env.length) env:=by
 refine ⟨by rw [List.length_take,h.1,jX];omega,fun i b e hb he=>?_⟩;have hi:=aU he;rw [List.getElem?_take_of_lt hi] at hb;exact h.2 i b e hb (by rw [aaf hi];exact he)
theorem dX.nil:dX w Y [] []:=⟨rfl,fun i b e hb _=>by simp at hb⟩
theorem dX.one {s:ByteArray} {n:Nat} (h:aA w Y A c t) (hn:n=t.length):dX w Y [⟨s,A,n,c⟩] [(s,t)]:=by
 subst hn;refine ⟨rfl,fun i b e hb he=>?_⟩
 match i,hb,he with
 |0,hb,he=>
  simp at hb he;subst hb he
  exact ⟨rfl,rfl,h⟩
 |i+1,hb,_=>simp at hb
end
structure g_ (w w':World) (U:TypeId) (Y:Nat->Prop):Prop where
 os:w'.os=w.os
 tape:w'.tape=w.tape
 output:w'.output=w.output
 size:w.heap.size<=w'.heap.size
 block:∀k,k<w.heap.size->¬(iE w k U/\¬Bj Y k)->w'.heap[k]?=w.heap[k]?
theorem g_.grown {α:Type} {size base n:Nat} {U:TypeId} {enc:α->List Value} {w w':World} {A:Option Addr} {cap:Nat} {l:List α} (h:aB U size enc w base A cap l) (hn:n=l.length) (hg:w.grownBy w' ((Value.slice A n cap).ownBlock)) {Y:Nat->Prop} {P:Nat} (hY:Y P) (hP:P<=base):g_ w w' U Y:=by
 subst hn;refine ⟨hg.os,hg.tape,hg.output,hg.size,fun k hk ho=>hg.block k hk fun e=>?_⟩;obtain ⟨a,hA,e2⟩:=cK e.symm;have:=aB.qK h hA;rw [e2] at this;have h6:=(aB.lt h a hA).1;exact ho ⟨this,fun h5=>by have:=h5 P hY;omega⟩
theorem g_.fr {w w':World} {U:TypeId} {Y:Nat->Prop} (h:g_ w w' U Y):Fr (fun q=>iE w q U/\¬Bj Y q) w w':=⟨h.os,h.tape,h.output,h.size,h.block⟩
theorem tL.bW {w w':World} {U:TypeId} {Y:Nat->Prop} {A:Option Addr} {t:List Nd} (h:tL w Y A t) (k:g_ w w' U Y) (hU:U≠49):tL w' Y A t:=fun hne=>by
 obtain ⟨b,o,e,hb,hy,hr,ho⟩:=h hne;have hbk:=k.block b hb fun h2=>ho.elim (fun ho=>iE.ne h2.1 ho hU rfl) h2.2;exact ⟨b,o,e,Yw hb k.size,hy,hr.mono fun off=>by simp [Ck,hbk],ho.imp (kY hbk) fun h=>h⟩
theorem aA.bW {w w':World} {U:TypeId} {Y:Nat->Prop} {A:Option Addr} {c:Nat} {t:List Nd} (h:aA w Y A c t) (k:g_ w w' U Y) (hU:U≠49):aA w' Y A c t:=⟨h.ty.bW k hU,h.cap⟩
structure qL (P:Nat) (es:List Pt) (env:Env) (a:Nat) (p e:Int) (EA:Option Addr) (ec:Nat) (VA:Option Addr) (vc:Nat) (bs:List Bn) (Y:Nat->Prop) (w:World):Prop where
 blk:w.heap[P]?=some (.cells #[.slice EA es.length ec,.int .i64 (a:Int),.slice VA bs.length vc,.int .i64 p,.int .i64 e] 60 (0,0))
 own:Bl w 0 VA vc bs
 ex:jW w Y EA es
 en:dX w Y bs env
 y:∀q,Y q↔(q=P\/∃a,VA=some a/\a.block=q)
 np:∀a,VA=some a->a.block≠P
 el:es.length<=1000000
 vl:env.length<=1000000
def WkS (P:Nat) (es:List Pt) (env:Env) (a:Nat) (p e:Int) (Y:Nat->Prop) (w:World):Prop:=∃EA ec VA vc bs,qL P es env a p e EA ec VA vc bs Y w
def abQ:zx->Nat->Int->Int->Prop
 | .ok n,a,p,e=>a=n/\p=0/\e=0
 | .error (q,f),_,p,e=>p=q/\e=f/\f≠0
def aM (P:Nat) (es:List Pt) (env:Env) (s:zx) (Y:Nat->Prop) (w:World):Prop:=∃a p e,WkS P es env a p e Y w/\abQ s a p e
def ah (Y Y':Nat->Prop) (w:World):Prop:=∀q,Y' q->Y q\/w.heap.size<=q
def jD (P:Nat) (es:List Pt) (env:Env) (Y:Nat->Prop) (r:fC) (w:World) (e:Ending) (w':World):Prop:=
 ∃Y',Fr Y w w'/\ah Y Y' w/\aM P es env r.st Y' w'/\match r with
  | .ok (t,_)=>∃A c,e= .returned (.slice A t.length c)/\aA w' Y' A c t
  | .error _=>e= .returned (.slice none 0 0)
def aY (P:Nat) (es:List Pt) (env:Env) (Y:Nat->Prop) (r:fC) (w:World) (e:Ending) (w':World):Prop:=
 ∃Y',Fr Y w w'/\ah Y Y' w/\aM P es env r.st Y' w'/\match r with
  | .ok (t,_)=>∃A c,e= .returned (.slice A t.length c)/\aA w' Y' A c t
  | .error _=>∃A n c,e= .returned (.slice A n c)
def pk (P:Nat):Value:=.pointer (some ⟨P,0,none⟩)
def nC (P:Nat) (es:List Pt) (nx:Nx):Prop:=∀env s r Y w,NT nx env s=some r->aM P es env s Y w->Calls Tryz.prog 32 #[pk P] w (jD P es env Y r w)
section
variable {P a:Nat} {es:List Pt} {env:Env} {p e:Int} {EA VA:Option Addr} {ec vc:Nat} {bs:List Bn} {Y Y':Nat->Prop} {w w':World} {s:zx}
theorem qL.lt (h:qL P es env a p e EA ec VA vc bs Y w):∀q,Y q->q<w.heap.size:=fun q hq=>by
 rcases (h.y q).1 hq with rfl|⟨b,hb,rfl⟩
 ·exact (Array.getElem?_eq_some_iff.1 h.blk).1
 ·exact (aB.lt h.own b hb).2
theorem aM.yP (h:aM P es env s Y w):Y P:=by
 obtain ⟨a,p,e,⟨EA,ec,VA,vc,bs,h⟩,_⟩:=h;exact (h.y P).2 (.inl rfl)
theorem aM.lt (h:aM P es env s Y w):∀q,Y q->q<w.heap.size:=by
 obtain ⟨a,p,e,⟨EA,ec,VA,vc,bs,h⟩,_⟩:=h;exact h.lt
theorem qL.later (h:qL P es env a p e EA ec VA vc bs Y w) (hb:Below w.heap.size w w'):qL P es env a p e EA ec VA vc bs Y w':=by
 have hf:Fr Y w w':=Fr.below hb;have hP:=h.lt P ((h.y P).2 (.inl rfl));exact ⟨(hb.block P hP).trans h.blk,h.own.below hb (Nat.le_refl _),h.ex.fr hf fun q hq=>.inl hq,h.en.fr hf fun q hq=>.inl hq,h.y,h.np,h.el,h.vl⟩
theorem aM.later (h:aM P es env s Y w) (hb:Below w.heap.size w w'):aM P es env s Y w':=by
 obtain ⟨a,p,e,⟨EA,ec,VA,vc,bs,h⟩,hr⟩:=h;exact ⟨a,p,e,⟨EA,ec,VA,vc,bs,h.later hb⟩,hr⟩
theorem qL.cells (h:qL P es env a p e EA ec VA vc bs Y w):w.cell? ⟨P,0,none⟩=some (.slice EA es.length ec)/\w.cell? ⟨P,1,none⟩=some (.int .i64 (a:Int))/\w.cell? ⟨P,2,none⟩=some (.slice VA bs.length vc)/\w.cell? ⟨P,3,none⟩=some (.int .i64 p)/\w.cell? ⟨P,4,none⟩=some (.int .i64 e):=
 ⟨by simp [Ck,h.blk],by simp [Ck,h.blk],by simp [Ck,h.blk],by simp [Ck,h.blk],by simp [Ck,h.blk]⟩
theorem qL.frozen (h:qL P es env a p e EA ec VA vc bs Y w):∀i,i<5->w.frozen? ⟨P,i,none⟩=false:=fun i hi=>by
 have:i=0\/i=1\/i=2\/i=3\/i=4:=by omega
 rcases this with rfl|rfl|rfl|rfl|rfl<;>simp [World.frozen?,h.blk]
theorem qL.kind (h:qL P es env a p e EA ec VA vc bs Y w):∀q,Y q->iE w q 60\/iE w q 36:=fun q hq=>by
 rcases (h.y q).1 hq with rfl|⟨b,hb,rfl⟩
 ·exact .inl ⟨_,_,h.blk⟩
 ·exact .inr (aB.qK h.own hb)
theorem aM.kind (h:aM P es env s Y w):∀q,Y q->iE w q 60\/iE w q 36:=by
 obtain ⟨a,p,e,⟨EA,ec,VA,vc,bs,h⟩,_⟩:=h;exact h.kind
theorem qL.bW {U:TypeId} (h:qL P es env a p e EA ec VA vc bs Y w) (k:g_ w w' U Y) (h1:U≠49) (h2:U≠33) (h3:U≠36) (h4:U≠60):qL P es env a p e EA ec VA vc bs Y w':=by
 have hP:=h.lt P ((h.y P).2 (.inl rfl));refine ⟨(k.block P hP fun h5=>iE.ne h5.1 ⟨_,_,h.blk⟩ h4 rfl).trans h.blk,aB.fr h.own k.fr (fun a ha h5=>iE.ne h5.1 (aB.qK h.own ha) h3 rfl),?_,⟨h.en.1,fun i b e hb he=>⟨(h.en.2 i b e hb he).1,(h.en.2 i b e hb he).2.1,(h.en.2 i b e hb he).2.2.bW k h1⟩⟩,h.y,h.np,h.el,h.vl⟩;intro i p hp;obtain ⟨b,o,e,hb,hy,hr,ho⟩:=h.ex i p hp;have hbk:=k.block b hb fun h5=>ho.elim (fun ho=>iE.ne h5.1 ho h2 rfl) h5.2;refine ⟨b,o,e,Yw hb k.size,hy,?_,ho.imp (kY hbk) fun h=>h⟩;obtain ⟨TA,tc,UA,uc,f1,f2,f3⟩:=hr;refine ⟨TA,tc,UA,uc,f1.bW k h1,f2.bW k h1,?_⟩;simp only [Ck,hbk] at f3 ⊢;exact f3
theorem aM.bW {U:TypeId} (h:aM P es env s Y w) (k:g_ w w' U Y) (h1:U≠49) (h2:U≠33) (h3:U≠36) (h4:U≠60):aM P es env s Y w':=by
 obtain ⟨a,p,e,⟨EA,ec,VA,vc,bs,h⟩,hr⟩:=h;exact ⟨a,p,e,⟨EA,ec,VA,vc,bs,h.bW k h1 h2 h3 h4⟩,hr⟩
theorem aB.step {α:Type} {U size base:Nat} {enc:α->List Value} {A:Option Addr} {cap:Nat} {l:List α} (h:aB U size enc w base A cap l) (hk:aM P es env s Y w) (hf:Fr Y w w') (h3:U≠36) (h4:U≠60):aB U size enc w' base A cap l:=
 aB.fr h hf fun a ha hy=>by
  rcases hk.kind _ hy with h5|h5
  ·exact iE.ne (aB.qK h ha) h5 h4 rfl
  ·exact iE.ne (aB.qK h ha) h5 h3 rfl
theorem qL.put (h:qL P es env a p e EA ec VA vc bs Y w) {a2:Nat} {p2 e2:Int} (hb:w'.heap[P]?=some (.cells #[.slice EA es.length ec,.int .i64 (a2:Int),.slice VA bs.length vc,.int .i64 p2,.int .i64 e2] 60 (0,0))) (hf:Fr (fun q=>q=P) w w'):
  qL P es env a2 p2 e2 EA ec VA vc bs Y w'/\Fr Y w w':=by
 have hf2:Fr Y w w':=hf.mono fun q hq=>(h.y q).2 (.inl hq);exact ⟨⟨hb,aB.fr h.own hf h.np,h.ex.fr hf2 fun q hq=>.inl hq,h.en.fr hf2 fun q hq=>.inl hq,h.y,h.np,h.el,h.vl⟩,hf2⟩
theorem dY (w:World) (P i:Nat) (v:Value):Fr (fun q=>q=P) w (w.setCell ⟨P,i,none⟩ v):=Fr.setCell (X:=fun q=>q=P) (Fr.refl _ _) (.inl rfl) _
end
def ou (p:ByteArray×List Nd):List (ByteArray×List Nd)->List (ByteArray×List Nd)
 |[]=>[p]
 |q::l=>if kN p.1 q.1=true then p::q::l else q::ou p l
def ow (l:List (ByteArray×List Nd)):List (ByteArray×List Nd):=l.foldl (fun a p=>ou p a) []
def eG (k:Int) (fs:List (ByteArray×List Nd)):List Nd:=⟨k,bZ,(fs.length:Int)⟩::(ow fs).flatMap fun p=>gZ p.1 p.2
abbrev eT:=ByteArray×List Nd
theorem FE (p:eT) (l:List eT):(ou p l).Perm (p::l):=by
 induction l with
 |nil=>exact aac.refl _
 |cons q l ih=>
  unfold ou;split
  ·exact aac.refl _
  ·exact (ih.cons q).trans (aac.swap p q l)
theorem Qt (p:eT) (l:List eT) (hs:l.Pairwise fun a b=>kN a.1 b.1=true) (hn:∀q∈l,q.1≠p.1):(ou p l).Pairwise fun a b=>kN a.1 b.1=true:=by
 induction l with
 |nil=>simp [ou]
 |cons q l ih=>
  rw [aad] at hs;unfold ou;by_cases h:kN p.1 q.1=true
  ·rw [if_pos h,aad,aad]
   refine ⟨fun r hr=>?_,hs⟩;rcases oJ.1 hr with rfl|hr
   ·exact h
   ·exact Ab h (hs.1 r hr)
  ·rw [if_neg h,aad]
   refine ⟨fun r hr=>?_,ih hs.2 fun r hr=>hn r (List.mem_cons_of_mem _ hr)⟩;rcases oJ.1 ((FE p l).subset hr) with rfl|hr
   ·cases h2:kN q.1 r.1 with
    |true=>rfl
    |false=>exact absurd (KY h2 (by simpa using h)) (hn q (aag ..))
   ·exact hs.1 r hr
theorem FH (l:List eT):∀acc:List eT,(acc++l).Pairwise (fun a b=>a.1≠b.1)->acc.Pairwise (fun a b=>kN a.1 b.1=true)->
  (l.foldl (fun a p=>ou p a) acc).Perm (acc++l)/\(l.foldl (fun a p=>ou p a) acc).Pairwise fun a b=>kN a.1 b.1=true:=by
 induction l with
 |nil=>intro acc _ h;simpa using h
 |cons p l ih=>
  intro acc hd hs;rw [List.foldl_cons];have hp:(ou p acc++l).Perm (acc++p::l):=((FE p acc).append_right l).trans (by simpa using (List.perm_middle (a:=p) (l₁:=acc) (l₂:=l)).symm);have hd2:(ou p acc++l).Pairwise fun a b=>a.1≠b.1:=hp.symm.pairwise hd (fun h=>Ne.symm h);have hn:∀q∈acc,q.1≠p.1:=fun q hq=>(List.pairwise_append.1 hd).2.2 q hq p (aag ..);obtain ⟨h1,h2⟩:=ih (ou p acc) hd2 (Qt p acc hs hn);exact ⟨h1.trans hp,h2⟩
theorem aax {a b:ByteArray} (h:kN a b=true):kN b a=false:=by
 cases k:kN b a with
 |false=>rfl
 |true=>
  have:=Ab h k;rw [DT] at this
  cases this
theorem CJ (k:Int) (fs:List eT) (hd:(fs.map (·.1)).Nodup) (os:List Nat) (hp:os.Perm (List.range (fs.map (·.2)).length)) (ho:os.Pairwise fun i j=>kN (lab (fs.map (·.1)) i) (lab (fs.map (·.1)) j)=true):
  CF k (fs.map (·.1)) (fs.map (·.2)) os=eG k fs:=by
 have hd2:fs.Pairwise fun a b=>a.1≠b.1:=by
  have h:=hd;unfold List.Nodup at h;rw [aai] at h;exact h
 obtain ⟨h1,h2⟩:=FH fs [] (by simpa using hd2) List.Pairwise.nil
 have hr:(List.range fs.length).map (fun i=>((lab (fs.map (·.1)) i,((fs.map (·.2))[i]?).getD []):eT))=fs:=by
  refine List.ext_getElem (by simp) fun i hi hj=>?_;simp only [List.getElem_map,List.getElem_range];simp [lab,List.getElem?_eq_getElem hj]
 have e:os.map (fun i=>((lab (fs.map (·.1)) i,((fs.map (·.2))[i]?).getD []):eT))=ow fs:=by
  refine aac.eq_of_pairwise (le:=fun a b=>kN a.1 b.1=true) (fun a b _ _ h k=>?_) ?_ h2 ?_
  ·rw [aax h] at k
   cases k
  ·rw [aai]
   exact ho
  ·rw [Qx] at hp
   refine (hp.map _).trans ?_;rw [hr];simpa [ow] using h1.symm
 unfold CF eG;rw [<-e,List.flatMap_map,Qx];rfl
def f_ (nx:Nx) (es:List Pt) (env:Env):Nat->Nat->List eT->Option (Except (Nat×Int) (List eT×Nat))
 |0,a,fs=>some (.ok (fs,a))
 |n+1,a,fs=>
  match es[a]? with
  |none=>none
  |some x=>match nx env a with
   |none=>none
   |some (.error b)=>some (.error b)
   |some (.ok (t,b))=>f_ nx es env n b (fs++[(x.lb,t)])
def sM (nx:Nx) (es:List Pt) (env:Env) (p:Pt) (a:Nat):Option fC:=
 if 0<=p.mn/\p.mn<=50 then
  match f_ nx es env p.mn.toNat a [] with
  |none=>none
  |some (.error b)=>some (.error b)
  |some (.ok (fs,b))=>if jQ 6 (fs.map (·.1)) fs.length=false/\(fs.map (·.1)).Nodup then some (.ok (eG 6 fs,b)) else none
 else none
def aP (p:Pt):Nat:=
 if p.k=2\/p.k=8\/p.k=11\/p.k=12\/p.k=13\/p.k=14 then 1 else
 if p.k=3\/p.k=4\/p.k=5\/p.k=9 then 2 else
 if p.k=6 then 3 else
 if p.k=7 then p.mn.toNat+1 else
 if p.k=10 then p.mn.toNat else 0
def d_:List Pt->Nat->Nat->Option Nat
 |_,0,p=>some p
 |[],_+1,_=>none
 |x::xs,n+1,p=>d_ xs (n+aP x) (p+1)
def dF (es:List Pt):Nat->Nat->Option (List Nat)
 |0,_=>some []
 |n+1,a=>match d_ (es.drop a) 1 a with
  |none=>none
  |some b=>(dF es n b).map fun l=>a::l
def kZ (l:List ByteArray):List ByteArray:=((l.map ByteArray.toList).mergeSort fun x y=>decide (x<=y)).map fun b=>⟨b.toArray⟩
def kQ (es:List Pt) (t:List Nd) (aK:Nat):Option Bool:=
 match es[aK]? with
 |none=>none
 |some p=>match dF es (aP p) (aK+1) with
  |none=>none
  |some []=>none
  |some (_::l)=>match kI t with
   |none=>some false
   |some tags=>some (decide ((aQ t).k=0)||decide (tags=kZ (l.map fun i=>((es[i]?).getD default).lb)))
def eu (nx:Nx) (es:List Pt) (env:Env) (ot:List Nd):Nat->Nat->List (List Nd)->Option (Except (Nat×Int) (List (List Nd)×Nat))
 |0,a,ts=>some (.ok (ts,a))
 |n+1,a,ts=>
  match es[a]? with
  |none=>none
  |some x=>match nx (env++[(x.bd,(bJ ot x.lb).getD [])]) (a+1) with
   |none=>none
   |some (.error b)=>some (.error b)
   |some (.ok (t,b))=>eu nx es env ot n b (ts++[t])
def bT (aK:Nat):List Nd->List (List Nd)->Option (Except (Nat×Int) (List Nd))
 |m,[]=>some (.ok m)
 |m,t::ts=>match met 1 m t with
  |none=>some (.error (aK,9))
  |some m2=>if Gd m2 then bT aK m2 ts else none
def oN (nx:Nx) (es:List Pt) (env:Env) (p:Pt) (aK a:Nat):Option fC:=
 if 1<=p.mn/\p.mn<=50/\env.length<=900000 then
  dB (nx env a) fun ot b=>
   match kQ es ot aK with
   |none=>none
   |some false=>some (.error (aK,9))
   |some true=>match eu nx es env ot p.mn.toNat b [] with
    |none=>none
    |some (.error x)=>some (.error x)
    |some (.ok (ts,c))=>match ts with
     |[]=>none
     |t::ts=>match bT aK t ts with
      |none=>none
      |some (.error x)=>some (.error x)
      |some (.ok m)=>some (.ok (m,c))
 else none
end Go.Proofs.YtmjdhfbnmmdjiaaGreat
