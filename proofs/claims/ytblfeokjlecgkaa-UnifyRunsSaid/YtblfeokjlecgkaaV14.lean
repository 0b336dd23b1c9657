/- Laid together by a tool from the texts of this seat: UFits UTell UFitsB UReg UEndsB UEndsC. Conditions: each theorem's own. -/
import Derived.Test.YtblfeokjlecgkaaV13
import Derived.Test.YtblfeokjlecgkaaV03
import Derived.Test.YtblfeokjlecgkaaV06
set_option maxHeartbeats 8000000
set_option maxRecDepth 100000
namespace Go.Proofs.Ytblfeokjlecgkaa
open Go.Lib renaming hid->aC
open _root_.And renaming intro->Gw
open Go.RowKit.Below renaming refl->aT,heap_alloc->adM
open Go.World renaming cell?->adw,cell?_of_block->adN,block_lt_of_cell?->ae5,frozen?->ad6,size_alloc->ae9
open _root_.Array renaming getElem?_eq_some_iff->ade
open _root_.Nat renaming lt_of_lt_of_le->vv,zero_le->h_,le_refl->bN
open _root_.List renaming length->RB,length_cons->Bl,length_map->aaT,getElem?_map->adg,mem_of_getElem?->Yt,length_append->A_,mem_cons_of_mem->abr,map_cons->Bn,take_of_length_le->CK,mem_cons->Gz,mem_map->aaN,take_zero->ae6,eq_nil_of_length_eq_zero->kZ
open _root_.ByteArray renaming empty->pR
open Go.Value renaming slice->aO,pointer->aeX
open _root_.Option renaming map_some->abg
open Go.Region renaming ready->ad4,wanted->aaH,noSelect->aei,free->aej
open Go.RowKit
attribute [local go_sem ↓] Go.wp_at_zero Go.wp_at_succ
structure uG (T:Ut) (nd d:Int):Prop where
 en:nd=((jL T:Nat):Int)
 ed:jL T<=10000->d=((lY T:Nat):Int)
 lo: -9223372036854775808<=d
 hi:d<=9223372036854775807
structure sJ (fs:Fl) (i:Nat) (nd d:Int):Prop where
 en:nd=((min (1+pI (fs.take i)) 10001:Nat):Int)
 ed:1+pI (fs.take i)<=10000->d=((qZ (fs.take i):Nat):Int)
 lo: -9223372036854775808<=d
 hi:d<=9223372036854775807
theorem aaA:∀t,jL t<=10000->lY t<=jL t:=by
 refine Ut.ind fun k n fs tl ih h=>?_;rw [iW] at h ⊢;rw [jS];split at h
 ·omega
 ·next h50=>
  rw [if_neg h50]
  have hF:∀gs:Fl,(∀p∈gs,p∈fs)->pI gs<=10000->qZ gs<=pI gs:=by
   intro gs
   induction gs with
   |nil=>intro _ _;rw [rV,ou];exact bN _
   |cons p gs ig=>
    intro hs hn;rw [iC] at hn ⊢;rw [iT];have h1:=ih p (hs p (by simp)) (by omega);have h2:=ig (fun q hq=>hs q (abr _ hq)) (by omega);have:=(Dl p.2).1;omega
  have:=hF fs (fun p hp=>hp) (by omega);omega
theorem sJ.start (fs:Fl):sJ fs 0 1 0:=⟨by simp [ou],fun _=>by simp [rV],by omega,by omega⟩
theorem sJ.next {fs:Fl} {i:Nat} {nd d QW d1:Int} {p:Lb×Ut} (h:sJ fs i nd d) (hp:fs[i]?=some p) (h1:uG p.2 QW d1):sJ fs (i+1) (min (nd+QW) 10001) (max d d1):=by
 obtain ⟨e1,e2⟩:=abT hp;obtain ⟨a1,a2,a3,a4⟩:=h;obtain ⟨b1,b2,b3,b4⟩:=h1;have hle:=(Dl p.2);refine ⟨?_,fun hn=>?_,by omega,by omega⟩
 ·rw [e1,a1,b1];omega
 ·rw [e1] at hn
  rw [e2,a2 (by omega),b2 (by omega)];omega
theorem sJ.stop {k n:Int} {fs:Fl} {tl:Option Int} {nd d:Int} (h:sJ fs fs.length nd d):uG (.mk k n fs tl) (if 50<fs.length then 10001 else nd) (wrap64 (d+1)):=by
 obtain ⟨a1,a2,a3,a4⟩:=h;rw [List.take_length] at a1 a2;refine ⟨?_,fun hn=>?_,?_,?_⟩
 ·rw [iW]
  split
  ·rfl
  ·rw [a1]
 ·rw [iW] at hn
  split at hn
  ·omega
  ·next h50=>
   rw [jS,a2 (by omega)];have h2:lY (.mk k n fs tl)<=jL (.mk k n fs tl):=aaA _ (by rw [iW,if_neg h50];exact hn);rw [jS,iW,if_neg h50] at h2;unfold wrap64;omega
 ·unfold wrap64;omega
 ·unfold wrap64;omega
theorem Pk (f:Ut->Ut) (fs:Fl):(aI f fs).map (·.2)=(fs.map (·.2)).map f:=by
 induction fs with
 |nil=>rfl
 |cons p fs ih=>rw [eU,Bn,Bn,Bn,ih]
theorem ac9 (w:World):(zeroValue 159).run Try.prog w= .ok (.agg #[.int .i64 0,.int .i64 0]) w:=by kernel_rfl
def IG (nd d:Int):Value:=.agg #[.int .i64 nd,.int .i64 d]
def sK (X:Nat->Prop) (S:Kn) (w:World) (dm:Nat) (l:List (Nat×Value)):Prop:=
 jV pk w dm l/\∀q∈l,∃u nd d,aF X w q.1 u/\j_ u/\q.2=IG nd d/\uG (inst S.σ u) nd d
def EN (X:Nat->Prop) (S:Kn) (dm:Nat) (t:Ut) (w:World) (e:Ending) (w':World):Prop:=
 ∃nd d,e= .returned (IG nd d)/\uG (inst S.σ t) nd d/\Fr (fun k=>k=dm) w w'/\∃l',sK X S w' dm l'
structure w_ (s dm c1 c2 c3:Nat) (w:World):Prop where
 s:w.cell? ⟨c1,0,none⟩=some (.pointer (some ⟨s,0,none⟩))
 m:w.cell? ⟨c2,0,none⟩=some (.map (some dm))
 f:w.cell? ⟨c3,0,none⟩=some (.func (.func 113) #[] #[.pointer (some ⟨c1,0,none⟩),.pointer (some ⟨c2,0,none⟩),.pointer (some ⟨c3,0,none⟩)])
def QX (X:Nat->Prop) (U:List Lb) (S:Kn) (s m:Nat) (first:Int) (dm c1 c2 c3:Nat) (t:Ut):Prop:=
 ∀(b:Nat) (w:World) (l:List (Nat×Value)),(∀k,X k->k<w.heap.size)->bH X s m first w S->aF X w b t->TG U S t->sK X S w dm l->w_ s dm c1 c2 c3 w->
  Calls Try.prog 113 #[pk b,.pointer (some ⟨c1,0,none⟩),.pointer (some ⟨c2,0,none⟩),.pointer (some ⟨c3,0,none⟩)] w (EN X S dm t w)
theorem w_.fr {s dm c1 c2 c3:Nat} {w w':World} (h:w_ s dm c1 c2 c3 w) {es:Array MapEntry} {ck:Nat} (hm:w.heap[dm]?=some (.map es ck)) (hf:Fr (fun k=>k=dm) w w'):w_ s dm c1 c2 c3 w':=by
 have key:∀(x:Nat) (v:Value),w.cell? ⟨x,0,none⟩=some v->w'.cell? ⟨x,0,none⟩=some v:=fun x v hv=>by
  have hlt:x<w.heap.size:=by
   rcases Nat.lt_or_ge x w.heap.size with g|g
   ·exact g
   ·simp [adw,Array.getElem?_eq_none g] at hv
  exact (adN (a:=⟨x,0,none⟩) (hf.block x hlt fun e=>by
   have e:x=dm:=e;subst e;rw [map_cell hm] at hv
   cases hv)).trans hv
 exact ⟨key _ _ h.s,key _ _ h.m,key _ _ h.f⟩
theorem w_.aU {s dm c1 c2 c3:Nat} {w w':World} (h:w_ s dm c1 c2 c3 w) (hb:Below w.heap.size w w'):w_ s dm c1 c2 c3 w':=
 ⟨(hb.cell (p:=⟨c1,0,none⟩) (ae5 w _ h.s)).trans h.s,(hb.cell (p:=⟨c2,0,none⟩) (ae5 w _ h.m)).trans h.m,(hb.cell (p:=⟨c3,0,none⟩) (ae5 w _ h.f)).trans h.f⟩
theorem Pm {κ:Type} [DecidableEq κ] {a:κ} {v:Value} {q:κ×Value}:∀{l:List (κ×Value)},q∈nS a v l->q∈l\/q=(a,v)
 |[],h=>.inr (by simpa [nS] using h)
 |p::l,h=>by
  unfold nS at h;split at h
  ·next e=>
   rcases Gz.1 h with h|h
   ·right;rw [h,e]
   ·exact .inl (abr _ h)
  ·rcases Gz.1 h with h|h
   ·exact .inl (by rw [h];simp)
   ·rcases Pm h with h|h
    ·exact .inl (abr _ h)
    ·exact .inr h
theorem sK.aU {X:Nat->Prop} {S:Kn} {w w':World} {dm:Nat} {l:List (Nat×Value)} (h:sK X S w dm l) (hb:Below w.heap.size w w'):sK X S w' dm l:=
 ⟨h.1.later (hb.block dm h.1.lt),fun q hq=>by
  obtain ⟨u,nd,d,hu,r⟩:=h.2 q hq;exact ⟨u,nd,d,hu.aU hb,r⟩⟩
theorem sK.plain {X:Nat->Prop} {S:Kn} {w:World} {dm:Nat} {l:List (Nat×Value)} (h:sK X S w dm l):∀q∈l,Plain w q.1:=fun q hq=>by
 obtain ⟨u,_,_,hu,_⟩:=h.2 q hq;exact hu.plain
structure II (X:Nat->Prop) (U:List Lb) (S:Kn) (u:Ut) (w:World) (B:Option Addr) (bs:List Nat):Prop where
 ex:∃(xs:List Ut) (k n:Int) (fs:Fl) (tl:Option Int),inst S.σ u= .mk k n fs tl/\fs.map (·.2)=xs.map (inst S.σ)/\bs.length=xs.length/\bs.length<=200000/\(∀(i c:Nat) (x:Ut),bs[i]?=some c->xs[i]?=some x->aF X w c x)/\∀x∈xs,TG U S x/\gL (inst S.σ x)<gL (inst S.σ u)
 rd:dH X 1 lC w B bs
theorem QY {X:Nat->Prop} {U:List Lb} {S:Kn} {u:Ut} {w:World} {B:Option Addr} {bs:List Nat} (hi:S.Inv) (g:TG U S u) (hU:U.length<=100000) (h8:u.k=8->S.κ u.n=none) (hr:av u.k=false) (hB:dH X 1 lC w B bs) (hl:bs.length=u.fs.length)
  (hk:∀(i:Nat) (p:Lb×Ut) (c:Nat),u.fs[i]?=some p->bs[i]?=some c->aF X w c p.2):II X U S u w B bs:=by
 have hlen:=g.J9;obtain ⟨k,n,fs,tl⟩:=u;have hr:av k=false:=hr;have hl:bs.length=fs.length:=hl;have hlen:fs.length<=U.length+2:=hlen;by_cases h8':k=8
 ·obtain ⟨e,_⟩:=jK g.pend.1 h8'
  unfold aS at e;injection e with e1 e2 e3 e4
  subst e3 e4;have hun:=h8 h8';refine ⟨⟨[],8,n,[],none,?_,rfl,hl,by omega,fun i c x hc hx=>(by simp at hx),fun x hx=>(by cases hx)⟩,hB⟩;rw [h8',show Ut.mk 8 n [] none=aS n from rfl,aW,(hi.unk n hun).1]
 ·obtain ⟨rfl,hin⟩:=mQ (S:=S) g.pend.1 g.sh h8' hr
  refine ⟨⟨fs.map (·.2),k,n,_,none,hin,Pk _ _,by rw [aaT];exact hl,by omega,fun i c x hc hx=>?_,fun x hx=>?_⟩,hB⟩
  ·rw [adg] at hx
   cases hp:fs[i]? with
   |none=>rw [hp] at hx;cases hx
   |some p=>
    rw [hp] at hx;simp only [abg,Option.some.injEq] at hx;subst hx;exact hk i p c hp hc
  ·obtain ⟨p,hp,rfl⟩:=aaN.1 hx
   exact ⟨g.child hp,qM g.pend.1 g.sh h8' hr hp⟩
theorem Xb {X:Nat->Prop} {U:List Lb} {S:Kn} {u:Ut} {w:World} {x:Fl} {p:Option Int} {cl:List (ByteArray×Nat)} {B:Option Addr} (r:dK U S u x p) (hU:U.length<=100000) (hc:iM X w cl x) (hB:dH X 1 lC w B (cl.map (·.2))):II X U S u w B (cl.map (·.2)):=by
 have hlen:=r.len;refine ⟨⟨x.map (·.2),u.k,0,_,p,r.is,Pk _ _,by simpa using hc.1,?_,fun i c y h1 h2=>?_,fun y hy=>?_⟩,hB⟩
 ·have:=hc.1
  simp only [aaT];omega
 ·rw [adg] at h1 h2
  cases e1:cl[i]? with
  |none=>rw [e1] at h1;cases h1
  |some c1=>
   cases e2:x[i]? with
   |none=>rw [e2] at h2;cases h2
   |some p1=>
    rw [e1] at h1;rw [e2] at h2;simp only [abg,Option.some.injEq] at h1 h2;subst h1 h2;exact (hc.2 i c1 p1 e1 e2).2
 ·obtain ⟨q,hq,rfl⟩:=aaN.1 hy
  exact ⟨r.el q hq,r.less hq⟩
theorem II.aU {X:Nat->Prop} {U:List Lb} {S:Kn} {u:Ut} {w w':World} {B:Option Addr} {bs:List Nat} (h:II X U S u w B bs) (hb:Below w.heap.size w w'):II X U S u w' B bs:=by
 obtain ⟨⟨xs,k,n,fs,tl,h1,h2,h3,h4,h5,h6⟩,h7⟩:=h;exact ⟨⟨xs,k,n,fs,tl,h1,h2,h3,h4,fun i c x hc hx=>(h5 i c x hc hx).aU hb,h6⟩,h7.fr (Fr.below (X:=fun _=>False) hb) (fun _ _ e=>e.elim)⟩
def CO (w:World) (g:Nat):Prop:=∃x y t,w.heap[g]?=some (.cells #[.int .i64 x,.int .i64 y] t (0,0))
section
variable {X:Nat->Prop} {w w':World} {g dm:Nat}
theorem CO.cell (h:CO w g) (o:Nat) (v:Value) (hv:w.cell? ⟨g,o,none⟩=some v):∃n,v= .int .i64 n:=by
 obtain ⟨x,y,t,h⟩:=h;simp only [adw,h] at hv
 match o,hv with
 |0,hv=>exact ⟨x,by simpa using hv.symm⟩
 |1,hv=>exact ⟨y,by simpa using hv.symm⟩
 |o+2,hv=>simp at hv
theorem dH.Em {α:Type} {enc:α->List Value} {size:Nat} {A:Option Addr} {l:List α} (h:dH X size enc w A l) (he:∀x,∃u us,enc x=u::us/\∀n,u≠ .int .i64 n) (hg:CO w g):dH (fun k=>X k\/k=g) size enc w A l:=fun hl=>by
 obtain ⟨b,o,e,h1,h2,h3⟩:=h hl;refine ⟨b,o,e,fun hb=>?_,h2,h3⟩;rcases hb with hb|rfl
 ·exact h1 hb
 ·cases l with
  |nil=>exact hl rfl
  |cons x l=>
   obtain ⟨u,us,hx,hu⟩:=he x;have:=h3 0 x rfl 0 u (by rw [hx];rfl);obtain ⟨n,hn⟩:=hg.cell _ _ this;exact hu n hn
theorem cO.Em {v:Value} {tl:Option Int} (h:cO X w v tl) (hg:CO w g):cO (fun k=>X k\/k=g) w v tl:=by
 cases tl with
 |none=>exact h
 |some q=>
  obtain ⟨b,e,h1,h2⟩:=h;refine ⟨b,e,fun hb=>?_,h2⟩;rcases hb with hb|rfl
  ·exact h1 hb
  ·obtain ⟨x,y,t,hg⟩:=hg
   rw [hg] at h2;simp at h2
theorem aF.Em {b:Nat} {t:Ut} (h:aF X w b t) (hg:CO w g):aF (fun k=>X k\/k=g) w b t:=by
 induction h with
 |mk b k n fs tl A B ls bs ca cb tv hx hb hn hl hA hB hlen hk ht ih=>
  refine .mk b k n fs tl A B ls bs ca cb tv (fun h=>?_) hb hn hl (hA.Em (fun x=>⟨_,_,rfl,fun n e=>by cases e⟩) hg) (hB.Em (fun x=>⟨_,_,rfl,fun n e=>by cases e⟩) hg) hlen ih (ht.Em hg);rcases h with h|rfl
  ·exact hx h
  ·obtain ⟨x,y,t,hg⟩:=hg
   rw [hg] at hb;simp at hb
theorem aF.EO {b:Nat} {t:Ut} (h:aF X w b t) (hg:CO w g) (hX:X dm) (hf:Fr (fun q=>q=dm\/q=g) w w'):aF X w' b t:=
 ((h.Em hg).fr hf fun k _ e=>by
  rcases e with e|e
  ·exact .inl (e▸hX)
  ·exact .inr e).more fun k _ e=>.inl e
theorem bH.EO {s m:Nat} {first:Int} {S:Kn} (h:bH X s m first w S) (hg:CO w g) (hX:X dm) (hd:dm≠s/\dm≠m) (hgs:g≠s/\g≠m) (hf:Fr (fun q=>q=dm\/q=g) w w'):bH X s m first w' S:=by
 obtain ⟨a1,a2,a3,a4,l,a5,a6⟩:=h;refine ⟨a1,a2,a3,(hf.block s (ade.1 a4).1 fun e=>?_).trans a4,l,a5.later (hf.block m a5.lt fun e=>?_),fun n=>?_⟩
 ·rcases e with e|e
  ·exact hd.1 e.symm
  ·exact hgs.1 e.symm
 ·rcases e with e|e
  ·exact hd.2 e.symm
  ·exact hgs.2 e.symm
 ·have:=a6 n
  cases hk:S.κ n with
  |none=>rw [hk] at this;exact this
  |some t=>
   rw [hk] at this;obtain ⟨b,e,hn⟩:=this;exact ⟨b,e,hn.EO hg hX hf⟩
theorem sK.wr {S:Kn} {l:List (Nat×Value)} (h:sK X S w dm l) (hg:CO w g) (hne:g≠dm) (hf:Fr (fun q=>q=g) w w'):sK X S w' dm l:=
 ⟨h.1.later (hf.block dm h.1.lt fun e=>hne e.symm),fun q hq=>by
  obtain ⟨u,nd,d,hu,r⟩:=h.2 q hq;exact ⟨u,nd,d,((hu.Em hg).fr hf fun k _ e=>.inr e).more fun k _ e=>.inl e,r⟩⟩
theorem w_.wr {s dm c1 c2 c3:Nat} {g:Nat} (h:w_ s dm c1 c2 c3 w) (hf:Fr (fun q=>q=g) w w') (h1:c1≠g) (h2:c2≠g) (h3:c3≠g):w_ s dm c1 c2 c3 w':=
 ⟨(adN (a:=⟨c1,0,none⟩) (hf.block c1 (ae5 w _ h.s) h1)).trans h.s,(adN (a:=⟨c2,0,none⟩) (hf.block c2 (ae5 w _ h.m) h2)).trans h.m,(adN (a:=⟨c3,0,none⟩) (hf.block c3 (ae5 w _ h.f) h3)).trans h.f⟩
end
theorem EP {w1:World} {g:Nat} {x0 x1 a b:Value} {t:TypeId} (h:w1.heap[g]?=some (.cells #[x0,x1] t (0,0))):
  ((w1.setCell ⟨g,0,none⟩ a).setCell ⟨g,1,none⟩ b).heap[g]?=some (.cells #[a,b] t (0,0)):=by
 have h1:=heap_set h 0 a;have h2:=heap_set h1 1 b;simpa using h2
theorem zu {w1:World} {g:Nat} {x0 x1 a b:Value} {t:TypeId} (h:w1.heap[g]?=some (.cells #[x0,x1] t (0,0))) (o:Obj):
  (((w1.setCell ⟨g,0,none⟩ a).setCell ⟨g,1,none⟩ b).alloc o).cell? ⟨g,0,none⟩=some a/\(((w1.setCell ⟨g,0,none⟩ a).setCell ⟨g,1,none⟩ b).alloc o).cell? ⟨g,1,none⟩=some b:=by
 have h2:=EP (a:=a) (b:=b) h;have hlt:=(ade.1 h2).1;have h3:=(adM _ o g hlt).trans h2;exact ⟨by simp [adw,h3],by simp [adw,h3]⟩
theorem uH {w1:World} {g:Nat} {x0 x1 a b:Value} {t:TypeId} (h:w1.heap[g]?=some (.cells #[x0,x1] t (0,0))):
  ((w1.setCell ⟨g,0,none⟩ a).setCell ⟨g,1,none⟩ b).cell? ⟨g,0,none⟩=some a/\((w1.setCell ⟨g,0,none⟩ a).setCell ⟨g,1,none⟩ b).cell? ⟨g,1,none⟩=some b:=by
 have h2:=EP (a:=a) (b:=b) h;exact ⟨by simp [adw,h2],by simp [adw,h2]⟩
theorem aff {X:Nat->Prop} {w w1:World} {g:Nat} (h:Fr X w w1) (hg:w.heap.size<=g) (a b:Value):Fr X w ((w1.setCell ⟨g,0,none⟩ a).setCell ⟨g,1,none⟩ b):=(h.setCell (p:=⟨g,0,none⟩) (.inr hg) a).setCell (p:=⟨g,1,none⟩) (.inr hg) b
theorem Xc {wr W w5:World} {g8 g5 dm:Nat} {n' d':Int} (hf:Fr (fun q=>q=g8) wr W) (h8:W.heap[g8]?=some (.cells #[.int .i64 n',.int .i64 d'] 159 (0,0))) (h5:wr.heap[g5]?=some (.cells #[.int .i64 0,.int .i64 0] 159 (0,0))) (hne:g5≠g8) (h8d:g8≠dm) (h5d:g5≠dm) (hg:W.grownBy w5 (some dm)):
  w5.cell? ⟨g8,0,none⟩=some (.int .i64 n')/\w5.cell? ⟨g8,1,none⟩=some (.int .i64 d')/\w5.cell? ⟨g5,0,none⟩=some (.int .i64 0)/\w5.cell? ⟨g5,1,none⟩=some (.int .i64 0)/\w5.frozen? ⟨g5,0,none⟩=false/\w5.frozen? ⟨g5,1,none⟩=false/\w5.heap[g5]?=some (.cells #[.int .i64 0,.int .i64 0] 159 (0,0))/\Fr (fun q=>q=dm\/q=g8) wr w5/\w5.heap[g8]?=some (.cells #[.int .i64 n',.int .i64 d'] 159 (0,0)):=by
 have l8:=(ade.1 h8).1;have l5:=(ade.1 h5).1;have k8:=(hg.block g8 l8 fun e=>by injection e with e;exact h8d e).trans h8;have k5:=(hg.block g5 (vv l5 hf.size) fun e=>by injection e with e;exact h5d e).trans ((hf.block g5 l5 hne).trans h5);exact ⟨by simp [adw,k8],by simp [adw,k8],by simp [adw,k5],by simp [adw,k5],by simp [ad6,k5],by simp [ad6,k5],k5,(hf.mono fun k e=>.inr e).trans ((Fr.grown (X:=fun q=>q=dm\/q=g8) hg fun k hk=>.inl (by injection hk with hk;exact hk.symm))),k8⟩
theorem aaB {X:Nat->Prop} {S:Kn} {dm g8 c:Nat} {t u:Ut} {w wr w5:World} {l2:List (Nat×Value)} {n' d':Int} (hX:X dm) (hso:uG (inst S.σ t) n' d') (heq:inst S.σ t=inst S.σ u) (hsu:j_ u) (hF:Fr (fun q=>q=dm\/q=g8) w wr) (oO:w.heap.size<=g8) (hM:sK X S wr dm l2) (h8:CO wr g8)
  (hn:aF X wr c u) (hf:Fr (fun q=>q=dm\/q=g8) wr w5) (h5:CO w5 w.heap.size) (hd:dm<w.heap.size) (IE:jV pk w5 dm (nS c (IG n' d') l2)):
  EN X S dm t w (.returned (IG n' d')) ((w5.setCell ⟨w.heap.size,0,none⟩ (.int .i64 n')).setCell ⟨w.heap.size,1,none⟩ (.int .i64 d')):=by
 have hfg:Fr (fun q=>q=w.heap.size) w5 ((w5.setCell ⟨w.heap.size,0,none⟩ (.int .i64 n')).setCell ⟨w.heap.size,1,none⟩ (.int .i64 d')):=((Fr.refl (fun q=>q=w.heap.size) w5).setCell (p:=⟨w.heap.size,0,none⟩) (.inl rfl) _).setCell (p:=⟨w.heap.size,1,none⟩) (.inl rfl) _;have wU:∀(b:Nat) (v:Ut),aF X wr b v->aF X ((w5.setCell ⟨w.heap.size,0,none⟩ (.int .i64 n')).setCell ⟨w.heap.size,1,none⟩ (.int .i64 d')) b v:=fun b v h=>(((h.EO h8 hX hf).Em h5).fr hfg fun k _ e=>.inr e).more fun k _ e=>.inl e;refine ⟨n',d',rfl,hso,?_,nS c (IG n' d') l2,IE.later (hfg.block dm IE.lt fun e=>by have e:dm=w.heap.size:=e;omega),fun q hq=>?_⟩
 ·refine (Fr.refl (fun q=>q=dm) w).new (((hF.trans hf).mono fun k e=>(show (k=dm\/k=g8)\/k=w.heap.size from .inl e)).trans (hfg.mono fun k e=>.inr e)) fun k e=>?_
  rcases e with (e|e)|e
  ·exact .inl e
  ·exact .inr (by omega)
  ·exact .inr (by omega)
 ·rcases Pm hq with hq|rfl
  ·obtain ⟨v,nd,d,h1,h2⟩:=hM.2 q hq
   exact ⟨v,nd,d,wU _ _ h1,h2⟩
  ·exact ⟨u,n',d',wU _ _ hn,hsu,rfl,by rw [<-heq];exact hso⟩
theorem EN.of {X:Nat->Prop} {S:Kn} {dm:Nat} {t:Ut} {w w':World} {l:List (Nat×Value)} {nd d:Int} (hok:uG (inst S.σ t) nd d) (hI:sK X S w dm l) (hF:Fr (fun _=>False) w w'):EN X S dm t w (.returned (IG nd d)) w':=
 ⟨nd,d,rfl,hok,hF.mono fun _ e=>e.elim,l,hI.aU (hF.toBelow fun _ e=>e.elim)⟩
theorem Xd (X:Nat->Prop) (U:List Lb) (S:Kn) (s m:Nat) (first:Int) (dm c1 c2 c3:Nat) (hK:KG U S) (hU:U.length<=100000) (Uv:X dm) (hsm:dm≠s/\dm≠m) (t:Ut)
  (ih:∀x,TG U S x->gL (inst S.σ x)<gL (inst S.σ t)->QX X U S s m first dm c1 c2 c3 x):QX X U S s m first dm c1 c2 c3 t:=by
 intro b w l hX hS hb g hI hB;obtain ⟨u,hl⟩:=qL hK.rk t;obtain ⟨gu,_,eu⟩:=hl.good hK g;have HX:=aC hX;have Uj:=aC hl;have HK:=aC hK;have HS:=aC hS;have HB:=aC hb;have HG:=aC gu;have HE:=aC eu;have HI:=aC hI;have zi:=aC ih;have Cv:=aC hB;obtain ⟨x1,x2,x3⟩:=hB;obtain ⟨es0,ck0,hm0,_⟩:=hI.1;have HM0:=aC hm0;have z1:c1<w.heap.size:=ae5 w _ x1;have z2:c2<w.heap.size:=ae5 w _ x2;have z3:c3<w.heap.size:=ae5 w _ x3;clear hl hK hX hS hb g gu eu hI ih hm0;unfold pk;go_enter Try.func113,Try.ntmps113;go_wp2_with fail;have hbW:=ak (aT w.heap.size w) (.cells #[.int .i64 0,.int .i64 0] 159);have HL:=za X s m first _ S (HS.out.aU hbW) HK.out.rk b t u (HB.out.aU hbW) Uj.out;unfold pk at HL;refine HL.mono ?_;clear HL;rintro e w1 ⟨c,rfl,hc,hb1⟩;have h5:Hid (w1.heap[w.heap.size]?=some (.cells #[.int .i64 0,.int .i64 0] 159 (0,0))):=aC ((hb1.block w.heap.size (by simp)).trans (heap_alloc_new w _));have M1:=aC (Gw hc (hbW.trans (hb1.mono hbW.size)));have BX1:=aC (Cv.out.fr HM0.out (Fr.below M1.out.2));obtain ⟨y1,y2,y3⟩:=BX1.out;clear hc hb1 hbW x1 x2 x3;have HI1:=aC (HI.out.aU M1.out.2)
 have hkey:Hid (yB Try.prog 93 pk w1 c l):=aC (by
  obtain ⟨i,hi,hn⟩:=WX;exact EH Try.underlying93 hi hn M1.out.1.plain HI1.out.plain)
 cases hat:oZ c l with
 |some v=>
  obtain ⟨u',nd,d,hu',Uk,hv,hok⟩:=HI1.out.2 _ (Gc hat);have hv:v=IG nd d:=hv;subst hv;have heq:u'=u:=hu'.WC M1.out.1 Uk HG.out.sh;have hget:(oZ c l).getD (.agg #[.int .i64 0,.int .i64 0])=IG nd d:=by rw [hat];rfl
  have hsome:(oZ c l).isSome=true:=by rw [hat];rfl
  have HO:=aC (heq▸hok);clear hat hu' Uk heq hok;unfold IG at hget;have q0:w1.cell? ⟨w.heap.size,0,none⟩=some (.int .i64 0):=by simp [adw,h5.out]
  have q1:w1.cell? ⟨w.heap.size,1,none⟩=some (.int .i64 0):=by simp [adw,h5.out]
  have p0:w1.frozen? ⟨w.heap.size,0,none⟩=false:=by simp [ad6,h5.out]
  have p1:w1.frozen? ⟨w.heap.size,1,none⟩=false:=by simp [ad6,h5.out]
  have z5:w.heap.size<w1.heap.size:=(ade.1 h5.out).1;go_wp2_with (at_lookup;refine uE rfl _ _ true rfl HI1.out.1 hkey.out Try.underlying156 _ (ac9 _) rfl rfl ?_);refine bodyPost_ret (v:=.agg #[.int .i64 nd,.int .i64 d]) (by simp [results,Try.results113,go_sem,(zu h5.out _).1,(zu h5.out _).2]) rfl ?_
  exact EN.of (by rw [HE.out];exact HO.out) HI.out ((aff (Fr.below M1.out.2) (bN _) _ _).alloc _)
 |none=>
  have hget:(oZ c l).getD (.agg #[.int .i64 0,.int .i64 0])= .agg #[.int .i64 0,.int .i64 0]:=by rw [hat];rfl
  have hsome:(oZ c l).isSome=false:=by rw [hat];rfl
  have acW:=aC fun v=>Ml (v:=v) hat;clear hat;obtain ⟨A3,B3,ls,bs,ca,cb,ta,hb3,_,hl3,_,hB3,JF,hk3,ht3,_⟩:=M1.out.1.QL;have e0:w1.cell? ⟨c,0,none⟩=some (.int .i64 u.k):=by simp [adw,hb3]
  have e3:w1.cell? ⟨c,3,none⟩=some (.slice B3 bs.length cb):=by simp [adw,hb3]
  have zc:c<w1.heap.size:=(ade.1 hb3).1;have P3:=aC (Gw hB3 (Gw JF hk3));have z1':c1<w1.heap.size:=vv z1 M1.out.2.size;clear hb3 hl3 hB3 JF hk3 ht3
  go_upto_if 37 with (first
   |(at_lookup;refine uE rfl _ _ true rfl HI1.out.1 hkey.out Try.underlying156 _ (ac9 _) rfl rfl ?_)
   |(go_at_call 102;refine (yc u.k _).mono ?_;rintro e w9 ⟨rfl,rfl⟩))
  have hbw:Below w1.heap.size w1 ((w1.alloc (.cells #[.int .i64 0,.int .i64 0] 159)).alloc (.cells #[.int .i64 1,.int .i64 0] 159)):=ak (ak (aT _ _) _) _
  have h8:((w1.alloc (.cells #[.int .i64 0,.int .i64 0] 159)).alloc (.cells #[.int .i64 1,.int .i64 0] 159)).heap[w1.heap.size+1]?=some (.cells #[.int .i64 1,.int .i64 0] 159 (0,0)):=by
   rw [show w1.heap.size+1=(w1.alloc (.cells #[.int .i64 0,.int .i64 0] 159)).heap.size by simp];exact heap_alloc_new _ _
  generalize hW2:(w1.alloc (.cells #[.int .i64 0,.int .i64 0] 159)).alloc (.cells #[.int .i64 1,.int .i64 0] 159)=W2 at*;have T2:=aC (Gw hbw h8);have zg8:w1.heap.size+1<W2.heap.size:=(ade.1 h8).1;clear hW2 hbw h8 hget hsome;have BX2:=aC (BX1.out.fr (HI1.out.1.choose_spec.choose_spec.1) (Fr.below T2.out.1));clear e0 e3 y1 y2 y3;go_cut [9] (fun s9 wx=>∃B bs cb,s9= .slice B (RB bs) cb/\Hid (II X U S u wx B bs/\Below W2.heap.size W2 wx))
  case first=>as_aux_lemma=>
   cases hr:av u.k
   ·have hR:=aC hr
    go_wp2_with fail;go_meet;exact ⟨B3,bs,cb,rfl,aC ⟨(QY HK.out.inv HG.out hU (fun h=>Uj.out.end_ h) hR.out P3.out.1 P3.out.2.1 P3.out.2.2).aU T2.out.1,aT _ _⟩⟩
   ·have hR:=aC hr
    obtain ⟨bq1,_,_⟩:=BX2.out;have hrow:=Kl X U s m first W2 S ((HS.out.aU M1.out.2).aU T2.out.1) HK.out hU c u (M1.out.1.aU T2.out.1) HG.out hR.out;unfold pk at hrow;go_wp2_with fail;refine hrow.mono ?_;clear hrow;rintro e w3 ⟨A4,cap4,cl,x,p,tv,rfl,k1,k2,k3,k4,k5⟩;obtain ⟨tb,rfl⟩:=k3.ptr;have Y:=aC (Gw k1 (Gw k2 (Gw k4 k5)));have hcl:cl.length<=100000:=by have:=k1.len;have:=k2.1;omega
    clear k1 k2 k3 k4 k5 bq1;go_wp2_with fail;go_loopw [9,46] (fun s9 s46 wr=>∃(i:Nat) (B:Option Addr) (cb:Nat) (bs:List Nat),s46= .int .i64 i/\s9= .slice B bs.length cb/\i<=cl.length/\Hid (bs=(cl.take i).map (·.2)/\aA 93 1 lC wr w3.heap.size B cb bs/\Below w3.heap.size w3 wr)) (fun _ s46 _=>cl.length-(intOf s46).toNat)
    case atStart=>exact ⟨0,none,0,[],rfl,rfl,h_ _,aC ⟨by simp,aA.nil,aT _ _⟩⟩
    case round=>
     obtain ⟨i,B,Ct,Ak,rfl,rfl,hi,M⟩:=hrel;by_cases hp:i<cl.length
     ·obtain ⟨d,hd⟩:=aD (l:=cl) (i:=i) hp
      obtain ⟨gb,go,rfl,_,hgz,k0,k1⟩:=aA.at2 Y.out.2.2.1 hd;have e0:=(M.out.2.2.cell (p:=⟨gb,go+i*2,none⟩) hgz).trans k0;have e1:=(M.out.2.2.cell (p:=⟨gb,go+i*2+1,none⟩) hgz).trans k1
      have hbl:Ak.length<=100000:=by
       have:=M.out.1;rw [this];simp;omega
      have Htk:Hid ((cl.take (i+1)).map (·.2)=(cl.take i).map (·.2)++[d.2]):=aC (by rw [List.take_add_one,hd];simp);have hwz:w3.heap.size<=wr.heap.size:=M.out.2.2.size;clear hd hgz k0 k1;go_wp2_with (at_builtin;refine Gd rfl (.tmp 50) (.tmp 53) rfl w3.heap.size (l:=Ak) rfl (aA.alloc (aA.alloc M.out.2.1 _) _) (l2:=[d.2]) rfl (JE _ d.2 _ _ rfl (wr.heap.size+1) (by simp)) (by simp;omega) (by simp;omega) ?_;intro A1 c1 w4 hown1 hg1 _);have MJ:Hid (Ak++[d.2]=(cl.take (i+1)).map (·.2)/\aA 93 1 lC w4 w3.heap.size A1 c1 (Ak++[d.2])/\Below w3.heap.size w3 w4):=aC ⟨by rw [Htk.out,M.out.1],hown1,eG (ak (ak M.out.2.2 _) _) hg1 (fun q hq=>(M.out.2.1.block q hq).1)⟩;clear hown1 hg1 e0 e1;go_roundw
      case rel=>exact ⟨i+1,A1,c1,Ak++[d.2],by go_num,by simp,hp,MJ⟩
      case measure=>simp [intOf];omega
     ·go_wp2_with fail
      go_meet
      have hbe:Ak=cl.map (·.2):=by
       have:=M.out.1;rw [CK (by omega)] at this;exact this
      refine ⟨B,Ak,Ct,rfl,aC ⟨?_,Y.out.2.2.2.trans (M.out.2.2.mono Y.out.2.2.2.size)⟩⟩;rw [hbe]
      exact Xb Y.out.1 hU (Y.out.2.1.aU M.out.2.2) (by
       rw [<-hbe]
       exact dH.uF uf M.out.2.1 fun k hk _ hx=>by
        have h1:=HX.out k hx;have h2:=M1.out.2.size;have h3:=Y.out.2.2.2.size;have h4:=T2.out.1.size;omega)
  case rest=>
   obtain ⟨B5,NC,cb5,rfl,KI⟩:=hcut;obtain ⟨⟨xs,k,n,fs,tl,hin,hfs,hlen,hle,hnd,hxs⟩,krd⟩:=KI.out.1;have KC:=aC (Gw hin (Gw hfs (Gw hlen (Gw hnd (Gw hxs krd)))));have hbel:=aC (T2.out.1.trans (KI.out.2.mono T2.out.1.size));have hc8:Hid (wc.heap[w1.heap.size+1]?=some (.cells #[.int .i64 1,.int .i64 0] 159 (0,0))):=aC ((KI.out.2.block _ zg8).trans T2.out.2);have hc5:Hid (wc.heap[w.heap.size]?=some (.cells #[.int .i64 0,.int .i64 0] 159 (0,0))):=aC ((hbel.out.block _ (ade.1 h5.out).1).trans h5.out);have ac_:Hid (dm<w.heap.size):=aC HI.out.1.lt;have hwz:Hid (w.heap.size<=w1.heap.size):=aC M1.out.2.size
   have akC:Hid (w1.heap.size+1≠s/\w1.heap.size+1≠m):=aC (by
    have h1:=HX.out s HS.out.xs;have h2:=HX.out m HS.out.xm;have h3:=hwz.out;constructor<;>omega)
   clear hin hfs hlen hnd hxs krd KI P3;go_wp2_with fail;go_loopw [58] (fun s58 wr=>∃(i:Nat) (nd d:Int) (l':List (Nat×Value)),s58= .int .i64 i/\i<=NC.length/\Hid (sJ fs i nd d/\Fr (fun q=>q=dm\/q=w1.heap.size+1) wc wr/\sK X S wr dm l'/\wr.heap[w1.heap.size+1]?=some (.cells #[.int .i64 nd,.int .i64 d] 159 (0,0))/\w_ s dm c1 c2 c3 wr)) (fun s58 _=>NC.length-(intOf s58).toNat)
   case atStart=>
    obtain ⟨es1,ck1,hm1,_⟩:=HI1.out.1;exact ⟨0,1,0,l,rfl,h_ _,aC ⟨.start fs,Fr.refl _ _,HI1.out.aU hbel.out,hc8.out,BX1.out.fr hm1 (Fr.below hbel.out)⟩⟩
   case round=>
    obtain ⟨i,nd,d,l2,rfl,hi,M⟩:=hrel;have zg:w1.heap.size+1<wr.heap.size:=(ade.1 M.out.2.2.2.1).1
    have hXw:Hid (∀k,X k->k<wr.heap.size):=aC fun k hk=>by
     have h1:=HX.out k hk;have h2:=M.out.2.1.size;have h3:=hbel.out.size;have h4:=hwz.out;omega
    have akD:0<=nd/\nd<=10001/\ -9223372036854775808<=d/\d<=9223372036854775807:=by
     have h1:=M.out.1.en;have h2:=M.out.1.lo;have h3:=M.out.1.hi;omega
    by_cases hp:i<NC.length
    ·obtain ⟨c',hd⟩:=aD hp
     obtain ⟨x,hx⟩:=aD (l:=xs) (i:=i) (by rw [<-KC.out.2.2.1];exact hp);obtain ⟨pf,hpf⟩:=aD (l:=fs) (i:=i) (by have:=congrArg RB KC.out.2.1;simp only [aaT] at this;rw [this,<-KC.out.2.2.1];exact hp)
     have hpx:Hid (pf.2=inst S.σ x):=aC (by
      have:=congrArg (·[i]?) KC.out.2.1;simp only [adg,hpf,hx,abg,Option.some.injEq] at this;exact this)
     obtain ⟨bb,oo,rfl,zx,zb,zcl⟩:=(KC.out.2.2.2.2.2.Em (fun x=>⟨_,_,rfl,fun n e=>by cases e⟩) (show CO wc (w1.heap.size+1) from ⟨_,_,_,hc8.out⟩)).Iw hd
     have e1:=(adN (w:=wc) (M.out.2.1.block bb zb fun e=>zx (by
      rcases e with e|e
      ·exact .inl (e▸Uv)
      ·exact .inr e))).trans zcl
     obtain ⟨gx,sx⟩:=KC.out.2.2.2.2.1 x (Yt hx);have hNw:aF X wr c' x:=(KC.out.2.2.2.1 i c' x hd hx).EO ⟨_,_,_,hc8.out⟩ Uv M.out.2.1;have hSw:bH X s m first wr S:=((HS.out.aU M1.out.2).aU hbel.out).EO ⟨_,_,_,hc8.out⟩ Uv hsm akC.out M.out.2.1;have hcall:=aC (zi.out x gx (by rw [HE.out];exact sx) c' wr l2 hXw.out hSw hNw gx M.out.2.2.1 M.out.2.2.2.2);unfold pk at hcall;obtain ⟨_,_,y3⟩:=M.out.2.2.2.2;have Hpf:=aC hpf;clear hd hx zx zb zcl gx sx hNw hSw hpf;go_wp2_with fail;refine hcall.out.mono ?_;clear hcall;rintro e w4 ⟨QW,d1,rfl,ok1,f1,l3,m3⟩;have h4:w4.heap[w1.heap.size+1]?=some (.cells #[.int .i64 nd,.int .i64 d] 159 (0,0)):=(f1.block _ zg fun e=>by have e:w1.heap.size+1=dm:=e;have:=ac_.out;have:=hwz.out;omega).trans M.out.2.2.2.1;have q0:w4.cell? ⟨w1.heap.size+1,0,none⟩=some (.int .i64 nd):=by simp [adw,h4]
     have q1:w4.cell? ⟨w1.heap.size+1,1,none⟩=some (.int .i64 d):=by simp [adw,h4]
     have p0:w4.frozen? ⟨w1.heap.size+1,0,none⟩=false:=by simp [ad6,h4]
     have p1:w4.frozen? ⟨w1.heap.size+1,1,none⟩=false:=by simp [ad6,h4]
     have zg4:w1.heap.size+1<w4.heap.size:=(ade.1 h4).1
     have hb1:0<=QW/\QW<=10001:=by
      have h1:=ok1.en;have h2:=(Dl (inst S.σ x)).2;omega
     have hw:IntKind.i64.wrap (nd+QW)=nd+QW:=by rw [IntKind.wrap_i64];omega
     have G:=aC (Gw ok1 (Gw f1 (Gw m3 h4)));clear ok1 f1 m3 h4 y3 e1;unfold IG;go_wp2_with fail;go_roundw
     case rel=>
      have hfg:Fr (fun q=>q=w1.heap.size+1) w4 ((w4.setCell ⟨w1.heap.size+1,0,none⟩ (.int .i64 (min (nd+QW) 10001))).setCell ⟨w1.heap.size+1,1,none⟩ (.int .i64 (max d d1))):=((Fr.refl (fun q=>q=w1.heap.size+1) w4).setCell (p:=⟨w1.heap.size+1,0,none⟩) (.inl rfl) _).setCell (p:=⟨w1.heap.size+1,1,none⟩) (.inl rfl) _;have hne:w1.heap.size+1≠dm:=by have:=ac_.out;have:=hwz.out;omega
      have hmb:=M.out.2.2.2.2;have hm4:=G.out.2.2.1.1;obtain ⟨es1,ck1,hm1,_⟩:=M.out.2.2.1.1;have akF:=hwz.out;refine ⟨i+1,min (nd+QW) 10001,max d d1,l3,by go_num,hp,aC ⟨M.out.1.next Hpf.out (by rw [hpx.out];exact G.out.1),?_,?_,?_,?_⟩⟩
      ·exact ((M.out.2.1.trans (G.out.2.1.mono fun k e=>.inl e)).trans (hfg.mono fun k e=>.inr e)).alloc _
      ·exact (G.out.2.2.1.wr ⟨_,_,_,G.out.2.2.2⟩ hne hfg).aU (ak (aT _ _) _)
      ·exact (adM _ _ _ (by simpa using zg4)).trans (EP G.out.2.2.2)
      ·exact ((hmb.fr hm1 G.out.2.1).wr hfg (by omega) (by omega) (by omega)).aU (ak (aT _ _) _)
     case measure=>simp [intOf];omega
    ·have HD:=aC (M.out.1)
     have h8:=M.out.2.2.2.1;have q0:wr.cell? ⟨w1.heap.size+1,0,none⟩=some (.int .i64 nd):=by simp [adw,h8]
     have q1:wr.cell? ⟨w1.heap.size+1,1,none⟩=some (.int .i64 d):=by simp [adw,h8]
     have p0:wr.frozen? ⟨w1.heap.size+1,0,none⟩=false:=by simp [ad6,h8]
     have p1:wr.frozen? ⟨w1.heap.size+1,1,none⟩=false:=by simp [ad6,h8]
     obtain ⟨_,y2,_⟩:=M.out.2.2.2.2;have akF:=hwz.out;have hdd:=ac_.out;have hc2:c2≠w1.heap.size+1:=by omega
     have hc2':w1.heap.size+1≠c2:=by omega
     have hfl:fs.length=NC.length:=by
      have:=congrArg RB KC.out.2.1;simp only [aaT] at this;rw [this,KC.out.2.2.1]
     have hib:i=fs.length:=by omega
     have hst:=aC ((hib▸HD.out:sJ fs fs.length nd d).stop (k:=k) (n:=n) (tl:=tl));have h5r:Hid (wr.heap[w.heap.size]?=some (.cells #[.int .i64 0,.int .i64 0] 159 (0,0))):=aC ((M.out.2.1.block _ (ade.1 hc5.out).1 fun e=>by rcases e with e|e<;>omega).trans hc5.out)
     have HW:Hid (∀W,Fr (fun q=>q=w1.heap.size+1) wr W->jV pk W dm l2/\yB Try.prog 93 pk W c l2):=aC fun W hW=>by
      have hmw:=M.out.2.2.1.wr ⟨_,_,_,M.out.2.2.2.1⟩ (by omega) hW;have hcn:aF X W c u:=(((M1.out.1.aU hbel.out).EO ⟨_,_,_,hc8.out⟩ Uv M.out.2.1).Em ⟨_,_,_,M.out.2.2.2.1⟩ |>.fr hW fun k _ e=>.inr e).more fun k _ e=>.inl e;obtain ⟨i,hi,hn⟩:=WX;exact ⟨hmw.1,EH Try.underlying93 hi hn hcn.plain hmw.plain⟩
     have HEF:=aC (fun (W w5:World) (n' d':Int) (hf:Fr (fun q=>q=w1.heap.size+1) wr W) (h8:W.heap[w1.heap.size+1]?=some (.cells #[.int .i64 n',.int .i64 d'] 159 (0,0))) (hg:W.grownBy w5 (some dm))=>Xc (g5:=w.heap.size) hf h8 h5r.out (by omega) (by omega) (by omega) hg);have HS8:Hid (∀v,(wr.setCell ⟨w1.heap.size+1,1,none⟩ (.int .i64 v)).heap[w1.heap.size+1]?=some (.cells #[.int .i64 nd,.int .i64 v] 159 (0,0))):=aC fun v=>by simpa using heap_set M.out.2.2.2.1 1 (.int .i64 v)
     have HT8:Hid (∀v z,((wr.setCell ⟨w1.heap.size+1,1,none⟩ (.int .i64 v)).setCell ⟨w1.heap.size+1,0,none⟩ (.int .i64 z)).heap[w1.heap.size+1]?=some (.cells #[.int .i64 z,.int .i64 v] 159 (0,0))):=aC fun v z=>by simpa using heap_set (HS8.out v) 0 (.int .i64 z)
     clear h8 akD
     have FIN:Hid (∀(n' d':Int) (w5:World),uG (inst S.σ t) n' d'->Fr (fun q=>q=dm\/q=w1.heap.size+1) wr w5->w5.heap[w.heap.size]?=some (.cells #[.int .i64 0,.int .i64 0] 159 (0,0))->jV pk w5 dm (nS c (IG n' d') l2)->
       EN X S dm t w (.returned (IG n' d')) ((w5.setCell ⟨w.heap.size,0,none⟩ (.int .i64 n')).setCell ⟨w.heap.size,1,none⟩ (.int .i64 d'))):=aC fun n' d' w5 hso hf h5' IE=>
      aaB Uv hso HE.out HG.out.sh (((Fr.below M1.out.2).trans (Fr.below hbel.out)).trans M.out.2.1) (by omega) M.out.2.2.1 ⟨_,_,_,M.out.2.2.2.1⟩ ((M1.out.1.aU hbel.out).EO ⟨_,_,_,hc8.out⟩ Uv M.out.2.1) hf ⟨_,_,_,h5'⟩ hdd IE
     obtain ⟨d2,hd2⟩:∃d2,wrap64 (d+1)=d2:=⟨_,rfl⟩;have hst:Hid (uG (.mk k n fs tl) (if 50<fs.length then 10001 else nd) d2):=aC (by rw [<-hd2];exact hst.out);by_cases h50:50<NC.length
     ·have akI:decide (50<NC.length)=true:=decide_eq_true h50
      go_wp2_with (refine sw rfl _ _ _ rfl (HW.out _ (((Fr.refl (fun q=>q=w1.heap.size+1) wr).setCell (p:=⟨w1.heap.size+1,1,none⟩) (.inl rfl) _).setCell (p:=⟨w1.heap.size+1,0,none⟩) (.inl rfl) _)).1 (HW.out _ (((Fr.refl (fun q=>q=w1.heap.size+1) wr).setCell (p:=⟨w1.heap.size+1,1,none⟩) (.inl rfl) _).setCell (p:=⟨w1.heap.size+1,0,none⟩) (.inl rfl) _)).2 Try.underlying156 (.agg #[.int .i64 10001,.int .i64 d2]) rfl rfl rfl ?_;intro w5 IE hg5;obtain ⟨r0,r1,r2,r3,r4,r5,r6,r7,r8⟩:=HEF.out _ _ _ _ (((Fr.refl (fun q=>q=w1.heap.size+1) wr).setCell (p:=⟨w1.heap.size+1,1,none⟩) (.inl rfl) _).setCell (p:=⟨w1.heap.size+1,0,none⟩) (.inl rfl) _) (HT8.out _ _) hg5;have Z5:=aC (Gw IE (Gw r6 (Gw r7 r8)));clear IE hg5 r6 r7 r8);refine bodyPost_ret (v:=.agg #[.int .i64 10001,.int .i64 d2]) (by simp [results,Try.results113,go_sem,(uH Z5.out.2.1).1,(uH Z5.out.2.1).2]) rfl ?_
      have hso:uG (inst S.σ t) 10001 d2:=by
       have h1:=hst.out;rw [hfl,if_pos h50] at h1;rw [HE.out,KC.out.1];exact h1
      exact FIN.out _ _ w5 hso Z5.out.2.2.1 Z5.out.2.1 Z5.out.1
     ·have akI:decide (50<NC.length)=false:=decide_eq_false h50
      go_wp2_with (refine sw rfl _ _ _ rfl (HW.out _ ((Fr.refl (fun q=>q=w1.heap.size+1) wr).setCell (p:=⟨w1.heap.size+1,1,none⟩) (.inl rfl) _)).1 (HW.out _ ((Fr.refl (fun q=>q=w1.heap.size+1) wr).setCell (p:=⟨w1.heap.size+1,1,none⟩) (.inl rfl) _)).2 Try.underlying156 (.agg #[.int .i64 nd,.int .i64 d2]) rfl rfl rfl ?_;intro w5 IE hg5;obtain ⟨r0,r1,r2,r3,r4,r5,r6,r7,r8⟩:=HEF.out _ _ _ _ ((Fr.refl (fun q=>q=w1.heap.size+1) wr).setCell (p:=⟨w1.heap.size+1,1,none⟩) (.inl rfl) _) (HS8.out _) hg5;have Z5:=aC (Gw IE (Gw r6 (Gw r7 r8)));clear IE hg5 r6 r7 r8);refine bodyPost_ret (v:=.agg #[.int .i64 nd,.int .i64 d2]) (by simp [results,Try.results113,go_sem,(uH Z5.out.2.1).1,(uH Z5.out.2.1).2]) rfl ?_
      have hso:uG (inst S.σ t) nd d2:=by
       have h1:=hst.out;rw [hfl,if_neg h50] at h1;rw [HE.out,KC.out.1];exact h1
      exact FIN.out _ _ w5 hso Z5.out.2.2.1 Z5.out.2.1 Z5.out.1
theorem aaC (X:Nat->Prop) (U:List Lb) (S:Kn) (s m:Nat) (first:Int) (dm c1 c2 c3:Nat) (hK:KG U S) (hU:U.length<=100000) (Uv:X dm) (hsm:dm≠s/\dm≠m):∀(n:Nat) (t:Ut),gL (inst S.σ t)<=n->QX X U S s m first dm c1 c2 c3 t:=by
 intro n
 induction n with
 |zero=>
  intro t ht
  cases h:inst S.σ t with
  |mk k n fs tl=>
   rw [h,rM] at ht
   omega
 |succ n ih=>exact fun t ht=>Xd X U S s m first dm c1 c2 c3 hK hU Uv hsm t fun x _ hx=>ih x (by omega)
def Blk (A:Option Addr):Nat->Prop:=fun k=>∃a,A=some a/\a.block=k
structure Gr (A:Option Addr) (w:World) (A':Option Addr) (w':World):Prop where
 fr:Fr (Blk A) w w'
 gro:∀a',A'=some a'->Blk A a'.block\/w.heap.size<=a'.block
section
variable {A A1 A2 A':Option Addr} {w w1 w2 w':World}
theorem Gr.trans (h:Gr A w A1 w1) (k:Gr A1 w1 A2 w2):Gr A w A2 w2:=
 ⟨h.fr.new k.fr fun b ⟨a,ha,hb⟩=>by rw [<-hb];exact h.gro a ha,fun a ha=>by
  rcases k.gro a ha with ⟨a1,h1,h2⟩|h3
  ·rw [<-h2];exact h.gro a1 h1
  ·exact .inr (Nat.le_trans h.fr.size h3)⟩
theorem Gr.aU (h:Below w.heap.size w w'):Gr A w A w':=⟨Fr.below h,fun a h=>.inl ⟨a,h,rfl⟩⟩
theorem Gr.app {n c n' c':Nat} (hg:w.grownBy w' ((aO A n c).ownBlock)) (hA:(aO A' n' c').ownBlock=(aO A n c).ownBlock\/(aO A' n' c').ownBlock=some w.heap.size):Gr A w A' w':=
 ⟨Fr.grown hg fun k hk=>bA hk,fun a ha=>by
  subst ha;rcases hA with e|e
  ·obtain ⟨a2,h2,h3⟩:=bA e.symm
   exact .inl ⟨a2,h2,h3⟩
  ·rw [ku] at e
   injection e with e
   exact .inr (by omega)⟩
end
def TX (base s m:Nat):Nat->Prop:=fun k=>SX s m k\/base<=k
structure uj (U:List Lb) (S:Kn) (s m:Nat) (first:Int) (base:Nat) (A:Option Addr) (c:Nat) (out:List Nd) (w:World):Prop where
 sb:s<base/\m<base
 bw:base<=w.heap.size
 lg:bH (TX base s m) s m first w S
 own:fA w base A c out
section
variable {U:List Lb} {S:Kn} {s m:Nat} {first:Int} {base:Nat} {A A':Option Addr} {c c':Nat} {out out':List Nd} {w w':World}
theorem uj.blk (h:uj U S s m first base A c out w):∀k,Blk A k->base<=k:=fun k ⟨a,ha,hk⟩=>by rw [<-hk];exact (aA.lt h.own a ha).1
theorem uj.next (h:uj U S s m first base A c out w) (g:Gr A w A' w') (ho:fA w' base A' c' out'):uj U S s m first base A' c' out' w':=
 ⟨h.sb,Nat.le_trans h.bw g.fr.size,h.lg.fr g.fr fun k _ hk=>⟨.inr (h.blk k hk),by have:=h.blk k hk;have:=h.sb;omega,by have:=h.blk k hk;have:=h.sb;omega⟩,ho⟩
theorem uj.node (h:uj U S s m first base A c out w) (g:Gr A w A' w') {b:Nat} {t:Ut} (hn:aF (TX base s m) w b t):aF (TX base s m) w' b t:=hn.fr g.fr fun k _ hk=>.inr (h.blk k hk)
theorem uj.tail (h:uj U S s m first base A c out w) (g:Gr A w A' w') {v:Value} {p:Option Int} (hn:cO (TX base s m) w v p):cO (TX base s m) w' v p:=hn.fr g.fr fun k _ hk=>.inr (h.blk k hk)
theorem uj.aU (h:uj U S s m first base A c out w) (hb:Below w.heap.size w w'):uj U S s m first base A c out w':=h.next (Gr.aU hb) (h.own.below hb (bN _))
end
def DK (base:Nat) (A:Option Addr) (out:List Nd) (l:Lb) (T:Ut) (w:World) (e:Ending) (w':World):Prop:=
 ∃A' c',e= .returned (.slice A' (out++aB l T).length c')/\fA w' base A' c' (out++aB l T)/\Gr A w A' w'
def QZ (U:List Lb) (S:Kn) (s m:Nat) (first:Int) (base:Nat) (t:Ut):Prop:=
 ∀(b:Nat) (w:World) (A:Option Addr) (c:Nat) (out:List Nd) (l:Lb),uj U S s m first base A c out w->aF (TX base s m) w b t->TG U S t->out.length+(aB l (inst S.σ t)).length<=1000000000->
  Calls Try.prog 57 #[pk s,.slice A out.length c,.string l,pk b] w (DK base A out l (inst S.σ t) w)
theorem aaD {U:List Lb} {S:Kn} {u:Ut} (hi:S.Inv) (g:TG U S u) (h8:u.k=8->S.κ u.n=none) (hr:av u.k=false) (l:Lb):
  aB l (inst S.σ u)=⟨u.k,l,u.n⟩::jU false (aI (inst S.σ) u.fs)/\∀p∈u.fs,TG U S p.2/\gL (inst S.σ p.2)<gL (inst S.σ u):=by
 obtain ⟨k,n,fs,tl⟩:=u;have hr:av k=false:=hr;by_cases h8':k=8
 ·obtain ⟨e,_⟩:=jK g.pend.1 h8'
  unfold aS at e;injection e with e1 e2 e3 e4
  subst e3 e4;have hun:=h8 h8';refine ⟨?_,fun p hp=>by cases hp⟩;rw [h8',show Ut.mk 8 n [] none=aS n from rfl,aW,(hi.unk n hun).1];show aB l (.mk 8 n [] none)=_;rw [bY,if_neg (by decide)];rfl
 ·obtain ⟨rfl,hin⟩:=mQ (S:=S) g.pend.1 g.sh h8' hr
  refine ⟨?_,fun p hp=>⟨g.child hp,qM g.pend.1 g.sh h8' hr hp⟩⟩;have hr':av k=false:=hr;rw [hin,bY,if_neg (by rw [hr'];simp)];rfl
theorem afh {U:List Lb} {S:Kn} {u:Ut} {x:Fl} {p:Option Int} (hr:av u.k=true) (r:dK U S u x p) (l:Lb):
  aB l (inst S.σ u)=⟨u.k,l,(x.length+(aP p).length:Nat)⟩::(jU true (aI (inst S.σ) x)++aP p):=by
 rw [r.is,bY,if_pos hr,fO];rfl
theorem aaE (w:World) (x:Nd) (H:Nat) (hH:w.heap.size=H):aM (w.alloc (.cells #[.int .i64 x.k,.string x.s,.int .i64 x.n] 48)) (H+1) (some ⟨H,0,none⟩) [x]:=by
 subst hH;exact BD w x
theorem Pn {f:Ut->Ut} {fs:Fl} {i:Nat} {p:Lb×Ut} (h:fs[i]?=some p):(aI f fs)[i]?=some (p.1,f p.2):=by
 unfold aI;rw [adg,h];rfl
theorem Xe (U:List Lb) (S:Kn) (s m:Nat) (first:Int) (base:Nat) (hK:KG U S) (hU:U.length<=100000) (t:Ut)
  (ih:∀x,TG U S x->gL (inst S.σ x)<gL (inst S.σ t)->QZ U S s m first base x):QZ U S s m first base t:=by
 intro b w A c out l hW hb g hlen;obtain ⟨u,hl⟩:=qL hK.rk t;obtain ⟨gu,_,eu⟩:=hl.good hK g;rw [eu] at hlen;have Uj:=aC hl;have HK:=aC hK;have HW:=aC hW;have HB:=aC hb;have HG:=aC gu;have HE:=aC eu;have zi:=aC ih;have HLEN:=aC hlen;have hol:out.length<=1000000000:=by omega
 clear hl hK hW hb g gu eu ih hlen;unfold pk;go_enter Try.func57,Try.ntmps57;go_wp2_with fail;have HL:=za (TX base s m) s m first w S HW.out.lg HK.out.rk b t u HB.out Uj.out;unfold pk at HL;refine HL.mono ?_;clear HL;rintro e w1 ⟨d,rfl,hd,hb1⟩;have M1:=aC (Gw hd hb1);have W1:=aC (HW.out.aU hb1);obtain ⟨A3,B3,ls,bs,ca,cb,ta,hb3,_,hl3,_,hB3,JF,hk3,ht3,hnx⟩:=hd.QL;have e0:w1.cell? ⟨d,0,none⟩=some (.int .i64 u.k):=by simp [adw,hb3]
 have e1:w1.cell? ⟨d,1,none⟩=some (.int .i64 u.n):=by simp [adw,hb3]
 have e3:w1.cell? ⟨d,3,none⟩=some (.slice B3 bs.length cb):=by simp [adw,hb3]
 have zd:d<w1.heap.size:=(ade.1 hb3).1;have P3:=aC (Gw hB3 (Gw JF (Gw hk3 (Gw hb3 hnx))));clear hd hb1 hb3 hl3 hB3 JF hk3 ht3 hnx;go_wp2_with fail;refine (yc u.k w1).mono ?_;rintro e w9 ⟨rfl,rfl⟩
 cases hr:av u.k with
 |false=>
  have hbl:bs.length<=200000:=by have:=HG.out.J9;have:=P3.out.2.1;omega
  obtain ⟨hfl,hch⟩:=aaD HK.out.inv HG.out (fun h=>Uj.out.end_ h) hr l;have HFL:=aC hfl;have HCH:=aC hch;have HR:=aC hr
  have uX:out.length+(1+(jU false (aI (inst S.σ) u.fs)).length)<=1000000000:=by
   have:=HLEN.out;rw [HFL.out] at this;simp only [Bl] at this;omega
  have Bc:Hid (∀v,Fr (Blk A) w1 v->v.cell? ⟨d,0,none⟩=some (.int .i64 u.k)/\v.cell? ⟨d,1,none⟩=some (.int .i64 u.n)):=aC fun v hv=>by
   have h:=hv.block d zd fun h=>P3.out.2.2.2.2 (.inr (W1.out.blk _ h));exact ⟨(adN (a:=⟨d,0,none⟩) h).trans e0,(adN (a:=⟨d,1,none⟩) h).trans e1⟩
  clear hfl hch hr;go_wp2_with fail;go_cut [1] (fun s1 wx=>∃(A2:Option Addr) (c2:Nat),s1= .slice A2 (out.length+1) c2/\Hid (fA wx base A2 c2 (out++[⟨u.k,l,u.n⟩])/\Gr A w1 A2 wx))
  case first=>as_aux_lemma=>
   go_region_held3 (fun v=>v.cell? ⟨d,0,none⟩=some (.int .i64 u.k)/\v.cell? ⟨d,1,none⟩=some (.int .i64 u.n))
    (first
     |exact Bc.out _ (Fr.below (ak (aT _ _) _))
     |exact Bc.out _ (Fr.below (ak (aT _ _) _).drew)
     |exact Bc.out _ (Fr.below (aT _ _).drew)
     |exact Bc.out _ G2.out.2.fr)
    (first
     |(refine wL (by rfl) _ _ (by rfl) base (l:=out) (by rfl) (W1.out.aU (by first|exact (ak (aT _ _) _).drew|exact ak (aT _ _).drew _|exact ak (aT _ _) _)).own (l2:=[⟨u.k,l,u.n⟩]) (A2:=some ⟨w1.heap.size,0,none⟩) (c:=1) (B:=w1.heap.size+1) (by rfl) (BD w1 ⟨u.k,l,u.n⟩).drew (by simp;omega) (by have:=W1.out.bw;simp;omega) ?_;intro A2 c2 w2 hown2 hg2 hA2;have G2:=aC (Gw hown2 ((Gr.aU (by first|exact (ak (aT _ _) _).drew|exact ak (aT _ _).drew _|exact ak (aT _ _) _)).trans (Gr.app hg2 hA2)));clear hown2 hg2 hA2))
   all_goals
    go_wp2_with fail;go_meet;exact ⟨A2,c2,rfl,G2⟩
  case rest=>
   obtain ⟨A2,c2,rfl,G2⟩:=hcut;have q3:wc.cell? ⟨d,3,none⟩=some (.slice B3 bs.length cb):=(adN (a:=⟨d,3,none⟩) (G2.out.2.fr.block d zd fun h=>P3.out.2.2.2.2 (.inr (W1.out.blk _ h)))).trans e3;have zd2:d<wc.heap.size:=vv zd G2.out.2.fr.size;clear e0 e1 e3;have hx1:(out++[(⟨u.k,l,u.n⟩:Nd)]).length=out.length+1:=by simp
   rw [<-hx1];go_wp2_with fail;go_loopw [1,43] (fun s1 s43 wr=>∃(i:Nat) (A4:Option Addr) (c4:Nat) (o4:List Nd),s43= .int .i64 i/\s1= .slice A4 o4.length c4/\i<=bs.length/\Hid (o4=out++⟨u.k,l,u.n⟩::jU false ((aI (inst S.σ) u.fs).take i))/\Hid (fA wr base A4 c4 o4/\Gr A w1 A4 wr)) (fun _ s43 _=>bs.length-(intOf s43).toNat)
   case atStart=>exact ⟨0,A2,c2,_,rfl,rfl,h_ _,aC (by rw [ae6,Tk]),G2⟩
   case round=>
    obtain ⟨i,A4,c4,o4,rfl,rfl,hi,HO,M⟩:=hrel;by_cases hp:i<bs.length
    ·obtain ⟨c',hc'⟩:=aD hp
     obtain ⟨p,hpf⟩:=aD (l:=u.fs) (i:=i) (by rw [<-P3.out.2.1];exact hp);obtain ⟨bb,oo,rfl,_,zb,cc⟩:=(P3.out.1.fr M.out.2.fr fun k _ hk=>.inr (W1.out.blk k hk)).Iw hc';obtain ⟨gp,sp⟩:=HCH.out p (Yt hpf);have W4:=W1.out.next M.out.2 M.out.1
     have hstep:Hid (o4++aB pR (inst S.σ p.2)=out++⟨u.k,l,u.n⟩::jU false ((aI (inst S.σ) u.fs).take (i+1))):=aC (by
      rw [HO.out,Ho (Pn hpf)];simp)
     have hl4:o4.length+(aB pR (inst S.σ p.2)).length<=1000000000:=by
      have h1:=congrArg RB hstep.out;have h2:=Qk false (aI (inst S.σ) u.fs) (i+1);simp only [A_,Bl] at h1;omega
     have hcall:=aC (zi.out p.2 gp (by rw [HE.out];exact sp) c' wr A4 c4 o4 pR W4 (W1.out.node M.out.2 (P3.out.2.2.1 i p c' hpf hc')) gp hl4);unfold pk at hcall;clear hc' hpf gp sp W4 hl4;go_wp2_with fail;refine hcall.out.mono ?_;clear hcall;rintro e w5 ⟨A6,c6,rfl,ho6,g6⟩;have G6:=aC (Gw ho6 (M.out.2.trans g6));clear ho6 g6;go_wp2_with fail;go_roundw
     case rel=>exact ⟨i+1,A6,c6,_,by go_num,by simp,hp,hstep,G6⟩
     case measure=>simp [intOf];omega
    ·have hib:i=u.fs.length:=by rw [<-P3.out.2.1];omega
     have hfin:Hid (o4=out++aB l (inst S.σ t)):=aC (by
      rw [HO.out,HE.out,HFL.out,CK (by rw [fO];omega)])
     clear hib;go_wp2_with fail;go_ret;unfold DK;rw [<-hfin.out]
     exact ⟨A4,c4,rfl,M.out.1,(Gr.aU M1.out.2).trans M.out.2⟩
 |true=>
  have HR:=aC hr;have hrow:=Kl (TX base s m) U s m first w1 S W1.out.lg HK.out hU d u M1.out.1 HG.out hr;unfold pk at hrow;clear hr e3;go_wp2_with fail;refine hrow.mono ?_;clear hrow;rintro e w3 ⟨A4,cap4,cl,x,p,tv,rfl,k1,k2,k3,k4,k5⟩;obtain ⟨tb,rfl⟩:=k3.ptr;have Y:=aC (Gw k1 (Gw k2 (Gw k3 (Gw k4 k5))));have HFL:=aC (afh HR.out k1 l);have hcx:Hid (cl.length=x.length):=aC k2.1;have hcl:cl.length<=100000:=by have:=k1.len;have:=k2.1;omega
  have W3:=aC (W1.out.aU k5);have q0:w3.cell? ⟨d,0,none⟩=some (.int .i64 u.k):=(k5.cell (p:=⟨d,0,none⟩) zd).trans e0;have zd3:d<w3.heap.size:=vv zd k5.size
  have uX:out.length+(1+((jU true (aI (inst S.σ) x)).length+(aP p).length))<=1000000000:=by
   have:=HLEN.out;rw [HFL.out] at this;simp only [Bl,A_] at this;omega
  clear k1 k2 k3 k4 k5 e0 e1;go_wp2_with (at_builtin;refine eH rfl (.tmp 61) (.tmp 70) rfl base (l:=out) rfl (W3.out.aU (ak (aT _ _) _)).own (l2:=[⟨u.k,l,(cl.length:Int)⟩]) rfl (BD _ ⟨u.k,l,(cl.length:Int)⟩) (by simp;omega) (by have:=W3.out.bw;simp;omega) ?_;intro A2 c2 w4 hown2 hg2 hA2;have G2:=aC (Gw hown2 ((Gr.aU (ak (aT w3.heap.size w3) _)).trans (Gr.app hg2 hA2)));clear hown2 hg2 hA2);go_loopw [1,74] (fun s1 s74 wr=>∃(i:Nat) (A4:Option Addr) (c4:Nat) (o4:List Nd),s74= .int .i64 i/\s1= .slice A4 o4.length c4/\i<=cl.length/\Hid (o4=out++⟨u.k,l,(cl.length:Int)⟩::jU true ((aI (inst S.σ) x).take i))/\Hid (fA wr base A4 c4 o4/\Gr A w3 A4 wr)) (fun _ s74 _=>cl.length-(intOf s74).toNat)
  case atStart=>exact ⟨0,A2,c2,_,rfl,by simp,h_ _,aC (by rw [ae6,Tk]),G2⟩
  case round=>
   obtain ⟨i,A5,c5,o5,rfl,rfl,hi,HO,M⟩:=hrel;by_cases hp:i<cl.length
   ·obtain ⟨d1,hd1⟩:=aD (l:=cl) (i:=i) hp
    obtain ⟨pf,hpf⟩:=aD (l:=x) (i:=i) (by rw [<-hcx.out];exact hp);obtain ⟨gb,go,rfl,hgl,hgz,k0,k1⟩:=aA.at2 Y.out.2.2.2.1 hd1
    have hnb:¬Blk A gb:=fun ⟨a,ha,hk⟩=>by
     have:=(aA.lt W1.out.own a ha).2;omega
    have e0:=(adN (a:=⟨gb,go+i*2,none⟩) (M.out.2.fr.block gb hgz hnb)).trans k0;have e1:=(adN (a:=⟨gb,go+i*2+1,none⟩) (M.out.2.fr.block gb hgz hnb)).trans k1;have hgr:gb<wr.heap.size:=vv hgz M.out.2.fr.size;obtain ⟨hlab,hnd⟩:=Y.out.2.1.2 i d1 pf hd1 hpf;have gp:=Y.out.1.el pf (Yt hpf);have sp:=Y.out.1.less (Yt hpf);have W4:=W3.out.next M.out.2 M.out.1
    have hstep:Hid (o5++aB d1.1 (inst S.σ pf.2)=out++⟨u.k,l,(cl.length:Int)⟩::jU true ((aI (inst S.σ) x).take (i+1))):=aC (by
     rw [HO.out,Ho (Pn hpf),hlab];simp)
    have hl4:o5.length+(aB d1.1 (inst S.σ pf.2)).length<=1000000000:=by
     have h1:=congrArg RB hstep.out;have h2:=Qk true (aI (inst S.σ) x) (i+1);simp only [A_,Bl] at h1;omega
    have J3:Below wr.heap.size wr (wr.alloc (.cells #[.string d1.1,.pointer (some ⟨d1.2,0,none⟩)] 150)):=ak (aT _ _) _;have hcall:=aC (zi.out pf.2 gp (by rw [HE.out];exact sp) d1.2 _ A5 c5 o5 d1.1 (W4.aU J3) ((W3.out.node M.out.2 hnd).aU J3) gp hl4);have HBA:=aC J3;unfold pk at hcall;clear hd1 hpf gp sp W4 hl4 hlab hnd k0 k1 hnb J3 hgl hgz;go_wp2_with fail;refine hcall.out.mono ?_;clear hcall;rintro e w5 ⟨A6,c6,rfl,ho6,g6⟩;have G6:=aC (Gw ho6 (M.out.2.trans ((Gr.aU HBA.out).trans g6)));clear ho6 g6;go_wp2_with fail;go_roundw
    case rel=>exact ⟨i+1,A6,c6,_,by go_num,by simp,hp,hstep,G6⟩
    case measure=>simp [intOf];omega
   ·have hib:i=x.length:=by rw [<-hcx.out];omega
    have hfin:Hid (o5=out++⟨u.k,l,(cl.length:Int)⟩::jU true (aI (inst S.σ) x)):=aC (by
     rw [HO.out,CK (by rw [fO];omega)])
    clear hib HO
    cases p with
    |none=>
     have htb:tb=none:=by
      have:=Y.out.2.2.1;unfold cO at this;injection this
     subst htb
     have hres:Hid (o5=out++aB l (inst S.σ t)):=aC (by
      rw [hfin.out,HE.out,HFL.out,<-hcx.out];simp [aP])
     go_wp2_with fail;go_ret;unfold DK;rw [<-hres.out]
     exact ⟨A5,c5,rfl,M.out.1,(Gr.aU (ah M1.out.2 Y.out.2.2.2.2)).trans M.out.2⟩
    |some q=>
     obtain ⟨tb0,htb,hnt,hbt⟩:=W3.out.tail M.out.2 Y.out.2.2.1;unfold pk at htb;injection htb with htb
     subst htb;have hat:o5[out.length]?=some ⟨u.k,l,(cl.length:Int)⟩:=by rw [hfin.out];simp
     have En:=bf hat;obtain ⟨g,rfl,hbg,hgz,cg,fg,hown,hgg⟩:=aA.Fg M.out.1 hat ((cl.length:Int)+1);have htg:tb0≠g:=fun e=>hnt (.inr (by omega));have T1:wr.cell? ⟨tb0,1,none⟩=some (.int .i64 q):=by simp [adw,hbt]
     have zt:tb0<wr.heap.size:=(ade.1 hbt).1
     have apf:o5.length<=1000000000:=by
      have:=congrArg RB hfin.out;simp only [A_,Bl] at this;omega
     have G7:=aC (Gw hown (M.out.2.trans (show Gr (some ⟨g,0,none⟩) wr (some ⟨g,0,none⟩) (wr.setCell ⟨g,out.length*3+2,none⟩ (.int .i64 ((cl.length:Int)+1))) from ⟨Fr.grown hgg fun k hk=>⟨_,rfl,by injection hk⟩,fun a ha=>.inl ⟨_,rfl,by injection ha with ha;rw [<-ha]⟩⟩)))
     have hres:Hid ((o5.set out.length ⟨u.k,l,((cl.length:Int)+1)⟩)++[⟨9,pR,q⟩]=out++aB l (inst S.σ t)):=aC (by
      rw [hfin.out,HE.out,HFL.out,<-hcx.out];simp [aP])
     clear hat hown hgg hbt;go_wp2_with (at_builtin;refine eH rfl (.tmp 96) (.tmp 102) rfl base (l:=o5.set out.length ⟨u.k,l,((cl.length:Int)+1)⟩) (by rw [List.length_set];rfl) (aA.alloc G7.out.1 _) (l2:=[⟨9,pR,q⟩]) rfl (aaE _ ⟨9,pR,q⟩ wr.heap.size (by simp)) (by simp;omega) (by have:=W1.out.bw;have:=G7.out.2.fr.size;have:=Y.out.2.2.2.2.size;simp;omega) ?_;intro A7 c7 w7 oH vo Xf;have G8:=aC (Gw oH (G7.out.2.trans ((Gr.aU (ak (aT _ _) _)).trans (Gr.app vo Xf))));clear oH vo Xf);go_ret;unfold DK;rw [<-hres.out];exact ⟨A7,c7,by simp,G8.out.1,(Gr.aU (ah M1.out.2 Y.out.2.2.2.2)).trans G8.out.2⟩
theorem aaG (U:List Lb) (S:Kn) (s m:Nat) (first:Int) (base:Nat) (hK:KG U S) (hU:U.length<=100000):∀(n:Nat) (t:Ut),gL (inst S.σ t)<=n->QZ U S s m first base t:=by
 intro n
 induction n with
 |zero=>
  intro t ht
  cases h:inst S.σ t with
  |mk k n fs tl=>
   rw [h,rM] at ht
   omega
 |succ n ih=>exact fun t ht=>Xe U S s m first base hK hU t fun x _ hx=>ih x (by omega)
structure akJ (S:Kn) (s m:Nat) (first:Int) (w W:World):Prop where
 be:Below w.heap.size w W
 sz:W.heap.size=w.heap.size+4
 km:jV pk W (w.heap.size+1) []
 bx:w_ s (w.heap.size+1) w.heap.size (w.heap.size+1+1) (w.heap.size+1+1+1) W
 lg:bH (fun k=>SX s m k\/k=w.heap.size+1) s m first W S
theorem Xg (U:List Lb) (s m:Nat) (first:Nat) (S:Kn) (w:World) (hS:bH (SX s m) s m (first:Int) w S) (hK:KG U S) (hU:U.length<=100000) (hf1:first<=1000000) (hfm:(first:Int)<=S.m) (hL:∀n:Int,n<(first:Int)->S.L n=none):
  Calls Try.prog 69 #[pk s] w fun e w'=>∃r:Bool,e= .returned (.bool r)/\(r=true↔fK (first:Int) S)/\Below w.heap.size w w':=by
 have HS:=aC hS;have HK:=aC hK;have HL:=aC (Gw hfm hL);have hlt:=aC (l7 hS);obtain ⟨k1,_,k0⟩:=hS.cell;have hsz:s<w.heap.size:=hlt.out s (.inl rfl);have mk:=@run_makeMap Try.prog;clear hS hK hfm hL;unfold pk;go_enter Try.func69,Try.ntmps69;go_upto_region 4 with fail
 have FW:Hid (akJ S s m (first:Int) w ((((w.alloc (.cells #[.pointer (some ⟨s,0,none⟩)] 25)).alloc (.map #[] 0)).alloc (.cells #[.map (some (w.heap.size+1))] 156)).alloc (.cells #[.func (.func 113) #[] #[.pointer (some ⟨w.heap.size,0,none⟩),.pointer (some ⟨w.heap.size+1+1,0,none⟩),.pointer (some ⟨w.heap.size+1+1+1,0,none⟩)]] 157))):=aC (by
  have hb:=ak (ak (ak (ak (aT w.heap.size w) (.cells #[.pointer (some ⟨s,0,none⟩)] 25)) (.map #[] 0)) (.cells #[.map (some (w.heap.size+1))] 156)) (.cells #[.func (.func 113) #[] #[.pointer (some ⟨w.heap.size,0,none⟩),.pointer (some ⟨w.heap.size+1+1,0,none⟩),.pointer (some ⟨w.heap.size+1+1+1,0,none⟩)]] 157);refine ⟨hb,by simp,?_,⟨?_,?_,?_⟩,?_⟩
  ·refine ⟨#[],0,?_,rfl⟩
   rw [adM _ _ _ (by simp),adM _ _ _ (by simp)];have:=heap_alloc_new (w.alloc (.cells #[.pointer (some ⟨s,0,none⟩)] 25)) (.map #[] 0);simpa using this
  ·have h:=heap_alloc_new w (.cells #[.pointer (some ⟨s,0,none⟩)] 25)
   rw [<-adM _ (.map #[] 0) _ (by simp),<-adM _ (.cells #[.map (some (w.heap.size+1))] 156) _ (by simp;omega),<-adM _ (.cells #[.func (.func 113) #[] #[.pointer (some ⟨w.heap.size,0,none⟩),.pointer (some ⟨w.heap.size+1+1,0,none⟩),.pointer (some ⟨w.heap.size+1+1+1,0,none⟩)]] 157) _ (by simp;omega)] at h;simp only [adw,h];rfl
  ·have h:=heap_alloc_new ((w.alloc (.cells #[.pointer (some ⟨s,0,none⟩)] 25)).alloc (.map #[] 0)) (.cells #[.map (some (w.heap.size+1))] 156)
   rw [<-adM _ (.cells #[.func (.func 113) #[] #[.pointer (some ⟨w.heap.size,0,none⟩),.pointer (some ⟨w.heap.size+1+1,0,none⟩),.pointer (some ⟨w.heap.size+1+1+1,0,none⟩)]] 157) _ (by simp)] at h;simp only [ae9] at h;simp only [adw,h];rfl
  ·have h:=heap_alloc_new (((w.alloc (.cells #[.pointer (some ⟨s,0,none⟩)] 25)).alloc (.map #[] 0)).alloc (.cells #[.map (some (w.heap.size+1))] 156)) (.cells #[.func (.func 113) #[] #[.pointer (some ⟨w.heap.size,0,none⟩),.pointer (some ⟨w.heap.size+1+1,0,none⟩),.pointer (some ⟨w.heap.size+1+1+1,0,none⟩)]] 157)
   simp only [ae9] at h;simp only [adw,h];rfl
  ·refine (HS.out.more (Y:=fun k=>SX s m k\/k=w.heap.size+1) (.inl (.inl rfl)) (.inl (.inr rfl)) fun k hk h=>?_).aU hb
   rcases h with h|h
   ·exact h
   ·omega)
 generalize hW:(((w.alloc (.cells #[.pointer (some ⟨s,0,none⟩)] 25)).alloc (.map #[] 0)).alloc (.cells #[.map (some (w.heap.size+1))] 156)).alloc (.cells #[.func (.func 113) #[] #[.pointer (some ⟨w.heap.size,0,none⟩),.pointer (some ⟨w.heap.size+1+1,0,none⟩),.pointer (some ⟨w.heap.size+1+1+1,0,none⟩)]] 157)=W at*;clear hW k0 k1 mk;obtain ⟨y1,y2,y3⟩:=FW.out.bx;have k0:=FW.out.lg.cell.2.2;have zs:s<W.heap.size:=vv hsz FW.out.be.size;have aph:=FW.out.sz;have hXW:=aC (l7 FW.out.lg);have hdm:w.heap.size+1≠s/\w.heap.size+1≠m:=⟨by omega,by have:=hlt.out m (.inr rfl);omega⟩;have HD:=aC hdm;clear hdm hsz;go_wp2_with fail;go_loopw [13] (fun s13 wr=>∃(i:Nat) (lm:List (Nat×Value)),s13= .int .i64 i/\i<=first/\Hid ((∀n:Nat,n<i->jL (S.σ.v (n:Int))<=10000/\lY (S.σ.v (n:Int))<=100)/\sK (fun k=>SX s m k\/k=w.heap.size+1) S wr (w.heap.size+1) lm/\w_ s (w.heap.size+1) w.heap.size (w.heap.size+1+1) (w.heap.size+1+1+1) wr/\Fr (fun k=>k=w.heap.size+1) W wr)) (fun s13 _=>first-(intOf s13).toNat)
 case atStart=>exact ⟨0,[],rfl,h_ _,aC ⟨fun n hn=>by omega,⟨FW.out.km,fun q hq=>by cases hq⟩,FW.out.bx,Fr.refl _ _⟩⟩
 case round=>
  obtain ⟨i,lm,rfl,hi,M⟩:=hrel;clear y1 y2 y3 k0;by_cases hp:i<first
  ·have J3:=aC (ak (aT wr.heap.size wr) (.cells #[.int .i64 8,.int .i64 (i:Int),.slice none 0 0,.slice none 0 0,.pointer none] 105))
   obtain ⟨_,_,y3⟩:=M.out.2.2.1;have z3:w.heap.size+1+1+1<wr.heap.size:=ae5 wr _ y3
   have hcall:Hid (Calls Try.prog 113 #[.pointer (some ⟨wr.heap.size,0,none⟩),.pointer (some ⟨w.heap.size,0,none⟩),.pointer (some ⟨w.heap.size+1+1,0,none⟩),.pointer (some ⟨w.heap.size+1+1+1,0,none⟩)] (wr.alloc (.cells #[.int .i64 8,.int .i64 (i:Int),.slice none 0 0,.slice none 0 0,.pointer none] 105)) (EN (fun k=>SX s m k\/k=w.heap.size+1) S (w.heap.size+1) (aS i) (wr.alloc (.cells #[.int .i64 8,.int .i64 (i:Int),.slice none 0 0,.slice none 0 0,.pointer none] 105)))):=aC (by
    have hX2:∀k,(SX s m k\/k=w.heap.size+1)->k<wr.heap.size:=fun k hk=>by
     have hs:=M.out.2.2.2.size;rcases hk with hk|hk
     ·have:=hXW.out k hk;omega
     ·omega
    refine aaC (fun k=>SX s m k\/k=w.heap.size+1) U S s m first (w.heap.size+1) w.heap.size (w.heap.size+1+1) (w.heap.size+1+1+1) HK.out hU (.inr rfl) HD.out _ (aS i) (bN _) wr.heap.size _ lm (fun k hk=>vv (hX2 k hk) J3.out.size) ?_ ?_ (HK.out.var (HL.out.2 i (by omega)) (by omega) (by have:=HL.out.1;omega)) (M.out.2.1.aU J3.out) (M.out.2.2.1.aU J3.out)
    ·exact (FW.out.lg.fr M.out.2.2.2 fun k _ hk=>⟨.inr hk,by have:=HD.out.1;omega,by have:=HD.out.2;omega⟩).aU J3.out
    ·exact .mk _ 8 i [] none none none [] [] 0 0 (.pointer none) (fun h=>by have:=hX2 _ h;omega) (heap_alloc_new wr _) rfl (fun _=>rfl) dH.nil dH.nil rfl (fun j p c h=>by simp at h) rfl)
   have IK:Hid (∀w4,Fr (fun k=>k=w.heap.size+1) (wr.alloc (.cells #[.int .i64 8,.int .i64 (i:Int),.slice none 0 0,.slice none 0 0,.pointer none] 105)) w4->Below w.heap.size w w4):=aC fun w4 h=>(((Fr.below (X:=fun k=>k=w.heap.size+1) FW.out.be).trans M.out.2.2.2).trans ((Fr.below J3.out).trans h)).toBelow fun k hk=>by omega
   go_wp2_with fail;refine hcall.out.mono ?_;clear hcall;rintro e w4 ⟨nd,d,rfl,ok,f4,l4,m4⟩;rw [aW] at ok
   have hb1:0<=nd/\nd<=10001:=by
    have h1:=ok.en;have h2:=(Dl (S.σ.v (i:Int))).2;omega
   have G:=aC (Gw ok (Gw f4 m4));have Uw:=aC (IK.out w4 f4);clear ok f4 m4 y3;unfold IG;by_cases h1:10000<nd
   ·go_wp2_with fail
    go_ret;refine ⟨false,rfl,⟨fun h=>(by cases h),fun h=>?_⟩,?_⟩
    ·have h2:=(h i (by omega) (by omega)).1
     have h3:=G.out.1.en;omega
    ·exact ak Uw.out _
   ·by_cases h2:100<d
    ·go_wp2_with fail
     go_ret;refine ⟨false,rfl,⟨fun h=>(by cases h),fun h=>?_⟩,?_⟩
     ·have h3:=h i (by omega) (by omega)
      have h4:=G.out.1.en;have h5:=G.out.1.ed (by omega);omega
     ·exact ak Uw.out _
    ·go_wp2_with fail
     go_roundw
     case rel=>
      have hb4:=ak (aT w4.heap.size w4) (.cells #[.int .i64 nd,.int .i64 d] 159);obtain ⟨es,ck,hm1,_⟩:=M.out.2.1.1;refine ⟨i+1,l4,by go_num,hp,aC ⟨fun n hn=>?_,G.out.2.2.aU hb4,?_,?_⟩⟩
      ·by_cases e:n=i
       ·subst e
        have h4:=G.out.1.en;have h5:=G.out.1.ed (by omega);omega
       ·exact M.out.1 n (by omega)
      ·refine w_.aU (w_.fr (M.out.2.2.1.aU J3.out) (es:=es) (ck:=ck) ?_ G.out.2.1) hb4
       rw [adM _ _ _ (ade.1 hm1).1];exact hm1
      ·exact (M.out.2.2.2.trans ((Fr.below J3.out).trans G.out.2.1)).trans (Fr.below hb4)
     case measure=>simp [intOf];omega
  ·go_wp2_with fail
   go_ret;refine ⟨true,rfl,⟨fun _ n h0 hn=>?_,fun _=>rfl⟩,?_⟩
   ·have:=M.out.1 n.toNat (by omega)
    rwa [Int.toNat_of_nonneg h0] at this
   ·exact ((Fr.below (X:=fun k=>k=w.heap.size+1) FW.out.be).trans M.out.2.2.2).toBelow fun k hk=>by omega
section
variable {P:Program} {ops:Array Oper} {Q:Exit->Act->World->Prop} {md:Region.Mode} {S:World->Prop} {fuel:Nat} {listed:Array Bool} {a:Act} {w:World}
theorem takeA (i:Nat) (d:Option Tmp) {a2:Act} {oi:Oper} {v:Value} (hi:ops[i]?=some oi) (hd:oi.dst=d) (h:wpAnyH P md ops Q S fuel (listed.setIfInBounds i true) a2 w) (hs:aei ops=true:=by kernel_rfl) (hf:aej md ops listed i=true:=by kernel_rfl) (hr:(ad4 md ops listed).contains i=true:=by kernel_rfl)
  (hw:aaH oi (yielded ops a.tmps)=true:=by rfl) (hS:S w:=by assumption) (hy:∀w,S w->(execOp a.eval oi).run P w= .ok (.value v) w:=by (intro w hSw;(try dsimp only at hSw);go_simp;try with_reducible rfl))
  (ha:a.put d v=a2:=by ((try simp only [Act.put,List.setIfInBounds_toArray,List.set_cons_zero,List.set_cons_succ]);exact rfl))
  (hQ:∀c a w,Q (.panic c) (a.put d v) w->Q (.panic c) a w:=by exact fun _ _ _ h=>h):wpAnyH P md ops Q S (fuel+1) listed a w:=by
 subst hd ha;exact wpAnyH_take hi hs hf hr hQ (.inl ⟨hw,hy⟩) hS h
theorem dx {a2:Act} (h:wpAnyH P md ops Q S fuel listed a2 w) (ha:a=a2:=by ((try simp only [Act.put,List.setIfInBounds_toArray,List.set_cons_zero,List.set_cons_succ]);exact rfl)):wpAnyH P md ops Q S fuel listed a w:=by
 subst ha;exact h
theorem bn (i:Nat) (d:Option Tmp) {oi:Oper} (hi:ops[i]?=some oi) (hd:oi.dst=d) (hs:aei ops=true) (hf:aej md ops listed i=true) (hr:(ad4 md ops listed).contains i=true)
  (hQ:∀c a w,Q (.panic c) (a.put d undef) w->Q (.panic c) a w) (hw:aaH oi (yielded ops a.tmps)=false) (hS:S w)
  (h:wpAnyH P md ops Q S fuel (listed.setIfInBounds i true) (a.put d undef) w):wpAnyH P md ops Q S (fuel+1) listed a w:=by
 subst hd;exact wpAnyH_take hi hs hf hr hQ (.inr ⟨hw,rfl⟩) hS h
theorem iF (i:Nat) (d:Option Tmp) {oi:Oper} {f:FuncId} {args:Array Value} {post:Ending->World->Prop} (hi:ops[i]?=some oi) (hd:oi.dst=d) (hr:ad4 md ops listed=[i]) (hw:aaH oi (yielded ops a.tmps)=true)
  (hop:(execOp a.eval oi).run P w= .ok (.enter f args) w) (hc:Calls P f args w post)
  (h:∀e w',post e w'->∃u,e= .returned u/\S w'/\wpAnyH P md ops Q S fuel (listed.setIfInBounds i true) (a.put d u) w'):wpAnyH P md ops Q S (fuel+1) listed a w:=by
 subst hd;refine wpAnyH_all hr (by simp) fun j hj=>?_;simp only [List.mem_singleton] at hj;subst hj;unfold wpOp;rw [hi];simp only [hw,if_true];left;unfold Oper.wp;rw [hop];simp only [Oper.upon];refine hc.mono fun e w' he=>?_;obtain ⟨u,rfl,h1,h2⟩:=h e w' he;exact ⟨h1,h2⟩
end
section
variable {U:List Lb} {s m:Nat} {first:Int} {S:Kn} {a b:Ut} {x y:Fl} {p q:Option Int} {w:World} {UA VA:Option Addr} {ul vl:List (ByteArray×Nat)} {tp tq:Option Addr}
theorem adf (cu cv:Nat) {p0:Int} (h:sH U s m first S a b x y (some p0) none w UA VA ul vl tp tq):sI U s m first S a b x y w UA VA cu cv ul vl tp tq:=by
 obtain ⟨bt,hbt,hbx,hbq⟩:=h.tp;obtain rfl:tp=some ⟨bt,0,none⟩:=by simpa [pk] using hbt
 obtain rfl:tq=none:=by have:aeX tq= .pointer none:=h.tq;simpa using this
 have t1:w.cell? ⟨bt,1,none⟩=some (.int .i64 p0):=by simp [adw,hbq]
 have zo:bt<w.heap.size:=(ade.1 hbq).1;have TC:Hid (∀W,Fr (SX s m) w W->W.cell? ⟨bt,1,none⟩=some (.int .i64 p0)):=aC fun W hW=>(adN (w:=w) (hW.block bt zo hbx)).trans t1;obtain ⟨l1,l2⟩:=h.lu;obtain ⟨u1,u2⟩:=h.un;have HH:=aC h;have HU:=aC (Gw u1 u2);clear h u1 u2 hbt hbq hbx;unfold sI pk;by_cases c1:0<ul.length
 ·have c1':decide (0<ul.length)=true:=decide_eq_true c1
  go_enter Try.func146,Try.ntmps146;go_wp2_with fail;go_quiet (fail);go_wp2_with fail;go_ret;exact fM.no (below_drewN (aT _ _) _) (HH.out.agk fun e=>by have:=HU.out.1.2 e;rw [this] at c1;simp at c1)
 ·have c1':decide (0<ul.length)=false:=decide_eq_false c1
  have e1:Hid (au x y=[]):=aC (HU.out.1.1 (kZ (by omega)));have hrb:=HH.out.rb.of;rw [HH.out.hab] at hrb;obtain ⟨k8,k0,_⟩:=bJ HH.out.hk;obtain ⟨lsp,hlp,rf⟩:=om HH.out.ra.of hrb k0 k8;have JO:=HH.out.rb.lb;rw [HH.out.hab] at JO;obtain ⟨a1,a2,a3,a4,a5⟩:=qy (S:=S) (x:=x) (r:=none) HH.out.hk HH.out.rb.el JO (fun q hq=>by cases hq) rfl
  have hfu:qY S.L (.mk a.k 0 (au y x) none):=by
   rw [nR];exact ⟨(fun q ls hq=>by cases hq),a4⟩
  have hT:TG U S (.mk a.k 0 (au y x) none):=⟨⟨rf.ok,rf.bd⟩,hfu,a2,a1,a3⟩;obtain ⟨hmm,gs⟩:=hT.aH HH.out.kg;have HT:=aC (Gw (hT.small HH.out.hU) (Gw hmm (Gw gs a5)));have xH:Hid (S.κ p0=none):=aC (HH.out.ra.of.tl p0 rfl).2.1
  have HOf:Hid (∀W,Below w.heap.size w W->Calls Try.prog 179 #[.int .i64 a.k,.slice VA vl.length cv,.pointer none] W fun e w'=>∃g,e= .returned (.pointer (some ⟨g,0,none⟩))/\aF (SX s m) w' g (.mk a.k 0 (au y x) none)/\Below w.heap.size w w'):=aC fun W hW=>by
   refine (wZ (SX s m) a.k VA cv vl (au y x) (.pointer none) none W (fun k hk=>vv (l7 HH.out.lg k hk) hW.size) ((HH.out.rv.read.below hW).more hW.size) (by omega) (HH.out.cv.aU hW) rfl).mono ?_;rintro e w' ⟨g,he,h1,h2⟩;exact ⟨g,he,h1,ah hW h2⟩
  clear hrb JO rf a1 a2 a3 a4 a5 hfu hT hmm gs k8 k0 hlp;by_cases o:bL p0 (inst S.σ (aH S.m (.mk a.k 0 (au y x) none)).1)
  ·have Ms:=aC o
   clear o
   have HB:Hid (∀(g:Nat) (W:World),aF (SX s m) W g (.mk a.k 0 (au y x) none)->Below w.heap.size w W->Calls Try.prog 111 #[.pointer (some ⟨s,0,none⟩),.int .i64 p0,.pointer (some ⟨g,0,none⟩)] W fun e w'=>e= .returned (.bool false)/\Fr (SX s m) w w'):=aC fun g W hg hW=>by
    refine (Ao U s m first S p0 _ g W (HH.out.lg.aU hW) HH.out.kg HH.out.hU hg HT.out.1 HT.out.2.1 (.inl HT.out.2.2.1) xH.out (by rw [HT.out.2.2.2];have:=HH.out.mb;omega) Ms.out).mono ?_;rintro e w' ⟨he,hf⟩;exact ⟨he,(Fr.below hW).trans hf⟩
   have c2:decide (0<vl.length)=true\/decide (0<vl.length)=false:=by cases decide (0<vl.length)<;>simp
   rcases c2 with c2|c2
   all_goals
    go_enter Try.func146,Try.ntmps146;go_wp2_with fail;go_quiet (fail);go_wp2_with fail;refine wp_region_held_drew (S:=fun v=>v.cell? ⟨bt,1,none⟩=some (.int .i64 p0)) (by kernel_rfl) ?_ (fun hHeld=>?_)
    ·exact TC.out _ (Fr.below (by first|exact below_drewN (aT _ _) _|exact (below_drewN (aT _ _) _).drew))
    refine takeA 0 (some 63) rfl rfl ?_;refine takeA 1 (some 64) rfl rfl ?_;refine takeA 2 (some 65) rfl rfl ?_;refine takeA 3 (some 66) rfl rfl ?_;refine takeA 4 (some 67) rfl rfl ?_;refine takeA 5 (some 68) rfl rfl ?_;refine takeA 6 (some 69) rfl rfl ?_;refine takeA 7 (some 70) rfl rfl ?_;refine takeA 8 (some 71) rfl rfl ?_;refine takeA 9 (some 72) rfl rfl ?_;refine takeA 10 (some 73) rfl rfl ?_;refine iF 11 (some 74) rfl rfl (by kernel_rfl) (by rfl) (by go_simp) (HOf.out _ (by first|exact below_drewN (aT _ _) _|exact (below_drewN (aT _ _) _).drew)) ?_;rintro e w1 ⟨g,rfl,n1,b1⟩;have N1:=aC (Gw n1 b1);clear n1 b1;have Gh:=TC.out _ (Fr.below N1.out.2);refine ⟨.pointer (some ⟨g,0,none⟩),rfl,Gh,?_⟩;refine dx ?_;refine iF 12 (some 75) rfl rfl (by kernel_rfl) (by rfl) (by go_simp) (HB.out _ _ N1.out.1 N1.out.2) ?_;rintro e w2 ⟨rfl,f1⟩;have F1:=aC f1;clear f1;have Gi:=TC.out _ F1.out;refine ⟨.bool false,rfl,Gi,?_⟩;refine dx ?_;refine takeA 13 (some 76) rfl rfl ?_;refine takeA 14 (some 77) rfl rfl ?_;refine bn 15 (some 78) rfl rfl (by kernel_rfl) (by kernel_rfl) (by kernel_rfl) (fun _ _ _ h=>h) (by rfl) (by assumption) ?_;refine dx ?_;refine bn 16 (some 79) rfl rfl (by kernel_rfl) (by kernel_rfl) (by kernel_rfl) (fun _ _ _ h=>h) (by rfl) (by assumption) ?_;refine dx ?_;refine bn 17 (some 80) rfl rfl (by kernel_rfl) (by kernel_rfl) (by kernel_rfl) (fun _ _ _ h=>h) (by rfl) (by assumption) ?_;refine dx ?_
    refine bn 18 (some 81) rfl rfl (by kernel_rfl) (by kernel_rfl) (by kernel_rfl) (fun _ _ _ h=>h) (by rfl) (by assumption) ?_;refine dx ?_;refine bn 19 (some 82) rfl rfl (by kernel_rfl) (by kernel_rfl) (by kernel_rfl) (fun _ _ _ h=>h) (by rfl) (by assumption) ?_;refine dx ?_;refine bn 20 (some 83) rfl rfl (by kernel_rfl) (by kernel_rfl) (by kernel_rfl) (fun _ _ _ h=>h) (by rfl) (by assumption) ?_;refine dx ?_;refine bn 21 (some 84) rfl rfl (by kernel_rfl) (by kernel_rfl) (by kernel_rfl) (fun _ _ _ h=>h) (by rfl) (by assumption) ?_;refine dx ?_;refine bn 22 (some 85) rfl rfl (by kernel_rfl) (by kernel_rfl) (by kernel_rfl) (fun _ _ _ h=>h) (by rfl) (by assumption) ?_;refine dx ?_;refine bn 23 (some 86) rfl rfl (by kernel_rfl) (by kernel_rfl) (by kernel_rfl) (fun _ _ _ h=>h) (by rfl) (by assumption) ?_;refine dx ?_;refine bn 24 (some 87) rfl rfl (by kernel_rfl) (by kernel_rfl) (by kernel_rfl) (fun _ _ _ h=>h) (by rfl) (by assumption) ?_;refine dx ?_;refine bn 25 (some 88) rfl rfl (by kernel_rfl) (by kernel_rfl) (by kernel_rfl) (fun _ _ _ h=>h) (by rfl) (by assumption) ?_;refine dx ?_;refine bn 26 (some 89) rfl rfl (by kernel_rfl) (by kernel_rfl) (by kernel_rfl) (fun _ _ _ h=>h) (by rfl) (by assumption) ?_;refine dx ?_;refine bn 27 (some 90) rfl rfl (by kernel_rfl) (by kernel_rfl) (by kernel_rfl) (fun _ _ _ h=>h) (by rfl) (by assumption) ?_;refine dx ?_;refine bn 28 (some 91) rfl rfl (by kernel_rfl) (by kernel_rfl) (by kernel_rfl) (fun _ _ _ h=>h) (by rfl) (by assumption) ?_
    refine dx ?_;refine takeA 29 (some 92) rfl rfl ?_;refine takeA 30 (some 12) rfl rfl ?_;refine wpAnyH_done (by kernel_rfl) ?_ _;go_wp2_with fail;go_ret;have hh:=HH.out;exact ⟨false,rfl,F1.out,fun _=>K7 hh.kg hh.ra hh.rb hh.hk hh.hab hh.sh e1.out Ms.out,fun h=>by cases h⟩
  ·have Ms:=aC o
   clear o
   have HB:Hid (∀(g:Nat) (W:World),aF (SX s m) W g (.mk a.k 0 (au y x) none)->Below w.heap.size w W->Calls Try.prog 111 #[.pointer (some ⟨s,0,none⟩),.int .i64 p0,.pointer (some ⟨g,0,none⟩)] W fun e w'=>e= .returned (.bool true)/\Fr (SX s m) w w'/\∀S':Kn,S'.κ=upd S.κ p0 (aH S.m (.mk a.k 0 (au y x) none)).1->S'.m=(aH S.m (.mk a.k 0 (au y x) none)).2->bH (SX s m) s m first w' S'):=aC fun g W hg hW=>by
    refine (uV U s m first S p0 _ g W (HH.out.lg.aU hW) HH.out.kg HH.out.hU hg HT.out.1 HT.out.2.1 (.inl HT.out.2.2.1) xH.out (by rw [HT.out.2.2.2];have:=HH.out.mb;omega) Ms.out).mono ?_;rintro e w' ⟨he,hf,hr⟩;exact ⟨he,(Fr.below hW).trans hf,hr⟩
   have c2:decide (0<vl.length)=true\/decide (0<vl.length)=false:=by cases decide (0<vl.length)<;>simp
   rcases c2 with c2|c2
   all_goals
    go_enter Try.func146,Try.ntmps146;go_wp2_with fail;go_quiet (fail);go_wp2_with fail;refine wp_region_held_drew (S:=fun v=>v.cell? ⟨bt,1,none⟩=some (.int .i64 p0)) (by kernel_rfl) ?_ (fun hHeld=>?_)
    ·exact TC.out _ (Fr.below (by first|exact below_drewN (aT _ _) _|exact (below_drewN (aT _ _) _).drew))
    refine takeA 0 (some 63) rfl rfl ?_;refine takeA 1 (some 64) rfl rfl ?_;refine takeA 2 (some 65) rfl rfl ?_;refine takeA 3 (some 66) rfl rfl ?_;refine takeA 4 (some 67) rfl rfl ?_;refine takeA 5 (some 68) rfl rfl ?_;refine takeA 6 (some 69) rfl rfl ?_;refine takeA 7 (some 70) rfl rfl ?_;refine takeA 8 (some 71) rfl rfl ?_;refine takeA 9 (some 72) rfl rfl ?_;refine takeA 10 (some 73) rfl rfl ?_;refine iF 11 (some 74) rfl rfl (by kernel_rfl) (by rfl) (by go_simp) (HOf.out _ (by first|exact below_drewN (aT _ _) _|exact (below_drewN (aT _ _) _).drew)) ?_;rintro e w1 ⟨g,rfl,n1,b1⟩;have N1:=aC (Gw n1 b1);clear n1 b1;have Gh:=TC.out _ (Fr.below N1.out.2);refine ⟨.pointer (some ⟨g,0,none⟩),rfl,Gh,?_⟩;refine dx ?_;refine iF 12 (some 75) rfl rfl (by kernel_rfl) (by rfl) (by go_simp) (HB.out _ _ N1.out.1 N1.out.2) ?_;rintro e w2 ⟨rfl,f1,f2⟩;have F1:=aC (Gw f1 f2);clear f1 f2;have Gi:=TC.out _ F1.out.1;refine ⟨.bool true,rfl,Gi,?_⟩;refine dx ?_;refine takeA 13 (some 76) rfl rfl ?_;refine takeA 14 (some 77) rfl rfl ?_;refine takeA 15 (some 78) rfl rfl ?_;refine takeA 16 (some 79) rfl rfl ?_;refine takeA 17 (some 80) rfl rfl ?_;refine bn 18 (some 81) rfl rfl (by kernel_rfl) (by kernel_rfl) (by kernel_rfl) (fun _ _ _ h=>h) (by rfl) (by assumption) ?_;refine dx ?_;refine bn 19 (some 82) rfl rfl (by kernel_rfl) (by kernel_rfl) (by kernel_rfl) (fun _ _ _ h=>h) (by rfl) (by assumption) ?_;refine dx ?_
    refine bn 20 (some 83) rfl rfl (by kernel_rfl) (by kernel_rfl) (by kernel_rfl) (fun _ _ _ h=>h) (by rfl) (by assumption) ?_;refine dx ?_;refine bn 21 (some 84) rfl rfl (by kernel_rfl) (by kernel_rfl) (by kernel_rfl) (fun _ _ _ h=>h) (by rfl) (by assumption) ?_;refine dx ?_;refine bn 22 (some 85) rfl rfl (by kernel_rfl) (by kernel_rfl) (by kernel_rfl) (fun _ _ _ h=>h) (by rfl) (by assumption) ?_;refine dx ?_;refine bn 23 (some 86) rfl rfl (by kernel_rfl) (by kernel_rfl) (by kernel_rfl) (fun _ _ _ h=>h) (by rfl) (by assumption) ?_;refine dx ?_;refine bn 24 (some 87) rfl rfl (by kernel_rfl) (by kernel_rfl) (by kernel_rfl) (fun _ _ _ h=>h) (by rfl) (by assumption) ?_;refine dx ?_;refine bn 25 (some 88) rfl rfl (by kernel_rfl) (by kernel_rfl) (by kernel_rfl) (fun _ _ _ h=>h) (by rfl) (by assumption) ?_;refine dx ?_;refine bn 26 (some 89) rfl rfl (by kernel_rfl) (by kernel_rfl) (by kernel_rfl) (fun _ _ _ h=>h) (by rfl) (by assumption) ?_;refine dx ?_;refine bn 27 (some 90) rfl rfl (by kernel_rfl) (by kernel_rfl) (by kernel_rfl) (fun _ _ _ h=>h) (by rfl) (by assumption) ?_;refine dx ?_;refine takeA 28 (some 91) rfl rfl ?_;refine takeA 29 (some 92) rfl rfl ?_;refine takeA 30 (some 12) rfl rfl ?_;refine wpAnyH_done (by kernel_rfl) ?_ _;go_wp2_with fail;go_ret;have hh:=HH.out;exact ⟨true,rfl,F1.out.1,fun h=>(by cases h),fun _=>⟨_,(G_ hh.kg hh.ra hh.rb hh.hk hh.hab hh.sh e1.out Ms.out).more (by omega),F1.out.2 _ rfl rfl⟩⟩
end
section
variable {U:List Lb} {s m:Nat} {first:Int} {S:Kn} {a b:Ut} {x y:Fl} {p q:Option Int} {w:World} {UA VA:Option Addr} {ul vl:List (ByteArray×Nat)} {tp tq:Option Addr}
theorem adh (cu cv:Nat) {q0:Int} (h:sH U s m first S a b x y none (some q0) w UA VA ul vl tp tq):sI U s m first S a b x y w UA VA cu cv ul vl tp tq:=by
 obtain ⟨bt,hbt,hbx,hbq⟩:=h.tq;obtain rfl:tq=some ⟨bt,0,none⟩:=by simpa [pk] using hbt
 obtain rfl:tp=none:=by have:aeX tp= .pointer none:=h.tp;simpa using this
 have t1:w.cell? ⟨bt,1,none⟩=some (.int .i64 q0):=by simp [adw,hbq]
 have zo:bt<w.heap.size:=(ade.1 hbq).1;have TC:Hid (∀W,Fr (SX s m) w W->W.cell? ⟨bt,1,none⟩=some (.int .i64 q0)):=aC fun W hW=>(adN (w:=w) (hW.block bt zo hbx)).trans t1;obtain ⟨l1,l2⟩:=h.lu;obtain ⟨u1,u2⟩:=h.un;have HH:=aC h;have HU:=aC (Gw u1 u2);clear h u1 u2 hbt hbq hbx;unfold sI pk;have Xh:decide (0<ul.length)=true\/decide (0<ul.length)=false:=by cases decide (0<ul.length)<;>simp
 by_cases c1:0<vl.length
 ·have c1':decide (0<vl.length)=true:=decide_eq_true c1
  rcases Xh with c2|c2
  all_goals
   go_enter Try.func146,Try.ntmps146;go_wp2_with fail;go_quiet (fail);go_wp2_with fail;go_ret;exact fM.no (below_drewN (aT _ _) _) (HH.out.agl fun e=>by have:=HU.out.2.2 e;rw [this] at c1;simp at c1)
 ·have c1':decide (0<vl.length)=false:=decide_eq_false c1
  have e1:Hid (au y x=[]):=aC (HU.out.2.1 (kZ (by omega)));have hk2:av b.k=true:=by rw [HH.out.hab];exact HH.out.hk
  have hra:=HH.out.ra.of;rw [<-HH.out.hab] at hra;obtain ⟨k8,k0,_⟩:=bJ hk2;obtain ⟨lsp,hlp,rf⟩:=om HH.out.rb.of hra k0 k8;have rla:=HH.out.ra.lb;rw [<-HH.out.hab] at rla;obtain ⟨a1,a2,a3,a4,a5⟩:=qy (S:=S) (x:=y) (r:=none) hk2 HH.out.ra.el rla (fun q hq=>by cases hq) rfl
  have hfu:qY S.L (.mk b.k 0 (au x y) none):=by
   rw [nR];exact ⟨(fun q ls hq=>by cases hq),a4⟩
  have hT:TG U S (.mk b.k 0 (au x y) none):=⟨⟨rf.ok,rf.bd⟩,hfu,a2,a1,a3⟩;rw [HH.out.hab] at hT a5;obtain ⟨hmm,gs⟩:=hT.aH HH.out.kg;have HT:=aC (Gw (hT.small HH.out.hU) (Gw hmm (Gw gs a5)));have xH:Hid (S.κ q0=none):=aC (HH.out.rb.of.tl q0 rfl).2.1
  have HOf:Hid (∀W,Below w.heap.size w W->Calls Try.prog 179 #[.int .i64 a.k,.slice UA ul.length cu,.pointer none] W fun e w'=>∃g,e= .returned (.pointer (some ⟨g,0,none⟩))/\aF (SX s m) w' g (.mk a.k 0 (au x y) none)/\Below w.heap.size w w'):=aC fun W hW=>by
   refine (wZ (SX s m) a.k UA cu ul (au x y) (.pointer none) none W (fun k hk=>vv (l7 HH.out.lg k hk) hW.size) ((HH.out.ru.read.below hW).more hW.size) (by omega) (HH.out.cu.aU hW) rfl).mono ?_;rintro e w' ⟨g,he,h1,h2⟩;exact ⟨g,he,h1,ah hW h2⟩
  clear hra rla rf a1 a2 a3 a4 a5 hfu hT hmm gs k8 k0 hlp;by_cases o:bL q0 (inst S.σ (aH S.m (.mk a.k 0 (au x y) none)).1)
  ·have Ms:=aC o
   clear o
   have HB:Hid (∀(g:Nat) (W:World),aF (SX s m) W g (.mk a.k 0 (au x y) none)->Below w.heap.size w W->Calls Try.prog 111 #[.pointer (some ⟨s,0,none⟩),.int .i64 q0,.pointer (some ⟨g,0,none⟩)] W fun e w'=>e= .returned (.bool false)/\Fr (SX s m) w w'):=aC fun g W hg hW=>by
    refine (Ao U s m first S q0 _ g W (HH.out.lg.aU hW) HH.out.kg HH.out.hU hg HT.out.1 HT.out.2.1 (.inl HT.out.2.2.1) xH.out (by rw [HT.out.2.2.2];have:=HH.out.mb;omega) Ms.out).mono ?_;rintro e w' ⟨he,hf⟩;exact ⟨he,(Fr.below hW).trans hf⟩
   rcases Xh with c2|c2
   all_goals
    go_enter Try.func146,Try.ntmps146;go_wp2_with fail;go_quiet (fail);go_wp2_with fail;refine wp_region_held_drew (S:=fun v=>v.cell? ⟨bt,1,none⟩=some (.int .i64 q0)) (by kernel_rfl) ?_ (fun hHeld=>?_)
    ·exact TC.out _ (Fr.below (by first|exact below_drewN (aT _ _) _|exact (below_drewN (aT _ _) _).drew))
    refine takeA 0 (some 63) rfl rfl ?_;refine takeA 1 (some 64) rfl rfl ?_;refine takeA 2 (some 65) rfl rfl ?_;refine bn 3 (some 66) rfl rfl (by kernel_rfl) (by kernel_rfl) (by kernel_rfl) (fun _ _ _ h=>h) (by rfl) (by assumption) ?_;refine dx ?_;refine bn 4 (some 67) rfl rfl (by kernel_rfl) (by kernel_rfl) (by kernel_rfl) (fun _ _ _ h=>h) (by rfl) (by assumption) ?_;refine dx ?_;refine bn 5 (some 68) rfl rfl (by kernel_rfl) (by kernel_rfl) (by kernel_rfl) (fun _ _ _ h=>h) (by rfl) (by assumption) ?_;refine dx ?_;refine bn 6 (some 69) rfl rfl (by kernel_rfl) (by kernel_rfl) (by kernel_rfl) (fun _ _ _ h=>h) (by rfl) (by assumption) ?_;refine dx ?_;refine bn 7 (some 70) rfl rfl (by kernel_rfl) (by kernel_rfl) (by kernel_rfl) (fun _ _ _ h=>h) (by rfl) (by assumption) ?_;refine dx ?_;refine bn 8 (some 71) rfl rfl (by kernel_rfl) (by kernel_rfl) (by kernel_rfl) (fun _ _ _ h=>h) (by rfl) (by assumption) ?_;refine dx ?_;refine bn 9 (some 72) rfl rfl (by kernel_rfl) (by kernel_rfl) (by kernel_rfl) (fun _ _ _ h=>h) (by rfl) (by assumption) ?_;refine dx ?_;refine bn 10 (some 73) rfl rfl (by kernel_rfl) (by kernel_rfl) (by kernel_rfl) (fun _ _ _ h=>h) (by rfl) (by assumption) ?_;refine dx ?_;refine bn 11 (some 74) rfl rfl (by kernel_rfl) (by kernel_rfl) (by kernel_rfl) (fun _ _ _ h=>h) (by rfl) (by assumption) ?_;refine dx ?_;refine bn 12 (some 75) rfl rfl (by kernel_rfl) (by kernel_rfl) (by kernel_rfl) (fun _ _ _ h=>h) (by rfl) (by assumption) ?_;refine dx ?_
    refine takeA 13 (some 76) rfl rfl ?_;refine takeA 14 (some 77) rfl rfl ?_;refine takeA 15 (some 78) rfl rfl ?_;refine takeA 16 (some 79) rfl rfl ?_;refine takeA 17 (some 80) rfl rfl ?_;refine takeA 18 (some 81) rfl rfl ?_;refine takeA 19 (some 82) rfl rfl ?_;refine takeA 20 (some 83) rfl rfl ?_;refine takeA 21 (some 84) rfl rfl ?_;refine takeA 22 (some 85) rfl rfl ?_;refine takeA 23 (some 86) rfl rfl ?_;refine takeA 24 (some 87) rfl rfl ?_;refine takeA 25 (some 88) rfl rfl ?_;refine iF 26 (some 89) rfl rfl (by kernel_rfl) (by rfl) (by go_simp) (HOf.out _ (by first|exact below_drewN (aT _ _) _|exact (below_drewN (aT _ _) _).drew)) ?_;rintro e w1 ⟨g,rfl,n1,b1⟩;have N1:=aC (Gw n1 b1);clear n1 b1;have Mt:=TC.out _ (Fr.below N1.out.2);refine ⟨.pointer (some ⟨g,0,none⟩),rfl,Mt,?_⟩;refine dx ?_;refine iF 27 (some 90) rfl rfl (by kernel_rfl) (by rfl) (by go_simp) (HB.out _ _ N1.out.1 N1.out.2) ?_;rintro e w2 ⟨rfl,f1⟩;have F1:=aC f1;clear f1;have Mw:=TC.out _ F1.out;refine ⟨.bool false,rfl,Mw,?_⟩;refine dx ?_;refine takeA 28 (some 91) rfl rfl ?_;refine takeA 29 (some 92) rfl rfl ?_;refine takeA 30 (some 12) rfl rfl ?_;refine wpAnyH_done (by kernel_rfl) ?_ _;go_wp2_with fail;go_ret;have hh:=HH.out;have ho:=Ms.out;rw [<-hh.hab] at ho;exact ⟨false,rfl,F1.out,fun _=>(K7 hh.kg hh.rb hh.ra hk2 hh.hab.symm hh.sh.symm e1.out ho).symm,fun h=>by cases h⟩
  ·have Ms:=aC o
   clear o
   have HB:Hid (∀(g:Nat) (W:World),aF (SX s m) W g (.mk a.k 0 (au x y) none)->Below w.heap.size w W->Calls Try.prog 111 #[.pointer (some ⟨s,0,none⟩),.int .i64 q0,.pointer (some ⟨g,0,none⟩)] W fun e w'=>e= .returned (.bool true)/\Fr (SX s m) w w'/\∀S':Kn,S'.κ=upd S.κ q0 (aH S.m (.mk a.k 0 (au x y) none)).1->S'.m=(aH S.m (.mk a.k 0 (au x y) none)).2->bH (SX s m) s m first w' S'):=aC fun g W hg hW=>by
    refine (uV U s m first S q0 _ g W (HH.out.lg.aU hW) HH.out.kg HH.out.hU hg HT.out.1 HT.out.2.1 (.inl HT.out.2.2.1) xH.out (by rw [HT.out.2.2.2];have:=HH.out.mb;omega) Ms.out).mono ?_;rintro e w' ⟨he,hf,hr⟩;exact ⟨he,(Fr.below hW).trans hf,hr⟩
   rcases Xh with c2|c2
   all_goals
    go_enter Try.func146,Try.ntmps146;go_wp2_with fail;go_quiet (fail);go_wp2_with fail;refine wp_region_held_drew (S:=fun v=>v.cell? ⟨bt,1,none⟩=some (.int .i64 q0)) (by kernel_rfl) ?_ (fun hHeld=>?_)
    ·exact TC.out _ (Fr.below (by first|exact below_drewN (aT _ _) _|exact (below_drewN (aT _ _) _).drew))
    refine takeA 0 (some 63) rfl rfl ?_;refine takeA 1 (some 64) rfl rfl ?_;refine takeA 2 (some 65) rfl rfl ?_;refine bn 3 (some 66) rfl rfl (by kernel_rfl) (by kernel_rfl) (by kernel_rfl) (fun _ _ _ h=>h) (by rfl) (by assumption) ?_;refine dx ?_;refine bn 4 (some 67) rfl rfl (by kernel_rfl) (by kernel_rfl) (by kernel_rfl) (fun _ _ _ h=>h) (by rfl) (by assumption) ?_;refine dx ?_;refine bn 5 (some 68) rfl rfl (by kernel_rfl) (by kernel_rfl) (by kernel_rfl) (fun _ _ _ h=>h) (by rfl) (by assumption) ?_;refine dx ?_;refine bn 6 (some 69) rfl rfl (by kernel_rfl) (by kernel_rfl) (by kernel_rfl) (fun _ _ _ h=>h) (by rfl) (by assumption) ?_;refine dx ?_;refine bn 7 (some 70) rfl rfl (by kernel_rfl) (by kernel_rfl) (by kernel_rfl) (fun _ _ _ h=>h) (by rfl) (by assumption) ?_;refine dx ?_;refine bn 8 (some 71) rfl rfl (by kernel_rfl) (by kernel_rfl) (by kernel_rfl) (fun _ _ _ h=>h) (by rfl) (by assumption) ?_;refine dx ?_;refine bn 9 (some 72) rfl rfl (by kernel_rfl) (by kernel_rfl) (by kernel_rfl) (fun _ _ _ h=>h) (by rfl) (by assumption) ?_;refine dx ?_;refine bn 10 (some 73) rfl rfl (by kernel_rfl) (by kernel_rfl) (by kernel_rfl) (fun _ _ _ h=>h) (by rfl) (by assumption) ?_;refine dx ?_;refine bn 11 (some 74) rfl rfl (by kernel_rfl) (by kernel_rfl) (by kernel_rfl) (fun _ _ _ h=>h) (by rfl) (by assumption) ?_;refine dx ?_;refine bn 12 (some 75) rfl rfl (by kernel_rfl) (by kernel_rfl) (by kernel_rfl) (fun _ _ _ h=>h) (by rfl) (by assumption) ?_;refine dx ?_
    refine takeA 13 (some 76) rfl rfl ?_;refine takeA 14 (some 77) rfl rfl ?_;refine takeA 15 (some 78) rfl rfl ?_;refine takeA 16 (some 79) rfl rfl ?_;refine takeA 17 (some 80) rfl rfl ?_;refine takeA 18 (some 81) rfl rfl ?_;refine takeA 19 (some 82) rfl rfl ?_;refine takeA 20 (some 83) rfl rfl ?_;refine takeA 21 (some 84) rfl rfl ?_;refine takeA 22 (some 85) rfl rfl ?_;refine takeA 23 (some 86) rfl rfl ?_;refine takeA 24 (some 87) rfl rfl ?_;refine takeA 25 (some 88) rfl rfl ?_;refine iF 26 (some 89) rfl rfl (by kernel_rfl) (by rfl) (by go_simp) (HOf.out _ (by first|exact below_drewN (aT _ _) _|exact (below_drewN (aT _ _) _).drew)) ?_;rintro e w1 ⟨g,rfl,n1,b1⟩;have N1:=aC (Gw n1 b1);clear n1 b1;have Mt:=TC.out _ (Fr.below N1.out.2);refine ⟨.pointer (some ⟨g,0,none⟩),rfl,Mt,?_⟩;refine dx ?_;refine iF 27 (some 90) rfl rfl (by kernel_rfl) (by rfl) (by go_simp) (HB.out _ _ N1.out.1 N1.out.2) ?_;rintro e w2 ⟨rfl,f1,f2⟩;have F1:=aC (Gw f1 f2);clear f1 f2;have Mw:=TC.out _ F1.out.1;refine ⟨.bool true,rfl,Mw,?_⟩;refine dx ?_;refine takeA 28 (some 91) rfl rfl ?_;refine takeA 29 (some 92) rfl rfl ?_;refine takeA 30 (some 12) rfl rfl ?_;refine wpAnyH_done (by kernel_rfl) ?_ _;go_wp2_with fail;go_ret;have hh:=HH.out;have ho:=Ms.out;rw [<-hh.hab] at ho;have d:=G_ hh.kg hh.rb hh.ra hk2 hh.hab.symm hh.sh.symm e1.out ho;rw [hh.hab] at d;exact ⟨true,rfl,F1.out.1,fun h=>(by cases h),fun _=>⟨_,d.symm.more (by omega),F1.out.2 _ rfl rfl⟩⟩
end
end Go.Proofs.Ytblfeokjlecgkaa
