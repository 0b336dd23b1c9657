/- Laid together by a tool from the texts of this seat: UMake UOf UTree Stps UMayT RowS R07 RP07 Rc13 Rd13 Re13 Rg13. Conditions: each theorem's own. -/
import Derived.Test.YtblfeokjlecgkaaV08
import Derived.BigQuiet
import Derived.Deep.RegionHeld3
import Derived.Deep.DeepCutAuto
import Derived.Deep.CutRange
import Derived.Deep.DrawnRows
import Derived.Test.YtblfeokjlecgkaaV06
import Derived.Test.YtblfeokjlecgkaaV02
import Derived.Test.YtblfeokjlecgkaaV07
import Derived.Test.YtblfeokjlecgkaaV03
import Derived.Test.YtblfeokjlecgkaaV01
set_option maxHeartbeats 8000000
set_option maxRecDepth 100000
namespace Go.Proofs.Ytblfeokjlecgkaa
open Go.Lib renaming hid->aC
open Go.RowKit.Below renaming refl->aT,mono->adS,block->adX,heap_setCell->ad3
open Go.Value renaming slice->aO,ownBlock->nU
open _root_.ByteArray renaming empty->pR
open _root_.Nat renaming le_refl->bN,lt_of_lt_of_le->vv,zero_le->h_,zero_mul->adO,le_of_lt->adV,add_zero->pO,zero_add->iE
open _root_.Array renaming getElem?_eq_some_iff->ade
open _root_.And renaming intro->Gw
open Go.World renaming cell?->adw,cell?_of_block->adN,frozen?_of_block->adP,setCell->adl
open Go.Region renaming wanted->aaH
open _root_.List renaming getElem?_append_left->aaM,getElem?_append_right->zA,length_map->aaT,take_of_length_le->CK,take_add_one->GZ,mem_append->JQ,mem_of_getElem?->Yt,getElem?_map->adg,map->adR,eq_nil_of_length_eq_zero->kZ,getElem?_cons_zero->ad2,mem_cons->Gz,length_cons->Bl,map_append->abl,mem_flatten->aam,mem_map->aaN,getElem?_set_self->Ve,nil_append->RU
open Go.ByteArray renaming toList_eq->yH
open Go.RowKit
structure oG (base g:Nat) (k n:Int) (lv:Value) (B:Option Addr) (cb:Nat) (bs:List Nat) (tv:Value) (w:World):Prop where
 lo:base<=g
 blk:w.heap[g]?=some (.cells #[.int .i64 k,.int .i64 n,lv,.slice B bs.length cb,tv] 105 (0,0))
 kb:aA 93 1 lC w base B cb bs
 gb:∀a,B=some a->a.block≠g
theorem mP (w:World) (p:Addr) (u:Value):w.grownBy (w.setCell p u) (some p.block):=
 ⟨rfl,rfl,rfl,by simp [adl],fun k _ hne=>ad3 _ _ _ _ fun e=>hne (by rw [e])⟩
theorem heap_set {w:World} {g:Nat} {cs:Array Value} {t:TypeId} (h:w.heap[g]?=some (.cells cs t (0,0))) (i:Nat) (u:Value):(w.setCell ⟨g,i,none⟩ u).heap[g]?=some (.cells (cs.setIfInBounds i u) t (0,0)):=by
 simp only [adl,Array.getElem?_modify,h,if_true,Option.map_some];simp
section
variable {base g:Nat} {k n:Int} {lv tv:Value} {B:Option Addr} {cb:Nat} {bs:List Nat} {w w':World} {Y:Nat->Prop}
theorem aA.fr {α:Type} {enc:α->List Value} {e size cap:Nat} {A:Option Addr} {l:List α} (h:aA e size enc w base A cap l) (hf:Fr Y w w') (hY:∀b,Y b->b<base):aA e size enc w' base A cap l:=by
 cases A with
 |none=>
  rcases h.2 with ⟨hv,hn⟩|⟨g,cap',cur,hv,_⟩
  ·have hl:l=[]:=kZ hn
   subst hl;injection hv with _ _ hc
   subst hc;exact aA.nil
  ·cases hv
 |some a=>
  rcases h.2 with ⟨hv,hn⟩|⟨g,cap',cur,hv,hbg,hg,hr⟩
  ·cases hv
  ·have hlt:g<w.heap.size:=(ade.1 hg).1
   exact ⟨h.1,.inr ⟨g,cap',cur,hv,hbg,(hf.block g hlt fun e=>by have:=hY g e;omega).trans hg,hr⟩⟩
theorem oG.step (h:oG base g k n lv B cb bs tv w) (hf:Fr Y w w') (hY:∀b,Y b->b<base):oG base g k n lv B cb bs tv w':=by
 have hlt:g<w.heap.size:=(ade.1 h.blk).1;exact ⟨h.lo,(hf.block g hlt fun e=>by have:=hY g e;have:=h.lo;omega).trans h.blk,h.kb.fr hf hY,h.gb⟩
theorem oG.push {x cb':Nat} {B':Option Addr} (h:oG base g k n lv B cb bs tv w) (hown:aA 93 1 lC w' base B' cb' (bs++[x])) (hg:w.grownBy w' ((aO B bs.length cb).ownBlock))
  (hA:(aO B' (bs.length+1) cb').ownBlock=(aO B bs.length cb).ownBlock\/(aO B' (bs.length+1) cb').ownBlock=some w.heap.size):
  oG base g k n lv B' cb' (bs++[x]) tv (w'.setCell ⟨g,3,none⟩ (.slice B' (bs.length+1) cb')):=by
 have hlt:g<w.heap.size:=(ade.1 h.blk).1
 have hne:∀a,B'=some a->a.block≠g:=by
  rintro a rfl;simp only [nU] at hA;rcases hA with e|e
  ·obtain ⟨a2,rfl,e2⟩:=bA e.symm
   rw [<-e2];exact h.gb a2 rfl
  ·injection e with e
   omega
 have hb:w'.heap[g]?=w.heap[g]?:=hg.block g hlt fun e=>by
  obtain ⟨a2,rfl,e2⟩:=bA e.symm;exact h.gb a2 rfl e2
 refine ⟨h.lo,?_,hown.kept (mP w' ⟨g,3,none⟩ _) (fun q hq a ha=>by injection hq with hq;subst hq;exact hne a ha),hne⟩;rw [heap_set (hb.trans h.blk)];simp
theorem oG.setTail (h:oG base g k n lv B cb bs tv w) (v:Value):oG base g k n lv B cb bs v (w.setCell ⟨g,4,none⟩ v):=by
 refine ⟨h.lo,?_,h.kb.kept (mP w ⟨g,4,none⟩ _) (fun q hq a ha=>by injection hq with hq;subst hq;exact h.gb a ha),h.gb⟩;rw [heap_set h.blk];simp
theorem oG.cells (h:oG base g k n lv B cb bs tv w):w.cell? ⟨g,0,none⟩=some (.int .i64 k)/\w.cell? ⟨g,1,none⟩=some (.int .i64 n)/\w.cell? ⟨g,2,none⟩=some lv/\w.cell? ⟨g,3,none⟩=some (.slice B bs.length cb)/\
  w.frozen? ⟨g,1,none⟩=false/\w.frozen? ⟨g,2,none⟩=false/\w.frozen? ⟨g,3,none⟩=false/\w.frozen? ⟨g,4,none⟩=false:=by
 simp [adw,World.frozen?,h.blk]
end
structure fT (base g:Nat) (k n:Int) (A:Option Addr) (ca:Nat) (ls:List ByteArray) (B:Option Addr) (cb:Nat) (bs:List Nat) (tv:Value) (w:World):Prop where
 nk:oG base g k n (.slice A ls.length ca) B cb bs tv w
 la:aA 9 1 nT w base A ca ls
 ga:∀a,A=some a->a.block≠g
 ab:∀a b,A=some a->B=some b->a.block≠b.block
section
variable {base g:Nat} {k n:Int} {tv:Value} {A B:Option Addr} {ca cb:Nat} {ls:List ByteArray} {bs:List Nat} {w w':World} {Y:Nat->Prop}
theorem fT.start (w:World) (k n:Int) (tv:Value) (base:Nat) (hb:base<=w.heap.size):fT base w.heap.size k n none 0 [] none 0 [] tv (w.alloc (.cells #[.int .i64 k,.int .i64 n,.slice none 0 0,.slice none 0 0,tv] 105 (0,0))):=
 ⟨⟨hb,heap_alloc_new w _,aA.nil,fun _ e=>by cases e⟩,aA.nil,(fun _ e=>by cases e),fun _ _ e=>by cases e⟩
theorem fT.step (h:fT base g k n A ca ls B cb bs tv w) (hf:Fr Y w w') (hY:∀b,Y b->b<base):fT base g k n A ca ls B cb bs tv w':=
 ⟨h.nk.step hf hY,h.la.fr hf hY,h.ga,h.ab⟩
theorem fT.acn {x cb':Nat} {B':Option Addr} (h:fT base g k n A ca ls B cb bs tv w) (hown:aA 93 1 lC w' base B' cb' (bs++[x])) (hg:w.grownBy w' ((aO B bs.length cb).ownBlock))
  (hA:(aO B' (bs.length+1) cb').ownBlock=(aO B bs.length cb).ownBlock\/(aO B' (bs.length+1) cb').ownBlock=some w.heap.size):
  fT base g k n A ca ls B' cb' (bs++[x]) tv (w'.setCell ⟨g,3,none⟩ (.slice B' (bs.length+1) cb')):=by
 refine ⟨h.nk.push hown hg hA,?_,h.ga,?_⟩
 ·have h1:aA 9 1 nT w' base A ca ls:=h.la.kept hg fun q hq a ha=>by
   obtain ⟨a2,e1,e2⟩:=bA hq;rw [<-e2];exact h.ab a a2 ha e1
  exact h1.kept (mP w' ⟨g,3,none⟩ _) (fun q hq a ha=>by injection hq with hq;subst hq;exact h.ga a ha)
 ·rintro a b rfl rfl
  simp only [nU] at hA;rcases hA with e|e
  ·obtain ⟨a2,rfl,e2⟩:=bA e.symm
   rw [<-e2];exact h.ab a a2 rfl rfl
  ·injection e with e
   have:=(h.la.block a.block rfl).2;omega
theorem fT.aco {x:ByteArray} {Nu:Nat} {A':Option Addr} (h:fT base g k n A ca ls B cb bs tv w) (hown:aA 9 1 nT w' base A' Nu (ls++[x])) (hg:w.grownBy w' ((aO A ls.length ca).ownBlock))
  (hA:(aO A' (ls.length+1) Nu).ownBlock=(aO A ls.length ca).ownBlock\/(aO A' (ls.length+1) Nu).ownBlock=some w.heap.size):
  fT base g k n A' Nu (ls++[x]) B cb bs tv (w'.setCell ⟨g,2,none⟩ (.slice A' (ls.length+1) Nu)):=by
 have hlt:g<w.heap.size:=(ade.1 h.nk.blk).1
 have hne:∀a,A'=some a->a.block≠g:=by
  rintro a rfl;simp only [nU] at hA;rcases hA with e|e
  ·obtain ⟨a2,rfl,e2⟩:=bA e.symm
   rw [<-e2];exact h.ga a2 rfl
  ·injection e with e
   omega
 have hb:w'.heap[g]?=w.heap[g]?:=hg.block g hlt fun e=>by
  obtain ⟨a2,rfl,e2⟩:=bA e.symm;exact h.ga a2 rfl e2
 have h1:aA 93 1 lC w' base B cb bs:=h.nk.kb.kept hg fun q hq b hb=>by
  obtain ⟨a2,e1,e2⟩:=bA hq;rw [<-e2];exact fun e=>h.ab a2 b e1 hb e.symm
 refine ⟨⟨h.nk.lo,?_,h1.kept (mP w' ⟨g,2,none⟩ _) (fun q hq a ha=>by injection hq with hq;subst hq;exact h.nk.gb a ha),h.nk.gb⟩,hown.kept (mP w' ⟨g,2,none⟩ _) (fun q hq a ha=>by injection hq with hq;subst hq;exact hne a ha),hne,?_⟩
 ·rw [heap_set (hb.trans h.nk.blk)]
  simp
 ·rintro a b rfl rfl
  simp only [nU] at hA;rcases hA with e|e
  ·obtain ⟨a2,rfl,e2⟩:=bA e.symm
   rw [<-e2];exact h.ab a2 b rfl rfl
  ·injection e with e
   have:=(h.nk.kb.block b.block rfl).2;omega
theorem fT.node {X:Nat->Prop} {fs:Fl} {tl:Option Int} (h:fT base g k n A ca ls B cb bs tv w) (hX:∀b,X b->b<base) (hl:ls=ay fs) (hlen:bs.length=fs.length) (hk:∀(i:Nat) (p:Lb×Ut) (c:Nat),fs[i]?=some p->bs[i]?=some c->aF X w c p.2) (ht:cO X w tv tl):aF X w g (.mk k n fs tl):=by
 have hn:∀q,base<=q->q<w.heap.size->¬X q:=fun q hq _ hx=>by have:=hX q hx;omega
 have hll:ls.length=bs.length:=by rw [hl,hlen];simp [ay]
 refine .mk g k n fs tl A B ls bs ca cb tv (fun hx=>by have:=hX g hx;have:=h.nk.lo;omega) h.nk.blk hll (fun _=>hl) (dH.uF y9 h.la hn) (dH.uF uf h.nk.kb hn) hlen hk ht
end
def mq (X:Nat->Prop) (g:Nat) (A B:Option Addr):Nat->Prop:=fun x=>X x\/x=g\/(∃a,A=some a/\a.block=x)\/∃a,B=some a/\a.block=x
section
variable {X:Nat->Prop} {g c o n n' cb cb':Nat} {A B B':Option Addr} {W w2:World} {t:Ut} {v:Value}
theorem ku {a:Addr} {cb n:Nat}:(aO (some a) n cb).ownBlock=some a.block:=rfl
theorem TM {Z:Nat->Prop} (h:aF (fun x=>Z x\/∃a,B=some a/\a.block=x) W c t) (hZ:Z g) (hg:W.grownBy w2 ((aO B n cb).ownBlock))
  (hA:(aO B' n' cb').ownBlock=(aO B n cb).ownBlock\/(aO B' n' cb').ownBlock=some W.heap.size) (v:Value):aF (fun x=>Z x\/∃a,B'=some a/\a.block=x) (w2.setCell ⟨g,o,none⟩ v) c t:=by
 have hb:∀a,B'=some a->(∃a2,B=some a2/\a2.block=a.block)\/a.block=W.heap.size:=by
  rintro a rfl;rcases hA with e|e
  ·exact .inl (bA e.symm)
  ·rw [ku] at e
   injection e with e
   exact .inr e
 have h1:aF (fun x=>(Z x\/∃a,B=some a/\a.block=x)\/∃a,B'=some a/\a.block=x) W c t:=h.more fun k hk hx=>by
  rcases hx with hx|⟨a,ha,rfl⟩
  ·exact hx
  ·rcases hb a ha with e|e
   ·exact .inr e
   ·omega
 have h2:=h1.fr (Fr.grown (X:=fun x=>(aO B n cb).ownBlock=some x) hg fun k hk=>hk) fun k _ hk=>by
  obtain ⟨a,h3,h4⟩:=bA hk;exact .inl (.inr ⟨a,h3,h4⟩)
 have h3:=h2.fr ((Fr.refl (fun x=>x=g) w2).setCell (p:=⟨g,o,none⟩) (.inl rfl) v) fun k _ hk=>by
  subst hk;exact .inl (.inl hZ)
 exact h3.more fun k _ hx=>by
  rcases hx with hx|hx
  ·exact .inl (.inl hx)
  ·exact .inr hx
theorem Yo (h:aF (mq X g A B) W c t) (hg:W.grownBy w2 ((aO B n cb).ownBlock))
  (hA:(aO B' n' cb').ownBlock=(aO B n cb).ownBlock\/(aO B' n' cb').ownBlock=some W.heap.size) (v:Value):aF (mq X g A B') (w2.setCell ⟨g,o,none⟩ v) c t:=by
 have h1:aF (fun x=>(X x\/x=g\/∃a,A=some a/\a.block=x)\/∃a,B=some a/\a.block=x) W c t:=h.more fun k _ hx=>by
  rcases hx with (hx|hx|hx)|hx
  ·exact .inl hx
  ·exact .inr (.inl hx)
  ·exact .inr (.inr (.inl hx))
  ·exact .inr (.inr (.inr hx))
 exact (TM (o:=o) h1 (.inr (.inl rfl)) hg hA v).more fun k _ hx=>by
  rcases hx with hx|hx|hx|hx
  ·exact .inl (.inl hx)
  ·exact .inl (.inr (.inl hx))
  ·exact .inl (.inr (.inr hx))
  ·exact .inr hx
theorem aeO {A':Option Addr} (h:aF (mq X g A B) W c t) (hg:W.grownBy w2 ((aO A n cb).ownBlock))
  (hA:(aO A' n' cb').ownBlock=(aO A n cb).ownBlock\/(aO A' n' cb').ownBlock=some W.heap.size) (v:Value):aF (mq X g A' B) (w2.setCell ⟨g,o,none⟩ v) c t:=by
 have h1:aF (fun x=>(X x\/x=g\/∃a,B=some a/\a.block=x)\/∃a,A=some a/\a.block=x) W c t:=h.more fun k _ hx=>by
  rcases hx with (hx|hx|hx)|hx
  ·exact .inl hx
  ·exact .inr (.inl hx)
  ·exact .inr (.inr (.inr hx))
  ·exact .inr (.inr (.inl hx))
 exact (TM (o:=o) h1 (.inr (.inl rfl)) hg hA v).more fun k _ hx=>by
  rcases hx with hx|hx|hx|hx
  ·exact .inl (.inl hx)
  ·exact .inl (.inr (.inl hx))
  ·exact .inr hx
  ·exact .inl (.inr (.inr hx))
theorem OX (h:aF (mq X g A B) W c t):aF X W c t:=h.more fun _ _ hx=>.inl hx
end
theorem oG.kid {base g:Nat} {k n:Int} {lv tv:Value} {B:Option Addr} {cb:Nat} {bs:List Nat} {w w':World} (h:oG base g k n lv B cb bs tv w) (hg:w.grownBy w' ((aO B bs.length cb).ownBlock)):w'.heap[g]?=w.heap[g]?:=by
 have hlt:g<w.heap.size:=(ade.1 h.blk).1
 exact hg.block g hlt fun e=>by
  obtain ⟨a2,rfl,e2⟩:=bA e.symm;exact h.gb a2 rfl e2
theorem oG.kx {X:Nat->Prop} {base g:Nat} {k n:Int} {lv tv:Value} {B:Option Addr} {cb:Nat} {bs:List Nat} {w:World} (h:oG base g k n lv B cb bs tv w) {x:Nat} (hx:mq X g none B x):X x\/(base<=x/\x<w.heap.size):=by
 rcases hx with hx|rfl|⟨a,ha,_⟩|⟨a,rfl,rfl⟩
 ·exact .inl hx
 ·exact .inr ⟨h.lo,(ade.1 h.blk).1⟩
 ·cases ha
 ·exact .inr (h.kb.block a.block rfl)
attribute [local go_sem ↓] Go.wp_at_zero Go.wp_at_succ
theorem acp:(Try.prog.info? 93).map (fun i=>(i.zero,i.size,i.bytes))=some (some (.pointer none),1,8):=by kernel_rfl
theorem TN:(Try.prog.info? 9).map (fun i=>(i.zero,i.size,i.bytes))=some (some (.string pR),1,16):=by kernel_rfl
theorem qG {α:Type} {enc:α->List Value} (w:World) (x:α) (u:Value) (t:TypeId) (he:enc x=[u]):aX 1 enc (w.alloc (.cells #[u] t)) (w.heap.size+1) (some ⟨w.heap.size,0,none⟩) [x]:=fun _=>by
 refine ⟨w.heap.size,0,rfl,by omega,fun i y hi j v hj=>?_⟩
 cases i with
 |succ i=>simp at hi
 |zero=>
  simp only [ad2,Option.some.injEq] at hi;subst hi;rw [he] at hj
  cases j with
  |succ j=>simp at hj
  |zero=>
   simp only [ad2,Option.some.injEq] at hj;subst hj;show (w.alloc (.cells #[u] t)).cell? ⟨w.heap.size,0+0*1+0,none⟩=some u;simp only [adw,heap_alloc_new];rfl
theorem EI {w:World} {ops:Array Oper} {o:Oper} {a:Act} {K:Act->World->Prop} {Q:Exit->Act->World->Prop} {E:Prop} (hgd:o.guard=none) (s x:Operand)
  (ho:o.op= .call {callee:=.builtin .append,args:=#[s,x],argTypes:=#[103,103]})
  (base:Nat) {A:Option Addr} {cap:Nat} {l:List Nat} (hs:a.eval s= .slice A l.length cap) (hown:aA 93 1 lC w base A cap l) {B:Nat} {A2:Option Addr} {c:Nat} {l2:List Nat} (hx:a.eval x= .slice A2 l2.length c) (hr:aX 1 lC w B A2 l2)
  (hlen:l.length+l2.length<=1000000000000) (hbase:base<=w.heap.size)
  (h:∀A' cap' w',aA 93 1 lC w' base A' cap' (l++l2)->w.grownBy w' ((aO A l.length cap).ownBlock)->
   ((aO A' (l.length+l2.length) cap').ownBlock=(aO A l.length cap).ownBlock\/(aO A' (l.length+l2.length) cap').ownBlock=some w.heap.size)->K (a.put o.dst (.slice A' (l.length+l2.length) cap')) w'):if aaH o (yielded ops a.tmps)=true then Oper.wp Try.prog o a w K Q else E:=by
 obtain ⟨i0,hi,hz0,hz1,hz2⟩:=info_parts acp;have hw:aaH o (yielded ops a.tmps)=true:=by simp [aaH,hgd]
 rw [if_pos hw];exact E5 w uf OV s x 103 ho base 93 i0 _ 8 Try.underlying103 hi hz0 hz1 hz2 rfl (by decide) hs hown hx hr (by unfold maxLen;omega) (by omega) hbase h
theorem LW {w:World} {ops:Array Oper} {o:Oper} {a:Act} {K:Act->World->Prop} {Q:Exit->Act->World->Prop} {E:Prop} (hgd:o.guard=none) (s x:Operand)
  (ho:o.op= .call {callee:=.builtin .append,args:=#[s,x],argTypes:=#[95,95]})
  (base:Nat) {A:Option Addr} {cap:Nat} {l:List ByteArray} (hs:a.eval s= .slice A l.length cap) (hown:aA 9 1 nT w base A cap l) {B:Nat} {A2:Option Addr} {c:Nat} {l2:List ByteArray} (hx:a.eval x= .slice A2 l2.length c) (hr:aX 1 nT w B A2 l2)
  (hlen:l.length+l2.length<=1000000000000) (hbase:base<=w.heap.size)
  (h:∀A' cap' w',aA 9 1 nT w' base A' cap' (l++l2)->w.grownBy w' ((aO A l.length cap).ownBlock)->
   ((aO A' (l.length+l2.length) cap').ownBlock=(aO A l.length cap).ownBlock\/(aO A' (l.length+l2.length) cap').ownBlock=some w.heap.size)->K (a.put o.dst (.slice A' (l.length+l2.length) cap')) w'):if aaH o (yielded ops a.tmps)=true then Oper.wp Try.prog o a w K Q else E:=by
 obtain ⟨i0,hi,hz0,hz1,hz2⟩:=info_parts TN;have hw:aaH o (yielded ops a.tmps)=true:=by simp [aaH,hgd]
 rw [if_pos hw];exact E5 w y9 OW s x 95 ho base 9 i0 _ 16 Try.underlying95 hi hz0 hz1 hz2 rfl (by decide) hs hown hx hr (by unfold maxLen;omega) (by omega) hbase h
theorem aX.child {w:World} {B:Nat} {A:Option Addr} {l:List (ByteArray×Nat)} (h:aX 2 jY w B A l) {i:Nat} {c:ByteArray×Nat} (hn:l[i]?=some c):
  ∃b o,A=some ⟨b,o,none⟩/\b<B/\w.cell? ⟨b,o+i*2,none⟩=some (.string c.1)/\w.cell? ⟨b,o+i*2+1,none⟩=some (.pointer (some ⟨c.2,0,none⟩)):=by
 obtain ⟨b,o,e,hb,hr⟩:=h (by rintro rfl;simp at hn);exact ⟨b,o,e,hb,hr i c hn 0 _ rfl,hr i c hn 1 _ rfl⟩
theorem fT.lab {base g:Nat} {k n:Int} {tv:Value} {A B:Option Addr} {ca cb:Nat} {ls:List ByteArray} {bs:List Nat} {w w':World} (h:fT base g k n A ca ls B cb bs tv w) (hg:w.grownBy w' ((aO A ls.length ca).ownBlock)):w'.heap[g]?=w.heap[g]?:=by
 have hlt:g<w.heap.size:=(ade.1 h.nk.blk).1
 exact hg.block g hlt fun e=>by
  obtain ⟨a2,rfl,e2⟩:=bA e.symm;exact h.ga a2 rfl e2
theorem fT.kid {base g:Nat} {k n:Int} {tv:Value} {A B:Option Addr} {ca cb:Nat} {ls:List ByteArray} {bs:List Nat} {w w':World} (h:fT base g k n A ca ls B cb bs tv w) (hg:w.grownBy w' ((aO B bs.length cb).ownBlock)):w'.heap[g]?=w.heap[g]?:=by
 have hlt:g<w.heap.size:=(ade.1 h.nk.blk).1
 exact hg.block g hlt fun e=>by
  obtain ⟨a2,rfl,e2⟩:=bA e.symm;exact h.nk.gb a2 rfl e2
def SL (g x:Nat) (A:Option Addr) (n ca:Nat) (c:ByteArray×Nat) (v:World):Prop:=
 v.cell? ⟨g,2,none⟩=some (.slice A n ca)/\v.frozen? ⟨g,2,none⟩=false/\v.cell? ⟨x,0,none⟩=some (.string c.1)
theorem SL.of {g x:Nat} {A:Option Addr} {n ca:Nat} {c:ByteArray×Nat} {w v:World} (h:SL g x A n ca c w) (hg:v.heap[g]?=w.heap[g]?) (hx:v.heap[x]?=w.heap[x]?):SL g x A n ca c v:=
 ⟨(adN (w:=w) hg).trans h.1,(adP (w:=w) hg).trans h.2.1,(adN (w:=w) hx).trans h.2.2⟩
theorem SL.aU {g x:Nat} {A:Option Addr} {n ca:Nat} {c:ByteArray×Nat} {w v:World} (h:SL g x A n ca c w) (hb:Below w.heap.size w v) (hg:g<w.heap.size) (hx:x<w.heap.size):SL g x A n ca c v:=h.of (hb.block g hg) (hb.block x hx)
theorem aeP (kind:Int) (C:Option Addr) (cc:Nat) (cl:List (ByteArray×Nat)) (tv:Value) (ht:(∃a,tv= .pointer a)) (w:World) (hC:aX 2 jY w w.heap.size C cl) (hl:cl.length<=1000000):
  Calls Try.prog 179 #[.int .i64 kind,.slice C cl.length cc,tv] w fun e w'=>∃g A ca B cb,e= .returned (pk g)/\fT w.heap.size g kind 0 A ca (cl.map (·.1)) B cb (cl.map (·.2)) tv w'/\Below w.heap.size w w':=by
 obtain ⟨ta,rfl⟩:=ht;have HC:=aC hC;clear hC;unfold pk;have M0:=aC (fT.start w kind 0 (.pointer ta) w.heap.size (bN _));go_enter Try.func179,Try.ntmps179;go_wp2_with fail;go_loopw [16] (fun s16 wr=>∃(i:Nat) (A:Option Addr) (ca:Nat) (B:Option Addr) (cb:Nat),s16= .int .i64 i/\i<=cl.length/\Hid (fT w.heap.size w.heap.size kind 0 A ca ((cl.take i).map (·.1)) B cb ((cl.take i).map (·.2)) (.pointer ta) wr/\Below w.heap.size w wr)) (fun s16 _=>cl.length-(intOf s16).toNat)
 case atStart=>exact ⟨0,none,0,none,0,rfl,h_ _,aC ⟨M0.out,(aT _ _).alloc (bN _) _⟩⟩
 case round=>
  obtain ⟨i,A,ca,B,cb,rfl,hi,M⟩:=hrel;clear M0;by_cases hp:i<cl.length
  ·obtain ⟨c,hc⟩:=aD hp
   obtain ⟨b,o,rfl,hb,k0,k1⟩:=aX.child (HC.out.below M.out.2) hc;have ht1:cl.take (i+1)=cl.take i++[c]:=by rw [GZ,hc];rfl
   have Ht1:=aC ht1;have hlen:(adR (fun x=>x.1) (cl.take i)).length<=1000000:=by simp;omega
   have amQ:(adR (fun x=>x.2) (cl.take i)).length<=1000000:=by simp;omega
   have Hc:=aC hc;clear hc ht1;generalize hls:adR (fun x=>x.1) (cl.take i)=ls at*;generalize hbs:adR (fun x=>x.2) (cl.take i)=bs at*;have Hls:=aC hls;have Hbs:=aC hbs;clear hls hbs;go_wp2_with fail;clear k0 k1 hb;have hx:=heap_alloc_new wr (.cells #[.string c.1,.pointer (some ⟨c.2,0,none⟩)] 150);have hle:=M.out.2.size;have M5:=aC (M.out.1.step (Fr.alloc (Fr.refl (fun _=>False) wr) (.cells #[.string c.1,.pointer (some ⟨c.2,0,none⟩)] 150)) (fun _ e=>e.elim));have B5:=aC (ak M.out.2 (.cells #[.string c.1,.pointer (some ⟨c.2,0,none⟩)] 150));have hz5:(wr.alloc (.cells #[.string c.1,.pointer (some ⟨c.2,0,none⟩)] 150)).heap.size=wr.heap.size+1:=by simp
   generalize hW0:wr.alloc (.cells #[.string c.1,.pointer (some ⟨c.2,0,none⟩)] 150)=W0 at*;have hgl:w.heap.size<W0.heap.size:=(ade.1 M5.out.nk.blk).1;obtain ⟨_,_,g2,_,_,f2,_,_⟩:=M5.out.nk.cells;have S5:Hid (SL w.heap.size wr.heap.size A ls.length ca c W0):=aC ⟨g2,f2,by simp [adw,hx]⟩;have HX:=aC hx;have LA:=aC (fun q (hq:(aO A ls.length ca).ownBlock=some q)=>(M.out.1.la.block q hq).2);clear hW0 g2 f2 hx;have WE:=aC hz5;clear hz5;obtain ⟨g2,f2,x0⟩:=S5.out;have fl:Hid (w.heap.size≠wr.heap.size):=aC (by have:=WE.out;have h7:=(ade.1 M.out.1.nk.blk).1;omega);go_cut [] (fun wx=>∃(A2:Option Addr) (JR:Nat),Hid (fT w.heap.size w.heap.size kind 0 A2 JR (ls++[c.1]) B cb bs (.pointer ta) wx/\Below w.heap.size w wx/\wx.heap[wr.heap.size]?=W0.heap[wr.heap.size]?))
   case first=>
    go_region_law
     (first
      |(refine LW (by rfl) _ _ (by rfl) w.heap.size (l:=ls) (by rfl) (M5.out.step (Fr.below (X:=fun _=>False) (by first|exact (ak (aT _ _) _).drew|exact ak (aT _ _).drew _|exact ak (aT _ _) _)) (fun _ e=>e.elim)).la (l2:=[c.1]) (A2:=some ⟨W0.heap.size,0,none⟩) (c:=1) (B:=W0.heap.size+1) (by rfl) (qG _ c.1 _ _ rfl) (by simp;omega) (by simp;omega) ?_;intro A2 JR w2 hown2 hg2 hA2;have M6:=aC (fT.aco (M5.out.step (Fr.below (X:=fun _=>False) (by first|exact (ak (aT _ _) _).drew|exact ak (aT _ _).drew _|exact ak (aT _ _) _)) (fun _ e=>e.elim)) hown2 hg2 hA2);have S6:=aC ((S5.out.aU (by first|exact (ak (aT _ _) _).drew|exact ak (aT _ _).drew _|exact ak (aT _ _) _) hgl (by have:=WE.out;omega)).of (fT.lab (M5.out.step (Fr.below (X:=fun _=>False) (by first|exact (ak (aT _ _) _).drew|exact ak (aT _ _).drew _|exact ak (aT _ _) _)) (fun _ e=>e.elim)) hg2) (hg2.block wr.heap.size (by have:=WE.out;simp;omega) (fun e=>by have:=LA.out _ e.symm;omega)));have B6:=aC (eG (B5.out.trans (adS (by first|exact (ak (aT _ _) _).drew|exact ak (aT _ _).drew _|exact ak (aT _ _) _) (adV hgl))) hg2 (fun q hq=>(M5.out.la.block q hq).1));obtain ⟨q1,q2,q3⟩:=S6.out;have X6:=aC ((hg2.block wr.heap.size (by have:=WE.out;simp;omega) (fun e=>by have:=LA.out _ e.symm;omega)).trans (adX (B:=W0.heap.size) (w:=W0) (by first|exact (ak (aT _ _) _).drew|exact ak (aT _ _).drew _|exact ak (aT _ _) _) wr.heap.size (by have:=WE.out;omega)));have Z6:=aC hg2.size;clear hown2 hg2 hA2))
    all_goals
     go_wp2_with fail;go_meet;exact ⟨A2,JR,aC ⟨M6.out,B6.out.setCell (p:=⟨w.heap.size,2,none⟩) (bN _) _,(ad3 _ _ _ _ (fun e=>fl.out e.symm)).trans X6.out⟩⟩
   case rest=>
    obtain ⟨A2,JR,M6⟩:=hcut;clear M5 B5 S5 g2 f2 x0 M LA;have hlc:w.heap.size<wc.heap.size:=(ade.1 M6.out.1.nk.blk).1;have hx6:=M6.out.2.2.trans HX.out;have hxl:Hid (wr.heap.size<wc.heap.size):=aC (ade.1 hx6).1;obtain ⟨_,_,_,g3,_,_,f3,_⟩:=M6.out.1.nk.cells;have x1:wc.cell? ⟨wr.heap.size,1,none⟩=some (.pointer (some ⟨c.2,0,none⟩)):=by simp [adw,hx6]
    clear hx6;go_wp2_with fail
    go_region_law
     (first
      |(refine EI (by rfl) _ _ (by rfl) w.heap.size (l:=bs) (by rfl) (M6.out.1.step (Fr.below (X:=fun _=>False) (by first|exact (ak (aT _ _) _).drew|exact ak (aT _ _).drew _|exact ak (aT _ _) _)) (fun _ e=>e.elim)).nk.kb (l2:=[c.2]) (A2:=some ⟨wc.heap.size,0,none⟩) (c:=1) (B:=wc.heap.size+1) (by rfl) (qG _ c.2 _ _ rfl) (by simp;omega) (by simp;omega) ?_;intro B2 Ct w2 hown2 hg2 hA2;have M7:=aC (fT.acn (M6.out.1.step (Fr.below (X:=fun _=>False) (by first|exact (ak (aT _ _) _).drew|exact ak (aT _ _).drew _|exact ak (aT _ _) _)) (fun _ e=>e.elim)) hown2 hg2 hA2);have e7:=fT.kid (M6.out.1.step (Fr.below (X:=fun _=>False) (by first|exact (ak (aT _ _) _).drew|exact ak (aT _ _).drew _|exact ak (aT _ _) _)) (fun _ e=>e.elim)) hg2;have e8:=e7.trans (adX (B:=wc.heap.size) (w:=wc) (by first|exact (ak (aT _ _) _).drew|exact ak (aT _ _).drew _|exact ak (aT _ _) _) w.heap.size hlc);have q5:=(adN (a:=⟨w.heap.size,3,none⟩) e8).trans g3;have q6:=(adP (a:=⟨w.heap.size,3,none⟩) e8).trans f3;have B7:=aC (eG (M6.out.2.1.trans (adS (by first|exact (ak (aT _ _) _).drew|exact ak (aT _ _).drew _|exact ak (aT _ _) _) (adV hlc))) hg2 (fun q hq=>(M6.out.1.nk.kb.block q hq).1));clear hown2 hg2 hA2 e7 e8))
    all_goals
     go_wp2_with fail;go_roundw
     case rel=>exact ⟨i+1,A2,JR,B2,Ct,by go_num,hp,aC ⟨by rw [Ht1.out,abl,abl,Hls.out,Hbs.out];exact M7.out,B7.out.setCell (p:=⟨w.heap.size,3,none⟩) (bN _) _⟩⟩
     case measure=>simp [intOf];omega
  ·go_wp2_with fail
   go_ret;have e:i=cl.length:=by omega
   subst e;have M1:=M.out;rw [List.take_length] at M1;exact ⟨_,A,ca,B,cb,rfl,M1.1,M1.2⟩
section
variable {X:Nat->Prop} {g o n n' cb cb':Nat} {A B B':Option Addr} {W w2:World} {K:Option Addr} {kl:List Int}
theorem OY {Z:Nat->Prop} (h:dH (fun x=>Z x\/∃a,B=some a/\a.block=x) 1 encI W K kl) (hZ:Z g) (hg:W.grownBy w2 ((aO B n cb).ownBlock))
  (hA:(aO B' n' cb').ownBlock=(aO B n cb).ownBlock\/(aO B' n' cb').ownBlock=some W.heap.size) (v:Value):dH (fun x=>Z x\/∃a,B'=some a/\a.block=x) 1 encI (w2.setCell ⟨g,o,none⟩ v) K kl:=by
 have hb:∀a,B'=some a->(∃a2,B=some a2/\a2.block=a.block)\/a.block=W.heap.size:=by
  rintro a rfl;rcases hA with e|e
  ·exact .inl (bA e.symm)
  ·rw [ku] at e
   injection e with e
   exact .inr e
 have h1:dH (fun x=>(Z x\/∃a,B=some a/\a.block=x)\/∃a,B'=some a/\a.block=x) 1 encI W K kl:=h.more fun k hk hx=>by
  rcases hx with hx|⟨a,ha,rfl⟩
  ·exact hx
  ·rcases hb a ha with e|e
   ·exact .inr e
   ·omega
 have h2:=h1.fr (Fr.grown (X:=fun x=>(aO B n cb).ownBlock=some x) hg fun k hk=>hk) fun k _ hk=>by
  obtain ⟨a,h3,h4⟩:=bA hk;exact .inl (.inr ⟨a,h3,h4⟩)
 have h3:=h2.fr ((Fr.refl (fun x=>x=g) w2).setCell (p:=⟨g,o,none⟩) (.inl rfl) v) fun k _ hk=>by
  subst hk;exact .inl (.inl hZ)
 exact h3.more fun k _ hx=>by
  rcases hx with hx|hx
  ·exact .inl (.inl hx)
  ·exact .inr hx
theorem acu (h:dH (mq X g A B) 1 encI W K kl) (hg:W.grownBy w2 ((aO B n cb).ownBlock))
  (hA:(aO B' n' cb').ownBlock=(aO B n cb).ownBlock\/(aO B' n' cb').ownBlock=some W.heap.size) (v:Value):dH (mq X g A B') 1 encI (w2.setCell ⟨g,o,none⟩ v) K kl:=by
 have h1:dH (fun x=>(X x\/x=g\/∃a,A=some a/\a.block=x)\/∃a,B=some a/\a.block=x) 1 encI W K kl:=h.more fun k _ hx=>by
  rcases hx with (hx|hx|hx)|hx
  ·exact .inl hx
  ·exact .inr (.inl hx)
  ·exact .inr (.inr (.inl hx))
  ·exact .inr (.inr (.inr hx))
 exact (OY (o:=o) h1 (.inr (.inl rfl)) hg hA v).more fun k _ hx=>by
  rcases hx with hx|hx|hx|hx
  ·exact .inl (.inl hx)
  ·exact .inl (.inr (.inl hx))
  ·exact .inl (.inr (.inr hx))
  ·exact .inr hx
theorem acv {A':Option Addr} (h:dH (mq X g A B) 1 encI W K kl) (hg:W.grownBy w2 ((aO A n cb).ownBlock))
  (hA:(aO A' n' cb').ownBlock=(aO A n cb).ownBlock\/(aO A' n' cb').ownBlock=some W.heap.size) (v:Value):dH (mq X g A' B) 1 encI (w2.setCell ⟨g,o,none⟩ v) K kl:=by
 have h1:dH (fun x=>(X x\/x=g\/∃a,B=some a/\a.block=x)\/∃a,A=some a/\a.block=x) 1 encI W K kl:=h.more fun k _ hx=>by
  rcases hx with (hx|hx|hx)|hx
  ·exact .inl hx
  ·exact .inr (.inl hx)
  ·exact .inr (.inr (.inr hx))
  ·exact .inr (.inr (.inl hx))
 exact (OY (o:=o) h1 (.inr (.inl rfl)) hg hA v).more fun k _ hx=>by
  rcases hx with hx|hx|hx|hx
  ·exact .inl (.inl hx)
  ·exact .inl (.inr (.inl hx))
  ·exact .inr hx
  ·exact .inl (.inr (.inr hx))
theorem dH.ahs (h:dH X 1 encI W K kl) {i:Nat} {c:Int} (hc:kl[i]?=some c):∃bb oo,K=some ⟨bb,oo,none⟩/\¬X bb/\bb<W.heap.size/\W.cell? ⟨bb,oo+i,none⟩=some (.int .i64 c):=by
 obtain ⟨bb,oo,e,h1,h2,hr⟩:=h (by rintro rfl;simp at hc);refine ⟨bb,oo,e,h1,h2,?_⟩;have:=hr i c hc 0 _ rfl;simpa using this
end
def Jw (ts:List Nd):Prop:=ko ts\/∃n,0<=n/\ts=[⟨9,pR,n⟩]
theorem ko.dF {ts:List Nd} (h:ko ts):dF ts:=by
 induction h with
 |mk x aG ok k9 tr ch row els tl ih=>
  intro y hy;rcases Gz.1 hy with rfl|hy
  ·exact ok
  ·obtain ⟨t,ht,hy⟩:=aam.1 hy
   rw [<-lN aG] at ht;rcases JQ.1 ht with ht|ht
   ·exact ih t ht y hy
   ·obtain ⟨n,h0,rfl⟩:=tl t ht
    simp at hy;subst hy;simp [bX,h0]
theorem ko.fo1 {ts:List Nd} (h:ko ts):Fo 1 ts:=by
 cases h with
 |mk x aG ok k9 tr ch row els tl=>
  have:=Fo.cons (n:=0) tr.fo Fo.zero;simpa using this
theorem ko.aht {ts:List Nd} (h:ko ts):(bB ts).k≠9:=by
 cases h with
 |mk x aG ok k9 tr ch row els tl=>exact k9
theorem Jw.dF {ts:List Nd} (h:Jw ts):Proofs.Ytblfeokjlecgkaa.dF ts:=by
 rcases h with h|⟨n,h0,rfl⟩
 ·exact h.dF
 ·intro y hy;simp at hy;subst hy;simp [bX,h0]
theorem Jw.fo {ts:List Nd} (h:Jw ts):Fo 1 ts:=by
 rcases h with h|⟨n,h0,rfl⟩
 ·exact h.fo1
 ·rfl
theorem LX {T:List Nd}:∀(aG:List (List Nd)) (at_:Nat) (rest:List Nd),T.drop at_=aG.flatten++rest->(∀z∈aG,Fo 1 z/\dF z)->
  (bE T aG.length at_).length=aG.length/\∀(j:Nat) (ts:List Nd),aG[j]?=some ts->∃p r2,(bE T aG.length at_)[j]?=some p/\T.drop p=ts++r2
 |[],_,_,_,_=>⟨rfl,fun j ts h=>by simp at h⟩
 |z::zs,at_,rest,hd,h1=>by
  rw [List.flatten_cons,List.append_assoc] at hd;obtain ⟨hz1,hz2⟩:=h1 z (by simp);have hlt:=nA hd hz1.pos;obtain ⟨i1,i2⟩:=LX zs (at_+z.length) rest (kP hd) fun y hy=>h1 y (by simp [hy]);rw [Bl,iH hlt,jI hd hz2 hz1];refine ⟨by rw [Bl,i1],fun j ts h=>?_⟩
  cases j with
  |zero=>
   simp at h;subst h
   exact ⟨at_,_,rfl,hd⟩
  |succ j=>
   obtain ⟨p,r2,e1,e2⟩:=i2 j ts (by simpa using h);exact ⟨p,r2,by simpa using e1,e2⟩
def aeQ (X:Nat->Prop) (w:World) (g:Nat) (ts:List Nd):Prop:=(ko ts->aF X w g (dI ts))/\∀n,ts=[⟨9,pR,n⟩]->cO X w (pk g) (some n)
def OZ (X:Nat->Prop) (ts:List Nd) (w:World) (e:Ending) (w':World):Prop:=∃g,e= .returned (pk g)/\aeQ X w' g ts/\Below w.heap.size w w'/\w.heap.size<=g
def TP (ts:List Nd):Prop:=∀(X:Nat->Prop) (T rest:List Nd) (i:Nat) (A:Option Addr) (c:Nat) (w:World),aM w w.heap.size A T->T.length<=1000000->T.drop i=ts++rest->(∀k,X k->k<w.heap.size)->
 Calls Try.prog 58 #[.slice A T.length c,.int .i64 (i:Int)] w (OZ X ts w)
theorem aM.cells {w:World} {B b1 o1:Nat} {xs:List Nd} (h:aM w B (some ⟨b1,o1,none⟩) xs) {i:Nat} {x:Nd} (hx:xs[i]?=some x):
  b1<B/\w.cell? ⟨b1,o1+i*3,none⟩=some (.int .i64 x.k)/\w.cell? ⟨b1,o1+i*3+1,none⟩=some (.string x.s)/\w.cell? ⟨b1,o1+i*3+2,none⟩=some (.int .i64 x.n):=by
 obtain ⟨b,o,e,h1,h2,h3,h4⟩:=h.at_ hx;injection e with e
 injection e with e1 e2
 subst e1 e2;exact ⟨h1,h2,h3,h4⟩
theorem WG {aG:List (List Nd)} (lof:∀ts∈bI aG,ko ts) {j:Nat} {ts:List Nd} (h:aG[j]?=some ts) (tof:∀ts∈jA aG,∃n,0<=n/\ts=[⟨9,pR,n⟩]):
  ((bI aG)[j]?=some ts/\ko ts/\((bB ts).k==9)=false)\/(j=(bI aG).length/\jA aG=[ts]/\((bB ts).k==9)=true/\aG.length=j+1):=by
 have e:=lN aG;rcases Nat.lt_or_ge j (bI aG).length with hj|hj
 ·left
  have h1:(bI aG)[j]?=some ts:=by
   rw [<-e,aaM hj] at h;exact h
  have hg:=lof ts (Yt h1);refine ⟨h1,hg,?_⟩
  cases hg with
  |mk x aG ok k9=>simpa [bB] using k9
 ·right
  have hlt:=bf h;have h2:=FD aG;rcases FC aG with e1|⟨t,e1⟩
  ·rw [e1] at h2;simp at h2;omega
  ·rw [e1] at h2
   simp at h2;have hj2:j=(bI aG).length:=by omega
   rw [<-e,zA hj,e1,hj2,Nat.sub_self] at h;simp at h;subst h;obtain ⟨n,_,ht⟩:=tof t (by rw [e1];simp);exact ⟨hj2,e1,by rw [ht];rfl,by omega⟩
structure acw (X:Nat->Prop) (x:Nd) (aG:List (List Nd)) (K:Option Addr) (kl:List Int) (w:World) (j:Nat) (A2:Option Addr) (ca:Nat) (ls:List ByteArray) (B2:Option Addr) (cb:Nat) (bs:List Nat) (tv:Option Addr) (wr:World):Prop where
 nm:fT w.heap.size w.heap.size x.k (if bZ x.k=true then x.n else 0) A2 ca ls B2 cb bs (.pointer tv) wr
 ls:ls=dW ((bI aG).take j)
 bl:bs.length=min j (bI aG).length
 ch:∀(i:Nat) (c:Nat) (ts:List Nd),bs[i]?=some c->(bI aG)[i]?=some ts->aF (mq X w.heap.size A2 B2) wr c (dI ts)
 t0:j<=(bI aG).length->tv=none
 t1:(bI aG).length<j->cO (mq X w.heap.size A2 B2) wr (.pointer tv) (u6 aG)
 kk:dH (mq X w.heap.size A2 B2) 1 encI wr K kl
 be:Below w.heap.size w wr
 z:j=0->A2=none/\ca=0/\B2=none/\cb=0
structure ahu (X:Nat->Prop) (x:Nd) (aG:List (List Nd)) (K:Option Addr) (kl:List Int) (w:World) (A2:Option Addr) (ca:Nat) (ls:List ByteArray) (B2:Option Addr) (cb:Nat) (bs:List Nat) (tv:Option Addr) (wr:World):Prop where
 nm:fT w.heap.size w.heap.size x.k (if bZ x.k=true then x.n else 0) A2 ca ls B2 cb bs (.pointer tv) wr
 ch:∀(i:Nat) (c:Nat) (ts:List Nd),bs[i]?=some c->(bI aG)[i]?=some ts->aF (mq X w.heap.size A2 B2) wr c (dI ts)
 kk:dH (mq X w.heap.size A2 B2) 1 encI wr K kl
 be:Below w.heap.size w wr
theorem fT.setTail {base g:Nat} {k n:Int} {tv:Value} {A B:Option Addr} {ca cb:Nat} {ls:List ByteArray} {bs:List Nat} {w:World} (h:fT base g k n A ca ls B cb bs tv w) (v:Value):fT base g k n A ca ls B cb bs v (w.setCell ⟨g,4,none⟩ v):=
 ⟨h.nk.setTail v,h.la.kept (mP w ⟨g,4,none⟩ _) (fun q hq a ha=>by injection hq with hq;subst hq;exact h.ga a ha),h.ga,h.ab⟩
theorem LY (x:Nd) (aG:List (List Nd)) (ok:bX x.k x.n=true) (tr:Trees (manyN x) aG.flatten aG) (sub:∀ts∈aG,Jw ts) (lof:∀ts∈bI aG,ko ts) (tof:∀ts∈jA aG,∃n,0<=n/\ts=[⟨9,pR,n⟩]) (ih:∀ts∈aG,TP ts)
  (X:Nat->Prop) (T rest:List Nd) (i:Nat) (A:Option Addr) (c:Nat) (w:World) (ha:aM w w.heap.size A T) (hl:T.length<=1000000) (hd:T.drop i=(x::aG.flatten)++rest) (hX:∀k,X k->k<w.heap.size):
  Calls Try.prog 58 #[.slice A T.length c,.int .i64 (i:Int)] w fun e w'=>e= .returned (pk w.heap.size)/\∃K kl A2 ca ls B2 cb bs tv,acw X x aG K kl w aG.length A2 ca ls B2 cb bs tv w':=by
 have hx:T[i]?=some x:=by
  have:=congrArg (·[0]?) hd;simpa using this
 have hd1:T.drop (i+1)=aG.flatten++rest:=by
  rw [<-List.drop_drop,hd];rfl
 have hi:=bf hx;obtain ⟨b1,o1,rfl,hb1,c10,c11,c12⟩:=ha.at_ hx;have XP:aG.length<=50:=by rw [tr.len];exact vV ok
 have RV:dF aG.flatten:=fun y hy=>by
  obtain ⟨t,ht,hy⟩:=aam.1 hy;exact (sub t ht).dF y hy
 have hV:Hid (bZ x.k=true->aG.length=0):=aC fun h=>by
  have h89:x.k=8\/x.k=9:=by simpa [bZ] using h
  rw [tr.len];unfold manyN many;rw [if_neg (by omega)]
  have:av x.k=false:=by
   rcases h89 with e|e<;>rw [e]<;>rfl
  rw [this];rfl
 have acy:=aC fun W (hW:Below w.heap.size w W)=>Vt (some ⟨b1,o1,none⟩) c T aG.flatten rest x i W ((ha.below hW).more hW.size) hl hx ok hd1 RV tr.fo;obtain ⟨q1,q2⟩:=LX aG (i+1) rest hd1 fun z hz=>⟨(sub z hz).fo,(sub z hz).dF⟩;rw [tr.len] at q1 q2;have HQ:=aC (Gw q1 q2);have HA:=aC ha;have HX:=aC hX;have HF:=aC (Gw lof tof);have HI:=aC ih;have Hx:=aC hx;clear ok sub lof tof ih ha hd hd1 hX hx q1 q2 RV;have h0':(0:Int)<=(i:Int):=by omega
 have h1':(i:Int)<(T.length:Int):=by omega
 unfold pk;go_enter Try.func58,Try.ntmps58
 have hk3:((x.k==8)=true/\bZ x.k=true)\/((x.k==8)=false/\(x.k==9)=true/\bZ x.k=true)\/((x.k==8)=false/\(x.k==9)=false/\bZ x.k=false):=by
  unfold bZ
  cases (x.k==8)<;>cases (x.k==9)<;>simp
 have M0:=aC (fT.start w x.k 0 (.pointer none) w.heap.size (bN _));have B0:=aC ((aT w.heap.size w).alloc (bN _) (.cells #[.int .i64 x.k,.int .i64 0,.slice none 0 0,.slice none 0 0,.pointer none] 105));have M1:=aC (fT.start w x.k x.n (.pointer none) w.heap.size (bN _));have B1:=aC ((aT w.heap.size w).alloc (bN _) (.cells #[.int .i64 x.k,.int .i64 x.n,.slice none 0 0,.slice none 0 0,.pointer none] 105));go_upto_region 2 with fail
 rcases hk3 with ⟨e1,ev⟩|⟨e1,e2,ev⟩|⟨e1,e2,ev⟩
 all_goals
  have EV:=aC ev;clear ev;go_wp2_with fail;refine (acy.out _ ?_).mono ?_
  ·first|exact B0.out|exact B1.out
  rintro e w2 ⟨K,ck,rfl,hown,hb⟩
  have MM:Hid (fT w.heap.size w.heap.size x.k (if bZ x.k=true then x.n else 0) none 0 [] none 0 [] (.pointer none) w2/\Below w.heap.size w w2/\dH (mq X w.heap.size none none) 1 encI w2 K (nY (bE T (manyN x) (i+1)))):=aC (by
   have hf:=Fr.below (X:=fun _=>False) hb;refine ⟨?_,?_,?_⟩
   ·first
     |(rw [if_pos EV.out];exact M1.out.step hf (fun _ e=>e.elim))
     |(rw [if_neg (by rw [EV.out];simp)];exact M0.out.step hf (fun _ e=>e.elim))
   ·first|exact ah B0.out hb|exact ah B1.out hb
   ·refine dH.uF (fun _=>rfl) hown fun k h1 _ hk=>?_
    simp at h1;rcases hk with hk|hk|⟨a,hk,_⟩|⟨a,hk,_⟩
    ·have:=HX.out k hk;omega
    ·omega
    ·cases hk
    ·cases hk)
  clear hown hb M0 B0 M1 B1 acy;have hkl:(nY (bE T (manyN x) (i+1))).length=aG.length:=by rw [nY,aaT,HQ.out.1,tr.len]
  obtain ⟨kl,acz⟩:∃kl,kl=nY (bE T (manyN x) (i+1)):=⟨_,rfl⟩;rw [<-acz] at hkl MM ⊢;have HKL:=aC (fun (j p:Nat) (h:(bE T (manyN x) (i+1))[j]?=some p)=>(show kl[j]?=some (p:Int) by rw [acz,nY,adg,h];rfl));clear acz;rw [hkl];clear hkl;generalize hN0:(if bZ x.k=true then x.n else 0)=N0 at*;have Z7:=FD aG;have Z8:=aC Z7;go_wp2_with fail;go_loopw [39] (fun s39 wr=>∃(j:Nat) (A2:Option Addr) (ca:Nat) (ls:List ByteArray) (B2:Option Addr) (cb:Nat) (bs:List Nat) (tv:Option Addr),s39= .int .i64 j/\j<=aG.length/\Hid (acw X x aG K kl w j A2 ca ls B2 cb bs tv wr)) (fun s39 _=>aG.length-(intOf s39).toNat)
  case atStart=>exact ⟨0,none,0,[],none,0,[],none,rfl,h_ _,aC ⟨by rw [hN0];exact MM.out.1,by simp [dW],by simp,fun i c ts h=>(by simp at h),fun _=>rfl,fun h=>(by omega),MM.out.2.2,MM.out.2.1,fun _=>⟨rfl,rfl,rfl,rfl⟩⟩⟩
  case round=>
   obtain ⟨j,A2,ca,ls,B2,cb,bs,tv,rfl,hj,M⟩:=hrel;by_cases hp:j<aG.length
   ·first
     |exact absurd hp (by rw [hV.out EV.out];omega)
     |(obtain ⟨ts,hts⟩:=aD hp
       obtain ⟨p,r2,hkp,hdp⟩:=HQ.out.2 j ts hts;have hkl:=HKL.out j p hkp;obtain ⟨bb,oo,rfl,_,_,cc⟩:=M.out.kk.ahs hkl;have hcs:=WG HF.out.1 hts HF.out.2
       have hsub:Jw ts:=by
        rcases hcs with ⟨_,h,_⟩|⟨_,h,_⟩
        ·exact .inl h
        ·exact .inr (HF.out.2 ts (by rw [h];simp))
       have hpos:=hsub.fo.pos
       have hyp:T[p]?=some (bB ts):=by
        have:=congrArg (·[0]?) hdp;simp only [List.getElem?_drop,pO] at this;rw [this]
        cases ts with
        |nil=>simp at hpos
        |cons y ys=>rfl
       have hpT:=bf hyp;obtain ⟨_,k0,k1,k2⟩:=HA.out.cells hyp;have d0:=(M.out.be.cell (p:=⟨b1,o1+p*3,none⟩) hb1).trans k0;have d1:=(M.out.be.cell (p:=⟨b1,o1+p*3+1,none⟩) hb1).trans k1;have hp0:(0:Int)<=(p:Int):=by omega
       have hp1:(p:Int)<(T.length:Int):=by omega
       have hgl:w.heap.size<wr.heap.size:=(ade.1 M.out.nm.nk.blk).1
       have hKX:Hid (∀k,mq X w.heap.size A2 B2 k->k<wr.heap.size):=aC fun k hk=>by
        have hz:=M.out.be.size;rcases hk with hk|hk|⟨a,ha,hk⟩|⟨a,ha,hk⟩
        ·have:=HX.out k hk;omega
        ·omega
        ·have:=M.out.nm.la.block a.block (by rw [ha];exact ku);omega
        ·have:=M.out.nm.nk.kb.block a.block (by rw [ha];exact ku);omega
       have G:=aC (Gw hts (Gw hdp hsub));clear hkp hdp hkl k0 k1 k2 hyp hsub hpos hts;have hcall:Hid (∀(W:World) (Z:Nat->Prop),Below w.heap.size w W->(∀k,Z k->k<W.heap.size)->Calls Try.prog 58 #[.slice (some ⟨b1,o1,none⟩) T.length c,.int .i64 (p:Int)] W (OZ Z ts W)):=aC fun W Z hW hZ=>HI.out ts (Yt G.out.1) Z T r2 p (some ⟨b1,o1,none⟩) c W ((HA.out.below hW).more hW.size) hl G.out.2.1 hZ;rcases hcs with ⟨hlo,hg,h9⟩|⟨hjl,hto,h9,hlen⟩
       ·have Ie:=aC (Gw hlo hg)
        have htv:tv=none:=M.out.t0 (by have:=bf hlo;omega);subst htv;have aoX:=bf hlo;have hbe:Hid (bs.length=j):=aC (by rw [M.out.bl];omega);have hbl:bs.length<=100:=by rw [hbe.out];omega
        have hll:ls.length<=100:=by rw [M.out.ls,nK,List.length_take];omega
        obtain ⟨_,_,g2,_,_,f2,_,_⟩:=M.out.nm.nk.cells;clear hlo hg;go_wp2_with fail;go_cut [] (fun wx=>∃(A3:Option Addr) (WH:Nat),Hid (ahu X x aG (some ⟨bb,oo,none⟩) kl w A3 WH (ls++[(bB ts).s]) B2 cb bs none wx))
        case first=>
         go_region_law
          (first
           |(refine LW (by rfl) _ _ (by rfl) w.heap.size (l:=ls) (by rfl) (M.out.nm.step (Fr.below (X:=fun _=>False) (by first|exact (ak (aT _ _) _).drew|exact ak (aT _ _).drew _|exact ak (aT _ _) _)) (fun _ e=>e.elim)).la (l2:=[(bB ts).s]) (A2:=some ⟨wr.heap.size,0,none⟩) (c:=1) (B:=wr.heap.size+1) (by rfl) (qG _ _ _ _ rfl) (by simp;omega) (by simp;omega) ?_;intro A3 WH w2 hown2 hg2 hA2;have M6:=aC (fT.aco (M.out.nm.step (Fr.below (X:=fun _=>False) (by first|exact (ak (aT _ _) _).drew|exact ak (aT _ _).drew _|exact ak (aT _ _) _)) (fun _ e=>e.elim)) hown2 hg2 hA2);have e7:=fT.lab (M.out.nm.step (Fr.below (X:=fun _=>False) (by first|exact (ak (aT _ _) _).drew|exact ak (aT _ _).drew _|exact ak (aT _ _) _)) (fun _ e=>e.elim)) hg2;have e8:=e7.trans (adX (B:=wr.heap.size) (w:=wr) (by first|exact (ak (aT _ _) _).drew|exact ak (aT _ _).drew _|exact ak (aT _ _) _) w.heap.size hgl);have q5:=(adN (a:=⟨w.heap.size,2,none⟩) e8).trans g2;have q6:=(adP (a:=⟨w.heap.size,2,none⟩) e8).trans f2;have KD:=aC (fun (c:Nat) (t:Ut) (h:aF (mq X w.heap.size A2 B2) wr c t)=>aeO (o:=2) (h.aU (by first|exact (ak (aT _ _) _).drew|exact ak (aT _ _).drew _|exact ak (aT _ _) _)) hg2 hA2 (.slice A3 (ls.length+1) WH));have LD:=aC (acv (o:=2) (M.out.kk.fr (Fr.below (X:=fun _=>False) (by first|exact (ak (aT _ _) _).drew|exact ak (aT _ _).drew _|exact ak (aT _ _) _)) (fun _ _ e=>e.elim)) hg2 hA2 (.slice A3 (ls.length+1) WH));have B6:=aC (eG (M.out.be.trans (adS (by first|exact (ak (aT _ _) _).drew|exact ak (aT _ _).drew _|exact ak (aT _ _) _) (adV hgl))) hg2 (fun q hq=>(M.out.nm.la.block q hq).1));clear hown2 hg2 hA2 e7 e8))
         all_goals
          go_wp2_with fail;go_meet;exact ⟨A3,WH,aC ⟨M6.out,fun i c ts h1 h2=>KD.out c _ (M.out.ch i c ts h1 h2),LD.out,B6.out.setCell (p:=⟨w.heap.size,2,none⟩) (bN _) _⟩⟩
        case rest=>
         obtain ⟨A3,WH,C⟩:=hcut;clear g2 f2;have hgc:w.heap.size<wc.heap.size:=(ade.1 C.out.nm.nk.blk).1
         have aeT:Hid (∀W,Below wc.heap.size wc W->Calls Try.prog 58 #[.slice (some ⟨b1,o1,none⟩) T.length c,.int .i64 (p:Int)] W (fun e w'=>∃g,e= .returned (.pointer (some ⟨g,0,none⟩))/\aF (mq X w.heap.size A3 B2) w' g (dI ts)/\Below wc.heap.size wc w')):=aC fun W hW=>by
          refine (hcall.out W (mq X w.heap.size A3 B2) (ah C.out.be hW) fun k hk=>?_).mono ?_
          ·have hz:=C.out.be.size
           have hz2:=hW.size;rcases hk with hk|hk|⟨a,ha,hk⟩|⟨a,ha,hk⟩
           ·have:=HX.out k hk;omega
           ·omega
           ·have:=C.out.nm.la.block a.block (by rw [ha];exact ku);omega
           ·have:=C.out.nm.nk.kb.block a.block (by rw [ha];exact ku);omega
          ·rintro e w' ⟨g,he,h1,h2,_⟩
           exact ⟨g,he,h1.1 Ie.out.2,ah hW h2⟩
         obtain ⟨_,_,_,g3,_,_,f3,_⟩:=C.out.nm.nk.cells;go_wp2_with fail
         go_region_law
          (first
           |(refine EI (by rfl) _ _ (by rfl) w.heap.size (l:=bs) (by rfl) (M1.out.step (Fr.below (X:=fun _=>False) (by first|exact (ak (aT _ _) _).drew|exact ak (aT _ _).drew _|exact ak (aT _ _) _)) (fun _ e=>e.elim)).nk.kb (l2:=[g']) (A2:=some ⟨w1.heap.size,0,none⟩) (c:=1) (B:=w1.heap.size+1) (by rfl) (qG _ g' _ _ rfl) (by simp;omega) (by simp;omega) ?_;intro B3 WI w2 hown2 hg2 hA2;have M7:=aC (fT.acn (M1.out.step (Fr.below (X:=fun _=>False) (by first|exact (ak (aT _ _) _).drew|exact ak (aT _ _).drew _|exact ak (aT _ _) _)) (fun _ e=>e.elim)) hown2 hg2 hA2);have e7:=fT.kid (M1.out.step (Fr.below (X:=fun _=>False) (by first|exact (ak (aT _ _) _).drew|exact ak (aT _ _).drew _|exact ak (aT _ _) _)) (fun _ e=>e.elim)) hg2;have e8:=e7.trans (adX (B:=w1.heap.size) (w:=w1) (by first|exact (ak (aT _ _) _).drew|exact ak (aT _ _).drew _|exact ak (aT _ _) _) w.heap.size acA);have q5:=(adN (a:=⟨w.heap.size,3,none⟩) e8).trans g31;have q6:=(adP (a:=⟨w.heap.size,3,none⟩) e8).trans f31;have KD:=aC (fun (c:Nat) (t:Ut) (h:aF (mq X w.heap.size A3 B2) w1 c t)=>Yo (o:=3) (h.aU (by first|exact (ak (aT _ _) _).drew|exact ak (aT _ _).drew _|exact ak (aT _ _) _)) hg2 hA2 (.slice B3 (bs.length+1) WI));have LD:=aC (acu (o:=3) (L1.out.fr (Fr.below (X:=fun _=>False) (by first|exact (ak (aT _ _) _).drew|exact ak (aT _ _).drew _|exact ak (aT _ _) _)) (fun _ _ e=>e.elim)) hg2 hA2 (.slice B3 (bs.length+1) WI));have B7:=aC (eG (BB1.out.trans (adS (by first|exact (ak (aT _ _) _).drew|exact ak (aT _ _).drew _|exact ak (aT _ _) _) (adV acA))) hg2 (fun q hq=>(M1.out.nk.kb.block q hq).1));clear hown2 hg2 hA2 e7 e8)
           |(go_simp;(with_reducible refine (aeT.out _ ?_).mono ?_);(first|exact aT _ _|exact (aT _ _).drew);rintro e w1 ⟨g',rfl,n1,b1'⟩;have M1:=aC (C.out.nm.step (Fr.below (X:=fun _=>False) b1') (fun _ e=>e.elim));have L1:=aC (C.out.kk.fr (Fr.below (X:=fun _=>False) b1') (fun _ _ e=>e.elim));have BB1:=aC (ah C.out.be b1');have N1:=aC (Gw n1 b1');obtain ⟨_,_,_,g31,_,_,f31,_⟩:=M1.out.nk.cells;have acA:w.heap.size<w1.heap.size:=vv hgc b1'.size;clear n1 b1';dsimp only))
         all_goals
          go_wp2_with fail;go_roundw
          case rel=>
           refine ⟨j+1,A3,WH,ls++[(bB ts).s],B3,WI,bs++[g'],none,by go_num,hp,aC ⟨M7.out,?_,?_,?_,fun _=>rfl,fun h=>(by omega),LD.out,B7.out.setCell (p:=⟨w.heap.size,3,none⟩) (bN _) _,fun h=>(by omega)⟩⟩
           ·rw [M.out.ls,GZ,Ie.out.1]
            simp [dW]
           ·rw [List.length_append,hbe.out]
            simp;omega
           ·intro i c' ts' h1 h2
            refine KD.out c' _ ?_;rcases Nat.lt_or_ge i bs.length with hi|hi
            ·rw [aaM hi] at h1
             exact (C.out.ch i c' ts' h1 h2).aU N1.out.2
            ·have hi2:i=bs.length:=by
              have:=bf h1;simp at this;omega
             subst hi2;rw [zA (bN _),Nat.sub_self] at h1;simp only [ad2,Option.some.injEq] at h1;subst h1;rw [hbe.out,Ie.out.1] at h2;injection h2 with h2
             subst h2;exact N1.out.1
          case measure=>simp [intOf];omega
       ·have Ie:=aC (Gw hjl (Gw hto hlen))
        obtain ⟨nq,hn0,htn⟩:=HF.out.2 ts (by rw [hto];simp);have htv:tv=none:=M.out.t0 (by omega);subst htv;have HTN:=aC htn;obtain ⟨_,_,_,_,_,_,_,f4⟩:=M.out.nm.nk.cells;clear hjl hto htn hlen;go_wp2_with fail;refine (hcall.out wr (mq X w.heap.size A2 B2) M.out.be hKX.out).mono ?_;rintro e w4 ⟨g',rfl,tr4,b4,_⟩;have T4:=aC (Gw (tr4.2 nq HTN.out) b4);have M4:=aC (M.out.nm.step (Fr.below (X:=fun _=>False) b4) (fun _ e=>e.elim));obtain ⟨_,_,_,_,_,_,_,f5⟩:=M4.out.nk.cells;have q4:w4.cell? ⟨w.heap.size,4,none⟩=some (.pointer none):=by simp [adw,M4.out.nk.blk]
        have aoY:w.heap.size<w4.heap.size:=vv hgl b4.size;clear tr4 b4 f4;unfold pk;go_wp2_with fail;go_roundw
        case rel=>
         have hset:Fr (fun q=>q=w.heap.size) w4 (w4.setCell ⟨w.heap.size,4,none⟩ (.pointer (some ⟨g',0,none⟩))):=(Fr.refl (fun q=>q=w.heap.size) w4).setCell (p:=⟨w.heap.size,4,none⟩) (.inl rfl) _;have hKg:∀k,k<w4.heap.size->k=w.heap.size->mq X w.heap.size A2 B2 k:=fun k _ e=>.inr (.inl e);refine ⟨j+1,A2,ca,ls,B2,cb,bs,some ⟨g',0,none⟩,by go_num,hp,aC ⟨M4.out.setTail _,?_,?_,?_,fun h=>?_,fun _=>?_,?_,?_,fun h=>(by omega)⟩⟩
         ·rw [M.out.ls,CK (by have:=Ie.out.1;omega),CK (by have:=Ie.out.1;omega)]
         ·have h1:=M.out.bl
          have h2:=Ie.out.1;omega
         ·intro i c' ts' h1 h2
          exact ((M.out.ch i c' ts' h1 h2).aU T4.out.2).fr hset hKg
         ·have:=Ie.out.1;omega
         ·have:u6 aG=some nq:=by
           unfold u6;rw [Ie.out.2.1,HTN.out];rfl
          rw [this];exact T4.out.1.fr hset hKg
         ·exact (M.out.kk.fr (Fr.below (X:=fun _=>False) T4.out.2) (fun _ _ e=>e.elim)).fr hset hKg
         ·exact (ah M.out.be T4.out.2).setCell (p:=⟨w.heap.size,4,none⟩) (bN _) _
        case measure=>simp [intOf];omega)
   ·go_wp2_with fail
    go_ret;have e:j=aG.length:=by omega
    subst e;exact ⟨rfl,_,_,A2,ca,ls,B2,cb,bs,tv,M.out⟩
theorem Ig:∀(n:Nat) (ts:List Nd),ts.length<=n->Jw ts->TP ts:=by
 intro n
 induction n with
 |zero=>
  intro ts hl h;have:=h.fo.pos
  omega
 |succ n ih=>
  intro ts hl h X T rest i A c w ha hT hd hX;rcases h with h|⟨q,h0,rfl⟩
  ·cases h with
   |mk x aG ok k9 tr ch row els tl=>
    have hsub:∀t∈aG,Jw t:=fun t ht=>by
     rw [<-lN aG] at ht;rcases JQ.1 ht with ht|ht
     ·exact .inl (ch t ht)
     ·exact .inr (tl t ht)
    have hlen:∀t∈aG,t.length<=n:=fun t ht=>by
     have h1:=lQ (manyN x) aG.flatten t (tr.uniq▸ht);simp only [Bl] at hl;omega
    refine (LY x aG ok tr hsub ch tl (fun t ht=>ih t (hlen t ht) (hsub t ht)) X T rest i A c w ha hT hd hX).mono ?_;rintro e w' ⟨he,K,kl,A2,ca,ls,B2,cb,bs,tv,M⟩;refine ⟨w.heap.size,he,⟨fun _=>?_,fun n e=>?_⟩,M.be,bN _⟩
    ·rw [jM tr]
     have hq:∀q,w.heap.size<=q->q<w'.heap.size->¬X q:=fun q hq _ hx=>by have:=hX q hx;omega
     have Z7:=FD aG
     have ze:(if bZ x.k=true then x.n else 0)=(if x.k=8 then x.n else 0):=by
      unfold bZ;by_cases h8:x.k=8
      ·simp [h8]
      ·simp [h8,k9]
     have hls:ls=dW (bI aG):=by rw [M.ls,CK (by omega)]
     have hbl:bs.length=(bI aG).length:=by rw [M.bl];omega
     have hzl:(jk x.k (bI aG)).length=((bI aG).map dI).length:=by
      unfold jk;split
      ·next h5=>
       have hr:av x.k=false:=by rw [h5];rfl
       have hm:manyN x=2:=by unfold manyN many;rw [if_pos h5];rfl
       have h1:=tr.len;have h2:=(els hr).1;rw [J_ h2,aaT,h1,hm];rfl
      ·rw [nK,aaT]
     have hblk:=M.nm.nk.blk;rw [ze] at hblk;refine .mk _ _ _ _ _ A2 B2 ls bs ca cb (.pointer tv) (hq _ (bN _) (ade.1 hblk).1) hblk ?_ (fun hr=>?_) (dH.uF y9 M.nm.la hq) (dH.uF uf M.nm.nk.kb hq) ?_ (fun j p c' h1 h2=>?_) ?_
     ·rw [hls,nK,hbl]
     ·rw [qD hzl,hls]
      unfold jk;rw [if_neg (by intro e;rw [e] at hr;cases hr)]
     ·rw [hbl,List.length_zip,hzl,aaT,Nat.min_self]
     ·rw [List.getElem?_zip_eq_some,adg] at h1
      cases ht:(bI aG)[j]? with
      |none=>rw [ht] at h1;simp at h1
      |some t=>
       rw [ht] at h1;simp only [Option.map_some,Option.some.injEq] at h1;rw [<-h1.2];exact OX (M.ch j c' t h2 ht)
     ·rcases FC aG with e|⟨t,e⟩
      ·have h1:tv=none:=M.t0 (by rw [e] at Z7;simp at Z7;omega)
       rw [h1];have:u6 aG=none:=by unfold u6;rw [e];rfl
       rw [this];rfl
      ·exact (M.t1 (by rw [e] at Z7;simp at Z7;omega)).more fun _ _ hx=>.inl hx
    ·have:x::aG.flatten=[⟨9,pR,n⟩]:=e
     injection this with e1 _
     rw [e1] at k9;exact absurd rfl k9
  ·have tr:Trees (manyN ⟨9,pR,q⟩) ([]:List (List Nd)).flatten []:=⟨rfl,rfl,fun ts hts=>by cases hts⟩
   refine (LY ⟨9,pR,q⟩ [] (by simp [bX,h0]) tr (fun t ht=>by cases ht) (fun t ht=>by simp [bI,gN] at ht) (fun t ht=>by simp [jA,gN] at ht) (fun t ht=>by cases ht) X T rest i A c w ha hT hd hX).mono ?_;rintro e w' ⟨he,K,kl,A2,ca,ls,B2,cb,bs,tv,M⟩;refine ⟨w.heap.size,he,⟨fun hg=>?_,fun n e=>?_⟩,M.be,bN _⟩
   ·exact absurd rfl hg.aht
   ·injection e with e1 _
    injection e1 with _ _ e3
    subst e3;refine ⟨w.heap.size,rfl,fun hx=>by have:=hX _ hx;omega,?_⟩;have hblk:=M.nm.nk.blk;obtain ⟨rfl,rfl,rfl,rfl⟩:=M.z rfl;have e1:bs=[]:=kZ (by have:=M.bl;simpa using this);have e2:ls=[]:=by rw [M.ls];rfl
    obtain rfl:tv=none:=M.t0 (h_ _);subst e1 e2;exact hblk
structure zf where
 a:Option Addr×Nat×Nat
 b:Option Addr×Nat×Nat
 l:ByteArray
 k:Int
 n:Int
 m:Int
instance:Inhabited zf:=⟨⟨(none,0,0),(none,0,0),pR,0,0,0⟩⟩
instance:Inhabited Stp:=⟨⟨[],[],pR,0,0,0⟩⟩
def LZ (v:zf):List Value:=[.slice v.a.1 v.a.2.1 v.a.2.2,.slice v.b.1 v.b.2.1 v.b.2.2,.string v.l,.int .i64 v.k,.int .i64 v.n,.int .i64 v.m]
theorem WJ (v:zf):(LZ v).length=6:=rfl
abbrev Ae (w:World) (B:Nat) (A:Option Addr) (l:List zf):Prop:=aX 6 LZ w B A l
structure L6 (w:World) (B:Nat) (v:zf) (x:Stp):Prop where
 l:v.l=x.l
 k:v.k=x.k
 n:v.n=x.n
 m:v.m=x.m
 al:v.a.2.1=x.a.length
 aa:aM w B v.a.1 x.a
 ac:x.a.length<=v.a.2.2
 bl:v.b.2.1=x.b.length
 ba:aM w B v.b.1 x.b
 bc:x.b.length<=v.b.2.2
def wW (w:World) (B:Nat) (vs:List zf) (xs:List Stp):Prop:=vs.length=xs.length/\∀(i:Nat) (v:zf) (x:Stp),vs[i]?=some v->xs[i]?=some x->L6 w B v x
structure Stp.Ok (x:Stp):Prop where
 a:x.a.length<=9223372036854775807/\∀y∈x.a,y.Ok
 b:x.b.length<=9223372036854775807/\∀y∈x.b,y.Ok
 l:x.l.size<=9223372036854775807
 k: -9223372036854775808<=x.k/\x.k<=9223372036854775807
 n: -9223372036854775808<=x.n/\x.n<=9223372036854775807
 m: -9223372036854775808<=x.m/\x.m<=9223372036854775807
theorem L6.below {w w':World} {B:Nat} {v:zf} {x:Stp} (h:L6 w B v x) (hb:Below B w w'):L6 w' B v x:=
 ⟨h.l,h.k,h.n,h.m,h.al,h.aa.below hb,h.ac,h.bl,h.ba.below hb,h.bc⟩
theorem wW.below {w w':World} {B:Nat} {vs:List zf} {xs:List Stp} (h:wW w B vs xs) (hb:Below B w w'):wW w' B vs xs:=⟨h.1,fun i v x hv hx=>(h.2 i v x hv hx).below hb⟩
theorem aX.step {w:World} {B:Nat} {A:Option Addr} {l:List zf} (h:Ae w B A l) {i:Nat} {v:zf} (hn:l[i]?=some v):
  ∃b o,A=some ⟨b,o,none⟩/\b<B/\w.cell? ⟨b,o+i*6,none⟩=some (.slice v.a.1 v.a.2.1 v.a.2.2)/\w.cell? ⟨b,o+i*6+1,none⟩=some (.slice v.b.1 v.b.2.1 v.b.2.2)/\w.cell? ⟨b,o+i*6+2,none⟩=some (.string v.l)/\
   w.cell? ⟨b,o+i*6+3,none⟩=some (.int .i64 v.k)/\w.cell? ⟨b,o+i*6+4,none⟩=some (.int .i64 v.n)/\w.cell? ⟨b,o+i*6+5,none⟩=some (.int .i64 v.m):=by
 obtain ⟨b,o,e,h1,h2⟩:=h (by rintro rfl;simp at hn);have h3:=h2 i v hn;exact ⟨b,o,e,h1,h3 0 _ rfl,h3 1 _ rfl,h3 2 _ rfl,h3 3 _ rfl,h3 4 _ rfl,h3 5 _ rfl⟩
theorem Ii {α:Type} {f:α->Bool} {l:List α} {i:Nat} {x:α} (h:l[i]?=some x) (h1:(l.take i).all f=true) (h2:f x=true):(l.take (i+1)).all f=true:=by
 rw [GZ,h,List.all_append,h1];simp [h2]
theorem Qs {α:Type} {f:α->Bool} {l:List α} {i:Nat} {x:α} (h:l[i]?=some x) (h2:f x=false):l.all f=false:=by
 rw [List.all_eq_false];exact ⟨x,Yt h,by simp [h2]⟩
theorem O7 (A:Option Addr) (c:Nat) (xs:List Nd) (next:Int) (w:World) (ha:aM w w.heap.size A xs) (hl:xs.length<=9223372036854775807) (hs:∀x∈xs,x.s.size<=9223372036854775807):
  Calls Try.prog 92 #[.slice A xs.length c,.int .i64 next] w fun e w'=>e= .returned (.bool (u7 xs next))/\Below w.heap.size w w':=by
 have hf:=aC (abv A c xs 30 w ha hl hs);have HA:=aC ha;clear ha hs;go_enter Try.func92,Try.ntmps92;go_wp2_with fail;refine hf.out.mono ?_;clear hf;rintro e w1 ⟨rfl,hb⟩;have HB:=aC hb;clear hb
 cases hf:Jc xs 30 with
 |false=>
  have HF:=aC hf;clear hf;go_wp2_with fail;go_ret
  exact ⟨aN (by unfold u7;rw [HF.out];rfl),HB.out⟩
 |true=>
  have HF:=aC hf;have aoZ:xs.length<=30:=by have:=(Jd hf).1;omega
  clear hf;go_wp2_with fail;go_loopw [5] (fun s5 wr=>∃i:Nat,s5= .int .i64 i/\i<=xs.length/\wr=w1/\Hid ((xs.take i).all (nM next)=true)) (fun s5 _=>xs.length-(intOf s5).toNat)
  case atStart=>exact ⟨0,rfl,h_ _,rfl,aC (by simp)⟩
  case round=>
   obtain ⟨i,rfl,hi,rfl,M⟩:=hrel;by_cases hp:i<xs.length
   ·obtain ⟨x,hx⟩:=aD hp
    obtain ⟨b1,o1,rfl,hb1,c10,c11,c12⟩:=(HA.out.below HB.out).at_ hx;have Hx:=aC hx;clear hx;have hbw:b1<wr.heap.size:=vv hb1 HB.out.size
    cases h9:(x.k==9) with
    |true=>
     have HN:Hid (nM next x=false):=aC (by unfold nM;rw [h9];rfl);go_wp2_with fail;go_ret
     exact ⟨aN (by unfold u7;rw [Qs Hx.out HN.out];simp),HB.out⟩
    |false=>
     cases h8:(x.k==8) with
     |false=>
      have HN:Hid (nM next x=true):=aC (by unfold nM;rw [h9,h8];rfl);go_wp2_with fail;go_roundw
      case rel=>exact ⟨i+1,by go_num,hp,by first|rfl|trivial,aC (Ii Hx.out M.out HN.out)⟩
      case measure=>simp [intOf];omega
     |true=>
      by_cases hn:next<=x.n
      ·have HN:Hid (nM next x=false):=aC (by unfold nM;rw [h9,h8,decide_eq_true hn];rfl)
       go_wp2_with fail;go_ret;exact ⟨aN (by unfold u7;rw [Qs Hx.out HN.out];simp),HB.out⟩
      ·have HN:Hid (nM next x=true):=aC (by unfold nM;rw [h9,h8,decide_eq_false hn];rfl)
       go_wp2_with fail;go_roundw
       case rel=>exact ⟨i+1,by go_num,hp,by first|rfl|trivial,aC (Ii Hx.out M.out HN.out)⟩
       case measure=>simp [intOf];omega
   ·have e1:xs.take i=xs:=CK (by omega)
    rw [e1] at M;go_wp2_with fail;go_ret;exact ⟨aN (by unfold u7;rw [HF.out,M.out];rfl),HB.out⟩
theorem gV (w:World) (xs:List Nd) (c:Array Value) (h:c.toList=xs.flatMap iQ):aM (w.alloc (.cells c 48)) (w.heap.size+1) (some ⟨w.heap.size,0,none⟩) xs:=by
 refine aX.g_ (fun _=>⟨w.heap.size,0,rfl,by omega,fun i y hy j u hu=>?_⟩);have h1:=heap_alloc_new w (.cells c 48);have h2:=Br lJ hy hu;rw [<-h] at h2;simp only [adw,h1];rw [iE];simpa using h2
abbrev stV (x:Stp) (A:Option Addr) (ca:Nat) (B:Option Addr) (cb:Nat):Value:=.agg #[.slice A x.a.length ca,.slice B x.b.length cb,.string x.l,.int .i64 x.k,.int .i64 x.n,.int .i64 x.m]
theorem rE.EJ {w w':World} {vs:List (Option Addr×Nat×Nat)} {aG:List (List Nd)} {B:Nat} (h:rE w B vs aG) (hb:Below B w w') (hB:B<=w'.heap.size):rE w' w'.heap.size vs aG:=⟨h.1,fun i v xs hv hx=>⟨(h.2 i v xs hv hx).1,((h.2 i v xs hv hx).2.below hb).more hB⟩⟩
theorem Z9 (vs:List (Option Addr×Nat×Nat)) (aG:List (List Nd)):Keep fun w=>rE w w.heap.size vs aG:=fun _ _ h hb=>h.EJ hb hb.size
def afV (V:Option Addr) (vs:List (Option Addr×Nat×Nat)) (aG:List (List Nd)) (w:World):Prop:=sZ w w.heap.size V vs/\rE w w.heap.size vs aG
theorem WK (V:Option Addr) (vs:List (Option Addr×Nat×Nat)) (aG:List (List Nd)):Keep (afV V vs aG):=(Vu _ _ _ _).and (Z9 _ _)
theorem WL {m:Nat} {l:List (List Nd)} (h:∀xs∈l,xs.length<=m/\xs≠[]):∀had,∀t∈lq had l,t.length<=m/\t≠[]:=by
 induction l with
 |nil=>intro had t ht;simp [lq] at ht
 |cons x l ih=>
  intro had t ht;rcases Gz.1 ht with rfl|ht
  ·obtain ⟨h1,h2⟩:=h x (by simp)
   refine ⟨by rw [tH];exact h1,fun e=>h2 ?_⟩;have:=congrArg List.length e;rw [tH] at this;exact kZ this
  ·exact ih (fun z hz=>h z (by simp [hz])) (iX had x) t ht
structure TrW (T:List Nd):Prop where
 fo:Fo 1 T
 ok:dF T
theorem ko.trw {T:List Nd} (h:ko T):TrW T:=⟨h.fo1,h.dF⟩
theorem Qt {a b:ByteArray} (h:a≠b):(a.toList !=b.toList)=true:=by
 rw [bne_iff_ne];intro e;apply h;rw [yH,yH] at e
 cases a;cases b;simp only at e
 congr
 exact Array.toList_inj.1 e
theorem iA (w:World) (n:Nat):Below w.heap.size w (w.drewN n):=((Fr.refl (fun _=>False) w).drewN n).toBelow fun _ e=>e.elim
theorem EK (enc:Int->Ut) (n:Int):∀ns:List Int,Eu (sV enc ns) n=if n∈ns then some (aB pR (enc n)) else none
 |[]=>rfl
 |j::ns=>by
  have ih:=EK enc n ns;unfold Eu sV at ih ⊢;rw [List.map_cons,List.find?_cons];by_cases e:j=n
  ·subst e
   simp
  ·have e2:¬n=j:=fun h=>e h.symm
   simp only [e,decide_false,Gz,e2,false_or];exact ih
def pJ (r:Bool) (fs:Fl) (tl:Option Int) (w:World) (e:Ending) (w':World):Prop:=
 ∃(V:Option Addr) (cv:Nat) (vs:List (Option Addr×Nat×Nat)) (A3:Option Addr) (c3:Nat),e= .returned (.tuple #[.slice V vs.length cv,.slice A3 (aP tl).length c3])/\vE w' w.heap.size V cv vs/\rE w' w'.heap.size vs (fs.map fun p=>aB (if r=true then p.1 else pR) p.2)/\
  aM w' w'.heap.size A3 (aP tl)/\(∀q∈vs,q.2.1<=q.2.2)/\Below w.heap.size w w'/\(∀q∈vs,Off q.1 V)/\Off A3 V/\(∀q∈vs,∀a,q.1=some a->w.heap.size<=a.block)/\∀a,A3=some a->w.heap.size<=a.block
theorem TQ (A:Option Addr) (c:Nat) (s:ByteArray) (w:World) (ha:aM w w.heap.size A [⟨7,s,0⟩]):
  Calls Try.prog 105 #[.slice A 1 c,.int .i64 0] w fun e w'=>∃A' cap',e= .returned (.slice A' 0 cap')/\Below w.heap.size w w':=by
 have hb0:=ak (aT w.heap.size w) (.cells #[] 3);obtain ⟨b1,o1,rfl,hb1,c10,c11,c12⟩:=((ha.below hb0).more hb0.size).at_ (i:=0) rfl;simp only [adO,pO] at c10 c11 c12;go_enter Try.func105,Try.ntmps105;go_wp2_with fail;go_loopw [5,6,7] (fun o5 i6 k7 wr=>o5= .slice (some ⟨w.heap.size,0,none⟩) 0 0/\i6= .int .i64 1/\k7= .int .i64 0/\wr=w.alloc (.cells #[] 3)) (fun _ _ _ _=>0)
 case atStart=>exact ⟨rfl,rfl,rfl,rfl⟩
 case round=>
  obtain ⟨rfl,rfl,rfl,rfl⟩:=hrel;go_wp2_with fail;refine (nW _ _ _ _).mono ?_;rintro e w1 ⟨rfl,hbx⟩;go_wp2_with fail;go_ret;exact ⟨⟨_,_,rfl⟩,ah hb0 hbx⟩
theorem Qu (A:Option Addr) (c:Nat) (s:ByteArray) (w:World) (ha:aM w w.heap.size A [⟨7,s,0⟩]):
  Calls Try.prog 97 #[.slice A 1 c] w (pJ true [] none w):=by
 have hown0:=aC (dV 34 1 encS w);have hb0:=ak (aT w.heap.size w) (.cells #[] 34);have hkc:=aC (TQ A c s (w.alloc (.cells #[] 34)) ((ha.below hb0).more hb0.size));clear ha;have Hb0:=aC hb0;clear hb0;go_enter Try.func97,Try.ntmps97;go_wp2_with fail;refine hkc.out.mono ?_;rintro e w1 ⟨K,ck,rfl,hb⟩;have B1:=aC (ah Hb0.out hb);have O1:=aC (hown0.out.below hb (bN _));clear hb hkc;go_wp2_with fail;go_loopw [4,6] (fun s4 s6 wr=>s4= .slice (some ⟨w.heap.size,0,none⟩) 0 0/\s6= .int .i64 0/\wr=w1) (fun _ _ _=>0)
 case atStart=>exact ⟨rfl,rfl,rfl⟩
 case round=>
  obtain ⟨rfl,rfl,rfl⟩:=hrel;go_wp2_with fail;go_ret2;exact ⟨some ⟨w.heap.size,0,none⟩,0,[],none,0,rfl,O1.out,⟨rfl,fun i a b h=>by simp at h⟩,aM.nil,fun q hq=>by simp at hq,B1.out,fun q hq=>(by cases hq),(fun a b h=>by cases h),(fun q hq=>by cases hq),fun a h=>by cases h⟩
theorem jm {t:Ut} (h:vR t) (s:ByteArray) (A:Option Addr) (c:Nat) (w:World) (ha:aM w w.heap.size A (aB s t)) (hl:(aB s t).length<=100000000000) (hc:(aB s t).length<=c):
  Calls Try.prog 97 #[.slice A (aB s t).length c] w (pJ (av t.k) t.fs t.tl w):=by
 rcases h with h|rfl
 ·have hg:=(La t h s).1
  have hok:=hg.dF;have hw:=h;obtain ⟨k,n,fs,tl⟩:=t;obtain ⟨x,aG,e,tr,xk,xs,xn,hlo,hto⟩:=Hu h s;rw [e] at ha hl hc hok hg ⊢;rw [bU] at hw
  have hk9:∀t∈bI aG,(bB t).k≠9:=fun t ht=>by
   rw [hlo] at ht;obtain ⟨p,hp,rfl⟩:=aaN.1 ht;rw [(oU (t:=p.2) _).2];exact (hw.2 p hp).k9
  refine (Qb A c (x::aG.flatten) aG.flatten x aG w ha hl hc rfl (hok x (by simp)) (fun y hy=>hok y (by simp [hy])) tr hk9).mono ?_;rintro e w' ⟨V,cv,vs,A3,c3,rfl,h1,h2,h3,h4,h5,h6,h7,h8,h9⟩
  have ht:(jA aG).flatten=aP tl:=by
   rw [hto]
   cases tl<;>rfl
  rw [ht] at h3 ⊢;rw [hlo] at h2;exact ⟨V,cv,vs,A3,c3,rfl,h1,h2,h3,h4,h5,h6,h7,h8,h9⟩
 ·rw [uD] at ha ⊢
  exact Qu A c s w ha
def yC (F:Fl):List (List Nd):=F.map fun p=>aB p.1 p.2
structure sQ (w:World) (V:Option Addr) (vs:List (Option Addr×Nat×Nat)) (F:Fl):Prop where
 r:sZ w w.heap.size V vs
 s:rE w w.heap.size vs (yC F)
 c:∀v∈vs,v.2.1<=v.2.2
theorem sQ.below {w w':World} {V:Option Addr} {vs:List (Option Addr×Nat×Nat)} {F:Fl} (h:sQ w V vs F) (hb:Below w.heap.size w w'):sQ w' V vs F:=
 ⟨(h.r.below hb).more hb.size,h.s.EJ hb hb.size,h.c⟩
theorem sQ.len {w:World} {V:Option Addr} {vs:List (Option Addr×Nat×Nat)} {F:Fl} (h:sQ w V vs F):vs.length=F.length:=by
 rw [h.s.1];exact aaT ..
theorem Cu (s:Lb) (t:Ut):∃ks n,aB s t=⟨t.k,s,n⟩::ks:=by
 obtain ⟨ks,h⟩:=Ti s t;exact ⟨ks,_,h⟩
theorem sQ.at_ {w:World} {V:Option Addr} {vs:List (Option Addr×Nat×Nat)} {F:Fl} (h:sQ w V vs F) {i:Nat} {p:Lb×Ut} (hp:F[i]?=some p):
  ∃b o b2 o2 L c,V=some ⟨b,o,none⟩/\b<w.heap.size/\vs[i]?=some (some ⟨b2,o2,none⟩,L,c)/\L=(aB p.1 p.2).length/\0<L/\L<=c/\w.cell? ⟨b,o+i,none⟩=some (.slice (some ⟨b2,o2,none⟩) L c)/\b2<w.heap.size/\
   w.cell? ⟨b2,o2+1,none⟩=some (.string p.1)/\aM w w.heap.size (some ⟨b2,o2,none⟩) (aB p.1 p.2):=by
 have hi:i<vs.length:=by rw [h.len];exact bf hp
 obtain ⟨v,hv⟩:=aD hi;obtain ⟨b,o,rfl,hb,hc⟩:=aX.slice h.r hv;obtain ⟨h1,h2⟩:=h.s.2 i v (aB p.1 p.2) hv (by unfold yC;rw [adg,hp];rfl);obtain ⟨ks,n,e⟩:=Cu p.1 p.2;obtain ⟨b2,o2,e2,z,_,c11,_⟩:=h2.at_ (i:=0) (x:=⟨p.2.k,p.1,n⟩) (by rw [e];rfl);obtain ⟨va,vl,vc⟩:=v;simp only at h1 h2 e2 hc;subst e2;simp only [adO,pO] at c11;exact ⟨b,o,b2,o2,vl,vc,rfl,hb,hv,h1,by rw [h1,e];simp,h.c _ (Yt hv),hc,z,c11,h2⟩
def zh (x y:Fl) (w:World) (e:Ending) (w':World):Prop:=
 ∃(V:Option Addr) (cv:Nat) (vs:List (Option Addr×Nat×Nat)),e= .returned (.slice V vs.length cv)/\sQ w' V vs (au x y)/\Below w.heap.size w w'
theorem L8 {x y:Fl} {i:Nat} {p:Lb×Ut} (h:x[i]?=some p):au (x.take (i+1)) y=if jD p.1 (ay y)=true then au (x.take i) y else au (x.take i) y++[p]:=by
 unfold au;rw [GZ,h,List.filter_append]
 cases e:jD p.1 (ay y) with
 |true=>simp [e]
 |false=>simp [e]
theorem WM {l:Lb} {y:Fl} {k:Nat} {q:Lb×Ut} (h:y[k]?=some q):jD l (ay (y.take (k+1)))=(jD l (ay (y.take k))||decide (q.1=l)):=by
 unfold jD ay;rw [GZ,h];simp
theorem Z_ {w:World} {B:Nat} {vs:List (Option Addr×Nat×Nat)} {F:Fl} {v:Option Addr×Nat×Nat} {p:Lb×Ut} (h:rE w B vs (yC F)) (h1:v.2.1=(aB p.1 p.2).length) (h2:aM w B v.1 (aB p.1 p.2)):rE w B (vs++[v]) (yC (F++[p])):=by
 obtain ⟨a,b⟩:=h;have e:yC (F++[p])=yC F++[aB p.1 p.2]:=by unfold yC;simp
 rw [e];refine ⟨by simp [a],fun i u xs hu hx=>?_⟩;by_cases hi:i<vs.length
 ·rw [aaM hi] at hu
  rw [aaM (by omega)] at hx;exact b i u xs hu hx
 ·rw [zA (by omega)] at hu
  rw [zA (by omega),<-a] at hx
  have hi0:i-vs.length=0:=by
   have:=bf hu;simp at this;omega
  rw [hi0] at hu hx;simp at hu hx;rw [<-hu,<-hx];exact ⟨h1,h2⟩
theorem mR (x y:Fl) (V W:Option Addr) (cx cy:Nat) (vs ws:List (Option Addr×Nat×Nat)) (w:World) (hV:sQ w V vs x) (hW:sQ w W ws y) (lx:x.length<=100) (ly:y.length<=100):
  Calls Try.prog 172 #[.slice V vs.length cx,.slice W ws.length cy] w (zh x y w):=by
 have hvl:=hV.len;have hwl:=hW.len;have HV:=aC (fun (w':World) (hb:Below w.heap.size w w')=>hV.below hb);have HW:=aC (fun (w':World) (hb:Below w.heap.size w w')=>hW.below hb);have HV0:=aC hV;have hown0:=aC (dV 34 1 encS w);have hb0:=aC (ak (aT w.heap.size w) (.cells #[] 34));rw [hvl,hwl];clear hV hW hvl hwl;go_enter Try.func172,Try.ntmps172;go_wp2_with fail;go_loopw [5,6] (fun s5 s6 wr=>∃(i:Nat) (V':Option Addr) (cv':Nat) (us:List (Option Addr×Nat×Nat)),s5= .slice V' us.length cv'/\s6= .int .i64 i/\i<=x.length/\us.length<=i/\Hid (vE wr w.heap.size V' cv' us/\rE w w.heap.size us (yC (au (x.take i) y))/\(∀v∈us,v.2.1<=v.2.2)/\Below w.heap.size w wr)) (fun _ s6 _=>x.length-(intOf s6).toNat)
 case atStart=>exact ⟨0,some ⟨w.heap.size,0,none⟩,0,[],rfl,rfl,h_ _,bN _,aC ⟨hown0.out,⟨rfl,fun i v xs hv=>by simp at hv⟩,fun v hv=>(by cases hv),hb0.out⟩⟩
 case round=>
  obtain ⟨i,V',cv',us,rfl,rfl,hi,DT,M⟩:=hrel;by_cases hp:i<x.length
  ·obtain ⟨p,hx⟩:=aD hp
   obtain ⟨b,o,b2,o2,L,c,rfl,zb,hv,hL,L0,hLc,k1,z2,k2,hty⟩:=(HV.out wr M.out.2.2.2).at_ hx;have Hx:=aC (Gw hx (Gw hv (Gw hL hLc)));clear hx hv hL hty;go_wp2_with fail;go_loopw [7,8] (fun s7 s8 wq=>∃(k q:Nat) (bo:Bool),s7= .bool bo/\s8= .int .i64 k/\k<=y.length/\wq=wr.drewN q/\Hid (bo=jD p.1 (ay (y.take k)))) (fun _ s8 _=>y.length-(intOf s8).toNat)
   case atStart=>exact ⟨0,0,false,rfl,rfl,h_ _,rfl,aC rfl⟩
   case round=>
    obtain ⟨k,q,bo,rfl,rfl,hk,rfl,Qv⟩:=hrel;by_cases hq:k<y.length
    ·obtain ⟨r,hy⟩:=aD hq
     obtain ⟨b3,o3,b4,o4,L4,c4,rfl,zb3,_,_,L04,_,k3,z4,k4,_⟩:=(HW.out wr M.out.2.2.2).at_ hy;have Hy:=aC (WM (l:=p.1) hy);clear hy
     cases bo with
     |true=>
      go_wp2_with fail;go_quiet (fail);go_wp2_with fail;go_roundw
      case rel=>exact ⟨k+1,_,true,rfl,by go_num,hq,rfl,aC (by rw [Hy.out,<-Qv.out];rfl)⟩
      case measure=>simp [intOf];omega
     |false=>
      cases hs:(p.1.toList==r.1.toList) with
      |true=>
       have HS:Hid (p.1=r.1):=aC (Classical.byContradiction fun h=>by have:=Qt h;unfold bne at this;rw [hs] at this;cases this);generalize p.1=pl at*;generalize r.1=rl at*;go_wp2_with fail;go_quiet (fail);go_wp2_with fail;go_roundw
       case rel=>exact ⟨k+1,_,true,rfl,by go_num,hq,rfl,aC (by rw [Hy.out,HS.out];simp)⟩
       case measure=>simp [intOf];omega
      |false=>
       have HS:Hid (p.1≠r.1):=aC (by intro e;rw [e] at hs;simp at hs);go_wp2_with fail;go_quiet (fail);go_wp2_with fail;go_roundw
       case rel=>exact ⟨k+1,_,false,rfl,by go_num,hq,rfl,aC (by rw [Hy.out,<-Qv.out];simp;exact fun e=>HS.out e.symm)⟩
       case measure=>simp [intOf];omega
    ·have Hb:Hid (bo=jD p.1 (ay y)):=aC (by rw [Qv.out,CK (by omega)])
     clear Qv
     cases bo with
     |true=>
      go_wp2_with fail;go_roundw
      case rel=>exact ⟨i+1,V',cv',us,rfl,by go_num,hp,by omega,aC ⟨aA.drewN M.out.1 q,by rw [L8 Hx.out.1,if_pos Hb.out.symm];exact M.out.2.1,M.out.2.2.1,ah M.out.2.2.2 (iA _ _)⟩⟩
      case measure=>simp [intOf];omega
     |false=>
      have zr:w.heap.size<=wr.heap.size:=M.out.2.2.2.size;go_wp2_with (at_builtin;refine mV rfl (.tmp 42) (.tmp 47) rfl w.heap.size (l:=us) rfl (aA.alloc (aA.drewN M.out.1 q) _) (l2:=[(some ⟨b2,o2,none⟩,L,c)]) rfl (tu _ (some ⟨b2,o2,none⟩,L,c)) (by simp;omega) (by simp;omega) ?_;intro V2 gq w3 hown3 hg3 _;have M3:=aC (Gw hown3 (eG (ak (ah M.out.2.2.2 (iA wr q)) _) hg3 (fun k hk=>(aA.block M.out.1 k hk).1)));clear hown3 hg3);go_roundw
      case rel=>
       refine ⟨i+1,V2,gq,us++[(some ⟨b2,o2,none⟩,L,c)],by simp,by go_num,hp,by simp;omega,aC ⟨M3.out.1,?_,fun v hv=>?_,M3.out.2⟩⟩
       ·rw [L8 Hx.out.1,if_neg (by rw [<-Hb.out];simp)]
        have hv:=(HV0.out.s.2 i _ _ Hx.out.2.1 (by unfold yC;rw [adg,Hx.out.1];rfl));exact Z_ M.out.2.1 hv.1 hv.2
       ·rcases JQ.1 hv with hv|hv
        ·exact M.out.2.2.1 v hv
        ·rw [List.mem_singleton.1 hv];exact Hx.out.2.2.2
      case measure=>simp [intOf];omega
  ·have e:Hid (au (x.take i) y=au x y):=aC (by rw [CK (by omega)])
   go_wp2_with fail;go_ret;have h:=M.out;rw [e.out] at h;exact ⟨V',cv',us,rfl,⟨aA.read jq h.1,h.2.1.EJ h.2.2.2 h.2.2.2.size,h.2.2.1⟩,h.2.2.2⟩
structure vk (w0:World) (V:Option Addr) (cv:Nat) (us:List (Option Addr×Nat×Nat)) (outs:List (List Nd)) (w:World):Prop where
 own:vE w w0.heap.size V cv us
 wK:rE w w.heap.size us outs
 cap:∀v∈us,v.2.1<=v.2.2
 off:∀v∈us,Off v.1 V
 lt:∀v∈us,∀a,v.1=some a->a.block<w.heap.size
 aU:Below w0.heap.size w0 w
section
variable {w0 w w':World} {V:Option Addr} {cv:Nat} {us:List (Option Addr×Nat×Nat)} {outs:List (List Nd)}
theorem vk.step (h:vk w0 V cv us outs w) (hb:Below w.heap.size w w'):vk w0 V cv us outs w':=
 ⟨h.own.below hb (bN _),h.wK.EJ hb hb.size,h.cap,h.off,fun v hv a ha=>vv (h.lt v hv a ha) hb.size,ah h.aU hb⟩
theorem vk.set (h:vk w0 V cv us outs w) {j:Nat} (hj:j<us.length) {A:Option Addr} {c:Nat} {xs:List Nd} (ha:aM w w.heap.size A xs) (hne:xs≠[]) (hc:xs.length<=c) (ho:Off A V):
  ∃g,V=some ⟨g,0,none⟩/\g<w.heap.size/\(∃m,us[j]?=some m/\w.cell? ⟨g,j,none⟩=some (.slice m.1 m.2.1 m.2.2))/\w.frozen? ⟨g,j,none⟩=false/\
   vk w0 V cv (us.set j (A,xs.length,c)) (outs.set j xs) (w.setCell ⟨g,j,none⟩ (.slice A xs.length c))/\w.grownBy (w.setCell ⟨g,j,none⟩ (.slice A xs.length c)) (some g):=by
 obtain ⟨g,rfl,hbg,hg,hm,hf,hown,hgr⟩:=aA.ajb h.own hj (A,xs.length,c)
 have hlA:∀a,A=some a->a.block<w.heap.size:=fun a e=>by
  obtain ⟨b,o,e2,hb,_⟩:=ha hne;rw [e] at e2;injection e2 with e2
  rw [e2];exact hb
 have hz:=hgr.size;have hmem:∀v∈us.set j (A,xs.length,c),v=(A,xs.length,c)\/v∈us:=fun v hv=>(List.mem_or_eq_of_mem_set hv).symm;refine ⟨g,rfl,hg,hm,hf,⟨hown,⟨by simp [h.wK.1],fun i v ys hv hx=>?_⟩,fun v hv=>?_,fun v hv=>?_,fun v hv a ha=>?_,h.aU.grown hgr h.aU.size (fun k hk=>by cases hk;exact hbg)⟩,hgr⟩
 ·by_cases hi:i=j
  ·subst hi
   rw [Ve hj] at hv;have hjo:i<outs.length:=by rw [<-h.wK.1];exact hj
   rw [Ve hjo] at hx;injection hv with hv
   injection hx with hx
   subst hv hx;exact ⟨rfl,ha.nP hgr fun k hk a ha e=>by cases hk;exact ho a _ ha rfl e⟩
  ·rw [List.getElem?_set_ne (by omega)] at hv hx
   obtain ⟨h1,h2⟩:=h.wK.2 i v ys hv hx;exact ⟨h1,h2.nP hgr fun k hk a ha e=>by cases hk;exact h.off v (Yt hv) a _ ha rfl e⟩
 ·rcases hmem v hv with rfl|hv
  ·exact hc
  ·exact h.cap v hv
 ·rcases hmem v hv with rfl|hv
  ·exact ho
  ·exact h.off v hv
 ·rcases hmem v hv with rfl|hv
  ·exact vv (hlA a ha) hz
  ·exact vv (h.lt v hv a ha) hz
theorem vk.app {V2:Option Addr} {gq:Nat} {ts:List (Option Addr×Nat×Nat)} {acB:List (List Nd)} (h:vk w0 V cv us outs w) (hs2:rE w w.heap.size ts acB) (hc2:∀v∈ts,v.2.1<=v.2.2) (ho2:∀v∈ts,Off v.1 V) (hl2:∀v∈ts,∀a,v.1=some a->a.block<w.heap.size)
  (hown:vE w' w0.heap.size V2 gq (us++ts)) (hg:w.grownBy w' ((aO V us.length cv).ownBlock))
  (hA:(aO V2 (us.length+ts.length) gq).ownBlock=(aO V us.length cv).ownBlock\/(aO V2 (us.length+ts.length) gq).ownBlock=some w.heap.size):vk w0 V2 gq (us++ts) (outs++acB) w':=by
 have hV:∀a,V2=some a->(∃b,V=some b/\a.block=b.block)\/a.block=w.heap.size:=fun a ha=>by
  subst ha;rcases hA with hA|hA
  ·obtain ⟨b,hb,hbe⟩:=bA (hA.symm.trans (show (aO (some a) (us.length+ts.length) gq).ownBlock=some a.block from rfl))
   exact .inl ⟨b,hb,hbe.symm⟩
  ·exact .inr (by simpa [nU] using hA)
 have hlow:∀k,(aO V us.length cv).ownBlock=some k->∃a,V=some a/\a.block=k:=fun k hk=>bA hk
 have hall:∀v∈us++ts,Off v.1 V/\∀a,v.1=some a->a.block<w.heap.size:=fun v hv=>by
  rcases JQ.1 hv with hv|hv
  ·exact ⟨h.off v hv,h.lt v hv⟩
  ·exact ⟨ho2 v hv,hl2 v hv⟩
 have k1:=h.wK.nP hg (fun k hk v hv a ha e=>by
  obtain ⟨b,hb,hbe⟩:=hlow k hk;exact h.off v hv a b ha hb (by rw [e,hbe]))
 have k2:=hs2.nP hg (fun k hk v hv a ha e=>by
  obtain ⟨b,hb,hbe⟩:=hlow k hk;exact ho2 v hv a b ha hb (by rw [e,hbe]))
 have hz:=hg.size;refine ⟨hown,⟨by simp [k1.1,k2.1],fun i v xs hv hx=>?_⟩,fun v hv=>?_,fun v hv a b ha hb e=>?_,fun v hv a ha=>vv ((hall v hv).2 a ha) hz,h.aU.grown hg h.aU.size (fun k hk=>(aA.block h.own k hk).1)⟩
 ·by_cases hi:i<us.length
  ·rw [aaM hi] at hv
   rw [aaM (by rw [<-k1.1];exact hi)] at hx;exact k1.2 i v xs hv hx
  ·rw [zA (by omega)] at hv
   rw [zA (by rw [<-k1.1];omega),<-k1.1] at hx;exact k2.2 _ v xs hv hx
 ·rcases JQ.1 hv with hv|hv
  ·exact h.cap v hv
  ·exact hc2 v hv
 ·rcases hV b hb with ⟨b',hb',hbe⟩|hbe
  ·exact (hall v hv).1 a b' ha hb' (by rw [e,hbe])
  ·have:=(hall v hv).2 a ha
   omega
theorem vk.JU {F:Fl} (h:vk w0 V cv us (yC F) w):sQ w V us F:=⟨aA.read jq h.own,h.wK,h.cap⟩
theorem nG {r:Bool} {fs:Fl} {vs:List (Option Addr×Nat×Nat)} (h1:vE w' w.heap.size V cv vs) (h2:rE w' w'.heap.size vs (fs.map fun p=>aB (if r=true then p.1 else pR) p.2)) (h3:∀q∈vs,q.2.1<=q.2.2) (h4:Below w.heap.size w w') (h5:∀q∈vs,Off q.1 V):
  vk w V cv vs (fs.map fun p=>aB (if r=true then p.1 else pR) p.2) w':=by
 refine ⟨h1,h2,h3,h5,fun v hv a ha=>?_,h4⟩;obtain ⟨i,hi⟩:=List.getElem?_of_mem hv
 have hl:i<fs.length:=by
  have:=bf hi;rw [h2.1,aaT] at this;exact this
 obtain ⟨p,hp⟩:=aD hl;obtain ⟨_,h⟩:=h2.2 i v (aB (if r=true then p.1 else pR) p.2) hi (by rw [adg,hp];rfl);obtain ⟨b,o,e,hb,_⟩:=h (zZ _ _);rw [ha] at e;injection e with e
 rw [e];exact hb
end
abbrev bS (first next:Int) (Q:Option Addr) (n c:Nat):Value:=.agg #[.int .i64 first,.int .i64 next,.slice Q n c]
structure lD (vs:List QV) (Q:Option Addr) (enc:Int->Ut) (ns:List Int) (w:World):Prop where
 r:Et w w.heap.size Q vs
 t:Tab w w.heap.size vs (sV enc ns)
theorem lD.step {vs:List QV} {Q:Option Addr} {enc:Int->Ut} {ns:List Int} {w w':World} (h:lD vs Q enc ns w) (hb:Below w.heap.size w w'):lD vs Q enc ns w':=
 ⟨(h.r.below hb).more hb.size,(h.t.below hb).1,fun i v t hv ht=>by
  obtain ⟨a,b,c,d⟩:=(h.t.below hb).2 i v t hv ht;exact ⟨a,b,c,d.more hb.size⟩⟩
theorem lD.len {vs:List QV} {Q:Option Addr} {enc:Int->Ut} {ns:List Int} {w:World} (h:lD vs Q enc ns w):vs.length=ns.length:=by
 rw [h.t.1,ZW]
theorem TR (first next:Int) (Q:Option Addr) (cq:Nat) (vs:List QV) (enc:Int->Ut) (ns:List Int) (n:Int) (w0 w:World) (h:lD vs Q enc ns w) (hl:vs.length<=1000000) (hb:Below w0.heap.size w0 w) (hn:n∈ns):
  Calls Try.prog 99 #[bS first next Q vs.length cq,.int .i64 n] w fun e w'=>∃A c,e= .returned (.tuple #[.slice A (aB pR (enc n)).length c,.bool true])/\Hid (aM w' w'.heap.size A (aB pR (enc n))/\(aB pR (enc n)).length<=c/\Below w0.heap.size w0 w'):=by
 refine (Jg first next Q cq vs (sV enc ns) n w h.r h.t hl).mono ?_;rintro e w' ⟨h1,h2⟩;rw [EK,if_pos hn] at h2;obtain ⟨A,c,rfl,h3,h4⟩:=h2;exact ⟨A,c,rfl,aC ⟨h3.more h1.size,h4,ah hb h1⟩⟩
theorem O8 (first next:Int) (Q:Option Addr) (cq:Nat) (vs:List QV) (enc:Int->Ut) (ns:List Int) (n:Int) (w0 w:World) (h:lD vs Q enc ns w) (hl:vs.length<=1000000) (hb:Below w0.heap.size w0 w) (hn:n∉ns):
  Calls Try.prog 99 #[bS first next Q vs.length cq,.int .i64 n] w fun e w'=>e= .returned (.tuple #[.slice none 0 0,.bool false])/\Hid (Below w0.heap.size w0 w'):=by
 refine (Jg first next Q cq vs (sV enc ns) n w h.r h.t hl).mono ?_;rintro e w' ⟨h1,h2⟩;rw [EK,if_neg hn] at h2;exact ⟨h2,aC (ah hb h1)⟩
structure JV (L:Sorts) (τ:Va) (s:Lb) (t:Ut):Prop where
 ok:dQ L t
 sh:j_ t
 wf:vR t
 wi:vR (inst τ t)
 len:(aB s t).length<=1000000
 li:(aB s (inst τ t)).length<=19000000000
theorem L9 {k n:Int} {fs:Fl} {tl:Option Int} (h:vR (.mk k n fs tl)) {p:Lb×Ut} (hp:p∈fs):gD p.2:=by
 rcases h with h|h
 ·rw [bU] at h
  exact h.2 p hp
 ·injection h with _ _ e _
  rw [e] at hp
  cases hp
theorem JV.child {L:Sorts} {τ:Va} {s:Lb} {k n:Int} {fs:Fl} {tl:Option Int} (h:JV L τ s (.mk k n fs tl)) (h8:k≠8) {p:Lb×Ut} (hp:p∈fs) (l:Lb):JV L τ l p.2/\(aB l p.2).length<(aB s (.mk k n fs tl)).length:=by
 have ok:=h.ok;have sh:=h.sh;have wi:=h.wi;have li:=h.li;rw [bK] at ok;rw [iV] at sh;rw [aK,if_neg h8] at wi li;have hm:(p.1,inst τ p.2)∈aZ (aI (inst τ) fs++(τ.tail tl).1):=dX.2 (List.mem_append_left _ (aaN.2 ⟨p,hp,rfl⟩));have e1:=iP s k n fs tl;have e2:=qj (r:=av k) hp;have e3:=iP s k n (aZ (aI (inst τ) fs++(τ.tail tl).1)) (τ.tail tl).2;have e4:=qj (r:=av k) hm;have e5:=h.len;rw [uy pR l] at e2 e4;simp only at e4;exact ⟨⟨ok.2 p hp,sh.2 p hp,.inl (L9 h.wf hp),.inl (L9 wi hm),by omega,by omega⟩,by omega⟩
theorem L_ (first next:Int) (Q:Option Addr) (cq:Nat) (vs:List QV) (L:Sorts) (τ:Va) (kd:Int->Int) (ns:List Int) (hT:Ac L τ kd ns) (hl:vs.length<=1000000) (n:Int) (s:Lb) (A:Option Addr) (c:Nat) (w:World)
  (hM:lD vs Q (jl L τ kd) ns w) (ha:aM w w.heap.size A (aB s (aS n))) (hn:L n=none):
  Calls Try.prog 56 #[bS first next Q vs.length cq,.slice A (aB s (aS n)).length c] w (jP w (aB s (τ.v n))):=by
 have e8:aB s (aS n)=[⟨8,s,n⟩]:=by unfold aS;rw [bY,if_neg (by decide),gH]
 rw [e8] at ha ⊢;obtain ⟨b1,o1,rfl,hb1,c10,c11,c12⟩:=ha.at_ (i:=0) (x:=⟨8,s,n⟩) rfl;simp only [adO,pO] at c10 c11 c12;have afW:jl L τ kd n=τ.v n:=by unfold jl;rw [hn]
 have HA:=aC (fun (v:World) (hb:Below w.heap.size w v)=>(ha.below hb).more hb.size);have HM:=aC (fun (v:World) (hb:Below w.heap.size w v)=>hM.step hb);have HC:Hid (∀v,Below w.heap.size w v->v.cell? ⟨b1,o1+1,none⟩=some (.string s)):=aC fun v hb=>(hb.cell (p:=⟨b1,o1+1,none⟩) hb1).trans c11;have HV:=aC (hT.v n);have HL:=aC (hT.len n);have HN:=aC hn;have HE8:=aC e8;have ajN:=aC afW;clear hT hM ha hn e8 afW;by_cases hin:n∈ns
 ·have HF:=aC (fun (v:World) (hb:Below w.heap.size w v)=>TR first next Q cq vs (jl L τ kd) ns n w v (HM.out v hb) hl hb hin)
  have hlen:=HL.out hin;rw [ajN.out] at HF hlen;obtain ⟨ks,N0,hx⟩:=Cu pR (τ.v n);have hrel:=Yn s pR (τ.v n);obtain ⟨P,hP⟩:∃P,P=aB pR (τ.v n):=⟨_,rfl⟩;obtain ⟨R,hR⟩:∃R,R=aB s (τ.v n):=⟨_,rfl⟩;rw [<-hR,<-hP] at hrel;rw [<-hP] at HF hlen hx;rw [<-hR]
  have HR:Hid (R.length=P.length/\∃x,P[0]?=some x/\P.set 0 ⟨x.k,s,x.n⟩=R):=aC (by
   rw [hx] at hrel ⊢;rw [<-hrel];exact ⟨rfl,_,rfl,rfl⟩)
  have hp0:0<P.length:=by rw [hx];simp
  clear hx hrel hP hR;go_enter Try.func56,Try.ntmps56;go_wp2_with fail
  go_region_law
   (first
    |(go_simp;(with_reducible refine (HF.out _ ?_).mono ?_);(first|exact ak (aT _ _) _|exact (ak (aT _ _) _).drew|exact ak (aT _ _).drew _);rintro e w2 ⟨A',c',rfl,hX⟩;dsimp only))
  all_goals
   have hown0:=aC (dV 48 3 iQ w2);have hcs:=HC.out w2 hX.out.2.2;have Yp:b1<w2.heap.size:=vv hb1 hX.out.2.2.size;go_wp2_with (at_builtin;refine eH rfl (.tmp 36) (.tmp 37) rfl w2.heap.size (l:=[]) rfl hown0.out (l2:=P) rfl (B:=w2.heap.size) (hX.out.1.below (ak (aT _ _) _)) (by simp;omega) (by simp) ?_;intro A1 c1 w3 hown1 hg1 _;rw [RU] at hown1;have B1:=aC (eG (ak (aT w2.heap.size w2) (.cells #[] 48)) hg1 (fun k hk=>(aA.block hown0.out k hk).1));obtain ⟨x0,hx0,hxR⟩:=HR.out.2;obtain ⟨g,rfl,hbg,hgz,e1,e2,qm,Jf⟩:=aA.Sg hown1 (j:=0) (x:=x0) hx0 s;have K4:=aC (Gw qm (Gw Jf hbg));have ao0:=(B1.out.cell (p:=⟨b1,o1+1,none⟩) Yp).trans hcs;clear hown1 hg1 qm Jf hcs;simp only [adO,iE] at e1 e2);go_ret;have h:=K4.out.1;rw [hxR] at h;simp only [adO,iE] at h;exact ⟨some ⟨g,0,none⟩,c1,by rw [HR.out.1];rfl,h.lower hX.out.2.2.size,kD (ah hX.out.2.2 B1.out) (p:=⟨g,1,none⟩) (Nat.le_trans hX.out.2.2.size K4.out.2.2) _⟩
 ·have HF:=aC (fun (v:World) (hb:Below w.heap.size w v)=>O8 first next Q cq vs (jl L τ kd) ns n w v (HM.out v hb) hl hb hin)
  have hv:Hid (aB s (τ.v n)=[⟨8,s,n⟩]):=aC (by rw [HV.out hin HN.out,HE8.out]);go_enter Try.func56,Try.ntmps56;go_wp2_with fail
  go_region_law
   (first
    |(go_simp;(with_reducible refine (HF.out _ ?_).mono ?_);(first|exact ak (aT _ _) _|exact (ak (aT _ _) _).drew|exact ak (aT _ _).drew _);rintro e w2 ⟨rfl,hX⟩;dsimp only))
  all_goals
   have hown0:=aC (dV 48 3 iQ w2);go_wp2_with (at_builtin;refine eH rfl (.tmp 33) (.tmp 34) rfl w2.heap.size (l:=[]) rfl hown0.out (l2:=[⟨8,s,n⟩]) rfl (B:=w2.heap.size) ((HA.out w2 hX.out).below (ak (aT _ _) _)) (by simp) (by simp) ?_;intro A1 c1 w3 hown1 hg1 _;rw [RU] at hown1;have B1:=aC (eG (ak (aT w2.heap.size w2) (.cells #[] 48)) hg1 (fun k hk=>(aA.block hown0.out k hk).1));have K1:=aC hown1;clear hown1 hg1);go_ret;unfold jP;rw [hv.out];exact ⟨A1,c1,rfl,K1.out.lower hX.out.size,ah hX.out B1.out⟩
end Go.Proofs.Ytblfeokjlecgkaa
