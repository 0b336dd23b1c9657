/- Laid together by a tool from the texts of this seat: KidsR. Conditions: each theorem's own. -/
import Derived.Test.YtmjdhfbnmmdjiaaGreatJ01
import Derived.Maps.AppendAt
import Derived.Deep.AppendLies
set_option maxHeartbeats 8000000
set_option maxRecDepth 100000
namespace Go.Proofs.YtmjdhfbnmmdjiaaGreat
open Go.Value renaming slice->fq,ownBlock->fA,oneCell'->gJ
open Go.Lib renaming hid->aD
open _root_.Nat renaming le_refl->aG,succ_mul->fG,add_zero->gH
open Go.RowKit.Below renaming refl->aF
open _root_.Int renaming eq_ofNat_of_zero_le->gK
open Go.RowKit
section
variable {α:Type} {enc:α->List Value} {size e base:Nat} {w w':World} {A:Option Addr} {cap B:Nat} {l:List α}
def aB (e size:Nat) (enc:α->List Value) (w:World) (base:Nat) (A:Option Addr) (cap:Nat) (l:List α):Prop:=
 w.ownsRow base e size (.slice A l.length cap) l.length (l.flatMap enc)
def bf (size:Nat) (enc:α->List Value) (w:World) (B:Nat) (A:Option Addr) (l:List α):Prop:=
 l≠[]->∃b o,A=some ⟨b,o,none⟩/\b<B/\∀(i:Nat) (x:α),l[i]?=some x->∀(j:Nat) (u:Value),(enc x)[j]?=some u->w.cell? ⟨b,o+i*size+j,none⟩=some u
theorem xA {size:Nat} {enc:α->List Value} (hk:∀x,(enc x).length=size):∀{l:List α} {i:Nat} {x:α} {j:Nat} {u:Value},l[i]?=some x->(enc x)[j]?=some u->(l.flatMap enc)[i*size+j]?=some u:=by
 intro l
 induction l with
 |nil=>intro i x j u h;simp at h
 |cons y l ih=>
  intro i x j u h hu;rw [List.flatMap_cons]
  cases i with
  |zero=>
   simp only [List.getElem?_cons_zero,Option.some.injEq] at h;subst h;rw [Nat.zero_mul,Nat.zero_add,List.getElem?_append_left (aU hu)]
   exact hu
  |succ i=>
   rw [List.getElem?_cons_succ] at h;rw [List.getElem?_append_right (by rw [hk];rw [fG];omega),hk,show (i+1)*size+j-size=i*size+j by rw [fG];omega];exact ih h hu
theorem jB {size:Nat} {enc:α->List Value} (hk:∀x,(enc x).length=size):∀(l:List α),(l.flatMap enc).length=l.length*size:=by
 intro l
 induction l with
 |nil=>simp
 |cons y l ih=>rw [List.flatMap_cons,List.length_append,ih,hk,List.length_cons,fG];omega
theorem aB.nil:aB (α:=α) e size enc w base none 0 []:=World.ownsRow_nil _ _ _ _
theorem aB.read (hk:∀x,(enc x).length=size) (h:aB e size enc w base A cap l):bf size enc w w.heap.size A l:=by
 intro hne;rcases h.2 with ⟨hv,hn⟩|⟨g,cap',cur,hv,hbg,hg,hnc,hcm,hcs,htake⟩
 ·exact absurd (List.eq_nil_of_length_eq_zero hn) hne
 ·injection hv with hA _ _
  subst hA;refine ⟨g,0,rfl,lt_of_block hg,fun i x hx j u hu=>?_⟩;have h1:=xA hk hx hu;rw [<-htake] at h1;have h2:=aU h1;rw [List.length_take] at h2;rw [List.getElem?_take_of_lt (by omega)] at h1;simp only [World.cell?,hg,Nat.zero_add];simpa using h1
theorem aB.block (h:aB e size enc w base A cap l):∀k,(fq A l.length cap).ownBlock=some k->base<=k/\k<w.heap.size:=World.ownsRow.lt h
theorem aB.kept {row:Option Nat} (h:aB e size enc w base A cap l) (hg:w.grownBy w' row) (hne:∀k,row=some k->∀a,A=some a->a.block≠k):aB e size enc w' base A cap l:=
 World.ownsRow.kept h hg (by
  cases A with
  |none=>exact .inl rfl
  |some a=>
   refine .inr ?_;intro heq
   cases row with
   |none=>simp [fA] at heq
   |some k=>simp only [fA,Option.some.injEq] at heq;exact hne k rfl a rfl heq)
theorem aB.below {B:Nat} (h:aB e size enc w base A cap l) (hb:Below B w w') (hB:w.heap.size<=B):aB e size enc w' base A cap l:=
 aB.kept (row:=none) h ⟨hb.os,hb.tape,hb.output,hb.size,fun k hk _=>hb.block k (by omega)⟩ (by simp)
theorem aB.alloc (h:aB e size enc w base A cap l) (o:Obj):aB e size enc (w.alloc o) base A cap l:=
 h.below (aj (aF _ _) o) (aG _)
theorem aB.drewN (h:aB e size enc w base A cap l) (n:Nat):aB e size enc (w.drewN n) base A cap l:=
 h.below (dH (aF _ _) n) (aG _)
theorem bf.nil:bf (α:=α) size enc w B A []:=fun h=>absurd rfl h
theorem bf.keep (h:bf size enc w B A l) (hk:∀b off,b<B->w'.cell? ⟨b,off,none⟩=w.cell? ⟨b,off,none⟩):bf size enc w' B A l:=fun hne=>by
 obtain ⟨b,o,rfl,hb,hc⟩:=h hne;exact ⟨b,o,rfl,hb,fun i x hx j u hu=>(hk _ _ hb).trans (hc i x hx j u hu)⟩
theorem bf.below (h:bf size enc w B A l) (hb:Below B w w'):bf size enc w' B A l:=h.keep fun b off hlt=>hb.cell (p:=⟨b,off,none⟩) hlt
theorem bf.more {B':Nat} (h:bf size enc w B A l) (hB:B<=B'):bf size enc w B' A l:=fun hne=>by
 obtain ⟨b,o,rfl,hb,hc⟩:=h hne;exact ⟨b,o,rfl,by omega,hc⟩
end
theorem Jz (b o j:Nat):(Addr.mk b o none).add j=⟨b,o+j,none⟩:=by
 unfold Addr.add;split
 ·next h=>subst h;rfl
 ·rfl
section
variable {α:Type} {P:Program} (w:World)
theorem Wo {size:Nat} {enc:α->List Value} (hk:∀x,(enc x).length=size) (h1:∀x,∀u∈enc x,u.oneCell'=true)
  (base t ty e:Nat) (i:TypeInfo) (z:Value) (bytes:Nat) (ht:P.underlying t=some (.slice e)) (hi:P.info? e=some i) (hz:i.zero=some z)
  (hsize:i.size=size) (hby:i.bytes=bytes) (hzs:z.cells.size=size) (hsz:0<size)
  {A:Option Addr} {cap:Nat} {l:List α} (hown:aB e size enc w base A cap l) {B:Nat} {A2:Option Addr} {c:Nat} {l2:List α} (hr:bf size enc w B A2 l2)
  (h63:l.length+l2.length<=maxLen) (hbytes:(l.length+l2.length)*bytes<=140737488355328) (hbase:base<=w.heap.size):
  ∃A' cap' w',(Builtin.append_ #[t,t] ty #[.slice A l.length cap,.slice A2 l2.length c]).run P w= .ok (.slice A' (l.length+l2.length) cap') w'/\aB e size enc w' base A' cap' (l++l2)/\
   w.grownBy w' ((fq A l.length cap).ownBlock)/\((fq A' (l.length+l2.length) cap').ownBlock=(fq A l.length cap).ownBlock\/(fq A' (l.length+l2.length) cap').ownBlock=some w.heap.size):=by
 have hfl:(l++l2).flatMap enc=l.flatMap enc++l2.flatMap enc:=by simp [List.flatMap_append]
 by_cases hne:l2=[]
 ·subst hne
  refine ⟨A,cap,w,?_,by unfold aB at hown ⊢;simpa using hown,World.grownBy.refl w _,.inl (by simp)⟩;have hl0:(([]:List α).length)=0:=rfl;simp only [List.length_nil,gH];rcases hown.2 with ⟨hv,hn⟩|⟨g,cap',cur,hv,hbg,hg,hnc,hcm,hcs,htake⟩
  ·injection hv with hA hl hc
   subst hA hc;rw [hn]
   cases A2<;>simp [Builtin.append_,run_underlying ht,sizeOf,typeInfo,hi,Builtin.lenOf,Builtin.firstCells,loadCells,loadCellsFrom]
  ·injection hv with hA hl hc
   subst hA hc
   cases A2<;>simp [Builtin.append_,run_underlying ht,sizeOf,typeInfo,hi,Builtin.lenOf,Builtin.firstCells,hnc,storeCells,loadCells,loadCellsFrom]
 ·obtain ⟨b,o,rfl,hb,hc⟩:=hr hne
  have hnews:∀(j:Nat) (u:Value),(l2.flatMap enc)[j]?=some u->w.cell? ((Addr.mk b o none).add j)=some u:=by
   intro j u hu;have hj:=aU hu;rw [jB hk] at hj;have hq:j / size<l2.length:=Nat.div_lt_of_lt_mul (by rw [Nat.mul_comm];exact hj);obtain ⟨x,hx⟩:=aN hq;have hm:j % size<(enc x).length:=by rw [hk];exact Nat.mod_lt _ hsz
   obtain ⟨u',hu'⟩:=aN hm;have e1:=xA hk hx hu';have e2:j / size*size+j % size=j:=by rw [Nat.mul_comm];exact Nat.div_add_mod j size
   rw [e2,hu] at e1;injection e1 with e1
   subst e1;have:=hc _ _ hx _ _ hu';rw [Jz]
   rwa [show o+j / size*size+j % size=o+j by omega] at this
  have hall:∀u∈l2.flatMap enc,u.oneCell'=true:=by
   intro u hu;rw [List.mem_flatMap] at hu;obtain ⟨x,_,hx⟩:=hu;exact h1 x u hx
  obtain ⟨v',w',hrun,h2,h3,_,h5⟩:=run_append_own_at (P:=P) w base t ty e i z size bytes ht hi hz hsize hby hzs hsz _ _ _ hown ⟨b,o,none⟩ l2.length c (l2.flatMap enc) (jB hk _) hnews hall h63 hbytes hbase
  have hform:∃A' cap',v'= .slice A' (l.length+l2.length) cap':=by
   rcases h2.2 with ⟨hv,hn⟩|⟨g,cap',cur,hv,_⟩
   ·exact ⟨none,0,by rw [hv,hn]⟩
   ·exact ⟨_,_,hv⟩
  obtain ⟨A',cap',rfl⟩:=hform;refine ⟨A',cap',w',hrun,?_,h3,h5⟩;unfold aB;rw [hfl,List.length_append];exact h2
theorem vP {size:Nat} {enc:α->List Value} (hk:∀x,(enc x).length=size) (h1:∀x,∀u∈enc x,u.oneCell'=true)
  {o:Oper} {a:Act} {K:Act->World->Prop} {Q:Exit->Act->World->Prop} (s x:Operand) (t:TypeId)
  (ho:o.op= .call {callee:=.builtin .append,args:=#[s,x],argTypes:=#[t,t]})
  (base e:Nat) (i:TypeInfo) (z:Value) (bytes:Nat) (ht:P.underlying t=some (.slice e)) (hi:P.info? e=some i) (hz:i.zero=some z)
  (hsize:i.size=size) (hby:i.bytes=bytes) (hzs:z.cells.size=size) (hsz:0<size)
  {A:Option Addr} {cap:Nat} {l:List α} (hs:a.eval s= .slice A l.length cap) (hown:aB e size enc w base A cap l) {B:Nat} {A2:Option Addr} {c:Nat} {l2:List α} (hx:a.eval x= .slice A2 l2.length c) (hr:bf size enc w B A2 l2)
  (h63:l.length+l2.length<=maxLen) (hbytes:(l.length+l2.length)*bytes<=140737488355328) (hbase:base<=w.heap.size)
  (h:∀A' cap' w',aB e size enc w' base A' cap' (l++l2)->w.grownBy w' ((fq A l.length cap).ownBlock)->
   ((fq A' (l.length+l2.length) cap').ownBlock=(fq A l.length cap).ownBlock\/(fq A' (l.length+l2.length) cap').ownBlock=some w.heap.size)->K (a.put o.dst (.slice A' (l.length+l2.length) cap')) w'):o.wp P a w K Q:=by
 obtain ⟨A',cap',w',hrun,h2,h3,h4⟩:=Wo (P:=P) w hk h1 base t o.type e i z bytes ht hi hz hsize hby hzs hsz hown (c:=c) hr h63 hbytes hbase;unfold Oper.wp execOp;simp only [ho,resolve,invoke,builtin,Sem.run_bind,Sem.run_pure,Result.andThen_ok,List.map_toArray,List.map_cons,List.map_nil,hs,hx,hrun];exact h A' cap' w' h2 h3 h4
theorem om {size:Nat} {enc:α->List Value} (hk:∀x,(enc x).length=size) (h1:∀x,∀u∈enc x,u.oneCell'=true)
  {ops:Array Oper} {rest:List Oper} {o:Oper} {a:Act} {Q:Exit->Act->World->Prop} (hgd:o.guard=none) (s x:Operand) (t:TypeId)
  (ho:o.op= .call {callee:=.builtin .append,args:=#[s,x],argTypes:=#[t,t]})
  (base e:Nat) (i:TypeInfo) (z:Value) (bytes:Nat) (ht:P.underlying t=some (.slice e)) (hi:P.info? e=some i) (hz:i.zero=some z)
  (hsize:i.size=size) (hby:i.bytes=bytes) (hzs:z.cells.size=size) (hsz:0<size)
  {A:Option Addr} {cap:Nat} {l:List α} (hs:a.eval s= .slice A l.length cap) (hown:aB e size enc w base A cap l) {B:Nat} {A2:Option Addr} {c:Nat} {l2:List α} (hx:a.eval x= .slice A2 l2.length c) (hr:bf size enc w B A2 l2)
  (h63:l.length+l2.length<=maxLen) (hbytes:(l.length+l2.length)*bytes<=140737488355328) (hbase:base<=w.heap.size)
  (h:∀A' cap' w',aB e size enc w' base A' cap' (l++l2)->w.grownBy w' ((fq A l.length cap).ownBlock)->
   ((fq A' (l.length+l2.length) cap').ownBlock=(fq A l.length cap).ownBlock\/(fq A' (l.length+l2.length) cap').ownBlock=some w.heap.size)->wpList P ops Q rest (a.put o.dst (.slice A' (l.length+l2.length) cap')) w'):wpList P ops Q (o::rest) a w:=
 wpList_plain hgd fun _ hK=>vP w hk h1 s x t ho base e i z bytes ht hi hz hsize hby hzs hsz hs hown hx hr h63 hbytes hbase fun A' cap' w' h2 h3 h4=>hK _ _ (h A' cap' w' h2 h3 h4)
end
def encI (n:Int):List Value:=[.int .i64 n]
def iA (x:Nd):List Value:=[.int .i64 x.k,.string x.s,.int .i64 x.n]
def encS (v:Option Addr×Nat×Nat):List Value:=[.slice v.1 v.2.1 v.2.2]
theorem eP (n:Int):(encI n).length=1:=rfl
theorem jZ (x:Nd):(iA x).length=3:=rfl
theorem jI (v:Option Addr×Nat×Nat):(encS v).length=1:=rfl
theorem T_ (n:Int):∀u∈encI n,u.oneCell'=true:=by simp [encI,gJ]
theorem Co (x:Nd):∀u∈iA x,u.oneCell'=true:=by simp [iA,gJ]
theorem JA (v:Option Addr×Nat×Nat):∀u∈encS v,u.oneCell'=true:=by simp [encS,gJ]
theorem Wp:(Tryz.prog.info? 3).map (fun i=>(i.zero,i.size,i.bytes))=some (some (.int .i64 0),1,8):=by kernel_rfl
theorem KI:(Tryz.prog.info? 49).map (fun i=>(i.zero,i.size,i.bytes))=some (some (.agg #[.int .i64 0,.string ByteArray.empty,.int .i64 0]),3,32):=by kernel_rfl
theorem Wq:(Tryz.prog.info? 28).map (fun i=>(i.zero,i.size,i.bytes))=some (some (.slice none 0 0),1,24):=by kernel_rfl
abbrev eU (w:World) (base:Nat) (A:Option Addr) (cap:Nat) (l:List Int):Prop:=aB 3 1 encI w base A cap l
abbrev mF (w:World) (B:Nat) (A:Option Addr) (l:List Int):Prop:=bf 1 encI w B A l
abbrev dK (w:World) (base:Nat) (A:Option Addr) (cap:Nat) (l:List Nd):Prop:=aB 49 3 iA w base A cap l
abbrev iH (w:World) (base:Nat) (A:Option Addr) (cap:Nat) (l:List (Option Addr×Nat×Nat)):Prop:=aB 28 1 encS w base A cap l
abbrev jU (w:World) (B:Nat) (A:Option Addr) (l:List (Option Addr×Nat×Nat)):Prop:=bf 1 encS w B A l
theorem bO.P8 {w:World} {B:Nat} {A:Option Addr} {xs:List Nd} (h:bO w B A xs):bf 3 iA w B A xs:=fun hne=>by
 obtain ⟨b,o,rfl,hb,hr⟩:=h hne;refine ⟨b,o,rfl,hb,fun i x hx j u hu=>?_⟩
 match j,hu with
 |0,hu=>simp [iA] at hu;subst hu;exact hr.c0 i x hx
 |1,hu=>simp [iA] at hu;subst hu;exact hr.c1 i x hx
 |2,hu=>simp [iA] at hu;subst hu;exact hr.c2 i x hx
 |j+3,hu=>simp [iA] at hu
theorem bf.eY {w:World} {B:Nat} {A:Option Addr} {xs:List Nd} (h:bf 3 iA w B A xs):bO w B A xs:=fun hne=>by
 obtain ⟨b,o,rfl,hb,hc⟩:=h hne;exact ⟨b,o,rfl,hb,⟨fun i x hx=>hc i x hx 0 _ rfl,fun i x hx=>hc i x hx 1 _ rfl,fun i x hx=>hc i x hx 2 _ rfl⟩⟩
theorem aB.eY {w:World} {base:Nat} {A:Option Addr} {cap:Nat} {xs:List Nd} (h:dK w base A cap xs):bO w w.heap.size A xs:=bf.eY (aB.read jZ h)
theorem bf.int {w:World} {B:Nat} {A:Option Addr} {l:List Int} (h:mF w B A l) {i:Nat} {n:Int} (hn:l[i]?=some n):
  ∃b o,A=some ⟨b,o,none⟩/\b<B/\w.cell? ⟨b,o+i,none⟩=some (.int .i64 n):=by
 obtain ⟨b,o,rfl,hb,hc⟩:=h (by rintro rfl;simp at hn);have:=hc i n hn 0 _ rfl;rw [Nat.mul_one,gH] at this;exact ⟨b,o,rfl,hb,this⟩
theorem bf.slice {w:World} {B:Nat} {A:Option Addr} {l:List (Option Addr×Nat×Nat)} (h:jU w B A l) {i:Nat} {v:Option Addr×Nat×Nat} (hn:l[i]?=some v):
  ∃b o,A=some ⟨b,o,none⟩/\b<B/\w.cell? ⟨b,o+i,none⟩=some (.slice v.1 v.2.1 v.2.2):=by
 obtain ⟨b,o,rfl,hb,hc⟩:=h (by rintro rfl;simp at hn);have:=hc i v hn 0 _ rfl;rw [Nat.mul_one,gH] at this;exact ⟨b,o,rfl,hb,this⟩
theorem vQ (w:World) (n:Int):mF (w.alloc (.cells #[.int .i64 n] 3)) (w.heap.size+1) (some ⟨w.heap.size,0,none⟩) [n]:=fun _=>by
 refine ⟨w.heap.size,0,rfl,by omega,fun i x hx j u hu=>?_⟩
 match i,hx with
 |0,hx=>
  simp at hx;subst hx
  match j,hu with
  |0,hu=>simp [encI] at hu;subst hu;simp
  |j+1,hu=>simp [encI] at hu
 |i+1,hx=>simp at hx
theorem pR (w:World) (v:Option Addr×Nat×Nat):jU (w.alloc (.cells #[.slice v.1 v.2.1 v.2.2] 28)) (w.heap.size+1) (some ⟨w.heap.size,0,none⟩) [v]:=fun _=>by
 refine ⟨w.heap.size,0,rfl,by omega,fun i x hx j u hu=>?_⟩
 match i,hx with
 |0,hx=>
  simp at hx;subst hx
  match j,hu with
  |0,hu=>simp [encS] at hu;subst hu;simp
  |j+1,hu=>simp [encS] at hu
 |i+1,hx=>simp at hx
theorem jo {α:Type} (e size:Nat) (enc:α->List Value) (w:World):aB e size enc (w.alloc (.cells #[] e)) w.heap.size (some ⟨w.heap.size,0,none⟩) 0 ([]:List α):=
 World.ownsRow_made w #[] 0 (aG _) (by simp [maxLen]) (by simp)
theorem cK {A:Option Addr} {n c:Nat} {k:Nat} (h:(fq A n c).ownBlock=some k):∃a,A=some a/\a.block=k:=by
 cases A with
 |none=>simp [fA] at h
 |some a=>exact ⟨a,rfl,by simpa [fA] using h⟩
theorem jw {w W w1:World} {A:Option Addr} {n c:Nat} (h:Below w.heap.size w W) (hg:W.grownBy w1 ((fq A n c).ownBlock)) (hA:∀k,(fq A n c).ownBlock=some k->w.heap.size<=k):Below w.heap.size w w1:=
 h.grown hg h.size fun k hk=>hA k hk
section
variable {w:World} {ops:Array Oper} {rest:List Oper} {o:Oper} {a:Act} {Q:Exit->Act->World->Prop}
theorem rF (hgd:o.guard=none) (s x:Operand)
  (ho:o.op= .call {callee:=.builtin .append,args:=#[s,x],argTypes:=#[50,50]})
  (base:Nat) {A:Option Addr} {cap:Nat} {l:List Int} (hs:a.eval s= .slice A l.length cap) (hown:eU w base A cap l) {B:Nat} {A2:Option Addr} {c:Nat} {l2:List Int} (hx:a.eval x= .slice A2 l2.length c) (hr:mF w B A2 l2)
  (hlen:l.length+l2.length<=10000000) (hbase:base<=w.heap.size)
  (h:∀A' cap' w',eU w' base A' cap' (l++l2)->w.grownBy w' ((fq A l.length cap).ownBlock)->
   ((fq A' (l.length+l2.length) cap').ownBlock=(fq A l.length cap).ownBlock\/(fq A' (l.length+l2.length) cap').ownBlock=some w.heap.size)->wpList Tryz.prog ops Q rest (a.put o.dst (.slice A' (l.length+l2.length) cap')) w'):wpList Tryz.prog ops Q (o::rest) a w:=by
 obtain ⟨i0,hi,hz0,hz1,hz2⟩:=info_parts Wp;exact om w eP T_ hgd s x 50 ho base 3 i0 _ 8 Tryz.underlying50 hi hz0 hz1 hz2 rfl (by decide) hs hown hx hr (by unfold maxLen;omega) (by omega) hbase h
theorem rG (hgd:o.guard=none) (s x:Operand)
  (ho:o.op= .call {callee:=.builtin .append,args:=#[s,x],argTypes:=#[28,28]})
  (base:Nat) {A:Option Addr} {cap:Nat} {l:List Nd} (hs:a.eval s= .slice A l.length cap) (hown:dK w base A cap l) {B:Nat} {A2:Option Addr} {c:Nat} {l2:List Nd} (hx:a.eval x= .slice A2 l2.length c) (hr:bO w B A2 l2)
  (hlen:l.length+l2.length<=1000000000000) (hbase:base<=w.heap.size)
  (h:∀A' cap' w',dK w' base A' cap' (l++l2)->w.grownBy w' ((fq A l.length cap).ownBlock)->
   ((fq A' (l.length+l2.length) cap').ownBlock=(fq A l.length cap).ownBlock\/(fq A' (l.length+l2.length) cap').ownBlock=some w.heap.size)->wpList Tryz.prog ops Q rest (a.put o.dst (.slice A' (l.length+l2.length) cap')) w'):wpList Tryz.prog ops Q (o::rest) a w:=by
 obtain ⟨i0,hi,hz0,hz1,hz2⟩:=info_parts KI;exact om w jZ Co hgd s x 28 ho base 49 i0 _ 32 Tryz.underlying28 hi hz0 hz1 hz2 rfl (by decide) hs hown hx hr.P8 (by unfold maxLen;omega) (by omega) hbase h
theorem KJ (hgd:o.guard=none) (s x:Operand)
  (ho:o.op= .call {callee:=.builtin .append,args:=#[s,x],argTypes:=#[71,71]})
  (base:Nat) {A:Option Addr} {cap:Nat} {l:List (Option Addr×Nat×Nat)} (hs:a.eval s= .slice A l.length cap) (hown:iH w base A cap l) {B:Nat} {A2:Option Addr} {c:Nat} {l2:List (Option Addr×Nat×Nat)} (hx:a.eval x= .slice A2 l2.length c) (hr:jU w B A2 l2)
  (hlen:l.length+l2.length<=10000000) (hbase:base<=w.heap.size)
  (h:∀A' cap' w',iH w' base A' cap' (l++l2)->w.grownBy w' ((fq A l.length cap).ownBlock)->
   ((fq A' (l.length+l2.length) cap').ownBlock=(fq A l.length cap).ownBlock\/(fq A' (l.length+l2.length) cap').ownBlock=some w.heap.size)->wpList Tryz.prog ops Q rest (a.put o.dst (.slice A' (l.length+l2.length) cap')) w'):wpList Tryz.prog ops Q (o::rest) a w:=by
 obtain ⟨i0,hi,hz0,hz1,hz2⟩:=info_parts Wq;exact om w jI JA hgd s x 71 ho base 28 i0 _ 24 Tryz.underlying71 hi hz0 hz1 hz2 rfl (by decide) hs hown hx hr (by unfold maxLen;omega) (by omega) hbase h
end
def endGo:List Nd->Int->Nat->Nat
 |[],_,p=>p
 |x::xs,op,p=>if op-1+many x.k x.n=0 then p+1 else endGo xs (op-1+many x.k x.n) (p+1)
def sj (xs:List Nd) (i:Int):Int:=if i<0\/(xs.length:Int)<=i then-1 else (endGo (xs.drop i.toNat) 1 i.toNat:Nat)
def bI (xs:List Nd):Prop:=∀x∈xs,dR x.k x.n=true
theorem gB {α:Type} {l:List α} {i:Nat} {x:α} (h:l[i]?=some x):x∈l:=List.mem_of_getElem? h
theorem qG {k n:Int} (h:dR k n=true):0<=many k n/\many k n<=50:=by
 unfold many;split
 ·omega
 ·split
  ·rename_i h6
   rw [w_ h6] at h;obtain ⟨h1,h2⟩:=of_decide_eq_true h;split at h1<;>omega
  ·omega
theorem Ng {xs:List Nd} {k:Nat} {x:Nd} (hx:xs[k]?=some x) (op:Int) (p:Nat):
  endGo (xs.drop k) op p=if op-1+many x.k x.n=0 then p+1 else endGo (xs.drop (k+1)) (op-1+many x.k x.n) (p+1):=by
 rw [drop_cons hx];rfl
theorem Ua:∀(xs:List Nd) (op:Int) (p:Nat),endGo xs op p<=p+xs.length:=by
 intro xs
 induction xs with
 |nil=>intro op p;simp [endGo]
 |cons x xs ih=>
  intro op p;simp only [endGo,List.length_cons];split
  ·omega
  ·have:=ih (op-1+many x.k x.n) (p+1)
   omega
theorem EW (A:Option Addr) (c:Nat) (xs:List Nd) (i:Int) (w:World) (ha:bO w w.heap.size A xs) (hl:xs.length<=100000000000) (hok:bI xs):
  Calls Tryz.prog 48 #[.slice A xs.length c,.int .i64 i] w fun e w'=>e= .returned (.int .i64 (sj xs i))/\Below w.heap.size w w':=by
 have nJ:=aD hok;clear hok;by_cases h0:i<0
 ·have hfin:=aD (show sj xs i= -1 by unfold sj;rw [if_pos (.inl h0)])
  go_enter Tryz.func48,Tryz.ntmps48;go_wp2_with fail;go_ret;exact ⟨kS (by rw [hfin.out]),aF _ _⟩
 by_cases h1:(xs.length:Int)<=i
 ·have hfin:=aD (show sj xs i= -1 by unfold sj;rw [if_pos (.inr h1)])
  go_enter Tryz.func48,Tryz.ntmps48;go_wp2_with fail;go_ret;exact ⟨kS (by rw [hfin.out]),aF _ _⟩
 obtain ⟨n,rfl⟩:=gK (Int.not_lt.1 h0);have hn:n<xs.length:=by omega
 have hfin:=aD (show sj xs (n:Int)=((endGo (xs.drop n) 1 n:Nat):Int) by unfold sj;rw [if_neg (by omega)];simp);have h0':(0:Int)<=(n:Int):=by omega
 have h1':(n:Int)<(xs.length:Int):=by omega
 have hd0:decide ((n:Int)<0)=false:=by simp
 have hd1:decide (xs.length<=n)=false:=by simp;omega
 clear h0 h1;go_enter Tryz.func48,Tryz.ntmps48;go_wp2_with fail
 go_loopw [5,6] (fun o5 i6 w'=>∃(k:Nat) (op:Int),o5= .int .i64 op/\i6= .int .i64 k/\n<=k/\k<=xs.length/\1<=op/\op<=1+50*((k:Int)-n)/\Below w.heap.size w w'/\Hid (endGo (xs.drop k) op k=endGo (xs.drop n) 1 n))
  (fun _ i6 _=>xs.length-(intOf i6).toNat)
 case atStart=>exact ⟨n,1,rfl,rfl,aG _,by omega,by omega,by omega,aF _ _,aD rfl⟩
 case round=>
  obtain ⟨k,op,rfl,rfl,hnk,hk,anq,hop1,hbel,hgood⟩:=hrel;by_cases hp:k<xs.length
  ·obtain ⟨x,hx⟩:=aN hp
   have hstep:=aD (Ng hx op k);have hmb:=qG (nJ.out x (gB hx));obtain ⟨m0,m1⟩:=hmb;obtain ⟨b1,o1,rfl,hb1,c10,c11,c12⟩:=((ha.below hbel).more hbel.size).at_ hx;clear hx;by_cases hz:op-1+many x.k x.n=0
   ·have hzb:(op-1+many x.k x.n==0)=true:=by simpa using hz
    have Hz:=aD hz;clear hz;go_wp2_with (go_at_call 78;refine (nW _ _ _ _).mono ?_;rintro e w1 ⟨rfl,hbx⟩);go_ret;exact ⟨kS (by rw [hfin.out,<-hgood.out,hstep.out,if_pos Hz.out];omega),au hbel hbx⟩
   ·have hzb:(op-1+many x.k x.n==0)=false:=by simpa using hz
    have Hz:=aD hz;have hz2:1<=op-1+many x.k x.n:=by omega
    clear hz;go_wp2_with (go_at_call 78;refine (nW _ _ _ _).mono ?_;rintro e w1 ⟨rfl,hbx⟩);go_roundw
    case rel=>exact ⟨k+1,op-1+many x.k x.n,rfl,by go_num,by omega,hp,hz2,by omega,au hbel hbx,aD (by rw [<-hgood.out,hstep.out,if_neg Hz.out])⟩
    case measure=>simp [intOf];omega
  ·have hend:=aD (show endGo (xs.drop k) op k=xs.length by rw [List.drop_of_length_le (by omega)];simp [endGo];omega)
   go_wp2_with fail;go_ret;exact ⟨kS (by rw [hfin.out,<-hgood.out,hend.out]),hbel⟩
theorem Cq (A:Option Addr) (c:Nat) (xs:List Nd) (i:Int) (w:World) (ha:bO w w.heap.size A xs) (hl:xs.length<=1000000) (hok:bI xs):
  Calls Tryz.prog 48 #[.slice A xs.length c,.int .i64 i] w fun e w'=>e= .returned (.int .i64 (sj xs i))/\Below w.heap.size w w':=
 EW A c xs i w ha (by omega) hok
def aZ (xs:List Nd):Nat->Nat->List Nat
 |0,_=>[]
 |todo+1,at_=>if at_<xs.length then at_::aZ xs todo (endGo (xs.drop at_) 1 at_) else []
def dw (l:List Nat):List Int:=l.map fun (n:Nat)=>(n:Int)
theorem Nh (a b:List Nat):dw (a++b)=dw a++dw b:=List.map_append
def fK (xs:List Nd) (i:Int):List Nat:=
 if i<0 then [] else match xs[i.toNat]? with
  |none=>[]
  |some x=>aZ xs (many x.k x.n).toNat (i.toNat+1)
theorem Cr {xs:List Nd} {n:Nat} (h:n<xs.length):sj xs (n:Int)=((endGo (xs.drop n) 1 n:Nat):Int):=by
 unfold sj;rw [if_neg (by omega)];simp
theorem fB {xs:List Nd} {d at_:Nat} (h:at_<xs.length):aZ xs (d+1) at_=at_::aZ xs d (endGo (xs.drop at_) 1 at_):=by
 simp only [aZ,if_pos h]
theorem DC {xs:List Nd} {d at_:Nat} (h:¬at_<xs.length):aZ xs d at_=[]:=by
 cases d with
 |zero=>rfl
 |succ d=>simp only [aZ,if_neg h]
theorem Ni (A:Option Addr) (c:Nat) (xs:List Nd) (i:Int) (w:World) (ha:bO w w.heap.size A xs) (hl:xs.length<=100000000000) (hok:bI xs):
  Calls Tryz.prog 55 #[.slice A xs.length c,.int .i64 i] w fun e w'=>
   ∃A' cap',e= .returned (.slice A' (dw (fK xs i)).length cap')/\eU w' w.heap.size A' cap' (dw (fK xs i))/\Below w.heap.size w w':=by
 have nJ:=aD hok;clear hok;have hown0:=jo 3 1 encI w;have hb0:=aj (aF w.heap.size w) (.cells #[] 3);by_cases h0:i<0
 ·have hfin:=aD (show fK xs i=[] by unfold fK;rw [if_pos h0])
  go_enter Tryz.func55,Tryz.ntmps55;go_wp2_with fail;go_ret;exact ⟨_,_,by rw [hfin.out];rfl,by rw [hfin.out];exact hown0,hb0⟩
 by_cases h1:(xs.length:Int)<=i
 ·have hfin:=aD (show fK xs i=[] by unfold fK;rw [if_neg h0,List.getElem?_eq_none (by omega)])
  go_enter Tryz.func55,Tryz.ntmps55;go_wp2_with fail;go_ret;exact ⟨_,_,by rw [hfin.out];rfl,by rw [hfin.out];exact hown0,hb0⟩
 obtain ⟨n,rfl⟩:=gK (Int.not_lt.1 h0);have hn:n<xs.length:=by omega
 obtain ⟨x,hx⟩:=aN hn;obtain ⟨M,hM,Ws,_⟩:=Cn (nJ.out x (gB hx));have hfin:=aD (show fK xs (n:Int)=aZ xs M (n+1) by unfold fK;rw [if_neg (by omega)];simp [hx,hM]);have h0':(0:Int)<=(n:Int):=by omega
 have h1':(n:Int)<(xs.length:Int):=by omega
 have hd0:decide ((n:Int)<0)=false:=by simp
 have hd1:decide (xs.length<=n)=false:=by simp;omega
 have HM:=aD hM;have Hx:=aD hx;clear h0 h1 hM hx;go_enter Tryz.func55,Tryz.ntmps55;go_wp2_with fail
 go_loopw [5,6,7] (fun o5 i6 k7 wr=>∃(k at_:Nat) (A':Option Addr) (cap':Nat) (l:List Int),o5= .slice A' l.length cap'/\i6= .int .i64 at_/\k7= .int .i64 k/\k<=M/\at_<=xs.length/\l.length<=k/\
   eU wr w.heap.size A' cap' l/\Below w.heap.size w wr/\Hid (l++dw (aZ xs (M-k) at_)=dw (aZ xs M (n+1))))
  (fun _ _ k7 _=>M-(intOf k7).toNat)
 case atStart=>exact ⟨0,n+1,_,_,[],rfl,rfl,rfl,Nat.zero_le _,hn,aG _,hown0,hb0,aD rfl⟩
 case round=>
  obtain ⟨k,at_,A',cap',l,rfl,rfl,rfl,hkM,abA,hlk,hown,hbel,hgood⟩:=hrel;obtain ⟨b1,o1,rfl,hb1,c10,c11,c12⟩:=((ha.below hbel).more hbel.size).at_ Hx.out;by_cases hlt:k<M
  ·by_cases hp:at_<xs.length
   ·obtain ⟨d,hd'⟩:∃d,M-k=d+1:=⟨M-k-1,by omega⟩
    have dW:Hid ((l++[(at_:Int)])++dw (aZ xs d (endGo (xs.drop at_) 1 at_))=dw (aZ xs M (n+1))):=aD (by
     rw [<-hgood.out,hd',fB hp];simp [dw])
    have Hd':=aD hd';have hle:=Ua (xs.drop at_) 1 at_;rw [List.length_drop] at hle;have hend:=aD (Cr hp);clear hd' hgood;go_wp2_with fail;refine (nW _ _ _ _).mono ?_;rintro e w1 ⟨rfl,hbx⟩;rw [HM.out];have hown1:=aB.below hown hbx (aG _);have kG:=au hbel hbx;have z1:=kG.size;go_wp2_with (at_builtin;refine rF rfl (.tmp 35) (.tmp 37) rfl w.heap.size (l:=l) rfl (aB.alloc hown1 _) (l2:=[(at_:Int)]) rfl (vQ _ _) (by simp;omega) (by simp;omega) ?_;intro A2 cap2 w3 hown3 hg3 _);have dP:=jw (aj kG _) hg3 (fun k hk=>(aB.block hown1 k hk).1);refine (EW _ c xs at_ _ ((ha.below dP).more dP.size) hl nJ.out).mono ?_;rintro e w4 ⟨rfl,hb4⟩;rw [hend.out];have xB:=aB.below hown3 hb4 (aG _);go_wp2_with fail;go_roundw
    case rel=>exact ⟨k+1,_,_,_,l++[(at_:Int)],by simp,rfl,by go_num,by omega,by omega,by simp;omega,xB,au dP hb4,aD (by rw [<-dW.out,show M-(k+1)=d by have:=Hd'.out;omega])⟩
    case measure=>simp [intOf];omega
   ·have hout:=aD (DC (d:=M-k) hp)
    go_wp2_with fail;refine (nW _ _ _ _).mono ?_;rintro e w1 ⟨rfl,hbx⟩;rw [HM.out];have hown1:=aB.below hown hbx (aG _);have kG:=au hbel hbx;go_wp2_with fail;go_ret;have e:l=dw (fK xs n):=by rw [hfin.out,<-hgood.out,hout.out];simp [dw]
    rw [<-e];exact ⟨_,_,rfl,hown1,kG⟩
  ·have hout:=aD (show aZ xs (M-k) at_=[] by rw [show M-k=0 by omega];rfl)
   go_wp2_with fail;refine (nW _ _ _ _).mono ?_;rintro e w1 ⟨rfl,hbx⟩;rw [HM.out];have hown1:=aB.below hown hbx (aG _);have kG:=au hbel hbx;go_wp2_with fail;go_ret;have e:l=dw (fK xs n):=by rw [hfin.out,<-hgood.out,hout.out];simp [dw]
   rw [<-e];exact ⟨_,_,rfl,hown1,kG⟩
theorem su (A:Option Addr) (c:Nat) (xs:List Nd) (i:Int) (w:World) (ha:bO w w.heap.size A xs) (hl:xs.length<=1000000) (hok:bI xs):
  Calls Tryz.prog 55 #[.slice A xs.length c,.int .i64 i] w fun e w'=>
   ∃A' cap',e= .returned (.slice A' (dw (fK xs i)).length cap')/\eU w' w.heap.size A' cap' (dw (fK xs i))/\Below w.heap.size w w':=
 Ni A c xs i w ha (by omega) hok
end Go.Proofs.YtmjdhfbnmmdjiaaGreat
