/- Laid together by a tool from the texts of this seat: KidsR. Conditions: each theorem's own. -/
import Derived.Test.YtmjdhfbnmmdjiaaGreatH01
import Derived.Maps.AppendAt
import Derived.Deep.AppendLies
set_option maxHeartbeats 8000000
set_option maxRecDepth 100000
namespace Go.Proofs.YtmjdhfbnmmdjiaaGreat
open Go.Value renaming slice->gq,ownBlock->gQ,oneCell'->iE
open Go.Lib renaming hid->aB
open _root_.Nat renaming le_refl->aK,succ_mul->gV,add_zero->h_
open Go.RowKit.Below renaming refl->aI
open _root_.Int renaming eq_ofNat_of_zero_le->iJ
open Go.RowKit
section
variable {α:Type} {enc:α->List Value} {size e base:Nat} {w w':World} {A:Option Addr} {cap B:Nat} {l:List α}
def ay (e size:Nat) (enc:α->List Value) (w:World) (base:Nat) (A:Option Addr) (cap:Nat) (l:List α):Prop:=
 w.ownsRow base e size (.slice A l.length cap) l.length (l.flatMap enc)
def aS (size:Nat) (enc:α->List Value) (w:World) (B:Nat) (A:Option Addr) (l:List α):Prop:=
 l≠[]->∃b o,A=some ⟨b,o,none⟩/\b<B/\∀(i:Nat) (x:α),l[i]?=some x->∀(j:Nat) (u:Value),(enc x)[j]?=some u->w.cell? ⟨b,o+i*size+j,none⟩=some u
theorem yG {size:Nat} {enc:α->List Value} (hk:∀x,(enc x).length=size):∀{l:List α} {i:Nat} {x:α} {j:Nat} {u:Value},l[i]?=some x->(enc x)[j]?=some u->(l.flatMap enc)[i*size+j]?=some u:=by
 intro l
 induction l with
 |nil=>intro i x j u h;simp at h
 |cons y l ih=>
  intro i x j u h hu;rw [List.flatMap_cons]
  cases i with
  |zero=>
   simp only [List.getElem?_cons_zero,Option.some.injEq] at h;subst h;rw [Nat.zero_mul,Nat.zero_add,List.getElem?_append_left (aP hu)]
   exact hu
  |succ i=>
   rw [List.getElem?_cons_succ] at h;rw [List.getElem?_append_right (by rw [hk];rw [gV];omega),hk,show (i+1)*size+j-size=i*size+j by rw [gV];omega];exact ih h hu
theorem jJ {size:Nat} {enc:α->List Value} (hk:∀x,(enc x).length=size):∀(l:List α),(l.flatMap enc).length=l.length*size:=by
 intro l
 induction l with
 |nil=>simp
 |cons y l ih=>rw [List.flatMap_cons,List.length_append,ih,hk,List.length_cons,gV];omega
theorem ay.nil:ay (α:=α) e size enc w base none 0 []:=World.ownsRow_nil _ _ _ _
theorem ay.read (hk:∀x,(enc x).length=size) (h:ay e size enc w base A cap l):aS size enc w w.heap.size A l:=by
 intro hne;rcases h.2 with ⟨hv,hn⟩|⟨g,cap',cur,hv,hbg,hg,hnc,hcm,hcs,htake⟩
 ·exact absurd (List.eq_nil_of_length_eq_zero hn) hne
 ·injection hv with hA _ _
  subst hA;refine ⟨g,0,rfl,lt_of_block hg,fun i x hx j u hu=>?_⟩;have h1:=yG hk hx hu;rw [<-htake] at h1;have h2:=aP h1;rw [List.length_take] at h2;rw [List.getElem?_take_of_lt (by omega)] at h1;simp only [World.cell?,hg,Nat.zero_add];simpa using h1
theorem ay.block (h:ay e size enc w base A cap l):∀k,(gq A l.length cap).ownBlock=some k->base<=k/\k<w.heap.size:=World.ownsRow.lt h
theorem ay.kept {row:Option Nat} (h:ay e size enc w base A cap l) (hg:w.grownBy w' row) (hne:∀k,row=some k->∀a,A=some a->a.block≠k):ay e size enc w' base A cap l:=
 World.ownsRow.kept h hg (by
  cases A with
  |none=>exact .inl rfl
  |some a=>
   refine .inr ?_;intro heq
   cases row with
   |none=>simp [gQ] at heq
   |some k=>simp only [gQ,Option.some.injEq] at heq;exact hne k rfl a rfl heq)
theorem ay.below {B:Nat} (h:ay e size enc w base A cap l) (hb:Below B w w') (hB:w.heap.size<=B):ay e size enc w' base A cap l:=
 ay.kept (row:=none) h ⟨hb.os,hb.tape,hb.output,hb.size,fun k hk _=>hb.block k (by omega)⟩ (by simp)
theorem ay.alloc (h:ay e size enc w base A cap l) (o:Obj):ay e size enc (w.alloc o) base A cap l:=
 h.below (au (aI _ _) o) (aK _)
theorem ay.drewN (h:ay e size enc w base A cap l) (n:Nat):ay e size enc (w.drewN n) base A cap l:=
 h.below (dB (aI _ _) n) (aK _)
theorem aS.nil:aS (α:=α) size enc w B A []:=fun h=>absurd rfl h
theorem aS.keep (h:aS size enc w B A l) (hk:∀b off,b<B->w'.cell? ⟨b,off,none⟩=w.cell? ⟨b,off,none⟩):aS size enc w' B A l:=fun hne=>by
 obtain ⟨b,o,rfl,hb,hc⟩:=h hne;exact ⟨b,o,rfl,hb,fun i x hx j u hu=>(hk _ _ hb).trans (hc i x hx j u hu)⟩
theorem aS.below (h:aS size enc w B A l) (hb:Below B w w'):aS size enc w' B A l:=h.keep fun b off hlt=>hb.cell (p:=⟨b,off,none⟩) hlt
theorem aS.more {B':Nat} (h:aS size enc w B A l) (hB:B<=B'):aS size enc w B' A l:=fun hne=>by
 obtain ⟨b,o,rfl,hb,hc⟩:=h hne;exact ⟨b,o,rfl,by omega,hc⟩
end
theorem KN (b o j:Nat):(Addr.mk b o none).add j=⟨b,o+j,none⟩:=by
 unfold Addr.add;split
 ·next h=>subst h;rfl
 ·rfl
section
variable {α:Type} {P:Program} (w:World)
theorem YD {size:Nat} {enc:α->List Value} (hk:∀x,(enc x).length=size) (h1:∀x,∀u∈enc x,u.oneCell'=true)
  (base t ty e:Nat) (i:TypeInfo) (z:Value) (bytes:Nat) (ht:P.underlying t=some (.slice e)) (hi:P.info? e=some i) (hz:i.zero=some z)
  (hsize:i.size=size) (hby:i.bytes=bytes) (hzs:z.cells.size=size) (hsz:0<size)
  {A:Option Addr} {cap:Nat} {l:List α} (hown:ay e size enc w base A cap l) {B:Nat} {A2:Option Addr} {c:Nat} {l2:List α} (hr:aS size enc w B A2 l2)
  (h63:l.length+l2.length<=maxLen) (hbytes:(l.length+l2.length)*bytes<=140737488355328) (hbase:base<=w.heap.size):
  ∃A' cap' w',(Builtin.append_ #[t,t] ty #[.slice A l.length cap,.slice A2 l2.length c]).run P w= .ok (.slice A' (l.length+l2.length) cap') w'/\ay e size enc w' base A' cap' (l++l2)/\
   w.grownBy w' ((gq A l.length cap).ownBlock)/\((gq A' (l.length+l2.length) cap').ownBlock=(gq A l.length cap).ownBlock\/(gq A' (l.length+l2.length) cap').ownBlock=some w.heap.size):=by
 have hfl:(l++l2).flatMap enc=l.flatMap enc++l2.flatMap enc:=by simp [List.flatMap_append]
 by_cases hne:l2=[]
 ·subst hne
  refine ⟨A,cap,w,?_,by unfold ay at hown ⊢;simpa using hown,World.grownBy.refl w _,.inl (by simp)⟩;have hl0:(([]:List α).length)=0:=rfl;simp only [List.length_nil,h_];rcases hown.2 with ⟨hv,hn⟩|⟨g,cap',cur,hv,hbg,hg,hnc,hcm,hcs,htake⟩
  ·injection hv with hA hl hc
   subst hA hc;rw [hn]
   cases A2<;>simp [Builtin.append_,run_underlying ht,sizeOf,typeInfo,hi,Builtin.lenOf,Builtin.firstCells,loadCells,loadCellsFrom]
  ·injection hv with hA hl hc
   subst hA hc
   cases A2<;>simp [Builtin.append_,run_underlying ht,sizeOf,typeInfo,hi,Builtin.lenOf,Builtin.firstCells,hnc,storeCells,loadCells,loadCellsFrom]
 ·obtain ⟨b,o,rfl,hb,hc⟩:=hr hne
  have hnews:∀(j:Nat) (u:Value),(l2.flatMap enc)[j]?=some u->w.cell? ((Addr.mk b o none).add j)=some u:=by
   intro j u hu;have hj:=aP hu;rw [jJ hk] at hj;have hq:j / size<l2.length:=Nat.div_lt_of_lt_mul (by rw [Nat.mul_comm];exact hj);obtain ⟨x,hx⟩:=aJ hq;have hm:j % size<(enc x).length:=by rw [hk];exact Nat.mod_lt _ hsz
   obtain ⟨u',hu'⟩:=aJ hm;have e1:=yG hk hx hu';have e2:j / size*size+j % size=j:=by rw [Nat.mul_comm];exact Nat.div_add_mod j size
   rw [e2,hu] at e1;injection e1 with e1
   subst e1;have:=hc _ _ hx _ _ hu';rw [KN]
   rwa [show o+j / size*size+j % size=o+j by omega] at this
  have hall:∀u∈l2.flatMap enc,u.oneCell'=true:=by
   intro u hu;rw [List.mem_flatMap] at hu;obtain ⟨x,_,hx⟩:=hu;exact h1 x u hx
  obtain ⟨v',w',hrun,h2,h3,_,h5⟩:=run_append_own_at (P:=P) w base t ty e i z size bytes ht hi hz hsize hby hzs hsz _ _ _ hown ⟨b,o,none⟩ l2.length c (l2.flatMap enc) (jJ hk _) hnews hall h63 hbytes hbase
  have hform:∃A' cap',v'= .slice A' (l.length+l2.length) cap':=by
   rcases h2.2 with ⟨hv,hn⟩|⟨g,cap',cur,hv,_⟩
   ·exact ⟨none,0,by rw [hv,hn]⟩
   ·exact ⟨_,_,hv⟩
  obtain ⟨A',cap',rfl⟩:=hform;refine ⟨A',cap',w',hrun,?_,h3,h5⟩;unfold ay;rw [hfl,List.length_append];exact h2
theorem uV {size:Nat} {enc:α->List Value} (hk:∀x,(enc x).length=size) (h1:∀x,∀u∈enc x,u.oneCell'=true)
  {o:Oper} {a:Act} {K:Act->World->Prop} {Q:Exit->Act->World->Prop} (s x:Operand) (t:TypeId)
  (ho:o.op= .call {callee:=.builtin .append,args:=#[s,x],argTypes:=#[t,t]})
  (base e:Nat) (i:TypeInfo) (z:Value) (bytes:Nat) (ht:P.underlying t=some (.slice e)) (hi:P.info? e=some i) (hz:i.zero=some z)
  (hsize:i.size=size) (hby:i.bytes=bytes) (hzs:z.cells.size=size) (hsz:0<size)
  {A:Option Addr} {cap:Nat} {l:List α} (hs:a.eval s= .slice A l.length cap) (hown:ay e size enc w base A cap l) {B:Nat} {A2:Option Addr} {c:Nat} {l2:List α} (hx:a.eval x= .slice A2 l2.length c) (hr:aS size enc w B A2 l2)
  (h63:l.length+l2.length<=maxLen) (hbytes:(l.length+l2.length)*bytes<=140737488355328) (hbase:base<=w.heap.size)
  (h:∀A' cap' w',ay e size enc w' base A' cap' (l++l2)->w.grownBy w' ((gq A l.length cap).ownBlock)->
   ((gq A' (l.length+l2.length) cap').ownBlock=(gq A l.length cap).ownBlock\/(gq A' (l.length+l2.length) cap').ownBlock=some w.heap.size)->K (a.put o.dst (.slice A' (l.length+l2.length) cap')) w'):o.wp P a w K Q:=by
 obtain ⟨A',cap',w',hrun,h2,h3,h4⟩:=YD (P:=P) w hk h1 base t o.type e i z bytes ht hi hz hsize hby hzs hsz hown (c:=c) hr h63 hbytes hbase;unfold Oper.wp execOp;simp only [ho,resolve,invoke,builtin,Sem.run_bind,Sem.run_pure,Result.andThen_ok,List.map_toArray,List.map_cons,List.map_nil,hs,hx,hrun];exact h A' cap' w' h2 h3 h4
theorem mV {size:Nat} {enc:α->List Value} (hk:∀x,(enc x).length=size) (h1:∀x,∀u∈enc x,u.oneCell'=true)
  {ops:Array Oper} {rest:List Oper} {o:Oper} {a:Act} {Q:Exit->Act->World->Prop} (hgd:o.guard=none) (s x:Operand) (t:TypeId)
  (ho:o.op= .call {callee:=.builtin .append,args:=#[s,x],argTypes:=#[t,t]})
  (base e:Nat) (i:TypeInfo) (z:Value) (bytes:Nat) (ht:P.underlying t=some (.slice e)) (hi:P.info? e=some i) (hz:i.zero=some z)
  (hsize:i.size=size) (hby:i.bytes=bytes) (hzs:z.cells.size=size) (hsz:0<size)
  {A:Option Addr} {cap:Nat} {l:List α} (hs:a.eval s= .slice A l.length cap) (hown:ay e size enc w base A cap l) {B:Nat} {A2:Option Addr} {c:Nat} {l2:List α} (hx:a.eval x= .slice A2 l2.length c) (hr:aS size enc w B A2 l2)
  (h63:l.length+l2.length<=maxLen) (hbytes:(l.length+l2.length)*bytes<=140737488355328) (hbase:base<=w.heap.size)
  (h:∀A' cap' w',ay e size enc w' base A' cap' (l++l2)->w.grownBy w' ((gq A l.length cap).ownBlock)->
   ((gq A' (l.length+l2.length) cap').ownBlock=(gq A l.length cap).ownBlock\/(gq A' (l.length+l2.length) cap').ownBlock=some w.heap.size)->wpList P ops Q rest (a.put o.dst (.slice A' (l.length+l2.length) cap')) w'):wpList P ops Q (o::rest) a w:=
 wpList_plain hgd fun _ hK=>uV w hk h1 s x t ho base e i z bytes ht hi hz hsize hby hzs hsz hs hown hx hr h63 hbytes hbase fun A' cap' w' h2 h3 h4=>hK _ _ (h A' cap' w' h2 h3 h4)
end
def encI (n:Int):List Value:=[.int .i64 n]
def iy (x:Nd):List Value:=[.int .i64 x.k,.string x.s,.int .i64 x.n]
def encS (v:Option Addr×Nat×Nat):List Value:=[.slice v.1 v.2.1 v.2.2]
theorem dK (n:Int):(encI n).length=1:=rfl
theorem ku (x:Nd):(iy x).length=3:=rfl
theorem jv (v:Option Addr×Nat×Nat):(encS v).length=1:=rfl
theorem V5 (n:Int):∀u∈encI n,u.oneCell'=true:=by simp [encI,iE]
theorem DL (x:Nd):∀u∈iy x,u.oneCell'=true:=by simp [iy,iE]
theorem KO (v:Option Addr×Nat×Nat):∀u∈encS v,u.oneCell'=true:=by simp [encS,iE]
theorem YE:(Tryz.prog.info? 3).map (fun i=>(i.zero,i.size,i.bytes))=some (some (.int .i64 0),1,8):=by kernel_rfl
theorem MC:(Tryz.prog.info? 49).map (fun i=>(i.zero,i.size,i.bytes))=some (some (.agg #[.int .i64 0,.string ByteArray.empty,.int .i64 0]),3,32):=by kernel_rfl
theorem YF:(Tryz.prog.info? 28).map (fun i=>(i.zero,i.size,i.bytes))=some (some (.slice none 0 0),1,24):=by kernel_rfl
abbrev eX (w:World) (base:Nat) (A:Option Addr) (cap:Nat) (l:List Int):Prop:=ay 3 1 encI w base A cap l
abbrev mW (w:World) (B:Nat) (A:Option Addr) (l:List Int):Prop:=aS 1 encI w B A l
abbrev dF (w:World) (base:Nat) (A:Option Addr) (cap:Nat) (l:List Nd):Prop:=ay 49 3 iy w base A cap l
abbrev iA (w:World) (base:Nat) (A:Option Addr) (cap:Nat) (l:List (Option Addr×Nat×Nat)):Prop:=ay 28 1 encS w base A cap l
abbrev jV (w:World) (B:Nat) (A:Option Addr) (l:List (Option Addr×Nat×Nat)):Prop:=aS 1 encS w B A l
theorem bJ.ME {w:World} {B:Nat} {A:Option Addr} {xs:List Nd} (h:bJ w B A xs):aS 3 iy w B A xs:=fun hne=>by
 obtain ⟨b,o,rfl,hb,hr⟩:=h hne;refine ⟨b,o,rfl,hb,fun i x hx j u hu=>?_⟩
 match j,hu with
 |0,hu=>simp [iy] at hu;subst hu;exact hr.c0 i x hx
 |1,hu=>simp [iy] at hu;subst hu;exact hr.c1 i x hx
 |2,hu=>simp [iy] at hu;subst hu;exact hr.c2 i x hx
 |j+3,hu=>simp [iy] at hu
theorem aS.eY {w:World} {B:Nat} {A:Option Addr} {xs:List Nd} (h:aS 3 iy w B A xs):bJ w B A xs:=fun hne=>by
 obtain ⟨b,o,rfl,hb,hc⟩:=h hne;exact ⟨b,o,rfl,hb,⟨fun i x hx=>hc i x hx 0 _ rfl,fun i x hx=>hc i x hx 1 _ rfl,fun i x hx=>hc i x hx 2 _ rfl⟩⟩
theorem ay.eY {w:World} {base:Nat} {A:Option Addr} {cap:Nat} {xs:List Nd} (h:dF w base A cap xs):bJ w w.heap.size A xs:=aS.eY (ay.read ku h)
theorem aS.int {w:World} {B:Nat} {A:Option Addr} {l:List Int} (h:mW w B A l) {i:Nat} {n:Int} (hn:l[i]?=some n):
  ∃b o,A=some ⟨b,o,none⟩/\b<B/\w.cell? ⟨b,o+i,none⟩=some (.int .i64 n):=by
 obtain ⟨b,o,rfl,hb,hc⟩:=h (by rintro rfl;simp at hn);have:=hc i n hn 0 _ rfl;rw [Nat.mul_one,h_] at this;exact ⟨b,o,rfl,hb,this⟩
theorem aS.slice {w:World} {B:Nat} {A:Option Addr} {l:List (Option Addr×Nat×Nat)} (h:jV w B A l) {i:Nat} {v:Option Addr×Nat×Nat} (hn:l[i]?=some v):
  ∃b o,A=some ⟨b,o,none⟩/\b<B/\w.cell? ⟨b,o+i,none⟩=some (.slice v.1 v.2.1 v.2.2):=by
 obtain ⟨b,o,rfl,hb,hc⟩:=h (by rintro rfl;simp at hn);have:=hc i v hn 0 _ rfl;rw [Nat.mul_one,h_] at this;exact ⟨b,o,rfl,hb,this⟩
theorem wW (w:World) (n:Int):mW (w.alloc (.cells #[.int .i64 n] 3)) (w.heap.size+1) (some ⟨w.heap.size,0,none⟩) [n]:=fun _=>by
 refine ⟨w.heap.size,0,rfl,by omega,fun i x hx j u hu=>?_⟩
 match i,hx with
 |0,hx=>
  simp at hx;subst hx
  match j,hu with
  |0,hu=>simp [encI] at hu;subst hu;simp
  |j+1,hu=>simp [encI] at hu
 |i+1,hx=>simp at hx
theorem oK (w:World) (v:Option Addr×Nat×Nat):jV (w.alloc (.cells #[.slice v.1 v.2.1 v.2.2] 28)) (w.heap.size+1) (some ⟨w.heap.size,0,none⟩) [v]:=fun _=>by
 refine ⟨w.heap.size,0,rfl,by omega,fun i x hx j u hu=>?_⟩
 match i,hx with
 |0,hx=>
  simp at hx;subst hx
  match j,hu with
  |0,hu=>simp [encS] at hu;subst hu;simp
  |j+1,hu=>simp [encS] at hu
 |i+1,hx=>simp at hx
theorem gL {α:Type} (e size:Nat) (enc:α->List Value) (w:World):ay e size enc (w.alloc (.cells #[] e)) w.heap.size (some ⟨w.heap.size,0,none⟩) 0 ([]:List α):=
 World.ownsRow_made w #[] 0 (aK _) (by simp [maxLen]) (by simp)
theorem bL {A:Option Addr} {n c:Nat} {k:Nat} (h:(gq A n c).ownBlock=some k):∃a,A=some a/\a.block=k:=by
 cases A with
 |none=>simp [gQ] at h
 |some a=>exact ⟨a,rfl,by simpa [gQ] using h⟩
theorem iB {w W w1:World} {A:Option Addr} {n c:Nat} (h:Below w.heap.size w W) (hg:W.grownBy w1 ((gq A n c).ownBlock)) (hA:∀k,(gq A n c).ownBlock=some k->w.heap.size<=k):Below w.heap.size w w1:=
 h.grown hg h.size fun k hk=>hA k hk
section
variable {w:World} {ops:Array Oper} {rest:List Oper} {o:Oper} {a:Act} {Q:Exit->Act->World->Prop}
theorem sK (hgd:o.guard=none) (s x:Operand)
  (ho:o.op= .call {callee:=.builtin .append,args:=#[s,x],argTypes:=#[50,50]})
  (base:Nat) {A:Option Addr} {cap:Nat} {l:List Int} (hs:a.eval s= .slice A l.length cap) (hown:eX w base A cap l) {B:Nat} {A2:Option Addr} {c:Nat} {l2:List Int} (hx:a.eval x= .slice A2 l2.length c) (hr:mW w B A2 l2)
  (hlen:l.length+l2.length<=10000000) (hbase:base<=w.heap.size)
  (h:∀A' cap' w',eX w' base A' cap' (l++l2)->w.grownBy w' ((gq A l.length cap).ownBlock)->
   ((gq A' (l.length+l2.length) cap').ownBlock=(gq A l.length cap).ownBlock\/(gq A' (l.length+l2.length) cap').ownBlock=some w.heap.size)->wpList Tryz.prog ops Q rest (a.put o.dst (.slice A' (l.length+l2.length) cap')) w'):wpList Tryz.prog ops Q (o::rest) a w:=by
 obtain ⟨i0,hi,hz0,hz1,hz2⟩:=info_parts YE;exact mV w dK V5 hgd s x 50 ho base 3 i0 _ 8 Tryz.underlying50 hi hz0 hz1 hz2 rfl (by decide) hs hown hx hr (by unfold maxLen;omega) (by omega) hbase h
theorem pY (hgd:o.guard=none) (s x:Operand)
  (ho:o.op= .call {callee:=.builtin .append,args:=#[s,x],argTypes:=#[28,28]})
  (base:Nat) {A:Option Addr} {cap:Nat} {l:List Nd} (hs:a.eval s= .slice A l.length cap) (hown:dF w base A cap l) {B:Nat} {A2:Option Addr} {c:Nat} {l2:List Nd} (hx:a.eval x= .slice A2 l2.length c) (hr:bJ w B A2 l2)
  (hlen:l.length+l2.length<=1000000000000) (hbase:base<=w.heap.size)
  (h:∀A' cap' w',dF w' base A' cap' (l++l2)->w.grownBy w' ((gq A l.length cap).ownBlock)->
   ((gq A' (l.length+l2.length) cap').ownBlock=(gq A l.length cap).ownBlock\/(gq A' (l.length+l2.length) cap').ownBlock=some w.heap.size)->wpList Tryz.prog ops Q rest (a.put o.dst (.slice A' (l.length+l2.length) cap')) w'):wpList Tryz.prog ops Q (o::rest) a w:=by
 obtain ⟨i0,hi,hz0,hz1,hz2⟩:=info_parts MC;exact mV w ku DL hgd s x 28 ho base 49 i0 _ 32 Tryz.underlying28 hi hz0 hz1 hz2 rfl (by decide) hs hown hx hr.ME (by unfold maxLen;omega) (by omega) hbase h
theorem Co (hgd:o.guard=none) (s x:Operand)
  (ho:o.op= .call {callee:=.builtin .append,args:=#[s,x],argTypes:=#[71,71]})
  (base:Nat) {A:Option Addr} {cap:Nat} {l:List (Option Addr×Nat×Nat)} (hs:a.eval s= .slice A l.length cap) (hown:iA w base A cap l) {B:Nat} {A2:Option Addr} {c:Nat} {l2:List (Option Addr×Nat×Nat)} (hx:a.eval x= .slice A2 l2.length c) (hr:jV w B A2 l2)
  (hlen:l.length+l2.length<=10000000) (hbase:base<=w.heap.size)
  (h:∀A' cap' w',iA w' base A' cap' (l++l2)->w.grownBy w' ((gq A l.length cap).ownBlock)->
   ((gq A' (l.length+l2.length) cap').ownBlock=(gq A l.length cap).ownBlock\/(gq A' (l.length+l2.length) cap').ownBlock=some w.heap.size)->wpList Tryz.prog ops Q rest (a.put o.dst (.slice A' (l.length+l2.length) cap')) w'):wpList Tryz.prog ops Q (o::rest) a w:=by
 obtain ⟨i0,hi,hz0,hz1,hz2⟩:=info_parts YF;exact mV w jv KO hgd s x 71 ho base 28 i0 _ 24 Tryz.underlying71 hi hz0 hz1 hz2 rfl (by decide) hs hown hx hr (by unfold maxLen;omega) (by omega) hbase h
end
def endGo:List Nd->Int->Nat->Nat
 |[],_,p=>p
 |x::xs,op,p=>if op-1+many x.k x.n=0 then p+1 else endGo xs (op-1+many x.k x.n) (p+1)
def sF (xs:List Nd) (i:Int):Int:=if i<0\/(xs.length:Int)<=i then-1 else (endGo (xs.drop i.toNat) 1 i.toNat:Nat)
def bC (xs:List Nd):Prop:=∀x∈xs,dP x.k x.n=true
theorem gH {α:Type} {l:List α} {i:Nat} {x:α} (h:l[i]?=some x):x∈l:=List.mem_of_getElem? h
theorem rG {k n:Int} (h:dP k n=true):0<=many k n/\many k n<=50:=by
 unfold many;split
 ·omega
 ·split
  ·rename_i h6
   rw [yC h6] at h;obtain ⟨h1,h2⟩:=of_decide_eq_true h;split at h1<;>omega
  ·omega
theorem OZ {xs:List Nd} {k:Nat} {x:Nd} (hx:xs[k]?=some x) (op:Int) (p:Nat):
  endGo (xs.drop k) op p=if op-1+many x.k x.n=0 then p+1 else endGo (xs.drop (k+1)) (op-1+many x.k x.n) (p+1):=by
 rw [drop_cons hx];rfl
theorem V6:∀(xs:List Nd) (op:Int) (p:Nat),endGo xs op p<=p+xs.length:=by
 intro xs
 induction xs with
 |nil=>intro op p;simp [endGo]
 |cons x xs ih=>
  intro op p;simp only [endGo,List.length_cons];split
  ·omega
  ·have:=ih (op-1+many x.k x.n) (p+1)
   omega
theorem Bl (A:Option Addr) (c:Nat) (xs:List Nd) (i:Int) (w:World) (ha:bJ w w.heap.size A xs) (hl:xs.length<=100000000000) (hok:bC xs):
  Calls Tryz.prog 48 #[.slice A xs.length c,.int .i64 i] w fun e w'=>e= .returned (.int .i64 (sF xs i))/\Below w.heap.size w w':=by
 have n_:=aB hok;clear hok;by_cases h0:i<0
 ·have hfin:=aB (show sF xs i= -1 by unfold sF;rw [if_pos (.inl h0)])
  go_enter Tryz.func48,Tryz.ntmps48;go_wp2_with fail;go_ret;exact ⟨kZ (by rw [hfin.out]),aI _ _⟩
 by_cases h1:(xs.length:Int)<=i
 ·have hfin:=aB (show sF xs i= -1 by unfold sF;rw [if_pos (.inr h1)])
  go_enter Tryz.func48,Tryz.ntmps48;go_wp2_with fail;go_ret;exact ⟨kZ (by rw [hfin.out]),aI _ _⟩
 obtain ⟨n,rfl⟩:=iJ (Int.not_lt.1 h0);have hn:n<xs.length:=by omega
 have hfin:=aB (show sF xs (n:Int)=((endGo (xs.drop n) 1 n:Nat):Int) by unfold sF;rw [if_neg (by omega)];simp);have h0':(0:Int)<=(n:Int):=by omega
 have h1':(n:Int)<(xs.length:Int):=by omega
 have hd0:decide ((n:Int)<0)=false:=by simp
 have hd1:decide (xs.length<=n)=false:=by simp;omega
 clear h0 h1;go_enter Tryz.func48,Tryz.ntmps48;go_wp2_with fail
 go_loopw [5,6] (fun o5 i6 w'=>∃(k:Nat) (op:Int),o5= .int .i64 op/\i6= .int .i64 k/\n<=k/\k<=xs.length/\1<=op/\op<=1+50*((k:Int)-n)/\Below w.heap.size w w'/\Hid (endGo (xs.drop k) op k=endGo (xs.drop n) 1 n))
  (fun _ i6 _=>xs.length-(intOf i6).toNat)
 case atStart=>exact ⟨n,1,rfl,rfl,aK _,by omega,by omega,by omega,aI _ _,aB rfl⟩
 case round=>
  obtain ⟨k,op,rfl,rfl,hnk,hk,aqd,hop1,hbel,hgood⟩:=hrel;by_cases hp:k<xs.length
  ·obtain ⟨x,hx⟩:=aJ hp
   have hstep:=aB (OZ hx op k);have hmb:=rG (n_.out x (gH hx));obtain ⟨m0,m1⟩:=hmb;obtain ⟨b1,o1,rfl,hb1,c10,c11,c12⟩:=((ha.below hbel).more hbel.size).at_ hx;clear hx;by_cases hz:op-1+many x.k x.n=0
   ·have hzb:(op-1+many x.k x.n==0)=true:=by simpa using hz
    have Hz:=aB hz;clear hz;go_wp2_with (go_at_call 78;refine (oI _ _ _ _).mono ?_;rintro e w1 ⟨rfl,hbx⟩);go_ret;exact ⟨kZ (by rw [hfin.out,<-hgood.out,hstep.out,if_pos Hz.out];omega),ah hbel hbx⟩
   ·have hzb:(op-1+many x.k x.n==0)=false:=by simpa using hz
    have Hz:=aB hz;have hz2:1<=op-1+many x.k x.n:=by omega
    clear hz;go_wp2_with (go_at_call 78;refine (oI _ _ _ _).mono ?_;rintro e w1 ⟨rfl,hbx⟩);go_roundw
    case rel=>exact ⟨k+1,op-1+many x.k x.n,rfl,by go_num,by omega,hp,hz2,by omega,ah hbel hbx,aB (by rw [<-hgood.out,hstep.out,if_neg Hz.out])⟩
    case measure=>simp [intOf];omega
  ·have hend:=aB (show endGo (xs.drop k) op k=xs.length by rw [List.drop_of_length_le (by omega)];simp [endGo];omega)
   go_wp2_with fail;go_ret;exact ⟨kZ (by rw [hfin.out,<-hgood.out,hend.out]),hbel⟩
theorem DN (A:Option Addr) (c:Nat) (xs:List Nd) (i:Int) (w:World) (ha:bJ w w.heap.size A xs) (hl:xs.length<=1000000) (hok:bC xs):
  Calls Tryz.prog 48 #[.slice A xs.length c,.int .i64 i] w fun e w'=>e= .returned (.int .i64 (sF xs i))/\Below w.heap.size w w':=
 Bl A c xs i w ha (by omega) hok
def aV (xs:List Nd):Nat->Nat->List Nat
 |0,_=>[]
 |todo+1,at_=>if at_<xs.length then at_::aV xs todo (endGo (xs.drop at_) 1 at_) else []
def cB (l:List Nat):List Int:=l.map fun (n:Nat)=>(n:Int)
theorem O1 (a b:List Nat):cB (a++b)=cB a++cB b:=List.map_append
def eu (xs:List Nd) (i:Int):List Nat:=
 if i<0 then [] else match xs[i.toNat]? with
  |none=>[]
  |some x=>aV xs (many x.k x.n).toNat (i.toNat+1)
theorem zW {xs:List Nd} {n:Nat} (h:n<xs.length):sF xs (n:Int)=((endGo (xs.drop n) 1 n:Nat):Int):=by
 unfold sF;rw [if_neg (by omega)];simp
theorem eH {xs:List Nd} {d at_:Nat} (h:at_<xs.length):aV xs (d+1) at_=at_::aV xs d (endGo (xs.drop at_) 1 at_):=by
 simp only [aV,if_pos h]
theorem ES {xs:List Nd} {d at_:Nat} (h:¬at_<xs.length):aV xs d at_=[]:=by
 cases d with
 |zero=>rfl
 |succ d=>simp only [aV,if_neg h]
theorem ET (A:Option Addr) (c:Nat) (xs:List Nd) (i:Int) (w:World) (ha:bJ w w.heap.size A xs) (hl:xs.length<=100000000000) (hok:bC xs):
  Calls Tryz.prog 55 #[.slice A xs.length c,.int .i64 i] w fun e w'=>
   ∃A' cap',e= .returned (.slice A' (cB (eu xs i)).length cap')/\eX w' w.heap.size A' cap' (cB (eu xs i))/\Below w.heap.size w w':=by
 have n_:=aB hok;clear hok;have hown0:=gL 3 1 encI w;have hb0:=au (aI w.heap.size w) (.cells #[] 3);by_cases h0:i<0
 ·have hfin:=aB (show eu xs i=[] by unfold eu;rw [if_pos h0])
  go_enter Tryz.func55,Tryz.ntmps55;go_wp2_with fail;go_ret;exact ⟨_,_,by rw [hfin.out];rfl,by rw [hfin.out];exact hown0,hb0⟩
 by_cases h1:(xs.length:Int)<=i
 ·have hfin:=aB (show eu xs i=[] by unfold eu;rw [if_neg h0,List.getElem?_eq_none (by omega)])
  go_enter Tryz.func55,Tryz.ntmps55;go_wp2_with fail;go_ret;exact ⟨_,_,by rw [hfin.out];rfl,by rw [hfin.out];exact hown0,hb0⟩
 obtain ⟨n,rfl⟩:=iJ (Int.not_lt.1 h0);have hn:n<xs.length:=by omega
 obtain ⟨x,hx⟩:=aJ hn;obtain ⟨M,hM,YG,_⟩:=DK (n_.out x (gH hx));have hfin:=aB (show eu xs (n:Int)=aV xs M (n+1) by unfold eu;rw [if_neg (by omega)];simp [hx,hM]);have h0':(0:Int)<=(n:Int):=by omega
 have h1':(n:Int)<(xs.length:Int):=by omega
 have hd0:decide ((n:Int)<0)=false:=by simp
 have hd1:decide (xs.length<=n)=false:=by simp;omega
 have HM:=aB hM;have Hx:=aB hx;clear h0 h1 hM hx;go_enter Tryz.func55,Tryz.ntmps55;go_wp2_with fail
 go_loopw [5,6,7] (fun o5 i6 k7 wr=>∃(k at_:Nat) (A':Option Addr) (cap':Nat) (l:List Int),o5= .slice A' l.length cap'/\i6= .int .i64 at_/\k7= .int .i64 k/\k<=M/\at_<=xs.length/\l.length<=k/\
   eX wr w.heap.size A' cap' l/\Below w.heap.size w wr/\Hid (l++cB (aV xs (M-k) at_)=cB (aV xs M (n+1))))
  (fun _ _ k7 _=>M-(intOf k7).toNat)
 case atStart=>exact ⟨0,n+1,_,_,[],rfl,rfl,rfl,Nat.zero_le _,hn,aK _,hown0,hb0,aB rfl⟩
 case round=>
  obtain ⟨k,at_,A',cap',l,rfl,rfl,rfl,hkM,adL,hlk,hown,hbel,hgood⟩:=hrel;obtain ⟨b1,o1,rfl,hb1,c10,c11,c12⟩:=((ha.below hbel).more hbel.size).at_ Hx.out;by_cases hlt:k<M
  ·by_cases hp:at_<xs.length
   ·obtain ⟨d,hd'⟩:∃d,M-k=d+1:=⟨M-k-1,by omega⟩
    have dX:Hid ((l++[(at_:Int)])++cB (aV xs d (endGo (xs.drop at_) 1 at_))=cB (aV xs M (n+1))):=aB (by
     rw [<-hgood.out,hd',eH hp];simp [cB])
    have Hd':=aB hd';have hle:=V6 (xs.drop at_) 1 at_;rw [List.length_drop] at hle;have hend:=aB (zW hp);clear hd' hgood;go_wp2_with fail;refine (oI _ _ _ _).mono ?_;rintro e w1 ⟨rfl,hbx⟩;rw [HM.out];have hown1:=ay.below hown hbx (aK _);have jD:=ah hbel hbx;have z1:=jD.size;go_wp2_with (at_builtin;refine sK rfl (.tmp 35) (.tmp 37) rfl w.heap.size (l:=l) rfl (ay.alloc hown1 _) (l2:=[(at_:Int)]) rfl (wW _ _) (by simp;omega) (by simp;omega) ?_;intro A2 cap2 w3 hown3 hg3 _);have dH:=iB (au jD _) hg3 (fun k hk=>(ay.block hown1 k hk).1);refine (Bl _ c xs at_ _ ((ha.below dH).more dH.size) hl n_.out).mono ?_;rintro e w4 ⟨rfl,hb4⟩;rw [hend.out];have yH:=ay.below hown3 hb4 (aK _);go_wp2_with fail;go_roundw
    case rel=>exact ⟨k+1,_,_,_,l++[(at_:Int)],by simp,rfl,by go_num,by omega,by omega,by simp;omega,yH,ah dH hb4,aB (by rw [<-dX.out,show M-(k+1)=d by have:=Hd'.out;omega])⟩
    case measure=>simp [intOf];omega
   ·have hout:=aB (ES (d:=M-k) hp)
    go_wp2_with fail;refine (oI _ _ _ _).mono ?_;rintro e w1 ⟨rfl,hbx⟩;rw [HM.out];have hown1:=ay.below hown hbx (aK _);have jD:=ah hbel hbx;go_wp2_with fail;go_ret;have e:l=cB (eu xs n):=by rw [hfin.out,<-hgood.out,hout.out];simp [cB]
    rw [<-e];exact ⟨_,_,rfl,hown1,jD⟩
  ·have hout:=aB (show aV xs (M-k) at_=[] by rw [show M-k=0 by omega];rfl)
   go_wp2_with fail;refine (oI _ _ _ _).mono ?_;rintro e w1 ⟨rfl,hbx⟩;rw [HM.out];have hown1:=ay.below hown hbx (aK _);have jD:=ah hbel hbx;go_wp2_with fail;go_ret;have e:l=cB (eu xs n):=by rw [hfin.out,<-hgood.out,hout.out];simp [cB]
   rw [<-e];exact ⟨_,_,rfl,hown1,jD⟩
theorem tN (A:Option Addr) (c:Nat) (xs:List Nd) (i:Int) (w:World) (ha:bJ w w.heap.size A xs) (hl:xs.length<=1000000) (hok:bC xs):
  Calls Tryz.prog 55 #[.slice A xs.length c,.int .i64 i] w fun e w'=>
   ∃A' cap',e= .returned (.slice A' (cB (eu xs i)).length cap')/\eX w' w.heap.size A' cap' (cB (eu xs i))/\Below w.heap.size w w':=
 ET A c xs i w ha (by omega) hok
end Go.Proofs.YtmjdhfbnmmdjiaaGreat
