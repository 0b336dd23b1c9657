/- Laid together by a tool from the texts of this seat: CsA CsB CsC. Conditions: each theorem's own. -/
import Derived.Test.YtmjdhfbnmmdjiaaGreatJ18
import Derived.Test.YtmjdhfbnmmdjiaaGreatJ14
import Derived.Laws.CopyOwn
import Derived.Test.YtmjdhfbnmmdjiaaGreatJ13
set_option maxHeartbeats 8000000
set_option maxRecDepth 100000
namespace Go.Proofs.YtmjdhfbnmmdjiaaGreat
open Go.Lib renaming hid->aD
open Go.World renaming cell?->Ck,frozen?->EJ,ownsRow->aau,size_alloc->Er
open _root_.Nat renaming le_refl->aG,zero_le->bE,zero_add->iC,lt_of_lt_of_le->Yw
open Go.RowKit.Below renaming refl->aF
open _root_.ByteArray renaming empty->bZ
open _root_.And renaming intro->Cj
open _root_.List renaming length_append->jX,flatMap_cons->iJ,getElem?_append_right->jd,getElem?_append_left->aaf,take_add_one->KV,take_length->pq,length_take->iW,set_append_right->aay,drop_of_length_le->aX,append_nil->lI,take_of_length_le->iO,length_pos_iff->aaA
open Go.Value renaming slice->fq
open Go.RowKit
structure PV where
 k:Int
 lb:ByteArray
 nm:ByteArray
 bd:ByteArray
 mn:Int
 num:Int
 TA:Option Addr
 tn:Nat
 tc:Nat
 UA:Option Addr
 un:Nat
 uc:Nat
def mM (v:PV):List Value:=[.int .i64 v.k,.string v.lb,.string v.nm,.string v.bd,.int .i64 v.mn,.int .i64 v.num,.slice v.TA v.tn v.tc,.slice v.UA v.un v.uc]
theorem iT (v:PV):(mM v).length=8:=rfl
theorem CY (v:PV):∀u∈mM v,u.oneCell'=true:=by
 intro u hu;simp [mM] at hu;rcases hu with rfl|rfl|rfl|rfl|rfl|rfl|rfl|rfl<;>rfl
abbrev gV (w:World) (base:Nat) (A:Option Addr) (cap:Nat) (l:List PV):Prop:=aB 33 8 mM w base A cap l
abbrev wC (w:World) (B:Nat) (A:Option Addr) (l:List PV):Prop:=bf 8 mM w B A l
structure BD (w:World) (Y:Nat->Prop) (v:PV) (p:Pt):Prop where
 k:v.k=p.k
 lb:v.lb=p.lb
 nm:v.nm=p.nm
 bd:v.bd=p.bd
 mn:v.mn=p.mn
 num:v.num=p.num
 tn:v.tn=p.T.length
 un:v.un=p.U.length
 T:aA w Y v.TA v.tc p.T
 U:aA w Y v.UA v.uc p.U
def dO (w:World) (Y:Nat->Prop) (vs:List PV) (es:List Pt):Prop:=vs.length=es.length/\∀(i:Nat) (v:PV) (p:Pt),vs[i]?=some v->es[i]?=some p->BD w Y v p
section
variable {w w':World} {Y Y':Nat->Prop} {v:PV} {p:Pt} {vs vs2:List PV} {es es2:List Pt} {A:Option Addr}
theorem BD.fr (h:BD w Y v p) (hf:Fr Y w w') (hY:∀q,Y' q->Y q\/w.heap.size<=q):BD w' Y' v p:=
 ⟨h.k,h.lb,h.nm,h.bd,h.mn,h.num,h.tn,h.un,h.T.fr hf hY,h.U.fr hf hY⟩
theorem dO.fr (h:dO w Y vs es) (hf:Fr Y w w') (hY:∀q,Y' q->Y q\/w.heap.size<=q):dO w' Y' vs es:=⟨h.1,fun i v p hv hp=>(h.2 i v p hv hp).fr hf hY⟩
theorem dO.nil:dO w Y [] []:=⟨rfl,fun i v p hv=>by simp at hv⟩
theorem dO.cons (h:BD w Y v p) (k:dO w Y vs es):dO w Y (v::vs) (p::es):=⟨by simp [k.1],fun i u q hu hq=>by
 cases i with
 |zero=>
  simp at hu hq;subst hu hq
  exact h
 |succ i=>exact k.2 i u q (by simpa using hu) (by simpa using hq)⟩
theorem dO.app (h:dO w Y vs es) (k:dO w Y vs2 es2):dO w Y (vs++vs2) (es++es2):=⟨by simp [h.1,k.1],fun i u q hu hq=>by
 by_cases hi:i<vs.length
 ·rw [aaf hi] at hu
  rw [aaf (by rw [<-h.1];exact hi)] at hq;exact h.2 i u q hu hq
 ·rw [jd (by omega)] at hu
  rw [jd (by rw [<-h.1];omega),<-h.1] at hq;exact k.2 _ u q hu hq⟩
theorem dO.ex (h:dO w (fun _=>False) vs es) (hr:wC w w.heap.size A vs):jW w (fun _=>False) A es:=fun i p hp=>by
 obtain ⟨v,hv⟩:=aN (show i<vs.length by rw [h.1];exact aU hp);obtain ⟨b,o,hA,hb,hc⟩:=hr (by rintro rfl;simp at hv);have k:=h.2 i v p hv hp;refine ⟨b,o,hA,hb,fun h=>h,⟨v.TA,v.tc,v.UA,v.uc,k.T,k.U,?_,?_,?_,?_,?_,?_,?_,?_⟩,.inr fun q hq=>hq.elim⟩
 ·rw [<-k.k];exact hc i v hv 0 _ rfl
 ·rw [<-k.lb];exact hc i v hv 1 _ rfl
 ·rw [<-k.nm];exact hc i v hv 2 _ rfl
 ·rw [<-k.bd];exact hc i v hv 3 _ rfl
 ·rw [<-k.mn];exact hc i v hv 4 _ rfl
 ·rw [<-k.num];exact hc i v hv 5 _ rfl
 ·rw [<-k.tn];exact hc i v hv 6 _ rfl
 ·rw [<-k.un];exact hc i v hv 7 _ rfl
end
theorem QU (w:World) (v:PV):wC (w.alloc (.cells #[.int .i64 v.k,.string v.lb,.string v.nm,.string v.bd,.int .i64 v.mn,.int .i64 v.num,.slice v.TA v.tn v.tc,.slice v.UA v.un v.uc] 33)) (w.heap.size+1) (some ⟨w.heap.size,0,none⟩) [v]:=fun _=>by
 refine ⟨w.heap.size,0,rfl,by omega,fun i x hx j u hu=>?_⟩
 match i,hx with
 |0,hx=>
  simp at hx;subst hx;have hj:j<8:=aU hu;have hj8:j=0\/j=1\/j=2\/j=3\/j=4\/j=5\/j=6\/j=7:=by omega
  rcases hj8 with rfl|rfl|rfl|rfl|rfl|rfl|rfl|rfl<;>simp [mM] at hu<;>subst hu<;>simp
 |i+1,hx=>simp at hx
theorem infoP:(Tryz.prog.info? 33).map (fun i=>(i.zero,i.size,i.bytes))=some (some (.agg #[.int .i64 0,.string bZ,.string bZ,.string bZ,.int .i64 0,.int .i64 0,.slice none 0 0,.slice none 0 0]),8,120):=by kernel_rfl
section
variable {w:World} {ops:Array Oper} {rest:List Oper} {o:Oper} {a:Act} {Q:Exit->Act->World->Prop}
theorem rR (hgd:o.guard=none) (s x:Operand)
  (ho:o.op= .call {callee:=.builtin .append,args:=#[s,x],argTypes:=#[24,24]})
  (base:Nat) {A:Option Addr} {cap m n:Nat} {l:List PV} (hm:l.length=m) (hs:a.eval s= .slice A m cap) (hown:gV w base A cap l) {B:Nat} {A2:Option Addr} {c:Nat} {l2:List PV} (hn:l2.length=n) (hx:a.eval x= .slice A2 n c) (hr:wC w B A2 l2)
  (hlen:m+n<=10000000000) (hbase:base<=w.heap.size)
  (h:∀A' cap' w',gV w' base A' cap' (l++l2)->w.grownBy w' ((fq A l.length cap).ownBlock)->
   ((fq A' (l.length+l2.length) cap').ownBlock=(fq A l.length cap).ownBlock\/(fq A' (l.length+l2.length) cap').ownBlock=some w.heap.size)->wpList Tryz.prog ops Q rest (a.put o.dst (.slice A' (m+n) cap')) w'):wpList Tryz.prog ops Q (o::rest) a w:=by
 subst hm hn;obtain ⟨i0,hi,hz0,hz1,hz2⟩:=info_parts infoP;exact om w iT CY hgd s x 24 ho base 33 i0 _ 120 Tryz.underlying24 hi hz0 hz1 hz2 rfl (by decide) hs hown hx hr (by unfold maxLen;omega) (by omega) hbase h
end
theorem QV (n:Nat) (hn:n<=1000000000) (w:World):
  Calls Tryz.prog 109 #[.slice none 0 0,.int .i64 (n:Int)] w fun e w'=>∃A cap,e= .returned (.slice A 0 cap)/\gV w' w.heap.size A cap []/\Below w.heap.size w w':=by
 by_cases h0:n=0
 ·subst h0
  refine (Any8.slices_Grow_room Tryz.growP none 0 0 0 w (aG _) (by omega) (by omega) (by omega)).mono ?_;rintro e w' ⟨rfl,rfl⟩;exact ⟨none,0,rfl,aB.nil,aF _ _⟩
 ·obtain ⟨i0,hi,hz0,hz1,hz2⟩:=info_parts infoP
  refine (Any8.slices_Grow_grow Tryz.growP i0 _ hi hz0 (by rw [hz1];decide) none 0 0 n [] w (aG _) (by omega) (by rw [hz2];omega) (by omega) (by simp) (fun _=>rfl) (by intro a h;cases h)).mono ?_;rintro e w' ⟨rfl,rfl⟩;refine ⟨_,_,rfl,?_,(aF _ _:Below w.heap.size w w).drew.alloc (by simp) _⟩
  exact World.ownsRow_made w.drew _ _ (aG _) (grownCap_le_maxLen w _ _ _ (by unfold maxLen;omega)) (by
   have:=grownCap_ge w (0+n) 0 33;rw [Array.size_append,Array.size_append,size_zeroCells,size_zeroCells];show 0+(0+n-0)*8+(grownCap w (0+n) 0 33-(0+n))*8=grownCap w (0+n) 0 33*8;omega)
def aiV (w:World) (B:Nat) (vs:List (Option Addr×Nat×Nat)) (xss:List (List PV)):Prop:=
 vs.length=xss.length/\∀(i:Nat) (v:Option Addr×Nat×Nat) (xs:List PV),vs[i]?=some v->xss[i]?=some xs->v.2.1=xs.length/\wC w B v.1 xs
theorem D9 {xss:List (List PV)} {k:Nat} {xs:List PV} (h:xss[k]?=some xs):(xss.take (k+1)).flatten=(xss.take k).flatten++xs:=by
 rw [KV,h];simp
theorem JV (xss:List (List PV)) (k:Nat):(xss.take k).flatten.length<=xss.flatten.length:=by
 conv=>rhs;rw [<-List.take_append_drop k xss]
 rw [List.flatten_append,jX];omega
theorem BF (A:Option Addr) (c:Nat) (vs:List (Option Addr×Nat×Nat)) (xss:List (List PV)) (w:World) (hr:jU w w.heap.size A vs) (hS:aiV w w.heap.size vs xss) (hv:vs.length<=1000) (hlen:xss.flatten.length<=1000000000):
  Calls Tryz.prog 83 #[.slice A vs.length c] w fun e w'=>
   ∃A' cap',e= .returned (.slice A' xss.flatten.length cap')/\gV w' w.heap.size A' cap' xss.flatten/\Below w.heap.size w w':=by
 have HS:=aD hS.2;have IW:=hS.1;clear hS;go_enter Tryz.func83,Tryz.ntmps83;go_wp2_with fail
 go_loopw [3,11] (fun s3 i11 wr=>∃(k n:Nat),s3= .int .i64 n/\i11= .int .i64 k/\k<=vs.length/\n<=1000000000/\Below w.heap.size w wr/\Hid (n=(xss.take k).flatten.length))
  (fun _ i11 _=>vs.length-(intOf i11).toNat)
 case atStart=>exact ⟨0,0,rfl,rfl,bE _,by omega,aF _ _,aD (by simp)⟩
 case round=>
  obtain ⟨k,n,rfl,rfl,hk,hn6,hbel,hn⟩:=hrel;have zr:=hbel.size;by_cases hlt:k<vs.length
  ·obtain ⟨v,hvk⟩:=aN hlt
   obtain ⟨xs,hxk⟩:=aN (show k<xss.length by omega);obtain ⟨hvl,_⟩:=HS.out k v xs hvk hxk;obtain ⟨b1,o1,rfl,hb1,c10⟩:=hr.slice hvk;have Fh:=(hbel.cell (p:=⟨b1,o1+k,none⟩) hb1).trans c10;have hstep:=D9 hxk;have hle:=JV xss (k+1)
   have hle2:n+xs.length<=1000000000:=by
    rw [hstep,jX,<-hn.out] at hle;omega
   have q8:=aD hstep;rw [hvl] at Fh;have WG:b1<wr.heap.size:=by omega
   clear hvk hxk hstep c10 hle;go_wp2_with fail;go_roundw
   case rel=>exact ⟨k+1,n+xs.length,by go_num,by go_num,by omega,hle2,hbel,aD (by rw [q8.out,jX,<-hn.out])⟩
   case measure=>simp [intOf];omega
  ·have hkk:k=vs.length:=by omega
   have hnn:n=xss.flatten.length:=by rw [hn.out,hkk,IW,pq]
   subst hnn;clear hn;generalize hL:xss.flatten.length=L at*;have HL:=aD hL;clear hL;go_wp2_with fail;refine (QV L hn6 wr).mono ?_;rintro e w1 ⟨A1,Ny,rfl,hown1,kG⟩;have AZ:=au hbel kG;have hown0:gV w1 w.heap.size A1 Ny []:=aB.lower hown1 hbel.size;go_wp2_with fail;clear hown1 kG hbel zr hlt hkk
   go_loopw [6,27] (fun s6 i27 wr=>∃(k n:Nat) (A':Option Addr) (cap':Nat),s6= .slice A' n cap'/\i27= .int .i64 k/\k<=vs.length/\Hid (n=(xss.take k).flatten.length)/\gV wr w.heap.size A' cap' (xss.take k).flatten/\Below w.heap.size w wr)
    (fun _ i27 _=>vs.length-(intOf i27).toNat)
   case atStart=>exact ⟨0,0,A1,Ny,rfl,rfl,bE _,aD (by simp),by simpa using hown0,AZ⟩
   case round=>
    clear hown0 AZ;obtain ⟨k,n,A',cap',rfl,rfl,hk,hn,hown,hbel⟩:=hrel;have zr:=hbel.size;by_cases hlt:k<vs.length
    ·obtain ⟨v,hvk⟩:=aN hlt
     obtain ⟨xs,hxk⟩:=aN (show k<xss.length by omega);obtain ⟨hvl,Ue⟩:=HS.out k v xs hvk hxk;obtain ⟨b1,o1,rfl,hb1,c10⟩:=hr.slice hvk;have Fh:=(hbel.cell (p:=⟨b1,o1+k,none⟩) hb1).trans c10;have hstep:=D9 hxk;have hle:=JV xss (k+1)
     have hle2:n+xs.length<=1000000000:=by
      rw [hstep,jX,<-hn.out,HL.out] at hle;omega
     have q8:=aD hstep;rw [hvl] at Fh;have WG:b1<wr.heap.size:=by omega
     generalize hys:(xss.take k).flatten=ys at hn hown;have WH:=aD hys;have hn':=hn.out;subst hn';clear hvk hxk hstep c10 hle hys hn;go_wp2_with (at_builtin;refine rR rfl (.tmp 31) (.tmp 32) rfl w.heap.size (m:=ys.length) (n:=xs.length) (l:=ys) rfl rfl hown (l2:=xs) rfl rfl (bf.below Ue hbel) (by omega) (by omega) ?_;intro A2 cap2 w3 hown3 hg3 _);have dP:=jw hbel hg3 (fun k hk=>(aB.block hown k hk).1);go_roundw
     case rel=>exact ⟨k+1,_,A2,cap2,rfl,by go_num,by omega,aD (by rw [q8.out,WH.out,jX]),by rw [q8.out,WH.out];exact hown3,dP⟩
     case measure=>simp [intOf];omega
    ·have hkk:k=vs.length:=by omega
     have htk:xss.take k=xss:=by rw [hkk,IW,pq]
     rw [htk] at hown hn;have hn':=hn.out;subst hn';clear hn;go_wp2_with fail;go_ret;rw [<-HL.out];exact ⟨A',cap',rfl,hown,hbel⟩
theorem xZ (A:Option Addr) (c:Nat) (vs:List PV) (w:World) (ha:wC w w.heap.size A vs) (hne:vs≠[]) (hl:vs.length<=1000000):
  Calls Tryz.prog 54 #[.slice A vs.length c] w fun e w'=>∃A' cap',e= .returned (.slice A' vs.length cap')/\gV w' w.heap.size A' cap' vs/\Below w.heap.size w w':=by
 obtain ⟨b,o,rfl,_⟩:=ha hne;have hown0:=jo 33 8 mM w;have hb0:=aj (aF w.heap.size w) (.cells #[] 33);clear hne;go_enter Tryz.func54,Tryz.ntmps54;go_wp2_with fail;rw [Lib.run_eql_slice_nil _ _ _ _ _ _ _ _ Tryz.underlying24];go_wp2_with (at_builtin;refine rR rfl (.tmp 5) (.tmp 6) rfl w.heap.size (m:=0) (n:=vs.length) (l:=[]) rfl rfl hown0 (l2:=vs) rfl rfl (bf.below ha hb0) (by omega) (by simp) ?_;intro A2 cap2 w3 hown3 hg3 _);have dP:=jw hb0 hg3 (fun k hk=>(aB.block hown0 k hk).1);go_wp2_with fail;go_ret;exact ⟨A2,cap2,by simp,by simpa using hown3,dP⟩
def gL (n:Nd):Nd:=if n.k=0 then ⟨n.k,n.s,0⟩ else n
def aH (t:List Nd):List Nd:=t.map gL
theorem jE (t:List Nd):(aH t).length=t.length:=by simp [aH]
theorem U7 {α:Type} {l:List α} {k:Nat} {x:α} (h:l[k]?=some x):l.set k x=l:=by
 refine List.ext_getElem? fun i=>?_;rw [List.getElem?_set];split
 ·next e=>
  subst e;rw [if_pos (aU h),h]
 ·rfl
theorem Jc {t:List Nd} {k:Nat} {x:Nd} (h:t[k]?=some x):(aH (t.take k)++t.drop k).set k (gL x)=aH (t.take (k+1))++t.drop (k+1):=by
 have hk:=aU h;have hl2:(aH (t.take k)).length=k:=by rw [jE,iW];omega
 rw [aay _ _ (by omega),hl2,Nat.sub_self,List.drop_eq_getElem_cons hk,(List.getElem?_eq_some_iff.1 h).2,List.set_cons_zero,KV,h];simp [aH]
section
variable {P:Program}
theorem Gc (w:World) (dT sT ty elem:TypeId) (g dLen dCap size:Nat) (a:Addr) (sLen sCap:Nat) (cur:Array Value) (t:TypeId) (cs:List Value)
  (hu:P.underlying dT=some (.slice elem)) (hs:(P.info? elem).map (·.size)=some size)
  (hg:w.heap[g]?=some (.cells cur t (0,0))) (hn:cs.length=Nat.min sLen dLen*size)
  (hsrc:∀j v,cs[j]?=some v->w.cell? (a.add j)=some v) (hfit:0+cs.length<=cur.size) (h1:∀v∈cs,v.oneCell'=true):
  (Builtin.copy_ #[dT,sT] ty #[.slice (some ⟨g,0,none⟩) dLen dCap,.slice (some a) sLen sCap]).run P w=
   .ok (goInt (Nat.min sLen dLen)) (w.setRow g (cur.toList.take 0++cs++cur.toList.drop (0+cs.length)).toArray):=by
 have hl:=run_loadCells_list (P:=P) w a cs hsrc;have hst:=run_storeCells_at P g 0 t cs 0 cur w hg (by simpa using hfit) h1
 cases hq:P.info? elem with
 |none=>simp [hq] at hs
 |some i=>
  have hi:i.size=size:=by simpa [hq] using hs
  simp [Builtin.copy_,run_underlying hu,Builtin.lenOf,Builtin.firstCells,sizeOf,typeInfo,hq,hi,<-hn,hl,hst]
end
theorem QW (w:World) (base n:Nat) (hn:n<=5000000) (hbase:base<=w.heap.size):
  ∃w',(Instr.makeSlice 28 (.int .i64 (n:Int)) (.int .i64 (n:Int))).run Tryz.prog w= .ok (.slice (some ⟨w.heap.size,0,none⟩) n n) w'/\(∃cur:Array Value,w'.heap[w.heap.size]?=some (.cells cur 49 (0,0))/\cur.size=n*3)/\w.grownBy w' none/\base<=w.heap.size:=by
 obtain ⟨i0,hi,hz0,hz1,hz2⟩:=info_parts KI;obtain ⟨w',h1,h2,h3⟩:=run_makeSlice_full (w:=w) base 28 49 i0 _ 3 Tryz.underlying28 hi hz0 hz1 .i64 .i64 n (by omega) (by rw [hz2];omega) (by unfold maxLen;omega) hbase;refine ⟨w',h1,?_,h3,hbase⟩;rcases h2.2 with ⟨hv,_⟩|⟨g,cap',cur,hv,_,hg,_,_,hcs,_⟩
 ·cases hv
 ·injection hv with e1 e2 e3
  injection e1 with e1
  injection e1 with e1
  subst e1 e3;exact ⟨cur,hg,hcs⟩
theorem x9 (v:Int) (x:Nd):∀(l:List Nd) (j:Nat),l[j]?=some x->(l.set j ⟨x.k,x.s,v⟩).flatMap iA=(l.flatMap iA).set (j*3+2) (.int .i64 v)
 |[],j,h=>by simp at h
 |y::l,0,h=>by
  simp at h;subst h;rw [List.set_cons_zero,iJ,iJ]
  rfl
 |y::l,j+1,h=>by
  rw [List.getElem?_cons_succ] at h;rw [List.set_cons_succ,iJ,iJ,x9 v x l j h,aay _ _ (by rw [jZ];omega),jZ,show (j+1)*3+2-3=j*3+2 by omega]
theorem aB.adL {w:World} {base:Nat} {g:Nat} {cap:Nat} {l:List Nd} (h:dK w base (some ⟨g,0,none⟩) cap l) {j:Nat} {x:Nd} (hx:l[j]?=some x) (v:Int):
  w.cell? ⟨g,j*3+2,none⟩=some (.int .i64 x.n)/\w.frozen? ⟨g,j*3+2,none⟩=false/\
   dK (w.setCell ⟨g,j*3+2,none⟩ (.int .i64 v)) base (some ⟨g,0,none⟩) cap (l.set j ⟨x.k,x.s,v⟩):=by
 obtain ⟨b,o,hA,hb,c0,c1,c2⟩:=(aB.eY h).at_ hx;injection hA with hA
 injection hA with e1 e2
 subst e1 e2;rw [iC] at c2;have h':w.ownsRow base 49 3 (.slice (some ⟨g,0,none⟩) l.length cap) l.length (l.flatMap iA):=h;obtain ⟨h2,_⟩:=aau.stored h' (j*3+2) (.int .i64 v);refine ⟨c2,aau.frozenAt h' _,?_⟩;show (w.setCell ⟨g,j*3+2,none⟩ (.int .i64 v)).ownsRow base 49 3 (.slice (some ⟨g,0,none⟩) (l.set j ⟨x.k,x.s,v⟩).length cap) (l.set j ⟨x.k,x.s,v⟩).length ((l.set j ⟨x.k,x.s,v⟩).flatMap iA);rw [List.length_set,x9 v x l j hx];exact h2
theorem OE {w:World} {base g:Nat} {t:List Nd} {cur:Array Value} (hg:w.heap[g]?=some (.cells cur 49 (0,0))) (hs:cur.size=t.length*3) (hb:base<=g) (hl:t.length<=5000000):
  dK (w.setRow g (t.flatMap iA++cur.toList.drop (t.flatMap iA).length).toArray) base (some ⟨g,0,none⟩) t.length t:=by
 have hfl:(t.flatMap iA).length=t.length*3:=jB jZ t;have hd:cur.toList.drop (t.flatMap iA).length=[]:=aX (by rw [hfl];simp [hs]);rw [hd,lI];refine ⟨hfl,.inr ⟨g,t.length,_,rfl,hb,setRow_heap w g cur _ 49 _ hg,aG _,by unfold maxLen;omega,?_,?_⟩⟩
 ·simp [hfl]
 ·show (t.flatMap iA).take (t.length*3)=_
  exact iO (by rw [hfl];exact aG _)
theorem bf.flat {w:World} {B b o:Nat} {t:List Nd} (h:bf 3 iA w B (some ⟨b,o,none⟩) t) (hne:t≠[]):∀(j:Nat) (u:Value),(t.flatMap iA)[j]?=some u->w.cell? ((Addr.mk b o none).add j)=some u:=by
 obtain ⟨b2,o2,he,hb,hc⟩:=h hne;injection he with he
 injection he with e1 e2
 subst e1 e2;intro j u hu;have hj:=aU hu;rw [jB jZ] at hj;obtain ⟨x,hx⟩:=aN (show j / 3<t.length by omega);obtain ⟨u',hu'⟩:=aN (show j % 3<(iA x).length by rw [jZ];omega);have e1:=xA jZ hx hu';rw [show j / 3*3+j % 3=j by omega,hu] at e1;injection e1 with e1
 subst e1;have:=hc _ _ hx _ _ hu';rw [Jz]
 rwa [show o+j / 3*3+j % 3=o+j by omega] at this
theorem Jd {w w':World} (h:w.grownBy w' none) (cs:Array Value):Below w.heap.size w (w'.setRow w.heap.size cs):=below_setRow (qJ h) (aG _) cs
theorem JW (A:Option Addr) (c:Nat) (t:List Nd) (w:World) (ha:bO w w.heap.size A t) (hne:t≠[]) (hl:t.length<=5000000):
  Calls Tryz.prog 110 #[.slice A t.length c] w (A_ w (aH t)):=by
 obtain ⟨b,o,rfl,hb,_⟩:=ha hne;obtain ⟨n,hn⟩:∃n,n=t.length:=⟨_,rfl⟩;have hn0:0<n:=by rw [hn];exact aaA.2 hne
 obtain ⟨w1,hmk,⟨cur,hg,hcs⟩,hgr,_⟩:=QW w w.heap.size n (by omega) (aG _);have hfl:(t.flatMap iA).length=n*3:=by rw [jB jZ,hn]
 have hone:∀v∈t.flatMap iA,v.oneCell'=true:=fun u hu=>by
  rw [List.mem_flatMap] at hu;obtain ⟨x,_,hx⟩:=hu;exact Co x u hx
 have hcp:=Gc (P:=Tryz.prog) w1 28 28 3 49 w.heap.size n n 3 ⟨b,o,none⟩ n c cur 49 (t.flatMap iA) Tryz.underlying28 (by kernel_rfl) hg (by rw [hfl,show Nat.min n n=n from Nat.min_self n]) (fun j u hu=>(bf.flat (bf.below ha.P8 (qJ hgr)) hne) j u hu) (by omega) hone;rw [show Nat.min n n=n from Nat.min_self n,List.take_zero,List.nil_append,iC] at hcp;have hown2:=OE (base:=w.heap.size) hg (by rw [hcs,hn]) (aG _) hl;have hb2:=Jd hgr (t.flatMap iA++cur.toList.drop (t.flatMap iA).length).toArray;obtain ⟨w2,hw2⟩:∃w2,w2=w1.setRow w.heap.size (t.flatMap iA++cur.toList.drop (t.flatMap iA).length).toArray:=⟨_,rfl⟩;rw [<-hw2] at hcp hown2 hb2;rw [<-hn] at hown2 hl;obtain ⟨G,hG⟩:∃G,G=w.heap.size:=⟨_,rfl⟩;have HG:=aD hG;rw [<-hG] at hcp hown2 hmk;have H2:Hid (dK w2 w.heap.size (some ⟨G,0,none⟩) n t/\Below w.heap.size w w2):=aD ⟨by rw [hG] at hown2 ⊢;exact hown2,hb2⟩;have Hn:=aD hn;rw [<-hn];clear ha hg hcs hfl hgr hn hne hw2 hone hown2 hb2 hG;go_enter Tryz.func110,Tryz.ntmps110;go_wp2_with fail;clear hmk hcp;go_loopw [14] (fun o14 wr=>∃k:Nat,o14= .int .i64 k/\k<=n/\Hid (dK wr w.heap.size (some ⟨G,0,none⟩) n (aH (t.take k)++t.drop k)/\Below w.heap.size w wr)) (fun o14 _=>n-(Lib.intOf o14).toNat)
 case atStart=>exact ⟨0,rfl,bE _,aD ⟨by simpa [aH] using H2.out.1,H2.out.2⟩⟩
 case round=>
  obtain ⟨k,rfl,hk,HI⟩:=hrel;by_cases hlt:k<n
  ·obtain ⟨x,hx⟩:=aN (show k<t.length by rw [<-Hn.out];exact hlt)
   have hx2:(aH (t.take k)++t.drop k)[k]?=some x:=by
    have hl2:(aH (t.take k)).length=k:=by rw [jE,iW,<-Hn.out];omega
    rw [jd (by omega),hl2,Nat.sub_self,List.getElem?_drop,Nat.add_zero];exact hx
   have hstep:Hid ((aH (t.take k)++t.drop k).set k (gL x)=aH (t.take (k+1))++t.drop (k+1)):=aD (Jc hx);obtain ⟨b3,o3,e3,hb3,c0,c1,c2⟩:=(aB.eY HI.out.1).at_ hx2;injection e3 with e3
   injection e3 with e1 e2
   subst e1 e2;have Ls:Hid (k+1<=n):=aD hlt;rw [iC] at c0 c1 c2;have Hx2:=aD hx2;have HS:Hid (gL x=if x.k=0 then ⟨x.k,x.s,0⟩ else x):=aD rfl;clear hx hx2
   cases hk0:(x.k==0)
   ·have HE:Hid (aH (t.take (k+1))++t.drop (k+1)=aH (t.take k)++t.drop k):=aD (by
     rw [<-hstep.out,HS.out,if_neg (by simpa using hk0)];exact U7 Hx2.out)
    go_wp2_with fail;go_roundw
    case rel=>exact ⟨k+1,by go_num,Ls.out,aD ⟨by rw [HE.out];exact aB.alloc HI.out.1 _,aj HI.out.2 _⟩⟩
    case measure=>have:=Ls.out;simp [Lib.intOf];omega
   ·have HE:Hid ((aH (t.take k)++t.drop k).set k ⟨x.k,x.s,0⟩=aH (t.take (k+1))++t.drop (k+1)):=aD (by
     rw [<-hstep.out,HS.out,if_pos (by simpa using hk0)])
    go_upto_region 6 with fail
    obtain ⟨wa,wD⟩:∃wa,wa=wr.alloc (.cells #[.int .i64 x.k,.string x.s,.int .i64 x.n] 49):=⟨_,rfl⟩;obtain ⟨Q,hQ⟩:∃Q,Q=wr.heap.size:=⟨_,rfl⟩;have hbl:wa.heap[Q]?=some (.cells #[.int .i64 x.k,.string x.s,.int .i64 x.n] 49 (0,0)):=by rw [wD,hQ];exact heap_alloc_new _ _
    have q0:wa.cell? ⟨Q,0,none⟩=some (.int .i64 x.k):=by simp [Ck,hbl]
    have HA:Hid (dK wa w.heap.size (some ⟨G,0,none⟩) n (aH (t.take k)++t.drop k)/\Below w.heap.size w wa):=aD ⟨by rw [wD];exact aB.alloc HI.out.1 _,by rw [wD];exact aj HI.out.2 _⟩;obtain ⟨f1,f2,f3⟩:=aB.adL HA.out.1 Hx2.out 0;have F3:=aD f3;rw [<-wD,<-hQ];clear wD hQ hbl c0 c1 c2 f3;go_wp2_with fail;go_roundw
    case rel=>exact ⟨k+1,by go_num,Ls.out,aD ⟨by rw [<-HE.out];exact F3.out,lN HA.out.2 (p:=⟨G,k*3+2,none⟩) (by show _<=G;rw [HG.out];exact aG _) _⟩⟩
    case measure=>have:=Ls.out;simp [Lib.intOf];omega
  ·have hkk:k=n:=by omega
   have HO:Hid (dK wr w.heap.size (some ⟨G,0,none⟩) n (aH t)):=aD (by
    have:=HI.out.1;rw [iO (by rw [<-Hn.out];omega),aX (by rw [<-Hn.out];omega),lI] at this;exact this)
   have hnl:=jE t;go_wp2_with fail;go_ret;exact ⟨some ⟨G,0,none⟩,n,by rw [jE,<-Hn.out];rfl,HO.out,HI.out.2⟩
def uJ (w:World) (Y:Nat->Prop) (A:Option Addr) (vs:List PV):Prop:=vs≠[]->∃b o,A=some ⟨b,o,none⟩/\b<w.heap.size/\¬Y b/\iE w b 33/\∀(i:Nat) (v:PV),vs[i]?=some v->∀(j:Nat) (u:Value),(mM v)[j]?=some u->w.cell? ⟨b,o+i*8+j,none⟩=some u
def bP (w:World) (Y:Nat->Prop) (A:Option Addr) (c:Nat) (es:List Pt):Prop:=∃vs,uJ w Y A vs/\dO w Y vs es/\es.length<=c
section
variable {w w':World} {Y Y':Nat->Prop} {A:Option Addr} {c:Nat} {vs:List PV} {es:List Pt}
theorem uJ.fr (h:uJ w Y A vs) (hf:Fr Y w w') (hY:∀q,Y' q->Y q\/w.heap.size<=q):uJ w' Y' A vs:=fun hne=>by
 obtain ⟨b,o,hA,hb,hy,ho,hc⟩:=h hne;have hbk:=hf.block b hb hy;refine ⟨b,o,hA,Yw hb hf.size,fun h2=>?_,kY hbk ho,fun i v hv j u hu=>?_⟩
 ·rcases hY b h2 with h3|h3
  ·exact hy h3
  ·omega
 ·have:=hc i v hv j u hu
  simp only [Ck,hbk] at this ⊢;exact this
theorem bP.fr (h:bP w Y A c es) (hf:Fr Y w w') (hY:∀q,Y' q->Y q\/w.heap.size<=q):bP w' Y' A c es:=by
 obtain ⟨vs,h1,h2,h3⟩:=h;exact ⟨vs,h1.fr hf hY,h2.fr hf hY,h3⟩
theorem uJ.read (h:uJ w Y A vs):wC w w.heap.size A vs:=fun hne=>by
 obtain ⟨b,o,hA,hb,_,_,hc⟩:=h hne;exact ⟨b,o,hA,hb,hc⟩
theorem uJ.own {base:Nat} (h:gV w base A c vs) (hY:∀q,Y q->q<base):uJ w Y A vs:=fun hne=>by
 obtain ⟨b,o,hA,hb,hc⟩:=aB.read iT h hne;refine ⟨b,o,hA,hb,fun hy=>?_,aB.qK h hA,hc⟩;have:=(aB.lt h _ hA).1;have:=hY b hy;dsimp only at*;omega
end
def ng:List Pt->ByteArray
 |[]=>bZ
 |p::_=>p.lb
def gP (s:ByteArray):List Pt->List Pt
 |[]=>[]
 |p::ps=>{p with lb:=s}::ps
def n_ (lb:ByteArray) (t u:List Nd):Pt:=⟨14,lb,bZ,bZ,0,0,aH t,aH u⟩
def toM (x:List Pt) (t u:List Nd):List Pt:=if mE t u=true then x else n_ (ng x) t u::gP bZ x
def Yc (Y:Nat->Prop) (es:List Pt) (w:World) (e:Ending) (w':World):Prop:=Below w.heap.size w w'/\∃A c,e= .returned (.slice A es.length c)/\bP w' Y A c es
theorem OG (w:World) (v u:Option Addr×Nat×Nat):jU (w.alloc (.cells #[.slice v.1 v.2.1 v.2.2,.slice u.1 u.2.1 u.2.2] 24)) (w.heap.size+1) (some ⟨w.heap.size,0,none⟩) [v,u]:=fun _=>by
 refine ⟨w.heap.size,0,rfl,by omega,fun i x hx j y hy=>?_⟩
 have hj:j=0:=by
  have:=aU hy;rw [jI] at this;omega
 subst hj
 match i,hx with
 |0,hx=>simp at hx;subst hx;simp [encS] at hy;subst hy;simp
 |1,hx=>simp at hx;subst hx;simp [encS] at hy;subst hy;simp
 |i+2,hx=>simp at hx
theorem aB.Yd {w:World} {base g cap:Nat} {v:PV} {l:List PV} (h:gV w base (some ⟨g,0,none⟩) cap (v::l)) (s:ByteArray):
  w.cell? ⟨g,1,none⟩=some (.string v.lb)/\w.frozen? ⟨g,1,none⟩=false/\gV (w.setCell ⟨g,1,none⟩ (.string s)) base (some ⟨g,0,none⟩) cap ({v with lb:=s}::l):=by
 obtain ⟨b,o,e1,hb,hc⟩:=aB.read iT h (by simp);injection e1 with e1
 injection e1 with e1 e2
 subst e1 e2;have c1:=hc 0 v rfl 1 _ rfl;have h':w.ownsRow base 33 8 (.slice (some ⟨g,0,none⟩) (v::l).length cap) (v::l).length ((v::l).flatMap mM):=h;obtain ⟨h2,_⟩:=aau.stored h' 1 (.string s);refine ⟨by simpa using c1,aau.frozenAt h' _,?_⟩;show (w.setCell ⟨g,1,none⟩ (.string s)).ownsRow base 33 8 (.slice (some ⟨g,0,none⟩) ({v with lb:=s}::l).length cap) ({v with lb:=s}::l).length (({v with lb:=s}::l).flatMap mM);exact h2
def zQ (w:World) (Q:Nat) (lb:ByteArray) (TA:Option Addr) (tn tc:Nat) (UA:Option Addr) (un uc:Nat):World:=
 (((((((w.setCell ⟨Q,0,none⟩ (.int .i64 14)).setCell ⟨Q,1,none⟩ (.string lb)).setCell ⟨Q,2,none⟩ (.string ⟨#[]⟩)).setCell ⟨Q,3,none⟩ (.string ⟨#[]⟩)).setCell ⟨Q,4,none⟩ (.int .i64 0)).setCell ⟨Q,5,none⟩ (.int .i64 0)).setCell ⟨Q,6,none⟩ (.slice TA tn tc)).setCell ⟨Q,7,none⟩ (.slice UA un uc)
theorem Ye (w:World) (Q:Nat) (lb:ByteArray) (TA:Option Addr) (tn tc:Nat) (UA:Option Addr) (un uc:Nat):Fr (fun q=>q=Q) w (zQ w Q lb TA tn tc UA un uc):=by
 unfold zQ;exact (((((((dY _ _ _ _).trans (dY _ _ _ _)).trans (dY _ _ _ _)).trans (dY _ _ _ _)).trans (dY _ _ _ _)).trans (dY _ _ _ _)).trans (dY _ _ _ _)).trans (dY _ _ _ _)
structure adN (w3:World) (t u:List Nd) (lb:ByteArray) (Q:Nat) (TA:Option Addr) (tc:Nat) (UA:Option Addr) (uc:Nat) (w6:World):Prop where
 b:Below w3.heap.size w3 w6
 q:w6.heap[Q]?=some (.cells #[.int .i64 14,.string lb,.string ⟨#[]⟩,.string ⟨#[]⟩,.int .i64 0,.int .i64 0,.slice TA (aH t).length tc,.slice UA (aH u).length uc] 33 (0,0))
 z:w3.heap.size<=Q
 T:dK w6 w3.heap.size TA tc (aH t)
 U:dK w6 w3.heap.size UA uc (aH u)
abbrev QX (w:World) (Q:Nat):Prop:=w.heap[Q]?=some (.cells #[.int .i64 0,.string ⟨#[]⟩,.string ⟨#[]⟩,.string ⟨#[]⟩,.int .i64 0,.int .i64 0,.slice none 0 0,.slice none 0 0] 33 (0,0))
theorem QY {w3 w w':World} {Q:Nat} (h:QX w Q/\Q<w.heap.size/\w3.heap.size<=Q) (hb:Below w.heap.size w w'):QX w' Q/\Q<w'.heap.size/\w3.heap.size<=Q:=⟨(hb.block Q h.2.1).trans h.1,Yw h.2.1 hb.size,h.2.2⟩
theorem Ao {w3 w:World} {t u:List Nd} {Q:Nat} {TA UA:Option Addr} {tc uc:Nat} (hb:Hid (Below w3.heap.size w3 w)) (hT:Hid (dK w w3.heap.size TA tc (aH t))) (hU:Hid (dK w w3.heap.size UA uc (aH u))) (hq:Hid (QX w Q/\Q<w.heap.size/\w3.heap.size<=Q)) (lb:ByteArray):
  Hid (adN w3 t u lb Q TA tc UA uc (zQ w Q lb TA (aH t).length tc UA (aH u).length uc)):=by
 refine aD ?_;have hf:=Ye w Q lb TA (aH t).length tc UA (aH u).length uc
 have hne:∀{A:Option Addr} {c:Nat} {l:List Nd},dK w w3.heap.size A c l->∀a,A=some a->a.block≠Q:=fun h a ha e=>by
  have:=aB.qK h ha;rw [e] at this;exact iE.ne this ⟨_,_,hq.out.1⟩ (by decide) rfl
 refine ⟨Fr.toBelow (Fr.new (Fr.below hb.out:Fr (fun _=>False) w3 w) hf fun b e=>.inr (by rw [e];exact hq.out.2.2)) fun k e=>e.elim,?_,hq.out.2.2,aB.fr hT.out hf (hne hT.out),aB.fr hU.out hf (hne hU.out)⟩;unfold zQ;rw [heap_set (heap_set (heap_set (heap_set (heap_set (heap_set (heap_set (heap_set hq.out.1 0 _) 1 _) 2 _) 3 _) 4 _) 5 _) 6 _) 7];rfl
theorem iq (EA:Option Addr) (c:Nat) (es:List Pt) (TA:Option Addr) (tc:Nat) (t:List Nd) (UA:Option Addr) (uc:Nat) (u:List Nd) (Y:Nat->Prop) (w:World) (hx:bP w Y EA c es) (hne:es≠[]) (hT:aA w Y TA tc t) (hU:aA w Y UA uc u) (htn:t≠[]) (hun:u≠[]) (hlt:∀q,Y q->q<w.heap.size)
  (hl:es.length<=100000) (htl:t.length<=5000000) (hul:u.length<=5000000):
  Calls Tryz.prog 84 #[.agg #[.slice EA es.length c,.slice TA t.length tc],.slice UA u.length uc] w (Yc Y (toM es t u) w):=by
 have H:=aD (Cj hx (Cj hT hU));go_enter Tryz.func84,Tryz.ntmps84;go_upto_region 1 with fail
 obtain ⟨w1,hw1⟩:∃w1,w1=w.alloc (.cells #[.slice EA es.length c,.slice TA t.length tc] 65):=⟨_,rfl⟩;obtain ⟨B,hB⟩:∃B,B=w.heap.size:=⟨_,rfl⟩;have hb1:Below w.heap.size w w1:=by rw [hw1];exact aj (aF _ _) _
 have hbl:w1.heap[B]?=some (.cells #[.slice EA es.length c,.slice TA t.length tc] 65 (0,0)):=by rw [hw1,hB];exact heap_alloc_new _ _
 have hs1:B<w1.heap.size:=by rw [hw1,hB];simp
 have HC:Hid (∀v,Below w1.heap.size w1 v->v.cell? ⟨B,0,none⟩=some (.slice EA es.length c)/\v.cell? ⟨B,1,none⟩=some (.slice TA t.length tc)):=aD fun v hv=>by
  refine ⟨(hv.cell (p:=⟨B,0,none⟩) hs1).trans ?_,(hv.cell (p:=⟨B,1,none⟩) hs1).trans ?_⟩<;>simp [Ck,hbl]
 have HB1:=aD hb1;have H1:Hid (∀v,Below w.heap.size w v->bP v Y EA c es/\aA v Y TA tc t/\aA v Y UA uc u):=aD fun v hv=>⟨H.out.1.fr (Fr.below hv:Fr Y w v) fun q hq=>.inl hq,H.out.2.1.fr (Fr.below hv:Fr Y w v) fun q hq=>.inl hq,H.out.2.2.fr (Fr.below hv:Fr Y w v) fun q hq=>.inl hq⟩;have HSm:=aD (CP TA UA tc uc t u w1 (H1.out w1 hb1).2.1.ty.eY (H1.out w1 hb1).2.2.ty.eY (by omega));obtain ⟨p0,p1⟩:=HC.out w1 (aF _ _);have KZ:=aD (Cj hne (Cj htn (Cj hun hlt)));rw [<-hw1,<-hB];clear hw1 hB hb1 hbl hs1 hx hT hU hne htn hun hlt;go_wp2_with fail;refine HSm.out.mono ?_;rintro e w2 ⟨rfl,hb2⟩;have HB2:=aD (au HB1.out hb2);have aiX:=aD hb2;obtain ⟨p0,p1⟩:=HC.out w2 hb2;clear hb2
 cases hsm:mE t u
 rotate_left
 ·have HT:Hid (toM es t u=es):=aD (by unfold toM;rw [if_pos hsm])
  go_wp2_with fail;go_ret;rw [HT.out];exact ⟨HB2.out,EA,c,rfl,(H1.out _ HB2.out).1⟩
 have HT:Hid (toM es t u=n_ (ng es) t u::gP bZ es):=aD (by unfold toM;rw [if_neg (by rw [hsm];simp)]);obtain ⟨vs,hrd,hpm,hcap⟩:=(H1.out _ HB2.out).1;have hvl:=hpm.1
 have zR:vs≠[]:=fun e=>by
  rw [e] at hvl;exact KZ.out.1 (List.eq_nil_of_length_eq_zero hvl.symm)
 have uK:=aD (xZ EA c vs w2 hrd.read zR (by omega));rw [hvl] at uK;have HV:=aD (Cj hpm zR);clear hrd hpm hcap hsm hvl;go_wp2_with fail;refine uK.out.mono ?_;rintro e w3 ⟨A3,c3,rfl,hown3,hb3⟩;have HB3:=aD (au HB2.out hb3);have aiY:=aD hb3;have abX:=aD (au aiX.out hb3);have UK:=aD hown3;obtain ⟨p0,p1⟩:=HC.out w3 abX.out;obtain ⟨v0,vt,hvs⟩:=List.exists_cons_of_ne_nil HV.out.2;obtain ⟨g3,hA3,hg3,anN,_,_⟩:=aB.form hown3 (by rw [hvs];simp);subst hA3;have OH:=aD hvs;have hl0:0<es.length:=aaA.2 KZ.out.1
 have HL:Hid (∀v,Below w3.heap.size w3 v->v.cell? ⟨g3,1,none⟩=some (.string v0.lb)):=aD fun v hv=>by
  obtain ⟨b,o,e1,hb,hc⟩:=aB.read iT (aB.below UK.out hv (aG _)) (by rw [OH.out];simp);injection e1 with e1
  injection e1 with e1 e2
  subst e1 e2;have:=hc 0 v0 (by rw [OH.out];rfl) 1 _ rfl;simpa using this
 have HBt:=aD (fun v (hv:Below w3.heap.size w3 v)=>JW TA tc t v ((H1.out v (au HB3.out hv)).2.1.ty.eY) KZ.out.2.1 htl);have HBu:=aD (fun v (hv:Below w3.heap.size w3 v)=>JW UA uc u v ((H1.out v (au HB3.out hv)).2.2.ty.eY) KZ.out.2.2.1 hul);have S0:Hid (∀v,Below w3.heap.size w3 v->v.cell? ⟨B,1,none⟩=some (.slice TA t.length tc)/\v.cell? ⟨g3,1,none⟩=some (.string v0.lb)/\Hid (Below w3.heap.size w3 v)):=aD fun v hv=>⟨(HC.out v (au abX.out hv)).2,HL.out v hv,aD hv⟩;clear hown3 hb3 hvs;go_upto_region 4 with fail
 obtain ⟨SS,hSS⟩:∃SS:World->Prop,SS=fun v=>v.cell? ⟨B,1,none⟩=some (.slice TA t.length tc)/\v.cell? ⟨g3,1,none⟩=some (.string v0.lb):=⟨_,rfl⟩;have HS:Hid (∀v,Below w3.heap.size w3 v->SS v):=aD fun v hv=>by rw [hSS];exact ⟨(S0.out v hv).1,(S0.out v hv).2.1⟩
 apply share
 ·intro HT
  obtain ⟨wd,hwd⟩:∃wd,wd=w3.drew:=⟨_,rfl⟩;have bM:Hid (Below w3.heap.size w3 wd):=aD (by rw [hwd];exact (aF _ _).drew);have sd:=HS.out _ bM.out;refine aI (S:=SS) [11] (by kernel_rfl) (by rw [<-hwd];exact sd) (fun hHeld=>?_);rw [<-hwd] at hHeld ⊢;clear hwd;refine aL 0 [11] (some 16) rfl rfl ?_;refine aL 1 [11] (some 17) rfl rfl ?_;refine aL 2 [11] (some 18) rfl rfl ?_;refine aL 3 [11] (some 19) rfl rfl ?_;refine aL 4 [11] (some 20) rfl rfl ?_;refine aL 5 [11] (some 21) rfl rfl ?_;refine aL 7 [11] (some 23) rfl rfl ?_;refine oC 6 10 (by kernel_rfl) rfl rfl (by rfl) (by rfl) ?_ ?_
  ·skip
   refine oQ (some 22) rfl (by go_simp) (HBt.out _ bM.out) ?_;rintro e w4 ⟨yg,yh,rfl,hown,hb⟩;have yj:=aD (au bM.out hb);have QZ:=aD (aB.lower hown (bM.out.size));have hbx:=aD hb;clear hown hb;have Yf:=HS.out _ yj.out;refine ⟨_,rfl,fun _=>Yf,?_⟩;refine aC ?_;refine oC 8 10 (by kernel_rfl) rfl rfl (by rfl) (by rfl) ?_ ?_
   ·skip
    refine oQ (some 24) rfl (by go_simp) (HBu.out _ yj.out) ?_;rintro e w5 ⟨yu,yw,rfl,hown,hb⟩;have zS:=aD (au yj.out hb);have OI:=aD (aB.lower hown (yj.out.size));have OJ:=aD (aB.below QZ.out hb (aG _));have hbx:=aD hb;clear hown hb;have OL:=HS.out _ zS.out;refine ⟨_,rfl,fun _=>OL,?_⟩;refine aC ?_;refine aL 9 [11] (some 25) rfl rfl ?_;refine bB 10 (some 6) (v:=.pointer (some ⟨w5.heap.size,0,none⟩)) (w':=w5.alloc (.cells #[.int .i64 0,.string ⟨#[]⟩,.string ⟨#[]⟩,.string ⟨#[]⟩,.int .i64 0,.int .i64 0,.slice none 0 0,.slice none 0 0] 33)) rfl rfl (by kernel_rfl) (by rfl) (by go_simp) (fun _=>HS.out _ (aj zS.out _)) ?_;obtain ⟨wz,hwz⟩:∃wz,wz=w5.alloc (.cells #[.int .i64 0,.string ⟨#[]⟩,.string ⟨#[]⟩,.string ⟨#[]⟩,.int .i64 0,.int .i64 0,.slice none 0 0,.slice none 0 0] 33):=⟨_,rfl⟩;have oD:Hid (Below w3.heap.size w3 wz):=aD (by rw [hwz];exact aj zS.out _);obtain ⟨Q,hQ⟩:∃Q,Q=w5.heap.size:=⟨_,rfl⟩;have mY:Hid (wz.heap[Q]?=some (.cells #[.int .i64 0,.string ⟨#[]⟩,.string ⟨#[]⟩,.string ⟨#[]⟩,.int .i64 0,.int .i64 0,.slice none 0 0,.slice none 0 0] 33 (0,0))/\Q<wz.heap.size/\w3.heap.size<=Q):=aD ⟨by rw [hwz,hQ];exact heap_alloc_new _ _,by rw [hwz,hQ];simp,by rw [hQ];exact zS.out.size⟩;have U8:=aD (show dK wz w3.heap.size yg yh (aH t) from (by rw [hwz];exact aB.alloc OJ.out _));have HUz:=aD (show dK wz w3.heap.size yu yw (aH u) from (by rw [hwz];exact aB.alloc OI.out _));rw [<-hwz,<-hQ];clear hwz hQ;have Gf:=HS.out _ oD.out;refine aC ?_
    have g0:wz.cell? ⟨Q,0,none⟩=some (.int .i64 0):=by simp [Ck,mY.out.1]
    have g1:wz.cell? ⟨Q,1,none⟩=some (.string ⟨#[]⟩):=by simp [Ck,mY.out.1]
    have g2:wz.cell? ⟨Q,2,none⟩=some (.string ⟨#[]⟩):=by simp [Ck,mY.out.1]
    have g3:wz.cell? ⟨Q,3,none⟩=some (.string ⟨#[]⟩):=by simp [Ck,mY.out.1]
    have g4:wz.cell? ⟨Q,4,none⟩=some (.int .i64 0):=by simp [Ck,mY.out.1]
    have g5:wz.cell? ⟨Q,5,none⟩=some (.int .i64 0):=by simp [Ck,mY.out.1]
    have g6:wz.cell? ⟨Q,6,none⟩=some (.slice none 0 0):=by simp [Ck,mY.out.1]
    have g7:wz.cell? ⟨Q,7,none⟩=some (.slice none 0 0):=by simp [Ck,mY.out.1]
    have f0:wz.frozen? ⟨Q,0,none⟩=false:=by simp [EJ,mY.out.1]
    have f1:wz.frozen? ⟨Q,1,none⟩=false:=by simp [EJ,mY.out.1]
    have f2:wz.frozen? ⟨Q,2,none⟩=false:=by simp [EJ,mY.out.1]
    have f3:wz.frozen? ⟨Q,3,none⟩=false:=by simp [EJ,mY.out.1]
    have f4:wz.frozen? ⟨Q,4,none⟩=false:=by simp [EJ,mY.out.1]
    have f5:wz.frozen? ⟨Q,5,none⟩=false:=by simp [EJ,mY.out.1]
    have f6:wz.frozen? ⟨Q,6,none⟩=false:=by simp [EJ,mY.out.1]
    have f7:wz.frozen? ⟨Q,7,none⟩=false:=by simp [EJ,mY.out.1]
    refine je 11 none (w':=?_) rfl rfl (by kernel_rfl) (by rfl) ?_ (zL (by kernel_rfl)) ?_
    rotate_left
    ·(go_simp;try with_reducible rfl)
    refine aC ?_;refine bG (by kernel_rfl) ?_ _;have HQ:=Ao oD U8 HUz mY v0.lb;obtain ⟨w6,nD⟩:∃w6,w6=zQ wz Q v0.lb yg (aH t).length yh yu (aH u).length yw:=⟨_,rfl⟩;rw [<-nD] at HQ;unfold zQ at nD;rw [<-nD];clear nD g0 f0 g1 f1 g2 f2 g3 f3 g4 f4 g5 f5 g6 f6 g7 f7
    try clear U8
    try clear HUz
    try clear OJ
    try clear OI
    try clear QZ
    try clear tQ
    try clear oH
    try clear mY
    revert HQ;revert w6 Q yg yh yu yw;exact HT.out
   ·skip
    refine eZ (some 6) (v:=.pointer (some ⟨w4.heap.size,0,none⟩)) (w':=w4.alloc (.cells #[.int .i64 0,.string ⟨#[]⟩,.string ⟨#[]⟩,.string ⟨#[]⟩,.int .i64 0,.int .i64 0,.slice none 0 0,.slice none 0 0] 33)) rfl (by go_simp) ?_;obtain ⟨wz,hwz⟩:∃wz,wz=w4.alloc (.cells #[.int .i64 0,.string ⟨#[]⟩,.string ⟨#[]⟩,.string ⟨#[]⟩,.int .i64 0,.int .i64 0,.slice none 0 0,.slice none 0 0] 33):=⟨_,rfl⟩;have oD:Hid (Below w3.heap.size w3 wz):=aD (by rw [hwz];exact aj yj.out _);obtain ⟨Q,hQ⟩:∃Q,Q=w4.heap.size:=⟨_,rfl⟩;have mY:Hid (wz.heap[Q]?=some (.cells #[.int .i64 0,.string ⟨#[]⟩,.string ⟨#[]⟩,.string ⟨#[]⟩,.int .i64 0,.int .i64 0,.slice none 0 0,.slice none 0 0] 33 (0,0))/\Q<wz.heap.size/\w3.heap.size<=Q):=aD ⟨by rw [hwz,hQ];exact heap_alloc_new _ _,by rw [hwz,hQ];simp,by rw [hQ];exact yj.out.size⟩;have U8:=aD (show dK wz w3.heap.size yg yh (aH t) from (by rw [hwz];exact aB.alloc QZ.out _));rw [<-hwz,<-hQ];clear hwz hQ;have Gf:=HS.out _ oD.out;refine ⟨fun _=>Gf,?_⟩;refine aC ?_;refine bD 8 (some 24) rfl rfl (by kernel_rfl) (by rfl) (by go_simp) (HBu.out _ oD.out) ?_;rintro e w5 ⟨yu,yw,rfl,hown,hb⟩;have zS:=aD (au oD.out hb);have OI:=aD (aB.lower hown (oD.out.size));have OJ:=aD (aB.below U8.out hb (aG _));have hbx:=aD hb;clear hown hb;have OL:=HS.out _ zS.out;refine ⟨_,rfl,OL,?_⟩;refine aC ?_;have oH:=aD (QY mY.out hbx.out);refine aL 9 [11] (some 25) rfl rfl ?_;have g0:w5.cell? ⟨Q,0,none⟩=some (.int .i64 0):=by simp [Ck,oH.out.1]
    have g1:w5.cell? ⟨Q,1,none⟩=some (.string ⟨#[]⟩):=by simp [Ck,oH.out.1]
    have g2:w5.cell? ⟨Q,2,none⟩=some (.string ⟨#[]⟩):=by simp [Ck,oH.out.1]
    have g3:w5.cell? ⟨Q,3,none⟩=some (.string ⟨#[]⟩):=by simp [Ck,oH.out.1]
    have g4:w5.cell? ⟨Q,4,none⟩=some (.int .i64 0):=by simp [Ck,oH.out.1]
    have g5:w5.cell? ⟨Q,5,none⟩=some (.int .i64 0):=by simp [Ck,oH.out.1]
    have g6:w5.cell? ⟨Q,6,none⟩=some (.slice none 0 0):=by simp [Ck,oH.out.1]
    have g7:w5.cell? ⟨Q,7,none⟩=some (.slice none 0 0):=by simp [Ck,oH.out.1]
    have f0:w5.frozen? ⟨Q,0,none⟩=false:=by simp [EJ,oH.out.1]
    have f1:w5.frozen? ⟨Q,1,none⟩=false:=by simp [EJ,oH.out.1]
    have f2:w5.frozen? ⟨Q,2,none⟩=false:=by simp [EJ,oH.out.1]
    have f3:w5.frozen? ⟨Q,3,none⟩=false:=by simp [EJ,oH.out.1]
    have f4:w5.frozen? ⟨Q,4,none⟩=false:=by simp [EJ,oH.out.1]
    have f5:w5.frozen? ⟨Q,5,none⟩=false:=by simp [EJ,oH.out.1]
    have f6:w5.frozen? ⟨Q,6,none⟩=false:=by simp [EJ,oH.out.1]
    have f7:w5.frozen? ⟨Q,7,none⟩=false:=by simp [EJ,oH.out.1]
    refine je 11 none (w':=?_) rfl rfl (by kernel_rfl) (by rfl) ?_ (zL (by kernel_rfl)) ?_
    rotate_left
    ·(go_simp;try with_reducible rfl)
    refine aC ?_;refine bG (by kernel_rfl) ?_ _;have HQ:=Ao zS OJ OI oH v0.lb;obtain ⟨w6,nD⟩:∃w6,w6=zQ w5 Q v0.lb yg (aH t).length yh yu (aH u).length yw:=⟨_,rfl⟩;rw [<-nD] at HQ;unfold zQ at nD;rw [<-nD];clear nD g0 f0 g1 f1 g2 f2 g3 f3 g4 f4 g5 f5 g6 f6 g7 f7
    try clear U8
    try clear HUz
    try clear OJ
    try clear OI
    try clear QZ
    try clear tQ
    try clear oH
    try clear mY
    exact HT.out yg yh yu yw Q w6 HQ
  ·skip
   refine eZ (some 6) (v:=.pointer (some ⟨wd.heap.size,0,none⟩)) (w':=wd.alloc (.cells #[.int .i64 0,.string ⟨#[]⟩,.string ⟨#[]⟩,.string ⟨#[]⟩,.int .i64 0,.int .i64 0,.slice none 0 0,.slice none 0 0] 33)) rfl (by go_simp) ?_;obtain ⟨wz,hwz⟩:∃wz,wz=wd.alloc (.cells #[.int .i64 0,.string ⟨#[]⟩,.string ⟨#[]⟩,.string ⟨#[]⟩,.int .i64 0,.int .i64 0,.slice none 0 0,.slice none 0 0] 33):=⟨_,rfl⟩;have oD:Hid (Below w3.heap.size w3 wz):=aD (by rw [hwz];exact aj bM.out _);obtain ⟨Q,hQ⟩:∃Q,Q=wd.heap.size:=⟨_,rfl⟩;have mY:Hid (wz.heap[Q]?=some (.cells #[.int .i64 0,.string ⟨#[]⟩,.string ⟨#[]⟩,.string ⟨#[]⟩,.int .i64 0,.int .i64 0,.slice none 0 0,.slice none 0 0] 33 (0,0))/\Q<wz.heap.size/\w3.heap.size<=Q):=aD ⟨by rw [hwz,hQ];exact heap_alloc_new _ _,by rw [hwz,hQ];simp,by rw [hQ];exact bM.out.size⟩;rw [<-hwz,<-hQ];clear hwz hQ;have Gf:=HS.out _ oD.out;refine ⟨fun _=>Gf,?_⟩;refine aC ?_;refine bD 6 (some 22) rfl rfl (by kernel_rfl) (by rfl) (by go_simp) (HBt.out _ oD.out) ?_;rintro e w4 ⟨yg,yh,rfl,hown,hb⟩;have yj:=aD (au oD.out hb);have QZ:=aD (aB.lower hown (oD.out.size));have hbx:=aD hb;clear hown hb;have Yf:=HS.out _ yj.out;refine ⟨_,rfl,Yf,?_⟩;refine aC ?_;have oH:=aD (QY mY.out hbx.out);refine bD 8 (some 24) rfl rfl (by kernel_rfl) (by rfl) (by go_simp) (HBu.out _ yj.out) ?_;rintro e w5 ⟨yu,yw,rfl,hown,hb⟩;have zS:=aD (au yj.out hb);have OI:=aD (aB.lower hown (yj.out.size));have OJ:=aD (aB.below QZ.out hb (aG _));have hbx:=aD hb;clear hown hb;have OL:=HS.out _ zS.out
   refine ⟨_,rfl,OL,?_⟩;refine aC ?_;have tQ:=aD (QY oH.out hbx.out);refine aL 9 [11] (some 25) rfl rfl ?_;have g0:w5.cell? ⟨Q,0,none⟩=some (.int .i64 0):=by simp [Ck,tQ.out.1]
   have g1:w5.cell? ⟨Q,1,none⟩=some (.string ⟨#[]⟩):=by simp [Ck,tQ.out.1]
   have g2:w5.cell? ⟨Q,2,none⟩=some (.string ⟨#[]⟩):=by simp [Ck,tQ.out.1]
   have g3:w5.cell? ⟨Q,3,none⟩=some (.string ⟨#[]⟩):=by simp [Ck,tQ.out.1]
   have g4:w5.cell? ⟨Q,4,none⟩=some (.int .i64 0):=by simp [Ck,tQ.out.1]
   have g5:w5.cell? ⟨Q,5,none⟩=some (.int .i64 0):=by simp [Ck,tQ.out.1]
   have g6:w5.cell? ⟨Q,6,none⟩=some (.slice none 0 0):=by simp [Ck,tQ.out.1]
   have g7:w5.cell? ⟨Q,7,none⟩=some (.slice none 0 0):=by simp [Ck,tQ.out.1]
   have f0:w5.frozen? ⟨Q,0,none⟩=false:=by simp [EJ,tQ.out.1]
   have f1:w5.frozen? ⟨Q,1,none⟩=false:=by simp [EJ,tQ.out.1]
   have f2:w5.frozen? ⟨Q,2,none⟩=false:=by simp [EJ,tQ.out.1]
   have f3:w5.frozen? ⟨Q,3,none⟩=false:=by simp [EJ,tQ.out.1]
   have f4:w5.frozen? ⟨Q,4,none⟩=false:=by simp [EJ,tQ.out.1]
   have f5:w5.frozen? ⟨Q,5,none⟩=false:=by simp [EJ,tQ.out.1]
   have f6:w5.frozen? ⟨Q,6,none⟩=false:=by simp [EJ,tQ.out.1]
   have f7:w5.frozen? ⟨Q,7,none⟩=false:=by simp [EJ,tQ.out.1]
   refine je 11 none (w':=?_) rfl rfl (by kernel_rfl) (by rfl) ?_ (zL (by kernel_rfl)) ?_
   rotate_left
   ·(go_simp;try with_reducible rfl)
   refine aC ?_;refine bG (by kernel_rfl) ?_ _;have HQ:=Ao zS OJ OI tQ v0.lb;obtain ⟨w6,nD⟩:∃w6,w6=zQ w5 Q v0.lb yg (aH t).length yh yu (aH u).length yw:=⟨_,rfl⟩;rw [<-nD] at HQ;unfold zQ at nD;rw [<-nD];clear nD g0 f0 g1 f1 g2 f2 g3 f3 g4 f4 g5 f5 g6 f6 g7 f7
   try clear U8
   try clear HUz
   try clear OJ
   try clear OI
   try clear QZ
   try clear tQ
   try clear oH
   try clear mY
   exact HT.out yg yh yu yw Q w6 HQ
 case t=>
  intro yg yh yu yw Q w6 HQ;have Q0:=aD (au HB3.out HQ.out.b);have HO6:=aD (aB.below UK.out HQ.out.b (aG _));have ai0:Hid (gV w6 w2.heap.size (some ⟨g3,0,none⟩) c3 (v0::vt)):=aD (by have:=HO6.out;rwa [OH.out] at this);obtain ⟨f1,f2,f3⟩:=aB.Yd ai0.out ⟨#[]⟩;have F3:=aD f3;clear f3;go_upto_region 6 with fail
  obtain ⟨w7,hw7⟩:∃w7,w7=w6.setCell ⟨g3,1,none⟩ (.string ⟨#[]⟩):=⟨_,rfl⟩;rw [<-hw7] at F3 ⊢;have Ai:Fr (fun q=>q=g3) w6 w7:=by rw [hw7];exact dY _ _ _ _
  have HQ7:Hid (w7.heap[Q]?=some (.cells #[.int .i64 14,.string v0.lb,.string ⟨#[]⟩,.string ⟨#[]⟩,.int .i64 0,.int .i64 0,.slice yg (aH t).length yh,.slice yu (aH u).length yw] 33 (0,0))):=aD ((Ai.block Q (Array.getElem?_eq_some_iff.1 HQ.out.q).1 (by have:=HQ.out.z;omega)).trans HQ.out.q);have HT7:Hid (dK w7 w3.heap.size yg yh (aH t)/\dK w7 w3.heap.size yu yw (aH u)):=aD ⟨aB.fr HQ.out.T Ai fun a ha e=>by have:=(aB.lt HQ.out.T a ha).1;omega,aB.fr HQ.out.U Ai fun a ha e=>by have:=(aB.lt HQ.out.U a ha).1;omega⟩;have iR:Hid (Below w.heap.size w w7):=aD (Fr.toBelow (Fr.new (Fr.below Q0.out:Fr (fun _=>False) w w6) Ai fun b e=>.inr (by rw [e];exact Nat.le_trans HB2.out.size hg3)) fun k e=>e.elim);have ai2:Hid (Below w2.heap.size w2 w7):=aD (Fr.toBelow (Fr.new (Fr.below (au aiY.out HQ.out.b):Fr (fun _=>False) w2 w6) Ai fun b e=>.inr (by rw [e];exact hg3)) fun k e=>e.elim)
  obtain ⟨q0,q1,q2,q3,q4,q5,q6,q7⟩:w7.cell? ⟨Q,0,none⟩=some (.int .i64 14)/\w7.cell? ⟨Q,1,none⟩=some (.string v0.lb)/\w7.cell? ⟨Q,2,none⟩=some (.string ⟨#[]⟩)/\w7.cell? ⟨Q,3,none⟩=some (.string ⟨#[]⟩)/\w7.cell? ⟨Q,4,none⟩=some (.int .i64 0)/\w7.cell? ⟨Q,5,none⟩=some (.int .i64 0)/\w7.cell? ⟨Q,6,none⟩=some (.slice yg (aH t).length yh)/\w7.cell? ⟨Q,7,none⟩=some (.slice yu (aH u).length yw):=by
   refine ⟨?_,?_,?_,?_,?_,?_,?_,?_⟩<;>simp [Ck,HQ7.out]
  obtain ⟨w8,hw8⟩:∃w8,w8=w7.alloc (.cells #[.int .i64 14,.string v0.lb,.string ⟨#[]⟩,.string ⟨#[]⟩,.int .i64 0,.int .i64 0,.slice yg (aH t).length yh,.slice yu (aH u).length yw] 33):=⟨_,rfl⟩;obtain ⟨w9,zC⟩:∃w9,w9=w8.alloc (.cells #[.slice (some ⟨w7.heap.size,0,none⟩) 1 1,.slice (some ⟨g3,0,none⟩) es.length c3] 24):=⟨_,rfl⟩;have Lu:w8.heap.size=w7.heap.size+1:=by rw [hw8];exact Er _ _
  have Yg:w9.heap.size=w8.heap.size+1:=by rw [zC];exact Er _ _
  have OM:Hid (Below w7.heap.size w7 w9):=aD (by rw [zC,hw8];exact aj (aj (aF _ _) _) _)
  have HCt:Hid (Calls Tryz.prog 83 #[.slice (some ⟨w8.heap.size,0,none⟩) 2 2] w9 fun e w'=>∃A' cap',e= .returned (.slice A' (toM es t u).length cap')/\gV w' w9.heap.size A' cap' (⟨14,v0.lb,⟨#[]⟩,⟨#[]⟩,0,0,yg,(aH t).length,yh,yu,(aH u).length,yw⟩::{v0 with lb:=⟨#[]⟩}::vt)/\Below w9.heap.size w9 w'):=aD (by
   have Yi:(v0::vt).length=es.length:=by rw [<-OH.out];exact HV.out.1.1
   have hn9:(toM es t u).length=es.length+1:=by rw [HT.out];cases es<;>simp [gP]
   refine (BF (some ⟨w8.heap.size,0,none⟩) 2 [(some ⟨w7.heap.size,0,none⟩,1,1),(some ⟨g3,0,none⟩,es.length,c3)] [[⟨14,v0.lb,⟨#[]⟩,⟨#[]⟩,0,0,yg,(aH t).length,yh,yu,(aH u).length,yw⟩],{v0 with lb:=⟨#[]⟩}::vt] w9 ?_ ?_ (by simp) (by simp at Yi ⊢;omega)).mono ?_
   ·rw [zC,Er]
    exact OG w8 _ _
   ·refine ⟨rfl,fun i v xs hv hx=>?_⟩
    match i,hv,hx with
    |0,hv,hx=>
     simp at hv hx;subst hv hx;refine ⟨rfl,?_⟩;rw [Yg,Lu,zC];refine (bf.below (B:=w7.heap.size+1) ?_ (Below.alloc (aF _ _) (by omega) _)).more (by omega);rw [hw8]
     exact QU w7 ⟨14,v0.lb,⟨#[]⟩,⟨#[]⟩,0,0,yg,(aH t).length,yh,yu,(aH u).length,yw⟩
    |1,hv,hx=>
     simp at hv hx;subst hv hx;refine ⟨by simpa using Yi.symm,?_⟩
     exact (bf.below (aB.read iT F3.out) OM.out).more OM.out.size
    |i+2,hv,_=>simp at hv
   ·rintro e w' ⟨A',c',rfl,h1,h2⟩
    refine ⟨A',c',?_,by simpa using h1,h2⟩;rw [hn9];simp at Yi ⊢;omega)
  have Hw9:=aD zC;clear hw7 Ai f1 f2 Yg;go_wp2_with fail;rw [<-hw8,<-Lu,<-zC];clear hw8 zC Lu q0 q1 q2 q3 q4 q5 q6 q7;refine HCt.out.mono ?_;rintro e dA ⟨Bv,c10,rfl,Lv,yx⟩
  have HR:Hid (Yc Y (toM es t u) w (.returned (.slice Bv (toM es t u).length c10)) dA):=aD (by
   have abY:Below w2.heap.size w2 dA:=au ai2.out (au OM.out yx);have abZ:Below w7.heap.size w7 dA:=au OM.out yx;have hba:Below w.heap.size w dA:=au HB2.out abY;refine ⟨hba,Bv,c10,rfl,_,uJ.own Lv (fun q hq=>by have:=KZ.out.2.2.2 q hq;have:=iR.out.size;have:=OM.out.size;omega),?_,?_⟩
   ·rw [HT.out]
    have hpm:dO dA Y (v0::vt) es:=by rw [<-OH.out];exact HV.out.1.fr (Fr.below abY:Fr Y w2 dA) fun q hq=>.inl hq
    have hY3:∀q,Y q->q<w3.heap.size:=fun q hq=>by have:=KZ.out.2.2.2 q hq;have:=HB3.out.size;omega
    cases es with
    |nil=>exact absurd rfl KZ.out.1
    |cons y0 ps=>
     have k0:=hpm.2 0 v0 y0 rfl rfl;refine dO.cons ⟨rfl,k0.lb,rfl,rfl,rfl,rfl,rfl,rfl,aA.own (aB.below HT7.out.1 abZ (aG _)) hY3,aA.own (aB.below HT7.out.2 abZ (aG _)) hY3⟩ (dO.cons ⟨k0.k,rfl,k0.nm,k0.bd,k0.mn,k0.num,k0.tn,k0.un,k0.T,k0.U⟩ ⟨by have:=hpm.1;simpa using this,fun i v p hv hp=>hpm.2 (i+1) v p hv hp⟩)
   ·have hl1:=aB.l7 Lv
    have Yi:(v0::vt).length=es.length:=by rw [<-OH.out];exact HV.out.1.1
    have hn9:(toM es t u).length=es.length+1:=by rw [HT.out];cases es<;>simp [gP]
    simp at hl1 Yi;omega)
  clear Lv yx;go_wp2_with fail;go_ret;exact HR.out
end Go.Proofs.YtmjdhfbnmmdjiaaGreat
