/- Laid together by a tool from the texts of this seat: AgA AgB AgC PxV. Conditions: each theorem's own. -/
import Derived.Test.YtmjdhfbnmmdjiaaGreatH31
import Derived.Test.YtmjdhfbnmmdjiaaGreatH06
import Derived.Test.YtmjdhfbnmmdjiaaGreatH38
set_option maxHeartbeats 8000000
set_option maxRecDepth 100000
namespace Go.Proofs.YtmjdhfbnmmdjiaaGreat
open Go.Lib renaming hid->aB
open Go.Value renaming slice->gq
open _root_.And renaming intro->DF
open Go.RowKit.Below renaming refl->aI
open _root_.List renaming mem_of_getElem?->O8,take_add_one->yj,append_nil->mO,all_eq_true->qz,mem_append->pU,mem_singleton->abo,take_of_length_le->ji,length_cons->oG,length_map->OX,getElem?_map->Tz,getElem?_append_left->YX,getElem?_append_right->kg,mem_cons->qm
open _root_.Nat renaming le_refl->aK,lt_of_lt_of_le->Yy,zero_le->cu,add_zero->h_
open _root_.Classical renaming byContradiction->aan
open Go.ByteArray renaming toList_eq->dA
open Go.RowKit
def Off (A B:Option Addr):Prop:=∀a b,A=some a->B=some b->a.block≠b.block
theorem Off.symm {A B:Option Addr} (h:Off A B):Off B A:=fun a b ha hb e=>h b a hb ha e.symm
theorem aS.grown {α:Type} {size:Nat} {enc:α->List Value} {w w':World} {B:Nat} {A X:Option Addr} {l:List α} {n c:Nat} (h:aS size enc w B X l) (hB:B<=w.heap.size) (hg:w.grownBy w' ((gq A n c).ownBlock)) (ho:Off A X):aS size enc w' B X l:=fun hne=>by
 obtain ⟨b,o,rfl,hb,hc⟩:=h hne;refine ⟨b,o,rfl,hb,fun i x hx j u hu=>?_⟩
 have hblk:=hg.block b (by omega) (fun e=>by
  obtain ⟨a,ha,hab⟩:=bL e.symm;exact ho a _ ha rfl (by rw [hab]))
 rw [World.cell?_of_block (a:=⟨b,o+i*size+j,none⟩) hblk];exact hc i x hx j u hu
theorem bJ.grown {w w':World} {B:Nat} {A X:Option Addr} {xs:List Nd} {n c:Nat} (h:bJ w B X xs) (hB:B<=w.heap.size) (hg:w.grownBy w' ((gq A n c).ownBlock)) (ho:Off A X):bJ w' B X xs:=
 aS.eY (aS.grown h.ME hB hg ho)
theorem Off.app {A A' X:Option Addr} {n c n' c' N:Nat} (h:Off A X) (hA:(gq A' n' c').ownBlock=(gq A n c).ownBlock\/(gq A' n' c').ownBlock=some N) (hX:∀x,X=some x->x.block<N):Off A' X:=fun a x ha hx e=>by
 subst ha hx;rcases hA with hA|hA
 ·obtain ⟨b,hb,hbe⟩:=bL (hA.symm.trans (show (gq (some a) n' c').ownBlock=some a.block from rfl))
  exact h b x hb rfl (by rw [hbe,e])
 ·have:a.block=N:=by simpa [Value.ownBlock] using hA
  have:=hX x rfl;omega
theorem Aj {α:Type} {e size base n c:Nat} {enc:α->List Value} {A X:Option Addr} {cap:Nat} {l:List α} {w w':World} (h:ay e size enc w base X cap l) (hg:w.grownBy w' ((gq A n c).ownBlock)) (ho:Off A X):ay e size enc w' base X cap l:=
 ay.kept h hg fun k hk a ha e2=>by
  obtain ⟨b,hb,hbe⟩:=bL hk;exact ho b a hb ha (by rw [hbe,e2])
theorem below_app {w w':World} {B n c:Nat} {A:Option Addr} (hg:w.grownBy w' ((gq A n c).ownBlock)) (hB:B<=w.heap.size) (hA:∀a,A=some a->B<=a.block):Below B w w':=
 (aI B w).grown hg hB fun k hk=>by
  obtain ⟨a,ha,hab⟩:=bL hk;rw [<-hab];exact hA a ha
section
variable {w:World} {ops:Array Oper} {rest:List Oper} {o:Oper} {a:Act} {Q:Exit->Act->World->Prop}
theorem KE (hgd:o.guard=none) (s x:Operand)
  (ho:o.op= .call {callee:=.builtin .append,args:=#[s,x],argTypes:=#[39,39]})
  (base:Nat) {A:Option Addr} {cap:Nat} {l:List ByteArray} (hs:a.eval s= .slice A l.length cap) (hown:dG w base A cap l) {B:Nat} {A2:Option Addr} {c:Nat} {l2:List ByteArray} (hx:a.eval x= .slice A2 l2.length c) (hr:p9 w B A2 l2)
  (hlen:l.length+l2.length<=10000000) (hbase:base<=w.heap.size)
  (h:∀A' cap' w',dG w' base A' cap' (l++l2)->w.grownBy w' ((gq A l.length cap).ownBlock)->
   ((gq A' (l.length+l2.length) cap').ownBlock=(gq A l.length cap).ownBlock\/(gq A' (l.length+l2.length) cap').ownBlock=some w.heap.size)->wpList Tryz.prog ops Q rest (a.put o.dst (.slice A' (l.length+l2.length) cap')) w'):wpList Tryz.prog ops Q (o::rest) a w:=by
 obtain ⟨i0,hi,hz0,hz1,hz2⟩:=info_parts GL;exact mV w jA DZ hgd s x 39 ho base 9 i0 _ 16 Tryz.underlying39 hi hz0 hz1 hz2 rfl (by decide) hs hown hx hr (by unfold maxLen;omega) (by omega) hbase h
end
structure Ci (w0:World) (A0:Option Addr) (T:List Nd) (K:Option Addr) (ck:Nat) (kl:List Int) (V:Option Addr) (cv:Nat) (vs:List (Option Addr×Nat×Nat)) (ps:List (List Nd)) (L:Option Addr) (cl:Nat) (ls:List ByteArray) (w:World):Prop where
 ext:Below w0.heap.size w0 w
 t:bJ w w0.heap.size A0 T
 k:eX w w0.heap.size K ck kl
 v:iA w w0.heap.size V cv vs
 l:dG w w0.heap.size L cl ls
 s:RV w w.heap.size vs ps
 b:∀q∈vs,∀a,q.1=some a->a.block<w.heap.size
 vl:Off V L
 vk:Off V K
 lk:Off L K
 ov:∀q∈vs,Off V q.1
 ol:∀q∈vs,Off L q.1
section
variable {w0 w w':World} {A0 K V V' L L' Aq:Option Addr} {T P:List Nd} {ck cv cv' cl cl' cq n':Nat} {kl:List Int} {vs:List (Option Addr×Nat×Nat)} {ps:List (List Nd)} {ls:List ByteArray} {s:ByteArray}
theorem Ci.step (h:Ci w0 A0 T K ck kl V cv vs ps L cl ls w) (hb:Below w.heap.size w w'):Ci w0 A0 T K ck kl V cv vs ps L cl ls w' where
 ext:=ah h.ext hb
 t:=h.t.below (hb.mono h.ext.size)
 k:=h.k.below hb (aK _)
 v:=h.v.below hb (aK _)
 l:=h.l.below hb (aK _)
 s:=⟨h.s.1,fun i q xs hq hx=>⟨(h.s.2 i q xs hq hx).1,((h.s.2 i q xs hq hx).2.below hb).more hb.size⟩⟩
 b:=fun q hq a ha=>Yy (h.b q hq a ha) hb.size
 vl:=h.vl
 vk:=h.vk
 lk:=h.lk
 ov:=h.ov
 ol:=h.ol
structure JN (w:World) (V L Aq:Option Addr) (P:List Nd):Prop where
 t:bJ w w.heap.size Aq P
 ov:Off V Aq
 ol:Off L Aq
 b:∀a,Aq=some a->a.block<w.heap.size
theorem JN.step (h:JN w V L Aq P) (hb:Below w.heap.size w w'):JN w' V L Aq P:=
 ⟨(h.t.below hb).more hb.size,h.ov,h.ol,fun a ha=>Yy (h.b a ha) hb.size⟩
theorem Ci.part (h:Ci w0 A0 T K ck kl V cv vs ps L cl ls w) (ho:dF w' w.heap.size Aq cq P):JN w' V L Aq P:=
 ⟨ay.eY ho,fun a b ha hb e=>by have h1:=(ay.lt h.v a ha).2;have h2:=(ay.lt ho b hb).1;omega,fun a b ha hb e=>by have h1:=(ay.lt h.l a ha).2;have h2:=(ay.lt ho b hb).1;omega,fun a ha=>(ay.lt ho a ha).2⟩
theorem Ci.ani (h:Ci w0 A0 T K ck kl V cv vs ps L cl ls w) (hp:JN w V L Aq P) (hg:w.grownBy w' ((gq V vs.length cv).ownBlock)) (ho:iA w' w0.heap.size V' cv' (vs++[(Aq,P.length,cq)]))
  (hA:(gq V' n' cv').ownBlock=(gq V vs.length cv).ownBlock\/(gq V' n' cv').ownBlock=some w.heap.size):Ci w0 A0 T K ck kl V' cv' (vs++[(Aq,P.length,cq)]) (ps++[P]) L cl ls w' where
 ext:=iB h.ext hg fun k hk=>(ay.block h.v k hk).1
 t:=h.t.below (below_app hg h.ext.size fun a ha=>(ay.lt h.v a ha).1)
 k:=Aj h.k hg h.vk
 v:=ho
 l:=Aj h.l hg h.vl
 s:=⟨by simp [h.s.1],fun i q xs hq hx=>by
  by_cases hi:i<vs.length
  ·rw [YX hi] at hq
   rw [YX (by rw [<-h.s.1];exact hi)] at hx;obtain ⟨h1,h2⟩:=h.s.2 i q xs hq hx;exact ⟨h1,(h2.grown (aK _) hg (h.ov q (O8 hq))).more hg.size⟩
  ·rw [kg (by omega)] at hq
   rw [kg (by rw [<-h.s.1];omega),<-h.s.1] at hx;have hi0:i-vs.length=0:=by have:=aP hq;simpa using this
   rw [hi0] at hq hx;simp at hq hx;subst hq hx;exact ⟨rfl,(hp.t.grown (aK _) hg hp.ov).more hg.size⟩⟩
 b:=fun q hq a ha=>by
  rcases pU.1 hq with hq|hq
  ·exact Yy (h.b q hq a ha) hg.size
  ·rw [abo.1 hq] at ha
   exact Yy (hp.b a ha) hg.size
 vl:=h.vl.app hA fun x hx=>(ay.lt h.l x hx).2
 vk:=h.vk.app hA fun x hx=>(ay.lt h.k x hx).2
 lk:=h.lk
 ov:=fun q hq=>by
  rcases pU.1 hq with hq|hq
  ·exact (h.ov q hq).app hA (h.b q hq)
  ·rw [abo.1 hq]
   exact hp.ov.app hA hp.b
 ol:=fun q hq=>by
  rcases pU.1 hq with hq|hq
  ·exact h.ol q hq
  ·rw [abo.1 hq]
   exact hp.ol
theorem Ci.anj (h:Ci w0 A0 T K ck kl V cv vs ps L cl ls w) (hg:w.grownBy w' ((gq L ls.length cl).ownBlock)) (ho:dG w' w0.heap.size L' cl' (ls++[s]))
  (hA:(gq L' n' cl').ownBlock=(gq L ls.length cl).ownBlock\/(gq L' n' cl').ownBlock=some w.heap.size):Ci w0 A0 T K ck kl V cv vs ps L' cl' (ls++[s]) w' where
 ext:=iB h.ext hg fun k hk=>(ay.block h.l k hk).1
 t:=h.t.below (below_app hg h.ext.size fun a ha=>(ay.lt h.l a ha).1)
 k:=Aj h.k hg h.lk
 v:=Aj h.v hg h.vl.symm
 l:=ho
 s:=⟨h.s.1,fun i q xs hq hx=>⟨(h.s.2 i q xs hq hx).1,((h.s.2 i q xs hq hx).2.grown (aK _) hg (h.ol q (O8 hq))).more hg.size⟩⟩
 b:=fun q hq a ha=>Yy (h.b q hq a ha) hg.size
 vl:=(h.vl.symm.app hA fun x hx=>(ay.lt h.v x hx).2).symm
 vk:=h.vk
 lk:=h.lk.app hA fun x hx=>(ay.lt h.k x hx).2
 ov:=h.ov
 ol:=fun q hq=>(h.ol q hq).app hA (h.b q hq)
end
theorem JO {T:List Nd}:∀(sO:List (List Nd)) (at_:Nat) (rest:List Nd),T.drop at_=sO.flatten++rest->(∀z∈sO,Fo 1 z/\bC z)->
  (aV T sO.length at_).length=sO.length/\∀(j:Nat) (ts:List Nd),sO[j]?=some ts->∃p r2,(aV T sO.length at_)[j]?=some p/\T.drop p=ts++r2
 |[],_,_,_,_=>⟨rfl,fun j ts h=>by simp at h⟩
 |z::zs,at_,rest,hd,h1=>by
  rw [List.flatten_cons,List.append_assoc] at hd;obtain ⟨hz1,hz2⟩:=h1 z (by simp);have hlt:=lC hd hz1.pos;obtain ⟨i1,i2⟩:=JO zs (at_+z.length) rest (iD hd) fun y hy=>h1 y (by simp [hy]);rw [oG,eH hlt,iY hd hz2 hz1];refine ⟨by rw [oG,i1],fun j ts h=>?_⟩
  cases j with
  |zero=>
   simp at h;subst h
   exact ⟨at_,_,rfl,hd⟩
  |succ j=>
   obtain ⟨p,r2,e1,e2⟩:=i2 j ts (by simpa using h);exact ⟨p,r2,by simpa using e1,e2⟩
theorem RV.UN {w w':World} {vs:List (Option Addr×Nat×Nat)} {sO:List (List Nd)} {B:Nat} (h:RV w B vs sO) (hb:Below B w w') (hB:B<=w'.heap.size):RV w' w'.heap.size vs sO:=⟨h.1,fun i v xs hv hx=>⟨(h.2 i v xs hv hx).1,((h.2 i v xs hv hx).2.below hb).more hB⟩⟩
def kR (sO:List (List Nd)):List ByteArray:=sO.map fun t=>(aD t).s
theorem rF (l:List (List Nd)):(kR l).length=l.length:=by simp [kR]
theorem bJ.cells {w:World} {B b1 o1:Nat} {xs:List Nd} (h:bJ w B (some ⟨b1,o1,none⟩) xs) {i:Nat} {x:Nd} (hx:xs[i]?=some x):
  b1<B/\w.cell? ⟨b1,o1+i*3,none⟩=some (.int .i64 x.k)/\w.cell? ⟨b1,o1+i*3+1,none⟩=some (.string x.s)/\w.cell? ⟨b1,o1+i*3+2,none⟩=some (.int .i64 x.n):=by
 obtain ⟨b,o,e,h1,h2,h3,h4⟩:=h.at_ hx;injection e with e
 injection e with e1 e2
 subst e1 e2;exact ⟨h1,h2,h3,h4⟩
theorem Yu {α:Type} {f:α->Bool} {l:List α} {i:Nat} {x:α} (h:l[i]?=some x) (h1:(l.take i).all f=true) (h2:f x=true):(l.take (i+1)).all f=true:=by
 rw [yj,h,List.all_append,h1];simp [h2]
theorem adE {α:Type} {f:α->Bool} {l:List α} {i:Nat} {x:α} (h:l[i]?=some x) (h2:f x=false):l.all f=false:=by
 rw [List.all_eq_false];exact ⟨x,O8 h,by simp [h2]⟩
def oC:Nat->List Nd->List Nd->Bool
 |0,_,_=>false
 |f+1,a,b=>if (aD a).k=0\/(aD b).k=0 then true else if (aD a).k≠(aD b).k then false else
   decide (kR (aW a)=kR (aW b))&&((aW a).zip (aW b)).all fun p=>oC f p.1 p.2
theorem vD {t:List Nd}:aW (eO t)=aW t/\(aD (eO t)).k=(aD t).k:=by
 cases t with
 |nil=>exact ⟨rfl,rfl⟩
 |cons x ks=>exact ⟨rfl,rfl⟩
theorem Yv:∀(f:Nat) (a b:List Nd),oC f (eO a) (eO b)=oC f a b
 |0,_,_=>rfl
 |f+1,a,b=>by
  unfold oC;rw [vD.1,vD.1,vD.2,vD.2]
theorem xV {a t:List Nd} (h:t∈aW a):t.length<a.length:=by
 cases a with
 |nil=>simp [aW] at h
 |cons x ks=>
  have:=xP (manyN x) ks t h;simp only [oG];omega
theorem Ak {a t:List Nd} (ha:Fo 1 a) (h:t∈aW a):Fo 1 t:=by
 cases a with
 |nil=>simp [aW] at h
 |cons x ks=>
  obtain ⟨k1,rs,e,h1,h2⟩:=ha.rA;rw [h2.fK,mO] at e;subst e;exact (zY h1).one t h
theorem Yw:∀(f g:Nat) (a b:List Nd),a.length<=f->a.length<=g->Fo 1 a->oC f a b=oC g a b:=by
 intro f
 induction f with
 |zero=>intro g a b h _ h0;have:=h0.pos;omega
 |succ f ih=>
  intro g a b hf hg h0;obtain ⟨g,rfl⟩:∃g',g=g'+1:=⟨g-1,by have:=h0.pos;omega⟩;unfold oC;split
  ·rfl
  ·split
   ·rfl
   ·congr 1
    have:∀p∈(aW a).zip (aW b),oC f p.1 p.2=oC g p.1 p.2:=fun p hp=>by
     have h1:=(List.of_mem_zip hp).1;have h2:=xV h1;exact ih g p.1 p.2 (by omega) (by omega) (Ak h0 h1)
    rw [Bool.eq_iff_iff,qz,qz];exact ⟨fun h p hp=>by rw [<-this p hp];exact h p hp,fun h p hp=>by rw [this p hp];exact h p hp⟩
structure yA (T:List Nd):Prop where
 fo:Fo 1 T
 ok:bC T
theorem yA.kid {T t:List Nd} (h:yA T) (ht:t∈aW T):yA t:=by
 refine ⟨Ak h.fo ht,fun y hy=>h.ok y ?_⟩
 cases T with
 |nil=>simp [aW] at ht
 |cons x ks=>
  obtain ⟨k1,rs,e,h1,h2⟩:=h.fo.rA;rw [h2.fK,mO] at e;subst e;have:=(zY h1).flat;refine List.mem_cons_of_mem _ ?_;rw [<-this];exact List.mem_flatten.2 ⟨t,ht,hy⟩
theorem yA.bare {T:List Nd} (h:yA T):yA (eO T):=by
 cases T with
 |nil=>exact h
 |cons x ks=>exact ⟨h.fo,fun y hy=>by
   rcases qm.1 hy with rfl|hy
   ·exact h.ok x (by simp)
   ·exact h.ok y (by simp [hy])⟩
theorem yA.ab9 {T:List Nd} (h:yA T):(aW T).length<=50:=by
 cases T with
 |nil=>exact cu _
 |cons x ks=>
  obtain ⟨k1,rs,e,h1,h2⟩:=h.fo.rA;rw [h2.fK,mO] at e;subst e;have:=(zY h1).len;show (bA (manyN x) ks).length<=50;rw [this];exact oZ (h.ok x (by simp))
theorem RA {x:Nd} {ks:List Nd}:eu (x::ks) 0=aV (x::ks) (manyN x) 1:=rfl
def VW (T:List Nd) (w:World) (e:Ending) (w':World):Prop:=
 ∃(V:Option Addr) (cv:Nat) (vs:List (Option Addr×Nat×Nat)) (L:Option Addr) (cl:Nat),e= .returned (.tuple #[.slice V vs.length cv,.slice L (aW T).length cl])/\jV w' w'.heap.size V vs/\RV w' w'.heap.size vs ((aW T).map eO)/\p9 w' w'.heap.size L (kR (aW T))/\(∀v∈vs,v.2.1<=v.2.2)/\Below w.heap.size w w'
theorem vE (A:Option Addr) (c:Nat) (T:List Nd) (w:World) (ha:bJ w w.heap.size A T) (hT:yA T) (hl:T.length<=5000000) (hc:T.length<=c):
  Calls Tryz.prog 40 #[.slice A T.length c] w (VW T w):=by
 obtain ⟨x,ks,rfl⟩:∃x ks,T=x::ks:=by
  have:=hT.fo.pos
  cases T with
  |nil=>simp at this
  |cons x ks=>exact ⟨x,ks,rfl⟩
 have htr:Trees (manyN x) ks (aW (x::ks)):=by
  obtain ⟨k1,rs,e,h1,h2⟩:=hT.fo.rA;rw [h2.fK,mO] at e;subst e;exact zY h1
 have h50:(aW (x::ks)).length<=50:=by rw [htr.len];exact oZ (hT.ok x (by simp))
 obtain ⟨q1,q2⟩:=JO (T:=x::ks) (aW (x::ks)) 1 [] (by rw [htr.flat];simp) fun z hz=>⟨Ak hT.fo hz,(hT.kid hz).ok⟩;rw [htr.len] at q1 q2;rw [<-RA] at q1 q2;have hK:=aB fun W (hW:Below w.heap.size w W)=>ET A c (x::ks) 0 W ((ha.below hW).more hW.size) (by omega) hT.ok;have HA:=aB (DF ha hT);have HQ:=aB (DF q1 (DF q2 htr.len));obtain ⟨b1,o1,rfl,hb1,_⟩:=ha (by simp);clear ha hT htr q1 q2;obtain ⟨T,hTd⟩:∃T,T=x::ks:=⟨_,rfl⟩;rw [<-hTd] at HA HQ hK hl hc h50 ⊢;have HTd:=aB hTd;clear hTd;have hown0:=aB (gL 28 1 encS w);have hown1:=aB (gL 9 1 tZ (w.alloc (.cells #[] 28)));have hbe:=aB (au (au (aI w.heap.size w) (.cells #[] 28)) (.cells #[] 9));go_enter Tryz.func40,Tryz.ntmps40;go_wp2_with fail;refine (hK.out _ hbe.out).mono ?_;clear hK;rintro e w1 ⟨K,ck,rfl,hok,hb⟩;have hkl:(cB (eu T 0)).length=(aW T).length:=by rw [cB,OX,HQ.out.1,HQ.out.2.2]
 have S0:Hid (Ci w (some ⟨b1,o1,none⟩) T K ck (cB (eu T 0)) (some ⟨w.heap.size,0,none⟩) 0 [] [] (some ⟨w.heap.size+1,0,none⟩) 0 [] w1):=aB (by
  have h0:=ay.below (ay.alloc hown0.out (.cells #[] 9)) hb (by simp);have h1:=ay.below hown1.out hb (by simp);simp only [World.size_alloc] at h1 hok;refine ⟨ah hbe.out hb,HA.out.1.below (ah hbe.out hb),hok.lower (by omega),h0,h1.lower (by omega),⟨rfl,fun i q xs hq=>by simp at hq⟩,fun q hq=>(by cases hq),?_,?_,?_,fun q hq=>(by cases hq),fun q hq=>(by cases hq)⟩
  ·intro a b ha hb e;injection ha with ha;injection hb with hb;subst ha hb;simp at e
  ·intro a b ha hb e;injection ha with ha;subst ha;have:=(ay.lt hok b hb).1;have e:w.heap.size=b.block:=e;omega
  ·intro a b ha hb e;injection ha with ha;subst ha;have:=(ay.lt hok b hb).1;have e:w.heap.size+1=b.block:=e;omega)
 obtain ⟨kl,ab_⟩:∃kl,kl=cB (eu T 0):=⟨_,rfl⟩;rw [<-ab_] at hkl S0 ⊢;have HKL:=aB (fun (j p:Nat) (h:(eu T 0)[j]?=some p)=>(show kl[j]?=some (p:Int) by rw [ab_,cB,Tz,h];rfl));rw [hkl];clear hkl ab_ hok hb hown0 hown1 hbe;go_wp2_with fail;go_loopw [4,5,7] (fun s4 s5 s7 wr=>∃(k:Nat) (V:Option Addr) (cv:Nat) (vs:List (Option Addr×Nat×Nat)) (L:Option Addr) (cl:Nat) (ls:List ByteArray),s4= .slice V vs.length cv/\s5= .slice L ls.length cl/\s7= .int .i64 k/\k<=(aW T).length/\Hid (vs.length=k/\ls=kR ((aW T).take k)/\ls.length=k)/\Hid (Ci w (some ⟨b1,o1,none⟩) T K ck kl V cv vs (((aW T).take k).map eO) L cl ls wr/\∀v∈vs,v.2.1<=v.2.2)) (fun _ _ s7 _=>(aW T).length-(intOf s7).toNat)
 case atStart=>exact ⟨0,_,0,[],_,0,[],rfl,rfl,rfl,cu _,aB ⟨rfl,rfl,rfl⟩,aB ⟨S0.out,fun v hv=>by cases hv⟩⟩
 case round=>
  clear S0;obtain ⟨k,V,cv,vs,L,cl,ls,rfl,rfl,rfl,hk,HL,M⟩:=hrel;by_cases hp:k<(aW T).length
  ·obtain ⟨ts,hts⟩:=aJ hp
   obtain ⟨p,r2,hkp,hdp⟩:=HQ.out.2.1 k ts hts;have hmem:=O8 hts;have VY:=HA.out.2.kid hmem;obtain ⟨bk,ok,rfl,hbk,hck⟩:=aS.int (ay.read dK M.out.1.k) (HKL.out k p hkp);have hsz:=M.out.1.ext.size;have hpart:=aB (RY (some ⟨b1,o1,none⟩) c T ts r2 p wr (M.out.1.t.more hsz) (by omega) hc hdp VY.ok HA.out.2.ok VY.fo)
   have hyp:T[p]?=some (aD ts):=by
    have:=congrArg (·[0]?) hdp;simp only [List.getElem?_drop,h_] at this;have hpos:=VY.fo.pos;rw [this]
    cases ts with
    |nil=>simp at hpos
    |cons y ys=>rfl
   have Hyp:=aB hyp;have hpT:=aP hyp;have hp0:(0:Int)<=(p:Int):=by omega
   have hp1:(p:Int)<(T.length:Int):=by omega
   have Hts:=aB hts;have HKP:=aB hkp;have hvl:vs.length<=100:=by have:=HL.out.1;omega
   have hll:ls.length<=100:=by have:=HL.out.2.2;omega
   clear hts hkp hdp hmem VY hyp;go_wp2_with fail;refine hpart.out.mono ?_;clear hpart;rintro e w5 ⟨Aq,cq,rfl,hoq,hbq⟩;have hcap:=aB (ay.l5 hoq);have PQ:=aB (M.out.1.part hoq);have S5:=aB (M.out.1.step hbq);obtain ⟨P,hP⟩:∃P,P=eO ts:=⟨_,rfl⟩;rw [<-hP] at PQ hcap ⊢;have HP:=aB hP;have HV:=aB M.out.2;have HKp:=aB (HKL.out k p HKP.out);have arZ:bk<w5.heap.size:=Yy hbk hbq.size;clear hoq hbq hP M hck
   go_wp2_with (first
    |(at_builtin;refine Co rfl (.tmp 18) (.tmp 25) rfl w.heap.size (l:=vs) rfl (ay.alloc S5.out.v _) (l2:=[(Aq,P.length,cq)]) rfl (oK _ (Aq,P.length,cq)) (by simp;omega) (by have:=S5.out.ext.size;simp;omega) ?_;intro V2 cv2 w8 uw XH hA8;have S6:=aB (Ci.ani (S5.out.step (au (aI _ _) _)) (PQ.out.step (au (aI _ _) _)) XH uw hA8);obtain ⟨bk6,ok6,eK,ar0,anm⟩:=aS.int (ay.read dK S6.out.k) HKp.out;injection eK with eK;injection eK with eK1 eK2 _;subst eK1 eK2;obtain ⟨hbT,c10,c11,c12⟩:=(S6.out.t.more S6.out.ext.size).cells Hyp.out;clear uw XH hA8)
    |(at_builtin;refine KE rfl (.tmp 27) (.tmp 36) rfl w.heap.size (l:=ls) rfl (ay.alloc S6.out.l _) (l2:=[(aD ts).s]) rfl (l6 _ (aD ts).s) (by simp;omega) (by have:=S6.out.ext.size;simp;omega) ?_;intro L2 cl2 w9 jK oM JZ;have S7:=aB (Ci.anj (S6.out.step (au (aI _ _) _)) oM jK JZ);clear c10 c11 c12 anm jK oM JZ))
   go_roundw
   case rel=>
    refine ⟨k+1,V2,cv2,vs++[(Aq,P.length,cq)],L2,cl2,ls++[(aD ts).s],by simp,by simp,by go_num,hp,aB ⟨by simp [HL.out.1],?_,by simp [HL.out.2.2]⟩,aB ⟨?_,fun v hv=>?_⟩⟩
    ·rw [HL.out.2.1,yj,Hts.out];simp [kR]
    ·rw [yj,Hts.out,List.map_append]
     have h:=S7.out;rw [HP.out] at h ⊢;exact h
    ·rcases pU.1 hv with hv|hv
     ·exact HV.out v hv
     ·rw [abo.1 hv];exact hcap.out
   case measure=>simp [intOf];omega
  ·have e1:(aW T).take k=aW T:=ji (by omega)
   rw [e1] at HL M;have hkk:Hid (ls.length=(aW T).length):=aB (by have:=HL.out.2.2;omega);go_wp2_with fail;go_ret2;unfold VW;rw [<-hkk.out];refine ⟨V,cv,vs,L,cl,rfl,ay.read jv M.out.1.v,M.out.1.s,?_,M.out.2,M.out.1.ext⟩;rw [<-HL.out.2.1];exact ay.read jA M.out.1.l
theorem acd {l:List ByteArray} {l2:List ByteArray} {i:Nat} {a b:ByteArray} (h1:l[i]?=some a) (h2:l2[i]?=some b) (h:a≠b):l≠l2:=by
 rintro rfl;rw [h1] at h2;injection h2 with h2
 exact h h2
theorem adF {a b:ByteArray} (h:a≠b):(a.toList !=b.toList)=true:=by
 rw [bne_iff_ne];intro e;apply h;rw [dA,dA] at e
 cases a;cases b;simp only at e
 congr
 exact Array.toList_inj.1 e
theorem uI (w:World) (n:Nat):Below w.heap.size w (w.drewN n):=((Fr.refl (fun _=>False) w).drewN n).toBelow fun _ e=>e.elim
def tq (a b:List Nd):Bool:=decide ((aD a).k=(aD b).k)&&decide (kR (aW a)=kR (aW b))
theorem UO (A B:Option Addr) (c d:Nat) (a b:List Nd) (w:World) (ha:bJ w w.heap.size A a) (hb:bJ w w.heap.size B b) (ta:yA a) (tb:yA b) (la:a.length<=5000000) (lb:b.length<=5000000) (lc:a.length<=c) (ld:b.length<=d):
  Calls Tryz.prog 39 #[.slice A a.length c,.slice B b.length d] w fun e w'=>e= .returned (.bool (tq a b))/\Below w.heap.size w w':=by
 have hxa:a[0]?=some (aD a):=by
  have:=ta.fo.pos
  cases a with
  |nil=>simp at this
  |cons x ks=>rfl
 have hxb:b[0]?=some (aD b):=by
  have:=tb.fo.pos
  cases b with
  |nil=>simp at this
  |cons x ks=>rfl
 have ka:=aB fun W (hW:Below w.heap.size w W)=>vE A c a W ((ha.below hW).more hW.size) ta la lc;have kb:=aB fun W (hW:Below w.heap.size w W)=>vE B d b W ((hb.below hW).more hW.size) tb lb ld;have h50:=ta.ab9;have p1:=aP hxa;have p2:=aP hxb;obtain ⟨b1,o1,rfl,hb1,c10,_,_⟩:=ha.at_ hxa;obtain ⟨b2,o2,rfl,hb2,Rn,_,_⟩:=hb.at_ hxb;simp only [Nat.zero_mul,h_] at c10 Rn;clear ha hb ta tb hxa hxb;go_enter Tryz.func39,Tryz.ntmps39
 cases hk:((aD a).k !=(aD b).k) with
 |true=>
  have HK:Hid ((aD a).k≠(aD b).k):=aB (by simpa using hk);go_wp2_with fail;go_quiet (fail);go_wp2_with fail;go_ret
  exact ⟨aO (by unfold tq;rw [decide_eq_false HK.out];rfl),uI _ _⟩
 |false=>
  have HK:Hid ((aD a).k=(aD b).k):=aB (by simpa using hk);have HAB:Hid (tq a b=decide (kR (aW a)=kR (aW b))):=aB (by unfold tq;rw [decide_eq_true HK.out];rfl);go_wp2_with fail;go_quiet (fail);go_wp2_with fail;refine (ka.out _ (uI _ _)).mono ?_;clear ka;rintro e w1 ⟨V1,cv1,vs1,L1,cl1,rfl,r1,s1,l1,q1,hb⟩;have G1:=aB (DF (ah (uI _ _) hb) l1);clear r1 s1 l1 q1 hb;go_wp2_with fail;refine (kb.out _ G1.out.1).mono ?_;clear kb;rintro e w2 ⟨V2,cv2,vs2,L2,cl2,rfl,r2,s2,l2,q2,hb⟩;have G2:=aB (DF (ah G1.out.1 hb) (DF ((aS.below G1.out.2 hb).more hb.size) l2));clear r2 s2 l2 q2 hb c10 Rn;obtain ⟨JQ,hla⟩:∃l,l=kR (aW a):=⟨_,rfl⟩;obtain ⟨KF,hlb⟩:∃l,l=kR (aW b):=⟨_,rfl⟩;have ea:(aW a).length=JQ.length:=by rw [hla,rF]
  have eb:(aW b).length=KF.length:=by rw [hlb,rF]
  rw [<-hla,<-hlb] at G2 HAB;rw [ea] at h50;rw [ea,eb];clear hla hlb ea eb
  cases hn:((JQ.length:Int) !=(KF.length:Int)) with
  |true=>
   have HN:Hid (JQ.length≠KF.length):=aB (by
    have h:(JQ.length:Int)≠(KF.length:Int):=by simpa using hn
    omega)
   go_wp2_with fail;go_ret
   exact ⟨aO (by rw [HAB.out,decide_eq_false (fun e=>HN.out (by rw [e]))]),G2.out.1⟩
  |false=>
   have HN:Hid (JQ.length=KF.length):=aB (by
    have h:(JQ.length:Int)=(KF.length:Int):=by simpa using hn
    omega)
   go_wp2_with fail;go_loopw [9] (fun s9 wr=>∃i:Nat,s9= .int .i64 i/\i<=JQ.length/\Hid (Below w2.heap.size w2 wr/\JQ.take i=KF.take i)) (fun s9 _=>JQ.length-(intOf s9).toNat)
   case atStart=>exact ⟨0,rfl,cu _,aB ⟨aI _ _,rfl⟩⟩
   case round=>
    obtain ⟨i,rfl,hi,M⟩:=hrel;by_cases hp:i<JQ.length
    ·obtain ⟨x,hx⟩:=aJ hp
     obtain ⟨y,hy⟩:=aJ (show i<KF.length by rw [<-HN.out];exact hp);have hp2:i<KF.length:=aP hy;obtain ⟨g1,o3,rfl,_,k1⟩:=aS.str ((G2.out.2.1.below M.out.1).more M.out.1.size) hx;obtain ⟨g2,o4,rfl,_,k2⟩:=aS.str ((G2.out.2.2.below M.out.1).more M.out.1.size) hy;have Hxy:=aB (DF hx hy);clear hx hy
     cases hs:(x.toList==y.toList) with
     |false=>
      have HS:Hid (x≠y):=aB (by rintro rfl;simp at hs);have hs2:(x.toList !=y.toList)=true:=by unfold bne;rw [hs];rfl
      go_wp2_with fail;go_quiet (fail);go_wp2_with fail;go_ret;refine ⟨aO (by rw [HAB.out,decide_eq_false (acd Hxy.out.1 Hxy.out.2 HS.out)]),?_⟩
      exact ah (ah G2.out.1 M.out.1) (uI _ _)
     |true=>
      have HS:Hid (x=y):=aB (aan fun h=>by have:=adF h;unfold bne at this;rw [hs] at this;cases this);have hs2:(x.toList !=y.toList)=false:=by unfold bne;rw [hs];rfl
      go_wp2_with fail;go_quiet (fail);go_wp2_with fail;go_roundw
      case rel=>exact ⟨i+1,by go_num,hp,aB ⟨ah M.out.1 (uI _ _),by rw [yj,yj,Hxy.out.1,Hxy.out.2,M.out.2,HS.out]⟩⟩
      case measure=>simp [intOf];omega
    ·have e1:Hid (JQ=KF):=aB (by
      have:=M.out.2;rw [ji (by omega),ji (by have:=HN.out;omega)] at this;exact this)
     go_wp2_with fail;go_ret;refine ⟨aO (by rw [HAB.out,decide_eq_true e1.out]),?_⟩;exact ah G2.out.1 M.out.1
theorem UQ {a b:List Nd} (ta:yA a) (h0:¬((aD a).k=0\/(aD b).k=0)):oC a.length a b=(tq a b&&((aW a).zip (aW b)).all fun p=>oC p.1.length p.1 p.2):=by
 obtain ⟨f,hf⟩:∃f,a.length=f+1:=⟨a.length-1,by have:=ta.fo.pos;omega⟩;have e:oC (f+1) a b=if (aD a).k=0\/(aD b).k=0 then true else if (aD a).k≠(aD b).k then false else decide (kR (aW a)=kR (aW b))&&((aW a).zip (aW b)).all fun p=>oC f p.1 p.2:=rfl
 have this:∀p∈(aW a).zip (aW b),oC f p.1 p.2=oC p.1.length p.1 p.2:=fun p hp=>by
  have h1:=(List.of_mem_zip hp).1;have h2:=xV h1;exact Yw _ _ _ _ (by omega) (aK _) (Ak ta.fo h1)
 have e2:(((aW a).zip (aW b)).all fun p=>oC f p.1 p.2)=((aW a).zip (aW b)).all fun p=>oC p.1.length p.1 p.2:=by
  rw [Bool.eq_iff_iff,qz,qz];exact ⟨fun h p hp=>by rw [<-this p hp];exact h p hp,fun h p hp=>by rw [this p hp];exact h p hp⟩
 rw [hf,e,if_neg h0,e2];unfold tq;by_cases hk:(aD a).k≠(aD b).k
 ·rw [if_pos hk,decide_eq_false hk];rfl
 ·rw [if_neg hk,decide_eq_true (show (aD a).k=(aD b).k from Classical.not_not.1 hk),Bool.true_and]
theorem ace {α β:Type} {l:List α} {m:List β} {i:Nat} {a:α} {b:β} (h1:l[i]?=some a) (h2:m[i]?=some b):(l.zip m)[i]?=some (a,b):=List.getElem?_zip_eq_some.2 ⟨h1,h2⟩
theorem RB:∀(N:Nat) (A B:Option Addr) (c d:Nat) (a b:List Nd) (w:World),a.length<=N->bJ w w.heap.size A a->bJ w w.heap.size B b->yA a->yA b->a.length<=5000000->b.length<=5000000->a.length<=c->b.length<=d->
  Calls Tryz.prog 26 #[.slice A a.length c,.slice B b.length d] w fun e w'=>e= .returned (.bool (oC a.length a b))/\Below w.heap.size w w':=by
 intro N
 induction N with
 |zero=>intro A B c d a b w h0 _ _ ta;have:=ta.fo.pos;omega
 |succ N ih=>
  have IH:=aB ih;clear ih;intro A B c d a b w hN ha hb ta tb la lb lc ld
  have hxa:a[0]?=some (aD a):=by
   have:=ta.fo.pos
   cases a with
   |nil=>simp at this
   |cons x ks=>rfl
  have hxb:b[0]?=some (aD b):=by
   have:=tb.fo.pos
   cases b with
   |nil=>simp at this
   |cons x ks=>rfl
  have kal:=aB (UO A B c d a b w ha hb ta tb la lb lc ld);have ka:=aB fun W (hW:Below w.heap.size w W)=>vE A c a W ((ha.below hW).more hW.size) ta la lc;have kb:=aB fun W (hW:Below w.heap.size w W)=>vE B d b W ((hb.below hW).more hW.size) tb lb ld;have HT:=aB (DF ta tb);have p1:=aP hxa;have p2:=aP hxb;have HN:=aB (DF hN (DF la lb));obtain ⟨b1,o1,rfl,hb1,c10,_,_⟩:=ha.at_ hxa;obtain ⟨b2,o2,rfl,hb2,Rn,_,_⟩:=hb.at_ hxb;simp only [Nat.zero_mul,h_] at c10 Rn;clear ha hb ta tb hxa hxb hN;go_enter Tryz.func26,Tryz.ntmps26
  have hcase:((aD a).k==0)=true\/(((aD a).k==0)=false/\((aD b).k==0)=true)\/(((aD a).k==0)=false/\((aD b).k==0)=false):=by
   cases ((aD a).k==0)<;>cases ((aD b).k==0)<;>simp
  have hpos:Hid (((aD a).k=0\/(aD b).k=0)->oC a.length a b=true):=aB fun h=>by
   obtain ⟨f,hf⟩:∃f,a.length=f+1:=⟨a.length-1,by omega⟩;rw [hf];unfold oC;rw [if_pos h]
  rcases hcase with h1|⟨h1,h2⟩|⟨h1,h2⟩
  ·have H1:=aB h1
   go_wp2_with fail;go_ret;exact ⟨aO (by rw [hpos.out (.inl (by simpa using H1.out))]),aI _ _⟩
  ·have H1:=aB h2
   go_wp2_with fail;go_ret;exact ⟨aO (by rw [hpos.out (.inr (by simpa using H1.out))]),aI _ _⟩
  ·have HAG:Hid (oC a.length a b=(tq a b&&((aW a).zip (aW b)).all fun p=>oC p.1.length p.1 p.2)):=aB (UQ HT.out.1 (by
    have h3:(aD a).k≠0:=by simpa using h1
    have h4:(aD b).k≠0:=by simpa using h2
    rintro (h|h)
    ·exact h3 h
    ·exact h4 h))
   clear hpos;go_wp2_with fail;refine kal.out.mono ?_;clear kal;rintro e w1 ⟨rfl,hb⟩;have G1:=aB hb;clear hb c10 Rn
   cases hal:tq a b with
   |false=>
    have HA:=aB hal;clear hal;go_wp2_with fail;go_ret
    exact ⟨aO (by rw [HAG.out,HA.out];rfl),G1.out⟩
   |true=>
    have HA:=aB hal
    have hll:Hid ((aW a).length=(aW b).length):=aB (by
     unfold tq at hal;simp only [Bool.and_eq_true,decide_eq_true_eq] at hal;have:=congrArg List.length hal.2
     rwa [rF,rF] at this)
    clear hal;go_wp2_with fail;refine (ka.out _ G1.out).mono ?_;clear ka;rintro e w2 ⟨V1,cv1,vs1,L1,cl1,rfl,r1,s1,_,q1,hb⟩;have G2:=aB (DF (ah G1.out hb) (DF r1 (DF s1 q1)));clear r1 s1 q1 hb;go_wp2_with fail;refine (kb.out _ G2.out.1).mono ?_;clear kb;rintro e w3 ⟨V2,cv2,vs2,L2,cl2,rfl,r2,s2,_,q2,hb⟩;have G3:=aB (DF (ah G2.out.1 hb) (DF ((aS.below G2.out.2.1 hb).more hb.size) (DF (G2.out.2.2.1.UN hb hb.size) (DF r2 (DF s2 q2)))));clear r2 s2 q2 hb;have hv1:Hid (vs1.length=(aW a).length):=aB (by rw [G3.out.2.2.1.1,OX]);have ar1:vs1.length<=50:=by rw [hv1.out];exact HT.out.1.ab9
    have hv2:Hid (vs2.length=(aW b).length):=aB (by rw [G3.out.2.2.2.2.1.1,OX]);go_wp2_with fail;go_loopw [9] (fun s9 wr=>∃i:Nat,s9= .int .i64 i/\i<=vs1.length/\Hid (Below w3.heap.size w3 wr/\(((aW a).zip (aW b)).take i).all (fun p=>oC p.1.length p.1 p.2)=true)) (fun s9 _=>vs1.length-(intOf s9).toNat)
    case atStart=>exact ⟨0,rfl,cu _,aB ⟨aI _ _,by simp⟩⟩
    case round=>
     obtain ⟨i,rfl,hi,M⟩:=hrel;by_cases hp:i<vs1.length
     ·have hpv2:i<vs2.length:=by have:=hv1.out;have:=hv2.out;have:=hll.out;omega
      obtain ⟨v,hv⟩:=aJ hp;obtain ⟨u,hu⟩:=aJ hpv2;obtain ⟨ts,hts⟩:=aJ (l:=aW a) (i:=i) (by rw [<-hv1.out];exact hp);obtain ⟨us,hus⟩:=aJ (l:=aW b) (i:=i) (by rw [<-hv2.out];exact hpv2);obtain ⟨g1,o3,rfl,hg1,k1⟩:=aS.slice ((G3.out.2.1.below M.out.1).more M.out.1.size) hv;obtain ⟨g2,o4,rfl,hg2,k2⟩:=aS.slice ((G3.out.2.2.2.1.below M.out.1).more M.out.1.size) hu;obtain ⟨e1,t1⟩:=(G3.out.2.2.1.UN M.out.1 M.out.1.size).2 i v (eO ts) hv (by rw [Tz,hts];rfl);obtain ⟨e2,t2⟩:=(G3.out.2.2.2.2.1.UN M.out.1 M.out.1.size).2 i u (eO us) hu (by rw [Tz,hus];rfl);have z1:=G2.out.2.2.2 v (O8 hv);have z2:=G3.out.2.2.2.2.2 u (O8 hu);have m1:=O8 hts;have m2:=O8 hus;have n1:=xV m1;have n2:=xV m2;have ae0:((aW a).zip (aW b))[i]?=some (ts,us):=ace hts hus;rw [e1] at k1 z1;rw [e2] at k2 z2
      have hcall:Hid (∀W,Below wr.heap.size wr W->Calls Tryz.prog 26 #[.slice v.1 (eO ts).length v.2.2,.slice u.1 (eO us).length u.2.2] W fun e w'=>e= .returned (.bool (oC ts.length ts us))/\Below wr.heap.size wr w'):=aB fun W hW=>by
       have h:=IH.out v.1 u.1 v.2.2 u.2.2 (eO ts) (eO us) W (by rw [gF];have:=HN.out.1;omega) ((t1.below hW).more hW.size) ((t2.below hW).more hW.size) (HT.out.1.kid m1).bare (HT.out.2.kid m2).bare (by rw [gF];have:=HN.out.2.1;omega) (by rw [gF];have:=HN.out.2.2;omega) z1 z2;rw [Yv,show (eO ts).length=ts.length from gF ts] at h;rw [show (eO ts).length=ts.length from gF ts];exact h.mono fun e w' he=>⟨he.1,ah hW he.2⟩
      have HZ:=aB ae0;clear hv hu hts hus e1 t1 e2 t2 z1 z2 m1 m2 n1 n2 ae0;go_wp2_with fail
      go_region_law
       (first
        |(go_simp;(with_reducible refine (hcall.out _ ?_).mono ?_);(first|exact aI _ _|exact (aI _ _).drew);rintro e w5 ⟨rfl,hb5⟩;have G5:=aB hb5;clear hb5;generalize hq:oC ts.length ts us=q;have HQ:=aB hq;clear hq;dsimp only))
      all_goals
       cases q with
       |false=>
        go_wp2_with fail;go_ret
        refine ⟨aO (by rw [HAG.out,adE HZ.out HQ.out,Bool.and_false]),ah (ah G3.out.1 M.out.1) G5.out⟩
       |true=>
        go_wp2_with fail;go_roundw
        case rel=>exact ⟨i+1,by go_num,hp,aB ⟨ah M.out.1 G5.out,Yu HZ.out M.out.2 HQ.out⟩⟩
        case measure=>simp [intOf];omega
     ·have e1:Hid (((aW a).zip (aW b)).all (fun p=>oC p.1.length p.1 p.2)=true):=aB (by
       have:=M.out.2
       rwa [ji (by rw [List.length_zip];have:=hv1.out;omega)] at this)
      go_wp2_with fail;go_ret;exact ⟨aO (by rw [HAG.out,HA.out,e1.out];rfl),ah G3.out.1 M.out.1⟩
theorem Bh {n:Nat} {ts rs:List Nd} (h1:Fo 1 ts):bA (n+1) (ts++rs)=ts::bA n rs:=by
 have hr2:bV (ts++rs)=rs:=gB h1;simp only [bA];rw [hr2,List.length_append,Nat.add_sub_cancel]
 congr 1
 exact List.take_left
theorem Mt {t u m:List Nd} (h1:Fo 1 t) (h2:Fo 1 u) (h:met 1 t u=some m):(aD t).s=(aD u).s:=by
 cases t with
 |nil=>exact absurd h1.pos (by simp)
 |cons x xt=>
  cases u with
  |nil=>exact absurd h2.pos (by simp)
  |cons y yt=>
   by_cases hs:x.s=y.s
   ·exact hs
   ·rw [Cy hs] at h
    cases h
theorem Mv:∀(n:Nat) (xs ys m:List Nd),Fo n xs->Fo n ys->met n xs ys=some m->kR (bA n xs)=kR (bA n ys)/\∀p∈(bA n xs).zip (bA n ys),(∃m,met 1 p.1 p.2=some m)/\Fo 1 p.1/\Fo 1 p.2
 |0,xs,ys,m,_,_,_=>⟨rfl,fun p hp=>by simp [bA] at hp⟩
 |n+1,xs,ys,m,h1,h2,hm=>by
  obtain ⟨t1,r1,rfl,f1,g1⟩:=h1.first;obtain ⟨t2,r2,rfl,f2,g2⟩:=h2.first;rw [oL f1 f2] at hm
  cases ha:met 1 t1 t2 with
  |none=>rw [ha] at hm;cases hm
  |some a=>
   cases hr:met n r1 r2 with
   |none=>rw [ha,hr] at hm;cases hm
   |some r=>
    obtain ⟨k1,k2⟩:=Mv n r1 r2 r g1 g2 hr;rw [Bh f1,Bh f2];refine ⟨?_,fun p hp=>?_⟩
    ·show (aD t1).s::kR (bA n r1)=(aD t2).s::kR (bA n r2)
     rw [k1,Mt f1 f2 ha]
    ·rw [List.zip_cons_cons] at hp
     rcases qm.1 hp with rfl|hp
     ·exact ⟨⟨a,ha⟩,f1,f2⟩
     ·exact k2 p hp
theorem VZ:∀(f:Nat) (a b m:List Nd),a.length<=f->Fo 1 a->Fo 1 b->met 1 a b=some m->oC f a b=true
 |0,a,b,m,hl,h1,_,_=>by have:=h1.pos;omega
 |f+1,a,b,m,hl,h1,h2,hm=>by
  match a,b,h1,h2,hm,hl with
  |[],_,h1,_,_,_=>exact absurd h1.pos (by simp)
  |_::_,[],_,h2,_,_=>exact absurd h2.pos (by simp)
  |x::xt,y::yt,h1,h2,hm,hl=>
   unfold oC;show (if x.k=0\/y.k=0 then true else if x.k≠y.k then false else _)=true;by_cases h0:x.k=0\/y.k=0
   ·rw [if_pos h0]
   ·rw [if_neg h0]
    have hs:x.s=y.s:=Mt h1 h2 hm;by_cases hk:x.k≠y.k\/x.n≠y.n
    ·rw [Cx hs h0 hk] at hm
     cases hm
    ·have hk2:x.k=y.k:=aan fun h=>hk (.inl h)
     have hn2:x.n=y.n:=aan fun h=>hk (.inr h);have hmn:manyN y=manyN x:=by unfold manyN;rw [hk2,hn2]
     rw [pq hs h0 hk2 hn2] at hm
     cases hq:met (manyN x) xt yt with
     |none=>rw [hq] at hm;cases hm
     |some q=>
      have e1:=h1.kids;have e2:=h2.kids;rw [hmn] at e2;obtain ⟨k1,k2⟩:=Mv _ _ _ _ e1 e2 hq;rw [if_neg (fun h=>h hk2)];show (decide (kR (bA (manyN x) xt)=kR (bA (manyN y) yt))&&((bA (manyN x) xt).zip (bA (manyN y) yt)).all fun p=>oC f p.1 p.2)=true;rw [hmn,decide_eq_true k1,Bool.true_and,qz];intro p hp;obtain ⟨⟨m2,j1⟩,j2,j3⟩:=k2 p hp;have hle:=xP _ _ _ (List.of_mem_zip hp).1;exact VZ f p.1 p.2 m2 (by simp at hl;omega) j2 j3 j1
theorem adJ {t u:List Nd} (gt:Gd t) (gu:Gd u) (h:jR t u=true):oC t.length t u=true:=by
 unfold jR at h;obtain ⟨m,hm⟩:=Option.isSome_iff_exists.1 h;exact VZ _ t u m (aK _) gt.fo gu.fo hm
theorem KG (t:List Nd):∀y∈aC t,y.k=0->y.n=0:=fun y hy hk=>by
 unfold aC at hy;obtain ⟨z,_,rfl⟩:=List.mem_map.1 hy;unfold gJ at hk ⊢;split at hk
 ·rw [if_pos (by assumption)]
 ·exact absurd hk (by assumption)
structure acf (N:Nat) (q:Pt):Prop where
 num:q.num=(N:Int)+1
 T:yA q.T
 U:yA q.U
 same:lZ q.T q.U=false
 ag:oC q.T.length q.T q.U=true
 site:∀y∈q.T,y.k=0->y.n=0
theorem OI.bar {N:Nat} {p:Pt} (h:OI p):acf N (Rz p ((N+1:Nat):Int)):=by
 obtain ⟨t,u,e1,e2,ha,hn,gt,gu⟩:=h;have g1:=Gc gt;have g2:=Gc gu;refine ⟨by show ((N+1:Nat):Int)=_;omega,?_,?_,?_,?_,?_⟩
 ·show yA p.T
  rw [e1];exact ⟨g1.fo,g1.ok⟩
 ·show yA p.U
  rw [e2];exact ⟨g2.fo,g2.ok⟩
 ·show lZ p.T p.U=false
  rw [e1,e2,Bool.eq_false_iff];intro hs;exact hn (((Q2.Oo t).trans (same_iff.1 hs)).trans (Q2.Oo u).symm)
 ·show oC p.T.length p.T p.U=true
  rw [e1,e2];exact adJ g1 g2 ((Q2.Oo t).ag (Q2.Oo u) ha)
 ·show ∀y∈p.T,_
  rw [e1];exact KG t
theorem gX.bra {es:List Pt} (hL:gX es) {n a b:Nat} {Z:List Pt} (h:kM es n a b Z):gX Z:=by
 induction h with
 |nil a=>exact gX.nil
 |nd hp _ _ _ _ ih1 ih2=>exact .cons (hL _ (O8 hp)) (ih1.app ih2)
 |sk hp _ _ _ ih1 ih2=>exact (ih1.lb _).app ih2
theorem oW.bare {env:Env} {es:List Pt} {t t':List Nd} {x:List Pt} (h:gY env es) (k:oW env es t x t') (gW:∀p∈es,p.k≠14):
  (fQ 0 x).length<=1000/\EA (fQ 0 x) 1 0 (fQ 0 x).length/\(∃Z,kM es 1 0 es.length Z/\kM (fQ 0 x) 1 0 (fQ 0 x).length Z/\Rv (bQ ByteArray.empty Z))/\
  ∀i q,(fQ 0 x)[i]?=some q->(q.k=14->acf (qZ x i) q/\qZ x (i+1)=qZ x i+1)/\(q.k≠14->qZ x (i+1)=qZ x i):=by
 obtain ⟨_,Z,b1,l1,f1⟩:=k.Dr.rl.bare gW;have hat:zU (fQ 0 x) 0 (bQ (iU x) x):=⟨0,[],by rw [List.drop_zero,mO,kK]⟩;have b2:=f1 (iU x) (fQ 0 x) 0 hat;rw [wT l1,Nat.zero_add] at b2;have hle:(fQ 0 x).length=x.length:=nO _ _ _ _;have hln:=k.Dr.ln;have U7:=h.few.1;have hzl:=b1.len;rw [<-hle] at b2;refine ⟨by omega,b2.ea,⟨Z,b1,b2,by rw [dW];omega,(gX.bra h.ab6 b1).lb _⟩,fun i q hq=>?_⟩;obtain ⟨p,hp,hc⟩:=EM 0 x i q hq;rcases hc with ⟨h4,rfl⟩|⟨h4,rfl⟩
 ·refine ⟨fun _=>⟨(k.Dr.rl.casts gW p (O8 hp) h4).bar,by rw [FP hp,if_pos h4]⟩,fun e=>absurd h4 e⟩
 ·exact ⟨fun e=>absurd e h4,fun _=>by rw [FP hp,if_neg h4]⟩
end Go.Proofs.YtmjdhfbnmmdjiaaGreat
