/- Laid together by a tool from the texts of this seat: SymP SymC SymA SymB SymM SymG SymS. Conditions: each theorem's own. -/
import Derived.Test.YtblfeokjlecgkaaV09
import Derived.BigRegion
import Derived.IntWalk
import Derived.Test.YtblfeokjlecgkaaV02
set_option maxHeartbeats 8000000
set_option maxRecDepth 100000
namespace Go.Proofs.Ytblfeokjlecgkaa
open Go.Lib renaming hid->aC
open _root_.And renaming intro->Gw
open _root_.Nat renaming le_refl->bN,zero_le->h_,dvd_add->aeI,dvd_refl->aeK,min_eq_right->aeL,lt_trichotomy->aeR,min_eq_left->aeS
open Go.Value renaming int->aes
open Go.World renaming grownBy->aeu,ownsRow->lM
open Go.IntWalk renaming i64_in->aev
open Go.RowKit.Below renaming refl->aT
open _root_.List renaming getElem?_eq_getElem->jr,flatMap_cons->jy,getElem?_set->aeM,getElem?_cons_zero->ad2,getElem?_cons_succ->Oo,set_append_right->Iq
section
variable {α:Type}
def qH (l:List α) (i j:Nat):List α:=match l[i]?,l[j]? with
 |some x,some y=>(l.set i y).set j x
 |_,_=>l
theorem acH (l:List α) (i j:Nat):(qH l i j).length=l.length:=by
 unfold qH;split<;>simp
theorem QG {l:List α} {i j:Nat} {x y:α} (hx:l[i]?=some x) (hy:l[j]?=some y):qH l i j=(l.set i y).set j x:=by
 simp [qH,hx,hy]
theorem uU {l:List α} {i j:Nat} (hi:i<l.length) (hj:j<l.length) (k:Nat):(qH l i j)[k]?=if k=j then l[i]? else if k=i then l[j]? else l[k]?:=by
 have hx:l[i]?=some l[i]:=jr hi;have hy:l[j]?=some l[j]:=jr hj;rw [QG hx hy,aeM];by_cases h1:k=j
 ·subst h1
  simp [hj]
 ·rw [if_neg (fun e=>h1 e.symm),if_neg h1,aeM]
  by_cases h2:k=i
  ·subst h2
   simp [hi]
  ·rw [if_neg (fun e=>h2 e.symm),if_neg h2]
theorem aag {l:List α} {i j:Nat} (hi:i<l.length) (hj:j<l.length):(qH l i j).Perm l:=by
 have hx:l[i]?=some l[i]:=jr hi;have hy:l[j]?=some l[j]:=jr hj;rw [QG hx hy];exact List.set_set_perm hi hj
structure Mv (a b:Nat) (l l':List α):Prop where
 len:l'.length=l.length
 perm:l'.Perm l
 out:∀k,(k<a\/b<=k)->l'[k]?=l[k]?
 inn:∀k,a<=k->k<b->∃k',a<=k'/\k'<b/\l'[k]?=l[k']?
theorem Mv.refl (a b:Nat) (l:List α):Mv a b l l:=⟨rfl,.refl _,fun _ _=>rfl,fun k h1 h2=>⟨k,h1,h2,rfl⟩⟩
theorem Mv.trans {a b:Nat} {l l1 l2:List α} (h:Mv a b l l1) (k:Mv a b l1 l2):Mv a b l l2:=
 ⟨k.len.trans h.len,k.perm.trans h.perm,fun i hi=>(k.out i hi).trans (h.out i hi),fun i h1 h2=>by
  obtain ⟨j,a1,a2,e⟩:=k.inn i h1 h2;obtain ⟨j2,b1,b2,e2⟩:=h.inn j a1 a2;exact ⟨j2,b1,b2,e.trans e2⟩⟩
theorem Mv.wide {a b a' b':Nat} {l l':List α} (h:Mv a b l l') (ha:a'<=a) (hb:b<=b'):Mv a' b' l l':=
 ⟨h.len,h.perm,fun i hi=>h.out i (by omega),fun i h1 h2=>by
  by_cases e:a<=i/\i<b
  ·obtain ⟨j,c1,c2,e⟩:=h.inn i e.1 e.2
   exact ⟨j,by omega,by omega,e⟩
  ·exact ⟨i,h1,h2,h.out i (by omega)⟩⟩
theorem Mv.swap {a b i j:Nat} {l:List α} (hi:i<l.length) (hj:j<l.length) (ai:a<=i) (ib:i<b) (aj:a<=j) (jb:j<b):Mv a b l (qH l i j):=by
 refine ⟨acH _ _ _,aag hi hj,fun k hk=>?_,fun k h1 h2=>?_⟩
 ·rw [uU hi hj,if_neg (by omega),if_neg (by omega)]
 ·rw [uU hi hj]
  split
  ·exact ⟨i,ai,ib,rfl⟩
  ·split
   ·exact ⟨j,aj,jb,rfl⟩
   ·exact ⟨k,h1,h2,rfl⟩
variable (le:α->α->Prop)
def gW (l:List α) (a b:Nat):Prop:=∀i j x y,a<=i->i<j->j<b->l[i]?=some x->l[j]?=some y->le x y
def QH (l:List α) (a b c d:Nat):Prop:=∀i j x y,a<=i->i<b->c<=j->j<d->l[i]?=some x->l[j]?=some y->le x y
variable {le}
theorem gW.one (l:List α) (a b:Nat) (h:b<=a+1):gW le l a b:=fun i j x y h1 h2 h3=>by omega
theorem gW.sub {l:List α} {a b a' b':Nat} (h:gW le l a b) (ha:a<=a') (hb:b'<=b):gW le l a' b':=fun i j x y h1 h2 h3=>h i j x y (by omega) h2 (by omega)
theorem gW.join {l:List α} {a m b:Nat} (h1:gW le l a m) (h2:gW le l m b) (u:QH le l a m m b):gW le l a b:=fun i j x y k1 k2 k3 hx hy=>by
 by_cases e:j<m
 ·exact h1 i j x y k1 k2 e hx hy
 ·by_cases e2:i<m
  ·exact u i j x y k1 e2 (by omega) k3 hx hy
  ·exact h2 i j x y (by omega) k2 k3 hx hy
theorem gW.same {l l':List α} {a b:Nat} (h:gW le l a b) (e:∀k,a<=k->k<b->l'[k]?=l[k]?):gW le l' a b:=fun i j x y h1 h2 h3 hx hy=>
 h i j x y h1 h2 h3 (by rw [<-e i h1 (by omega)];exact hx) (by rw [<-e j (by omega) h3];exact hy)
theorem QH.moved {l l':List α} {a m b:Nat} (u:QH le l a m m b) (h1:∀k,a<=k->k<m->∃k',a<=k'/\k'<m/\l'[k]?=l[k']?) (h2:∀k,m<=k->k<b->∃k',m<=k'/\k'<b/\l'[k]?=l[k']?):QH le l' a m m b:=fun i j x y k1 k2 k3 k4 hx hy=>by
 obtain ⟨i',a1,a2,e1⟩:=h1 i k1 k2;obtain ⟨j',b1,b2,e2⟩:=h2 j k3 k4;exact u i' j' x y a1 a2 b1 b2 (by rw [<-e1];exact hx) (by rw [<-e2];exact hy)
def zl (a b n:Nat) (l l':List α):Prop:=∀k,l'[k]?=if a<=k/\k<a+n then l[k+b-a]? else if b<=k/\k<b+n then l[k+a-b]? else l[k]?
theorem zl.zero (a b:Nat) (l:List α):zl a b 0 l l:=fun k=>by
 rw [if_neg (by omega),if_neg (by omega)]
theorem at_eq (l:List α) {i j:Nat} (h:i=j):l[i]?=l[j]?:=by rw [h]
theorem zl.next {a b n:Nat} {l l':List α} (h:zl a b n l l') (hab:a+n<b) (ha:a+n<l'.length) (hb:b+n<l'.length):zl a b (n+1) l (qH l' (a+n) (b+n)):=fun k=>by
 rw [uU ha hb,h,h,h]
 (repeat' split)<;>first|omega|rfl|exact at_eq l (by omega)
def Turn (a m b:Nat) (l l':List α):Prop:=∀k,l'[k]?=if a<=k/\k<a+(b-m) then l[k+(m-a)]? else if a+(b-m)<=k/\k<b then l[k-(b-m)]? else l[k]?
theorem Turn.last {m i:Nat} {l l':List α} (hi:i<=m) (h:zl (m-i) m i l l'):Turn (m-i) m (m+i) l l':=fun k=>by
 rw [h]
 (repeat' split)<;>first|omega|rfl|exact at_eq l (by omega)
theorem Turn.ahG {m i j:Nat} {l l1 l':List α} (hi:i<=m) (hij:j<i) (h:zl (m-i) m j l l1) (t:Turn (m-(i-j)) m (m+j) l1 l'):Turn (m-i) m (m+j) l l':=fun k=>by
 rw [t k,h,h,h]
 (repeat' split)<;>first|omega|rfl|exact at_eq l (by omega)
theorem Turn.ahH {m i j:Nat} {l l1 l':List α} (hi:i<=m) (hij:i<j) (h:zl (m-i) (m+j-i) i l l1) (t:Turn (m-i) m (m+(j-i)) l1 l'):Turn (m-i) m (m+j) l l':=fun k=>by
 rw [t k,h,h,h]
 (repeat' split)<;>first|omega|rfl|exact at_eq l (by omega)
theorem Turn.none {a m b:Nat} {l:List α} (h:a=m\/m=b):Turn a m b l l:=fun k=>by
 rcases h with rfl|rfl
 ·by_cases c:a<=k/\k<a+(b-a)
  ·rw [if_pos c];congr 1;omega
  ·rw [if_neg c,if_neg (by omega)]
 ·rw [if_neg (by omega)]
  by_cases c:a+(m-m)<=k/\k<m
  ·rw [if_pos c];congr 1;omega
  ·rw [if_neg c]
structure Part (le:α->α->Prop) (l:List α) (a m b mid start:Nat):Prop where
 lo:a<=start
 hi:start<=m
 lo2:m<=mid+m-start
 hi2:mid+m-start<=b
 up:∀x y,a<start->mid+m-start<b->l[start-1]?=some x->l[mid+m-start]?=some y->le x y
 dn:∀x y,start<m->m<mid+m-start->l[mid+m-start-1]?=some x->l[start]?=some y->le x y
theorem Part.turned (tr:∀x y z,le x y->le y z->le x z) {l l':List α} {a m b mid start:Nat} (hb:b<=l.length) (p:Part le l a m b mid start) (h1:gW le l a m) (h2:gW le l m b) (t:Turn start m (mid+m-start) l l') (hmid:a<=mid) (hmb:mid<=b):
  gW le l' a start/\gW le l' start mid/\gW le l' mid (mid+m-start)/\gW le l' (mid+m-start) b/\QH le l' a mid mid b:=by
 obtain ⟨q1,q2,q3,q4,up,dn⟩:=p;have e1:∀k,k<start->l'[k]?=l[k]?:=fun k hk=>by rw [t,if_neg (by omega),if_neg (by omega)]
 have e2:∀k,start<=k->k<mid->l'[k]?=l[k+(m-start)]?:=fun k hk hk2=>by rw [t,if_pos (by omega)]
 have e3:∀k,mid<=k->k<mid+m-start->l'[k]?=l[k-(mid-start)]?:=fun k hk hk2=>by
  rw [t,if_neg (by omega),if_pos (by omega)]
  congr 1
  omega
 have e4:∀k,mid+m-start<=k->l'[k]?=l[k]?:=fun k hk=>by rw [t,if_neg (by omega),if_neg (by omega)]
 have ge:∀k,k<b->∃x,l[k]?=some x:=fun k hk=>⟨l[k]'(by omega),jr (by omega)⟩
 have U1:QH le l a start (mid+m-start) b:=fun i j x y k1 k2 k3 k4 hx hy=>by
  obtain ⟨x',hx'⟩:=ge (start-1) (by omega);obtain ⟨y',hy'⟩:=ge (mid+m-start) (by omega);have c:=up x' y' (by omega) (by omega) hx' hy'
  have c1:i=start-1\/le x x':=by
   by_cases e:i=start-1
   ·exact .inl e
   ·exact .inr (h1 i (start-1) x x' k1 (by omega) (by omega) hx hx')
  have c2:j=mid+m-start\/le y' y:=by
   by_cases e:j=mid+m-start
   ·exact .inl e
   ·exact .inr (h2 (mid+m-start) j y' y (by omega) (by omega) k4 hy' hy)
  rcases c1 with e|c1
  ·subst e
   rw [hx] at hx';injection hx' with hx'
   subst hx';rcases c2 with e|c2
   ·subst e
    rw [hy] at hy';injection hy' with hy'
    subst hy';exact c
   ·exact tr _ _ _ c c2
  ·rcases c2 with e|c2
   ·subst e
    rw [hy] at hy';injection hy' with hy'
    subst hy';exact tr _ _ _ c1 c
   ·exact tr _ _ _ c1 (tr _ _ _ c c2)
 have U2:QH le l m (mid+m-start) start m:=fun i j x y k1 k2 k3 k4 hx hy=>by
  obtain ⟨x',hx'⟩:=ge (mid+m-start-1) (by omega);obtain ⟨y',hy'⟩:=ge start (by omega);have c:=dn x' y' (by omega) (by omega) hx' hy'
  have c1:i=mid+m-start-1\/le x x':=by
   by_cases e:i=mid+m-start-1
   ·exact .inl e
   ·exact .inr (h2 i (mid+m-start-1) x x' k1 (by omega) (by omega) hx hx')
  have c2:j=start\/le y' y:=by
   by_cases e:j=start
   ·exact .inl e
   ·exact .inr (h1 start j y' y (by omega) (by omega) k4 hy' hy)
  rcases c1 with e|c1
  ·subst e
   rw [hx] at hx';injection hx' with hx'
   subst hx';rcases c2 with e|c2
   ·subst e
    rw [hy] at hy';injection hy' with hy'
    subst hy';exact c
   ·exact tr _ _ _ c c2
  ·rcases c2 with e|c2
   ·subst e
    rw [hy] at hy';injection hy' with hy'
    subst hy';exact tr _ _ _ c1 c
   ·exact tr _ _ _ c1 (tr _ _ _ c c2)
 refine ⟨(h1.sub (bN _) q2).same fun k _ hk=>e1 k hk,?_,?_,(h2.sub q3 (bN _)).same fun k hk _=>e4 k hk,?_⟩
 ·intro i j x y k1 k2 k3 hx hy
  rw [e2 i k1 (by omega)] at hx;rw [e2 j (by omega) k3] at hy;exact h2 _ _ x y (by omega) (by omega) (by omega) hx hy
 ·intro i j x y k1 k2 k3 hx hy
  rw [e3 i k1 (by omega)] at hx;rw [e3 j (by omega) k3] at hy;exact h1 _ _ x y (by omega) (by omega) (by omega) hx hy
 ·intro i j x y k1 k2 k3 k4 hx hy
  by_cases ci:i<start
  ·rw [e1 i ci] at hx
   by_cases cj:j<mid+m-start
   ·rw [e3 j k3 cj] at hy
    exact h1 _ _ x y k1 (by omega) (by omega) hx hy
   ·rw [e4 j (by omega)] at hy
    exact U1 i j x y k1 ci (by omega) k4 hx hy
  ·rw [e2 i (by omega) k2] at hx
   by_cases cj:j<mid+m-start
   ·rw [e3 j k3 cj] at hy
    exact U2 _ _ x y (by omega) (by omega) (by omega) (by omega) hx hy
   ·rw [e4 j (by omega)] at hy
    exact h2 _ _ x y (by omega) (by omega) k4 hx hy
theorem gW.put {l':List α} {a i b:Nat} (h1:gW le l' a i) (h2:gW le l' i b) (x:α) (hx:l'[i]?=some x) (lo:∀j y,a<=j->j<i->l'[j]?=some y->le y x) (hi:∀j y,i<j->j<b->l'[j]?=some y->le x y) (tr:∀x y z,le x y->le y z->le x z):gW le l' a b:=by
 refine gW.join h1 h2 fun p q u v k1 k2 k3 k4 hu hv=>?_;by_cases e:q=i
 ·subst e
  rw [hx] at hv;injection hv with hv
  subst hv;exact lo p u k1 k2 hu
 ·exact tr _ _ _ (lo p u k1 k2 hu) (hi q v (by omega) k4 hv)
def Uc (a c:Nat) (l l':List α):Prop:=∀k,l'[k]?=if a<=k/\k<c then l[k+1]? else if k=c then l[a]? else l[k]?
theorem Uc.zero (a:Nat) (l:List α):Uc a a l l:=fun k=>by
 rw [if_neg (by omega)];split
 ·next e=>rw [e]
 ·rfl
theorem Uc.next {a c:Nat} {l l':List α} (h:Uc a c l l') (hac:a<=c) (hc:c+1<l'.length):Uc a (c+1) l (qH l' c (c+1)):=fun k=>by
 rw [uU (by omega) hc];by_cases h1:k=c+1
 ·subst h1
  rw [if_pos rfl,h,if_neg (by omega),if_pos rfl,if_neg (by omega),if_pos rfl]
 ·rw [if_neg h1]
  by_cases h2:k=c
  ·subst h2
   rw [if_pos rfl,h,if_neg (by omega),if_neg (by omega),if_pos (by omega)]
  ·rw [if_neg h2,h]
   by_cases h3:a<=k/\k<c
   ·rw [if_pos h3,if_pos (by omega)]
   ·rw [if_neg h3,if_neg h2,if_neg (by omega),if_neg h1]
def Mf (c m:Nat) (l l':List α):Prop:=∀k,l'[k]?=if k=c then l[m]? else if c<k/\k<=m then l[k-1]? else l[k]?
theorem Mf.zero (m:Nat) (l:List α):Mf m m l l:=fun k=>by
 by_cases e:k=m
 ·subst e;simp
 ·rw [if_neg e,if_neg (by omega)]
theorem Mf.next {c m:Nat} {l l':List α} (h:Mf (c+1) m l l') (hac:c+1<=m) (hc:c+1<l'.length):Mf c m l (qH l' (c+1) c):=fun k=>by
 rw [uU hc (by omega)];by_cases h1:k=c
 ·subst h1
  rw [if_pos rfl,if_pos rfl,h,if_pos rfl]
 ·rw [if_neg h1,if_neg h1]
  by_cases h2:k=c+1
  ·subst h2
   rw [if_pos rfl,h,if_neg (by omega),if_neg (by omega),if_pos (by omega)];simp
  ·rw [if_neg h2,h,if_neg h2]
   by_cases h3:c+1<k/\k<=m
   ·rw [if_pos h3,if_pos (by omega)]
   ·rw [if_neg h3,if_neg (by omega)]
theorem acI {l l':List α} {a c b:Nat} {x:α} (tr:∀x y z,le x y->le y z->le x z) (h:Uc a c l l') (hac:a<=c) (hcb:c<b) (hx:l[a]?=some x) (hs:gW le l (a+1) b) (lo:∀j y,a<j->j<=c->l[j]?=some y->le y x) (hi:∀j y,c<j->j<b->l[j]?=some y->le x y):gW le l' a b:=by
 have e1:∀k,a<=k->k<c->l'[k]?=l[k+1]?:=fun k h1 h2=>by rw [h,if_pos ⟨h1,h2⟩]
 have e2:l'[c]?=some x:=by rw [h,if_neg (by omega),if_pos rfl,hx]
 have e3:∀k,c<k->l'[k]?=l[k]?:=fun k h1=>by rw [h,if_neg (by omega),if_neg (by omega)]
 refine gW.put (i:=c) ?_ ?_ x e2 ?_ ?_ tr
 ·intro i j u v k1 k2 k3 hu hv
  rw [e1 i k1 (by omega)] at hu;rw [e1 j (by omega) k3] at hv;exact hs _ _ u v (by omega) (by omega) (by omega) hu hv
 ·intro i j u v k1 k2 k3 hu hv
  by_cases ei:i=c
  ·subst ei
   rw [e2] at hu;injection hu with hu
   subst hu;rw [e3 j k2] at hv;exact hi j v k2 k3 hv
  ·rw [e3 i (by omega)] at hu
   rw [e3 j (by omega)] at hv;exact hs _ _ u v (by omega) (by omega) (by omega) hu hv
 ·intro j y k1 k2 hy
  rw [e1 j k1 k2] at hy;exact lo _ y (by omega) (by omega) hy
 ·intro j y k1 k2 hy
  rw [e3 j k1] at hy;exact hi j y k1 k2 hy
theorem acJ {l l':List α} {a c m:Nat} {x:α} (tr:∀x y z,le x y->le y z->le x z) (h:Mf c m l l') (hac:a<=c) (hcm:c<=m) (hx:l[m]?=some x) (hs:gW le l a m) (lo:∀j y,a<=j->j<c->l[j]?=some y->le y x) (hi:∀j y,c<=j->j<m->l[j]?=some y->le x y):gW le l' a (m+1):=by
 have e1:∀k,k<c->l'[k]?=l[k]?:=fun k h1=>by rw [h,if_neg (by omega),if_neg (by omega)]
 have e2:l'[c]?=some x:=by rw [h,if_pos rfl,hx]
 have e3:∀k,c<k->k<=m->l'[k]?=l[k-1]?:=fun k h1 h2=>by rw [h,if_neg (by omega),if_pos (by omega)]
 refine gW.put (i:=c) ?_ ?_ x e2 ?_ ?_ tr
 ·intro i j u v k1 k2 k3 hu hv
  rw [e1 i (by omega)] at hu;rw [e1 j k3] at hv;exact hs _ _ u v k1 k2 (by omega) hu hv
 ·intro i j u v k1 k2 k3 hu hv
  by_cases ei:i=c
  ·subst ei
   rw [e2] at hu;injection hu with hu
   subst hu;rw [e3 j k2 (by omega)] at hv;exact hi _ v (by omega) (by omega) hv
  ·rw [e3 i (by omega) (by omega)] at hu
   rw [e3 j (by omega) (by omega)] at hv;exact hs _ _ u v (by omega) (by omega) (by omega) hu hv
 ·intro j y k1 k2 hy
  rw [e1 j k2] at hy;exact lo _ y k1 k2 hy
 ·intro j y k1 k2 hy
  rw [e3 j k1 (by omega)] at hy;exact hi _ y (by omega) (by omega) hy
structure AU (le:α->α->Prop) (l:List α) (a j i:Nat) (x:α):Prop where
 at_:l[j]?=some x
 s1:gW le l a j
 s2:gW le l (j+1) (i+1)
 u:QH le l a j (j+1) (i+1)
 hi:∀k y,j<k->k<=i->l[k]?=some y->le x y
theorem AU.start {l:List α} {a i:Nat} {x:α} (h:gW le l a i) (hx:l[i]?=some x):AU le l a i i x:=
 ⟨hx,h,gW.one _ _ _ (by omega),fun p q u v k1 k2 k3 k4=>by omega,fun k y h1 h2=>by omega⟩
theorem AU.next {l:List α} {a j i:Nat} {x z:α} (h:AU le l a (j+1) i x) (hz:l[j]?=some z) (hxz:le x z) (haj:a<=j) (hl:j+1<l.length):AU le (qH l (j+1) j) a j i x:=by
 have e0:(qH l (j+1) j)[j]?=some x:=by rw [uU hl (by omega),if_pos rfl,h.at_]
 have e1:(qH l (j+1) j)[j+1]?=some z:=by rw [uU hl (by omega),if_neg (by omega),if_pos rfl,hz]
 have e2:∀k,k≠j->k≠j+1->(qH l (j+1) j)[k]?=l[k]?:=fun k h1 h2=>by rw [uU hl (by omega),if_neg h1,if_neg h2]
 refine ⟨e0,?_,?_,?_,?_⟩
 ·exact (h.s1.sub (bN _) (by omega)).same fun k _ h2=>e2 k (by omega) (by omega)
 ·intro p q u v k1 k2 k3 hu hv
  rw [e2 q (by omega) (by omega)] at hv;by_cases e:p=j+1
  ·subst e
   rw [e1] at hu;injection hu with hu
   subst hu;exact h.u j q z v (by omega) (by omega) (by omega) k3 hz hv
  ·rw [e2 p (by omega) e] at hu
   exact h.s2 p q u v (by omega) k2 k3 hu hv
 ·intro p q u v k1 k2 k3 k4 hu hv
  rw [e2 p (by omega) (by omega)] at hu;by_cases e:q=j+1
  ·subst e
   rw [e1] at hv;injection hv with hv
   subst hv;exact h.s1 p j u z k1 k2 (by omega) hu hz
  ·rw [e2 q (by omega) e] at hv
   exact h.u p q u v k1 (by omega) (by omega) k4 hu hv
 ·intro k y h1 h2 hy
  by_cases e:k=j+1
  ·subst e
   rw [e1] at hy;injection hy with hy
   subst hy;exact hxz
  ·rw [e2 k (by omega) e] at hy
   exact h.hi k y (by omega) h2 hy
theorem AU.stop {l:List α} {a j i:Nat} {x:α} (tr:∀x y z,le x y->le y z->le x z) (h:AU le l a j i x) (he:j=a\/∃z,l[j-1]?=some z/\le z x):gW le l a (i+1):=by
 intro p q u v k1 k2 k3 hu hv;by_cases e:q<j
 ·exact h.s1 p q u v k1 k2 e hu hv
 ·by_cases e2:q=j
  ·subst e2
   rw [h.at_] at hv;injection hv with hv
   subst hv;rcases he with he|⟨z,hz,hzx⟩
   ·omega
   ·by_cases e3:p=q-1
    ·rw [<-e3] at hz
     rw [hz] at hu;injection hu with hu
     subst hu;exact hzx
    ·exact tr _ _ _ (h.s1 p (q-1) u z k1 (by omega) (by omega) hu hz) hzx
  ·by_cases e3:p<j
   ·exact h.u p q u v k1 e3 (by omega) k3 hu hv
   ·by_cases e4:p=j
    ·subst e4
     rw [h.at_] at hu;injection hu with hu
     subst hu;exact h.hi q v k2 (by omega) hv
    ·exact h.s2 p q u v (by omega) k2 k3 hu hv
end
open Go.RowKit
abbrev dD (w:World) (base:Nat) (A:Option Addr) (cap:Nat) (l:List (ByteArray×Nat)):Prop:=aA 150 2 jY w base A cap l
theorem Cz (v:ByteArray) (x:ByteArray×Nat):∀(l:List (ByteArray×Nat)) (j:Nat),l[j]?=some x->(l.set j (v,x.2)).flatMap jY=(l.flatMap jY).set (j*2) (.string v)
 |y::l,0,h=>by
  simp only [ad2,Option.some.injEq] at h;subst h
  rfl
 |y::l,j+1,h=>by
  rw [Oo] at h;rw [List.set_cons_succ,jy,jy,Cz v x l j h,Iq _ _ (by rw [jO];omega),jO,show (j+1)*2-2=j*2 by omega]
theorem CB (b:Nat) (x:ByteArray×Nat):∀(l:List (ByteArray×Nat)) (j:Nat),l[j]?=some x->(l.set j (x.1,b)).flatMap jY=(l.flatMap jY).set (j*2+1) (pk b)
 |y::l,0,h=>by
  simp only [ad2,Option.some.injEq] at h;subst h
  rfl
 |y::l,j+1,h=>by
  rw [Oo] at h;rw [List.set_cons_succ,jy,jy,CB b x l j h,Iq _ _ (by rw [jO];omega),jO,show (j+1)*2+1-2=j*2+1 by omega]
theorem dD.at_ {w:World} {base g:Nat} {cap:Nat} {l:List (ByteArray×Nat)} (h:dD w base (some ⟨g,0,none⟩) cap l) {j:Nat} {x:ByteArray×Nat} (hx:l[j]?=some x):
  base<=g/\g<w.heap.size/\w.cell? ⟨g,j*2,none⟩=some (.string x.1)/\w.cell? ⟨g,j*2+1,none⟩=some (.pointer (some ⟨x.2,0,none⟩))/\w.frozen? ⟨g,j*2,none⟩=false/\w.frozen? ⟨g,j*2+1,none⟩=false:=by
 obtain ⟨b,o,hA,hb,c0,c1⟩:=(aA.read jO h).child hx;injection hA with hA
 injection hA with hA1 hA2 _
 subst hA1;rw [<-hA2,Nat.zero_add] at c0 c1;have h':w.ownsRow base 150 2 (.slice (some ⟨g,0,none⟩) l.length cap) l.length (l.flatMap jY):=h;exact ⟨(h.block g rfl).1,hb,c0,c1,lM.frozenAt h' _,lM.frozenAt h' _⟩
theorem dD.set {w:World} {base g:Nat} {cap:Nat} {l:List (ByteArray×Nat)} (h:dD w base (some ⟨g,0,none⟩) cap l) {j:Nat} {x:ByteArray×Nat} (hx:l[j]?=some x) (y:ByteArray×Nat):
  dD ((w.setCell ⟨g,j*2,none⟩ (.string y.1)).setCell ⟨g,j*2+1,none⟩ (.pointer (some ⟨y.2,0,none⟩))) base (some ⟨g,0,none⟩) cap (l.set j y)/\
   w.grownBy ((w.setCell ⟨g,j*2,none⟩ (.string y.1)).setCell ⟨g,j*2+1,none⟩ (.pointer (some ⟨y.2,0,none⟩))) (some g):=by
 have h':w.ownsRow base 150 2 (.slice (some ⟨g,0,none⟩) l.length cap) l.length (l.flatMap jY):=h;obtain ⟨h2,h3⟩:=lM.stored h' (j*2) (.string y.1);rw [<-Cz y.1 x l j hx] at h2;have hx2:(l.set j (y.1,x.2))[j]?=some (y.1,x.2):=by rw [List.getElem?_set_self (bf hx)]
 obtain ⟨h4,h5⟩:=lM.stored h2 (j*2+1) (pk y.2);rw [<-CB y.2 (y.1,x.2) _ j hx2,List.set_set] at h4;refine ⟨?_,fD h3 h5⟩;show lM _ base 150 2 (.slice (some ⟨g,0,none⟩) (l.set j y).length cap) (l.set j y).length ((l.set j y).flatMap jY);rw [List.length_set];exact h4
theorem dD.two {w:World} {base g:Nat} {cap:Nat} {l:List (ByteArray×Nat)} (h:dD w base (some ⟨g,0,none⟩) cap l) {i j:Nat} {x y:ByteArray×Nat} (hij:i≠j) (hx:l[i]?=some x) (hy:l[j]?=some y):
  dD ((((w.setCell ⟨g,i*2,none⟩ (.string y.1)).setCell ⟨g,i*2+1,none⟩ (.pointer (some ⟨y.2,0,none⟩))).setCell ⟨g,j*2,none⟩ (.string x.1)).setCell ⟨g,j*2+1,none⟩ (.pointer (some ⟨x.2,0,none⟩))) base (some ⟨g,0,none⟩) cap (qH l i j)/\
   w.grownBy ((((w.setCell ⟨g,i*2,none⟩ (.string y.1)).setCell ⟨g,i*2+1,none⟩ (.pointer (some ⟨y.2,0,none⟩))).setCell ⟨g,j*2,none⟩ (.string x.1)).setCell ⟨g,j*2+1,none⟩ (.pointer (some ⟨x.2,0,none⟩))) (some g):=by
 obtain ⟨h1,g1⟩:=dD.set h hx y;have hy2:(l.set i y)[j]?=some y:=by rw [List.getElem?_set_ne hij,hy]
 obtain ⟨h2,g2⟩:=dD.set h1 hy2 x;rw [QG hx hy];exact ⟨h2,fD g1 g2⟩
theorem aah {α:Type} (l:List α) {i j:Nat} (hij:i≠j):qH l i j=qH l j i:=by
 unfold qH
 cases hx:l[i]? with
 |none=>cases hy:l[j]?<;>rfl
 |some x=>
  cases hy:l[j]? with
  |none=>rfl
  |some y=>exact List.set_comm _ _ hij
def Swd (w _wr:World) (base g cap:Nat) (l:List (ByteArray×Nat)) (v:World):Prop:=dD v base (some ⟨g,0,none⟩) cap l/\w.grownBy v (some g)
theorem CF {w wr:World} {base g:Nat} {cap:Nat} {l:List (ByteArray×Nat)} (h:dD wr base (some ⟨g,0,none⟩) cap l) (hg:w.grownBy wr (some g)) {i j:Nat} {x y:ByteArray×Nat} (hij:i≠j) (hx:l[i]?=some x) (hy:l[j]?=some y) (n:Nat):
  Swd w wr base g cap (qH l i j) (((((wr.setCell ⟨g,i*2,none⟩ (.string y.1)).setCell ⟨g,i*2+1,none⟩ (.pointer (some ⟨y.2,0,none⟩))).setCell ⟨g,j*2,none⟩ (.string x.1)).setCell ⟨g,j*2+1,none⟩ (.pointer (some ⟨x.2,0,none⟩))).drewN n):=by
 obtain ⟨h1,h2⟩:=dD.two h hij hx hy;exact ⟨h1.drewN n,I5 (fD hg h2) n⟩
theorem FV {w wr:World} {base g:Nat} {cap:Nat} {l:List (ByteArray×Nat)} (h:dD wr base (some ⟨g,0,none⟩) cap l) (hg:w.grownBy wr (some g)) {i j:Nat} {x y:ByteArray×Nat} (hij:i≠j) (hx:l[i]?=some x) (hy:l[j]?=some y) (n:Nat):
  Swd w wr base g cap (qH l i j) (((((wr.setCell ⟨g,j*2,none⟩ (.string x.1)).setCell ⟨g,j*2+1,none⟩ (.pointer (some ⟨x.2,0,none⟩))).setCell ⟨g,i*2,none⟩ (.string y.1)).setCell ⟨g,i*2+1,none⟩ (.pointer (some ⟨y.2,0,none⟩))).drewN n):=by
 rw [aah l hij];exact CF h hg (fun e=>hij e.symm) hy hx n
theorem Mg (base g cap:Nat) (l0:List (ByteArray×Nat)) (a b n:Nat) (F:Value) (w:World) (h:dD w base (some ⟨g,0,none⟩) cap l0) (hab:a+n<=b) (hbl:b+n<=l0.length) (hl:l0.length<=1000000):
  Calls Try.prog 231 #[.slice (some ⟨g,0,none⟩) l0.length cap,.int .i64 (a:Int),.int .i64 (b:Int),.int .i64 (n:Int),F] w fun e w'=>e= .returned (.tuple #[])/\∃l',zl a b n l0 l'/\Mv a (b+n) l0 l'/\dD w' base (some ⟨g,0,none⟩) cap l'/\w.grownBy w' (some g):=by
 have HM:=aC h;clear h;go_enter Try.func231,Try.ntmps231;go_wp2_with fail;go_loopw [10] (fun s10 wr=>∃(i:Nat) (l:List (ByteArray×Nat)),s10= .int .i64 i/\i<=n/\Hid (zl a b i l0 l/\Mv a (b+n) l0 l/\dD wr base (some ⟨g,0,none⟩) cap l/\w.grownBy wr (some g))) (fun s10 _=>n-(intOf s10).toNat)
 case atStart=>exact ⟨0,l0,rfl,h_ _,aC ⟨zl.zero a b l0,Mv.refl _ _ _,HM.out,aeu.refl _ _⟩⟩
 case round=>
  obtain ⟨i,l,rfl,hi,M⟩:=hrel;by_cases hp:i<n
  ·have hl1:Hid (l.length=l0.length):=aC M.out.2.1.len
   obtain ⟨x,hx⟩:=aD (l:=l) (i:=a+i) (by have:=hl1.out;omega);obtain ⟨y,hy⟩:=aD (l:=l) (i:=b+i) (by have:=hl1.out;omega);have Hx:=aC (Gw hx hy);clear hx hy;obtain ⟨_,hgl,x0,x1,Nv,Ai⟩:=M.out.2.2.1.at_ Hx.out.1;obtain ⟨_,_,y0,y1,fy0,fy1⟩:=M.out.2.2.1.at_ Hx.out.2;go_wp2_with fail;have sa:IntKind.i64.wrap ((a:Int)+(i:Int))=(a:Int)+(i:Int):=aev _ (by omega);have sb:IntKind.i64.wrap ((b:Int)+(i:Int))=(b:Int)+(i:Int):=aev _ (by omega);have ia0:(0:Int)<=(a:Int)+(i:Int):=by omega
   have ib0:(0:Int)<=(b:Int)+(i:Int):=by omega
   have ia1:(a:Int)+(i:Int)<(l0.length:Int):=by omega
   have ib1:(b:Int)+(i:Int)<(l0.length:Int):=by omega
   have ia2:((a:Int)+(i:Int)).toNat=a+i:=by omega
   have ib2:((b:Int)+(i:Int)).toNat=b+i:=by omega
   have af5:a+i≠b+i:=by omega
   have Z1:=aC (fun k=>CF M.out.2.2.1 M.out.2.2.2 af5 Hx.out.1 Hx.out.2 k);have Z2:=aC (fun k=>FV M.out.2.2.1 M.out.2.2.2 af5 Hx.out.1 Hx.out.2 k);go_region_law (fail)
   all_goals
    clear x0 x1 y0 y1 Nv Ai fy0 fy1 sa sb ia0 ib0 ia1 ib1 ia2 ib2;go_wp2_with fail;go_roundw
    case rel=>
     have hE:zl a b (i+1) l0 (qH l (a+i) (b+i)):=M.out.1.next (by omega) (by have:=hl1.out;omega) (by have:=hl1.out;omega);have hM:Mv a (b+n) l0 (qH l (a+i) (b+i)):=M.out.2.1.trans (Mv.swap (by have:=hl1.out;omega) (by have:=hl1.out;omega) (by omega) (by omega) (by omega) (by omega));exact ⟨i+1,qH l (a+i) (b+i),by go_num,hp,aC ⟨hE,hM,by first|exact Z1.out 1|exact Z2.out 1⟩⟩
    case measure=>simp [intOf];omega
  ·go_wp2_with fail
   have e:i=n:=by omega
   subst e;go_end0;exact ⟨rfl,l,M.out.1,M.out.2.1,M.out.2.2.1,M.out.2.2.2⟩
def zm (base g cap:Nat) (a b:Nat) (l0:List (ByteArray×Nat)) (R:List (ByteArray×Nat)->Prop) (w:World) (e:Ending) (w':World):Prop:=
 e= .returned (.tuple #[])/\∃l',R l'/\Mv a b l0 l'/\dD w' base (some ⟨g,0,none⟩) cap l'/\w.grownBy w' (some g)
theorem yD (base g cap:Nat) (l0:List (ByteArray×Nat)) (a b n L:Nat) (ai bi ni:Int) (F:Value) (w:World) (h:dD w base (some ⟨g,0,none⟩) cap l0) (hL:l0.length=L) (ha:ai=a) (hb:bi=b) (hn:ni=n) (hab:a+n<=b) (hbl:b+n<=L) (hl:L<=1000000):
  Calls Try.prog 231 #[.slice (some ⟨g,0,none⟩) L cap,.int .i64 ai,.int .i64 bi,.int .i64 ni,F] w (zm base g cap a (b+n) l0 (zl a b n l0) w):=by
 subst ha hb hn hL;exact (Mg base g cap l0 a b n F w h hab hbl hl).mono fun _ _ h=>h
theorem WT (base g cap:Nat) (l0:List (ByteArray×Nat)) (a m b L:Nat) (ai mi bi:Int) (F:Value) (w:World) (h:dD w base (some ⟨g,0,none⟩) cap l0) (hL:l0.length=L) (ha:ai=a) (hm:mi=m) (hb:bi=b) (QI:a<m) (hmb:m<b) (hbl:b<=L) (hl:L<=1000000):
  Calls Try.prog 223 #[.slice (some ⟨g,0,none⟩) L cap,.int .i64 ai,.int .i64 mi,.int .i64 bi,F] w (zm base g cap a b l0 (Turn a m b l0) w):=by
 subst ha hm hb;have HM:=aC h;have HL:=aC hL;clear h hL;go_enter Try.func223,Try.ntmps223;go_wp2_with fail;go_loopw [10,11] (fun s10 s11 wr=>∃(i j:Nat) (l:List (ByteArray×Nat)),s10= .int .i64 i/\s11= .int .i64 j/\0<i/\0<j/\a+i<=m/\m+j<=b/\Hid ((∀l',Turn (m-i) m (m+j) l l'->Turn a m b l0 l')/\Mv a b l0 l/\dD wr base (some ⟨g,0,none⟩) cap l/\w.grownBy wr (some g))) (fun s10 s11 _=>(intOf s10).toNat+(intOf s11).toNat)
 case atStart=>
  refine ⟨m-a,b-m,l0,congrArg (aes .i64) (by omega),congrArg (aes .i64) (by omega),by omega,by omega,by omega,by omega,aC ⟨fun l' h=>?_,Mv.refl _ _ _,HM.out,aeu.refl _ _⟩⟩;rw [show m-(m-a)=a by omega,show m+(b-m)=b by omega] at h;exact h
 case round=>
  obtain ⟨i,j,l,rfl,rfl,hi0,hj0,hi,hj,M⟩:=hrel;clear HM;have hl1:Hid (l.length=L):=aC (M.out.2.1.len.trans HL.out);by_cases hij:i=j
  ·subst hij
   have hq:((i:Int) !=(i:Int))=false:=by simp
   go_wp2_with fail;refine (yD base g cap l (m-i) m i L _ _ _ F _ M.out.2.2.1 hl1.out (by omega) rfl rfl (by omega) (by omega) hl).mono ?_;rintro e w1 ⟨rfl,l1,h1,h2,h3,h4⟩;have Z:=aC (Gw h1 (Gw h2 (Gw h3 h4)));clear h1 h2 h3 h4;go_wp2_with fail;go_end0;exact ⟨rfl,l1,M.out.1 l1 (Turn.last (by omega) Z.out.1),M.out.2.1.trans (Z.out.2.1.wide (by omega) (by omega)),Z.out.2.2.1,fD M.out.2.2.2 Z.out.2.2.2⟩
  ·have hq:((i:Int) !=(j:Int))=true:=by simp;omega
   by_cases hlt:j<i
   ·go_wp2_with fail
    refine (yD base g cap l (m-i) m j L _ _ _ F _ M.out.2.2.1 hl1.out (by omega) rfl rfl (by omega) (by omega) hl).mono ?_;rintro e w1 ⟨rfl,l1,h1,h2,h3,h4⟩;have Z:=aC (Gw h1 (Gw h2 (Gw h3 h4)));clear h1 h2 h3 h4 hq;go_wp2_with fail;go_roundw
    case rel=>
     refine ⟨i-j,j,l1,congrArg (aes .i64) (by omega),rfl,by omega,by omega,by omega,by omega,aC ⟨fun l' h=>M.out.1 l' (Turn.ahG (by omega) hlt Z.out.1 h),M.out.2.1.trans (Z.out.2.1.wide (by omega) (by omega)),Z.out.2.2.1,fD M.out.2.2.2 Z.out.2.2.2⟩⟩
    case measure=>simp [intOf];omega
   ·go_wp2_with fail
    refine (yD base g cap l (m-i) (m+j-i) i L _ _ _ F _ M.out.2.2.1 hl1.out (by omega) (by omega) rfl (by omega) (by omega) hl).mono ?_;rintro e w1 ⟨rfl,l1,h1,h2,h3,h4⟩;have Z:=aC (Gw h1 (Gw h2 (Gw h3 h4)));clear h1 h2 h3 h4 hq;go_wp2_with fail;go_roundw
    case rel=>
     refine ⟨i,j-i,l1,rfl,congrArg (aes .i64) (by omega),by omega,by omega,by omega,by omega,aC ⟨fun l' h=>M.out.1 l' (Turn.ahH (by omega) (by omega) Z.out.1 h),M.out.2.1.trans (Z.out.2.1.wide (by omega) (by omega)),Z.out.2.2.1,fD M.out.2.2.2 Z.out.2.2.2⟩⟩
    case measure=>simp [intOf];omega
attribute [local go_sem ↓] Go.wp_at_zero Go.wp_at_succ
def lG (x y:ByteArray×Nat):Prop:=dz y.1 x.1=false
theorem nu (x y z:ByteArray×Nat) (h:lG x y) (k:lG y z):lG x z:=uL k h
theorem ug {x y:ByteArray×Nat} (h:dz x.1 y.1=true):lG x y:=by
 unfold lG
 cases e:dz y.1 x.1
 ·rfl
 ·have:=og h e
  rw [fP] at this
  cases this
theorem CG (a b:ByteArray):decide (AL a b<0)=dz a b:=by
 unfold AL dz
 cases Op.bytesLess a.toList b.toList
 ·simp
  split<;>omega
 ·simp
theorem zn (a b:ByteArray) (p q:Option Addr) (w:World):
  Calls Try.prog 140 #[.agg #[.string a,.pointer p],.agg #[.string b,.pointer q]] w fun e w'=>e= .returned (.int .i64 (AL a b))/\Below w.heap.size w w':=by
 go_enter Try.func140,Try.ntmps140;go_wp2_with (go_at_call 135;refine (PX a b _).mono ?_;rintro e w' ⟨rfl,rfl⟩);go_ret;exact ⟨rfl,((aT _ _).alloc (bN _) _).alloc (by simp) _⟩
abbrev Pd:Value:=.func (.func 140) #[] #[]
theorem o7 {a b c:World} {row:Option Nat} (h:a.grownBy b row) (k:Below b.heap.size b c):a.grownBy c row:=
 ⟨k.os.trans h.os,k.tape.trans h.tape,k.output.trans h.output,Nat.le_trans h.size k.size,fun i hi hne=>(k.block i (Nat.lt_of_lt_of_le hi h.size)).trans (h.block i hi hne)⟩
theorem AU.WU {α:Type} {le:α->α->Prop} {l:List α} {a j i:Nat} {x z:α} (h:AU le l a j i x) (hz:l[j-1]?=some z) (hxz:le x z) (haj:a<j) (hl:j<l.length):AU le (qH l j (j-1)) a (j-1) i x:=by
 cases j with
 |zero=>omega
 |succ j=>exact h.next hz hxz (by omega) hl
theorem El (base g cap:Nat) (l0:List (ByteArray×Nat)) (a b L:Nat) (ai bi:Int) (w:World) (h:dD w base (some ⟨g,0,none⟩) cap l0) (hL:l0.length=L) (ha:ai=a) (hb:bi=b) (hab:a<=b) (hbl:b<=L) (hl:L<=1000000):
  Calls Try.prog 212 #[.slice (some ⟨g,0,none⟩) L cap,.int .i64 ai,.int .i64 bi,Pd] w (zm base g cap a b l0 (fun l'=>gW lG l' a b) w):=by
 subst ha hb;have HM:=aC h;have HL:=aC hL;clear h hL;go_enter Try.func212,Try.ntmps212;go_wp2_with fail;go_loopw [8] (fun s8 wr=>∃(i:Nat) (l:List (ByteArray×Nat)),s8= .int .i64 i/\a<i/\(i<=b\/i=a+1)/\Hid (gW lG l a i/\Mv a b l0 l/\dD wr base (some ⟨g,0,none⟩) cap l/\w.grownBy wr (some g))) (fun s8 _=>b-(intOf s8).toNat)
 case atStart=>exact ⟨a+1,l0,congrArg (aes .i64) (by omega),by omega,by omega,aC ⟨gW.one _ _ _ (bN _),Mv.refl _ _ _,HM.out,aeu.refl _ _⟩⟩
 case round=>
  obtain ⟨i,l,rfl,hai,hib,M⟩:=hrel;clear HM;have hl1:Hid (l.length=L):=aC (M.out.2.1.len.trans HL.out);by_cases hp:i<b
  ·obtain ⟨x,hx⟩:=aD (l:=l) (i:=i) (by have:=hl1.out;omega)
   have Hx:=aC hx;clear hx;go_wp2_with fail;obtain ⟨wo,rfl⟩:∃wo:World,wo=wr:=⟨_,rfl⟩;go_loopw [9] (fun s9 wr=>∃(j:Nat) (l:List (ByteArray×Nat)),s9= .int .i64 j/\a<=j/\j<=i/\Hid (AU lG l a j i x/\Mv a b l0 l/\dD wr base (some ⟨g,0,none⟩) cap l/\w.grownBy wr (some g))) (fun s9 _=>(intOf s9).toNat)
   case atStart=>exact ⟨i,l,rfl,by omega,bN _,aC ⟨AU.start M.out.1 Hx.out,M.out.2⟩⟩
   case round=>
    clear M Hx hl1;obtain ⟨j,l,rfl,haj,hji,M⟩:=hrel;have hl1:Hid (l.length=L):=aC (M.out.2.1.len.trans HL.out);by_cases acM:a<j
    ·have hd:decide (a<j)=true:=decide_eq_true acM
     obtain ⟨z,hz⟩:=aD (l:=l) (i:=j-1) (by have:=hl1.out;omega);have Hz:=aC hz;clear hz;obtain ⟨_,hgl,x0,x1,Nv,Ai⟩:=M.out.2.2.1.at_ M.out.1.at_;obtain ⟨_,_,z0,z1,Ud,Ue⟩:=M.out.2.2.1.at_ Hz.out;have sj:IntKind.i64.wrap ((j:Int)-1)=(j:Int)-1:=aev _ (by omega);have ij0:(0:Int)<=(j:Int)-1:=by omega
     have ij1:(j:Int)-1<(L:Int):=by omega
     have ij2:((j:Int)-1).toNat=j-1:=by omega
     have ij3:(1:Int)<=(j:Int):=by omega
     have ik0:(0:Int)<=(j:Int):=by omega
     have ik1:(j:Int)<(L:Int):=by omega
     have ik2:j<L:=by omega
     cases hlt:dz x.1 z.1
     ·have hd2:decide (AL x.1 z.1<0)=false:=by rw [CG,hlt]
      have yK:=aC hlt;clear hlt Nv Ai Ud Ue;go_wp2_with fail
      go_region_held3 (fun v=>v.cell? ⟨g,j*2,none⟩=some (.string x.1)/\v.cell? ⟨g,j*2+1,none⟩=some (.pointer (some ⟨x.2,0,none⟩))/\v.cell? ⟨g,(j-1)*2,none⟩=some (.string z.1)/\v.cell? ⟨g,(j-1)*2+1,none⟩=some (.pointer (some ⟨z.2,0,none⟩))) (first|go_keep|exact ⟨y0,y1,t0,t1⟩)
       ((go_at_call 140;(with_reducible refine (zn _ _ _ _ _).mono ?_);rintro e w1 ⟨rfl,hb1⟩;have y0:=(hb1.cell (p:=⟨g,j*2,none⟩) hgl).trans x0;have y1:=(hb1.cell (p:=⟨g,j*2+1,none⟩) hgl).trans x1;have t0:=(hb1.cell (p:=⟨g,(j-1)*2,none⟩) hgl).trans z0;have t1:=(hb1.cell (p:=⟨g,(j-1)*2+1,none⟩) hgl).trans z1;have HB1:Hid (Below wr.heap.size wr w1):=aC (by first|exact hb1|exact (aT _ _).drew.trans hb1);clear hb1))
      have MW:Hid (dD w1 base (some ⟨g,0,none⟩) cap l/\w.grownBy w1 (some g)):=aC (Gw (aA.below M.out.2.2.1 HB1.out (bN _)) (o7 M.out.2.2.2 HB1.out));clear x0 x1 z0 z1 y0 y1 t0 t1 HB1 sj ij0 ij1 ij2 ij3 ik0 ik1 ik2 hgl;go_wp2_with fail;go_roundw
      case rel=>
       exact ⟨i+1,l,by go_num,by omega,by omega,aC ⟨M.out.1.stop nu (.inr ⟨z,Hz.out,yK.out⟩),M.out.2.1,MW.out.1,MW.out.2⟩⟩
      case measure=>simp [intOf];omega
     ·have hd2:decide (AL x.1 z.1<0)=true:=by rw [CG,hlt]
      have yK:=aC hlt;clear hlt Nv Ai Ud Ue;go_wp2_with fail
      go_region_held3 (fun v=>v.cell? ⟨g,j*2,none⟩=some (.string x.1)/\v.cell? ⟨g,j*2+1,none⟩=some (.pointer (some ⟨x.2,0,none⟩))/\v.cell? ⟨g,(j-1)*2,none⟩=some (.string z.1)/\v.cell? ⟨g,(j-1)*2+1,none⟩=some (.pointer (some ⟨z.2,0,none⟩))) (first|go_keep|exact ⟨y0,y1,t0,t1⟩)
       ((go_at_call 140;(with_reducible refine (zn _ _ _ _ _).mono ?_);rintro e w1 ⟨rfl,hb1⟩;have y0:=(hb1.cell (p:=⟨g,j*2,none⟩) hgl).trans x0;have y1:=(hb1.cell (p:=⟨g,j*2+1,none⟩) hgl).trans x1;have t0:=(hb1.cell (p:=⟨g,(j-1)*2,none⟩) hgl).trans z0;have t1:=(hb1.cell (p:=⟨g,(j-1)*2+1,none⟩) hgl).trans z1;have HB1:Hid (Below wr.heap.size wr w1):=aC (by first|exact hb1|exact (aT _ _).drew.trans hb1);clear hb1))
      have MW:Hid (dD w1 base (some ⟨g,0,none⟩) cap l/\w.grownBy w1 (some g)):=aC (Gw (aA.below M.out.2.2.1 HB1.out (bN _)) (o7 M.out.2.2.2 HB1.out));clear x0 x1 z0 z1 y0 y1 t0 t1 HB1 hgl;obtain ⟨_,hgl,x0,x1,Nv,Ai⟩:=MW.out.1.at_ M.out.1.at_;obtain ⟨_,_,z0,z1,Ud,Ue⟩:=MW.out.1.at_ Hz.out;have hjj:j≠j-1:=by omega
      have Z1:=aC (fun k=>CF MW.out.1 MW.out.2 hjj M.out.1.at_ Hz.out k);have Z2:=aC (fun k=>FV MW.out.1 MW.out.2 hjj M.out.1.at_ Hz.out k);go_wp2_with fail;go_region_law (fail)
      all_goals
       clear x0 x1 z0 z1 Nv Ai Ud Ue sj ij0 ij1 ij2 ij3 ik0 ik1 ik2 hgl;go_wp2_with fail;go_roundw
       case rel=>
        have hI:=M.out.1.WU Hz.out (ug yK.out) acM (by have:=hl1.out;omega);have hM:Mv a b l0 (qH l j (j-1)):=M.out.2.1.trans (Mv.swap (by have:=hl1.out;omega) (by have:=hl1.out;omega) (by omega) (by omega) (by omega) (by omega));exact ⟨j-1,qH l j (j-1),congrArg (aes .i64) (by omega),by omega,by omega,aC ⟨hI,hM,by first|exact Z1.out 1|exact Z2.out 1⟩⟩
       case measure=>simp [intOf];omega
    ·have hd:decide (a<j)=false:=decide_eq_false acM
     go_wp2_with fail;go_quiet (fail);go_wp2_with fail;go_roundw
     case rel=>
      exact ⟨i+1,l,by go_num,by omega,by omega,aC ⟨M.out.1.stop nu (.inl (by omega)),M.out.2.1,M.out.2.2.1.drewN _,I5 M.out.2.2.2 _⟩⟩
     case measure=>simp [intOf];omega
  ·go_wp2_with fail
   go_end0;have e:i=b\/b<=a+1:=by omega
   refine ⟨rfl,l,?_,M.out.2.1,M.out.2.2.1,M.out.2.2.2⟩;rcases e with rfl|e
   ·exact M.out.1
   ·exact gW.one _ _ _ e
def Ip (base g cap L a m b:Nat):Prop:=
 ∀(l0:List (ByteArray×Nat)) (ai mi bi:Int) (w:World),dD w base (some ⟨g,0,none⟩) cap l0->l0.length=L->ai=a->mi=m->bi=b->a<m->m<b->b<=L->gW lG l0 a m->gW lG l0 m b->
  Calls Try.prog 213 #[.slice (some ⟨g,0,none⟩) L cap,.int .i64 ai,.int .i64 mi,.int .i64 bi,Pd] w (zm base g cap a b l0 (fun l'=>gW lG l' a b) w)
theorem Nw (base g cap L a m b:Nat) (hl:L<=1000000) (hone:m=a+1):Ip base g cap L a m b:=by
 intro l0 ai mi bi w h hL ha hm hb QI hmb hbl s1 s2;subst ha hm hb;obtain ⟨x,hx⟩:=aD (l:=l0) (i:=a) (by omega);have HM:=aC h;have HL:=aC hL;have H2:=aC s2;have Hx:=aC hx;have hmE:(m:Int)-(a:Int)=1:=by omega
 have HO:=aC hone;clear h hL s1 s2 hx hone;go_enter Try.func213,Try.ntmps213;go_wp2_with fail;clear hmE;go_loopw [10,11] (fun s10 s11 wr=>∃(i j:Nat),s10= .int .i64 i/\s11= .int .i64 j/\m<=i/\i<=j/\j<=b/\Hid ((∀k y,m<=k->k<i->l0[k]?=some y->lG y x)/\(∀k y,j<=k->k<b->l0[k]?=some y->lG x y)/\dD wr base (some ⟨g,0,none⟩) cap l0/\w.grownBy wr (some g))) (fun s10 s11 _=>(intOf s11).toNat-(intOf s10).toNat)
 case atStart=>exact ⟨m,b,rfl,rfl,bN _,by omega,bN _,aC ⟨fun k y h1 h2=>by omega,fun k y h1 h2=>by omega,HM.out,aeu.refl _ _⟩⟩
 case round=>
  obtain ⟨i,j,rfl,rfl,hi,hij,hj,M⟩:=hrel;clear HM;by_cases hp:i<j
  ·obtain ⟨c,hc⟩:∃c,c=(i+j) / 2:=⟨_,rfl⟩
   have hc1:i<=c:=by omega
   have hc2:c<j:=by omega
   have Uf:((i:Int)+(j:Int)) / 2=(c:Int):=by omega
   clear hc;obtain ⟨y,hy⟩:=aD (l:=l0) (i:=c) (by have:=HL.out;omega);have Hy:=aC hy;clear hy;have hcb:c<=b:=by omega
   have LO:Hid (dz y.1 x.1=true->∀k z,m<=k->k<c+1->l0[k]?=some z->lG z x):=aC fun hlt k z h1 h2 hz=>by
    by_cases e:k=c
    ·subst e
     rw [Hy.out] at hz;injection hz with hz
     subst hz;exact ug hlt
    ·exact nu _ _ _ (H2.out k c z y (by omega) (by omega) (by omega) hz Hy.out) (ug hlt)
   have HI:Hid (dz y.1 x.1=false->∀k z,c<=k->k<b->l0[k]?=some z->lG x z):=aC fun hlt k z h1 h2 hz=>by
    by_cases e:k=c
    ·subst e
     rw [Hy.out] at hz;injection hz with hz
     subst hz;exact hlt
    ·exact nu _ _ _ (show lG x y from hlt) (H2.out c k y z (by omega) (by omega) h2 Hy.out hz)
   obtain ⟨_,hgl,x0,x1,_,_⟩:=M.out.2.2.1.at_ Hx.out;obtain ⟨_,_,z0,z1,_,_⟩:=M.out.2.2.1.at_ Hy.out;go_wp2_with fail;have HcE:=aC Uf;clear Uf;have ic0:(0:Int)<=(c:Int):=by omega
   have ic1:(c:Int)<(L:Int):=by omega
   have ic2:c<L:=by omega
   have ia0:(0:Int)<=(a:Int):=by omega
   have ia1:(a:Int)<(L:Int):=by omega
   have ia2:a<L:=by omega
   cases hlt:dz y.1 x.1
   all_goals
    have hd2:=CG y.1 x.1;rw [hlt] at hd2;have yK:=aC hlt;clear hlt
    go_region_held3 (fun v=>v.cell? ⟨g,a*2,none⟩=some (.string x.1)/\v.cell? ⟨g,a*2+1,none⟩=some (.pointer (some ⟨x.2,0,none⟩))/\v.cell? ⟨g,c*2,none⟩=some (.string y.1)/\v.cell? ⟨g,c*2+1,none⟩=some (.pointer (some ⟨y.2,0,none⟩))) (first|go_keep|exact ⟨y0,y1,t0,t1⟩)
     ((go_at_call 140;(with_reducible refine (zn _ _ _ _ _).mono ?_);rintro e w1 ⟨rfl,hb1⟩;have y0:=(hb1.cell (p:=⟨g,a*2,none⟩) hgl).trans x0;have y1:=(hb1.cell (p:=⟨g,a*2+1,none⟩) hgl).trans x1;have t0:=(hb1.cell (p:=⟨g,c*2,none⟩) hgl).trans z0;have t1:=(hb1.cell (p:=⟨g,c*2+1,none⟩) hgl).trans z1;have HB1:Hid (Below wr.heap.size wr w1):=aC (by first|exact hb1|exact (aT _ _).drew.trans hb1);clear hb1))
    have MW:Hid (dD w1 base (some ⟨g,0,none⟩) cap l0/\w.grownBy w1 (some g)):=aC (Gw (aA.below M.out.2.2.1 HB1.out (bN _)) (o7 M.out.2.2.2 HB1.out));clear x0 x1 z0 z1 y0 y1 t0 t1 HB1 hgl ic0 ic1 ia0 ia1;go_wp2_with fail;go_roundw
    case measure=>simp [intOf];omega
    case rel=>first
     |exact ⟨i,c,rfl,rfl,hi,hc1,hcb,aC ⟨M.out.1,HI.out yK.out,MW.out.1,MW.out.2⟩⟩
     |exact ⟨c+1,j,by go_num,rfl,by omega,by omega,hj,aC ⟨LO.out yK.out,M.out.2.1,MW.out.1,MW.out.2⟩⟩
  ·have hie:i=j:=by omega
   subst hie;have hi1:(1:Int)<=(i:Int):=by omega
   go_wp2_with fail;have MI:=aC M.out;clear M;obtain ⟨wo,rfl⟩:∃wo:World,wo=wr:=⟨_,rfl⟩;go_loopw [13] (fun s13 wr=>∃(k:Nat) (l:List (ByteArray×Nat)),s13= .int .i64 k/\a<=k/\k+1<=i/\Hid (Uc a k l0 l/\Mv a b l0 l/\dD wr base (some ⟨g,0,none⟩) cap l/\w.grownBy wr (some g))) (fun s13 _=>i-(intOf s13).toNat)
   case atStart=>exact ⟨a,l0,rfl,bN _,by omega,aC ⟨Uc.zero a l0,Mv.refl _ _ _,MI.out.2.2.1,MI.out.2.2.2⟩⟩
   case round=>
    obtain ⟨k,l,rfl,hak,hki,M⟩:=hrel;have hl1:Hid (l.length=L):=aC (M.out.2.1.len.trans HL.out);by_cases hk:k+1<i
    ·obtain ⟨y,hy⟩:=aD (l:=l) (i:=k) (by have:=hl1.out;omega)
     obtain ⟨z,hz⟩:=aD (l:=l) (i:=k+1) (by have:=hl1.out;omega);have Hy:=aC (Gw hy hz);clear hy hz;obtain ⟨_,hgl,x0,x1,Nv,Ai⟩:=M.out.2.2.1.at_ Hy.out.1;obtain ⟨_,_,z0,z1,Ud,Ue⟩:=M.out.2.2.1.at_ Hy.out.2;have hkd:decide ((k:Int)<(i:Int)-1)=true:=decide_eq_true (by omega);have sj:IntKind.i64.wrap ((k:Int)+1)=(k:Int)+1:=aev _ (by omega);have ij0:(0:Int)<=(k:Int)+1:=by omega
     have ij1:(k:Int)+1<(L:Int):=by omega
     have ij2:((k:Int)+1).toNat=k+1:=by omega
     have ik0:(0:Int)<=(k:Int):=by omega
     have ik1:(k:Int)<(L:Int):=by omega
     have ik2:k<L:=by omega
     have hjj:k≠k+1:=by omega
     have Z1:=aC (fun n=>CF M.out.2.2.1 M.out.2.2.2 hjj Hy.out.1 Hy.out.2 n);have Z2:=aC (fun n=>FV M.out.2.2.1 M.out.2.2.2 hjj Hy.out.1 Hy.out.2 n);go_wp2_with fail;go_region_law (fail)
     all_goals
      clear x0 x1 z0 z1 Nv Ai Ud Ue sj ij0 ij1 ij2 ik0 ik1 ik2 hgl hjj;go_wp2_with fail;go_roundw
      case rel=>
       have hM:Mv a b l0 (qH l k (k+1)):=M.out.2.1.trans (Mv.swap (by have:=hl1.out;omega) (by have:=hl1.out;omega) (by omega) (by omega) (by omega) (by omega));exact ⟨k+1,qH l k (k+1),by go_num,by omega,by omega,aC ⟨M.out.1.next hak (by have:=hl1.out;omega),hM,by first|exact Z1.out 1|exact Z2.out 1⟩⟩
      case measure=>simp [intOf];omega
    ·have hkd:decide ((k:Int)<(i:Int)-1)=false:=decide_eq_false (by omega)
     go_wp2_with fail;go_end0;have hm1:=HO.out;refine ⟨rfl,l,?_,M.out.2.1,M.out.2.2.1,M.out.2.2.2⟩;exact acI nu M.out.1 hak (by omega) Hx.out (by rw [<-hm1];exact H2.out) (fun j y h1 h2 hy=>MI.out.1 j y (by omega) (by omega) hy) (fun j y h1 h2 hy=>MI.out.2.1 j y (by omega) (by omega) hy)
theorem Mf.WU {α:Type} {c m:Nat} {l l':List α} (h:Mf c m l l') (hc0:0<c) (hcm:c<=m) (hc:c<l'.length):Mf (c-1) m l (qH l' c (c-1)):=by
 cases c with
 |zero=>omega
 |succ c=>exact h.next hcm hc
theorem Mh (base g cap L a m b:Nat) (hl:L<=1000000) (hone:b=m+1) (hno:m≠a+1):Ip base g cap L a m b:=by
 intro l0 ai mi bi w h hL ha hm hb QI hmb hbl s1 s2;subst ha hm hb;obtain ⟨x,hx⟩:=aD (l:=l0) (i:=m) (by omega);have HM:=aC h;have HL:=aC hL;have H2:=aC s1;have Hx:=aC hx;have hmE:(b:Int)-(m:Int)=1:=by omega
 have hmF:((m:Int)-(a:Int)==1)=false:=by simp;omega
 have HNo:=aC hno;have HO:=aC hone;clear h hL s1 s2 hx hone hno;go_enter Try.func213,Try.ntmps213;go_wp2_with fail;clear hmE;go_loopw [14,15] (fun s10 s11 wr=>∃(i j:Nat),s10= .int .i64 i/\s11= .int .i64 j/\a<=i/\i<=j/\j<=m/\Hid ((∀k y,a<=k->k<i->l0[k]?=some y->lG y x)/\(∀k y,j<=k->k<m->l0[k]?=some y->lG x y)/\dD wr base (some ⟨g,0,none⟩) cap l0/\w.grownBy wr (some g))) (fun s10 s11 _=>(intOf s11).toNat-(intOf s10).toNat)
 case atStart=>exact ⟨a,m,rfl,rfl,bN _,by omega,bN _,aC ⟨fun k y h1 h2=>by omega,fun k y h1 h2=>by omega,HM.out,aeu.refl _ _⟩⟩
 case round=>
  obtain ⟨i,j,rfl,rfl,hi,hij,hj,M⟩:=hrel;clear HM;by_cases hp:i<j
  ·obtain ⟨c,hc⟩:∃c,c=(i+j) / 2:=⟨_,rfl⟩
   have hc1:i<=c:=by omega
   have hc2:c<j:=by omega
   have Uf:((i:Int)+(j:Int)) / 2=(c:Int):=by omega
   clear hc;obtain ⟨y,hy⟩:=aD (l:=l0) (i:=c) (by have:=HL.out;omega);have Hy:=aC hy;clear hy;have hcb:c<=m:=by omega
   have LO:Hid (dz x.1 y.1=false->∀k z,a<=k->k<c+1->l0[k]?=some z->lG z x):=aC fun hlt k z h1 h2 hz=>by
    by_cases e:k=c
    ·subst e
     rw [Hy.out] at hz;injection hz with hz
     subst hz;exact hlt
    ·exact nu _ _ _ (H2.out k c z y (by omega) (by omega) (by omega) hz Hy.out) (show lG y x from hlt)
   have HI:Hid (dz x.1 y.1=true->∀k z,c<=k->k<m->l0[k]?=some z->lG x z):=aC fun hlt k z h1 h2 hz=>by
    by_cases e:k=c
    ·subst e
     rw [Hy.out] at hz;injection hz with hz
     subst hz;exact ug hlt
    ·exact nu _ _ _ (ug hlt) (H2.out c k y z (by omega) (by omega) h2 Hy.out hz)
   obtain ⟨_,hgl,x0,x1,_,_⟩:=M.out.2.2.1.at_ Hx.out;obtain ⟨_,_,z0,z1,_,_⟩:=M.out.2.2.1.at_ Hy.out;go_wp2_with fail;have HcE:=aC Uf;clear Uf;have ic0:(0:Int)<=(c:Int):=by omega
   have ic1:(c:Int)<(L:Int):=by omega
   have ic2:c<L:=by omega
   have ia0:(0:Int)<=(m:Int):=by omega
   have ia1:(m:Int)<(L:Int):=by omega
   have ia2:m<L:=by omega
   cases hlt:dz x.1 y.1
   all_goals
    have hd2:=CG x.1 y.1;rw [hlt] at hd2;have yK:=aC hlt;clear hlt
    go_region_held3 (fun v=>v.cell? ⟨g,m*2,none⟩=some (.string x.1)/\v.cell? ⟨g,m*2+1,none⟩=some (.pointer (some ⟨x.2,0,none⟩))/\v.cell? ⟨g,c*2,none⟩=some (.string y.1)/\v.cell? ⟨g,c*2+1,none⟩=some (.pointer (some ⟨y.2,0,none⟩))) (first|go_keep|exact ⟨y0,y1,t0,t1⟩)
     ((go_at_call 140;(with_reducible refine (zn _ _ _ _ _).mono ?_);rintro e w1 ⟨rfl,hb1⟩;have y0:=(hb1.cell (p:=⟨g,m*2,none⟩) hgl).trans x0;have y1:=(hb1.cell (p:=⟨g,m*2+1,none⟩) hgl).trans x1;have t0:=(hb1.cell (p:=⟨g,c*2,none⟩) hgl).trans z0;have t1:=(hb1.cell (p:=⟨g,c*2+1,none⟩) hgl).trans z1;have HB1:Hid (Below wr.heap.size wr w1):=aC (by first|exact hb1|exact (aT _ _).drew.trans hb1);clear hb1))
    have MW:Hid (dD w1 base (some ⟨g,0,none⟩) cap l0/\w.grownBy w1 (some g)):=aC (Gw (aA.below M.out.2.2.1 HB1.out (bN _)) (o7 M.out.2.2.2 HB1.out));clear x0 x1 z0 z1 y0 y1 t0 t1 HB1 hgl ic0 ic1 ia0 ia1;go_wp2_with fail;go_roundw
    case measure=>simp [intOf];omega
    case rel=>first
     |exact ⟨i,c,rfl,rfl,hi,hc1,hcb,aC ⟨M.out.1,HI.out yK.out,MW.out.1,MW.out.2⟩⟩
     |exact ⟨c+1,j,by go_num,rfl,by omega,by omega,hj,aC ⟨LO.out yK.out,M.out.2.1,MW.out.1,MW.out.2⟩⟩
  ·have hie:i=j:=by omega
   subst hie;go_wp2_with fail;have MI:=aC M.out;clear M;obtain ⟨wo,rfl⟩:∃wo:World,wo=wr:=⟨_,rfl⟩;go_loopw [17] (fun s13 wr=>∃(k:Nat) (l:List (ByteArray×Nat)),s13= .int .i64 k/\i<=k/\k<=m/\Hid (Mf k m l0 l/\Mv a b l0 l/\dD wr base (some ⟨g,0,none⟩) cap l/\w.grownBy wr (some g))) (fun s13 _=>(intOf s13).toNat)
   case atStart=>exact ⟨m,l0,rfl,by omega,bN _,aC ⟨Mf.zero m l0,Mv.refl _ _ _,MI.out.2.2.1,MI.out.2.2.2⟩⟩
   case round=>
    obtain ⟨k,l,rfl,hak,hki,M⟩:=hrel;have hl1:Hid (l.length=L):=aC (M.out.2.1.len.trans HL.out);by_cases hk:i<k
    ·obtain ⟨y,hy⟩:=aD (l:=l) (i:=k) (by have:=hl1.out;omega)
     obtain ⟨z,hz⟩:=aD (l:=l) (i:=k-1) (by have:=hl1.out;omega);have Hy:=aC (Gw hy hz);clear hy hz;obtain ⟨_,hgl,x0,x1,Nv,Ai⟩:=M.out.2.2.1.at_ Hy.out.1;obtain ⟨_,_,z0,z1,Ud,Ue⟩:=M.out.2.2.1.at_ Hy.out.2;have hkd:decide (i<k)=true:=decide_eq_true hk;have ij3:(1:Int)<=(k:Int):=by omega
     have sj:IntKind.i64.wrap ((k:Int)-1)=(k:Int)-1:=aev _ (by omega);have ij0:(0:Int)<=(k:Int)-1:=by omega
     have ij1:(k:Int)-1<(L:Int):=by omega
     have ij2:((k:Int)-1).toNat=k-1:=by omega
     have ik0:(0:Int)<=(k:Int):=by omega
     have ik1:(k:Int)<(L:Int):=by omega
     have ik2:k<L:=by omega
     have hjj:k≠k-1:=by omega
     have Z1:=aC (fun n=>CF M.out.2.2.1 M.out.2.2.2 hjj Hy.out.1 Hy.out.2 n);have Z2:=aC (fun n=>FV M.out.2.2.1 M.out.2.2.2 hjj Hy.out.1 Hy.out.2 n);go_wp2_with fail;go_region_law (fail)
     all_goals
      clear x0 x1 z0 z1 Nv Ai Ud Ue sj ij0 ij1 ij2 ij3 ik0 ik1 ik2 hgl hjj;go_wp2_with fail;go_roundw
      case rel=>
       have hM:Mv a b l0 (qH l k (k-1)):=M.out.2.1.trans (Mv.swap (by have:=hl1.out;omega) (by have:=hl1.out;omega) (by omega) (by omega) (by omega) (by omega));exact ⟨k-1,qH l k (k-1),congrArg (aes .i64) (by omega),by omega,by omega,aC ⟨M.out.1.WU (by omega) hki (by have:=hl1.out;omega),hM,by first|exact Z1.out 1|exact Z2.out 1⟩⟩
      case measure=>simp [intOf];omega
    ·have hkd:decide (i<k)=false:=decide_eq_false hk
     go_wp2_with fail;go_end0;have hm1:=HO.out;refine ⟨rfl,l,?_,M.out.2.1,M.out.2.2.1,M.out.2.2.2⟩;rw [hm1];exact acJ nu M.out.1 (by omega) hki Hx.out H2.out (fun j y h1 h2 hy=>MI.out.1 j y (by omega) (by omega) hy) (fun j y h1 h2 hy=>MI.out.2.1 j y (by omega) (by omega) hy)
def QJ (a m b mid:Nat):Nat:=if mid<m then mid+m-b else a
def hi0 (m mid:Nat):Nat:=if mid<m then mid else m
structure vG (l:List (ByteArray×Nat)) (a m b mid s r:Nat):Prop where
 lo:QJ a m b mid<=s
 sr:s<=r
 hi:r<=hi0 m mid
 up:QJ a m b mid<s->∀x y,l[s-1]?=some x->l[mid+m-s]?=some y->lG x y
 dn:r<hi0 m mid->∀x y,l[mid+m-r-1]?=some x->l[r]?=some y->lG x y
theorem vG.start (l:List (ByteArray×Nat)) {a m b mid:Nat} (hmid:mid=(a+b) / 2) (QI:a<m) (hmb:m<b):vG l a m b mid (QJ a m b mid) (hi0 m mid):=by
 refine ⟨bN _,?_,bN _,fun h=>absurd h (Nat.lt_irrefl _),fun h=>absurd h (Nat.lt_irrefl _)⟩;unfold QJ hi0;split<;>omega
theorem vG.part {l:List (ByteArray×Nat)} {a m b mid s:Nat} (h:vG l a m b mid s s) (hmid:mid=(a+b) / 2) (QI:a<m) (hmb:m<b):Part lG l a m b mid s:=by
 obtain ⟨h1,_,h3,up,dn⟩:=h;unfold QJ at h1 up;unfold hi0 at h3 dn;by_cases c:mid<m
 ·rw [if_pos c] at h1 h3 up dn
  exact ⟨by omega,by omega,by omega,by omega,fun x y k1 k2 hx hy=>up (by omega) x y hx hy,fun x y k1 k2 hx hy=>dn (by omega) x y hx hy⟩
 ·rw [if_neg c] at h1 h3 up dn
  exact ⟨by omega,by omega,by omega,by omega,fun x y k1 k2 hx hy=>up (by omega) x y hx hy,fun x y k1 k2 hx hy=>dn (by omega) x y hx hy⟩
theorem vG.bounds {l:List (ByteArray×Nat)} {a m b mid s r:Nat} (h:vG l a m b mid s r) (hmid:mid=(a+b) / 2) (_ao8:a<m) (_ao9:m<b) (_ao_:s<r):a<=s/\r<=m/\r<=mid/\mid+m<=s+b:=by
 obtain ⟨h1,_,h3,_,_⟩:=h;unfold QJ at h1;unfold hi0 at h3;by_cases c:mid<m
 ·rw [if_pos c] at h1 h3
  omega
 ·rw [if_neg c] at h1 h3
  omega
theorem vG.right {l:List (ByteArray×Nat)} {a m b mid s r c:Nat} (h:vG l a m b mid s r) (hs:s<=c) (hr:c<r) (hc:∀x y,l[c]?=some x->l[mid+m-1-c]?=some y->lG x y):vG l a m b mid (c+1) r:=
 ⟨by have:=h.lo;omega,by omega,h.hi,fun _ x y hx hy=>hc x y (by simpa using hx) (by rw [<-hy];congr 1;omega),h.dn⟩
theorem vG.left {l:List (ByteArray×Nat)} {a m b mid s r c:Nat} (h:vG l a m b mid s r) (hs:s<=c) (hr:c<r) (hc:∀x y,l[mid+m-1-c]?=some x->l[c]?=some y->lG x y):vG l a m b mid s c:=
 ⟨h.lo,hs,by have:=h.hi;omega,h.up,fun _ x y hx hy=>hc x y (by rw [<-hx];congr 1;omega) hy⟩
theorem Mi (base g cap L a m b:Nat) (hl:L<=1000000) (af6:m≠a+1) (af7:b≠m+1) (ih:∀a' m' b',b'-a'<b-a->Ip base g cap L a' m' b'):Ip base g cap L a m b:=by
 intro l0 ai mi bi w h hL ha hm hb QI hmb hbl s1 s2;subst ha hm hb;obtain ⟨mid,hmid⟩:∃mid,mid=(a+b) / 2:=⟨_,rfl⟩;have HM:=aC h;have HL:=aC hL;have H1:=aC s1;have H2:=aC s2;have zi:=aC ih;have Yr:=aC hmid;have hq1:((m:Int)-(a:Int)==1)=false:=by simp;omega
 have hq2:((b:Int)-(m:Int)==1)=false:=by simp;omega
 have hmE:((a:Int)+(b:Int)) / 2=(mid:Int):=by omega
 have hm1:a<mid:=by omega
 have hm2:mid<b:=by omega
 have HNo:=aC (Gw af6 af7);clear h hL s1 s2 ih hmid af6 af7;go_enter Try.func213,Try.ntmps213;go_upto_if 140 with fail
 go_cut [20,21] (fun s20 s21 wx=>∃p q:Nat,s20= .int .i64 p/\s21= .int .i64 q/\Hid (p=QJ a m b mid/\q=hi0 m mid/\wx=w))
 case first=>as_aux_lemma=>
  by_cases c:mid<m
  ·have hcd:decide (mid<m)=true:=decide_eq_true c
   go_wp2_with fail;go_meet;exact ⟨mid+m-b,mid,congrArg (aes .i64) (by have:=Yr.out;omega),rfl,aC ⟨by unfold QJ;rw [if_pos c],by unfold hi0;rw [if_pos c],rfl⟩⟩
  ·have hcd:decide (mid<m)=false:=decide_eq_false c
   go_wp2_with fail;go_meet;exact ⟨a,m,rfl,rfl,aC ⟨by unfold QJ;rw [if_neg c],by unfold hi0;rw [if_neg c],rfl⟩⟩
 case rest=>
  obtain ⟨p0,q0,rfl,rfl,hpq⟩:=hcut;have Hpq:=aC (Gw hpq.out.1 hpq.out.2.1);obtain rfl:=hpq.out.2.2;obtain ⟨w,rfl⟩:∃w:World,w=wc:=⟨_,rfl⟩;clear hpq hmE;have hn1:(1:Int)<=(mid:Int)+(m:Int):=by omega
  go_wp2_with fail;go_loopw [20,21] (fun s20 s21 wr=>∃(s r:Nat),s20= .int .i64 s/\s21= .int .i64 r/\s<=r/\r<=m/\Hid (vG l0 a m b mid s r/\dD wr base (some ⟨g,0,none⟩) cap l0/\w.grownBy wr (some g))) (fun s20 s21 _=>(intOf s21).toNat-(intOf s20).toNat)
  case atStart=>
   have h0:=vG.start l0 Yr.out QI hmb;rw [<-Hpq.out.1,<-Hpq.out.2] at h0;refine ⟨p0,q0,rfl,rfl,h0.sr,?_,aC ⟨h0,HM.out,aeu.refl _ _⟩⟩;rw [Hpq.out.2];unfold hi0;split<;>omega
  case round=>
   obtain ⟨s,r,rfl,rfl,hsr,hrm,M⟩:=hrel;clear HM;by_cases hp:s<r
   ·as_aux_lemma=>
    obtain ⟨k1,k2,k3,k4⟩:=M.out.1.bounds Yr.out QI hmb hp;obtain ⟨c,hc⟩:∃c,c=(s+r) / 2:=⟨_,rfl⟩;have hc1:s<=c:=by omega
    have hc2:c<r:=by omega
    have Uf:((s:Int)+(r:Int)) / 2=(c:Int):=by omega
    clear hc;obtain ⟨d,hd⟩:∃d,d=mid+m-1-c:=⟨_,rfl⟩;obtain ⟨x,hx⟩:=aD (l:=l0) (i:=c) (by have:=HL.out;omega);obtain ⟨y,hy⟩:=aD (l:=l0) (i:=d) (by have:=HL.out;omega);have Hx:=aC hx;have Hy:=aC hy;clear hx hy;obtain ⟨_,hgl,x0,x1,_,_⟩:=M.out.2.1.at_ Hx.out;obtain ⟨_,_,z0,z1,_,_⟩:=M.out.2.1.at_ Hy.out;go_wp2_with fail;have HcE:=aC Uf;clear Uf;have id0:(0:Int)<=(mid:Int)+(m:Int)-1-(c:Int):=by omega
    have id1:(mid:Int)+(m:Int)-1-(c:Int)<(L:Int):=by omega
    have id4:(c:Int)<=(mid:Int)+(m:Int)-1:=by omega
    have id2:((mid:Int)+(m:Int)-1-(c:Int)).toNat=d:=by omega
    have id3:IntKind.i64.wrap ((mid:Int)+(m:Int)-1-(c:Int))=(mid:Int)+(m:Int)-1-(c:Int):=aev _ (by omega);have ic0:(0:Int)<=(c:Int):=by omega
    have ic1:(c:Int)<(L:Int):=by omega
    have ic2:c<L:=by omega
    have Hd:=aC hd;clear hd
    have RI:Hid (dz y.1 x.1=false->vG l0 a m b mid (c+1) r):=aC fun hlt=>M.out.1.right hc1 hc2 fun u v hu hv=>by
     rw [Hx.out] at hu;rw [<-Hd.out,Hy.out] at hv;injection hu with hu
     injection hv with hv
     subst hu hv;exact hlt
    have LE:Hid (dz y.1 x.1=true->vG l0 a m b mid s c):=aC fun hlt=>M.out.1.left hc1 hc2 fun u v hu hv=>by
     rw [<-Hd.out,Hy.out] at hu;rw [Hx.out] at hv;injection hu with hu
     injection hv with hv
     subst hu hv;exact ug hlt
    have hcm:c<=m:=by omega
    cases hlt:dz y.1 x.1
    all_goals
     have hd2:=CG y.1 x.1;rw [hlt] at hd2;have yK:=aC hlt;clear hlt
     go_region_held3 (fun v=>v.cell? ⟨g,c*2,none⟩=some (.string x.1)/\v.cell? ⟨g,c*2+1,none⟩=some (.pointer (some ⟨x.2,0,none⟩))/\v.cell? ⟨g,d*2,none⟩=some (.string y.1)/\v.cell? ⟨g,d*2+1,none⟩=some (.pointer (some ⟨y.2,0,none⟩))) (first|go_keep|exact ⟨y0,y1,t0,t1⟩)
      ((go_at_call 140;(with_reducible refine (zn _ _ _ _ _).mono ?_);rintro e w1 ⟨rfl,hb1⟩;have y0:=(hb1.cell (p:=⟨g,c*2,none⟩) hgl).trans x0;have y1:=(hb1.cell (p:=⟨g,c*2+1,none⟩) hgl).trans x1;have t0:=(hb1.cell (p:=⟨g,d*2,none⟩) hgl).trans z0;have t1:=(hb1.cell (p:=⟨g,d*2+1,none⟩) hgl).trans z1;have HB1:Hid (Below wr.heap.size wr w1):=aC (by first|exact hb1|exact (aT _ _).drew.trans hb1);clear hb1))
     have MW:Hid (dD w1 base (some ⟨g,0,none⟩) cap l0/\w.grownBy w1 (some g)):=aC (Gw (aA.below M.out.2.1 HB1.out (bN _)) (o7 M.out.2.2 HB1.out));clear x0 x1 z0 z1 y0 y1 t0 t1 HB1 hgl ic0 ic1 id0 id1 id2 id3 id4;go_wp2_with fail;go_roundw
     case measure=>simp [intOf];omega
     case rel=>first
      |exact ⟨s,c,rfl,rfl,hc1,hcm,aC ⟨LE.out yK.out,MW.out.1,MW.out.2⟩⟩
      |exact ⟨c+1,r,by go_num,rfl,by omega,hrm,aC ⟨RI.out yK.out,MW.out.1,MW.out.2⟩⟩
   ·have hse:s=r:=by omega
    subst hse;have hpart:=aC (M.out.1.part Yr.out QI hmb);have MI:=aC M.out.2;clear M;obtain ⟨wo,rfl⟩:∃wo:World,wo=wr:=⟨_,rfl⟩;go_upto_region 39 with fail
    go_cut [185] (fun aj9 wx=>aj9= .bool (decide (s<m/\m<mid+m-s))/\wx=wo)
    case first=>as_aux_lemma=>
     by_cases c1:s<m
     ·have d1:decide (s<m)=true:=decide_eq_true c1
      by_cases c2:m<mid+m-s
      ·have d2:decide ((m:Int)<(mid:Int)+(m:Int)-(s:Int))=true:=decide_eq_true (by omega)
       go_wp2_with fail;go_meet;exact ⟨by rw [decide_eq_true (⟨c1,c2⟩:s<m/\m<mid+m-s)],rfl⟩
      ·have d2:decide ((m:Int)<(mid:Int)+(m:Int)-(s:Int))=false:=decide_eq_false (by omega)
       go_wp2_with fail;go_meet;exact ⟨by rw [decide_eq_false (fun h:s<m/\m<mid+m-s=>c2 h.2)],rfl⟩
     ·have d1:decide (s<m)=false:=decide_eq_false c1
      go_wp2_with fail;go_meet;exact ⟨by rw [decide_eq_false (fun h:s<m/\m<mid+m-s=>c1 h.1)],rfl⟩
    case rest=>
     obtain ⟨rfl,hwx⟩:=hcut;obtain rfl:=hwx;obtain ⟨wo,rfl⟩:∃wo:World,wo=wc:=⟨_,rfl⟩;obtain ⟨k1,k2,k3,k4⟩:a<=s/\s<=mid/\m<=mid+m-s/\mid+m-s<=b:=⟨hpart.out.lo,by have:=hpart.out.lo2;omega,hpart.out.lo2,hpart.out.hi2⟩;go_upto_if 185 with fail
     go_cut [] (fun wx=>∃l',Hid (Turn s m (mid+m-s) l0 l'/\Mv a b l0 l'/\dD wx base (some ⟨g,0,none⟩) cap l'/\w.grownBy wx (some g)))
     case first=>as_aux_lemma=>
      by_cases c:s<m/\m<mid+m-s
      ·have hcd:decide (s<m/\m<mid+m-s)=true:=decide_eq_true c
       obtain ⟨c1,c2⟩:=c;go_wp2_with fail;refine (WT base g cap l0 s m (mid+m-s) L _ _ _ _ _ MI.out.1 HL.out rfl rfl (by omega) c1 c2 (by omega) hl).mono ?_;rintro e w1 ⟨rfl,l1,z1,z2,z3,z4⟩;have Z:=aC (Gw z1 (Gw (z2.wide k1 k4) (Gw z3 (fD MI.out.2 z4))));clear z1 z2 z3 z4;go_wp2_with fail;go_meet;exact ⟨l1,Z⟩
      ·have hcd:decide (s<m/\m<mid+m-s)=false:=decide_eq_false c
       go_wp2_with fail;go_meet;exact ⟨l0,aC ⟨Turn.none (by omega),Mv.refl _ _ _,MI.out.1,MI.out.2⟩⟩
     case rest=>as_aux_lemma=>
      obtain ⟨l1,T⟩:=hcut;have hLen:Hid (l1.length=L):=aC (T.out.2.1.len.trans HL.out);have P:=aC (hpart.out.turned nu (by rw [HL.out];exact hbl) H1.out H2.out T.out.1 (by omega) (by omega));have T2:=aC T.out.2;clear hpart MI T;obtain ⟨wo,rfl⟩:∃wo:World,wo=wc:=⟨_,rfl⟩;go_upto_region 41 with fail
      go_cut [199] (fun aj_ wx=>aj_= .bool (decide (a<s/\s<mid))/\wx=wo)
      case first=>as_aux_lemma=>
       by_cases c1:a<s
       ·have d1:decide (a<s)=true:=decide_eq_true c1
        by_cases c2:s<mid
        ·have d2:decide (s<mid)=true:=decide_eq_true c2
         go_wp2_with fail;go_meet;exact ⟨by rw [decide_eq_true (⟨c1,c2⟩:a<s/\s<mid)],rfl⟩
        ·have d2:decide (s<mid)=false:=decide_eq_false c2
         go_wp2_with fail;go_meet;exact ⟨by rw [decide_eq_false (fun h:a<s/\s<mid=>c2 h.2)],rfl⟩
       ·have d1:decide (a<s)=false:=decide_eq_false c1
        go_wp2_with fail;go_meet;exact ⟨by rw [decide_eq_false (fun h:a<s/\s<mid=>c1 h.1)],rfl⟩
      case rest=>
       obtain ⟨rfl,hwx⟩:=hcut;obtain rfl:=hwx;obtain ⟨wo,rfl⟩:∃wo:World,wo=wc:=⟨_,rfl⟩;go_upto_if 199 with fail
       go_cut [] (fun wx=>∃l',Hid (gW lG l' a mid/\Mv a mid l1 l'/\dD wx base (some ⟨g,0,none⟩) cap l'/\w.grownBy wx (some g)))
       case first=>as_aux_lemma=>
        by_cases c:a<s/\s<mid
        ·have hcd:decide (a<s/\s<mid)=true:=decide_eq_true c
         obtain ⟨c1,c2⟩:=c;go_wp2_with fail;refine (zi.out a s mid (by omega) l1 _ _ _ _ T2.out.2.1 hLen.out rfl rfl rfl c1 c2 (by omega) P.out.1 P.out.2.1).mono ?_;rintro e w1 ⟨rfl,l2,z1,z2,z3,z4⟩;have Z:=aC (Gw z1 (Gw z2 (Gw z3 (fD T2.out.2.2 z4))));clear z1 z2 z3 z4;go_wp2_with fail;go_meet;exact ⟨l2,Z⟩
        ·have hcd:decide (a<s/\s<mid)=false:=decide_eq_false c
         have hsrt:Hid (gW lG l1 a mid):=aC (by
          rcases (by omega:s=a\/s=mid) with e|e
          ·have:=P.out.2.1
           rw [e] at this;exact this
          ·have:=P.out.1
           rw [e] at this;exact this)
         go_wp2_with fail;go_meet;exact ⟨l1,aC ⟨hsrt.out,Mv.refl _ _ _,T2.out.2.1,T2.out.2.2⟩⟩
       case rest=>as_aux_lemma=>
        obtain ⟨l2,Z⟩:=hcut;obtain ⟨wo,rfl⟩:∃wo:World,wo=wc:=⟨_,rfl⟩;have ahK:Hid (l2.length=L):=aC (Z.out.2.1.len.trans hLen.out);have Y3:Hid (gW lG l2 mid (mid+m-s)):=aC (P.out.2.2.1.same fun k h1 h2=>Z.out.2.1.out k (.inr h1));have Y4:Hid (gW lG l2 (mid+m-s) b):=aC (P.out.2.2.2.1.same fun k h1 h2=>Z.out.2.1.out k (.inr (by omega)));have Y1:=aC Z.out.1;have Y5:Hid (QH lG l2 a mid mid b):=aC (P.out.2.2.2.2.moved Z.out.2.1.inn fun k h1 h2=>⟨k,h1,h2,Z.out.2.1.out k (.inr h1)⟩);have YM:Hid (Mv a b l0 l2/\dD wo base (some ⟨g,0,none⟩) cap l2/\w.grownBy wo (some g)):=aC ⟨T2.out.1.trans (Z.out.2.1.wide (bN _) (by omega)),Z.out.2.2⟩;clear P T2 Z hLen;go_upto_region 43 with fail
        by_cases c:mid<mid+m-s/\mid+m-s<b
        ·as_aux_lemma=>
         obtain ⟨c1,c2⟩:=c;have d1:decide ((mid:Int)<(mid:Int)+(m:Int)-(s:Int))=true:=decide_eq_true (by omega);have d2:decide ((mid:Int)+(m:Int)-(s:Int)<(b:Int))=true:=decide_eq_true (by omega);go_wp2_with fail;refine (zi.out mid (mid+m-s) b (by omega) l2 _ _ _ _ YM.out.2.1 ahK.out rfl (by omega) rfl c1 c2 hbl Y3.out Y4.out).mono ?_;rintro e w1 ⟨rfl,l3,z1,z2,z3,z4⟩;have Z:=aC (Gw z1 (Gw z2 (Gw z3 (fD YM.out.2.2 z4))));clear z1 z2 z3 z4;go_wp2_with fail;go_end0;refine ⟨rfl,l3,?_,YM.out.1.trans (Z.out.2.1.wide (by omega) (bN _)),Z.out.2.2⟩;exact gW.join (Y1.out.same fun k h1 h2=>Z.out.2.1.out k (.inl h2)) Z.out.1 (Y5.out.moved (fun k h1 h2=>⟨k,h1,h2,Z.out.2.1.out k (.inl h2)⟩) Z.out.2.1.inn)
        ·as_aux_lemma=>
         have hsrt:Hid (gW lG l2 mid b):=aC (by
          rcases (by omega:mid+m-s=mid\/mid+m-s=b) with e|e
          ·have:=Y4.out
           rw [e] at this;exact this
          ·have:=Y3.out
           rw [e] at this;exact this)
         by_cases c1:mid<mid+m-s
         ·have d1:decide ((mid:Int)<(mid:Int)+(m:Int)-(s:Int))=true:=decide_eq_true (by omega)
          have d2:decide ((mid:Int)+(m:Int)-(s:Int)<(b:Int))=false:=decide_eq_false (by omega);go_wp2_with fail;go_end0;exact ⟨rfl,l2,gW.join Y1.out hsrt.out Y5.out,YM.out.1,YM.out.2⟩
         ·have d1:decide ((mid:Int)<(mid:Int)+(m:Int)-(s:Int))=false:=decide_eq_false (by omega)
          go_wp2_with fail;go_end0;exact ⟨rfl,l2,gW.join Y1.out hsrt.out Y5.out,YM.out.1,YM.out.2⟩
theorem Ny (base g cap L:Nat) (hl:L<=1000000):∀(n a m b:Nat),b-a<=n->Ip base g cap L a m b:=by
 intro n
 induction n with
 |zero=>
  intro a m b hn l0 ai mi bi w _ _ _ _ _ QI hmb
  omega
 |succ n ih=>
  intro a m b hn;by_cases h1:m=a+1
  ·exact Nw base g cap L a m b hl h1
  ·by_cases h2:b=m+1
   ·exact Mh base g cap L a m b hl h2 h1
   ·exact Mi base g cap L a m b hl h1 h2 fun a' m' b' h=>ih a' m' b' (by omega)
theorem FZ (base g cap L a m b:Nat) (hl:L<=1000000):Ip base g cap L a m b:=Ny base g cap L hl (b-a) a m b (bN _)
section
variable {α:Type} (le:α->α->Prop)
def Runs (l:List α) (d n:Nat):Prop:=∀p,d ∣ p->gW le l p (min (p+d) n)
def vS (l:List α) (d n a:Nat):Prop:=(∀p,2*d ∣ p->p<a->gW le l p (p+2*d))/\∀p,d ∣ p->a<=p->gW le l p (min (p+d) n)
variable {le}
theorem qV {d p a:Nat} (hp:d ∣ p) (ha:d ∣ a) (h:p<a):p+d<=a:=by
 obtain ⟨x,rfl⟩:=hp;obtain ⟨y,rfl⟩:=ha;have:x<y:=Nat.lt_of_mul_lt_mul_left h
 calc d*x+d=d*(x+1):=by rw [Nat.mul_add,Nat.mul_one]
  _<=d*y:=Nat.mul_le_mul_left d this
theorem Runs.to {l:List α} {d n:Nat} (h:Runs le l d n):vS le l d n 0:=⟨fun p _ hp=>by omega,fun p hp _=>h p hp⟩
theorem vS.next {l l':List α} {d n a:Nat} (h:vS le l d n a) (ha:2*d ∣ a) (hs:gW le l' a (a+2*d)) (ho:∀k,(k<a\/a+2*d<=k)->l'[k]?=l[k]?):vS le l' d n (a+2*d):=by
 refine ⟨fun p hp hpa=>?_,fun p hp hpa=>?_⟩
 ·by_cases e:p=a
  ·subst e
   exact hs
  ·have hlt:p<a:=by
    rcases Nat.lt_or_ge p a with g|g
    ·exact g
    ·have:=qV ha hp (by omega)
     omega
   have:=qV hp ha hlt;exact (h.1 p hp hlt).same fun k h1 h2=>ho k (by omega)
 ·exact (h.2 p hp (by omega)).same fun k h1 h2=>ho k (by omega)
theorem vS.parts {l:List α} {d n a:Nat} (h:vS le l d n a) (ha:2*d ∣ a):gW le l a (min (a+d) n)/\gW le l (a+d) (min (a+d+d) n):=by
 have hd:d ∣ a:=Nat.dvd_trans (Nat.dvd_mul_left d 2) ha;exact ⟨h.2 a hd (bN _),h.2 (a+d) (aeI hd (aeK d)) (by omega)⟩
theorem vS.stop {l l':List α} {d n a:Nat} (h:vS le l d n a) (ha:2*d ∣ a) (han:a<=n) (hb:n<a+2*d) (hs:gW le l' a n) (ho:∀k,(k<a\/n<=k)->l'[k]?=l[k]?):Runs le l' (2*d) n:=by
 intro p hp;rcases aeR p a with g|g|g
 ·have:=qV hp ha g
  rw [aeS (by omega)];exact (h.1 p hp g).same fun k h1 h2=>ho k (by omega)
 ·subst g
  rw [aeL (by omega)];exact hs
 ·have:=qV ha hp g
  exact gW.one _ _ _ (by omega)
theorem Runs.all {l:List α} {d n:Nat} (h:Runs le l d n) (hd:n<=d):gW le l 0 n:=by
 have:=h 0 (Nat.dvd_zero d);rw [Nat.zero_add,aeL hd] at this;exact this
end
theorem WV (base g cap:Nat) (l0:List (ByteArray×Nat)) (L:Nat) (w:World) (h:dD w base (some ⟨g,0,none⟩) cap l0) (hL:l0.length=L) (hl:L<=1000000):
  Calls Try.prog 173 #[.slice (some ⟨g,0,none⟩) L cap,.int .i64 (L:Int),Pd] w (zm base g cap 0 L l0 (fun l'=>gW lG l' 0 L) w):=by
 have HM:=aC h;have HL:=aC hL;clear h hL;go_enter Try.func173,Try.ntmps173;go_wp2_with fail;go_loopw [7,8] (fun s7 s8 wr=>∃(a:Nat) (l:List (ByteArray×Nat)),s7= .int .i64 a/\s8= .int .i64 ((a+20:Nat):Int)/\a<=L/\Hid (20 ∣ a/\(∀p,20 ∣ p->p<a->gW lG l p (p+20))/\Mv 0 L l0 l/\dD wr base (some ⟨g,0,none⟩) cap l/\w.grownBy wr (some g))) (fun s7 _ _=>L-(intOf s7).toNat)
 case atStart=>exact ⟨0,l0,rfl,rfl,h_ _,aC ⟨⟨0,rfl⟩,fun p _ hp=>by omega,Mv.refl _ _ _,HM.out,aeu.refl _ _⟩⟩
 case round=>
  obtain ⟨a,l,rfl,rfl,ha,M⟩:=hrel;clear HM;have hl1:Hid (l.length=L):=aC (M.out.2.2.1.len.trans HL.out);by_cases hp:a+20<=L
  ·go_wp2_with fail
   refine (El base g cap l a (a+20) L _ _ _ M.out.2.2.2.1 hl1.out rfl rfl (by omega) hp hl).mono ?_;rintro e w1 ⟨rfl,l1,z1,z2,z3,z4⟩;have Z:=aC (Gw z1 (Gw z2 (Gw z3 (fD M.out.2.2.2.2 z4))));clear z1 z2 z3 z4;go_wp2_with fail;go_roundw
   case rel=>
    refine ⟨a+20,l1,rfl,congrArg (aes .i64) (by omega),hp,aC ⟨aeI M.out.1 (aeK 20),fun p h1 h2=>?_,M.out.2.2.1.trans (Z.out.2.1.wide (h_ _) hp),Z.out.2.2⟩⟩;by_cases e:p=a
    ·subst e
     exact Z.out.1
    ·have hlt:p<a:=by
      rcases Nat.lt_or_ge p a with q|q
      ·exact q
      ·have:=qV M.out.1 h1 (by omega)
       omega
     have:=qV h1 M.out.1 hlt;exact (M.out.2.1 p h1 hlt).same fun k k1 k2=>Z.out.2.1.out k (by omega)
   case measure=>simp [intOf];omega
  ·have CJ:decide ((a:Int)+20<=(L:Int))=false:=decide_eq_false (by omega)
   go_wp2_with fail;refine (El base g cap l a L L _ _ _ M.out.2.2.2.1 hl1.out rfl rfl ha (bN _) hl).mono ?_;rintro e w1 ⟨rfl,l1,z1,z2,z3,z4⟩
   have hr:Runs lG l1 20 L:=fun p hp2=>by
    rcases aeR p a with q|q|q
    ·have:=qV hp2 M.out.1 q
     rw [aeS (by omega)];exact (M.out.2.1 p hp2 q).same fun k k1 k2=>z2.out k (by omega)
    ·subst q
     rw [aeL (by omega)];exact z1
    ·have:=qV M.out.1 hp2 q
     exact gW.one _ _ _ (by omega)
   have Z:=aC (Gw hr (Gw (M.out.2.2.1.trans (z2.wide (h_ _) (bN _))) (Gw z3 (fD M.out.2.2.2.2 z4))));clear z1 z2 z3 z4 hr M;go_wp2_with fail;clear hl1;obtain ⟨wo,rfl⟩:∃wo:World,wo=w1:=⟨_,rfl⟩;go_loopw [6] (fun s6 wr=>∃(d:Nat) (l:List (ByteArray×Nat)),s6= .int .i64 d/\20<=d/\d<=2*L+20/\Hid (Runs lG l d L/\Mv 0 L l0 l/\dD wr base (some ⟨g,0,none⟩) cap l/\w.grownBy wr (some g))) (fun s6 _=>4*L+40-(intOf s6).toNat)
   case atStart=>exact ⟨20,l1,rfl,bN _,by omega,Z⟩
   case round=>
    obtain ⟨d,l,rfl,hd1,hd2,M⟩:=hrel;clear Z;by_cases hdL:d<L
    ·go_wp2_with fail
     obtain ⟨DV,rfl⟩:∃DV:World,DV=wr:=⟨_,rfl⟩;go_loopw [7,8] (fun s7 s8 wr=>∃(a:Nat) (l:List (ByteArray×Nat)),s7= .int .i64 a/\s8= .int .i64 ((a+2*d:Nat):Int)/\a<=L/\Hid (2*d ∣ a/\vS lG l d L a/\Mv 0 L l0 l/\dD wr base (some ⟨g,0,none⟩) cap l/\w.grownBy wr (some g))) (fun s7 _ _=>L-(intOf s7).toNat)
     case atStart=>exact ⟨0,l,rfl,congrArg (aes .i64) (by omega),h_ _,aC ⟨Nat.dvd_zero _,M.out.1.to,M.out.2⟩⟩
     case round=>
      obtain ⟨a,l,rfl,rfl,ha,M⟩:=hrel;have hl1:Hid (l.length=L):=aC (M.out.2.2.1.len.trans HL.out);have PT:=aC (M.out.2.1.parts M.out.1);by_cases hp:a+2*d<=L
      ·have CJ:decide ((a:Int)+2*(d:Int)<=(L:Int))=true:=decide_eq_true (by omega)
       have P1:Hid (gW lG l a (a+d)):=aC (PT.out.1.sub (bN _) (by omega));have P2:Hid (gW lG l (a+d) (a+2*d)):=aC (PT.out.2.sub (bN _) (by omega));go_wp2_with fail;refine (FZ base g cap L a (a+d) (a+2*d) hl l _ _ _ _ M.out.2.2.2.1 hl1.out rfl (by omega) (by omega) (by omega) (by omega) hp P1.out P2.out).mono ?_;rintro e w2 ⟨rfl,l2,z1,z2,z3,z4⟩;have Z:=aC (Gw z1 (Gw z2 (Gw z3 (fD M.out.2.2.2.2 z4))));clear z1 z2 z3 z4;go_wp2_with fail;go_roundw
       case rel=>
        exact ⟨a+2*d,l2,congrArg (aes .i64) (by omega),congrArg (aes .i64) (by omega),hp,aC ⟨aeI M.out.1 (aeK _),M.out.2.1.next M.out.1 Z.out.1 (fun k h=>Z.out.2.1.out k h),M.out.2.2.1.trans (Z.out.2.1.wide (h_ _) hp),Z.out.2.2⟩⟩
       case measure=>simp [intOf];omega
      ·have CJ:decide ((a:Int)+2*(d:Int)<=(L:Int))=false:=decide_eq_false (by omega)
       by_cases hm:a+d<L
       ·have hmd:decide ((a:Int)+(d:Int)<(L:Int))=true:=decide_eq_true (by omega)
        have P1:Hid (gW lG l a (a+d)):=aC (PT.out.1.sub (bN _) (by omega));have P2:Hid (gW lG l (a+d) L):=aC (PT.out.2.sub (bN _) (by omega));go_wp2_with fail;refine (FZ base g cap L a (a+d) L hl l _ _ _ _ M.out.2.2.2.1 hl1.out rfl (by omega) rfl (by omega) hm (bN _) P1.out P2.out).mono ?_;rintro e w2 ⟨rfl,l2,z1,z2,z3,z4⟩;have Z:=aC (Gw z1 (Gw z2 (Gw z3 (fD M.out.2.2.2.2 z4))));clear z1 z2 z3 z4;go_wp2_with fail;go_roundw
        case rel=>
         exact ⟨2*d,l2,congrArg (aes .i64) (by omega),by omega,by omega,aC ⟨M.out.2.1.stop M.out.1 ha (by omega) Z.out.1 (fun k h=>Z.out.2.1.out k h),M.out.2.2.1.trans (Z.out.2.1.wide (h_ _) (bN _)),Z.out.2.2⟩⟩
        case measure=>simp [intOf];omega
       ·have hmd:decide ((a:Int)+(d:Int)<(L:Int))=false:=decide_eq_false (by omega)
        have P1:Hid (gW lG l a L):=aC (PT.out.1.sub (bN _) (by omega));go_wp2_with fail;go_roundw
        case rel=>
         exact ⟨2*d,l,congrArg (aes .i64) (by omega),by omega,by omega,aC ⟨M.out.2.1.stop M.out.1 ha (by omega) P1.out (fun k h=>rfl),M.out.2.2⟩⟩
        case measure=>simp [intOf];omega
    ·go_wp2_with fail
     go_end0;exact ⟨rfl,l,M.out.1.all (by omega),M.out.2.1,M.out.2.2⟩
theorem Mj (base g cap:Nat) (l0:List (ByteArray×Nat)) (L:Nat) (w:World) (h:dD w base (some ⟨g,0,none⟩) cap l0) (hL:l0.length=L) (hl:L<=1000000):
  Calls Try.prog 139 #[.slice (some ⟨g,0,none⟩) L cap,Pd] w (zm base g cap 0 L l0 (fun l'=>gW lG l' 0 L) w):=by
 have HM:=aC h;have HL:=aC hL;clear h hL;go_enter Try.func139,Try.ntmps139;go_wp2_with fail;refine (WV base g cap l0 L _ HM.out HL.out hl).mono ?_;rintro e w1 ⟨rfl,l1,z1,z2,z3,z4⟩;have Z:=aC (Gw z1 (Gw z2 (Gw z3 z4)));clear z1 z2 z3 z4;go_wp2_with fail;go_end0;exact ⟨rfl,l1,Z.out.1,Z.out.2.1,Z.out.2.2⟩
theorem JY (c:Nat) (F:Value) (w:World):Calls Try.prog 212 #[.slice none 0 c,.int .i64 0,.int .i64 0,F] w fun e w'=>e= .returned (.tuple #[])/\w=w':=by
 go_enter Try.func212,Try.ntmps212;go_wp2_with fail;refine wp_loop_rounds 1 ?_;rw [rounds_succ];go_wp2_with fail;go_end0;exact ⟨rfl,rfl⟩
theorem QK (c:Nat) (F:Value) (w:World):Calls Try.prog 173 #[.slice none 0 c,.int .i64 0,F] w fun e w'=>e= .returned (.tuple #[])/\w=w':=by
 go_enter Try.func173,Try.ntmps173;go_wp2_with fail;refine wp_loop_rounds 1 ?_;rw [rounds_succ];go_wp2_with fail;refine (JY c F _).mono ?_;rintro e w1 ⟨rfl,rfl⟩;go_wp2_with fail;refine wp_loop_rounds 1 ?_;rw [rounds_succ];go_wp2_with fail;go_end0;exact ⟨rfl,rfl⟩
theorem Ir (c:Nat) (F:Value) (w:World):Calls Try.prog 139 #[.slice none 0 c,F] w fun e w'=>e= .returned (.tuple #[])/\w=w':=by
 go_enter Try.func139,Try.ntmps139;go_wp2_with fail;refine (QK c F _).mono ?_;rintro e w1 ⟨rfl,rfl⟩;go_wp2_with fail;go_end0;exact ⟨rfl,rfl⟩
end Go.Proofs.Ytblfeokjlecgkaa
