/- Laid together by a tool from the texts of this seat: OpenCk BrA PxQ BrW PxW. Conditions: each theorem's own. -/
import Derived.Test.YtmjdhfbnmmdjiaaGreatH37
import Derived.Test.YtmjdhfbnmmdjiaaGreatH16
import Derived.Deep.RegionHeld3
set_option maxHeartbeats 8000000
set_option maxRecDepth 100000
namespace Go.Proofs.YtmjdhfbnmmdjiaaGreat
open Go.Lib renaming hid->aB
open Go.World renaming cell?->DI,cells?_some->abW,block_lt_of_cell?->FD
open Go.Value renaming slice->gq,okWide->ab2,cells->ab3
open _root_.ByteArray renaming empty->dQ
open _root_.List renaming range->MQ,mem_cons->qm,append_nil->mO,mem_append->pU,append_assoc->kV,length_append->lS,length->sI,mem_of_getElem?->O8,eq_nil_of_length_eq_zero->fD,getElem?_drop->ab4,getElem?_map->Tz,getElem?_range->abZ,cons_append->uK,length_cons->oG,getElem?_eq_getElem->bS
open Go.Region renaming wanted->sH
open _root_.Classical renaming choose->abX,choose_spec->abY
open Go.ChangeShapes Go.WideShapes Go.ChangeAt Go.WideMaps Go.WideElems Go.RowKit Go.Deep
section
variable {H:Type} {enc:TypeId×Value->H} {W:World} {base:Nat} {d:DataW H} {p:List MemPlace} {v:Value} {fuel:Nat} {cs:List Value} {X:DataW H×List MemPlace}
theorem Rw:Tryz.prog.cellsOf 36=2:=by kernel_rfl
theorem UG:Tryz.prog.cellsOf 33=8:=by kernel_rfl
theorem JK:Tryz.prog.cellsOf 9=1:=by kernel_rfl
theorem UH:Tryz.prog.cellsOf 3=1:=by kernel_rfl
theorem UJ:Tryz.prog.cellsOf 2=1:=by kernel_rfl
theorem Ms:Tryz.prog.cellsOf 28=1:=by kernel_rfl
theorem uO.out {A:Option Addr} {t:List Nd} (h:bJ W W.heap.size A t):uO W (fun _=>False) A t:=fun hne=>by
 obtain ⟨b,o,h1,h2,h3⟩:=h hne;exact ⟨b,o,h1,h2,fun h=>h,h3,.inr fun q hq=>hq.elim⟩
theorem Dy {e:TypeId} {t:TypeId} (ht:Tryz.prog.underlying t=some (.slice e)) {A:Option Addr} {n c:Nat} (hv:ab2 Tryz.prog W .any base t (.slice A n c)):∀a,A=some a->∃b o,a=⟨b,o,none⟩:=by
 intro a ha;subst ha;simp only [ab2,ht,Cell.okWide,Cell.ok,World.has] at hv;obtain ⟨b,o,s⟩:=a;have:s=none:=hv.2.2.2.1;subst this;exact ⟨b,o,rfl⟩
theorem OE (hf:DataW.trod enc Tryz.prog W 0 (fun _=>true) true fuel 36 cs=some X) (hl:cs.length=2):
  ∃(b:Bn) (e:ByteArray×List Nd),cs=qG b/\b.s=e.1/\b.n=e.2.length/\aF W (fun _=>False) b.A b.c e.2/\Ig [e]:=by
 match cs,hl with
 |[v0,v1],_=>
  obtain ⟨ys,n',_,_,_,hyl,qy⟩:=DataW.trod_struct Tryz.underlying36 hf;have h0:=qy 0 _ rfl;have h1:=qy 1 _ rfl;change DataW.trod enc Tryz.prog W 0 _ true n' 9 (([v0,v1].drop 0).take (Tryz.prog.cellsOf 9))=_ at h0;change DataW.trod enc Tryz.prog W 0 _ true n' 28 (([v0,v1].drop 1).take (Tryz.prog.cellsOf 28))=_ at h1;rw [JK] at h0;rw [Ms] at h1
  have hne:∀j,j<2->∃y,ys[j]?=some y:=fun j hj=>by
   have:ys.length=2:=hyl;exact aJ (by omega)
  obtain ⟨y0,e0⟩:=hne 0 (by omega);obtain ⟨y1,e1⟩:=hne 1 (by omega);obtain ⟨s,hs,_,hsw⟩:=DataW.trod_string Tryz.underlying9 (h0.trans e0);obtain ⟨A,a,ca,hA,tA,lA',sA,oA⟩:=EI (h1.trans e1);simp at hA hs;subst hA hs
  exact ⟨⟨s,A,a.length,ca⟩,(s,a),rfl,rfl,rfl,⟨uO.out tA,lA'⟩,by simp,fun e he=>by
   simp at he;subst he;exact ⟨hsw,sA,fun x hx=>(oA x hx).s1⟩⟩
theorem Rx (hf:DataW.trod enc Tryz.prog W 0 (fun _=>true) true fuel 33 cs=some X) (hl:cs.length=8):
  ∃(p:Pt) (TA:Option Addr) (tc:Nat) (UA:Option Addr) (uc:Nat),aF W (fun _=>False) TA tc p.T/\aF W (fun _=>False) UA uc p.U/\
   cs=[.int .i64 p.k,.string p.lb,.string p.nm,.string p.bd,.int .i64 p.mn,.int .i64 p.num,.slice TA p.T.length tc,.slice UA p.U.length uc]:=by
 match cs,hl with
 |[v0,v1,v2,v3,v4,v5,v6,v7],_=>
  obtain ⟨ys,n',_,_,_,hyl,qy⟩:=DataW.trod_struct Tryz.underlying33 hf;have h0:=qy 0 _ rfl;have h1:=qy 1 _ rfl;have h2:=qy 2 _ rfl;have h3:=qy 3 _ rfl;have h4:=qy 4 _ rfl;have h5:=qy 5 _ rfl;have h6:=qy 6 _ rfl;have h7:=qy 7 _ rfl;change DataW.trod enc Tryz.prog W 0 _ true n' 3 (([v0,v1,v2,v3,v4,v5,v6,v7].drop 0).take (Tryz.prog.cellsOf 3))=_ at h0;change DataW.trod enc Tryz.prog W 0 _ true n' 9 (([v0,v1,v2,v3,v4,v5,v6,v7].drop 1).take (Tryz.prog.cellsOf 9))=_ at h1;change DataW.trod enc Tryz.prog W 0 _ true n' 9 (([v0,v1,v2,v3,v4,v5,v6,v7].drop 2).take (Tryz.prog.cellsOf 9))=_ at h2;change DataW.trod enc Tryz.prog W 0 _ true n' 9 (([v0,v1,v2,v3,v4,v5,v6,v7].drop 3).take (Tryz.prog.cellsOf 9))=_ at h3;change DataW.trod enc Tryz.prog W 0 _ true n' 3 (([v0,v1,v2,v3,v4,v5,v6,v7].drop 4).take (Tryz.prog.cellsOf 3))=_ at h4;change DataW.trod enc Tryz.prog W 0 _ true n' 2 (([v0,v1,v2,v3,v4,v5,v6,v7].drop 5).take (Tryz.prog.cellsOf 2))=_ at h5;change DataW.trod enc Tryz.prog W 0 _ true n' 28 (([v0,v1,v2,v3,v4,v5,v6,v7].drop 6).take (Tryz.prog.cellsOf 28))=_ at h6;change DataW.trod enc Tryz.prog W 0 _ true n' 28 (([v0,v1,v2,v3,v4,v5,v6,v7].drop 7).take (Tryz.prog.cellsOf 28))=_ at h7;rw [UH] at h0 h4;rw [JK] at h1 h2 h3;rw [UJ] at h5;rw [Ms] at h6 h7
  have hne:∀j,j<8->∃y,ys[j]?=some y:=fun j hj=>by
   have:ys.length=8:=hyl;exact aJ (by omega)
  obtain ⟨y0,e0⟩:=hne 0 (by omega);obtain ⟨y1,e1⟩:=hne 1 (by omega);obtain ⟨y2,e2⟩:=hne 2 (by omega);obtain ⟨y3,e3⟩:=hne 3 (by omega);obtain ⟨y4,e4⟩:=hne 4 (by omega);obtain ⟨y5,e5⟩:=hne 5 (by omega);obtain ⟨y6,e6⟩:=hne 6 (by omega);obtain ⟨y7,e7⟩:=hne 7 (by omega);obtain ⟨k,hk,_,_⟩:=DataW.trod_int Tryz.underlying3 (h0.trans e0);obtain ⟨s1,hs1,_,_⟩:=DataW.trod_string Tryz.underlying9 (h1.trans e1);obtain ⟨s2,hs2,_,_⟩:=DataW.trod_string Tryz.underlying9 (h2.trans e2);obtain ⟨s3,hs3,_,_⟩:=DataW.trod_string Tryz.underlying9 (h3.trans e3);obtain ⟨m,hm,_,_⟩:=DataW.trod_int Tryz.underlying3 (h4.trans e4);obtain ⟨n,hn,_,_⟩:=DataW.trod_int Tryz.underlying2 (h5.trans e5);obtain ⟨TA,t,tc,hT,tT,lT,sT,oT⟩:=EI (h6.trans e6);obtain ⟨UA,u,uc,hU,tU,lU,sU,oU⟩:=EI (h7.trans e7);simp at hk hs1 hs2 hs3 hm hn hT hU;subst hk hs1 hs2 hs3 hm hn hT hU;exact ⟨⟨k,s1,s2,s3,m,n,t,u⟩,TA,tc,UA,uc,⟨uO.out tT,lT⟩,⟨uO.out tU,lU⟩,rfl⟩
theorem EJ (hv:ab2 Tryz.prog W .any base 22 v) (h:DataW.Trod enc Tryz.prog W 0 (fun _=>true) true 22 v d p):
  ∃(A:Option Addr) (bs:List Bn) (env:Env) (c:Nat),v= .slice A bs.length c/\mZ W W.heap.size A bs/\(A=none->bs=[])/\(∀a,A=some a->∃b o,a=⟨b,o,none⟩)/\dY W (fun _=>False) bs env/\Ig env:=by
 obtain ⟨a0,n0,c0,rfl⟩:=okWide_slice Tryz.underlying22 hv;have hform:=Dy Tryz.underlying22 hv;obtain ⟨fuel,hf⟩:=h;rcases open_slice Tryz.underlying22 hf with ⟨hcs,_⟩|⟨a,len,cap,m,n,D,Pl,hcs,_,hl,hcm,hm,_,hel⟩
 ·simp [ab3] at hcs
  obtain ⟨rfl,rfl,rfl⟩:=hcs;exact ⟨none,[],[],0,rfl,aS.nil,fun _=>rfl,(fun a h=>by cases h),⟨rfl,fun i b e hb _=>by simp at hb⟩,by simp,fun e he=>by simp at he⟩
 ·simp [ab3] at hcs
  obtain ⟨rfl,rfl,rfl⟩:=hcs;simp only [if_true] at hm;subst hm
  have hst:∀i,i<n0->∃q:Bn×(ByteArray×List Nd),(q.1.s=q.2.1/\q.1.n=q.2.2.length/\aF W (fun _=>False) q.1.A q.1.c q.2.2/\Ig [q.2])/\∀j u,(qG q.1)[j]?=some u->W.cell? (a.add (i*2+j))=some u:=fun i hi=>by
   obtain ⟨cs',hc,ht⟩:=hel i (by omega);rw [Rw] at hc;obtain ⟨_,hlen,hat⟩:=abW hc;obtain ⟨v,x,rfl,h1,h2,h3,h4⟩:=OE ht (by simpa using hlen);refine ⟨(v,x),⟨h1,h2,h3,h4⟩,fun j u hu=>?_⟩;have hj:j<2:=by have:=aP hu;rwa [tu] at this
   have:=hat j (by omega);rw [add_add] at this;rw [this];exact hu
  obtain ⟨f,hf2⟩:∃f:Nat->Bn×(ByteArray×List Nd),∀i,i<n0->((f i).1.s=(f i).2.1/\(f i).1.n=(f i).2.2.length/\aF W (fun _=>False) (f i).1.A (f i).1.c (f i).2.2/\Ig [(f i).2])/\∀j u,(qG (f i).1)[j]?=some u->W.cell? (a.add (i*2+j))=some u:=
   ⟨fun i=>if h:i<n0 then abX (hst i h) else (⟨dQ,none,0,0⟩,(dQ,[])),fun i hi=>by
    simp only [dif_pos hi];exact abY (hst i hi)⟩
  have hget:∀{β:Type} (g:Nat->β) i x,((MQ n0).map g)[i]?=some x->i<n0/\x=g i:=fun g i x hx=>by
   have hi:i<n0:=by have:=aP hx;simpa using this
   rw [Tz,abZ hi] at hx;injection hx with hx
   exact ⟨hi,hx.symm⟩
  have hlen:((MQ n0).map fun i=>(f i).1).length=n0:=by simp
  refine ⟨some a,(MQ n0).map fun i=>(f i).1,(MQ n0).map fun i=>(f i).2,m,by rw [hlen],fun hne=>?_,fun h=>by (cases h),hform,⟨by simp,fun i v x hv hx=>?_⟩,?_,fun x hx=>?_⟩
  ·have hn:0<n0:=by
    rcases Nat.eq_zero_or_pos n0 with h|h
    ·subst h;exact absurd rfl hne
    ·exact h
   obtain ⟨b,off,spot⟩:=a;have h0:=(hf2 0 hn).2 0 _ rfl;have hspot:spot=none:=by simpa [Addr.add] using World.cell?_spot h0
   subst hspot;simp only [add_plain] at hf2;refine ⟨b,off,rfl,FD W _ ((hf2 0 hn).2 0 _ rfl),fun i x hx j u hu=>?_⟩;obtain ⟨hi,rfl⟩:=hget _ i x hx;have:=(hf2 i hi).2 j u hu
   rwa [<-Nat.add_assoc] at this
  ·obtain ⟨hi,rfl⟩:=hget _ i v hv
   obtain ⟨_,rfl⟩:=hget _ i x hx;have:=(hf2 i hi).1;exact ⟨this.1,this.2.1,this.2.2.1⟩
  ·simp only [List.length_map,List.length_range]
   unfold maxLen at hcm;omega
  ·obtain ⟨i,hi,rfl⟩:=List.mem_map.1 hx
   exact (hf2 i (List.mem_range.1 hi)).1.2.2.2.2 _ (by simp)
theorem Ce (hv:ab2 Tryz.prog W .any base 24 v) (h:DataW.Trod enc Tryz.prog W 0 (fun _=>true) true 24 v d p):
  ∃(A:Option Addr) (es:List Pt) (c:Nat),v= .slice A es.length c/\kF W (fun _=>False) A es/\es.length<=c/\es.length<=9223372036854775807:=by
 obtain ⟨a0,n0,c0,rfl⟩:=okWide_slice Tryz.underlying24 hv;have hform:=Dy Tryz.underlying24 hv;obtain ⟨fuel,hf⟩:=h;rcases open_slice Tryz.underlying24 hf with ⟨hcs,_⟩|⟨a,len,cap,m,n,D,Pl,hcs,_,hl,hcm,hm,_,hel⟩
 ·simp [ab3] at hcs
  obtain ⟨rfl,rfl,rfl⟩:=hcs;exact ⟨none,[],0,rfl,fun i p hp=>by simp at hp,Nat.le_refl _,by simp⟩
 ·simp [ab3] at hcs
  obtain ⟨rfl,rfl,rfl⟩:=hcs;simp only [if_true] at hm;subst hm;obtain ⟨ab,ao,rfl⟩:=hform a rfl
  have hst:∀i,i<n0->∃p:Pt,AV W (fun _=>False) ab (ao+i*8) p:=fun i hi=>by
   obtain ⟨cs',hc,ht⟩:=hel i (by omega);rw [UG] at hc;obtain ⟨_,hlen,hat⟩:=abW hc;obtain ⟨p,TA,tc,UA,uc,h1,h2,rfl⟩:=Rx ht (by simpa using hlen);simp only [add_plain] at hat;refine ⟨p,TA,tc,UA,uc,h1,h2,?_,?_,?_,?_,?_,?_,?_,?_⟩
   ·exact hat 0 (by omega)
   ·exact hat 1 (by omega)
   ·exact hat 2 (by omega)
   ·exact hat 3 (by omega)
   ·exact hat 4 (by omega)
   ·exact hat 5 (by omega)
   ·exact hat 6 (by omega)
   ·exact hat 7 (by omega)
  obtain ⟨f,hf2⟩:∃f:Nat->Pt,∀i,i<n0->AV W (fun _=>False) ab (ao+i*8) (f i):=
   ⟨fun i=>if h:i<n0 then abX (hst i h) else default,fun i hi=>by
    simp only [dif_pos hi];exact abY (hst i hi)⟩
  have hlen:((MQ n0).map f).length=n0:=by simp
  refine ⟨some ⟨ab,ao,none⟩,(MQ n0).map f,m,by rw [hlen],fun i x hx=>?_,by rw [hlen];exact hl,by rw [hlen];unfold maxLen at hcm;omega⟩;have hi:i<n0:=by have:=aP hx;simpa using this
  rw [Tz,abZ hi] at hx;injection hx with hx
  subst hx;have hat:=hf2 i hi
  have hlt:ab<W.heap.size:=by
   obtain ⟨_,_,_,_,_,_,h0,_⟩:=hat;exact FD W _ h0
  exact ⟨ab,ao,rfl,hlt,fun h=>h,hat,.inr fun q hq=>hq.elim⟩
end
inductive kM (es:List Pt):Nat->Nat->Nat->List Pt->Prop
 |nil (a:Nat):kM es 0 a a []
 |nd {n a b c:Nat} {p:Pt} {X Z:List Pt}:es[a]?=some p->p.k≠13->p.k≠14->kM es (aL p) (a+1) c X->kM es n c b Z->kM es (n+1) a b (p::(X++Z))
 |sk {n a b c:Nat} {p:Pt} {X Z:List Pt}:es[a]?=some p->(p.k=13\/p.k=14)->kM es 1 (a+1) c X->kM es n c b Z->kM es (n+1) a b (bQ p.lb X++Z)
theorem uG (s t:ByteArray) (x:List Pt):bQ s (bQ t x)=bQ s x:=by cases x<;>rfl
theorem Cg (s:ByteArray) {x:List Pt} (y:List Pt) (h:x≠[]):bQ s (x++y)=bQ s x++y:=by
 cases x with
 |nil=>exact absurd rfl h
 |cons p x=>rfl
theorem many1 {p:Pt} (h:p.k=13\/p.k=14):aL p=1:=by unfold aL;rcases h with h|h<;>simp [h]
section
variable {es:List Pt}
theorem kM.ne {n a b:Nat} {X:List Pt} (h:kM es n a b X):0<n->X≠[]:=by
 induction h with
 |nil a=>intro h;omega
 |nd _ _ _ _ _=>intro _ h;cases h
 |sk _ _ _ _ ih1 _=>
  intro _ h;rw [List.append_eq_nil_iff] at h;have h1:=ih1 (by omega);have h2:=congrArg sI h.1;rw [dW] at h2;exact h1 (fD h2)
theorem kM.ea {n a b:Nat} {X:List Pt} (h:kM es n a b X):EA es n a b:=by
 induction h with
 |nil a=>unfold EA;exact qX _ _
 |nd hp _ _ _ _ ih1 ih2=>exact (EA.close hp ih1).join ih2
 |sk hp hk _ _ ih1 ih2=>exact (EA.close hp (by rw [many1 hk];exact ih1)).join ih2
theorem kM.len {n a b:Nat} {X:List Pt} (h:kM es n a b X):X.length+a<=b:=by
 induction h with
 |nil a=>simp
 |nd _ _ _ _ _ ih1 ih2=>simp at*;omega
 |sk _ _ _ _ ih1 ih2=>simp [dW] at*;omega
theorem kM.step {n a b:Nat} {X:List Pt} (h:kM es (n+1) a b X):∃p c Y Z,es[a]?=some p/\kM es 1 a c Y/\bQ p.lb Y=Y/\kM es n c b Z/\X=Y++Z:=by
 cases h with
 |nd hp h1 h2 h3 h4=>
  refine ⟨_,_,_,_,hp,?_,rfl,h4,(uK ..).symm⟩;have:=kM.nd hp h1 h2 h3 (.nil _)
  rwa [mO] at this
 |sk hp h1 h3 h4=>
  refine ⟨_,_,_,_,hp,?_,uG _ _ _,h4,rfl⟩;have:=kM.sk hp h1 h3 (.nil _)
  rwa [mO] at this
theorem kM.one {a b:Nat} {X:List Pt} (h:kM es 1 a b X):∃p,es[a]?=some p/\((p.k≠13/\p.k≠14/\∃Y,kM es (aL p) (a+1) b Y/\X=p::Y)\/((p.k=13\/p.k=14)/\∃Y,kM es 1 (a+1) b Y/\X=bQ p.lb Y)):=by
 cases h with
 |nd hp h1 h2 h3 h4=>
  cases h4
  exact ⟨_,hp,.inl ⟨h1,h2,_,h3,by rw [mO]⟩⟩
 |sk hp h1 h3 h4=>
  cases h4;exact ⟨_,hp,.inr ⟨h1,_,h3,by rw [mO]⟩⟩
theorem kM.kids {n a b:Nat} {X:List Pt} (h:kM es n a b X):(eD es n a).length=n:=by
 induction n generalizing a b X with
 |zero=>rfl
 |succ n ih=>
  obtain ⟨p,c,Y,Z,hp,h1,_,h2,_⟩:=h.step;have h3:=h1.ea;have h4:=h3.lt;unfold eD;rw [if_pos (aP hp),oN _ _ _ _ h3,oG,ih h2]
theorem kM.UK {n a b:Nat} {X:List Pt} (h:kM es (n+1) a b X):∃p c Y Z,es[a]?=some p/\kM es 1 a c Y/\bQ p.lb Y=Y/\kM es n c b Z/\X=Y++Z/\eD es (n+1) a=a::eD es n c:=by
 obtain ⟨p,c,Y,Z,hp,h1,h0,h2,h3⟩:=h.step;refine ⟨p,c,Y,Z,hp,h1,h0,h2,h3,?_⟩
 conv=>lhs;unfold eD
 rw [if_pos (aP hp),oN _ _ _ _ h1.ea]
end
theorem Rl.bra {es:List Pt} {S:Prop} (hS:S) (gW:∀p∈es,p.k≠14) {w:Bool} {n a b:Nat} {X:List Pt} (h:Rl es S w n a b X):kM es n a b X/\∀q∈X,q.k≠13/\q.k≠14:=by
 induction h with
 |nil w a=>exact ⟨.nil a,fun q hq=>by cases hq⟩
 |nd hp jT _ _ ih1 ih2=>
  have k14:=gW _ (O8 hp);refine ⟨.nd hp jT k14 ih1.1 ih2.1,fun q hq=>?_⟩;rcases qm.1 hq with rfl|hq
  ·exact ⟨jT,k14⟩
  ·rcases pU.1 hq with hq|hq
   ·exact ih1.2 q hq
   ·exact ih2.2 q hq
 |@ann w n a b c p X Y hp hk _ _ ih1 ih2=>
  refine ⟨.sk hp (.inl hk) ih1.1 ih2.1,fun q hq=>?_⟩;rcases pU.1 hq with hq|hq
  ·cases X with
   |nil=>cases hq
   |cons x X=>
    rcases qm.1 hq with rfl|hq
    ·exact ih1.2 x (by simp)
    ·exact ih1.2 q (by simp [hq])
  ·exact ih2.2 q hq
 |cast h0=>exact absurd hS h0
theorem Ry:∀(n:Nat) (x:List Pt),(∀q∈x,q.k≠14)->fQ n x=x
 |_,[],_=>rfl
 |n,p::x,h=>by
  show mF Pt.k _ n (p::x)=_;rw [mF,if_neg (h p (by simp))];exact congrArg _ (Ry n x fun q hq=>h q (by simp [hq]))
section
variable {env:Env} {es:List Pt} {t t':List Nd} {x:List Pt}
theorem Yq (h:zQ env es):nC env:=fun e he=>Jt.1 (h.1 e he)
theorem Yr (h:zQ env es):uD es:=fun p hp=>⟨Jt.1 (h.2 p hp).1,Jt.1 (h.2 p hp).2⟩
theorem oW.root (h:gY env es) (k:oW env es t x t'):bQ dQ x=x:=by
 have hpos:0<es.length:=List.length_pos_iff.2 h.right.ne
 have h1:vU es 0=dQ:=by
  unfold vU;rw [bS hpos];exact (h.right.root _ (bS hpos)).1
 have h2:=kK x;rw [k.Dr.lb,h1] at h2;exact h2
theorem oW.still (h:gY env es) (k:oW env es t x t') (hs:zQ env es) (gW:∀p∈es,p.k≠14):fQ 0 x=x/\kM es 1 0 es.length x/\bQ dQ x=x/\∀q∈x,q.k≠13/\q.k≠14:=by
 obtain ⟨h1,h2⟩:=k.Dr.rl.bra ⟨Yq hs,Yr hs⟩ gW;exact ⟨Ry 0 x fun q hq=>(h2 q hq).2,h1,k.root h,h2⟩
end
open Go.RowKit
theorem UL {w:World} {ops:Array Oper} {o:Oper} {a:Act} {K:Act->World->Prop} {Q:Exit->Act->World->Prop} {E:Prop} (hgd:o.guard=none) (s x:Operand)
  (ho:o.op= .call {callee:=.builtin .append,args:=#[s,x],argTypes:=#[24,24]})
  (base:Nat) {A:Option Addr} {cap m n:Nat} {l:List PV} (hm:l.length=m) (hs:a.eval s= .slice A m cap) (hown:fq w base A cap l) {B:Nat} {A2:Option Addr} {c:Nat} {l2:List PV} (hn:l2.length=n) (hx:a.eval x= .slice A2 n c) (hr:vM w B A2 l2)
  {k:Nat} (hk:m+n=k) (hlen:k<=10000000000) (hbase:base<=w.heap.size)
  (h:∀A' cap' w',fq w' base A' cap' (l++l2)->w.grownBy w' ((gq A m cap).ownBlock)->((gq A' k cap').ownBlock=(gq A m cap).ownBlock\/(gq A' k cap').ownBlock=some w.heap.size)->K (a.put o.dst (.slice A' k cap')) w'):if sH o (yielded ops a.tmps)=true then Oper.wp Tryz.prog o a w K Q else E:=by
 subst hm hn hk;obtain ⟨i0,hi,hz0,hz1,hz2⟩:=info_parts infoP;have hw:sH o (yielded ops a.tmps)=true:=by simp [sH,hgd]
 rw [if_pos hw];exact uV w fH z8 s x 24 ho base 33 i0 _ 120 Tryz.underlying24 hi hz0 hz1 hz2 rfl (by decide) hs hown hx hr (by unfold maxLen;omega) (by omega) hbase fun A' cap' w' h1 h2 h3=>h A' cap' w' h1 h2 h3
theorem UM {wr w8 w9 w4:World} {G oc c9 n:Nat} {OA A9:Option Addr} {out fr:List PV} (HI:fq wr G OA oc out/\Fr (fun q=>q=G) w4 wr/\(∀a,OA=some a->a.block=G\/w4.heap.size<=a.block)) (dV:Below wr.heap.size wr w8) (jK:fq w9 G A9 c9 (out++fr))
  (oM:w8.grownBy w9 ((gq OA out.length oc).ownBlock)) (QN:(gq A9 n c9).ownBlock=(gq OA out.length oc).ownBlock\/(gq A9 n c9).ownBlock=some w8.heap.size):
  fq w9 G A9 c9 (out++fr)/\Fr (fun q=>q=G) w4 w9/\(∀a,A9=some a->a.block=G\/w4.heap.size<=a.block):=by
 refine ⟨jK,?_,fun a ha=>?_⟩
 ·have h1:Fr (fun q=>q=G) w4 w8:=HI.2.1.new (Fr.below dV:Fr (fun _=>False) wr w8) fun b hb=>hb.elim
  exact h1.new (Fr.grown (X:=fun q=>(gq OA out.length oc).ownBlock=some q) oM fun k hk=>hk) fun b hb=>by
   obtain ⟨a,ha,hab⟩:=bL hb;subst hab;exact HI.2.2 a ha
 ·have h2:(gq A9 n c9).ownBlock=some a.block:=by subst ha;rfl
  have hs1:=HI.2.1.size;have hs2:=dV.size;rcases QN with h|h
  ·rw [h2] at h
   obtain ⟨a2,ha2,hab⟩:=bL h.symm;rw [<-hab];exact HI.2.2 a2 ha2
  ·rw [h2] at h
   injection h with h
   right;omega
def EK (w0 w:World) (lb:ByteArray) (X:List Pt) (e:Ending) (w':World):Prop:=
 ∃A' c' vs,e= .returned (.slice A' X.length c')/\fq w' w.heap.size A' c' vs/\dz w0 (fun _=>False) vs (bQ lb X)/\Below w.heap.size w w'
theorem Ch (A:Option Addr) (c:Nat) (es:List Pt) (w0:World) (hx:kF w0 (fun _=>False) A es) (hok:dN es) (hl:es.length<=1000000):
  ∀(N i b:Nat) (X:List Pt) (lb:ByteArray) (w:World),es.length-i<=N->kM es 1 i b X->Below w0.heap.size w0 w->
  Calls Tryz.prog 25 #[.slice A es.length c,.int .i64 (i:Int),.string lb] w (EK w0 w lb X):=by
 intro N
 induction N with
 |zero=>
  intro i b X lb w hN hB;obtain ⟨p,hp,_⟩:=hB.one;have:=aP hp
  omega
 |succ N ih=>
  intro i b X lb w hN hB hW;obtain ⟨p,hp,hcase⟩:=hB.one;have hi:=aP hp;have hXl:=hB.len;have hbe:=hB.ea.lt;have HIh:=aB ih;have HX0:=aB hx;have HW:=aB hW;have Ie:=aB (fun v (hv:Below w.heap.size w v)=>lX (fun _=>False) A c es i p v ((hx.fr (Fr.below hW:Fr (fun _=>False) w0 w) fun q hq=>.inl hq).fr (Fr.below hv:Fr (fun _=>False) w v) fun q hq=>.inl hq) hl hok hp);obtain ⟨eb,eo,rfl,hb,hy,⟨TA,tc,UA,uc,hT,hU,c0,c1,c2,c3,c4,c5,c6,c7⟩,_⟩:=hx i p hp;have HV:Hid (AY w0 (fun _=>False) ⟨p.k,lb,p.nm,p.bd,p.mn,p.num,TA,p.T.length,tc,UA,p.U.length,uc⟩ {p with lb:=lb}):=aB ⟨rfl,rfl,rfl,rfl,rfl,rfl,rfl,rfl,hT,hU⟩;have uf:=nJ (hok p (O8 hp)).2;have h0':(0:Int)<=(i:Int):=by omega
  have h1':(i:Int)<(es.length:Int):=by omega
  have hwi:IntKind.i64.wrap ((i:Int)+1)=((i:Int)+1):=IntWalk.i64_in _ (by omega);have Hn:=aB hN;have HeW:Hid (eb<w0.heap.size):=aB hb;replace c0:=(hW.cell (p:=⟨eb,eo+i*8,none⟩) hb).trans c0;replace c1:=(hW.cell (p:=⟨eb,eo+i*8+1,none⟩) hb).trans c1;replace c2:=(hW.cell (p:=⟨eb,eo+i*8+2,none⟩) hb).trans c2;replace c3:=(hW.cell (p:=⟨eb,eo+i*8+3,none⟩) hb).trans c3;replace c4:=(hW.cell (p:=⟨eb,eo+i*8+4,none⟩) hb).trans c4;replace c5:=(hW.cell (p:=⟨eb,eo+i*8+5,none⟩) hb).trans c5;replace c6:=(hW.cell (p:=⟨eb,eo+i*8+6,none⟩) hb).trans c6;replace c7:=(hW.cell (p:=⟨eb,eo+i*8+7,none⟩) hb).trans c7;clear hx hok hp hy hT hU ih hN hB hW hb;go_enter Tryz.func25,Tryz.ntmps25;go_upto_region 2 with fail
  obtain ⟨w1,hw1⟩:∃w1,w1=w.alloc (.cells #[.int .i64 p.k,.string p.lb,.string p.nm,.string p.bd,.int .i64 p.mn,.int .i64 p.num,.slice TA p.T.length tc,.slice UA p.U.length uc] 33):=⟨_,rfl⟩;obtain ⟨P,hP⟩:∃P,P=w.heap.size:=⟨_,rfl⟩;have hb1:Below w.heap.size w w1:=by rw [hw1];exact au (Below.refl _ _) _
  have hbl:w1.heap[P]?=some (.cells #[.int .i64 p.k,.string p.lb,.string p.nm,.string p.bd,.int .i64 p.mn,.int .i64 p.num,.slice TA p.T.length tc,.slice UA p.U.length uc] 33 (0,0)):=by rw [hw1,hP];exact heap_alloc_new _ _
  have p0:w1.cell? ⟨P,0,none⟩=some (.int .i64 p.k):=by simp [DI,hbl]
  have HB1:=aB hb1;have vL:Hid (P=w.heap.size/\w1.heap.size=P+1):=aB ⟨hP,by rw [hw1,hP];simp⟩;have Kn:=aB hbl;rw [<-hw1,<-hP];clear hw1 hP hb1 hbl c0 c1 c2 c3 c4 c5 c6 c7;rcases hcase with ⟨n13,n14,Z,hZ,rfl⟩|⟨hk,Z,hZ,rfl⟩
  rotate_left
  ·have HC:=aB (fun v (hv:Below w.heap.size w v)=>HIh.out (i+1) b Z lb v (by have:=Hn.out;omega) hZ (ah HW.out hv))
   have he:((i+1:Nat):Int)=(i:Int)+1:=by omega
   rw [he] at HC;clear hZ he;have HF:Hid (∀e v,EK w0 w1 lb Z e v->EK w0 w lb (bQ p.lb Z) e v):=aB fun e v ⟨A',c',vs,h1,h2,h3,h4⟩=>⟨A',c',vs,by rw [dW];exact h1,ay.lower h2 HB1.out.size,by rw [uG];exact h3,ah HB1.out h4⟩;rcases hk with hk|hk<;>rw [hk] at p0<;>clear hk
   ·go_wp2_with fail
    refine (HC.out w1 HB1.out).mono ?_;rintro e w2 hpost;obtain ⟨A',c',vs,rfl,hq⟩:=HF.out _ _ hpost;have HQ:=aB hq;clear hpost hq HC HF;go_wp2_with fail;go_ret;exact ⟨_,_,vs,rfl,HQ.out⟩
   ·go_wp2_with fail
    refine (HC.out w1 HB1.out).mono ?_;rintro e w2 hpost;obtain ⟨A',c',vs,rfl,hq⟩:=HF.out _ _ hpost;have HQ:=aB hq;clear hpost hq HC HF;go_wp2_with fail;go_ret;exact ⟨_,_,vs,rfl,HQ.out⟩
  have q13:(p.k==13)=false:=by simp [n13]
  have OG:(p.k==14)=false:=by simp [n14]
  clear n13 n14 hwi;have fz:w1.frozen? ⟨P,1,none⟩=false:=by simp [World.frozen?,Kn.out]
  have p1:w1.cell? ⟨P,1,none⟩=some (.string p.lb):=by simp [DI,Kn.out]
  go_upto_region 5 with fail
  obtain ⟨w2,hw2⟩:∃w2,w2=w1.setCell ⟨P,1,none⟩ (.string lb):=⟨_,rfl⟩;have Dz:Hid (w2.heap[P]?=some (.cells #[.int .i64 p.k,.string lb,.string p.nm,.string p.bd,.int .i64 p.mn,.int .i64 p.num,.slice TA p.T.length tc,.slice UA p.U.length uc] 33 (0,0))):=aB (by rw [hw2];exact heap_set Kn.out 1 _);have HB2:Hid (Below w.heap.size w w2/\w2.heap.size=P+1):=aB ⟨by rw [hw2];exact HB1.out.setCell (by have:=vL.out;show w.heap.size<=P;omega) _,by rw [hw2];have:=vL.out;simp;omega⟩;rw [<-hw2];clear hw2 fz p0 p1;have p0:w2.cell? ⟨P,0,none⟩=some (.int .i64 p.k):=by simp [DI,Dz.out]
  have p1:w2.cell? ⟨P,1,none⟩=some (.string lb):=by simp [DI,Dz.out]
  have p2:w2.cell? ⟨P,2,none⟩=some (.string p.nm):=by simp [DI,Dz.out]
  have p3:w2.cell? ⟨P,3,none⟩=some (.string p.bd):=by simp [DI,Dz.out]
  have p4:w2.cell? ⟨P,4,none⟩=some (.int .i64 p.mn):=by simp [DI,Dz.out]
  have p5:w2.cell? ⟨P,5,none⟩=some (.int .i64 p.num):=by simp [DI,Dz.out]
  have p6:w2.cell? ⟨P,6,none⟩=some (.slice TA p.T.length tc):=by simp [DI,Dz.out]
  have p7:w2.cell? ⟨P,7,none⟩=some (.slice UA p.U.length uc):=by simp [DI,Dz.out]
  go_upto_region 6 with fail
  obtain ⟨w3,hw3⟩:∃w3,w3=w2.alloc (.cells #[.int .i64 p.k,.string lb,.string p.nm,.string p.bd,.int .i64 p.mn,.int .i64 p.num,.slice TA p.T.length tc,.slice UA p.U.length uc] 33):=⟨_,rfl⟩;obtain ⟨G,hG⟩:∃G,G=w2.heap.size:=⟨_,rfl⟩;have PG:Hid (fq w3 G (some ⟨G,0,none⟩) 1 [⟨p.k,lb,p.nm,p.bd,p.mn,p.num,TA,p.T.length,tc,UA,p.U.length,uc⟩]):=aB (by rw [hw3,hG];exact Xe w2 ⟨p.k,lb,p.nm,p.bd,p.mn,p.num,TA,p.T.length,tc,UA,p.U.length,uc⟩);have HB3:Hid (Below w.heap.size w w3/\w3.heap.size=G+1/\w.heap.size<G):=aB ⟨by rw [hw3];exact au HB2.out.1 _,by rw [hw3,hG];simp,by have:=HB2.out.2;have:=vL.out;omega⟩;rw [<-hw3,<-hG];clear hw3 hG p0 p1 p2 p3 p4 p5 p6 p7 Dz Kn;go_wp2_with fail;refine (Ie.out w3 HB3.out.1).mono ?_;rintro e w4 ⟨LA,lc,rfl,OH,hb4⟩;obtain ⟨l,hll⟩:∃l,l=eD es (aL p) (i+1):=⟨_,rfl⟩;have J7:Hid (l=eD es (aL p) (i+1)):=aB hll;rw [<-hll] at OH ⊢;have HLm:Hid (l.length=aL p):=aB (by rw [hll];exact hZ.kids);have ang:l.length<=51:=by rw [HLm.out];exact uf
  have HL4:=aB (ay.read dK OH)
  have HLG:Hid (∀a,LA=some a->G<a.block):=aB fun a ha=>by
   have:=(ay.lt OH a ha).1;have:=HB3.out.2;omega
  have HO4:=aB (ay.below PG.out hb4 (Nat.le_refl _));have jS:Hid (Below w.heap.size w w4/\G<w4.heap.size):=aB ⟨ah HB3.out.1 hb4,by have:=hb4.size;have:=HB3.out.2;omega⟩;rw [mh];clear hll OH hb4 Ie;have HZ:=aB hZ;have hZl:Z.length+1<=1000000:=by simp only [oG] at hXl;omega
  clear hZ;go_wp2_with fail
  go_loopw [8,10] (fun o8 i10 wr=>∃(k:Nat) (OA:Option Addr) (oc ak:Nat) (out:List PV) (done left:List Pt),o8= .slice OA out.length oc/\i10= .int .i64 k/\k<=l.length/\Hid (out.length=done.length+1)/\
     Hid (fq wr G OA oc out/\Fr (fun q=>q=G) w4 wr/\(∀a,OA=some a->a.block=G\/w4.heap.size<=a.block))/\
     Hid (dz w0 (fun _=>False) out ({p with lb:=lb}::done)/\done++left=Z/\kM es (l.length-k) ak b left/\l.drop k=eD es (l.length-k) ak/\i<ak))
    (fun _ i10 _=>l.length-(Lib.intOf i10).toNat)
  case atStart=>exact ⟨0,_,_,i+1,[_],[],Z,rfl,rfl,Nat.zero_le _,aB rfl,aB ⟨HO4.out,Fr.refl _ _,fun a ha=>by injection ha with ha;subst ha;exact .inl rfl⟩,aB ⟨dz.cons HV.out dz.nil,rfl,by rw [Nat.sub_zero,HLm.out];exact HZ.out,by rw [Nat.sub_zero,HLm.out,List.drop_zero];exact J7.out,by omega⟩⟩
  case round=>
   obtain ⟨k,OA,oc,ak,out,done,left,rfl,rfl,hk,hod,HI,HJ⟩:=hrel;have Yt:Hid (Below w.heap.size w wr):=aB (Fr.toBelow (X:=fun _=>False) (Fr.new (Fr.below jS.out.1) HI.out.2.1 fun b hb=>.inr (by rw [hb];have:=HB3.out.2;omega)) fun k h=>h.elim);by_cases hlt:k<l.length
   rotate_left
   ·have he:l.length-k=0:=by omega
    have HD:Hid (done=Z):=aB (by
     have h1:=HJ.out.2.2.1;rw [he] at h1;have h2:=HJ.out.2.1
     cases h1
     rwa [mO] at h2)
    have hol:out.length=(p::Z).length:=by rw [hod.out,HD.out];rfl
    have VU:Hid (fq wr w.heap.size OA oc out/\dz w0 (fun _=>False) out (bQ lb (p::Z))):=aB ⟨ay.lower HI.out.1 (Nat.le_of_lt HB3.out.2.2),by have:=HJ.out.1;rw [HD.out] at this;exact this⟩;rw [hol];clear he hol hod;go_wp2_with fail;go_ret;exact ⟨_,_,out,rfl,VU.out.1,VU.out.2,Yt.out⟩
   obtain ⟨d,hd⟩:∃d,l.length-k=d+1:=⟨l.length-k-1,by omega⟩;have hd2:l.length-(k+1)=d:=by omega
   obtain ⟨hpm,hdl,hbr,hdr,hia⟩:=HJ.out;rw [hd] at hbr hdr;obtain ⟨p2,c2,Y2,Z2,hp2,hb2,hs2,hbz,rfl,hks⟩:=hbr.UK;rw [hks] at hdr
   have hch:l[k]?=some ak:=by
    have:=congrArg (fun q=>q[0]?) hdr;simpa [ab4] using this
   have aeZ:l.drop (k+1)=eD es d c2:=by
    have:=congrArg List.tail hdr
    rwa [List.tail_drop] at this
   have hak:=aP hp2;have hYl:=hb2.len;have hYe:=hb2.ea.lt;have HC:=aB (fun v (hv:Below w.heap.size w v)=>HIh.out ak c2 Y2 p2.lb v (by have:=Hn.out;omega) hb2 (ah HW.out hv));have HS2:=aB hs2;obtain ⟨gl,go,hA1,hgl,cl⟩:=aS.int (aS.keep (B:=w4.heap.size) HL4.out (w':=w4) fun b off _=>rfl) (i:=k) (n:=(ak:Int)) (p8 hch);subst hA1;have HGl:Hid (gl<w4.heap.size/\G<gl):=aB ⟨hgl,HLG.out _ rfl⟩;obtain ⟨xb,xo,hxe,_,_,⟨_,_,_,_,_,_,_,e1,_⟩,_⟩:=HX0.out ak p2 hp2;injection hxe with hxe
   injection hxe with x1 x2
   subst x1 x2;have hex:=(Below.cell (p:=⟨eb,eo+ak*8+1,none⟩) (ah HW.out jS.out.1) HeW.out).trans e1
   have HS0:Hid (∀v,Fr (fun q=>q=G) w4 v->v.cell? ⟨gl,go+k,none⟩=some (.int .i64 (ak:Int))/\v.cell? ⟨eb,eo+ak*8+1,none⟩=some (.string p2.lb)):=aB fun v hv=>by
    have h1:=HGl.out;have h2:=HB3.out.2;have h3:=HW.out.size;have h4:=HeW.out;have h5:=jS.out.2;have k1:=hv.block gl h1.1 (by omega);have k2:=hv.block eb (by omega) (by omega);refine ⟨?_,?_⟩
    ·simp only [DI,k1] at cl ⊢
     exact cl
    ·simp only [DI,k2] at hex ⊢
     exact hex
   have HJ1:Hid (i<ak/\ak<es.length/\ak<c2/\d=l.length-(k+1)):=aB ⟨hia,hak,by omega,hd2.symm⟩;have HJ2:=aB hbz;have HJ3:=aB aeZ;have HJ4:Hid ((done++Y2)++Z2=Z):=aB (by rw [kV];exact hdl);have HJ5:=aB hpm
   have hYb:Y2.length+out.length<=1000000:=by
    have:=congrArg sI hdl;have:=hod.out;simp only [lS] at*;omega
   have a0:(0:Int)<=(ak:Int):=by omega
   have a1:(ak:Int)<(es.length:Int):=by omega
   have b0:(0:Int)<=(k:Int):=by omega
   have b1:(k:Int)<(l.length:Int):=by omega
   have qO:Hid (Fr (fun q=>q=G) w4 wr.drew):=aB (HI.out.2.1.new (Fr.below (Below.refl _ _).drew:Fr (fun _=>False) wr wr.drew) fun b hb=>hb.elim);clear hd hd2 hpm hdl hbr hdr hia hp2 hb2 hs2 hbz hks hch aeZ hak hYl hYe hgl cl e1 hex HJ;go_upto_region 10 with fail
   go_region_held3 (fun v=>v.cell? ⟨gl,go+k,none⟩=some (.int .i64 (ak:Int))/\v.cell? ⟨eb,eo+ak*8+1,none⟩=some (.string p2.lb))
    (first
     |exact HS0.out _ qO.out
     |exact HS0.out _ HF8.out
     |exact HS0.out _ HN.out.2.1)
    (first
     |(go_at_call 25;refine (HC.out _ (Yt.out.drew)).mono ?_;rintro e w8 ⟨A8,c8,v8,rfl,uw,JL,ni⟩;have uN:=aB (ay.read fH uw);have HP8:=aB JL;have dV:Hid (Below wr.heap.size wr w8):=aB (ah (Below.refl _ _).drew ni);have HF8:Hid (Fr (fun q=>q=G) w4 w8):=aB (qO.out.new (Fr.below ni:Fr (fun _=>False) wr.drew w8) fun b hb=>hb.elim);have VU:Hid (fq w8 G OA oc out):=aB (ay.below HI.out.1 dV.out (Nat.le_refl _));have hv8:v8.length=Y2.length:=(by rw [JL.1,dW]);clear uw JL ni)
     |(refine UL (by rfl) _ _ (by rfl) G (m:=out.length) (n:=Y2.length) (l:=out) rfl (by rfl) VU.out (l2:=v8) (A2:=A8) (c:=c8) hv8 (by rfl) uN.out (k:=out.length+Y2.length) rfl (by omega) (by have:=HF8.out.size;have:=jS.out.2;omega) ?_;intro A9 c9 w9 jK oM QN;have HN:=aB (UM HI.out dV.out jK oM QN);clear jK oM QN))
   all_goals
    go_wp2_with fail;go_roundw
    case rel=>exact ⟨k+1,A9,c9,c2,out++v8,done++Y2,Z2,by rw [lS,hv8],by go_num,hlt,aB (by have:=hod.out;rw [lS,lS,hv8];omega),HN,aB ⟨dz.app HJ5.out (by have:=HP8.out;rw [HS2.out] at this;exact this),HJ4.out,by rw [<-HJ1.out.2.2.2];exact HJ2.out,by rw [<-HJ1.out.2.2.2];exact HJ3.out,by have:=HJ1.out;omega⟩⟩
    case measure=>simp [Lib.intOf];omega
abbrev Rz (p:Pt) (i:Int):Pt:={p with num:=i}
theorem uH (n:Nat) (p:Pt) (x:List Pt):fQ n (p::x)=if p.k=14 then Rz p ((n+1:Nat):Int)::fQ (n+1) x else p::fQ n x:=rfl
def zU (es2:List Pt) (a2:Nat) (X:List Pt):Prop:=∃n post,es2.drop a2=fQ n X++post
section
variable {es2:List Pt} {a2:Nat} {p:Pt} {X Y:List Pt}
theorem zU.head (h:zU es2 a2 (p::X)) (hk:p.k≠14):es2[a2]?=some p:=by
 obtain ⟨n,post,h⟩:=h;rw [uH,if_neg hk] at h;have:(es2.drop a2)[0]?=some p:=by rw [h];rfl
 rwa [ab4,Nat.add_zero] at this
theorem zU.adD (h:zU es2 a2 (p::X)) (hk:p.k=14):∃i,es2[a2]?=some (Rz p i):=by
 obtain ⟨n,post,h⟩:=h;rw [uH,if_pos hk] at h;have:(es2.drop a2)[0]?=some (Rz p ((n+1:Nat):Int)):=by rw [h];rfl
 rw [ab4,Nat.add_zero] at this;exact ⟨_,this⟩
theorem zU.tail (h:zU es2 a2 (p::X)):zU es2 (a2+1) X:=by
 obtain ⟨n,post,h⟩:=h;rw [uH] at h;have h2:=congrArg List.tail h;rw [List.tail_drop] at h2;split at h2
 ·exact ⟨n+1,post,h2⟩
 ·exact ⟨n,post,h2⟩
theorem zU.left (h:zU es2 a2 (X++Y)):zU es2 a2 X:=by
 obtain ⟨n,post,h⟩:=h;rw [show fQ n (X++Y)=_ from tJ _ _ n X Y,kV] at h;exact ⟨n,_,h⟩
theorem zU.right (h:zU es2 a2 (X++Y)):zU es2 (a2+X.length) Y:=by
 obtain ⟨n,post,h⟩:=h;rw [show fQ n (X++Y)=_ from tJ _ _ n X Y,kV] at h;refine ⟨kL Pt.k n X,post,?_⟩;rw [<-List.drop_drop,h];have:X.length=(fQ n X).length:=(nO _ _ _ _).symm;rw [this,List.drop_left]
end
theorem EL {x:List Pt} (y:List Pt) (h:x≠[]):iU (x++y)=iU x:=by
 cases x with
 |nil=>exact absurd rfl h
 |cons p x=>rfl
theorem wT {x z:List Pt} (h:iU z=iU x):bQ (iU x) z=z:=by rw [<-h];exact kK z
theorem kM.join {es:List Pt} {n a c:Nat} {X:List Pt} (h:kM es n a c X):∀{m b:Nat} {Y:List Pt},kM es m c b Y->kM es (n+m) a b (X++Y):=by
 induction h with
 |nil a=>intro m b Y k;rw [Nat.zero_add];exact k
 |@nd n a b c p X Z h1 h2 h3 h4 _ _ ih2=>
  intro m d Y k;rw [show n+1+m=n+m+1 by omega,uK,kV]
  exact .nd h1 h2 h3 h4 (ih2 k)
 |@sk n a b c p X Z h1 h2 h3 _ _ ih2=>
  intro m d Y k;rw [show n+1+m=n+m+1 by omega,kV];exact .sk h1 h2 h3 (ih2 k)
theorem Rl.bare {es:List Pt} {S:Prop} (gW:∀p∈es,p.k≠14) {w:Bool} {n a b:Nat} {X:List Pt} (h:Rl es S w n a b X):(0<n->X≠[])/\∃Z,kM es n a b Z/\iU Z=iU X/\∀(s:ByteArray) (es2:List Pt) (a2:Nat),zU es2 a2 (bQ s X)->kM es2 n a2 (a2+X.length) (bQ s Z):=by
 induction h with
 |nil w a=>exact ⟨fun h=>absurd h (Nat.lt_irrefl 0),[],.nil a,rfl,fun s es2 a2 _=>.nil a2⟩
 |@nd w n a b c p X Y hp jT _ _ ih1 ih2=>
  have k14:=gW _ (O8 hp);obtain ⟨_,ZX,b1,l1,f1⟩:=ih1;obtain ⟨_,ZY,b2,l2,f2⟩:=ih2;refine ⟨(fun _ e=>by cases e),p::(ZX++ZY),.nd hp jT k14 b1 b2,rfl,fun s es2 a2 hat=>?_⟩;have JM:zU es2 a2 ({p with lb:=s}::(X++Y)):=hat;have hh:=JM.head k14;have g1:=f1 (iU X) es2 (a2+1) (by rw [kK];exact JM.tail.left);have g2:=f2 (iU Y) es2 _ (by rw [kK];exact JM.tail.right);rw [wT l1] at g1;rw [wT l2] at g2;have:=kM.nd (p:={p with lb:=s}) hh jT k14 g1 g2;rw [show a2+1+X.length+Y.length=a2+(p::(X++Y)).length by simp;omega] at this
  exact this
 |@ann w n a b c p X Y hp hk _ _ ih1 ih2=>
  obtain ⟨n1,ZX,b1,l1,f1⟩:=ih1;obtain ⟨_,ZY,b2,l2,f2⟩:=ih2;have hne:=n1 (by omega);have hnz:=b1.ne (by omega);have hnl:bQ p.lb X≠[]:=fun e=>hne (by have:=congrArg sI e;rw [dW] at this;exact fD this);have hnm:bQ p.lb ZX≠[]:=fun e=>hnz (by have:=congrArg sI e;rw [dW] at this;exact fD this);refine ⟨fun _ e=>hnl (List.append_eq_nil_iff.1 e).1,bQ p.lb ZX++ZY,.sk hp (.inl hk) b1 b2,by rw [EL _ hnl,EL _ hnm,ED _ hne,ED _ hnz],fun s es2 a2 hat=>?_⟩;rw [Cg s Y hnl,uG] at hat;have g1:=f1 s es2 a2 hat.left;have g2:=f2 (iU Y) es2 _ (by rw [kK];exact hat.right);rw [dW] at g2;rw [wT l2] at g2;rw [Cg s ZY hnm,uG,lS,dW,Nat.add_comm n 1,<-Nat.add_assoc]
  exact g1.join g2
 |@cast n a b c t u X Y _ _ _ _ _ _ _ ih1 ih2=>
  obtain ⟨n1,ZX,b1,l1,f1⟩:=ih1;obtain ⟨_,ZY,b2,l2,f2⟩:=ih2;have hne:=n1 (by omega);have hnz:=b1.ne (by omega);refine ⟨(fun _ e=>by cases e),ZX++ZY,by rw [Nat.add_comm];exact b1.join b2,by rw [EL _ hnz,l1];rfl,fun s es2 a2 hat=>?_⟩;have JM:zU es2 a2 ({mg (iU X) t u with lb:=s}::(bQ dQ X++Y)):=hat;obtain ⟨i,hh⟩:=JM.adD rfl;have g1:=f1 dQ es2 (a2+1) JM.tail.left;have g2:=f2 (iU Y) es2 _ (by rw [kK];exact JM.tail.right);rw [dW] at g2;rw [wT l2] at g2;have:=kM.sk hh (.inr rfl) g1 g2;rw [show a2+1+X.length+Y.length=a2+(mg (iU X) t u::(bQ dQ X++Y)).length by simp [dW];omega] at this;rw [Cg s ZY hnz];rw [uG] at this;exact this
def OI (q:Pt):Prop:=∃t u,q.T=aC t/\q.U=aC u/\jR t u=true/\¬Q2 t u/\Gd t/\Gd u
theorem Rl.casts {es:List Pt} {S:Prop} (gW:∀p∈es,p.k≠14) {w:Bool} {n a b:Nat} {X:List Pt} (h:Rl es S w n a b X):∀q∈X,q.k=14->OI q:=by
 induction h with
 |nil w a=>exact fun q hq=>by cases hq
 |nd hp jT _ _ ih1 ih2=>
  intro q hq hk;rcases qm.1 hq with rfl|hq
  ·exact absurd hk (gW _ (O8 hp))
  ·rcases pU.1 hq with hq|hq
   ·exact ih1 q hq hk
   ·exact ih2 q hq hk
 |@ann w n a b c p X Y hp hk0 _ _ ih1 ih2=>
  intro q hq hk;rcases pU.1 hq with hq|hq
  ·cases X with
   |nil=>cases hq
   |cons x X=>
    rcases qm.1 hq with rfl|hq
    ·exact ih1 x (by simp) hk
    ·exact ih1 q (by simp [hq]) hk
  ·exact ih2 q hq hk
 |@cast n a b c t u X Y _ h1 h2 h3 h4 _ _ ih1 ih2=>
  intro q hq hk;rcases qm.1 hq with rfl|hq
  ·exact ⟨t,u,rfl,rfl,h1,h2,h3,h4⟩
  ·rcases pU.1 hq with hq|hq
   ·cases X with
    |nil=>cases hq
    |cons x X=>
     rcases qm.1 hq with rfl|hq
     ·exact ih1 x (by simp) hk
     ·exact ih1 q (by simp [hq]) hk
   ·exact ih2 q hq hk
def qZ (x:List Pt) (i:Nat):Nat:=kL Pt.k 0 (x.take i)
theorem EM:∀(n:Nat) (x:List Pt) (i:Nat) (q:Pt),(fQ n x)[i]?=some q->∃p,x[i]?=some p/\((p.k=14/\q=Rz p ((kL Pt.k n (x.take i)+1:Nat):Int))\/(p.k≠14/\q=p))
 |n,[],i,q,h=>by
  have h2:([]:List Pt)[i]?=some q:=h
  simp at h2
 |n,p::x,0,q,h=>by
  rw [uH] at h;refine ⟨p,rfl,?_⟩;split at h
  ·rename_i hk
   left;injection h with h
   exact ⟨hk,h.symm⟩
  ·rename_i hk
   right;injection h with h
   exact ⟨hk,h.symm⟩
 |n,p::x,i+1,q,h=>by
  rw [uH] at h;split at h
  ·rename_i hk
   obtain ⟨p2,h1,h2⟩:=EM (n+1) x i q (by simpa using h);refine ⟨p2,by simpa using h1,?_⟩;rw [List.take_succ_cons,kL,if_pos hk];exact h2
  ·rename_i hk
   obtain ⟨p2,h1,h2⟩:=EM n x i q (by simpa using h);refine ⟨p2,by simpa using h1,?_⟩;rw [List.take_succ_cons,kL,if_neg hk];exact h2
theorem FP {x:List Pt} {i:Nat} {p:Pt} (h:x[i]?=some p):qZ x (i+1)=if p.k=14 then qZ x i+1 else qZ x i:=by
 unfold qZ;rw [List.take_add_one,h,wR];show kL Pt.k _ [p]=_;rw [kL];rfl
end Go.Proofs.YtmjdhfbnmmdjiaaGreat
