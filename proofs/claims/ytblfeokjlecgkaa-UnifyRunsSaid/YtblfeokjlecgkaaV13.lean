/- Laid together by a tool from the texts of this seat: UStatic UBec UShare UEnds URows. Conditions: each theorem's own. -/
import Derived.Test.YtblfeokjlecgkaaV09
import Derived.Test.YtblfeokjlecgkaaV06
import Derived.Test.YtblfeokjlecgkaaV12
set_option maxHeartbeats 8000000
set_option maxRecDepth 100000
namespace Go.Proofs.Ytblfeokjlecgkaa
open Go.Lib renaming hid->aC
open _root_.And renaming intro->Gw
open Go.RowKit.Below renaming refl->aT,heap_alloc->adM
open Go.World renaming cell?->adw,frozen?->ad6,cell?_of_block->adN
open _root_.ByteArray renaming empty->pR
open _root_.Nat renaming lt_of_lt_of_le->vv,le_refl->bN
open _root_.Array renaming getElem?_eq_some_iff->ade
open _root_.List renaming mem_of_getElem?->Yt,take_of_length_le->CK,take_add_one->GZ,length_eq_zero_iff->ae1,getElem?_eq_getElem->jr,getElem?_append_right->zA,length_map->aaT,filter_append->aeW,filter_cons->abA,length_filter_le->aaU,eq_nil_of_length_eq_zero->kZ,filter_sublist->abm
open Go.RowKit
attribute [local go_sem ↓] Go.wp_at_zero Go.wp_at_succ
theorem Al:∀(a b:Fl) (m:Int),(cK m (a++b)).1=(cK m a).1++(cK (cK m a).2 b).1/\(cK m (a++b)).2=(cK (cK m a).2 b).2
 |[],b,m=>by rw [List.nil_append,dw];exact ⟨rfl,rfl⟩
 |p::a,b,m=>by
  obtain ⟨h1,h2⟩:=Al a b (aH m p.2).2;rw [List.cons_append,b_,b_,h1,h2];exact ⟨rfl,rfl⟩
theorem DI:∀(fs:Fl) (m:Int),(cK m fs).1.length=fs.length
 |[],m=>by rw [dw]
 |p::fs,m=>by rw [b_];simp [DI fs]
theorem aav {fs:Fl} {i:Nat} {p:Lb×Ut} (h:fs[i]?=some p) (m:Int):
  (cK m fs).1[i]?=some (p.1,(aH (cK m (fs.take i)).2 p.2).1)/\(cK m (fs.take (i+1))).2=(aH (cK m (fs.take i)).2 p.2).2:=by
 have hi:=bf h;have e1:fs.take (i+1)=fs.take i++[p]:=by rw [GZ,h];rfl
 have e2:fs=fs.take i++(p::fs.drop (i+1)):=by
  have e3:fs[i]=p:=by rw [jr hi] at h;injection h
  rw [<-e3,<-List.drop_eq_getElem_cons hi,List.take_append_drop]
 constructor
 ·conv=>lhs;rw [e2]
  rw [(Al _ _ m).1,zA (by rw [DI];simp;omega),DI,b_];simp [Nat.min_eq_left (Nat.le_of_lt hi)]
 ·rw [e1,(Al _ _ m).2,b_,dw]
theorem aaw {fs:Fl} {i:Nat} {p:Lb×Ut} (h:fs[i]?=some p):bG (fs.take (i+1))=bG (fs.take i)+aJ p.2:=by
 rw [GZ,h];show bG (_++[p])=_;rw [rT,cB,lK];rfl
theorem QN (fs:Fl) (i:Nat):bG (fs.take i)<=bG fs:=GV (List.take_sublist i fs)
theorem Un {L:Sorts} {fs:Fl} (h:∀p∈fs,dQ L p.2) (m:Int):(cK m fs).2=m+(bG fs:Nat):=Ez (L:=L) (fun p _ m hp=>nJ p.2 m hp) m h
theorem WZ {X:Nat->Prop} {w:World} {b:Nat} {k n:Int} (h:w.heap[b]?=some (wu k n)) (hx:¬X b):aF X w b (.mk k n [] none):=
 .mk b k n [] none none none [] [] 0 0 (.pointer none) hx h rfl (fun _=>rfl) dH.nil dH.nil rfl (fun i p c hp=>by simp at hp) rfl
structure Small (L:Sorts) (t:Ut):Prop where
 ok:dQ L t
 lb:∃U:List Lb,U.length<=100000/\pY U t
theorem Small.child {L:Sorts} {k n:Int} {fs:Fl} {tl:Option Int} (h:Small L (.mk k n fs tl)) {p:Lb×Ut} (hp:p∈fs):Small L p.2:=by
 obtain ⟨h1,U,h2,h3⟩:=h;rw [bK] at h1;rw [gI] at h3;exact ⟨h1.2 p hp,U,h2,h3.2 p hp⟩
theorem Small.len {L:Sorts} {k n:Int} {fs:Fl} {tl:Option Int} (h:Small L (.mk k n fs tl)):fs.length<=100000:=by
 obtain ⟨h1,U,h2,h3⟩:=h;rw [bK] at h1;rw [gI] at h3;have:=iy h1.1.1 fun l hl=>(h3.1 l hl).1;simp only [ay,aaT] at this;omega
def QO (X:Nat->Prop) (s m:Nat) (first nx:Int) (t:Ut) (w:World) (e:Ending) (w':World):Prop:=
 ∃g,e= .returned (pk g)/\aF X w' g (aH nx t).1/\w'.heap[s]?=some (iU first (aH nx t).2 m)/\Fr (fun x=>x=s) w w'/\w.heap.size<=g
def IC (s m:Nat) (first:Int) (t:Ut):Prop:=
 ∀(X:Nat->Prop) (nx:Int) (w:World) (b:Nat),X s->(∀k,X k->k<w.heap.size)->w.heap[s]?=some (iU first nx m)->aF X w b t->0<=nx->nx+(aJ t:Nat)<=4611686018427387904->
  Calls Try.prog 143 #[pk s,pk b] w (QO X s m first nx t w)
theorem Uo (X:Nat->Prop) (s m:Nat) (first nx:Int) (n:Int) (fs:Fl) (tl:Option Int) (w:World) (b:Nat) (hX:∀k,X k->k<w.heap.size) (hs:w.heap[s]?=some (iU first nx m)) (hb:aF X w b (.mk 0 n fs tl)) (h0:0<=nx) (h1:nx+1<=4611686018427387904):
  Calls Try.prog 143 #[pk s,pk b] w (QO X s m first nx (.mk 0 n fs tl) w):=by
 have c0:w.cell? ⟨b,0,none⟩=some (.int .i64 0):=hb.cells.1;have HX:=aC hX;have HS:=aC hs;clear hX hs hb;unfold pk;go_enter Try.func143,Try.ntmps143;go_wp2_with fail;have HF:=aC (yg s m first nx 8 w HS.out (by omega) (by omega));unfold pk at HF;refine HF.out.mono ?_;rintro e w1 ⟨g,rfl,hg,hb1,hs1,hfr⟩;have G:=aC (Gw hg (Gw hb1 (Gw hs1 hfr)));clear hg hb1 hs1 hfr HF c0;go_wp2_with fail;go_ret;refine ⟨g,rfl,?_,?_,G.out.2.2.2,G.out.1⟩
 ·rw [fF,if_pos rfl]
  exact WZ G.out.2.1 fun hx=>by have:=HX.out g hx;have:=G.out.1;omega
 ·rw [fF,if_pos rfl]
  exact G.out.2.2.1
theorem QS (L:Sorts) (s m:Nat) (first:Int) (k n:Int) (fs:Fl) (tl:Option Int) (hk0:k≠0) (ih:∀p∈fs,Small L p.2->IC s m first p.2) (hsm:Small L (.mk k n fs tl)):IC s m first (.mk k n fs tl):=by
 intro X nx w b QT hX hs hb h0 h1
 cases hb with
 |mk _ _ _ _ _ A B ls bs ca cb tv hx hb hn hl hA hB hlen hk ht=>
 obtain ⟨ta,rfl⟩:∃ta,tv= .pointer ta:=by
  cases tl with
  |none=>exact ⟨none,ht⟩
  |some q=>
   obtain ⟨b2,e,_⟩:=ht;exact ⟨_,e⟩
 have HX:=aC hX;have HS:=aC hs;have hlf:=hsm.len;rw [kE,if_neg hk0] at h1;have H1:=aC h1;have hd:(k==0)=false:=by simpa using hk0
 have c0:w.cell? ⟨b,0,none⟩=some (.int .i64 k):=by simp [adw,hb]
 have c1:w.cell? ⟨b,1,none⟩=some (.int .i64 n):=by simp [adw,hb]
 have c2:w.cell? ⟨b,2,none⟩=some (.slice A ls.length ca):=by simp [adw,hb]
 have c3:w.cell? ⟨b,3,none⟩=some (.slice B bs.length cb):=by simp [adw,hb]
 have c4:w.cell? ⟨b,4,none⟩=some (.pointer ta):=by simp [adw,hb]
 have hbz:b<w.heap.size:=(ade.1 hb).1;have HK0:=aC hk0;have HN:=aC hn;have HL:=aC hl;have HA:=aC hA;have HB:=aC hB;have HLen:=aC hlen;have HK:=aC hk;have HT:=aC ht;have zi:=aC ih;have HSM:=aC hsm;have hbl:bs.length<=100000:=by omega
 clear hX hs hb hn hl hA hB hlen hk ht ih hsm h1 hk0 hlf;unfold pk;go_enter Try.func143,Try.ntmps143;go_wp2_with fail;go_region_held3 (fun v=>v.cell? ⟨b,0,none⟩=some (.int .i64 k)/\v.cell? ⟨b,1,none⟩=some (.int .i64 n)/\v.cell? ⟨b,2,none⟩=some (.slice A ls.length ca)/\v.cell? ⟨b,4,none⟩=some (.pointer ta)) (go_keep) (fail);rename_i hh;clear hh;go_wp2_with fail;clear c0 c1 c2 c3 c4
 go_loopw [38] (fun s38 wr=>∃(i:Nat) (B2:Option Addr) (Ct:Nat) (gs:List Nat),s38= .int .i64 i/\i<=bs.length/\Hid (oG w.heap.size w.heap.size k n (.slice A ls.length ca) B2 Ct gs (.pointer ta) wr/\gs.length=i/\
   (∀(j:Nat) (c:Nat) (p:Lb×Ut),gs[j]?=some c->(cK nx fs).1[j]?=some p->aF (mq X w.heap.size none B2) wr c p.2)/\wr.heap[s]?=some (iU first (cK nx (fs.take i)).2 m)/\Fr (fun x=>x=s) w wr)) (fun s38 _=>bs.length-(intOf s38).toNat)
 case atStart=>
  have hf:Fr (fun x=>x=s) w (w.alloc (.cells #[.int .i64 k,.int .i64 n,.slice A ls.length ca,.slice none 0 0,.pointer ta] 105)).drew:=(((Fr.refl _ w).alloc _).drewN 1);refine ⟨0,none,0,[],rfl,Nat.zero_le _,aC ⟨⟨bN _,heap_alloc_new w _,aA.nil,fun _ e=>by cases e⟩,rfl,fun j c p hj=>by simp at hj,?_,hf⟩⟩;rw [List.take_zero,dw];have hlt:s<w.heap.size:=HX.out s QT;exact (adM w _ s hlt).trans HS.out
 case round=>
  obtain ⟨i,B2,Ct,gs,rfl,hi,M⟩:=hrel;by_cases hp:i<bs.length
  ·obtain ⟨c,hc⟩:=aD hp
   obtain ⟨p,hpq⟩:=aD (l:=fs) (i:=i) (by have:=HLen.out;omega);have Hc:=aC (Gw hc hpq);obtain ⟨bb,oo,rfl,hbX,agi,hrd⟩:=HB.out (fun e=>by rw [e] at hp;simp at hp)
   have cc0:w.cell? ⟨bb,oo+i,none⟩=some (.pointer (some ⟨c,0,none⟩)):=by
    have:=hrd i c hc 0 _ rfl;simpa [pk] using this
   have hne:bb≠s:=fun e=>hbX (e▸QT);have cc:wr.cell? ⟨bb,oo+i,none⟩=some (.pointer (some ⟨c,0,none⟩)):=(adN (w:=w) (M.out.2.2.2.2.block bb agi hne)).trans cc0;have hgl:gs.length<=100000:=by have:=M.out.2.1;omega
   obtain ⟨_,_,_,g3,_,_,f3,_⟩:=M.out.1.cells;have hnx:=aC (aav hpq nx);have hnx2:=aC (Un (L:=L) (fs:=fs.take i) (fun q hq=>by have:=HSM.out.ok;rw [bK] at this;exact this.2 q (List.mem_of_mem_take hq)) nx);have hdt:=aC (aaw hpq);have hdl:=aC (QN fs (i+1))
   have hcall:Hid (∀W,Below wr.heap.size wr W->Calls Try.prog 143 #[pk s,pk c] W (QO (mq X w.heap.size none B2) s m first (cK nx (fs.take i)).2 p.2 wr)):=aC fun W hW=>by
    have hfw:=M.out.2.2.2.2.trans (Fr.below (X:=fun x=>x=s) hW)
    have hXw:∀k,mq X w.heap.size none B2 k->k<W.heap.size:=fun k hk=>by
     have h6:=hfw.size;have h7:=hW.size;rcases M.out.1.kx hk with hk|hk
     ·have:=HX.out k hk;omega
     ·omega
    have hsW:W.heap[s]?=some (iU first (cK nx (fs.take i)).2 m):=(hW.block s (ade.1 M.out.2.2.2.1).1).trans M.out.2.2.2.1
    have hcW:aF (mq X w.heap.size none B2) W c p.2:=((HK.out i p c hpq hc).more fun k hk hx=>by
     rcases M.out.1.kx hx with hx|hx
     ·exact hx
     ·omega).fr hfw fun k _ e=>.inl (e▸QT)
    have h0':0<=(cK nx (fs.take i)).2:=by have:=hnx2.out;omega
    have h1':(cK nx (fs.take i)).2+(aJ p.2:Nat)<=4611686018427387904:=by have:=hnx2.out;have:=hdt.out;have:=hdl.out;have:=H1.out;omega
    refine (zi.out p (Yt hpq) (HSM.out.child (Yt hpq)) _ _ W c (.inl QT) hXw hsW hcW h0' h1').mono ?_;rintro e w' ⟨g,he,h2,h3,h4,h5⟩;exact ⟨g,he,h2,h3,(Fr.below hW).trans h4,by have:=hW.size;omega⟩
   unfold pk at hcall;clear hc hpq cc0 agi hrd hbX;have HY:Hid (∀b,(fun x=>x=s) b->b<w.heap.size):=aC (by rintro _ rfl;exact HX.out _ QT);have hwl:w.heap.size<wr.heap.size:=(ade.1 M.out.1.blk).1;go_wp2_with fail;have oO:gs.length=i:=M.out.2.1;have HG8:=aC oO;clear oO
   go_region_law
    (first
     |(refine EI (by rfl) _ _ (by rfl) w.heap.size (l:=gs) (by rfl) (M1.out.step (Fr.below (X:=fun _=>False) (by first|exact (ak (aT _ _) _).drew|exact ak (aT _ _).drew _|exact ak (aT _ _) _)) (fun _ e=>e.elim)).kb (l2:=[g']) (A2:=some ⟨w1.heap.size,0,none⟩) (c:=1) (B:=w1.heap.size+1) (by rfl) (qG _ g' _ _ rfl) (by simp;omega) (by simp;have:=Q1.out.2.2.1.size;omega) ?_;intro B3 WI w2 hown2 hg2 hA2;have M7:=aC ((M1.out.step (Fr.below (X:=fun _=>False) (by first|exact (ak (aT _ _) _).drew|exact ak (aT _ _).drew _|exact ak (aT _ _) _)) (fun _ e=>e.elim)).push hown2 hg2 hA2);have e7:=(M1.out.step (Fr.below (X:=fun _=>False) (by first|exact (ak (aT _ _) _).drew|exact ak (aT _ _).drew _|exact ak (aT _ _) _)) (fun _ e=>e.elim)).kid hg2;have e8:=e7.trans (Below.block (B:=w1.heap.size) (w:=w1) (by first|exact (ak (aT _ _) _).drew|exact ak (aT _ _).drew _|exact ak (aT _ _) _) w.heap.size (vv hwl Q1.out.2.2.1.size));have q5:=(adN (a:=⟨w.heap.size,3,none⟩) e8).trans g31;have q6:=(World.frozen?_of_block (a:=⟨w.heap.size,3,none⟩) e8).trans f31;have KD:=aC (fun (c:Nat) (t:Ut) (h:aF (mq X w.heap.size none B2) w1 c t)=>Yo (o:=3) (h.aU (by first|exact (ak (aT _ _) _).drew|exact ak (aT _ _).drew _|exact ak (aT _ _) _)) hg2 hA2 (.slice B3 (gs.length+1) WI));have F3:=aC (((Fr.below (X:=fun x=>w.heap.size<=x) (w:=w1) (by first|exact (ak (aT _ _) _).drew|exact ak (aT _ _).drew _|exact ak (aT _ _) _)).trans (Fr.grown hg2 (fun q hq=>(M1.out.kb.block q hq).1))).setCell (p:=⟨w.heap.size,3,none⟩) (.inl (bN _)) (.slice B3 (gs.length+1) WI));clear hown2 hg2 hA2 e7 e8)
     |(go_simp;(with_reducible refine (hcall.out _ ?_).mono ?_);(first|exact aT _ _|exact (aT _ _).drew);rintro e w1 ⟨g',rfl,Q⟩;have Q1:=aC Q;have M1:=aC (M.out.1.step Q.2.2.1 HY.out);obtain ⟨_,_,_,g31,_,_,f31,_⟩:=M1.out.cells;have acA:w.heap.size<w1.heap.size:=vv hwl Q.2.2.1.size;clear Q;unfold pk;dsimp only))
   all_goals
    go_wp2_with fail;go_roundw
    case rel=>
     refine ⟨i+1,B3,WI,gs++[g'],by go_num,hp,aC ⟨M7.out,by simp;exact HG8.out,?_,?_,?_⟩⟩
     ·intro j c' p' h1 h2
      refine KD.out c' p'.2 ?_;rcases Nat.lt_or_ge j gs.length with hj|hj
      ·rw [List.getElem?_append_left hj] at h1
       exact (M.out.2.2.1 j c' p' h1 h2).fr Q1.out.2.2.1 fun k _ e=>.inl (e▸QT)
      ·have hj2:j=gs.length:=by
        have:=bf h1;simp at this;omega
       subst hj2;rw [zA (bN _),Nat.sub_self] at h1;simp only [List.getElem?_cons_zero,Option.some.injEq] at h1;subst h1;rw [HG8.out,hnx.out.1] at h2;injection h2 with h2
       subst h2;exact Q1.out.1
     ·rw [hnx.out.2]
      have hsl:s<w.heap.size:=HX.out s QT;have hsl1:s<w1.heap.size:=by have:=Q1.out.2.2.1.size;omega
      exact (F3.out.block s hsl1 (fun e=>by have e:w.heap.size<=s:=e;omega)).trans Q1.out.2.1
     ·exact (M.out.2.2.2.2.trans Q1.out.2.2.1).new F3.out fun b e=>.inr e
    case measure=>simp [intOf];omega
  ·go_wp2_with fail
   go_ret;have hbe:i=bs.length:=by omega
   have hie:fs.take i=fs:=CK (by have:=HLen.out;omega);have oO:gs.length=i:=M.out.2.1;have hsl:(cK nx fs).1.length=fs.length:=DI fs nx;refine ⟨w.heap.size,rfl,?_,?_,M.out.2.2.2.2,bN _⟩
   ·rw [fF,if_neg HK0.out]
    have hq:∀q,w.heap.size<=q->q<wr.heap.size->¬X q:=fun q hq _ hx=>by have:=HX.out q hx;omega
    refine .mk _ k n _ tl A B2 ls gs ca Ct (.pointer ta) (hq _ (bN _) (ade.1 M.out.1.blk).1) M.out.1.blk (by have:=HN.out;omega) (fun hr=>by rw [HL.out hr,jg]) ?_ (dH.uF uf M.out.1.kb hq) (by have:=HLen.out;omega) (fun j p' c' h1 h2=>OX (M.out.2.2.1 j c' p' h2 h1)) ?_
    ·exact HA.out.fr M.out.2.2.2.2 fun k _ e=>e▸QT
    ·exact HT.out.fr M.out.2.2.2.2 fun k _ e=>e▸QT
   ·have:=M.out.2.2.2.1
    rw [hie] at this;rw [fF,if_neg HK0.out];exact this
theorem Uq (L:Sorts) (s m:Nat) (first:Int):∀t,Small L t->IC s m first t:=
 Ut.ind fun k n fs tl ih hsm=>by
  by_cases hk:k=0
  ·subst hk
   intro X nx w b _ hX hs hb h0 h1;exact Uo X s m first nx n fs tl w b hX hs hb h0 (by rw [kE] at h1;simp at h1;omega)
  ·exact QS L s m first k n fs tl hk ih hsm
abbrev SX (s m:Nat):Nat->Prop:=fun k=>k=s\/k=m
theorem TG.small {U:List Lb} {S:Kn} {t:Ut} (g:TG U S t) (hU:U.length<=100000):Small S.L t:=⟨g.pend.1,U,hU,g.lb⟩
theorem TG.aH {U:List Lb} {S:Kn} {t:Ut} (h:KG U S) (g:TG U S t):S.m<=(aH S.m t).2/\TG U (S.up (aH S.m t).2) (aH S.m t).1:=by
 obtain ⟨a,b,c,d⟩:=jX t S.m ⟨g.pend.1,g.pend.2,h.inv.new⟩;exact ⟨a,⟨b,d⟩,Qd t S.m g.fu,Dk t S.m g.sh,Qe t S.m h.nn.m g.pend.1 g.nn,Fy t S.m g.lb⟩
def ac6 (s m:Nat) (first:Int) (S:Kn) (num:Int) (t:Ut) (w:World) (e:Ending) (w':World):Prop:=
 ∃r:Bool,e= .returned (.bool r)/\Fr (SX s m) w w'/\(r=false->bL num (inst S.σ (aH S.m t).1))/\(r=true->¬bL num (inst S.σ (aH S.m t).1)/\∀S':Kn,S'.κ=upd S.κ num (aH S.m t).1->S'.m=(aH S.m t).2->bH (SX s m) s m first w' S')
theorem l7 {s m:Nat} {first:Int} {w:World} {S:Kn} {X:Nat->Prop} (h:bH X s m first w S):∀k,SX s m k->k<w.heap.size:=by
 rintro k (rfl|rfl)
 ·exact (ade.1 h.st).1
 ·obtain ⟨_,_,_,_,l,h3,_⟩:=h
  exact h3.lt
theorem Am (U:List Lb) (s m:Nat) (first:Int) (S:Kn) (num:Int) (t:Ut) (b:Nat) (w:World) (hS:bH (SX s m) s m first w S) (hK:KG U S) (hU:U.length<=100000) (hb:aF (SX s m) w b t) (hsm:Small S.L t) (hmm:S.m<=(aH S.m t).2) (gs:DW U (S.up (aH S.m t).2) (aH S.m t).1) (ze:S.κ num=none) (hm:S.m+(aJ t:Nat)<=4611686018427387904):
  Calls Try.prog 111 #[pk s,.int .i64 num,pk b] w (ac6 s m first S num t w):=by
 have hst:=Uq S.L s m first t hsm (SX s m) S.m w b (.inl rfl) (l7 hS) hS.st hb hK.nn.m hm;have HS:=aC hS;have HK:=aC (hK.up hmm);have HG:=aC gs;have HN:=aC ze;have mk:=@run_makeMap Try.prog;clear hmm gs hS hK hb hsm ze hm;unfold pk at hst;unfold pk;go_enter Try.func111,Try.ntmps111;go_wp2_with fail;refine hst.mono ?_;clear hst;rintro e w1 ⟨g1,rfl,z1,z2,z3,z4⟩
 have hS1:bH (SX s m) s m first w1 (S.up (aH S.m t).2):=by
  obtain ⟨a1,a2,a3,a4,l,a5,a6⟩:=HS.out;have hml:m<w.heap.size:=a5.lt;refine ⟨a1,a2,a3,z2,l,a5.later (z3.block m hml fun e=>a1 e.symm),fun n=>?_⟩;have:=a6 n;show match S.κ n with|none=>_|some t=>_
  cases hk:S.κ n with
  |none=>rw [hk] at this;exact this
  |some t=>
   rw [hk] at this;obtain ⟨b,e,hn⟩:=this;exact ⟨b,e,hn.fr z3 fun k _ e=>.inl e⟩
 have Z1:=aC (Gw z1 (Gw hS1 z3));clear z1 z2 z3 z4 hS1;unfold pk;go_wp2_with fail
 have hin:Calls Try.prog 144 #[pk s,.int .i64 num,pk g1,.map (some w1.heap.size)] (w1.alloc (.map #[] 0)) (Aj (fun k=>SX s m k\/k=w1.heap.size) (S.up (aH S.m t).2) num w1.heap.size [] (aH S.m t).1 (w1.alloc (.map #[] 0))):=by
  have hba:Below w1.heap.size w1 (w1.alloc (.map #[] 0)):=ak (aT _ _) _;have hlt:=l7 Z1.out.2.1
  have hmore:∀k,k<w1.heap.size->(SX s m k\/k=w1.heap.size)->SX s m k:=fun k hk h=>by
   rcases h with h|h
   ·exact h
   ·omega
  have hne:w1.heap.size≠s/\w1.heap.size≠m:=⟨fun e=>by have:=hlt s (.inl rfl);omega,fun e=>by have:=hlt m (.inr rfl);omega⟩;refine ac0 (fun k=>SX s m k\/k=w1.heap.size) U _ s m first num w1.heap.size HK.out hU (.inr rfl) hne HN.out _ _ (bN _) g1 _ [] ?_ ((Z1.out.2.1.more (.inl (.inl rfl)) (.inl (.inr rfl)) hmore).aU hba) ((Z1.out.1.more hmore).aU hba) HG.out ?_
  ·rintro k (h|rfl)
   ·have:=hlt k h
    simp;omega
   ·simp
  ·exact ⟨⟨#[],0,heap_alloc_new w1 _,rfl⟩,fun q hq=>by simp at hq⟩
 unfold pk at hin;refine hin.mono ?_;clear hin mk;rintro e w3 ⟨r,rfl,f1,f2,f3⟩;have hF:Fr (SX s m) w w3:=(Z1.out.2.2.mono fun k e=>.inl e).new (((Fr.below (X:=fun k=>k=w1.heap.size) (ak (aT w1.heap.size w1) (.map #[] 0))).trans f1)) fun b e=>.inr (by have e:b=w1.heap.size:=e;have:=Z1.out.2.2.size;omega)
 cases r with
 |true=>
  have R:=aC (Gw hF (f2 rfl));clear hF f1 f2 f3;go_wp2_with fail;go_ret
  exact ⟨false,rfl,R.out.1,fun _=>R.out.2,fun h=>by cases h⟩
 |false=>
  have hno:=(f3 rfl).1;have hba:Below w1.heap.size w1 (w1.alloc (.map #[] 0)):=ak (aT _ _) _;have hlt:=l7 Z1.out.2.1
  have hmore:∀k,k<w1.heap.size->(SX s m k\/k=w1.heap.size)->SX s m k:=fun k hk h=>by
   rcases h with h|h
   ·exact h
   ·omega
  have hS3:bH (SX s m) s m first w3 (S.up (aH S.m t).2):=(((Z1.out.2.1.more (.inl (.inl rfl)) (.inl (.inr rfl)) hmore).aU hba).fr f1 fun k _ e=>by
   have e:k=w1.heap.size:=e;subst e;exact ⟨.inr rfl,fun e=>by have:=hlt s (.inl rfl);omega,fun e=>by have:=hlt m (.inr rfl);omega⟩).more (.inl rfl) (.inr rfl) fun k _ h=>.inl h
  have hN3:aF (SX s m) w3 g1 (aH S.m t).1:=(((Z1.out.1.more hmore).aU hba).fr f1 fun k _ e=>.inr e).more fun k _ h=>.inl h;have s2:=hS3.cell.1;obtain ⟨a1,a2,a3,a4,l,a5,a6⟩:=hS3;have Q:=aC (Gw hF (Gw hno (Gw hN3 (Gw a1 (Gw a4 (Gw a5 a6))))));clear hF f1 f2 f3 hno hba hlt hmore hN3 a1 a2 a3 a4 a5 a6;go_wp2_with (refine sw rfl _ _ _ rfl Q.out.2.2.2.2.2.1 (LP Try.underlying3 num l) Try.underlying85 (.pointer (some ⟨g1,0,none⟩)) rfl rfl rfl ?_;intro w4 hM4 hg4);have hX4:Fr (fun k=>k=m) w3 w4:=Fr.grown hg4 fun k hk=>by injection hk with hk;exact hk.symm
  have Q2:=aC (Gw hM4 hX4);clear hM4 hg4 hX4;go_wp2_with fail;go_ret;refine ⟨true,rfl,Q.out.1.trans (Q2.out.2.mono fun k e=>.inr e),fun h=>(by cases h),fun _=>⟨Q.out.2.1,fun S' hκ hm'=>?_⟩⟩;obtain ⟨q1,q2,q3,q4,q5,q6,q7⟩:=Q.out;refine ⟨q4,.inl rfl,.inr rfl,?_,_,Q2.out.1,fun n=>?_⟩
  ·rw [hm',Q2.out.2.block s (ade.1 q5).1 fun e=>q4 e]
   exact q5
  ·rw [hκ]
   by_cases e:n=num
   ·subst e
    rw [upd_same];exact ⟨g1,by rw [Cr,if_pos rfl];rfl,q3.fr Q2.out.2 fun k _ e=>.inr e⟩
   ·rw [bQ e]
    have:=q7 n
    cases hk:S.κ n with
    |none=>
     have h2:(S.up (aH S.m t).2).κ n=none:=hk;rw [h2] at this;show oZ n _=none;rw [Cr,if_neg e]
     exact this
    |some y=>
     have h2:(S.up (aH S.m t).2).κ n=some y:=hk;rw [h2] at this;obtain ⟨b,hb,hn⟩:=this;exact ⟨b,by rw [Cr,if_neg e];exact hb,hn.fr Q2.out.2 fun k _ e=>.inr e⟩
theorem iM.filter {X:Nat->Prop} {w:World} {cl bl:List (ByteArray×Nat)} {x y:Fl} (h:iM X w cl x) (k:iM X w bl y):iM X w (cl.filter fun c=> !sG c.1 bl) (au x y):=by
 have hh:∀l,sG l bl=jD l (ay y):=fun l=>by
  have:=k.FB;unfold sG jD;rw [<-this,List.any_map];rfl
 have key:∀(n:Nat),iM X w ((cl.take n).filter fun c=> !sG c.1 bl) (au (x.take n) y):=by
  intro n
  induction n with
  |zero=>exact iM.nil
  |succ n ih=>
   rcases Nat.lt_or_ge n cl.length with hn|hn
   ·have hx:n<x.length:=by rw [<-h.1];exact hn
    have e1:=jr hn;have e2:=jr hx;obtain ⟨a,b⟩:=h.2 n _ _ e1 e2;unfold au at ih ⊢;rw [GZ,GZ,e1,e2,aeW,aeW];show iM X w (_++([cl[n]].filter _)) (_++([x[n]].filter _))
    cases hc:sG cl[n].1 bl with
    |true=>
     have hl:jD x[n].1 (ay y)=true:=by rw [<-hh,<-a];exact hc
     simp only [abA,hc,hl,List.filter_nil,Bool.not_true,Bool.false_eq_true,if_false,List.append_nil]
     exact ih
    |false=>
     have hl:jD x[n].1 (ay y)=false:=by rw [<-hh,<-a];exact hc
     simp only [abA,hc,hl,List.filter_nil,Bool.not_false,if_true];have e3:cl[n]=(x[n].1,cl[n].2):=Prod.ext a rfl;rw [e3];exact ih.snoc b
   ·have hx:x.length<=n:=by rw [<-h.1];exact hn
    rw [CK hn,CK hx] at ih;rw [CK (by omega),CK (by omega)];exact ih
 have:=key cl.length;rw [List.take_length,CK (by rw [<-h.1];exact bN _)] at this;exact this
def chV (c:ByteArray×Nat):Value:=.agg #[.string c.1,.pointer (some ⟨c.2,0,none⟩)]
def yE (w:World) (dm:Nat) (D:List Lb):Prop:=∃l,jV sk w dm l/\(∀p∈l,p.2= .bool true)/\∀a,a∈D↔∃v,oZ a l=some v
theorem yE.look {w:World} {dm:Nat} {D:List Lb} (h:yE w dm D) (a:Lb):(Instr.lookup 181 (.map (some dm)) (.string a) false).run Try.prog w= .ok (.bool (jD a D)) w:=by
 obtain ⟨l,hM,ht,hD⟩:=h;have h1:=hM.lookup (LQ Try.underlying9 a l) Try.underlying181 _ (WY w) false
 have h2:(oZ a l).getD (.bool false)= .bool (jD a D):=by
  cases e:oZ a l with
  |none=>
   have:jD a D=false:=by
    cases hh:jD a D with
    |false=>rfl
    |true=>
     obtain ⟨v,hv⟩:=(hD a).1 (kM.1 hh);rw [e] at hv
     cases hv
   rw [this]
   rfl
  |some v=>
   have:jD a D=true:=kM.2 ((hD a).2 ⟨v,e⟩);rw [this];exact ht _ (Gc e)
 rw [<-h2];exact h1
theorem yE.aU {w w':World} {dm:Nat} {D:List Lb} (h:yE w dm D) (hb:w'.heap[dm]?=w.heap[dm]?):yE w' dm D:=by
 obtain ⟨l,hM,r⟩:=h;exact ⟨l,hM.later hb,r⟩
theorem yE.lt {w:World} {dm:Nat} {D:List Lb} (h:yE w dm D):dm<w.heap.size:=by
 obtain ⟨l,hM,_⟩:=h;exact hM.lt
def Ur (cl bl:List (ByteArray×Nat)) (D:List Lb) (w:World) (e:Ending) (w':World):Prop:=
 Below w.heap.size w w'/\((∃(i j:Nat) (c d:ByteArray×Nat),e= .returned (.tuple #[chV c,chV d,.bool true])/\cl[i]?=some c/\bl[j]?=some d/\d.1=c.1/\c.1∉D)\/
  (e= .returned (.tuple #[.agg #[.string pR,.pointer none],.agg #[.string pR,.pointer none],.bool false])/\∀c∈cl,sG c.1 bl=true->c.1∈D))
theorem Us (A B:Option Addr) (ca cb:Nat) (cl bl:List (ByteArray×Nat)) (dm:Nat) (D:List Lb) (w:World) (ha:aX 2 jY w w.heap.size A cl) (hb:aX 2 jY w w.heap.size B bl) (hla:cl.length<=1000000) (hlb:bl.length<=1000000) (hD:yE w dm D):
  Calls Try.prog 145 #[.slice A cl.length ca,.slice B bl.length cb,.map (some dm)] w (Ur cl bl D w):=by
 have HA:=aC ha;have HB:=aC hb;have HD:=aC hD;clear ha hb hD;go_enter Try.func145,Try.ntmps145;go_wp2_with fail;go_loopw [14] (fun Iz wr=>∃i:Nat,Iz= .int .i64 i/\i<=cl.length/\Hid ((∀(j:Nat) (c:ByteArray×Nat),j<i->cl[j]?=some c->sG c.1 bl=true->c.1∈D)/\Below w.heap.size w wr/\wr.heap[w.heap.size]?=some (.cells #[.string pR,.pointer none] 150 (0,0))/\wr.heap[w.heap.size+1]?=some (.cells #[.string pR,.pointer none] 150 (0,0)))) (fun Iz _=>cl.length-(intOf Iz).toNat)
 case atStart=>
  have z1:(w.alloc (.cells #[.string pR,.pointer none] 150)).heap.size=w.heap.size+1:=by simp
  refine ⟨0,rfl,Nat.zero_le _,aC ⟨fun j c h=>by omega,ak (ak (aT _ _) _) _,(adM _ _ _ (by simp)).trans (heap_alloc_new w _),?_⟩⟩;rw [<-z1];exact heap_alloc_new _ _
 case round=>
  obtain ⟨i,rfl,hi,M⟩:=hrel;by_cases hp:i<cl.length
  ·obtain ⟨c,hc⟩:=aD (l:=cl) (i:=i) hp
   obtain ⟨ba,oa,rfl,hba,k0,k1⟩:=HA.out.child hc;have e0:=(M.out.2.1.cell (p:=⟨ba,oa+i*2,none⟩) hba).trans k0;have e1:=(M.out.2.1.cell (p:=⟨ba,oa+i*2+1,none⟩) hba).trans k1;have Hc:=aC hc;clear hc k0 k1;go_wp2_with fail;have hbw:=ak M.out.2.1 (.cells #[.string c.1,.pointer (some ⟨c.2,0,none⟩)] 150)
   have agj:Yx 178 wr.heap.size bl (fun d=>decide (d.1=c.1)) (wr.alloc (.cells #[.string c.1,.pointer (some ⟨c.2,0,none⟩)] 150)):=fun d v _ hb=>by
    refine aat d.1 c.1 _ wr.heap.size v ((hb.cell (p:=⟨wr.heap.size,0,none⟩) (by simp)).trans ?_);simp only [adw,heap_alloc_new];rfl
   refine (yh _ (.inr (.inl rfl)) wr.heap.size B cb bl _ _ ((HB.out.below hbw).more hbw.size) hlb agj).mono ?_;rintro e w1 ⟨n,rfl,hf,hb1⟩;have hx:=(hb1.block wr.heap.size (by simp)).trans (heap_alloc_new wr (.cells #[.string c.1,.pointer (some ⟨c.2,0,none⟩)] 150));have b0:w1.cell? ⟨wr.heap.size,0,none⟩=some (.string c.1):=by simp [adw,hx]
   have b1:w1.cell? ⟨wr.heap.size,1,none⟩=some (.pointer (some ⟨c.2,0,none⟩)):=by simp [adw,hx]
   have hlt1:w.heap.size+1<wr.heap.size:=(ade.1 M.out.2.2.2).1;have r1:=(hb1.block w.heap.size (by simp;omega)).trans ((adM wr _ w.heap.size (by omega)).trans M.out.2.2.1);have r2:=(hb1.block (w.heap.size+1) (by simp;omega)).trans ((adM wr _ (w.heap.size+1) hlt1).trans M.out.2.2.2);have G:=aC (Gw (ah hbw hb1) (Gw r1 r2));have hlk:=yE.look (HD.out.aU ((ah hbw hb1).block dm HD.out.lt)) c.1;clear hbw agj hb1 hx r1 r2 e0 e1;rcases hf with ⟨rfl,hall⟩|⟨j,d,rfl,hd,CJ,_⟩
   ·have ac5:=aC hall
    clear hall hlk;go_wp2_with fail;go_roundw
    case rel=>
     refine ⟨i+1,by go_num,hp,aC ⟨fun j c' h h1 h2=>?_,G.out⟩⟩;by_cases e:j=i
     ·subst e
      rw [Hc.out] at h1;injection h1 with h1
      subst h1;obtain ⟨d,hd,hdd⟩:=List.any_eq_true.1 h2;rw [ac5.out d hd] at hdd
      cases hdd
     ·exact M.out.1 j c' (by omega) h1 h2
    case measure=>simp [intOf];omega
   ·have hdc:Hid (d.1=c.1):=aC (by simpa using CJ)
    have hj:=bf hd;obtain ⟨bb,ob,rfl,hbb,k0,k1⟩:=HB.out.child hd;have f0:=(G.out.1.cell (p:=⟨bb,ob+j*2,none⟩) hbb).trans k0;have f1:=(G.out.1.cell (p:=⟨bb,ob+j*2+1,none⟩) hbb).trans k1;have Hd:=aC hd;clear hd CJ k0 k1
    cases NG:jD c.1 D with
    |true=>
     rw [NG] at hlk;have HcD:=aC (kM.1 NG);clear NG;go_wp2_with fail;go_roundw
     case rel=>
      refine ⟨i+1,by go_num,hp,aC ⟨fun j c' h h1 h2=>?_,G.out⟩⟩;by_cases e:j=i
      ·subst e
       rw [Hc.out] at h1;injection h1 with h1
       subst h1;exact HcD.out
      ·exact M.out.1 j c' (by omega) h1 h2
     case measure=>simp [intOf];omega
    |false=>
     rw [NG] at hlk;have HcD:Hid (c.1∉D):=aC (fun h=>by rw [kM.2 h] at NG;cases NG);clear NG;have q0:w1.cell? ⟨w.heap.size,0,none⟩=some (.string pR):=by simp [adw,G.out.2.1]
     have q1:w1.cell? ⟨w.heap.size,1,none⟩=some (.pointer none):=by simp [adw,G.out.2.1]
     have q2:w1.cell? ⟨w.heap.size+1,0,none⟩=some (.string pR):=by simp [adw,G.out.2.2]
     have q3:w1.cell? ⟨w.heap.size+1,1,none⟩=some (.pointer none):=by simp [adw,G.out.2.2]
     have p0:w1.frozen? ⟨w.heap.size,0,none⟩=false:=by simp [ad6,G.out.2.1]
     have p1:w1.frozen? ⟨w.heap.size,1,none⟩=false:=by simp [ad6,G.out.2.1]
     have p2:w1.frozen? ⟨w.heap.size+1,0,none⟩=false:=by simp [ad6,G.out.2.2]
     have p3:w1.frozen? ⟨w.heap.size+1,1,none⟩=false:=by simp [ad6,G.out.2.2]
     go_wp2_with fail;go_region_law (fail)
     all_goals
      go_wp2_with fail;refine bodyPost_ret (v:=.tuple #[chV c,chV d,.bool true]) (by simp [results,Try.results145,go_sem,chV,q0,q1,q2,q3]) rfl ⟨?_,.inl ⟨i,j,c,d,rfl,Hc.out,Hd.out,hdc.out,HcD.out⟩⟩
      repeat' (first|exact G.out.1|exact dJ G.out.1 1|(refine kD ?_ (by simp) _)|(refine dJ (W:=(World.setCell _ _ _)) ?_ 1))
  ·have q0:wr.cell? ⟨w.heap.size,0,none⟩=some (.string pR):=by simp [adw,M.out.2.2.1]
   have q1:wr.cell? ⟨w.heap.size,1,none⟩=some (.pointer none):=by simp [adw,M.out.2.2.1]
   have q2:wr.cell? ⟨w.heap.size+1,0,none⟩=some (.string pR):=by simp [adw,M.out.2.2.2]
   have q3:wr.cell? ⟨w.heap.size+1,1,none⟩=some (.pointer none):=by simp [adw,M.out.2.2.2]
   have p0:wr.frozen? ⟨w.heap.size,0,none⟩=false:=by simp [ad6,M.out.2.2.1]
   have p1:wr.frozen? ⟨w.heap.size,1,none⟩=false:=by simp [ad6,M.out.2.2.1]
   have p2:wr.frozen? ⟨w.heap.size+1,0,none⟩=false:=by simp [ad6,M.out.2.2.2]
   have p3:wr.frozen? ⟨w.heap.size+1,1,none⟩=false:=by simp [ad6,M.out.2.2.2]
   go_wp2_with fail;refine bodyPost_ret (v:=.tuple #[.agg #[.string pR,.pointer none],.agg #[.string pR,.pointer none],.bool false]) (by simp [results,Try.results145,go_sem,q0,q1,q2,q3];rfl) rfl ⟨?_,.inr ⟨rfl,fun c hc hh=>?_⟩⟩
   ·repeat' (first|exact M.out.2.1|(refine kD ?_ (by simp) _))
   ·obtain ⟨j,hj⟩:=List.getElem?_of_mem hc
    exact M.out.1 j c (by have:=bf hj;omega) hj hh
theorem WR.aH {U:List Lb} {S:Kn} {t:Ut} (hi:S.Inv) (hm0:0<=S.m) (hk:av t.k=true) (ho:dQ S.L t) (hb:jf S.m t) (hs:j_ t) (hn:yS t) (hl:pY U t) (hf:∀c∈t.fs,qY S.L c.2) (hu:∀q,t.tl=some q->S.κ q=none):S.m<=(aH S.m t).2/\WR U (S.up (aH S.m t).2) (aH S.m t).1:=by
 obtain ⟨k8,k0,_⟩:=bJ hk;obtain ⟨a,b,c,d⟩:=jX t S.m ⟨ho,hb,hi.new⟩;have s1:=Dk t S.m hs;have n1:=Qe t S.m hm0 ho hn;have l1:=Fy t S.m hl;have f1:=KW (m:=S.m) k0 hf;obtain ⟨e1,e2,e3,e4⟩:=oQ (m:=S.m) (t:=t) k0;generalize (Proofs.Ytblfeokjlecgkaa.aH S.m t).1=t' at*;obtain ⟨k,n,fs,tl⟩:=t';refine ⟨a,by rw [e1];exact hk,b,s1,fun q hq=>?_,?_,fun q hq=>hu q (by rw [<-e4];exact hq)⟩
 ·rw [bK] at b
  rw [iJ] at d;rw [iV] at s1;rw [lS] at n1;rw [gI] at l1;exact ⟨⟨b.2 q hq,d.2.2 q hq⟩,f1 q hq,s1.2 q hq,n1.2.2 q hq,l1.2 q hq⟩
 ·rw [gI] at l1
  exact fun l hm=>(l1.1 l hm).1
theorem wZ (X:Nat->Prop) (kind:Int) (C:Option Addr) (cc:Nat) (cl:List (ByteArray×Nat)) (x:Fl) (tv:Value) (tl:Option Int) (w:World) (hX:∀k,X k->k<w.heap.size) (hC:aX 2 jY w w.heap.size C cl) (hl:cl.length<=1000000) (hc:iM X w cl x) (ht:cO X w tv tl):
  Calls Try.prog 179 #[.int .i64 kind,.slice C cl.length cc,tv] w fun e w'=>∃g,e= .returned (.pointer (some ⟨g,0,none⟩))/\aF X w' g (.mk kind 0 x tl)/\Below w.heap.size w w':=by
 refine (aeP kind C cc cl tv ht.ptr w hC hl).mono ?_;rintro e w' ⟨g,A,ca,B,cb,rfl,hn,hb⟩;refine ⟨g,rfl,hn.node hX hc.FB (by rw [aaT];exact hc.1) (fun i p c hp hcc=>?_) (ht.fr (Fr.below (X:=fun _=>False) hb) (fun _ _ e=>e.elim)),hb⟩;rw [List.getElem?_map] at hcc
 cases e1:cl[i]? with
 |none=>rw [e1] at hcc;cases hcc
 |some c1=>
  rw [e1] at hcc;simp only [Option.map_some,Option.some.injEq] at hcc;subst hcc;exact ((hc.2 i c1 p e1 hp).2).aU hb
def fM (U:List Lb) (S:Kn) (a b:Ut) (n:Nat) (s m:Nat) (first:Int) (w:World) (e:Ending) (w':World):Prop:=
 ∃r:Bool,e= .returned (.bool r)/\Fr (SX s m) w w'/\(r=false->pX S a b)/\(r=true->∃S',Done U S S' (bF a b) n/\bH (SX s m) s m first w' S')
structure sH (U:List Lb) (s m:Nat) (first:Int) (S:Kn) (a b:Ut) (x y:Fl) (p q:Option Int) (w:World) (UA VA:Option Addr) (ul vl:List (ByteArray×Nat)) (tp tq:Option Addr):Prop where
 lg:bH (SX s m) s m first w S
 kg:KG U S
 hU:U.length<=100000
 ra:dK U S a x p
 rb:dK U S b y q
 hk:av a.k=true
 hab:b.k=a.k
 sh:Shared S x y
 pa:jd S a
 pb:jd S b
 mb:S.m+1+(bG (au x y)+bG (au y x):Nat)<=4611686018427387904
 cu:iM (SX s m) w ul (au x y)
 cv:iM (SX s m) w vl (au y x)
 ru:dH (SX s m) 2 jY w UA ul
 rv:dH (SX s m) 2 jY w VA vl
 tp:cO (SX s m) w (.pointer tp) p
 tq:cO (SX s m) w (.pointer tq) q
section
variable {U:List Lb} {s m:Nat} {first:Int} {S:Kn} {a b:Ut} {x y:Fl} {p q:Option Int} {w:World} {UA VA:Option Addr} {ul vl:List (ByteArray×Nat)} {tp tq:Option Addr}
theorem sH.lu (h:sH U s m first S a b x y p q w UA VA ul vl tp tq):ul.length<=100000/\vl.length<=100000:=by
 have h1:=h.cu.1;have h2:=h.cv.1;have h3:(au x y).length<=x.length:=aaU _ _;have h4:(au y x).length<=y.length:=aaU _ _;have:=h.ra.len;have:=h.rb.len;have:=h.hU;omega
theorem sH.un (h:sH U s m first S a b x y p q w UA VA ul vl tp tq):(ul=[]↔au x y=[])/\(vl=[]↔au y x=[]):=by
 have h1:=h.cu.1;have h2:=h.cv.1;constructor
 ·rw [<-ae1,<-ae1,h1]
 ·rw [<-ae1,<-ae1,h2]
def sI (U:List Lb) (s m:Nat) (first:Int) (S:Kn) (a b:Ut) (x y:Fl) (w:World) (UA VA:Option Addr) (cu cv:Nat) (ul vl:List (ByteArray×Nat)) (tp tq:Option Addr):Prop:=
 Calls Try.prog 146 #[pk s,.int .i64 a.k,.slice UA ul.length cu,.slice VA vl.length cv,.pointer tp,.pointer tq] w (fM U S a b (bG (au x y)+bG (au y x)) s m first w)
theorem fM.no {n:Nat} {w':World} (hb:Below w.heap.size w w') (hd:pX S a b):fM U S a b n s m first w (.returned (.bool false)) w':=
 ⟨false,rfl,Fr.below hb,fun _=>hd,fun h=>by cases h⟩
theorem fM.same {n:Nat} {w':World} (hb:Below w.heap.size w w') (hS:bH (SX s m) s m first w S) (hd:Done U S S (bF a b) n):fM U S a b n s m first w (.returned (.bool true)) w':=
 ⟨true,rfl,Fr.below hb,fun h=>(by cases h),fun _=>⟨S,hd,hS.aU hb⟩⟩
theorem sH.agk (h:sH U s m first S a b x y p none w UA VA ul vl tp tq) (hu:au x y≠[]):pX S a b:=Dm h.ra h.rb h.hk h.hab hu
theorem sH.agl (h:sH U s m first S a b x y none q w UA VA ul vl tp tq) (hv:au y x≠[]):pX S a b:=(Dm h.rb h.ra (by rw [h.hab];exact h.hk) h.hab.symm hv).symm
theorem Ao (U:List Lb) (s m:Nat) (first:Int) (S:Kn) (num:Int) (t:Ut) (b:Nat) (w:World) (hS:bH (SX s m) s m first w S) (hK:KG U S) (hU:U.length<=100000) (hb:aF (SX s m) w b t) (hsm:Small S.L t) (hmm:S.m<=(aH S.m t).2) (gs:DW U (S.up (aH S.m t).2) (aH S.m t).1) (ze:S.κ num=none) (hm:S.m+(aJ t:Nat)<=4611686018427387904)
  (o:bL num (inst S.σ (aH S.m t).1)):
  Calls Try.prog 111 #[.pointer (some ⟨s,0,none⟩),.int .i64 num,.pointer (some ⟨b,0,none⟩)] w fun e w'=>e= .returned (.bool false)/\Fr (SX s m) w w':=by
 refine (Am U s m first S num t b w hS hK hU hb hsm hmm gs ze hm).mono ?_;rintro e w' ⟨r,rfl,h1,_,h3⟩
 cases r with
 |false=>exact ⟨rfl,h1⟩
 |true=>exact absurd o (h3 rfl).1
theorem uV (U:List Lb) (s m:Nat) (first:Int) (S:Kn) (num:Int) (t:Ut) (b:Nat) (w:World) (hS:bH (SX s m) s m first w S) (hK:KG U S) (hU:U.length<=100000) (hb:aF (SX s m) w b t) (hsm:Small S.L t) (hmm:S.m<=(aH S.m t).2) (gs:DW U (S.up (aH S.m t).2) (aH S.m t).1) (ze:S.κ num=none) (hm:S.m+(aJ t:Nat)<=4611686018427387904)
  (o:¬bL num (inst S.σ (aH S.m t).1)):
  Calls Try.prog 111 #[.pointer (some ⟨s,0,none⟩),.int .i64 num,.pointer (some ⟨b,0,none⟩)] w fun e w'=>e= .returned (.bool true)/\Fr (SX s m) w w'/\∀S':Kn,S'.κ=upd S.κ num (aH S.m t).1->S'.m=(aH S.m t).2->bH (SX s m) s m first w' S':=by
 refine (Am U s m first S num t b w hS hK hU hb hsm hmm gs ze hm).mono ?_;rintro e w' ⟨r,rfl,h1,h2,h3⟩
 cases r with
 |false=>exact absurd (h2 rfl) o
 |true=>exact ⟨rfl,h1,(h3 rfl).2⟩
theorem ac7 (cu cv:Nat) (h:sH U s m first S a b x y none none w UA VA ul vl tp tq):sI U s m first S a b x y w UA VA cu cv ul vl tp tq:=by
 obtain rfl:tp=none:=by have:Value.pointer tp= .pointer none:=h.tp;simpa using this
 obtain rfl:tq=none:=by have:Value.pointer tq= .pointer none:=h.tq;simpa using this
 obtain ⟨l1,l2⟩:=h.lu;obtain ⟨u1,u2⟩:=h.un;have HH:=aC h;have HU:=aC (Gw u1 u2);clear h u1 u2;unfold sI pk;by_cases c1:0<ul.length
 ·have c1':decide (0<ul.length)=true:=decide_eq_true c1
  go_enter Try.func146,Try.ntmps146;go_wp2_with fail;go_quiet (fail);go_wp2_with fail;go_ret;exact fM.no (below_drewN (aT _ _) _) (HH.out.agk fun e=>by have:=HU.out.1.2 e;rw [this] at c1;simp at c1)
 ·have c1':decide (0<ul.length)=false:=decide_eq_false c1
  by_cases c2:0<vl.length
  ·have c2':decide (0<vl.length)=true:=decide_eq_true c2
   go_enter Try.func146,Try.ntmps146;go_wp2_with fail;go_quiet (fail);go_wp2_with fail;go_ret;exact fM.no (below_drewN (aT _ _) _) (HH.out.agl fun e=>by have:=HU.out.2.2 e;rw [this] at c2;simp at c2)
  ·have c2':decide (0<vl.length)=false:=decide_eq_false c2
   have e1:Hid (au x y=[]):=aC (HU.out.1.1 (kZ (by omega)));have e2:Hid (au y x=[]):=aC (HU.out.2.1 (kZ (by omega)));go_enter Try.func146,Try.ntmps146;go_wp2_with fail;go_quiet (fail);go_wp2_with fail;go_quiet (fail);go_wp2_with fail;go_ret;have hh:=HH.out;exact fM.same ((below_drewN (aT _ _) _).trans (below_drewN (aT _ _) _)) hh.lg (B_ hh.kg hh.ra hh.rb hh.hk hh.hab hh.sh e1.out e2.out _)
structure ac8 (U:List Lb) (S:Kn) (t:Ut):Prop where
 small:Small S.L t
 mm:S.m<=(aH S.m t).2
 gs:DW U (S.up (aH S.m t).2) (aH S.m t).1
theorem bH.fresh {nx:Int} {w':World} (h:bH (SX s m) s m first w S) (hs:w'.heap[s]?=some (iU first nx m)) (hf:Fr (fun x=>x=s) w w') {S':Kn} (hκ:S'.κ=S.κ) (hm:S'.m=nx):bH (SX s m) s m first w' S':=by
 obtain ⟨a1,a2,a3,a4,l,a5,a6⟩:=h;have hml:m<w.heap.size:=a5.lt;refine ⟨a1,a2,a3,by rw [hm];exact hs,l,a5.later (hf.block m hml fun e=>a1 e.symm),fun n=>?_⟩;have:=a6 n;rw [hκ]
 cases hk:S.κ n with
 |none=>rw [hk] at this;exact this
 |some t=>
  rw [hk] at this;obtain ⟨b,e,hn⟩:=this;exact ⟨b,e,hn.fr hf fun k _ e=>.inl e⟩
theorem aay {p0 q0:Int} (h:KG U S) (hU:U.length<=100000) (ra:dK U S a x (some p0)) (rb:dK U S b y (some q0)) (hk:av a.k=true) (hab:b.k=a.k):
  KG U (S1 S x y)/\ac8 U (S1 S x y) (t1 S a.k x y)/\aJ (t1 S a.k x y)=bG (au y x):=by
 obtain ⟨k8,k0,_⟩:=bJ hk;have lZ:=rb.of;rw [hab] at lZ;have h1:KG U (S1 S x y):=h.aQ _ (Fz h ra y);have JO:=rb.lb;rw [hab] at JO;obtain ⟨ls,hl,rf⟩:=ji h.inv ra.of lZ k0 k8;have el:∀c∈y,TG U (S1 S x y) c.2:=fun c hc=>(rb.el c hc).later (Kn.qw h.inv _);obtain ⟨a1,a2,a3,a4,a5⟩:=qy (S:=S1 S x y) (x:=x) (r:=some S.m) hk el JO (fun q hq=>by injection hq with hq;rw [<-hq];exact h.nn.m) rfl;obtain ⟨m1,m2⟩:=WR.aH (U:=U) (t:=t1 S a.k x y) h1.inv h1.nn.m hk rf.ok rf.bd a2 a1 a3 a4 fun q hq=>(rf.q q hq).2.1;exact ⟨h1,⟨⟨rf.ok,U,hU,a3⟩,m1,.inr m2⟩,a5⟩
theorem Pj {p0 q0:Int} (h:KG U S) (hU:U.length<=100000) (ra:dK U S a x (some p0)) (rb:dK U S b y (some q0)) (hk:av a.k=true) (hab:b.k=a.k) (hpq:p0≠q0) (o1:¬bL p0 (inst (S1 S x y).σ (aH (S1 S x y).m (t1 S a.k x y)).1)):
  KG U (S2 S a.k x y p0)/\ac8 U (S2 S a.k x y p0) (t2 S a.k x y)/\aJ (t2 S a.k x y)=bG (au x y)/\(S2 S a.k x y p0).κ q0=none/\(S2 S a.k x y p0).m=S.m+1+(bG (au y x):Nat):=by
 obtain ⟨k8,k0,_⟩:=bJ hk;have lZ:=rb.of;rw [hab] at lZ;have h1:KG U (S1 S x y):=h.aQ _ (Fz h ra y);obtain ⟨h2,_,hm2⟩:=zX h ra rb hk hab o1;obtain ⟨SK,hl1,rf1⟩:=ji h.inv ra.of lZ k0 k8;obtain ⟨hpm,xH,hpl⟩:=ra.of.tl p0 rfl;have le2:(S1 S x y).Le (S2 S a.k x y p0):=Kn.vZ h1.inv xH rf1;obtain ⟨ls,hl,hq2,hqm,rf⟩:=mY h.inv ra.of lZ k0 k8 hpq;have el:∀c∈x,TG U (S2 S a.k x y p0) c.2:=fun c hc=>((ra.el c hc).later (Kn.qw h.inv _)).later le2;obtain ⟨a1,a2,a3,a4,a5⟩:=qy (S:=S2 S a.k x y p0) (x:=y) (r:=some S.m) hk el ra.lb (fun q hq=>by injection hq with hq;rw [<-hq];exact h.nn.m) rfl;obtain ⟨m1,m2⟩:=WR.aH (U:=U) (t:=t2 S a.k x y) h2.inv h2.nn.m hk rf.ok rf.bd a2 a1 a3 a4 fun q hq=>(rf.q q hq).2.1;exact ⟨h2,⟨⟨rf.ok,U,hU,a3⟩,m1,.inr m2⟩,a5,hq2,hm2⟩
end
structure Uu (U:List Lb) (s m:Nat) (first:Int) (S:Kn) (a b:Ut) (ba bb:Nat) (w:World):Prop where
 lg:bH (SX s m) s m first w S
 kg:KG U S
 hU:U.length<=100000
 na:aF (SX s m) w ba a
 nb:aF (SX s m) w bb b
 ta:TG U S a
 tb:TG U S b
 mb:S.m+(S.un:Int)+2*(aJ a+aJ b:Nat)<=2305843009213693952
def AV (U:List Lb) (s m:Nat) (first:Int) (S:Kn) (a b:Ut) (ba bb:Nat) (w:World):Prop:=
 Calls Try.prog 68 #[pk s,pk ba,pk bb] w (fM U S a b (aJ a+aJ b) s m first w)
def DJ (S0:Kn) (a b:Ut) (S:Kn) (c d:Ut):Prop:=
 S.un+(aJ c+aJ d)<S0.un+(aJ a+aJ b)\/S.un+(aJ c+aJ d)=S0.un+(aJ a+aJ b)/\gL (inst S.σ c)+gL (inst S.σ d)<gL (inst S0.σ a)+gL (inst S0.σ b)
def Gg:Prop:=∀(U:List Lb) (s m:Nat) (first:Int) (S:Kn) (a b:Ut) (x y:Fl) (p q:Option Int) (w:World) (UA VA:Option Addr) (cu cv:Nat) (ul vl:List (ByteArray×Nat)) (tp tq:Option Addr),
 sH U s m first S a b x y p q w UA VA ul vl tp tq->sI U s m first S a b x y w UA VA cu cv ul vl tp tq
def QU (b:Nat) (w:World):Nat:=match w.heap[b]? with
 |some (.map es _)=>es.size
 |_=>0
theorem jV.mu {κ:Type} [DecidableEq κ] {kf:κ->Value} {w:World} {b:Nat} {l:List (κ×Value)} (h:jV kf w b l):QU b w=l.length:=by
 obtain ⟨es,c,h1,h2⟩:=h;unfold QU;rw [h1];have:=congrArg List.length h2;simpa using this
def uh (w:World) (dm:Nat) (D:List Lb):Prop:=∃l,jV sk w dm l/\(∀p∈l,p.2= .bool true)/\(∀a,a∈D↔∃v,oZ a l=some v)/\l.length=D.length
theorem uh.m {w:World} {dm:Nat} {D:List Lb} (h:uh w dm D):yE w dm D:=by
 obtain ⟨l,a,b,c,_⟩:=h;exact ⟨l,a,b,c⟩
theorem uh.mu {w:World} {dm:Nat} {D:List Lb} (h:uh w dm D):QU dm w=D.length:=by
 obtain ⟨l,a,_,_,d⟩:=h;rw [a.mu,d]
theorem uh.aU {w w':World} {dm:Nat} {D:List Lb} (h:uh w dm D) (hb:w'.heap[dm]?=w.heap[dm]?):uh w' dm D:=by
 obtain ⟨l,hM,r⟩:=h;exact ⟨l,hM.later hb,r⟩
theorem uh.put {w:World} {dm:Nat} {D:List Lb} {l:List (Lb×Value)} {a:Lb} (h2:∀p∈l,p.2= .bool true) (h3:∀a,a∈D↔∃v,oZ a l=some v) (h4:l.length=D.length) (ha:a∉D) (hM:jV sk w dm (nS a (.bool true) l)):uh w dm (a::D):=by
 have hf:mO a l 0=none:=by
  cases e:mO a l 0 with
  |none=>rfl
  |some r=>exact absurd ((h3 a).2 ⟨r.2,by unfold oZ;rw [e];rfl⟩) ha
 have hp:=x9 (v:=.bool true) hf;refine ⟨_,hM,fun p hp'=>?_,fun x=>?_,?_⟩
 ·rw [hp] at hp'
  rcases List.mem_append.1 hp' with h|h
  ·exact h2 p h
  ·simp at h;rw [h]
 ·rw [Cr,List.mem_cons]
  by_cases e:x=a
  ·rw [if_pos e];simp [e]
  ·rw [if_neg e,<-h3];simp [e]
 ·rw [hp,List.length_append,h4];rfl
theorem Kl (X:Nat->Prop) (U:List Lb) (s m:Nat) (first:Int) (w:World) (S:Kn) (hS:bH X s m first w S) (hK:KG U S) (hU:U.length<=100000) (b:Nat) (t:Ut) (hb:aF X w b t) (g:TG U S t) (hr:av t.k=true):
  Calls Try.prog 103 #[pk s,pk b] w (Ug X U S t w):=by
 obtain ⟨k,n,fs,tl⟩:=t;obtain rfl:=rU g.pend.1 (bJ hr).1 (bJ hr).2.1;exact Pf X U s m first w S hS hK hU b k fs tl hb g hr
theorem W9 {X:Nat->Prop} {w:World} {cl:List (ByteArray×Nat)} {x:Fl} (h:iM X w cl x) (l:Lb):sG l cl=jD l (ay x):=by
 rw [<-h.FB];unfold sG jD;rw [List.any_map];rfl
section
variable {X:Nat->Prop} {w:World} {dm:Nat} {es:Array MapEntry} {ck:Nat}
theorem map_cell (hm:w.heap[dm]?=some (.map es ck)) (o:Nat):w.cell? ⟨dm,o,none⟩=none:=by simp [adw,hm]
theorem dH.vT {α:Type} {enc:α->List Value} {size:Nat} {A:Option Addr} {l:List α} (h:dH X size enc w A l) (he:∀x,enc x≠[]) (hm:w.heap[dm]?=some (.map es ck)):dH (fun k=>X k\/k=dm) size enc w A l:=fun hl=>by
 obtain ⟨b,o,e,h1,h2,h3⟩:=h hl;refine ⟨b,o,e,fun hb=>?_,h2,h3⟩;rcases hb with hb|rfl
 ·exact h1 hb
 ·cases l with
  |nil=>exact hl rfl
  |cons x l=>
   cases hx:enc x with
   |nil=>exact he x hx
   |cons u us=>
    have:=h3 0 x rfl 0 u (by rw [hx];rfl);rw [map_cell hm] at this
    cases this
theorem cO.vT {v:Value} {tl:Option Int} (h:cO X w v tl) (hm:w.heap[dm]?=some (.map es ck)):cO (fun k=>X k\/k=dm) w v tl:=by
 cases tl with
 |none=>exact h
 |some q=>
  obtain ⟨b,e,h1,h2⟩:=h;refine ⟨b,e,fun hb=>?_,h2⟩;rcases hb with hb|rfl
  ·exact h1 hb
  ·rw [hm] at h2;cases h2
theorem aF.vT {b:Nat} {t:Ut} (h:aF X w b t) (hm:w.heap[dm]?=some (.map es ck)):aF (fun k=>X k\/k=dm) w b t:=by
 induction h with
 |mk b k n fs tl A B ls bs ca cb tv hx hb hn hl hA hB hlen hk ht ih=>
  refine .mk b k n fs tl A B ls bs ca cb tv (fun h=>?_) hb hn hl (hA.vT (fun x=>by simp [nT]) hm) (hB.vT (fun x=>by simp [lC]) hm) hlen ih (ht.vT hm);rcases h with h|rfl
  ·exact hx h
  ·rw [hm] at hb;cases hb
theorem bH.vT {s m:Nat} {first:Int} {S:Kn} (h:bH X s m first w S) (hm:w.heap[dm]?=some (.map es ck)):bH (fun k=>X k\/k=dm) s m first w S:=by
 obtain ⟨a1,a2,a3,a4,l,a5,a6⟩:=h;refine ⟨a1,.inl a2,.inl a3,a4,l,a5,fun n=>?_⟩;have:=a6 n
 cases hk:S.κ n with
 |none=>rw [hk] at this;exact this
 |some t=>
  rw [hk] at this;obtain ⟨b,e,hn⟩:=this;exact ⟨b,e,hn.vT hm⟩
theorem bH.past {s m:Nat} {first:Int} {S:Kn} {w':World} (h:bH (SX s m) s m first w S) (hm:w.heap[dm]?=some (.map es ck)) (hs:dm≠s) (hm2:dm≠m) (hf:Fr (fun k=>k=dm) w w'):bH (SX s m) s m first w' S:=
 ((h.vT hm).fr hf fun k _ e=>by
  have e:k=dm:=e;subst e;exact ⟨.inr rfl,hs,hm2⟩).more (.inl rfl) (.inr rfl) fun k _ e=>.inl e
theorem aF.past {b:Nat} {t:Ut} {w':World} (h:aF X w b t) (hm:w.heap[dm]?=some (.map es ck)) (hf:Fr (fun k=>k=dm) w w'):aF X w' b t:=
 ((h.vT hm).fr hf fun _k _ e=>.inr e).more fun _k _ e=>.inl e
end
theorem W_ {w3 w5:World} {c d:ByteArray×Nat} {dm:Nat} (hdm:dm<w3.heap.size) (hg:((w3.alloc (.cells #[.string c.1,.pointer (some ⟨c.2,0,none⟩)] 150)).alloc (.cells #[.string d.1,.pointer (some ⟨d.2,0,none⟩)] 150)).grownBy w5 (some dm)):
  Fr (fun k=>k=dm) w3 w5/\w5.cell? ⟨w3.heap.size,1,none⟩=some (.pointer (some ⟨c.2,0,none⟩))/\w5.cell? ⟨w3.heap.size+1,1,none⟩=some (.pointer (some ⟨d.2,0,none⟩)):=by
 have hX5:Fr (fun k=>k=dm) w3 w5:=(Fr.below (ak (ak (aT w3.heap.size w3) (.cells #[.string c.1,.pointer (some ⟨c.2,0,none⟩)] 150)) (.cells #[.string d.1,.pointer (some ⟨d.2,0,none⟩)] 150))).trans (Fr.grown hg fun k hk=>by injection hk with hk;exact hk.symm);have hz1:(w3.alloc (.cells #[.string c.1,.pointer (some ⟨c.2,0,none⟩)] 150)).heap.size=w3.heap.size+1:=by simp
 have b1:w5.heap[w3.heap.size]?=some (.cells #[.string c.1,.pointer (some ⟨c.2,0,none⟩)] 150 (0,0)):=by
  rw [hg.block w3.heap.size (by simp;omega) (fun e=>by injection e with e;omega)];exact (adM _ _ w3.heap.size (by simp)).trans (heap_alloc_new w3 _)
 have b2:w5.heap[w3.heap.size+1]?=some (.cells #[.string d.1,.pointer (some ⟨d.2,0,none⟩)] 150 (0,0)):=by
  rw [hg.block (w3.heap.size+1) (by simp) (fun e=>by injection e with e;omega),<-hz1];exact heap_alloc_new _ _
 exact ⟨hX5,by simp [adw,b1],by simp [adw,b2]⟩
theorem aaz (hE:Gg) (U:List Lb) (s m:Nat) (first:Int) (S0:Kn) (a b:Ut) (ba bb:Nat) (w:World) (h:Uu U s m first S0 a b ba bb w) (hk:av a.k=true) (hab:b.k=a.k)
  (ih:∀(S:Kn) (c d:Ut) (bc bd:Nat) (w':World),DJ S0 a b S c d->Uu U s m first S c d bc bd w'->AV U s m first S c d bc bd w'):
  Calls Try.prog 112 #[pk s,pk ba,pk bb] w (fM U S0 a b (aJ a+aJ b) s m first w):=by
 have HE:=aC hE;have HH:=aC h;have HK:=aC (Gw hk hab);have HI:=aC ih;have c0:w.cell? ⟨ba,0,none⟩=some (.int .i64 a.k):=by obtain ⟨k,n,fs,tl⟩:=a;exact h.na.cells.1
 have HC0:=aC (Gw c0 h.na.lt);have hns:∀k,k<w.heap.size->SX s m k->(k≠ba):=fun k _ hx e=>h.na.out (e▸hx);have HNS:=aC hns;clear hE h hk hab ih c0 hns;unfold pk;have mk:=@run_makeMap Try.prog;go_enter Try.func112,Try.ntmps112;go_wp2_with fail;go_loopw [] (fun wr=>∃(S:Kn) (D:List Lb),Hid (ow U S0 S a b D/\bH (SX s m) s m first wr S/\uh wr w.heap.size D/\Fr (SX s m) w wr)) (fun wr=>U.length-QU w.heap.size wr)
 case atStart=>
  have hba:Below w.heap.size w (w.alloc (.map #[] 0)):=ak (aT _ _) _;exact ⟨S0,[],aC ⟨.start HH.out.kg a b,HH.out.lg.aU hba,⟨[],⟨#[],0,heap_alloc_new w _,rfl⟩,fun p hp=>by simp at hp,fun a=>by simp [FR],rfl⟩,Fr.below hba⟩⟩
 case round=>
  obtain ⟨S,D,M⟩:=hrel;clear mk;have EM:=aC (HH.out.ta.later M.out.1.lp.le);have HTB:=aC (HH.out.tb.later M.out.1.lp.le);have HNA:Hid (aF (SX s m) wr ba a):=aC (HH.out.na.fr M.out.2.2.2 fun _ _ h=>h);have HNB:Hid (aF (SX s m) wr bb b):=aC (HH.out.nb.fr M.out.2.2.2 fun _ _ h=>h);have hA:=aC (Kl (SX s m) U s m first wr S M.out.2.1 M.out.1.kg HH.out.hU ba a HNA.out EM.out HK.out.1);unfold pk at hA;go_wp2_with fail;refine hA.out.mono ?_;clear hA;rintro e w1 ⟨A,cap,cl,x,p,tv,rfl,ra,hc,ht,ho,hb⟩;obtain ⟨ta,rfl⟩:=ht.ptr;have H1:=aC (Gw ra (Gw hc (Gw ht (Gw (aA.read jO ho) hb))));clear ra hc ht ho hb;have hB:=aC (Kl (SX s m) U s m first w1 S (M.out.2.1.aU H1.out.2.2.2.2) M.out.1.kg HH.out.hU bb b (HNB.out.aU H1.out.2.2.2.2) HTB.out (by rw [HK.out.2];exact HK.out.1));unfold pk at hB;go_wp2_with fail;refine hB.out.mono ?_;clear hB;rintro e w2 ⟨B,cbp,dl,y,q,tv2,rfl,rb,hc,ht,ho,hb⟩;obtain ⟨tb,rfl⟩:=ht.ptr;have H2:=aC (Gw rb (Gw hc (Gw ht (Gw (aA.read jO ho) hb))));clear rb hc ht ho hb;have lx:Hid (cl.length<=100000/\dl.length<=100000):=aC ⟨by have:=H1.out.1.len;have:=H1.out.2.1.1;have:=HH.out.hU;omega,by have:=H2.out.1.len;have:=H2.out.2.1.1;have:=HH.out.hU;omega⟩
  have hD2:Hid (uh w2 w.heap.size D):=aC (by
   have hl:=M.out.2.2.1.m.lt;exact M.out.2.2.1.aU ((H2.out.2.2.2.2.block _ (vv hl H1.out.2.2.2.2.size)).trans (H1.out.2.2.2.2.block _ hl)))
  have hSh:=aC (Us A B cap cbp cl dl w.heap.size D w2 ((H1.out.2.2.2.1.below H2.out.2.2.2.2).more H2.out.2.2.2.2.size) H2.out.2.2.2.1 (by have:=lx.out;omega) (by have:=lx.out;omega) hD2.out.m);go_wp2_with fail;refine hSh.out.mono ?_;clear hSh;rintro e w3 ⟨hb3,hq⟩;have hbw:Hid (Below wr.heap.size wr w3):=aC (ah (ah H1.out.2.2.2.2 H2.out.2.2.2.2) hb3);have HB3:=aC hb3;clear hb3;rcases hq with ⟨i,j,c,d,rfl,hci,hdj,hdc,NG⟩|⟨rfl,hall⟩
  all_goals try unfold chV
  ·
   obtain ⟨pc,hpc⟩:=aD (l:=x) (i:=i) (by have:=bf hci;have:=H1.out.2.1.1;omega);obtain ⟨pd,CJ⟩:=aD (l:=y) (i:=j) (by have:=bf hdj;have:=H2.out.2.1.1;omega);obtain ⟨ec,nc⟩:=H1.out.2.1.2 i c pc hci hpc;obtain ⟨ed,nd⟩:=H2.out.2.1.2 j d pd hdj CJ
   have gc:aL c.1 x=some pc.2:=by
    rw [ec];exact jR H1.out.1.of.vO (Yt hpc)
   have gd:aL c.1 y=some pd.2:=by
    rw [<-hdc,ed];exact jR H2.out.1.of.vO (Yt CJ)
   have tc:TG U S pc.2:=H1.out.1.el pc (Yt hpc);have td:TG U S pd.2:=H2.out.1.el pd (Yt CJ);have G:=aC (Gw gc (Gw gd (Gw tc (Gw td (Gw (nc.aU (ah H2.out.2.2.2.2 HB3.out)) (Gw (nd.aU HB3.out) NG))))));clear hci hdj hdc NG hpc CJ ec nc ed nd gc gd tc td;obtain ⟨l,hM,hl2,hl3,hl4⟩:=hD2.out;have HL:=aC (Gw hl2 (Gw hl3 hl4));have Yy:=hD2.out.m.lt;have HM:Hid (∀W,Below w3.heap.size w3 W->jV sk W w.heap.size l):=aC fun W hW=>hM.later ((hW.block _ (vv Yy HB3.out.size)).trans (HB3.out.block _ Yy));have HDL:Hid (w.heap.size<w3.heap.size):=aC (vv Yy HB3.out.size);clear hM hl2 hl3 hl4 Yy;go_wp2_with (refine sw rfl _ _ _ rfl (HM.out _ (ak (ak (aT _ _) _) _)) (LQ Try.underlying9 c.1 l) Try.underlying181 (.bool true) rfl rfl rfl ?_;intro w5 IE hg5;obtain ⟨hX5,e1,e2⟩:=W_ HDL.out hg5;have X5:=aC (Gw IE hX5);clear IE hg5 hX5);obtain ⟨es3,ck3,hm3,_⟩:=HM.out w3 (aT _ _);have hlt:=l7 HH.out.lg;have hns:w.heap.size≠s/\w.heap.size≠m:=⟨fun e=>by have:=hlt s (.inl rfl);omega,fun e=>by have:=hlt m (.inr rfl);omega⟩;have agm:bH (SX s m) s m first w5 S:=(M.out.2.1.aU hbw.out).past hm3 hns.1 hns.2 X5.out.2;have nc5:=G.out.2.2.2.2.1.past hm3 X5.out.2;have nd5:=G.out.2.2.2.2.2.1.past hm3 X5.out.2;have hfw:Fr (SX s m) w w5:=M.out.2.2.2.new ((Fr.below hbw.out).trans X5.out.2) fun k e=>.inr (by have e:k=w.heap.size:=e;omega);have hmb:=HH.out.mb;have hless:=M.out.1.less H1.out.1 H2.out.1 G.out.2.2.2.2.2.2 G.out.1 G.out.2.1
   have Xa:Hid (AV U s m first S pc.2 pd.2 c.2 d.2 w5):=aC (HI.out S pc.2 pd.2 c.2 d.2 w5 (by
    rcases hless with h|⟨h,rfl,h3⟩
    ·exact .inl h
    ·exact .inr ⟨h,h3⟩) ⟨agm,M.out.1.kg,HH.out.hU,nc5,nd5,G.out.2.2.1,G.out.2.2.2.1,by
     have h1:=M.out.1.m;have h2:=iD H1.out.1 D;have h3:=iD H2.out.1 D;have h4:=mZ G.out.2.2.2.2.2.2 G.out.1;have h5:=mZ G.out.2.2.2.2.2.2 G.out.2.1;omega⟩)
   have W5:=aC hfw;have HN:=aC hns;clear hm3 hlt hns agm nc5 nd5 hfw hmb hless;unfold AV pk at Xa;go_wp2_with fail;refine Xa.out.mono ?_;clear Xa;rintro e w6 ⟨r,rfl,f6,d6,s6⟩
   cases r with
   |false=>
    have F6:=aC (Gw f6 (d6 rfl));clear f6 d6 s6;go_wp2_with fail;go_ret
    exact ⟨false,rfl,W5.out.trans F6.out.1,fun _=>M.out.1.fail HH.out.ta.pend HH.out.tb.pend H1.out.1 H2.out.1 HK.out.1 HK.out.2 G.out.1 G.out.2.1 F6.out.2,fun h=>by cases h⟩
   |true=>
    obtain ⟨S',hd6,hs6⟩:=s6 rfl;have F6:=aC (Gw f6 (Gw hd6 hs6));clear f6 d6 s6 hd6 hs6;go_wp2_with fail;have hnx:=M.out.1.next HH.out.ta.pend HH.out.tb.pend H1.out.1 H2.out.1 HK.out.1 HK.out.2 G.out.2.2.2.2.2.2 G.out.1 G.out.2.1 F6.out.2.1
    have hdk:uh w6 w.heap.size (c.1::D):=(uh.put (w:=w5) HL.out.1 HL.out.2.1 HL.out.2.2 G.out.2.2.2.2.2.2 X5.out.1).aU (F6.out.1.block _ (vv HDL.out X5.out.2.size) fun e=>by
     rcases e with e|e
     ·exact HN.out.1 e
     ·exact HN.out.2 e)
    go_roundw
    case rel=>exact ⟨S',c.1::D,aC ⟨hnx,F6.out.2.2,hdk,W5.out.trans F6.out.1⟩⟩
    case measure=>
     have h1:=hdk.mu;have h2:=M.out.2.2.1.mu;have h3:=iy hnx.nd hnx.lb;rw [h1,h2];simp only [List.length_cons] at h3 ⊢;omega
  ·
   have hDD:Hid (∀l,l∈ay x->l∈ay y->l∈D):=aC fun l h1 h2=>by
    rw [<-H1.out.2.1.FB] at h1;obtain ⟨c,hc,rfl⟩:=List.mem_map.1 h1;exact hall c hc (by rw [W9 H2.out.2.1];exact kM.2 h2)
   clear hall
   have hba:Hid (ba<w3.heap.size/\w3.cell? ⟨ba,0,none⟩=some (.int .i64 a.k)):=aC (by
    have h1:=HC0.out.2;have hf:Fr (SX s m) w w3:=M.out.2.2.2.trans (Fr.below hbw.out);exact ⟨vv h1 hf.size,(adN (w:=w) (hf.block ba h1 fun e=>HNS.out ba h1 e rfl)).trans HC0.out.1⟩)
   have S0C:Hid (∀v,Below w3.heap.size w3 v->v.cell? ⟨ba,0,none⟩=some (.int .i64 a.k)):=aC fun v hv=>(hv.cell (p:=⟨ba,0,none⟩) hba.out.1).trans hba.out.2;have C1:Hid (iM (SX s m) w3 cl x):=aC (H1.out.2.1.aU (ah H2.out.2.2.2.2 HB3.out));have C2:Hid (iM (SX s m) w3 dl y):=aC (H2.out.2.1.aU HB3.out)
   have R1:Hid (∀v,Below w3.heap.size w3 v->aX 2 jY v v.heap.size A cl/\aX 2 jY v v.heap.size B dl):=aC fun v hv=>by
    have b13:=ah (ah H2.out.2.2.2.2 HB3.out) hv;have b23:=ah HB3.out hv;exact ⟨(H1.out.2.2.2.1.below b13).more b13.size,(H2.out.2.2.2.1.below b23).more b23.size⟩
   have hW1:=aC fun v (hv:Below w3.heap.size w3 v)=>Gf A B cap cbp cl dl v (R1.out v hv).1 (R1.out v hv).2 (by have:=lx.out;omega) (by have:=lx.out;omega);have hW2:=aC fun v (hv:Below w3.heap.size w3 v)=>Gf B A cbp cap dl cl v (R1.out v hv).2 (R1.out v hv).1 (by have:=lx.out;omega) (by have:=lx.out;omega);have hlt:=l7 HH.out.lg
   have hwz:Hid (∀v,Below w3.heap.size w3 v->∀k,v.heap.size<=k->¬SX s m k):=aC fun v hv k hk e=>by
    have h1:=hlt k e;have h2:=M.out.2.2.2.size;have h3:=hbw.out.size;have h4:=hv.size;omega
   have agn:Hid (∀(v:World) (UA VA:Option Addr) (cu cv:Nat),Below w3.heap.size w3 v->dH (SX s m) 2 jY v UA (cl.filter fun c=> !sG c.1 dl)->dH (SX s m) 2 jY v VA (dl.filter fun c=> !sG c.1 cl)->
     Calls Try.prog 146 #[.pointer (some ⟨s,0,none⟩),.int .i64 a.k,.slice UA (cl.filter fun c=> !sG c.1 dl).length cu,.slice VA (dl.filter fun c=> !sG c.1 cl).length cv,.pointer ta,.pointer tb] v (fM U S a b (bG (au x y)+bG (au y x)) s m first v)):=aC fun v UA VA cu cv hv hu hvv=>by
    have hbv:Below wr.heap.size wr v:=ah hbw.out hv;refine HE.out U s m first S a b x y p q v UA VA cu cv _ _ ta tb ⟨M.out.2.1.aU hbv,M.out.1.kg,HH.out.hU,H1.out.1,H2.out.1,HK.out.1,HK.out.2,M.out.1.shared H1.out.1 H2.out.1 hDD.out,EM.out.pend,HTB.out.pend,?_,(C1.out.filter C2.out).aU hv,(C2.out.filter C1.out).aU hv,hu,hvv,?_,?_⟩
    ·have h1:=M.out.1.m
     have h2:=HH.out.mb;have h3:=H1.out.1.dyn;have h4:=H2.out.1.dyn;have h5:bG (au x y)<=bG x:=GV abm;have h6:bG (au y x)<=bG y:=GV abm;have h7:=HH.out.kg.nn.m;omega
    ·exact H1.out.2.2.1.fr (Fr.below (X:=fun _=>False) (ah (ah H2.out.2.2.2.2 HB3.out) hv)) fun _ _ e=>e.elim
    ·exact H2.out.2.2.1.fr (Fr.below (X:=fun _=>False) (ah HB3.out hv)) fun _ _ e=>e.elim
   obtain ⟨ul,DT⟩:∃ul,ul=cl.filter fun c=> !sG c.1 dl:=⟨_,rfl⟩;obtain ⟨vl,hvl⟩:∃vl,vl=dl.filter fun c=> !sG c.1 cl:=⟨_,rfl⟩;rw [<-DT] at hW1;rw [<-hvl] at hW2;rw [<-DT,<-hvl] at agn;clear DT hvl hlt;go_wp2_with fail
   go_region_held3 (fun v=>v.cell? ⟨ba,0,none⟩=some (.int .i64 a.k))
    (first
     |exact S0C.out _ (ak (ak (aT _ _) _) _).drew
     |exact S0C.out _ B4.out
     |exact S0C.out _ B5.out
     |exact S6.out)
    (first
     |(go_at_call 147;(with_reducible refine (hW1.out _ (ak (ak (aT _ _) _) _).drew).mono ?_);rintro e w4 ⟨A4,cap4,rfl,J2,hb4⟩;have B4:=aC (ah (ak (ak (aT w3.heap.size w3) _) _).drew hb4);have O4:=aC (dH.uF jO J2 fun k h1 _=>hwz.out _ (ak (ak (aT _ _) _) _).drew k h1);clear J2 hb4)
     |(go_at_call 147;(with_reducible refine (hW2.out _ B4.out).mono ?_);rintro e w5 ⟨A5,cap5,rfl,ho5,hb5⟩;have B5:=aC (ah B4.out hb5);have O5:=aC (dH.uF jO ho5 fun k h1 _=>hwz.out _ B4.out k h1);have O6:=aC (O4.out.fr (Fr.below (X:=fun _=>False) hb5) fun _ _ e=>e.elim);clear ho5 hb5)
     |(go_at_call 146;(with_reducible refine (agn.out _ _ _ _ _ B5.out O6.out O5.out).mono ?_);rintro e w6 ⟨r,rfl,f6,d6,s6⟩;have S6:=aC ((adN (w:=w5) (f6.block ba (vv hba.out.1 B5.out.size) fun e=>HNS.out ba HC0.out.2 e rfl)).trans (S0C.out _ B5.out));have F6:=aC (Gw f6 (Gw d6 s6));clear f6 d6 s6))
   all_goals
    go_wp2_with fail;go_ret;refine ⟨r,rfl,(M.out.2.2.2.trans (Fr.below (ah hbw.out B5.out))).trans F6.out.1,fun h=>M.out.1.dis HH.out.ta.pend HH.out.tb.pend (F6.out.2.1 h),fun h=>?_⟩;obtain ⟨S',h1,h2⟩:=F6.out.2.2 h;exact ⟨S',M.out.1.stop HH.out.ta.pend HH.out.tb.pend H1.out.1 H2.out.1 h1,h2⟩
end Go.Proofs.Ytblfeokjlecgkaa
