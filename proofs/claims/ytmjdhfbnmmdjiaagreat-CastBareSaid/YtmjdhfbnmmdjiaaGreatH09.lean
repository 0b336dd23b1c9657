/- Laid together by a tool from the texts of this seat: RowG ChE ChS. Conditions: each theorem's own. -/
import Derived.Test.YtmjdhfbnmmdjiaaGreatH08
set_option maxHeartbeats 8000000
set_option maxRecDepth 100000
namespace Go.Proofs.YtmjdhfbnmmdjiaaGreat
open Go.Lib renaming hid->aB
open Go.World renaming cell?->DI,cell?_of_block->aad
open _root_.List renaming range->MQ,mem_of_getElem?->O8,getElem?_eq_getElem->bS,mem_range->Xt,Perm->Yz,pairwise_cons->YA,length_append->lS,getElem?_append_left->YX,take_length->wH,getElem?_append_right->kg,mem_cons->qm,mem_cons_self->aag,pairwise_map->aah,length_map->OX
open _root_.ByteArray renaming empty->dQ
open _root_.Nat renaming lt_of_lt_of_le->Yy,zero_le->cu
open Go.RowKit
theorem FV (k:Nat):cB (MQ (k+1))=cB (MQ k)++[(k:Int)]:=by
 rw [List.range_succ,O1];rfl
theorem KW (out ys:List Nd) (x:Nd) (s:ByteArray):(out++x::ys).set out.length (x.name s)=out++g_ s (x::ys):=by
 rw [List.set_append_right _ _ (Nat.le_refl _)];simp [g_]
theorem Sb {ls:List ByteArray} {os:List Nat} {k p i:Nat} (ho:os.Perm (MQ ls.length)) (hp:os[k]?=some p) (hi:os[k+1]?=some i) (he:((lab ls p).toList==(lab ls i).toList)=true):¬ls.Nodup:=by
 intro hn;have hnd:os.Nodup:=(ho.nodup_iff).2 List.nodup_range;have hpl:p<ls.length:=Xt.1 ((ho.mem_iff).1 (O8 hp));have hil:i<ls.length:=Xt.1 ((ho.mem_iff).1 (O8 hi));have e1:(lab ls p).toList=(lab ls i).toList:=by simpa using he
 have e2:lab ls p=lab ls i:=by
  refine MU ?_ ?_
  ·unfold kU;rw [e1,lq];simp [List.lt_irrefl]
  ·unfold kU;rw [e1,lq];simp [List.lt_irrefl]
 have e3:ls[p]=ls[i]:=by
  have h1:=zZ hpl;have h2:=zZ hil;rw [bS hpl] at h1;rw [bS hil] at h2;injection h1 with h1
  injection h2 with h2
  rw [h1,h2,e2]
 have e4:p=i:=(List.getElem_inj hn).1 e3;subst e4;have h1:=aP hp;have h2:=aP hi;rw [bS h1] at hp;rw [bS h2] at hi;injection hp with hp
 injection hi with hi
 have:=(List.getElem_inj hnd (h₀:=h1) (h₁:=h2)).1 (by rw [hp,hi]);omega
theorem xq (L V:Option Addr) (cl cv:Nat) (kind:Int) (ls:List ByteArray) (vs:List (Option Addr×Nat×Nat)) (xss:List (List Nd)) (w:World) (hL:p9 w w.heap.size L ls) (hV:jV w w.heap.size V vs) (hS:RV w w.heap.size vs xss)
  (hne:∀xs∈xss,xs≠[]/\xs.length<=1000000000) (hgood:jZ kind ls xss.length=false):
  Calls Tryz.prog 103 #[.int .i64 kind,.slice L ls.length cl,.slice V vs.length cv] w (Zm kind ls xss w):=by
 have dX:=hgood;unfold jZ at dX;simp only [Bool.or_eq_false_iff,Bool.not_eq_false',decide_eq_true_eq,decide_eq_false_iff_not,Bool.and_eq_false_iff] at dX;obtain ⟨⟨⟨⟨h1,h2⟩,h3⟩,h4⟩,h5⟩:=dX;have Zn:=aB hgood;have hvl:vs.length=ls.length:=by rw [hS.1,h2]
 have Hx:=aB h2;rw [hvl];have HS:=aB hS.2;have MV:=aB hne;have h50:ls.length<=50:=by omega
 obtain ⟨W,hW⟩:∃W,W=(w.alloc (.cells #[.int .i64 kind] 3)).alloc (.cells #[.slice L ls.length cl] 39):=⟨_,rfl⟩;have hWs:W.heap.size=w.heap.size+2:=by rw [hW];simp
 have hbW:Below w.heap.size w W:=by rw [hW];exact au (au (Below.refl _ _) _) _
 have c1:W.cell? ⟨w.heap.size,0,none⟩=some (.int .i64 kind):=by rw [hW];simp
 have c2:W.cell? ⟨w.heap.size+1,0,none⟩=some (.slice L ls.length cl):=by rw [hW];simp
 have hL1:=aS.below hL hbW;have hV1:=aS.below hV hbW;have hT1:Hid (∀(i:Nat) (v:Option Addr×Nat×Nat) (xs:List Nd),vs[i]?=some v->xss[i]?=some xs->v.2.1=xs.length/\bJ W w.heap.size v.1 xs):=aB fun i v xs hv hx=>⟨(HS.out i v xs hv hx).1,(HS.out i v xs hv hx).2.below hbW⟩;have H1:=aB h1;have H5:=aB h5
 have h7:(kind==7)=false\/((kind==7)=true/\¬ls.length=0):=by
  by_cases h:kind=7
  ·refine .inr ⟨by simp [h],fun h0=>?_⟩
   rcases h4 with h4|h4
   ·exact h4 h
   ·omega
  ·exact .inl (by simpa using h)
 generalize hnn:ls.length=n at*;have WJ:=aB hnn;clear h1 h2 h3 h4 h5 hgood hL hV hS hne hnn
 have h7':(kind==7)=false\/((kind==7)=true/\((n:Int)==0)=false):=by
  rcases h7 with h7|⟨h7,h0⟩
  ·exact .inl h7
  ·exact .inr ⟨h7,by rw [beq_eq_false_iff_ne];omega⟩
 clear h7;rcases h7' with h7|⟨h7,h0b⟩
 all_goals
  go_enter Tryz.func103,Tryz.ntmps103;go_wp2_with fail;rw [<-hW];refine (Gj _ _ _ _).mono ?_;rintro e w1 ⟨rfl,hbx⟩;rw [H1.out];have c1':=(hbx.cell (p:=⟨w.heap.size,0,none⟩) (by simp;omega)).trans c1;have c2':=(hbx.cell (p:=⟨w.heap.size+1,0,none⟩) (by simp;omega)).trans c2;have z1:=hbx.size;go_wp2_with fail;have hcon:=D5 L cl ls kind w.heap.size w1 (aS.more (aS.below hL1 (hbx.mono (by omega))) (by omega)) c1' (by omega) (by rw [WJ.out];omega);rw [WJ.out] at hcon;refine hcon.mono ?_;rintro e w2 ⟨rfl,hby⟩;rw [H5.out];have hb2:=ah hbx hby;clear hcon c1' c2' z1 hbx hby;have z2:=hb2.size;have c1':=(hb2.cell (p:=⟨w.heap.size,0,none⟩) (by simp;omega)).trans c1;have c2':=(hb2.cell (p:=⟨w.heap.size+1,0,none⟩) (by simp;omega)).trans c2;go_wp2_with fail;obtain ⟨w3,hmk,hown3,Gz⟩:=DU w2 W.heap.size n (by omega) z2;rw [hmk];have hb3:=ah hb2 (rM Gz);clear hb2 Gz c1' c2' hmk;generalize hG:w2.heap.size=G at*;have hGl:G<w3.heap.size:=(ay.block hown3 G rfl).2;go_wp2_with fail
  go_loopw [51] (fun k51 wr=>∃(k:Nat) (M:List Int),k51= .int .i64 k/\k<=n/\M.length=n/\eX wr W.heap.size (some ⟨G,0,none⟩) n M/\Below W.heap.size W wr/\Hid (M.take k=cB (MQ k)))
   (fun k51 _=>n-(intOf k51).toNat)
  case atStart=>exact ⟨0,List.replicate n 0,rfl,cu _,by simp,hown3,hb3,aB (by simp [cB])⟩
  case round=>
   clear hown3 hb3 hGl hG w2 z2;obtain ⟨k,M,rfl,hk,WK,hown,hbel,htk⟩:=hrel;have zr:=hbel.size;have hGl:G<wr.heap.size:=(ay.block hown G rfl).2;by_cases hlt:k<n
   ·obtain ⟨g,hg,hbg,Pk,⟨m,hm,hcell⟩,hfz,hown2,KQ⟩:=hown.O4 (j:=k) (by omega) (k:Int)
    injection hg with hg
    injection hg with hg1 _ _
    subst hg1;have jk:=kY (p:=⟨G,k,none⟩) hbel hbg (.int .i64 (k:Int));have akJ:Hid ((M.set k (k:Int)).take (k+1)=cB (MQ (k+1))):=aB (by rw [tX _ _ _ (by omega),htk.out,FV]);have DR:(M.set k (k:Int)).length=n:=by simp [WK]
    clear hm;go_wp2_with fail;go_roundw
    case rel=>exact ⟨k+1,M.set k (k:Int),by go_num,by omega,DR,hown2,jk,akJ⟩
    case measure=>simp [intOf];omega
   ·have hM:M=cB (MQ n):=by
     have hkk:k=n:=by omega
     subst hkk;rw [<-htk.out,<-WK,wH]
    subst hM;have c1':=(hbel.cell (p:=⟨w.heap.size,0,none⟩) (by simp;omega)).trans c1;have c2':=(hbel.cell (p:=⟨w.heap.size+1,0,none⟩) (by simp;omega)).trans c2;have hbG:=(ay.block hown G rfl).1;clear htk WK;go_wp2_with fail;refine (WI L cl ls n (w.heap.size+1) G n W.heap.size w.heap.size wr WJ.out (by omega) c2' (by omega) (aS.below hL1 (hbel.mono (by omega))) (by omega) hown).mono ?_;rintro e w4 ⟨rfl,os,hperm,hsort,yH,adY⟩;have D7:Below W.heap.size W w4:=hbel.grown adY zr fun k hk=>by injection hk with hk;omega
    have MW:=aB hperm;have afw:=aB hsort;have adZ:os.length=n:=by rw [hperm.length_eq];simp
    clear hlt hk hown hbel adY hsort hperm c1' c2' zr hGl;have z4:=D7.size;have c1':=(D7.cell (p:=⟨w.heap.size,0,none⟩) (by simp;omega)).trans c1;have c2':=(D7.cell (p:=⟨w.heap.size+1,0,none⟩) (by simp;omega)).trans c2;have hone:=wC w4 ⟨kind,⟨#[]⟩,(n:Int)⟩;have Zo:=au (Below.refl w4.heap.size w4) (.cells #[.int .i64 kind,.string ⟨#[]⟩,.int .i64 (n:Int)] 49);have Zp:mW w4 w4.heap.size (some ⟨G,0,none⟩) (cB os):=ay.read dK yH;go_wp2_with fail;clear c1' c2' yH
    go_loopw [11,69] (fun s11 i69 wr=>∃(k:Nat) (A':Option Addr) (cap' m:Nat) (out:List Nd),s11= .slice A' m cap'/\i69= .int .i64 k/\k<=n/\m<=1+k*1000000000/\dF wr w4.heap.size A' cap' out/\Below w4.heap.size w4 wr/\
      Hid (m=out.length/\out=⟨kind,⟨#[]⟩,(n:Int)⟩::(os.take k).flatMap (CG ls xss))/\Hid (∀(j a b:Nat),j+1<k->os[j]?=some a->os[j+1]?=some b->lab ls a≠lab ls b))
     (fun _ i69 _=>n-(intOf i69).toNat)
    case atStart=>exact ⟨0,_,1,1,_,rfl,rfl,cu _,by omega,hone,Zo,aB ⟨rfl,by simp⟩,aB fun j a b h=>by omega⟩
    case round=>
     clear hone Zo;obtain ⟨k,A',cap',m,out,rfl,rfl,hk,hmk,hown,hbel,hout,Px⟩:=hrel;have zr:=hbel.size;have hbelW:Below W.heap.size W wr:=D7.trans (hbel.mono z4);have c1':=(hbelW.cell (p:=⟨w.heap.size,0,none⟩) (by simp;omega)).trans c1;have c2':=(hbelW.cell (p:=⟨w.heap.size+1,0,none⟩) (by simp;omega)).trans c2;have hLw:=aS.below hL1 (hbelW.mono (by omega));have hVw:=aS.below hV1 (hbelW.mono (by omega));by_cases hlt:k<n
     ·obtain ⟨i,hi⟩:=aJ (show k<os.length by omega)
      have hin:i<n:=Xt.1 ((MW.out.mem_iff).1 (O8 hi));obtain ⟨gb,go,hgo,Pk,ho1⟩:=(aS.below Zp hbel).int (show (cB os)[k]?=some (i:Int) by simp [cB,hi]);injection hgo with hgo
      injection hgo with Zq Zr _
      subst Zq Zr;rw [Nat.zero_add] at ho1;obtain ⟨v,hv⟩:=aJ (show i<vs.length by omega);obtain ⟨xs,hxs⟩:=aJ (show i<xss.length by rw [<-Hx.out];exact hin);obtain ⟨hv1,V_⟩:=hT1.out i v xs hv hxs;obtain ⟨xne,akM⟩:=MV.out xs (O8 hxs)
      obtain ⟨x,ys,rfl⟩:∃x ys,xs=x::ys:=by
       cases xs with
       |nil=>exact absurd rfl xne
       |cons x ys=>exact ⟨x,ys,rfl⟩
      have hil:ls[i]?=some (lab ls i):=zZ (by rw [WJ.out];exact hin);obtain ⟨lb,lo,rfl,hlb,hlc⟩:=hLw.str hil;obtain ⟨vb,vo,rfl,hvb,J6⟩:=hVw.slice hv;rw [hv1] at J6;obtain ⟨hm,ho⟩:=hout.out;have aqm:lb<wr.heap.size:=by omega
      have aqn:vb<wr.heap.size:=by omega
      have hstep:out++g_ (lab ls i) (x::ys)=⟨kind,⟨#[]⟩,(n:Int)⟩::(os.take (k+1)).flatMap (CG ls xss):=by
       rw [List.take_add_one,hi,List.flatMap_append,ho];simp [CG,hxs]
      have r_:=aB hstep;have Hi:=aB hi;have ad1:bJ wr w.heap.size v.1 (x::ys):=V_.below (hbelW.mono (by omega));subst hm;have Hil:=aB hil;clear hi hv hxs V_ xne hil ho hstep hv1 hout hlt;simp only [List.length_cons] at akM;have hlt:k<n:=by have:=aP Hi.out;omega
      generalize hlab:lab ls i=s at*;have ad2:=aB hlab
      cases k with
      |zero=>
       have Zt:=aB (show ∀(j a b:Nat),j+1<0+1->os[j]?=some a->os[j+1]?=some b->lab ls a≠lab ls b from fun j a b h=>by omega);clear Px hlab;go_wp2_with fail;go_quiet (fail);go_wp2_with (at_builtin;(refine pY rfl (.tmp 93) (.tmp 97) rfl w4.heap.size (l:=out) rfl (ay.drewN hown _) (l2:=x::ys) rfl (ad1.drewN _) (by simp;omega) (by simp;omega) ?_;intro A2 cap2 w5 hown5 hg5 _;have Bw:Below w4.heap.size w4 w5:=iB (dB hbel _) hg5 (fun k hk=>(ay.block hown k hk).1);have hx5:(out++x::ys)[out.length]?=some x:=(by simp);obtain ⟨g5,rfl,Zu,akN,acD,akO,hown6,akP⟩:=ay.U1 hown5 (j:=out.length) (x:=x) hx5 s;rw [KW] at hown6;have Sc:=kY (p:=⟨g5,out.length*3+1,none⟩) Bw Zu (.string s);clear hx5;have Py:Below W.heap.size W w5:=D7.trans (Bw.mono z4);have c1x:=(Py.cell (p:=⟨w.heap.size,0,none⟩) (by simp;omega)).trans c1;have c2x:=(Py.cell (p:=⟨w.heap.size+1,0,none⟩) (by simp;omega)).trans c2;have lbx:=(Bw.block lb (by omega)).trans (hbel.block lb (by omega)).symm;have hlx:=(aad (a:=⟨lb,lo+i,none⟩) lbx).trans hlc));go_roundw
       case rel=>exact ⟨0+1,some ⟨g5,0,none⟩,cap2,out.length+(ys.length+1),out++g_ s (x::ys),rfl,by go_num,by omega,by omega,hown6,Sc,aB ⟨by simp [g_],r_.out⟩,Zt⟩
       case measure=>simp [intOf];omega
      |succ k=>
       obtain ⟨p,hp⟩:=aJ (show k<os.length by omega);have hpn:p<n:=Xt.1 ((MW.out.mem_iff).1 (O8 hp));obtain ⟨_,_,hgo,_,ho2⟩:=(aS.below Zp hbel).int (show (cB os)[k]?=some (p:Int) by simp [cB,hp]);injection hgo with hgo
       injection hgo with Zq Zr _
       subst Zq Zr;rw [Nat.zero_add] at ho2;obtain ⟨_,_,hl2,_,aqo⟩:=hLw.str (zZ (show p<ls.length by rw [WJ.out];exact hpn));simp only [Option.some.injEq,Addr.mk.injEq,and_true] at hl2;obtain ⟨rfl,rfl⟩:=hl2;generalize Sd:lab ls p=sp at*;have Zv:=aB Sd;have Hp:=aB hp;clear hp
       cases he:(sp.toList==s.toList)
       ·have Zt:=aB (show ∀(j a b:Nat),j+1<k+1+1->os[j]?=some a->os[j+1]?=some b->lab ls a≠lab ls b from fun j a b h ha hb=>by
         by_cases hj:j=k
         ·subst hj
          rw [Hp.out] at ha;rw [Hi.out] at hb;injection ha with ha
          injection hb with hb
          subst ha hb;rw [Zv.out,ad2.out];intro e;rw [e] at he;simp at he
         ·exact Px.out j a b (by omega) ha hb)
        clear Px hlab Sd;go_wp2_with fail;go_quiet (fail);go_wp2_with (at_builtin;(refine pY rfl (.tmp 93) (.tmp 97) rfl w4.heap.size (l:=out) rfl (ay.drewN hown _) (l2:=x::ys) rfl (ad1.drewN _) (by simp;omega) (by simp;omega) ?_;intro A2 cap2 w5 hown5 hg5 _;have Bw:Below w4.heap.size w4 w5:=iB (dB hbel _) hg5 (fun k hk=>(ay.block hown k hk).1);have hx5:(out++x::ys)[out.length]?=some x:=(by simp);obtain ⟨g5,rfl,Zu,akN,acD,akO,hown6,akP⟩:=ay.U1 hown5 (j:=out.length) (x:=x) hx5 s;rw [KW] at hown6;have Sc:=kY (p:=⟨g5,out.length*3+1,none⟩) Bw Zu (.string s);clear hx5;have Py:Below W.heap.size W w5:=D7.trans (Bw.mono z4);have c1x:=(Py.cell (p:=⟨w.heap.size,0,none⟩) (by simp;omega)).trans c1;have c2x:=(Py.cell (p:=⟨w.heap.size+1,0,none⟩) (by simp;omega)).trans c2;have lbx:=(Bw.block lb (by omega)).trans (hbel.block lb (by omega)).symm;have hlx:=(aad (a:=⟨lb,lo+i,none⟩) lbx).trans hlc));go_roundw
        case rel=>exact ⟨k+1+1,some ⟨g5,0,none⟩,cap2,out.length+(ys.length+1),out++g_ s (x::ys),rfl,by go_num,by omega,by omega,hown6,Sc,aB ⟨by simp [g_],r_.out⟩,Zt⟩
        case measure=>simp [intOf];omega
       ·have Hnd:=aB (Sb (by rw [WJ.out];exact MW.out) Hp.out Hi.out (by rw [Zv.out,ad2.out];exact he))
        clear Px hlab Sd;go_wp2_with fail;go_quiet (fail);go_wp2_with fail;go_ret2;exact ⟨ah hbW (below_drewN hbelW _),.inr (.inl ⟨Zn.out,Hnd.out,rfl⟩)⟩
     ·have hkk:k=n:=by omega
      go_wp2_with fail;go_ret2;obtain ⟨hm,ho⟩:=hout.out;have hfin:out=D6 kind ls xss os:=by rw [ho,hkk,<-adZ,wH,adZ];unfold D6;rw [<-Hx.out];rfl
      subst hm;rw [hfin] at hown ⊢;refine ⟨ah hbW hbelW,.inr (.inr ⟨Zn.out,os,A',cap',by rw [<-Hx.out];exact MW.out,R_ afw.out fun j a b ha hb=>Px.out j a b (by have:=aP hb;omega) ha hb,rfl,ay.lower hown (by omega)⟩)⟩
structure Pt where
 k:Int
 lb:ByteArray
 nm:ByteArray
 bd:ByteArray
 mn:Int
 num:Int
 T:List Nd
 U:List Nd
 deriving DecidableEq
instance:Inhabited Pt:=⟨⟨0,dQ,dQ,dQ,0,0,[],[]⟩⟩
abbrev Env:=List (ByteArray×List Nd)
abbrev fF:=Except (Nat×Int) (List Nd×Nat)
abbrev Am:=Except (Nat×Int) Nat
abbrev Nx:=Env->Nat->Option fF
instance (t:List Nd):Decidable (bC t):=inferInstanceAs (Decidable (∀x∈t,dP x.k x.n=true))
instance (n:Nat) (t:List Nd):Decidable (Fo n t):=inferInstanceAs (Decidable (skip t n=some []))
instance (t:List Nd):Decidable (Gd t):=
 if h:bC t/\Fo 1 t/\(aD t).s=dQ/\t.length<=1000000000 then isTrue ⟨h.1,h.2.1,h.2.2.1,h.2.2.2⟩
 else isFalse fun g=>h ⟨g.ok,g.fo,g.s,g.len⟩
def Pz (nx:Nx) (env:Env):Am->Option fF
 | .ok a=>nx env a
 | .error b=>some (.error b)
def fF.st:fF->Am
 | .ok (_,a)=>.ok a
 | .error b=>.error b
def dw (x:Option fF) (f:List Nd->Nat->Option fF):Option fF:=
 match x with
 |none=>none
 |some (.error b)=>some (.error b)
 |some (.ok (t,a))=>f t a
def og (t u:List Nd) (aN a:Nat):Am:=if jR t u=true then .ok a else .error (aN,9)
def l7 (env:Env) (s:ByteArray):Option (List Nd):=(env.reverse.find? fun e=>e.1.toList==s.toList).map Prod.snd
def aH (k:Int):List Nd:=[⟨k,dQ,0⟩]
def KX (p:Pt) (a:Nat):Option fF:=some (.ok (p.T,a))
def xu (env:Env) (p:Pt) (aN a:Nat):Option fF:=
 match l7 env p.nm with
 |some t=>some (.ok (t,a))
 |none=>some (.error (aN,5))
def KY (nx:Nx) (env:Env) (p:Pt) (a:Nat):Option fF:=dw (nx (env++[(p.bd,p.T)]) a) fun t b=>some (.ok (aR p.T t,b))
def GQ (nx:Nx) (env:Env) (aN a:Nat):Option fF:=
 dw (nx env a) fun f b=>dw (nx env b) fun x c=>
  match iP f with
  |none=>some (.error (aN,9))
  |some (tk,tl)=>if jR x tk=true then some (.ok (tl,c)) else some (.error (aN,9))
def KZ (nx:Nx) (env:Env) (p:Pt) (aN a:Nat):Option fF:=
 dw (nx env a) fun t b=>Pz nx (env++[(p.bd,p.T)]) (og t p.T aN b)
def K3 (nx:Nx) (env:Env) (p:Pt) (aN a:Nat):Option fF:=
 dw (nx (env++[(p.nm,aR p.T p.U),(p.bd,p.T)]) a) fun t b=>Pz nx (env++[(p.nm,aR p.T p.U)]) (og t p.U aN b)
def sj (t u:List Nd) (aN a:Nat):Option fF:=
 match met 1 t u with
 |some m=>some (.ok (m,a))
 |none=>some (.error (aN,9))
def Bz (nx:Nx) (env:Env) (aN a:Nat):Option fF:=
 dw (nx env a) fun c b=>dw (nx env b) fun x d=>dw (nx env d) fun y e=>
  if jR c (aH 2)=true then sj x y aN e else some (.error (aN,9))
def cZ (s:ByteArray):Int:=if s.toList=[38,38]\/s.toList=[124,124] then 2 else if s.toList=[43,43] then 3 else 1
def fA (s:ByteArray):Int:=if s.toList=[60]\/s.toList=[61,61] then 2 else cZ s
def Sg (nx:Nx) (env:Env) (p:Pt) (aN a:Nat):Option fF:=
 dw (nx env a) fun x b=>dw (nx env b) fun y c=>
  if jR x (aH (cZ p.nm))=true/\jR y (aH (cZ p.nm))=true then some (.ok (aH (fA p.nm),c)) else some (.error (aN,9))
def nH (t:List Nd) (s:ByteArray) (aN a:Nat):Option fF:=
 match bG t s with
 |some u=>some (.ok (u,a))
 |none=>some (.error (aN,9))
def getM (nx:Nx) (env:Env) (p:Pt) (aN a:Nat):Option fF:=dw (nx env a) fun t b=>nH t p.nm aN b
def GR (nx:Nx) (env:Env) (p:Pt) (aN a:Nat):Option fF:=
 dw (nx env a) fun t b=>dw (nH p.T p.nm aN b) fun u c=>if jR t u=true then some (.ok (p.T,c)) else some (.error (aN,9))
def asM (nx:Nx) (env:Env) (p:Pt) (aN a:Nat):Option fF:=
 dw (nx env a) fun t b=>if jR t p.T=true then some (.ok (p.T,b)) else some (.error (aN,9))
def xw (nx:Nx) (env:Env) (p:Pt) (aN a:Nat):Option fF:=
 dw (nx env a) fun t b=>if lZ t p.T=true/\jR p.T p.U=true then some (.ok (p.U,b)) else some (.error (aN,9))
def iQ (w:World) (b:Nat) (T:TypeId):Prop:=∃cs fz,w.heap[b]?=some (.cells cs T fz)
def CJ (Y:Nat->Prop) (b:Nat):Prop:=∀q,Y q->b<q
theorem lG {w w':World} {b:Nat} {T:TypeId} (hbk:w'.heap[b]?=w.heap[b]?) (h:iQ w b T):iQ w' b T:=by
 unfold iQ;rw [hbk];exact h
theorem CJ.fr {Y Y':Nat->Prop} {b n:Nat} (h:CJ Y b) (hb:b<n) (hY:∀q,Y' q->Y q\/n<=q):CJ Y' b:=fun q hq=>by
 rcases hY q hq with h2|h2
 ·exact h q h2
 ·omega
def uO (w:World) (Y:Nat->Prop) (A:Option Addr) (t:List Nd):Prop:=t≠[]->∃b o,A=some ⟨b,o,none⟩/\b<w.heap.size/\¬Y b/\RT w b o t/\(iQ w b 49\/CJ Y b)
structure aF (w:World) (Y:Nat->Prop) (A:Option Addr) (c:Nat) (t:List Nd):Prop where
 ty:uO w Y A t
 cap:t.length<=c
def AV (w:World) (Y:Nat->Prop) (b o:Nat) (p:Pt):Prop:=∃TA tc UA uc,aF w Y TA tc p.T/\aF w Y UA uc p.U/\
 w.cell? ⟨b,o,none⟩=some (.int .i64 p.k)/\w.cell? ⟨b,o+1,none⟩=some (.string p.lb)/\w.cell? ⟨b,o+2,none⟩=some (.string p.nm)/\w.cell? ⟨b,o+3,none⟩=some (.string p.bd)/\
 w.cell? ⟨b,o+4,none⟩=some (.int .i64 p.mn)/\w.cell? ⟨b,o+5,none⟩=some (.int .i64 p.num)/\w.cell? ⟨b,o+6,none⟩=some (.slice TA p.T.length tc)/\w.cell? ⟨b,o+7,none⟩=some (.slice UA p.U.length uc)
def kF (w:World) (Y:Nat->Prop) (A:Option Addr) (es:List Pt):Prop:=∀(i:Nat) (p:Pt),es[i]?=some p->∃b o,A=some ⟨b,o,none⟩/\b<w.heap.size/\¬Y b/\AV w Y b (o+i*8) p/\(iQ w b 33\/CJ Y b)
structure Bn where
 s:ByteArray
 A:Option Addr
 n:Nat
 c:Nat
def qG (b:Bn):List Value:=[.string b.s,.slice b.A b.n b.c]
theorem tu (b:Bn):(qG b).length=2:=rfl
theorem WL (b:Bn):∀u∈qG b,u.oneCell'=true:=by
 intro u hu;simp [qG] at hu;rcases hu with rfl|rfl<;>rfl
def dY (w:World) (Y:Nat->Prop) (bs:List Bn) (env:Env):Prop:=
 bs.length=env.length/\∀(i:Nat) (b:Bn) (e:ByteArray×List Nd),bs[i]?=some b->env[i]?=some e->b.s=e.1/\b.n=e.2.length/\aF w Y b.A b.c e.2
abbrev CK (w:World) (base:Nat) (A:Option Addr) (cap:Nat) (l:List Bn):Prop:=ay 36 2 qG w base A cap l
abbrev mZ (w:World) (B:Nat) (A:Option Addr) (l:List Bn):Prop:=aS 2 qG w B A l
theorem ay.rO {α:Type} {e size base:Nat} {enc:α->List Value} {w:World} {A:Option Addr} {cap:Nat} {l:List α} (h:ay e size enc w base A cap l) {a:Addr} (hA:A=some a):iQ w a.block e:=by
 subst hA;rcases h.2 with ⟨hv,hn⟩|⟨g,cap',cur,hv,hbg,hg,hr⟩
 ·cases hv
 ·injection hv with h1
  injection h1 with h1
  subst h1;exact ⟨cur,_,hg⟩
theorem iQ.ne {w:World} {b c:Nat} {T U:TypeId} (h:iQ w b T) (k:iQ w c U) (hTU:T≠U):b≠c:=by
 rintro rfl;obtain ⟨cs,fz,h⟩:=h;obtain ⟨ds,gz,k⟩:=k;rw [h] at k;injection k with k
 injection k with _ k _
 exact hTU k
section
variable {w w':World} {Y Y':Nat->Prop} {A:Option Addr} {c:Nat} {t:List Nd}
theorem uO.fr (h:uO w Y A t) (hf:Fr Y w w') (hY:∀q,Y' q->Y q\/w.heap.size<=q):uO w' Y' A t:=fun hne=>by
 obtain ⟨b,o,e,hb,hy,hr,ho⟩:=h hne;have hbk:=hf.block b hb hy;refine ⟨b,o,e,Yy hb hf.size,fun h2=>?_,hr.mono fun off=>by simp [DI,hbk],ho.imp (lG hbk) fun h=>h.fr hb hY⟩;rcases hY b h2 with h3|h3
 ·exact hy h3
 ·omega
theorem uO.eY (h:uO w Y A t):bJ w w.heap.size A t:=fun hne=>by
 obtain ⟨b,o,e,hb,_,hr,_⟩:=h hne;exact ⟨b,o,e,hb,hr⟩
theorem uO.own {base:Nat} (h:dF w base A c t) (hY:∀q,Y q->q<base):uO w Y A t:=fun hne=>by
 obtain ⟨b,o,e,hb,hr⟩:=h.eY hne;refine ⟨b,o,e,hb,fun hy=>?_,hr,.inl (ay.rO h e)⟩;have:=(ay.lt h _ e).1;have:=hY b hy;simp only at*;omega
theorem aF.fr (h:aF w Y A c t) (hf:Fr Y w w') (hY:∀q,Y' q->Y q\/w.heap.size<=q):aF w' Y' A c t:=⟨h.ty.fr hf hY,h.cap⟩
theorem aF.own {base:Nat} (h:dF w base A c t) (hY:∀q,Y q->q<base):aF w Y A c t:=⟨uO.own h hY,ay.l5 h⟩
theorem aF.nil:aF w Y A c []:=⟨fun h=>absurd rfl h,cu _⟩
theorem AV.fr {b o:Nat} {p:Pt} (h:AV w Y b o p) (hb:b<w.heap.size) (hy:¬Y b) (hf:Fr Y w w') (hY:∀q,Y' q->Y q\/w.heap.size<=q):AV w' Y' b o p:=by
 obtain ⟨TA,tc,UA,uc,h1,h2,h3⟩:=h;have hbk:=hf.block b hb hy;refine ⟨TA,tc,UA,uc,h1.fr hf hY,h2.fr hf hY,?_⟩;simp only [DI,hbk] at h3 ⊢;exact h3
theorem kF.fr {es:List Pt} (h:kF w Y A es) (hf:Fr Y w w') (hY:∀q,Y' q->Y q\/w.heap.size<=q):kF w' Y' A es:=fun i p hp=>by
 obtain ⟨b,o,e,hb,hy,hr,ho⟩:=h i p hp;refine ⟨b,o,e,Yy hb hf.size,fun h2=>?_,hr.fr hb hy hf hY,ho.imp (lG (hf.block b hb hy)) fun h=>h.fr hb hY⟩;rcases hY b h2 with h3|h3
 ·exact hy h3
 ·omega
theorem dY.fr {bs:List Bn} {env:Env} (h:dY w Y bs env) (hf:Fr Y w w') (hY:∀q,Y' q->Y q\/w.heap.size<=q):dY w' Y' bs env:=
 ⟨h.1,fun i b e hb he=>⟨(h.2 i b e hb he).1,(h.2 i b e hb he).2.1,(h.2 i b e hb he).2.2.fr hf hY⟩⟩
theorem dY.app {bs bs2:List Bn} {env bH:Env} (h:dY w Y bs env) (k:dY w Y bs2 bH):dY w Y (bs++bs2) (env++bH):=by
 refine ⟨by rw [lS,lS,h.1,k.1],fun i b e hb he=>?_⟩;rcases Nat.lt_or_ge i bs.length with hi|hi
 ·rw [YX hi] at hb
  rw [YX (by rw [<-h.1];exact hi)] at he;exact h.2 i b e hb he
 ·rw [kg hi] at hb
  rw [kg (by rw [<-h.1];exact hi),<-h.1] at he;exact k.2 _ b e hb he
theorem dY.take {bs:List Bn} {env bH:Env} (h:dY w Y bs (env++bH)):dY w Y (bs.take env.length) env:=by
 refine ⟨by rw [List.length_take,h.1,lS];omega,fun i b e hb he=>?_⟩;have hi:=aP he;rw [List.getElem?_take_of_lt hi] at hb;exact h.2 i b e hb (by rw [YX hi];exact he)
theorem dY.nil:dY w Y [] []:=⟨rfl,fun i b e hb _=>by simp at hb⟩
theorem dY.one {s:ByteArray} {n:Nat} (h:aF w Y A c t) (hn:n=t.length):dY w Y [⟨s,A,n,c⟩] [(s,t)]:=by
 subst hn;refine ⟨rfl,fun i b e hb he=>?_⟩
 match i,hb,he with
 |0,hb,he=>
  simp at hb he;subst hb he
  exact ⟨rfl,rfl,h⟩
 |i+1,hb,_=>simp at hb
end
structure iF (w w':World) (U:TypeId) (Y:Nat->Prop):Prop where
 os:w'.os=w.os
 tape:w'.tape=w.tape
 output:w'.output=w.output
 size:w.heap.size<=w'.heap.size
 block:∀k,k<w.heap.size->¬(iQ w k U/\¬CJ Y k)->w'.heap[k]?=w.heap[k]?
theorem iF.grown {α:Type} {size base n:Nat} {U:TypeId} {enc:α->List Value} {w w':World} {A:Option Addr} {cap:Nat} {l:List α} (h:ay U size enc w base A cap l) (hn:n=l.length) (hg:w.grownBy w' ((Value.slice A n cap).ownBlock)) {Y:Nat->Prop} {P:Nat} (hY:Y P) (hP:P<=base):iF w w' U Y:=by
 subst hn;refine ⟨hg.os,hg.tape,hg.output,hg.size,fun k hk ho=>hg.block k hk fun e=>?_⟩;obtain ⟨a,hA,e2⟩:=bL e.symm;have:=ay.rO h hA;rw [e2] at this;have h6:=(ay.lt h a hA).1;exact ho ⟨this,fun h5=>by have:=h5 P hY;omega⟩
theorem iF.fr {w w':World} {U:TypeId} {Y:Nat->Prop} (h:iF w w' U Y):Fr (fun q=>iQ w q U/\¬CJ Y q) w w':=⟨h.os,h.tape,h.output,h.size,h.block⟩
theorem uO.bW {w w':World} {U:TypeId} {Y:Nat->Prop} {A:Option Addr} {t:List Nd} (h:uO w Y A t) (k:iF w w' U Y) (hU:U≠49):uO w' Y A t:=fun hne=>by
 obtain ⟨b,o,e,hb,hy,hr,ho⟩:=h hne;have hbk:=k.block b hb fun h2=>ho.elim (fun ho=>iQ.ne h2.1 ho hU rfl) h2.2;exact ⟨b,o,e,Yy hb k.size,hy,hr.mono fun off=>by simp [DI,hbk],ho.imp (lG hbk) fun h=>h⟩
theorem aF.bW {w w':World} {U:TypeId} {Y:Nat->Prop} {A:Option Addr} {c:Nat} {t:List Nd} (h:aF w Y A c t) (k:iF w w' U Y) (hU:U≠49):aF w' Y A c t:=⟨h.ty.bW k hU,h.cap⟩
structure rP (P:Nat) (es:List Pt) (env:Env) (a:Nat) (p e:Int) (EA:Option Addr) (ec:Nat) (VA:Option Addr) (vc:Nat) (bs:List Bn) (Y:Nat->Prop) (w:World):Prop where
 blk:w.heap[P]?=some (.cells #[.slice EA es.length ec,.int .i64 (a:Int),.slice VA bs.length vc,.int .i64 p,.int .i64 e] 60 (0,0))
 own:CK w 0 VA vc bs
 ex:kF w Y EA es
 en:dY w Y bs env
 y:∀q,Y q↔(q=P\/∃a,VA=some a/\a.block=q)
 np:∀a,VA=some a->a.block≠P
 el:es.length<=1000000
 vl:env.length<=1000000
def WkS (P:Nat) (es:List Pt) (env:Env) (a:Nat) (p e:Int) (Y:Nat->Prop) (w:World):Prop:=∃EA ec VA vc bs,rP P es env a p e EA ec VA vc bs Y w
def ad3:Am->Nat->Int->Int->Prop
 | .ok n,a,p,e=>a=n/\p=0/\e=0
 | .error (q,f),_,p,e=>p=q/\e=f/\f≠0
def bf (P:Nat) (es:List Pt) (env:Env) (s:Am) (Y:Nat->Prop) (w:World):Prop:=∃a p e,WkS P es env a p e Y w/\ad3 s a p e
def aj (Y Y':Nat->Prop) (w:World):Prop:=∀q,Y' q->Y q\/w.heap.size<=q
def jL (P:Nat) (es:List Pt) (env:Env) (Y:Nat->Prop) (r:fF) (w:World) (e:Ending) (w':World):Prop:=
 ∃Y',Fr Y w w'/\aj Y Y' w/\bf P es env r.st Y' w'/\match r with
  | .ok (t,_)=>∃A c,e= .returned (.slice A t.length c)/\aF w' Y' A c t
  | .error _=>e= .returned (.slice none 0 0)
def bI (P:Nat) (es:List Pt) (env:Env) (Y:Nat->Prop) (r:fF) (w:World) (e:Ending) (w':World):Prop:=
 ∃Y',Fr Y w w'/\aj Y Y' w/\bf P es env r.st Y' w'/\match r with
  | .ok (t,_)=>∃A c,e= .returned (.slice A t.length c)/\aF w' Y' A c t
  | .error _=>∃A n c,e= .returned (.slice A n c)
def pk (P:Nat):Value:=.pointer (some ⟨P,0,none⟩)
def nR (P:Nat) (es:List Pt) (nx:Nx):Prop:=∀env s r Y w,Pz nx env s=some r->bf P es env s Y w->Calls Tryz.prog 32 #[pk P] w (jL P es env Y r w)
section
variable {P a:Nat} {es:List Pt} {env:Env} {p e:Int} {EA VA:Option Addr} {ec vc:Nat} {bs:List Bn} {Y Y':Nat->Prop} {w w':World} {s:Am}
theorem rP.lt (h:rP P es env a p e EA ec VA vc bs Y w):∀q,Y q->q<w.heap.size:=fun q hq=>by
 rcases (h.y q).1 hq with rfl|⟨b,hb,rfl⟩
 ·exact (Array.getElem?_eq_some_iff.1 h.blk).1
 ·exact (ay.lt h.own b hb).2
theorem bf.yP (h:bf P es env s Y w):Y P:=by
 obtain ⟨a,p,e,⟨EA,ec,VA,vc,bs,h⟩,_⟩:=h;exact (h.y P).2 (.inl rfl)
theorem bf.lt (h:bf P es env s Y w):∀q,Y q->q<w.heap.size:=by
 obtain ⟨a,p,e,⟨EA,ec,VA,vc,bs,h⟩,_⟩:=h;exact h.lt
theorem rP.later (h:rP P es env a p e EA ec VA vc bs Y w) (hb:Below w.heap.size w w'):rP P es env a p e EA ec VA vc bs Y w':=by
 have hf:Fr Y w w':=Fr.below hb;have hP:=h.lt P ((h.y P).2 (.inl rfl));exact ⟨(hb.block P hP).trans h.blk,h.own.below hb (Nat.le_refl _),h.ex.fr hf fun q hq=>.inl hq,h.en.fr hf fun q hq=>.inl hq,h.y,h.np,h.el,h.vl⟩
theorem bf.later (h:bf P es env s Y w) (hb:Below w.heap.size w w'):bf P es env s Y w':=by
 obtain ⟨a,p,e,⟨EA,ec,VA,vc,bs,h⟩,hr⟩:=h;exact ⟨a,p,e,⟨EA,ec,VA,vc,bs,h.later hb⟩,hr⟩
theorem rP.cells (h:rP P es env a p e EA ec VA vc bs Y w):w.cell? ⟨P,0,none⟩=some (.slice EA es.length ec)/\w.cell? ⟨P,1,none⟩=some (.int .i64 (a:Int))/\w.cell? ⟨P,2,none⟩=some (.slice VA bs.length vc)/\w.cell? ⟨P,3,none⟩=some (.int .i64 p)/\w.cell? ⟨P,4,none⟩=some (.int .i64 e):=
 ⟨by simp [DI,h.blk],by simp [DI,h.blk],by simp [DI,h.blk],by simp [DI,h.blk],by simp [DI,h.blk]⟩
theorem rP.frozen (h:rP P es env a p e EA ec VA vc bs Y w):∀i,i<5->w.frozen? ⟨P,i,none⟩=false:=fun i hi=>by
 have:i=0\/i=1\/i=2\/i=3\/i=4:=by omega
 rcases this with rfl|rfl|rfl|rfl|rfl<;>simp [World.frozen?,h.blk]
theorem rP.kind (h:rP P es env a p e EA ec VA vc bs Y w):∀q,Y q->iQ w q 60\/iQ w q 36:=fun q hq=>by
 rcases (h.y q).1 hq with rfl|⟨b,hb,rfl⟩
 ·exact .inl ⟨_,_,h.blk⟩
 ·exact .inr (ay.rO h.own hb)
theorem bf.kind (h:bf P es env s Y w):∀q,Y q->iQ w q 60\/iQ w q 36:=by
 obtain ⟨a,p,e,⟨EA,ec,VA,vc,bs,h⟩,_⟩:=h;exact h.kind
theorem rP.bW {U:TypeId} (h:rP P es env a p e EA ec VA vc bs Y w) (k:iF w w' U Y) (h1:U≠49) (h2:U≠33) (h3:U≠36) (h4:U≠60):rP P es env a p e EA ec VA vc bs Y w':=by
 have hP:=h.lt P ((h.y P).2 (.inl rfl));refine ⟨(k.block P hP fun h5=>iQ.ne h5.1 ⟨_,_,h.blk⟩ h4 rfl).trans h.blk,ay.fr h.own k.fr (fun a ha h5=>iQ.ne h5.1 (ay.rO h.own ha) h3 rfl),?_,⟨h.en.1,fun i b e hb he=>⟨(h.en.2 i b e hb he).1,(h.en.2 i b e hb he).2.1,(h.en.2 i b e hb he).2.2.bW k h1⟩⟩,h.y,h.np,h.el,h.vl⟩;intro i p hp;obtain ⟨b,o,e,hb,hy,hr,ho⟩:=h.ex i p hp;have hbk:=k.block b hb fun h5=>ho.elim (fun ho=>iQ.ne h5.1 ho h2 rfl) h5.2;refine ⟨b,o,e,Yy hb k.size,hy,?_,ho.imp (lG hbk) fun h=>h⟩;obtain ⟨TA,tc,UA,uc,f1,f2,f3⟩:=hr;refine ⟨TA,tc,UA,uc,f1.bW k h1,f2.bW k h1,?_⟩;simp only [DI,hbk] at f3 ⊢;exact f3
theorem bf.bW {U:TypeId} (h:bf P es env s Y w) (k:iF w w' U Y) (h1:U≠49) (h2:U≠33) (h3:U≠36) (h4:U≠60):bf P es env s Y w':=by
 obtain ⟨a,p,e,⟨EA,ec,VA,vc,bs,h⟩,hr⟩:=h;exact ⟨a,p,e,⟨EA,ec,VA,vc,bs,h.bW k h1 h2 h3 h4⟩,hr⟩
theorem ay.step {α:Type} {U size base:Nat} {enc:α->List Value} {A:Option Addr} {cap:Nat} {l:List α} (h:ay U size enc w base A cap l) (hk:bf P es env s Y w) (hf:Fr Y w w') (h3:U≠36) (h4:U≠60):ay U size enc w' base A cap l:=
 ay.fr h hf fun a ha hy=>by
  rcases hk.kind _ hy with h5|h5
  ·exact iQ.ne (ay.rO h ha) h5 h4 rfl
  ·exact iQ.ne (ay.rO h ha) h5 h3 rfl
theorem rP.put (h:rP P es env a p e EA ec VA vc bs Y w) {a2:Nat} {p2 e2:Int} (hb:w'.heap[P]?=some (.cells #[.slice EA es.length ec,.int .i64 (a2:Int),.slice VA bs.length vc,.int .i64 p2,.int .i64 e2] 60 (0,0))) (hf:Fr (fun q=>q=P) w w'):
  rP P es env a2 p2 e2 EA ec VA vc bs Y w'/\Fr Y w w':=by
 have hf2:Fr Y w w':=hf.mono fun q hq=>(h.y q).2 (.inl hq);exact ⟨⟨hb,ay.fr h.own hf h.np,h.ex.fr hf2 fun q hq=>.inl hq,h.en.fr hf2 fun q hq=>.inl hq,h.y,h.np,h.el,h.vl⟩,hf2⟩
theorem dZ (w:World) (P i:Nat) (v:Value):Fr (fun q=>q=P) w (w.setCell ⟨P,i,none⟩ v):=Fr.setCell (X:=fun q=>q=P) (Fr.refl _ _) (.inl rfl) _
end
def pz (p:ByteArray×List Nd):List (ByteArray×List Nd)->List (ByteArray×List Nd)
 |[]=>[p]
 |q::l=>if kU p.1 q.1=true then p::q::l else q::pz p l
def pE (l:List (ByteArray×List Nd)):List (ByteArray×List Nd):=l.foldl (fun a p=>pz p a) []
def d_ (k:Int) (fs:List (ByteArray×List Nd)):List Nd:=⟨k,dQ,(fs.length:Int)⟩::(pE fs).flatMap fun p=>g_ p.1 p.2
abbrev fB:=ByteArray×List Nd
theorem GU (p:fB) (l:List fB):(pz p l).Perm (p::l):=by
 induction l with
 |nil=>exact Yz.refl _
 |cons q l ih=>
  unfold pz;split
  ·exact Yz.refl _
  ·exact (ih.cons q).trans (Yz.swap p q l)
theorem Si (p:fB) (l:List fB) (hs:l.Pairwise fun a b=>kU a.1 b.1=true) (hn:∀q∈l,q.1≠p.1):(pz p l).Pairwise fun a b=>kU a.1 b.1=true:=by
 induction l with
 |nil=>simp [pz]
 |cons q l ih=>
  rw [YA] at hs;unfold pz;by_cases h:kU p.1 q.1=true
  ·rw [if_pos h,YA,YA]
   refine ⟨fun r hr=>?_,hs⟩;rcases qm.1 hr with rfl|hr
   ·exact h
   ·exact Bv h (hs.1 r hr)
  ·rw [if_neg h,YA]
   refine ⟨fun r hr=>?_,ih hs.2 fun r hr=>hn r (List.mem_cons_of_mem _ hr)⟩;rcases qm.1 ((GU p l).subset hr) with rfl|hr
   ·cases h2:kU q.1 r.1 with
    |true=>rfl
    |false=>exact absurd (MU h2 (by simpa using h)) (hn q (aag ..))
   ·exact hs.1 r hr
theorem GV (l:List fB):∀acc:List fB,(acc++l).Pairwise (fun a b=>a.1≠b.1)->acc.Pairwise (fun a b=>kU a.1 b.1=true)->
  (l.foldl (fun a p=>pz p a) acc).Perm (acc++l)/\(l.foldl (fun a p=>pz p a) acc).Pairwise fun a b=>kU a.1 b.1=true:=by
 induction l with
 |nil=>intro acc _ h;simpa using h
 |cons p l ih=>
  intro acc hd hs;rw [List.foldl_cons];have hp:(pz p acc++l).Perm (acc++p::l):=((GU p acc).append_right l).trans (by simpa using (List.perm_middle (a:=p) (l₁:=acc) (l₂:=l)).symm);have hd2:(pz p acc++l).Pairwise fun a b=>a.1≠b.1:=hp.symm.pairwise hd (fun h=>Ne.symm h);have hn:∀q∈acc,q.1≠p.1:=fun q hq=>(List.pairwise_append.1 hd).2.2 q hq p (aag ..);obtain ⟨h1,h2⟩:=ih (pz p acc) hd2 (Si p acc hs hn);exact ⟨h1.trans hp,h2⟩
theorem acF {a b:ByteArray} (h:kU a b=true):kU b a=false:=by
 cases k:kU b a with
 |false=>rfl
 |true=>
  have:=Bv h k;rw [Fb] at this
  cases this
theorem D8 (k:Int) (fs:List fB) (hd:(fs.map (·.1)).Nodup) (os:List Nat) (hp:os.Perm (MQ (fs.map (·.2)).length)) (ho:os.Pairwise fun i j=>kU (lab (fs.map (·.1)) i) (lab (fs.map (·.1)) j)=true):
  D6 k (fs.map (·.1)) (fs.map (·.2)) os=d_ k fs:=by
 have hd2:fs.Pairwise fun a b=>a.1≠b.1:=by
  have h:=hd;unfold List.Nodup at h;rw [aah] at h;exact h
 obtain ⟨h1,h2⟩:=GV fs [] (by simpa using hd2) List.Pairwise.nil
 have hr:(MQ fs.length).map (fun i=>((lab (fs.map (·.1)) i,((fs.map (·.2))[i]?).getD []):fB))=fs:=by
  refine List.ext_getElem (by simp) fun i hi hj=>?_;simp only [List.getElem_map,List.getElem_range];simp [lab,bS hj]
 have e:os.map (fun i=>((lab (fs.map (·.1)) i,((fs.map (·.2))[i]?).getD []):fB))=pE fs:=by
  refine Yz.eq_of_pairwise (le:=fun a b=>kU a.1 b.1=true) (fun a b _ _ h k=>?_) ?_ h2 ?_
  ·rw [acF h] at k
   cases k
  ·rw [aah]
   exact ho
  ·rw [OX] at hp
   refine (hp.map _).trans ?_;rw [hr];simpa [pE] using h1.symm
 unfold D6 d_;rw [<-e,List.flatMap_map,OX];rfl
def iG (nx:Nx) (es:List Pt) (env:Env):Nat->Nat->List fB->Option (Except (Nat×Int) (List fB×Nat))
 |0,a,fs=>some (.ok (fs,a))
 |n+1,a,fs=>
  match es[a]? with
  |none=>none
  |some x=>match nx env a with
   |none=>none
   |some (.error b)=>some (.error b)
   |some (.ok (t,b))=>iG nx es env n b (fs++[(x.lb,t)])
def vH (nx:Nx) (es:List Pt) (env:Env) (p:Pt) (a:Nat):Option fF:=
 if 0<=p.mn/\p.mn<=50 then
  match iG nx es env p.mn.toNat a [] with
  |none=>none
  |some (.error b)=>some (.error b)
  |some (.ok (fs,b))=>if jZ 6 (fs.map (·.1)) fs.length=false/\(fs.map (·.1)).Nodup then some (.ok (d_ 6 fs,b)) else none
 else none
def aL (p:Pt):Nat:=
 if p.k=2\/p.k=8\/p.k=11\/p.k=12\/p.k=13\/p.k=14 then 1 else
 if p.k=3\/p.k=4\/p.k=5\/p.k=9 then 2 else
 if p.k=6 then 3 else
 if p.k=7 then p.mn.toNat+1 else
 if p.k=10 then p.mn.toNat else 0
def fM:List Pt->Nat->Nat->Option Nat
 |_,0,p=>some p
 |[],_+1,_=>none
 |x::xs,n+1,p=>fM xs (n+aL x) (p+1)
def bZ (es:List Pt):Nat->Nat->Option (List Nat)
 |0,_=>some []
 |n+1,a=>match fM (es.drop a) 1 a with
  |none=>none
  |some b=>(bZ es n b).map fun l=>a::l
def lH (l:List ByteArray):List ByteArray:=((l.map ByteArray.toList).mergeSort fun x y=>decide (x<=y)).map fun b=>⟨b.toArray⟩
def nI (es:List Pt) (t:List Nd) (aN:Nat):Option Bool:=
 match es[aN]? with
 |none=>none
 |some p=>match bZ es (aL p) (aN+1) with
  |none=>none
  |some []=>none
  |some (_::l)=>match kN t with
   |none=>some false
   |some tags=>some (decide ((aD t).k=0)||decide (tags=lH (l.map fun i=>((es[i]?).getD default).lb)))
def fO (nx:Nx) (es:List Pt) (env:Env) (ot:List Nd):Nat->Nat->List (List Nd)->Option (Except (Nat×Int) (List (List Nd)×Nat))
 |0,a,ts=>some (.ok (ts,a))
 |n+1,a,ts=>
  match es[a]? with
  |none=>none
  |some x=>match nx (env++[(x.bd,(bG ot x.lb).getD [])]) (a+1) with
   |none=>none
   |some (.error b)=>some (.error b)
   |some (.ok (t,b))=>fO nx es env ot n b (ts++[t])
def bT (aN:Nat):List Nd->List (List Nd)->Option (Except (Nat×Int) (List Nd))
 |m,[]=>some (.ok m)
 |m,t::ts=>match met 1 m t with
  |none=>some (.error (aN,9))
  |some m2=>if Gd m2 then bT aN m2 ts else none
def rC (nx:Nx) (es:List Pt) (env:Env) (p:Pt) (aN a:Nat):Option fF:=
 if 1<=p.mn/\p.mn<=50/\env.length<=900000 then
  dw (nx env a) fun ot b=>
   match nI es ot aN with
   |none=>none
   |some false=>some (.error (aN,9))
   |some true=>match fO nx es env ot p.mn.toNat b [] with
    |none=>none
    |some (.error x)=>some (.error x)
    |some (.ok (ts,c))=>match ts with
     |[]=>none
     |t::ts=>match bT aN t ts with
      |none=>none
      |some (.error x)=>some (.error x)
      |some (.ok m)=>some (.ok (m,c))
 else none
end Go.Proofs.YtmjdhfbnmmdjiaaGreat
