/- Laid together by a tool from the texts of this seat: Rf13 Rh13 Ri13 Grd RGround UGr Rj13 Rk13 RegL RegS. Conditions: each theorem's own. -/
import Derived.Test.YtblfeokjlecgkaaV09
import Derived.Laws.ResultCell
import Derived.Test.YtblfeokjlecgkaaV02
import Derived.Deep.DeepCutAuto
import Derived.Deep.CutRange
import Derived.Test.YtblfeokjlecgkaaV03
import Derived.Test.YtblfeokjlecgkaaV07
import Derived.Test.YtblfeokjlecgkaaV08
import Derived.Test.YtblfeokjlecgkaaV01
import Derived.OrdersHeld
set_option maxHeartbeats 8000000
set_option maxRecDepth 100000
namespace Go.Proofs.Ytblfeokjlecgkaa
open Go.Lib renaming hid->aC
open _root_.ByteArray renaming empty->pR
open _root_.And renaming intro->Gw
open Go.World renaming cell?->adw,frozen?->ad6,cell?_of_block->adN
open Go.RowKit.Below renaming refl->aT,heap_alloc->adM
open _root_.List renaming mem_of_getElem?->Yt,length_append->A_,length_map->aaT,length->RB,length_cons->Bl,length_set->IJ,cons_append->Gx,mem_map->aaN,getElem?_append_right->zA,map_append->abl,mem_flatten->aam,Sublist->aec,sublist_flatten_of_mem->aeg,mem_append->JQ,mem_singleton->aaW,map_map->abL,getElem?_map->adg,length_take->zH,take_add_one->GZ,mem_cons->Gz,getElem?_append_left->aaM,all_eq_true->SI,length_pos_iff->adx
open Go.Value renaming slice->aO
open Go.Region renaming ready->ad4,binds->ad8,wanted->aaH,Mode->aeh,noSelect->aei,free->aej
open _root_.Nat renaming lt_of_lt_of_le->vv,le_refl->bN,zero_le->h_,le_succ->ad7,zero_mul->adO,add_zero->pO,lt_or_ge->abE
open _root_.Array renaming getElem?_eq_none_iff->ad9
open Go.RowKit
def Qw (F:Fl) (i:Nat):List Nd:=aB (y7 F i).1 (y7 F i).2
theorem WO {F:Fl} {os:List Nat} {done:ByteArray} (h:DR (ay F) F.length os done):os.flatMap (Qw F)=jv (aZ F):=by
 rw [<-ace h,kN,abL,List.flatMap_def];rfl
theorem aad {l:Lb} (h:dz pR l=true):l.toList≠[]:=fun e=>by
 have:l=pR:=by
  rw [ByteArray.toList_eq] at e
  cases l;simp only at e
  congr
  exact Array.toList_inj.1 e
 rw [this,fP] at h
 cases h
theorem Ma (x:Nd) (F:Fl) (tl:Option Int) (V A:Option Addr) (cv ca:Nat) (vs:List (Option Addr×Nat×Nat)) (w:World) (hV:sQ w V vs F) (hA:aM w w.heap.size A (aP tl)) (hn:(ay F).Nodup) (hpos:∀l∈ay F,dz pR l=true) (h50:F.length<=50)
  (hlen:∀p∈F,(aB p.1 p.2).length<=19000000000):
  Calls Try.prog 100 #[.agg #[.int .i64 x.k,.string x.s,.int .i64 x.n],.slice V vs.length cv,.slice A (aP tl).length ca] w (jP w (⟨x.k,x.s,(F.length+(aP tl).length:Nat)⟩::(jv (aZ F)++aP tl))):=by
 have hvl:=hV.len;have hll:(ay F).length=F.length:=by unfold ay;rw [aaT]
 have HV:=aC (fun (w':World) (hb:Below w.heap.size w w')=>hV.below hb);have HAt:=aC (fun (w':World) (hb:Below w.heap.size w w')=>(hA.below hb).more hb.size);have Hlen:=aC hlen;have HN:=aC hn;have DU:=aC hll;have aeV:=aC (DR.start (ls:=ay F) fun i hi=>aad (hpos _ (by rw [Lx hi];exact List.getElem_mem _)));have hb0:=aC (ak (ak (aT w.heap.size w) (.cells #[.int .i64 x.k,.string x.s,.int .i64 (F.length:Int)] 48)) (.cells #[.int .i64 x.k,.string x.s,.int .i64 (F.length:Int)] 48));have hown0:=(rF (w.alloc (.cells #[.int .i64 x.k,.string x.s,.int .i64 (F.length:Int)] 48)) ⟨x.k,x.s,(F.length:Int)⟩).lower (base':=w.heap.size) (by simp);simp only [World.size_alloc] at hown0;have ahz:=aC hown0;obtain ⟨RES,Mc⟩:∃RES:List Nd,RES=⟨x.k,x.s,(F.length+(aP tl).length:Nat)⟩::(jv (aZ F)++aP tl):=⟨_,rfl⟩;rw [hvl,<-Mc];have TS:=aC Mc;clear hV hA hlen hn hll hpos hvl hown0 Mc;go_enter Try.func100,Try.ntmps100;go_wp2_with fail
 go_loopw [7,8,9] (fun s7 s8 s9 wr=>∃(k m:Nat) (A':Option Addr) (cap':Nat) (os:List Nat) (done:ByteArray) (out:List Nd),s7= .slice A' m cap'/\s8= .string done/\s9= .int .i64 k/\k<=F.length/\m<=1+k*19000000000/\Hid (fA wr w.heap.size A' cap' out/\Below w.heap.size w wr)/\
   Hid (m=out.length/\out=⟨x.k,x.s,(F.length:Int)⟩::os.flatMap (Qw F))/\Hid (DR (ay F) k os done)) (fun _ _ s9 _=>F.length-(intOf s9).toNat)
 case atStart=>exact ⟨0,1,_,_,[],_,_,rfl,rfl,rfl,h_ _,by omega,aC ⟨ahz.out,hb0.out⟩,aC ⟨rfl,rfl⟩,aeV⟩
 case round=>
  obtain ⟨k,m,A',cap',os,done,out,rfl,rfl,rfl,hk,hmk,M,hout,hsel⟩:=hrel;by_cases hlt:k<F.length
  ·go_wp2_with fail
   go_loopw [10,11] (fun s10 s11 w2=>∃(i q:Nat) (b:Int),s11= .int .i64 i/\i<=F.length/\s10= .int .i64 b/\w2=wr.drewN q/\Hid (b=ahn (xI (ay F) done i))) (fun _ s11 _=>F.length-(intOf s11).toNat)
   case atStart=>exact ⟨0,0, -1,rfl,h_ _,rfl,rfl,aC rfl⟩
   case round=>
    obtain ⟨i,q,b,rfl,hi,rfl,rfl,hb⟩:=hrel;by_cases hlt2:i<F.length
    ·obtain ⟨p,hp⟩:=aD hlt2
     obtain ⟨bv,ov,b2,o2,L2,c2,rfl,zb,_,_,L0,_,k1,z2,k2,_⟩:=(HV.out wr M.out.2).at_ hp;have hlab:lab (ay F) i=p.1:=by rw [Cn,uT hp]
     cases h1:dz done p.1
     ·have Hno:=aC (Ym (ls:=ay F) (i:=i) (by rw [hlab];exact h1))
      have hg:=ahp h1;generalize p.1=s at*;clear h1 hp hlab;rcases hg with hg|⟨hg,hg2⟩
      all_goals
       go_wp2_with fail;go_quiet (fail);go_wp2_with fail;go_roundw
       case rel=>exact ⟨i+1,_,b,by go_num,hlt2,rfl,rfl,aC (by rw [Hno.out];exact hb.out)⟩
       case measure=>simp [intOf];omega
     ·have h1':dz done (lab (ay F) i)=true:=by rw [hlab];exact h1
      cases h2:xI (ay F) done i with
      |none=>
       have hbn:b= -1:=by rw [hb.out,h2];rfl
       subst hbn;have Hno:=aC (Lv h1' h2);obtain ⟨hg,hg2⟩:=Qq h1;generalize p.1=s at*;clear h1 h2 h1' hp hlab;go_wp2_with fail;go_quiet (fail);go_wp2_with fail;go_roundw
       case rel=>exact ⟨i+1,_,(i:Int),by go_num,hlt2,rfl,rfl,aC (by rw [Hno.out];rfl)⟩
       case measure=>simp [intOf];omega
      |some j=>
       have hbn:b=(j:Int):=by rw [hb.out,h2];rfl
       subst hbn
       have hjn:j<F.length:=by
        have:=yZ (ay F) done i;rw [h2] at this;omega
       obtain ⟨pj,GA⟩:=aD hjn;obtain ⟨bv3,ov3,b3,o3,L3,c3,e3,_,_,_,L03,_,k13,z3,k23,_⟩:=(HV.out wr M.out.2).at_ GA;simp only [Option.some.injEq,Addr.mk.injEq,and_true] at e3;obtain ⟨rfl,rfl⟩:=e3;have Qx:lab (ay F) j=pj.1:=by rw [Cn,uT GA]
       have hj0:decide ((j:Int)<0)=false:=by simp
       cases h3:dz p.1 pj.1
       ·have Hno:=aC (OT h1' h2 (by rw [hlab,Qx];exact h3))
        obtain ⟨hg,hg2⟩:=Qq h1;unfold dz at h3;generalize p.1=s at*;generalize pj.1=sj at*;clear h1 h2 h1' hp hlab GA Qx;go_wp2_with fail;go_quiet (fail);go_wp2_with fail;go_roundw
        case rel=>exact ⟨i+1,_,(j:Int),by go_num,hlt2,rfl,rfl,aC (by rw [Hno.out];rfl)⟩
        case measure=>simp [intOf];omega
       ·have Hno:=aC (OQ h1' h2 (by rw [hlab,Qx];exact h3))
        obtain ⟨hg,hg2⟩:=Qq h1;unfold dz at h3;generalize p.1=s at*;generalize pj.1=sj at*;clear h1 h2 h1' hp hlab GA Qx;go_wp2_with fail;go_quiet (fail);go_wp2_with fail;go_roundw
        case rel=>exact ⟨i+1,_,(i:Int),by go_num,hlt2,rfl,rfl,aC (by rw [Hno.out];rfl)⟩
        case measure=>simp [intOf];omega
    ·have hin:i=(ay F).length:=by rw [DU.out];omega
     cases h2:xI (ay F) done i with
     |none=>
      exact absurd HN.out (hsel.out.twice (by rw [DU.out];exact hlt) (by rw [<-hin];exact h2))
     |some j=>
      have hbn:b=(j:Int):=by rw [hb.out,h2];rfl
      subst hbn
      have hjn:j<F.length:=by
       have:=yZ (ay F) done i;rw [h2] at this;omega
      have afY:=aC (hsel.out.step (by rw [<-hin];exact h2));obtain ⟨p,hp⟩:=aD hjn;obtain ⟨bv,ov,b2,o2,L2,c2,rfl,zb,_,hL2,L0,_,k1,z2,k2,Ng⟩:=(HV.out (wr.drewN q) (ah M.out.2 (iA _ _))).at_ hp;have hlab:lab (ay F) j=p.1:=by rw [Cn,uT hp]
      have hpl:=Hlen.out p (Yt hp)
      have BA:Hid ((out++aB p.1 p.2).length=m+L2/\out++aB p.1 p.2=⟨x.k,x.s,(F.length:Int)⟩::(os++[j]).flatMap (Qw F)):=aC ⟨by rw [A_,hout.out.1,hL2],by
       rw [List.flatMap_append,hout.out.2];simp [Qw,uT hp]⟩
      have HO:Hid (m=out.length):=aC hout.out.1;have HL2:=aC hL2;have Hta:=aC Ng;rw [<-hL2] at hpl;rw [hlab] at afY;clear h2 hb hp hlab Ng hL2 hout hsel;obtain ⟨P,hP⟩:∃P,P=aB p.1 p.2:=⟨_,rfl⟩;rw [<-hP] at BA HL2 Hta;clear hP;generalize p.1=s at*;go_wp2_with (at_builtin;refine eH rfl (.tmp 69) (.tmp 73) rfl w.heap.size (l:=out) (by rw [<-HO.out];rfl) (aA.drewN M.out.1 q) (l2:=P) (by rw [<-HL2.out];rfl) Hta.out (by rw [<-HO.out,<-HL2.out];omega) (ah M.out.2 (iA wr q)).size ?_;intro A2 cap2 w5 hown5 hg5 _;have M5:=aC (Gw hown5 (eG (ah M.out.2 (iA wr q)) hg5 (fun k hk=>(aA.block M.out.1 k hk).1)));clear hown5 hg5);go_roundw
      case rel=>exact ⟨k+1,m+L2,A2,cap2,os++[j],s,out++P,by rw [<-HO.out,<-HL2.out],rfl,by go_num,by omega,by omega,M5,aC ⟨BA.out.1.symm,BA.out.2⟩,afY⟩
      case measure=>simp [intOf];omega
  ·have hkn:k=F.length:=by omega
   have hS:=hsel.out;rw [hkn] at hS;have Yq:Hid (out=⟨x.k,x.s,(F.length:Int)⟩::jv (aZ F)):=aC (by rw [hout.out.2,WO hS]);have HO:Hid (m=out.length):=aC hout.out.1;clear hsel hout hS hkn;obtain ⟨y,hy⟩:∃y:Nd,y=⟨x.k,x.s,(F.length:Int)⟩:=⟨_,rfl⟩;have HY:=aC hy;obtain ⟨g,rfl,hbg,hgz,hcell,hfz,hown2,R9⟩:=aA.Fg M.out.1 (j:=0) (x:=y) (by rw [Yq.out,hy];rfl) ((F.length:Int)+1);have M2:=aC (Gw hown2 (M.out.2.grown R9 M.out.2.size (fun q hq=>by cases hq;exact hbg)));replace hcell:wr.cell? ⟨g,2,none⟩=some (.int .i64 (F.length:Int)):=by rw [hy] at hcell;simpa using hcell
   replace hfz:wr.frozen? ⟨g,2,none⟩=false:=by simpa using hfz
   have M2':Hid (fA (wr.setCell ⟨g,2,none⟩ (.int .i64 ((F.length:Int)+1))) w.heap.size (some ⟨g,0,none⟩) cap' (out.set 0 ⟨x.k,x.s,(F.length:Int)+1⟩)/\Below w.heap.size w (wr.setCell ⟨g,2,none⟩ (.int .i64 ((F.length:Int)+1)))):=aC (by
    have h:=M2.out;rw [HY.out] at h;simpa using h)
   have hm1:0<m:=by rw [HO.out,Yq.out];simp
   have hzw:=M2'.out.2.size;clear hown2 R9 M2 hy
   cases htl:aP tl with
   |nil=>
    have HTl:=aC htl;have e0:([]:List Nd).length=0:=rfl;rw [e0];go_wp2_with fail;go_ret
    have e:RES=out:=by
     rw [TS.out,Yq.out,HTl.out];simp
    rw [e]
    exact ⟨some ⟨g,0,none⟩,cap',by rw [HO.out];rfl,M.out.1,M.out.2⟩
   |cons z zs=>
    have HTl:=aC htl
    have hz1:(z::zs).length=1:=by
     rw [<-htl]
     cases tl with
     |none=>cases htl
     |some r=>rfl
    rw [hz1];have Hz1:=aC hz1;clear htl hz1;go_wp2_with (at_builtin;refine eH rfl (.tmp 85) (.tmp 86) rfl w.heap.size (l:=out.set 0 ⟨x.k,x.s,(F.length:Int)+1⟩) (by rw [IJ,<-HO.out];rfl) M2'.out.1 (l2:=z::zs) (by rw [Hz1.out];rfl) (B:=(wr.setCell ⟨g,2,none⟩ (.int .i64 ((F.length:Int)+1))).heap.size) (by have h:=HAt.out _ M2'.out.2;rw [HTl.out] at h;exact h) (by rw [IJ,<-HO.out,Hz1.out];omega) hzw ?_;intro A2 cap2 w5 hown5 hg5 _;have M5:=aC (Gw hown5 (eG M2'.out.2 hg5 (fun k hk=>(aA.block M2'.out.1 k hk).1)));clear hown5 hg5);go_ret
    have e:RES=out.set 0 ⟨x.k,x.s,(F.length:Int)+1⟩++z::zs:=by
     rw [TS.out,Yq.out,HTl.out,Hz1.out];simp
    rw [e];exact ⟨A2,cap2,by rw [A_,IJ,<-HO.out];rfl,M5.out.1,M5.out.2⟩
attribute [local go_sem ↓] Go.wp_at_zero Go.wp_at_succ
abbrev Qy (τ:Va) (fs:Fl) (tl:Option Int):Fl:=aI (inst τ) fs++(τ.tail tl).1
theorem acD {L:Sorts} {τ:Va} {s:Lb} {k n:Int} {fs:Fl} {tl:Option Int} (h:JV L τ s (.mk k n fs tl)) (hr:av k=true):
  (ay (Qy τ fs tl)).Nodup/\(∀l∈ay (Qy τ fs tl),dz pR l=true)/\(Qy τ fs tl).length<=50/\∀p∈Qy τ fs tl,(aB p.1 p.2).length<=19000000000:=by
 have wi:=h.wi;have li:=h.li;have k8:=(bJ hr).1;rw [aK,if_neg k8] at wi li;have wi:vR (.mk k n (aZ (Qy τ fs tl)) (τ.tail tl).2):=wi;have li:(aB s (.mk k n (aZ (Qy τ fs tl)) (τ.tail tl).2)).length<=19000000000:=li;generalize Qy τ fs tl=F at*
 have hlen:∀p∈F,(aB p.1 p.2).length<=19000000000:=fun p hp=>by
  have e1:=iP s k n (aZ (F)) (τ.tail tl).2;have e2:=qj (r:=av k) (dX.2 hp);rw [uy pR p.1] at e2;omega
 rcases wi with wi|wi
 ·rw [bU] at wi
  have hp:=eT (F);have h1:=wi.1.row hr;have h2:=wi.1.len hr;rw [kK] at h2;refine ⟨(List.Perm.nodup_iff (show (ay (aZ (F))).Perm (ay (F)) from hp.map _)).1 wi.1.nd,fun l hl=>uz (h1.2 l (kI.2 hl)),by omega,hlen⟩
 ·injection wi with _ _ e _
  have:F=[]:=by
   have:=congrArg RB e;rw [kK] at this;exact List.eq_nil_of_length_eq_zero this
  rw [this];exact ⟨List.nodup_nil,fun l hl=>(by cases hl),by simp,fun p hp=>(by cases hp)⟩
def wX (r:Bool) (τ:Va) (fs:Fl) (i:Nat):List (List Nd):=((fs.take i).map fun p=>aB (if r=true then p.1 else pR) (inst τ p.2))++(fs.drop i).map fun p=>aB (if r=true then p.1 else pR) p.2
theorem TU (r:Bool) (τ:Va) (fs:Fl):wX r τ fs 0=fs.map fun p=>aB (if r=true then p.1 else pR) p.2:=by simp [wX]
theorem aae {r:Bool} {τ:Va} {fs:Fl} {i:Nat} {p:Lb×Ut} (h:fs[i]?=some p):(wX r τ fs i)[i]?=some (aB (if r=true then p.1 else pR) p.2):=by
 have hi:=bf h;unfold wX;rw [zA (by simp;omega),adg,List.getElem?_drop,aaT,zH,show i+(i-min i fs.length)=i by omega,h];rfl
theorem TV {r:Bool} {τ:Va} {fs:Fl} {i:Nat} {p:Lb×Ut} (h:fs[i]?=some p):(wX r τ fs i).set i (aB (if r=true then p.1 else pR) (inst τ p.2))=wX r τ fs (i+1):=by
 have hi:=bf h;have hd:fs.drop i=p::fs.drop (i+1):=drop_cons h;unfold wX;rw [hd,GZ,h];simp only [List.map_cons,Option.toList_some,abl,List.map_nil,List.append_assoc,Gx,List.nil_append];rw [List.set_append_right _ _ (by simp;omega),aaT,zH,show i-min i fs.length=0 by omega,List.set_cons_zero]
theorem WQ (r:Bool) (τ:Va) (fs:Fl):wX r τ fs fs.length=(aI (inst τ) fs).map fun p=>aB (if r=true then p.1 else pR) p.2:=by
 unfold wX aI;rw [List.take_length,List.drop_length,abL];simp
structure TW (V A3:Option Addr) (tl:Option Int) (w:World):Prop where
 t:aM w w.heap.size A3 (aP tl)
 off:Off A3 V
theorem TW.step {V A3:Option Addr} {tl:Option Int} {w w':World} (h:TW V A3 tl w) (hb:Below w.heap.size w w'):TW V A3 tl w':=⟨(h.t.below hb).more hb.size,h.off⟩
theorem TW.kept {V A3:Option Addr} {tl:Option Int} {w w':World} {g:Nat} (h:TW V A3 tl w) (hV:V=some ⟨g,0,none⟩) (hg:w.grownBy w' (some g)):TW V A3 tl w':=
 ⟨h.t.nP hg fun k hk a ha e=>by cases hk;exact h.off a _ ha hV e,h.off⟩
abbrev ajP (first next:Int) (Q:Option Addr) (cq:Nat) (vs:List QV) (L:Sorts) (τ:Va) (kd:Int->Int) (ns:List Int) (fs:Fl):Prop:=
 ∀p∈fs,∀(l:Lb) (A:Option Addr) (c:Nat) (v:World),lD vs Q (jl L τ kd) ns v->aM v v.heap.size A (aB l p.2)->(aB l p.2).length<=c->JV L τ l p.2->
  Calls Try.prog 56 #[bS first next Q vs.length cq,.slice A (aB l p.2).length c] v (jP v (aB l (inst τ p.2)))
theorem TY (first next:Int) (Q:Option Addr) (cq:Nat) (vs:List QV) (L:Sorts) (τ:Va) (kd:Int->Int) (ns:List Int) (hT:Ac L τ kd ns) (hl:vs.length<=1000000) (k n:Int) (fs:Fl) (tl:Option Int) (s:Lb) (A:Option Addr) (c:Nat) (w:World)
  (hM:lD vs Q (jl L τ kd) ns w) (ha:aM w w.heap.size A (aB s (.mk k n fs tl))) (hc:(aB s (.mk k n fs tl)).length<=c) (h8:k≠8) (hK:JV L τ s (.mk k n fs tl)) (ih:ajP first next Q cq vs L τ kd ns fs):
  Calls Try.prog 56 #[bS first next Q vs.length cq,.slice A (aB s (.mk k n fs tl)).length c] w (jP w (aB s (inst τ (.mk k n fs tl)))):=by
 have Md:=aC (fun (v:World) (hb:Below w.heap.size w v)=>jm hK.wf s A c v ((ha.below hb).more hb.size) (by have:=hK.len;omega) hc);have Md:Hid (∀v,Below w.heap.size w v->Calls Try.prog 97 #[.slice A (aB s (.mk k n fs tl)).length c] v (pJ (av k) fs tl v)):=Md;obtain ⟨ks,N0,hx⟩:=Cu s (.mk k n fs tl);have HX0:=aC hx;have h80:(k==8)=false:=by simpa using h8
 obtain ⟨b1,o1,rfl,hb1,c10,c11,c12⟩:=ha.at_ (i:=0) (x:=⟨k,s,N0⟩) (by rw [hx];rfl);simp only [adO,pO] at c10 c11 c12;have HC:Hid (∀v,Below w.heap.size w v->v.cell? ⟨b1,o1,none⟩=some (.int .i64 k)/\v.cell? ⟨b1,o1+1,none⟩=some (.string s)/\v.cell? ⟨b1,o1+2,none⟩=some (.int .i64 N0)):=aC fun v hb=>⟨(hb.cell (p:=⟨b1,o1,none⟩) hb1).trans c10,(hb.cell (p:=⟨b1,o1+1,none⟩) hb1).trans c11,(hb.cell (p:=⟨b1,o1+2,none⟩) hb1).trans c12⟩;have HM:=aC (fun (v:World) (hb:Below w.heap.size w v)=>hM.step hb);have HK:=aC hK;have zi:=aC ih;have HT:=aC hT
 have ajQ:fs.length<=1000000:=by
  have h1:=iP s k n fs tl;have h2:=qF (r:=av k) (fs:=fs);have:=hK.len;omega
 have T9:0<(aB s (.mk k n fs tl)).length:=oV s _;clear hM ha hK ih hT hx hc;generalize Wh:(aB s (.mk k n fs tl)).length=LL at*;have B0:=aC (ak (aT w.heap.size w) (.cells #[.int .i64 first,.int .i64 next,.slice Q vs.length cq] 29));obtain ⟨RES,Mc⟩:∃RES,RES=aB s (inst τ (.mk k n fs tl)):=⟨_,rfl⟩;rw [<-Mc];have TS:=aC Mc;clear Wh Mc;go_enter Try.func56,Try.ntmps56;go_wp2_with fail;refine (Md.out _ B0.out).mono ?_;rintro e w1 ⟨V,cv,us0,A3,c3,rfl,h1,h2,h3,h4,h5,h6,h7,h8',h9⟩;have hu0:us0.length=fs.length:=by rw [h2.1,aaT]
 obtain ⟨wb,hwb⟩:∃wb,wb=w.alloc (.cells #[.int .i64 first,.int .i64 next,.slice Q vs.length cq] 29):=⟨_,rfl⟩;have hbx:wb.heap[w.heap.size]?=some (.cells #[.int .i64 first,.int .i64 next,.slice Q vs.length cq] 29 (0,0)):=by rw [hwb];exact heap_alloc_new w _
 rw [<-hwb] at h1 h5 B0;rw [hu0]
 have Cv:Hid (∀v,Below wb.heap.size wb v->v.cell? ⟨w.heap.size,0,none⟩=some (.int .i64 first)/\v.cell? ⟨w.heap.size,1,none⟩=some (.int .i64 next)/\v.cell? ⟨w.heap.size,2,none⟩=some (.slice Q vs.length cq)):=aC fun v hb=>by
  have hz:w.heap.size<wb.heap.size:=by rw [hwb];simp
  have e:v.heap[w.heap.size]?=some (.cells #[.int .i64 first,.int .i64 next,.slice Q vs.length cq] 29 (0,0)):=(hb.block _ hz).trans hbx;exact ⟨by simp [adw,e],by simp [adw,e],by simp [adw,e]⟩
 have M0:Hid (vk wb V cv us0 (wX (av k) τ fs 0) w1/\TW V A3 tl w1/\us0.length=fs.length):=aC ⟨by rw [TU];exact nG h1 h2 h4 h5 h6,⟨h3,h7⟩,hu0⟩;have HB1:=aC h5;clear hwb hbx h1 h2 h3 h4 h5 h6 h7 h8' h9 Md hu0 c10 c11 c12;go_wp2_with fail;go_loopw [10] (fun s10 wr=>∃(i:Nat) (us:List (Option Addr×Nat×Nat)),s10= .int .i64 i/\i<=fs.length/\Hid (vk wb V cv us (wX (av k) τ fs i) wr/\TW V A3 tl wr/\us.length=fs.length)) (fun s10 _=>fs.length-(intOf s10).toNat)
 case atStart=>exact ⟨0,us0,rfl,h_ _,M0⟩
 case round=>
  clear M0;obtain ⟨i,us,rfl,hi,M⟩:=hrel;by_cases hp:i<fs.length
  ·obtain ⟨p,hpq⟩:=aD hp
   have hmem:=Yt hpq;obtain ⟨kt,klt⟩:=HK.out.child h8 hmem (if av k=true then p.1 else pR);obtain ⟨v,hv⟩:=aD (show i<us.length by rw [M.out.2.2];exact hp);obtain ⟨g,eV,_,_,_⟩:=aA.form M.out.1.own (by rw [M.out.2.2];omega);subst eV;obtain ⟨gx,ov,e1,zb,hcv⟩:=aX.slice (aA.read jq M.out.1.own) hv;simp only [Option.some.injEq,Addr.mk.injEq,and_true] at e1;obtain ⟨rfl,rfl⟩:=e1;rw [Nat.zero_add] at hcv;obtain ⟨e2,ht2⟩:=M.out.1.wK.2 i v _ hv (aae hpq);have hcap:=M.out.1.cap v (Yt hv);rw [e2] at hcv hcap;have hBw:Below w.heap.size w wr:=ah B0.out M.out.1.aU
   have hI:Hid (∀v',Below wr.heap.size wr v'->Calls Try.prog 56 #[bS first next Q vs.length cq,.slice v.1 (aB (if av k=true then p.1 else pR) p.2).length v.2.2] v' (jP v' (aB (if av k=true then p.1 else pR) (inst τ p.2)))):=aC fun v' hb=>
    zi.out p hmem _ v.1 v.2.2 v' (HM.out v' (ah hBw hb)) ((ht2.below hb).more hb.size) hcap kt
   have HS:=aC (TV (r:=av k) (τ:=τ) hpq);have ao1:=aC hmem;obtain ⟨d1,d2,d3⟩:=Cv.out wr M.out.1.aU
   have hzw:w.heap.size<wr.heap.size:=by
    have:=B0.out.size;have h3:=M.out.1.aU.size
    have h4:w.heap.size<wb.heap.size:=by
     rcases abE w.heap.size wb.heap.size with h|h
     ·exact h
     ·exfalso
      obtain ⟨q1,_,_⟩:=Cv.out wb (aT _ _);have:wb.heap[w.heap.size]?=none:=by rw [ad9];exact h
      simp [adw,this] at q1
    omega
   obtain ⟨P,hP⟩:∃P,P=aB (if av k=true then p.1 else pR) p.2:=⟨_,rfl⟩;obtain ⟨R,hR⟩:∃R,R=aB (if av k=true then p.1 else pR) (inst τ p.2):=⟨_,rfl⟩;have ajR:Hid (R≠[]):=aC (by rw [hR];exact zZ _ _);rw [<-hP] at hI hcv;rw [<-hR] at hI HS;clear hpq hmem kt klt e2 ht2 hcap hP hR hv;go_wp2_with fail
   go_region_law
    (first
     |(go_simp;(with_reducible refine (hI.out _ ?_).mono ?_);(first|exact aT _ _|exact (aT _ _).drew);rintro e w5 ⟨A5,c5,rfl,hown5,hb5⟩;have hb6:Below wr.heap.size wr w5:=(by first|exact hb5|exact ah (aT _ _).drew hb5);have hlo:∀a,A5=some a->wr.heap.size<=a.block:=(fun a ha=>(aA.lt hown5 a ha).1);obtain ⟨g',hg',afZ,⟨m',hm',hcm'⟩,hfz',S5⟩:=(M.out.1.step hb6).set (j:=i) (by rw [M.out.2.2];exact hp) (aA.g_ hown5) ajR.out (aA.cZ hown5) (fun a b ha hb e=>by have:=hlo a ha;injection hb with hb;subst hb;have e:a.block=g:=e;omega);injection hg' with hg';injection hg' with hg';subst hg';have S6:=aC S5;have T5:=aC (M.out.2.1.step hb6);have ao2:g<w5.heap.size:=afZ;clear hown5 hb5 hb6 hlo hm' S5 afZ;dsimp only))
   all_goals
    go_wp2_with fail;go_roundw
    case rel=>exact ⟨i+1,us.set i (A5,R.length,c5),by go_num,hp,aC ⟨by rw [<-HS.out];exact S6.out.1,T5.out.kept rfl S6.out.2,by rw [IJ];exact M.out.2.2⟩⟩
    case measure=>simp [intOf];omega
  ·have hin:i=fs.length:=by omega
   subst hin;rw [WQ] at M;have hBw:Hid (Below w.heap.size w wr):=aC (ah B0.out M.out.1.aU);obtain ⟨c10,c11,c12⟩:=HC.out wr hBw.out;have Yp:b1<wr.heap.size:=vv hb1 hBw.out.size;have hgl:(aI (inst τ) fs).length=fs.length:=fO _ _
   cases hr:av k with
   |false=>
    have AZ:(k !=6)=true/\(k !=7)=true:=by
     unfold av at hr;simp only [Bool.or_eq_false_iff] at hr;exact ⟨by simpa using hr.1,by simpa using hr.2⟩
    obtain ⟨k6,k7⟩:=AZ
    have HF0:Hid (aB s (.mk k n fs tl)=⟨k,s,n⟩::nV fs/\aB s (inst τ (.mk k n fs tl))=⟨k,s,n⟩::nV (aI (inst τ) fs)):=aC ⟨by rw [bY,hr,if_neg (by simp)],by
     have hsh:=HK.out.sh;rw [iV] at hsh;rw [ZV hsh.1 h8 hr,bY,hr,if_neg (by simp)]⟩
    have hN0:N0=n:=by
     have h:=HX0.out;rw [HF0.out.1] at h;injection h with h _
     injection h with _ _ h
     exact h.symm
    subst hN0;obtain ⟨G,hG⟩:∃G,G=aI (inst τ) fs:=⟨_,rfl⟩;have hli:=HK.out.li;rw [HF0.out.2,<-hG,Bl] at hli;rw [hr,<-hG] at M;rw [<-hG] at HF0 hgl
    have Hlen:Hid (∀i,(nV (G.take i)).length<=18999999999):=aC fun i=>by
     have:=Qk false G i;unfold jU at this;rw [if_neg (by simp),if_neg (by simp)] at this;omega
    have hown0:=aC (rF wr ⟨k,s,N0⟩);obtain ⟨H0,hH0⟩:∃H0,H0=wr.heap.size:=⟨_,rfl⟩;have HH0:=aC hH0;rw [<-hH0] at hown0;have HB8:=aC (ak (aT wr.heap.size wr) (.cells #[.int .i64 k,.string s,.int .i64 N0] 48));have Hgl:=aC hgl;clear hG hr hli;go_wp2_with fail;go_loopw [11,12] (fun s11 s12 wq=>∃(i:Nat) (A5:Option Addr) (c5:Nat) (out:List Nd),s11= .slice A5 out.length c5/\s12= .int .i64 i/\i<=fs.length/\Hid (out=⟨k,s,N0⟩::nV (G.take i))/\Hid (fA wq H0 A5 c5 out/\Below wr.heap.size wr wq)) (fun _ s12 _=>fs.length-(intOf s12).toNat)
    case atStart=>exact ⟨0,some ⟨wr.heap.size,0,none⟩,1,[⟨k,s,N0⟩],by first|rfl|(rw [HH0.out];rfl),rfl,h_ _,aC (by rw [List.take_zero,gH]),aC ⟨by have h:=hown0.out;rw [HH0.out] at h ⊢;exact h,HB8.out⟩⟩
    case round=>
     obtain ⟨i,A5,c5,out,rfl,rfl,hi2,hout,N⟩:=hrel;by_cases hp2:i<fs.length
     ·obtain ⟨q,hq⟩:=aD (show i<G.length by rw [Hgl.out];exact hp2)
      obtain ⟨v,hv⟩:=aD (show i<us.length by rw [M.out.2.2];exact hp2);have M1:=M.out.1.step N.out.2;obtain ⟨gb,go,rfl,zb,hcv⟩:=aX.slice (aA.read jq M1.own) hv;obtain ⟨e2,ht2⟩:=M1.wK.2 i v (aB pR q.2) hv (by rw [adg,hq];rfl);rw [e2] at hcv
      have hst:Hid (out++aB pR q.2=⟨k,s,N0⟩::nV (G.take (i+1))):=aC (by
       have h:=Ho (r:=false) hq;unfold jU at h;simp only [Bool.false_eq_true,if_false] at h;rw [h,hout.out];rfl)
      have hlen:out.length+(aB pR q.2).length<=19000000000:=by
       have h:=congrArg RB hst.out;have h2:=Hlen.out (i+1);rw [A_,Bl] at h;omega
      have HT2:=aC ht2;obtain ⟨P,hP⟩:∃P,P=aB pR q.2:=⟨_,rfl⟩;rw [<-hP] at hst hlen HT2 hcv;clear hq hv M1 e2 ht2 hP;go_wp2_with (at_builtin;refine eH rfl (.tmp 89) (.tmp 93) rfl H0 (l:=out) rfl N.out.1 (l2:=P) rfl HT2.out (by omega) (by rw [HH0.out];exact N.out.2.size) ?_;intro A7 c7 w7 oH vo _;replace N:=aC (Gw oH (eG N.out.2 vo (fun k hk=>by rw [<-HH0.out];exact (aA.block N.out.1 k hk).1)));clear oH vo);go_roundw
      case rel=>exact ⟨i+1,A7,c7,out++P,by simp,by go_num,hp2,hst,N⟩
      case measure=>simp [intOf];omega
     ·have e:Hid (⟨k,s,N0⟩::nV G=out):=aC (by rw [hout.out,List.take_of_length_le (by rw [Hgl.out];omega)])
      go_wp2_with fail;go_ret;have e2:RES=out:=by rw [TS.out,HF0.out.2,e.out]
      rw [e2]
      exact ⟨A5,c5,rfl,N.out.1.lower (by rw [HH0.out];exact hBw.out.size),ah hBw.out N.out.2⟩
   |true=>
    have hkk:(k !=6)=false\/((k !=6)=true/\(k !=7)=false):=by
     unfold av at hr;simp only [Bool.or_eq_true,beq_iff_eq] at hr;rcases hr with e|e
     ·exact .inl (by rw [e];rfl)
     ·exact .inr (by rw [e];exact ⟨rfl,rfl⟩)
    have mD:Hid (∀(V' A':Option Addr) (cv' Nu:Nat) (us':List (Option Addr×Nat×Nat)) (tl':Option Int) (F:Fl) (v:World),sQ v V' us' F->aM v v.heap.size A' (aP tl')->F=Qy τ fs tl->(τ.tail tl).2=tl'->
      Calls Try.prog 100 #[.agg #[.int .i64 k,.string s,.int .i64 N0],.slice V' us'.length cv',.slice A' (aP tl').length Nu] v (jP v RES)):=aC fun V' A' cv' Nu us' tl' F v h1 h2 h3 h4=>by
     obtain ⟨q1,q2,q3,q4⟩:=acD HK.out hr;rw [<-h3] at q1 q2 q3 q4;have h:=Ma ⟨k,s,N0⟩ F tl' V' A' cv' Nu us' v h1 h2 q1 q2 q3 q4
     have e:RES=⟨k,s,(F.length+(aP tl').length:Nat)⟩::(jv (aZ F)++aP tl'):=by
      rw [TS.out,aK,if_neg h8,bY,if_pos hr,h4,kK];show _=_;rw [show aI (inst τ) fs++(τ.tail tl).1=F from h3.symm]
     rw [e];exact h
    rw [hr] at M;have hFG:Hid (sQ wr V us (aI (inst τ) fs)):=aC M.out.1.JU;have DT:us.length=fs.length:=M.out.2.2
    cases tl with
    |none=>
     have h0:=aC (mD.out V A3 cv c3 us none _ wr hFG.out M.out.2.1.t (by simp [Va.tail]) rfl);rw [DT] at h0;have e0:(aP none).length=0:=rfl;rw [e0] at h0 ⊢;clear mD M hFG DT HK zi HT HM HX0 ajQ Md HB1 Cv;rcases hkk with k6|⟨k6,k7⟩
     all_goals
      go_wp2_with fail;refine h0.out.mono ?_;rintro e w9 ⟨A9,c9,rfl,h1,h2⟩;go_wp2_with fail;go_ret;refine ⟨A9,c9,?_,?_,?_⟩
      rotate_left
      ·exact aA.lower h1 hBw.out.size
      ·exact ah hBw.out h2
      ·rfl
    |some p=>
     have e0:(aP (some p)).length=1:=rfl;rw [e0];obtain ⟨bt,ot,e3,zt,_,_,ct2⟩:=M.out.2.1.t.at_ (i:=0) (x:=⟨9,pR,p⟩) rfl;subst e3;simp only [adO,pO] at ct2;obtain ⟨d1,d2,d3⟩:=Cv.out wr M.out.1.aU;have hok:=HK.out.ok;rw [bK] at hok;obtain ⟨ls,af0,_⟩:=hok.1.2.2.2.2 p rfl;have HLp:=aC af0;clear hok af0;by_cases hin:p∈ns
     ·have HF:=aC (fun (v:World) (hb:Below wr.heap.size wr v)=>TR first next Q cq vs (jl L τ kd) ns p wr v (HM.out v (ah hBw.out hb)) hl hb hin)
      have hu:jl L τ kd p= .mk (kd p) 0 (τ.t p).1 (τ.t p).2:=by unfold jl;rw [HLp.out]
      obtain ⟨hwR,hrow⟩:=HT.out.wt p hin ls HLp.out;have hUl:=HT.out.len p hin;rw [hu] at HF hUl
      have hnx:(τ.t p).1.length<=700000:=by
       have h1:=iP pR (kd p) 0 (τ.t p).1 (τ.t p).2;have h2:=qF (r:=av (kd p)) (fs:=(τ.t p).1);omega
      obtain ⟨U,hU⟩:∃U,U=aB pR (.mk (kd p) 0 (τ.t p).1 (τ.t p).2):=⟨_,rfl⟩
      have HKD:Hid (∀(A c) (v:World),aM v v.heap.size A U->U.length<=c->Calls Try.prog 97 #[.slice A U.length c] v (pJ true (τ.t p).1 (τ.t p).2 v)):=aC fun A c v h1 h2=>by
       rw [hU] at h1 h2 ⊢;have h:=jm hwR pR A c v h1 (by omega) h2;have e:av (Ut.mk (kd p) 0 (τ.t p).1 (τ.t p).2).k=true:=hrow;rw [e] at h;exact h
      rw [<-hU] at HF;obtain ⟨TF,hTF⟩:∃TF,TF=(τ.t p).1:=⟨_,rfl⟩;obtain ⟨TT,wY⟩:∃TT,TT=(τ.t p).2:=⟨_,rfl⟩;have HTF:Hid (Qy τ fs (some p)=aI (inst τ) fs++TF/\(τ.tail (some p)).2=TT):=aC ⟨by rw [hTF];rfl,by rw [wY];rfl⟩;rw [<-hTF,<-wY] at HKD;rw [<-hTF] at hnx;have HC2:Hid (∀v,Below wr.heap.size wr v->v.cell? ⟨b1,o1,none⟩=some (.int .i64 k)/\v.cell? ⟨b1,o1+1,none⟩=some (.string s)/\v.cell? ⟨b1,o1+2,none⟩=some (.int .i64 N0)):=aC fun v hb=>HC.out v (ah hBw.out hb)
      have ajZ:w.heap.size<wr.heap.size:=by
       rcases abE w.heap.size wr.heap.size with h|h
       ·exact h
       ·exfalso
        have:wr.heap[w.heap.size]?=none:=by rw [ad9];exact h
        simp [adw,this] at d1
      have M1:=aC M.out.1;have Hul:=aC DT;clear hU hTF wY hu hwR hrow hUl M hFG DT;rcases hkk with k6|⟨k6,k7⟩
      all_goals
       go_wp2_with fail
       go_region_law
        (first
         |(go_simp;(with_reducible refine (HF.out _ ?_).mono ?_);(first|exact aT _ _|exact (aT _ _).drew);rintro e w6 ⟨A6,c6,rfl,hX⟩;dsimp only))
       all_goals
        go_wp2_with fail;refine (HKD.out A6 c6 w6 hX.out.1 hX.out.2.1).mono ?_;rintro e w7 ⟨V4,cv4,sD,A4,c4,rfl,g1,g2,g3,g4,g5,g6,g7,g8,g9⟩;have M7:=M1.out.step (ah hX.out.2.2 g5);have hVl:∀a,V=some a->a.block<w6.heap.size:=fun a ha=>vv (aA.lt M1.out.own a ha).2 hX.out.2.2.size;have K4:=nG g1 g2 g4 g5 g6;have JX:Hid (sD.length=TF.length):=aC (by rw [g2.1,aaT]);have hw7:wb.heap.size<=w7.heap.size:=M7.aU.size;have ahE:us.length+sD.length<=10000000:=by rw [Hul.out,JX.out];omega
        have HO7:=aC M7.own
        have HG8:Hid (∀w8,w7.grownBy w8 ((aO V us.length cv).ownBlock)->Hid (Below w.heap.size w w8)/\w8.cell? ⟨b1,o1,none⟩=some (.int .i64 k)/\w8.cell? ⟨b1,o1+1,none⟩=some (.string s)/\w8.cell? ⟨b1,o1+2,none⟩=some (.int .i64 N0)/\b1<w8.heap.size):=aC fun w8 hg=>by
         have hb:Below w.heap.size w w8:=eG (ah hBw.out (ah hX.out.2.2 g5)) hg (fun q hq=>Nat.le_trans B0.out.size (aA.block M7.own q hq).1);obtain ⟨a,b,c⟩:=HC.out w8 hb;exact ⟨aC hb,a,b,c,vv hb1 hb.size⟩
        have HR7:=aC (aA.read jq K4.own);have H7:=aC (Gw M7 (Gw K4 (Gw g3 (Gw g8 (Gw g9 (Gw hVl (ah hX.out.2.2 g5)))))));clear g1 g2 g3 g4 g5 g6 g7 g8 g9 M7 K4 hVl;have ao3:b1<w7.heap.size:=vv Yp H7.out.2.2.2.2.2.2.size;obtain ⟨q1,q2,q3⟩:=HC2.out w7 H7.out.2.2.2.2.2.2;go_wp2_with (at_builtin;refine mV rfl (.tmp 114) (.tmp 115) rfl wb.heap.size (l:=us) (congrArg (fun n=>aO V n cv) Hul.out.symm) HO7.out (l2:=sD) rfl HR7.out ahE hw7 ?_;intro V8 cv8 w8 mK oO qp;obtain ⟨HB8,q18,q28,q38,hz8⟩:=HG8.out w8 oO;have H8:=aC (Gw mK (Gw oO qp));clear mK oO qp);have M8:=vk.app H7.out.1 H7.out.2.1.wK H7.out.2.1.cap (fun v hv a b ha hb e=>by have h1:=H7.out.2.2.2.1 v hv a ha;have h2:=H7.out.2.2.2.2.2.1 b hb;omega) H7.out.2.1.lt H8.out.1 H8.out.2.1 H8.out.2.2
        have T8:aM w8 w8.heap.size A4 (aP TT):=aM.nP H7.out.2.2.1 H8.out.2.1 (fun q hk a ha e=>by
         obtain ⟨b,hb,hbe⟩:=bA hk;have h1:=H7.out.2.2.2.2.1 a ha;have h2:=H7.out.2.2.2.2.2.1 b hb;omega)
        have F8:sQ w8 V8 (us++sD) (aI (inst τ) fs++TF):=by
         refine ⟨aA.read jq M8.own,?_,M8.cap⟩;have h:=M8.wK;unfold yC;rw [abl];exact h
        have h0:=mD.out V8 A4 cv8 c4 (us++sD) TT (aI (inst τ) fs++TF) w8 F8 T8 HTF.out.1.symm HTF.out.2;rw [A_] at h0;refine h0.mono ?_;rintro e w9 ⟨A9,c9,rfl,h1,h2⟩;clear M8 T8 F8 h0;go_wp2_with fail;go_ret;refine ⟨A9,c9,?_,?_,?_⟩
        rotate_left
        ·exact aA.lower h1 HB8.out.size
        ·exact ah HB8.out h2
        ·rfl
     ·have HF:=aC (fun (v:World) (hb:Below wr.heap.size wr v)=>O8 first next Q cq vs (jl L τ kd) ns p wr v (HM.out v (ah hBw.out hb)) hl hb hin)
      have ht:=HT.out.t p hin ls HLp.out
      have h0:Hid (∀v,Below wr.heap.size wr v->Calls Try.prog 100 #[.agg #[.int .i64 k,.string s,.int .i64 N0],.slice V fs.length cv,.slice (some ⟨bt,ot,none⟩) 1 c3] v (jP v RES)):=aC fun v hb=>by
       rw [<-DT];exact mD.out V (some ⟨bt,ot,none⟩) cv c3 us (some p) _ v (hFG.out.below hb) ((M.out.2.1.step hb).t) (by show _=aI (inst τ) fs++(τ.t p).1;rw [ht];simp) (by show (τ.t p).2=_;rw [ht])
      have HC2:Hid (∀v,Below wr.heap.size wr v->v.cell? ⟨b1,o1,none⟩=some (.int .i64 k)/\v.cell? ⟨b1,o1+1,none⟩=some (.string s)/\v.cell? ⟨b1,o1+2,none⟩=some (.int .i64 N0)):=aC fun v hb=>HC.out v (ah hBw.out hb);clear mD M hFG
      have ajZ:w.heap.size<wr.heap.size:=by
       rcases abE w.heap.size wr.heap.size with h|h
       ·exact h
       ·exfalso
        have:wr.heap[w.heap.size]?=none:=by rw [ad9];exact h
        simp [adw,this] at d1
      rcases hkk with k6|⟨k6,k7⟩
      all_goals
       go_wp2_with fail
       go_region_law
        (first
         |(go_simp;(with_reducible refine (HF.out _ ?_).mono ?_);(first|exact aT _ _|exact (aT _ _).drew);rintro e w6 ⟨rfl,hX⟩;dsimp only))
       all_goals
        obtain ⟨q1,q2,q3⟩:=HC2.out w6 hX.out;have ao6:b1<w6.heap.size:=vv Yp hX.out.size;go_wp2_with fail;refine (h0.out w6 hX.out).mono ?_;rintro e w9 ⟨A9,c9,rfl,h1,h2⟩;go_wp2_with fail;go_ret;refine ⟨A9,c9,?_,?_,?_⟩
        rotate_left
        ·exact aA.lower h1 (Nat.le_trans hBw.out.size hX.out.size)
        ·exact ah (ah hBw.out hX.out) h2
        ·rfl
theorem m_ (first next:Int) (Q:Option Addr) (cq:Nat) (vs:List QV) (L:Sorts) (τ:Va) (kd:Int->Int) (ns:List Int) (hT:Ac L τ kd ns) (hl:vs.length<=1000000) (N:Nat):∀(t:Ut) (s:Lb) (A:Option Addr) (c:Nat) (w:World),(aB s t).length<=N->
  lD vs Q (jl L τ kd) ns w->aM w w.heap.size A (aB s t)->(aB s t).length<=c->JV L τ s t->
  Calls Try.prog 56 #[bS first next Q vs.length cq,.slice A (aB s t).length c] w (jP w (aB s (inst τ t))):=by
 induction N with
 |zero=>
  intro t s A c w hN;have:=oV s t
  omega
 |succ N ih=>
  intro t s A c w hN hM ha hc hK;obtain ⟨k,n,fs,tl⟩:=t;by_cases h8:k=8
  ·obtain ⟨e,hn⟩:=jK hK.ok h8
   rw [e] at ha ⊢;rw [aW];exact L_ first next Q cq vs L τ kd ns hT hl n s A c w hM ha hn
  ·refine TY first next Q cq vs L τ kd ns hT hl k n fs tl s A c w hM ha hc h8 hK fun p hp l A' c' v hM' ha' hc' hK'=>?_
   exact ih p.2 l A' c' v (by have:=(hK.child h8 hp l).2;omega) hM' ha' hc' hK'
theorem Qz (first next:Int) (Q:Option Addr) (nq cq:Nat) (A:Option Addr) (c:Nat) (xs:List Nd) (w:World) (ha:aM w w.heap.size A xs) (hl:xs.length<=1000000) (h0:0<=next) (h1:next<=1000000):
  Calls Try.prog 94 #[bS first next Q nq cq,.slice A xs.length c] w fun e w'=>∃A' c',e= .returned (.tuple #[bS first (next+(jc xs:Nat)) Q nq cq,.slice A' (gG next xs).length c'])/\fA w' w.heap.size A' c' (gG next xs)/\Below w.heap.size w w':=by
 have HF:=aC (fun (v:World) (hb:Below w.heap.size w v)=>Si A c xs next v ((ha.below hb).more hb.size) hl h0 h1);clear ha;go_enter Try.func94,Try.ntmps94;go_wp2_with fail;obtain ⟨wa,gF⟩:∃wa,wa=(w.alloc (.cells #[.int .i64 first,.int .i64 next,.slice Q nq cq] 29)).alloc (.cells #[.int .i64 0,.int .i64 0,.slice none 0 0] 29):=⟨_,rfl⟩;have hba:Below w.heap.size w wa:=by rw [gF];exact ak (ak (aT _ _) _) _
 have hza:wa.heap.size=w.heap.size+2:=by rw [gF];simp
 have h1a:wa.heap[w.heap.size]?=some (.cells #[.int .i64 first,.int .i64 next,.slice Q nq cq] 29 (0,0)):=by
  rw [gF];exact (adM _ _ w.heap.size (by simp)).trans (heap_alloc_new w _)
 have T_:wa.heap[w.heap.size+1]?=some (.cells #[.int .i64 0,.int .i64 0,.slice none 0 0] 29 (0,0)):=by
  rw [gF];have hz1:(w.alloc (.cells #[.int .i64 first,.int .i64 next,.slice Q nq cq] 29)).heap.size=w.heap.size+1:=by simp
  rw [<-hz1];exact heap_alloc_new _ _
 rw [<-gF];refine (HF.out wa hba).mono ?_;rintro e w2 ⟨A',c',rfl,hown,hb⟩;have e1:=(hb.block w.heap.size (by omega)).trans h1a;have e2:=(hb.block (w.heap.size+1) (by omega)).trans T_;have hz2:w.heap.size+2<=w2.heap.size:=by rw [<-hza];exact hb.size
 have a0:w2.cell? ⟨w.heap.size,0,none⟩=some (.int .i64 first):=by simp [adw,e1]
 have a1:w2.cell? ⟨w.heap.size,1,none⟩=some (.int .i64 next):=by simp [adw,e1]
 have a2:w2.cell? ⟨w.heap.size,2,none⟩=some (.slice Q nq cq):=by simp [adw,e1]
 have a3:w2.frozen? ⟨w.heap.size,1,none⟩=false:=by simp [ad6,e1]
 have b0:w2.cell? ⟨w.heap.size+1,0,none⟩=some (.int .i64 0):=by simp [adw,e2]
 have b1:w2.cell? ⟨w.heap.size+1,1,none⟩=some (.int .i64 0):=by simp [adw,e2]
 have b2:w2.cell? ⟨w.heap.size+1,2,none⟩=some (.slice none 0 0):=by simp [adw,e2]
 have b3:w2.frozen? ⟨w.heap.size+1,0,none⟩=false:=by simp [ad6,e2]
 have b4:w2.frozen? ⟨w.heap.size+1,1,none⟩=false:=by simp [ad6,e2]
 have b5:w2.frozen? ⟨w.heap.size+1,2,none⟩=false:=by simp [ad6,e2]
 have M:=aC (Gw hown (Gw hb (Gw hba hza)));clear e1 e2 h1a T_ hown hb hba hza gF HF;go_wp2_with fail
 have hfr:Fr (fun q=>q=w.heap.size\/q=w.heap.size+1) w2 ((((w2.setCell ⟨w.heap.size,1,none⟩ (.int .i64 (next+(jc xs:Nat)))).setCell ⟨w.heap.size+1,0,none⟩ (.int .i64 first)).setCell ⟨w.heap.size+1,1,none⟩ (.int .i64 (next+(jc xs:Nat)))).setCell ⟨w.heap.size+1,2,none⟩ (.slice Q nq cq)):=
  ((((Fr.refl _ w2).setCell (.inl (.inl rfl)) _).setCell (.inl (.inr rfl)) _).setCell (.inl (.inr rfl)) _).setCell (.inl (.inr rfl)) _
 have hown:=aA.lower (aA.fr M.out.1 hfr fun q hq=>by have:=M.out.2.2.2;omega) (base':=w.heap.size) (by have:=M.out.2.2.2;omega)
 have hbel:Below w.heap.size w ((((w2.setCell ⟨w.heap.size,1,none⟩ (.int .i64 (next+(jc xs:Nat)))).setCell ⟨w.heap.size+1,0,none⟩ (.int .i64 first)).setCell ⟨w.heap.size+1,1,none⟩ (.int .i64 (next+(jc xs:Nat)))).setCell ⟨w.heap.size+1,2,none⟩ (.slice Q nq cq)):=
  kD (kD (kD (kD (ah M.out.2.2.1 M.out.2.1) (p:=⟨w.heap.size,1,none⟩) (bN _) _) (p:=⟨w.heap.size+1,0,none⟩) (ad7 _) _) (p:=⟨w.heap.size+1,1,none⟩) (ad7 _) _) (p:=⟨w.heap.size+1,2,none⟩) (ad7 _) _
 exact bodyPost_ret (v:=.tuple #[bS first (next+(jc xs:Nat)) Q nq cq,.slice A' (gG next xs).length c']) (by simp [results,Try.results94,go_sem,b0,b1,b2]) rfl ⟨A',c',rfl,hown,hbel⟩
def pK (l:List (List Nd)) (k:Nat):List Nd:=((l.take k).map gM).flatten
theorem Cw {l:List (List Nd)} {k:Nat} {t:List Nd} (h:l[k]?=some t):pK l (k+1)=pK l k++gM t:=by
 unfold pK;rw [GZ,h,abl,List.flatten_append];simp
theorem EL (l:List (List Nd)):pK l l.length=(l.map gM).flatten:=by simp [pK]
theorem Ij {l:List (List Nd)} (h:∀t∈l,Fo 1 t) (k:Nat):(pK l k).length<=l.flatten.length:=by
 unfold pK;have h1:=zM (p:=gM) (l:=l.take k) fun t ht=>R_ t (h t (List.mem_of_mem_take ht));have h2:=tF l k;omega
def qU (x:Nd) (m:Nat):Nd:=if av x.k=true then ⟨x.k,x.s,(m:Nat)⟩ else x
inductive Mid:List Nd->Prop
 |node (x:Nd) (ks:List Nd):(∀t∈bI (bC (manyN x) ks),(bB t).k≠9)->(∀t∈bC (manyN x) ks,Mid t)->Mid (x::ks)
theorem Af {B:Nat} {a b c:World} (h:Below B a b) (k:Below b.heap.size b c) (hB:B<=b.heap.size):Below B a c:=h.trans (k.mono hB)
theorem QA (N:Nat):∀(A:Option Addr) (c:Nat) (xs:List Nd) (w:World),xs.length<=N->xs.length<=100000000000->Fo 1 xs->dF xs->Mid xs->aM w w.heap.size A xs->xs.length<=c->
  Calls Try.prog 65 #[.slice A xs.length c,.int .i64 0] w (jP w (gM xs)):=by
 induction N with
 |zero=>
  intro A c xs w h0 _ hf;have:=hf.pos
  omega
 |succ N ih=>
  have Ih:=aC ih;clear ih;intro A c xs w hN hl hf hok hmid ha hc
  cases hmid with
  |node x yL h9 hm=>
   obtain ⟨ks,rs,af3,hks,hrs⟩:=hf.PU;have:=hrs.wG;subst this;rw [List.append_nil] at af3;subst af3;have ht:=vW hks;generalize bC (manyN x) yL=aG at*;have hxo:bX x.k x.n=true:=hok x (by simp);have R4:dF yL:=fun y hy=>hok y (by simp [hy]);have hkc:=aC (P9 A c (x::yL) yL x aG w ha hl hc rfl hxo R4 ht h9);obtain ⟨b1,o1,rfl,hb1,c10,c11,c12⟩:=ha.at_ (i:=0) (x:=x) rfl;simp only [adO,pO] at c10 c11 c12
   have hgc:Hid (gM (x::yL)=if x.k=8\/(x.k=7/\(bI aG).length=0) then [⟨4,x.s,0⟩] else qU x (bI aG).length::((bI aG).map gM).flatten):=aC (by
    rw [Es,<-ht.uniq];rfl)
   have hmn:manyN x<=50:=vV hxo;have DU:Hid ((bI aG).length<=50/\(bI aG).flatten.length<=yL.length/\(∀t∈bI aG,Fo 1 t/\dF t/\Mid t)):=aC ⟨by have:=aeo aG;rw [ht.len] at this;omega,by have:=N_ aG;rwa [ht.flat] at this,fun t hm2=>⟨ht.one t (wJ hm2),fun y hy=>R4 y (by rw [<-ht.flat];exact aam.2 ⟨t,wJ hm2,hy⟩),hm t (wJ hm2)⟩⟩;have Ha:=aC ha;have hlN:yL.length<=N:=by simp at hN;omega
   have hl6:yL.length<=100000000000:=by simp at hl;omega
   have hx0:0<(x::yL).length:=by simp
   clear ha hf hok hks hrs ht hxo R4 hmn hN hl hc hm h9;generalize hL:(x::yL).length=L at*;have HL:=aC hL;clear hL;have HX:Hid (∀v,Below w.heap.size w v->v.cell? ⟨b1,o1,none⟩=some (.int .i64 x.k)/\v.cell? ⟨b1,o1+1,none⟩=some (.string x.s)/\v.cell? ⟨b1,o1+2,none⟩=some (.int .i64 x.n)):=aC fun v hb=>⟨(hb.cell (p:=⟨b1,o1,none⟩) hb1).trans c10,(hb.cell (p:=⟨b1,o1+1,none⟩) hb1).trans c11,(hb.cell (p:=⟨b1,o1+2,none⟩) hb1).trans c12⟩;go_enter Try.func65,Try.ntmps65
   cases h8:(x.k==8)
   ·have H8:=aC h8
    clear c11 c12;go_wp2_with fail;refine hkc.out.mono ?_;rintro e w1 ⟨V,cv,vs,A3,c3,rfl,hown,hS,_,hcap,hb⟩;have G:=aC (Gw (aA.read jq hown) (Gw hS (Gw hcap hb)));have hnl:Hid (vs.length=(bI aG).length):=aC hS.1;have afO:vs.length<=50:=by rw [hnl.out];exact DU.out.1
    have hbw:b1<w1.heap.size:=vv hb1 hb.size;obtain ⟨c10,c11,c12⟩:=HX.out w1 hb;clear hkc hown hS hcap hb
    have hcase:((x.k==7)=true/\((vs.length:Int)==0)=true)\/((x.k==7)=true/\((vs.length:Int)==0)=false)\/(x.k==7)=false:=by
     cases (x.k==7)<;>cases ((vs.length:Int)==0)<;>simp
    rcases hcase with ⟨h7,h0⟩|hcase
    ·have H7:=aC h7
     have H0:=aC h0;go_wp2_with fail;go_ret
     have e:gM (x::yL)=[⟨4,x.s,0⟩]:=by
      rw [hgc.out,if_pos (.inr ⟨by simpa using H7.out,by rw [<-hnl.out];simpa using H0.out⟩)]
     unfold jP;rw [e];exact ⟨_,_,rfl,(rF w1 ⟨4,x.s,0⟩).lower G.out.2.2.2.size,ak G.out.2.2.2 _⟩
    ·have hg:Hid (gM (x::yL)=qU x vs.length::((bI aG).map gM).flatten):=aC (by
      rw [hgc.out,if_neg,hnl.out];rintro (e|⟨e7,e0⟩)
      ·rw [e] at h8;cases h8
      ·rcases hcase with ⟨_,h0⟩|h7
       ·rw [hnl.out,e0] at h0;cases h0
       ·rw [e7] at h7;cases h7)
     have hO:=aC (rF w1 x);have hB1:=aC (ak (aT w1.heap.size w1) (.cells #[.int .i64 x.k,.string x.s,.int .i64 x.n] 48))
     have hrow:((x.k==7)=true/\((vs.length:Int)==0)=false/\(x.k==6)=false/\av x.k=true)\/((x.k==7)=false/\(x.k==6)=false/\av x.k=false)\/((x.k==7)=false/\(x.k==6)=true/\av x.k=true):=by
      unfold av;rcases hcase with ⟨h7,h0⟩|h7
      ·refine .inl ⟨h7,h0,?_,by rw [h7];simp⟩
       rw [beq_eq_false_iff_ne];rw [beq_iff_eq] at h7;omega
      ·cases h6:(x.k==6)
       ·exact .inr (.inl ⟨h7,rfl,by rw [h7];rfl⟩)
       ·exact .inr (.inr ⟨h7,rfl,rfl⟩)
     clear hcase;rcases hrow with ⟨h7,h0,h6,hr⟩|⟨h7,h6,hr⟩|⟨h7,h6,hr⟩
     ·have M4:Hid (fA (w1.alloc (.cells #[.int .i64 x.k,.string x.s,.int .i64 (vs.length:Int)] 48)) w1.heap.size (some ⟨w1.heap.size,0,none⟩) 1 [qU x vs.length]/\Below w1.heap.size w1 (w1.alloc (.cells #[.int .i64 x.k,.string x.s,.int .i64 (vs.length:Int)] 48))):=aC ⟨by
       have e:qU x vs.length=⟨x.k,x.s,(vs.length:Int)⟩:=by unfold qU;rw [if_pos hr]
       rw [e];exact rF w1 ⟨x.k,x.s,(vs.length:Int)⟩,ak (aT _ _) _⟩
      clear hr;go_wp2_with fail;go_loopw [7,8] (fun s7 s8 wr=>∃(k:Nat) (A5:Option Addr) (c5:Nat) (out:List Nd),s7= .slice A5 out.length c5/\s8= .int .i64 k/\k<=vs.length/\out.length<=100000000001/\Hid (out=qU x vs.length::pK (bI aG) k)/\Hid (fA wr w1.heap.size A5 c5 out/\Below w1.heap.size w1 wr)) (fun _ s8 _=>vs.length-(intOf s8).toNat)
      case atStart=>exact ⟨0,some ⟨w1.heap.size,0,none⟩,1,[qU x vs.length],rfl,rfl,h_ _,by simp,aC (by simp [pK]),M4⟩
      case round=>
       clear M4;obtain ⟨k,A5,c5,out,rfl,rfl,hk,hol,hout,M⟩:=hrel;by_cases hp:k<vs.length
       ·obtain ⟨v,hv⟩:=aD hp
        obtain ⟨t,ht⟩:=aD (show k<(bI aG).length by rw [<-hnl.out];exact hp);obtain ⟨b,o,rfl,hb,c0⟩:=aX.slice (aX.more (aX.below G.out.1 M.out.2) M.out.2.size) hv;obtain ⟨e1,e2⟩:=(G.out.2.1.EJ M.out.2 M.out.2.size).2 k v t hv ht;have hmt:=DU.out.2.2 t (Yt ht)
        have hlt:t.length<=yL.length:=by
         have h1:=aec.length_le (aeg (Yt ht));have h2:=DU.out.2.1;omega
        have hcap:=G.out.2.2.1 v (Yt hv);rw [e1] at c0 hcap;have hI:=aC (Ih.out v.1 v.2.2 t wr (by omega) (by omega) hmt.1 hmt.2.1 hmt.2.2 e2 hcap);have Cx:Hid (out++gM t=qU x vs.length::pK (bI aG) (k+1)):=aC (by rw [hout.out,Cw ht,Gx])
        have af4:out.length+(gM t).length<=100000000001:=by
         have h1:=congrArg RB Cx.out;rw [A_,Bl] at h1;have h2:=Ij (fun t ht=>(DU.out.2.2 t ht).1) (k+1);have h3:=DU.out.2.1;omega
        clear hv ht e1 e2 hmt hcap;go_wp2_with fail;refine hI.out.mono ?_;rintro e w5 ⟨A6,c6,rfl,hown6,hb6⟩;replace M:=aC (Gw (aA.below M.out.1 hb6 (bN _)) (Af M.out.2 hb6 M.out.2.size));have H6:=aC (aA.g_ hown6);clear hown6 hb6 hI c0;go_wp2_with (at_builtin;refine eH rfl (.tmp 76) (.tmp 81) rfl w1.heap.size (l:=out) rfl M.out.1 (l2:=gM t) rfl H6.out (by omega) M.out.2.size ?_;intro A7 c7 w7 oH vo _;replace M:=aC (Gw oH (M.out.2.trans (below_app vo M.out.2.size (fun a ha=>(aA.lt M.out.1 a ha).1))));clear oH vo);go_roundw
        case rel=>exact ⟨k+1,A7,c7,out++gM t,by simp,by go_num,hp,by simp;omega,Cx,M⟩
        case measure=>simp [intOf];omega
       ·have hkn:k=(bI aG).length:=by have:=hnl.out;omega
        have e:out=gM (x::yL):=by rw [hg.out,hout.out,hkn,EL]
        have E:=aC e;clear e hkn;go_wp2_with fail;go_ret;unfold jP;rw [<-E.out];exact ⟨A5,c5,rfl,aA.lower M.out.1 G.out.2.2.2.size,G.out.2.2.2.trans (M.out.2.mono G.out.2.2.2.size)⟩
     ·have M4:Hid (fA (w1.alloc (.cells #[.int .i64 x.k,.string x.s,.int .i64 x.n] 48)) w1.heap.size (some ⟨w1.heap.size,0,none⟩) 1 [qU x vs.length]/\Below w1.heap.size w1 (w1.alloc (.cells #[.int .i64 x.k,.string x.s,.int .i64 x.n] 48))):=aC ⟨by
       have e:qU x vs.length=x:=by unfold qU;rw [if_neg (by rw [hr];simp)]
       rw [e];exact hO.out,hB1.out⟩
      clear hr;go_wp2_with fail;go_loopw [7,8] (fun s7 s8 wr=>∃(k:Nat) (A5:Option Addr) (c5:Nat) (out:List Nd),s7= .slice A5 out.length c5/\s8= .int .i64 k/\k<=vs.length/\out.length<=100000000001/\Hid (out=qU x vs.length::pK (bI aG) k)/\Hid (fA wr w1.heap.size A5 c5 out/\Below w1.heap.size w1 wr)) (fun _ s8 _=>vs.length-(intOf s8).toNat)
      case atStart=>exact ⟨0,some ⟨w1.heap.size,0,none⟩,1,[qU x vs.length],rfl,rfl,h_ _,by simp,aC (by simp [pK]),M4⟩
      case round=>
       clear M4;obtain ⟨k,A5,c5,out,rfl,rfl,hk,hol,hout,M⟩:=hrel;by_cases hp:k<vs.length
       ·obtain ⟨v,hv⟩:=aD hp
        obtain ⟨t,ht⟩:=aD (show k<(bI aG).length by rw [<-hnl.out];exact hp);obtain ⟨b,o,rfl,hb,c0⟩:=aX.slice (aX.more (aX.below G.out.1 M.out.2) M.out.2.size) hv;obtain ⟨e1,e2⟩:=(G.out.2.1.EJ M.out.2 M.out.2.size).2 k v t hv ht;have hmt:=DU.out.2.2 t (Yt ht)
        have hlt:t.length<=yL.length:=by
         have h1:=aec.length_le (aeg (Yt ht));have h2:=DU.out.2.1;omega
        have hcap:=G.out.2.2.1 v (Yt hv);rw [e1] at c0 hcap;have hI:=aC (Ih.out v.1 v.2.2 t wr (by omega) (by omega) hmt.1 hmt.2.1 hmt.2.2 e2 hcap);have Cx:Hid (out++gM t=qU x vs.length::pK (bI aG) (k+1)):=aC (by rw [hout.out,Cw ht,Gx])
        have af4:out.length+(gM t).length<=100000000001:=by
         have h1:=congrArg RB Cx.out;rw [A_,Bl] at h1;have h2:=Ij (fun t ht=>(DU.out.2.2 t ht).1) (k+1);have h3:=DU.out.2.1;omega
        clear hv ht e1 e2 hmt hcap;go_wp2_with fail;refine hI.out.mono ?_;rintro e w5 ⟨A6,c6,rfl,hown6,hb6⟩;replace M:=aC (Gw (aA.below M.out.1 hb6 (bN _)) (Af M.out.2 hb6 M.out.2.size));have H6:=aC (aA.g_ hown6);clear hown6 hb6 hI c0;go_wp2_with (at_builtin;refine eH rfl (.tmp 76) (.tmp 81) rfl w1.heap.size (l:=out) rfl M.out.1 (l2:=gM t) rfl H6.out (by omega) M.out.2.size ?_;intro A7 c7 w7 oH vo _;replace M:=aC (Gw oH (M.out.2.trans (below_app vo M.out.2.size (fun a ha=>(aA.lt M.out.1 a ha).1))));clear oH vo);go_roundw
        case rel=>exact ⟨k+1,A7,c7,out++gM t,by simp,by go_num,hp,by simp;omega,Cx,M⟩
        case measure=>simp [intOf];omega
       ·have hkn:k=(bI aG).length:=by have:=hnl.out;omega
        have e:out=gM (x::yL):=by rw [hg.out,hout.out,hkn,EL]
        have E:=aC e;clear e hkn;go_wp2_with fail;go_ret;unfold jP;rw [<-E.out];exact ⟨A5,c5,rfl,aA.lower M.out.1 G.out.2.2.2.size,G.out.2.2.2.trans (M.out.2.mono G.out.2.2.2.size)⟩
     ·have M4:Hid (fA (w1.alloc (.cells #[.int .i64 x.k,.string x.s,.int .i64 (vs.length:Int)] 48)) w1.heap.size (some ⟨w1.heap.size,0,none⟩) 1 [qU x vs.length]/\Below w1.heap.size w1 (w1.alloc (.cells #[.int .i64 x.k,.string x.s,.int .i64 (vs.length:Int)] 48))):=aC ⟨by
       have e:qU x vs.length=⟨x.k,x.s,(vs.length:Int)⟩:=by unfold qU;rw [if_pos hr]
       rw [e];exact rF w1 ⟨x.k,x.s,(vs.length:Int)⟩,ak (aT _ _) _⟩
      clear hr;go_wp2_with fail;go_loopw [7,8] (fun s7 s8 wr=>∃(k:Nat) (A5:Option Addr) (c5:Nat) (out:List Nd),s7= .slice A5 out.length c5/\s8= .int .i64 k/\k<=vs.length/\out.length<=100000000001/\Hid (out=qU x vs.length::pK (bI aG) k)/\Hid (fA wr w1.heap.size A5 c5 out/\Below w1.heap.size w1 wr)) (fun _ s8 _=>vs.length-(intOf s8).toNat)
      case atStart=>exact ⟨0,some ⟨w1.heap.size,0,none⟩,1,[qU x vs.length],rfl,rfl,h_ _,by simp,aC (by simp [pK]),M4⟩
      case round=>
       clear M4;obtain ⟨k,A5,c5,out,rfl,rfl,hk,hol,hout,M⟩:=hrel;by_cases hp:k<vs.length
       ·obtain ⟨v,hv⟩:=aD hp
        obtain ⟨t,ht⟩:=aD (show k<(bI aG).length by rw [<-hnl.out];exact hp);obtain ⟨b,o,rfl,hb,c0⟩:=aX.slice (aX.more (aX.below G.out.1 M.out.2) M.out.2.size) hv;obtain ⟨e1,e2⟩:=(G.out.2.1.EJ M.out.2 M.out.2.size).2 k v t hv ht;have hmt:=DU.out.2.2 t (Yt ht)
        have hlt:t.length<=yL.length:=by
         have h1:=aec.length_le (aeg (Yt ht));have h2:=DU.out.2.1;omega
        have hcap:=G.out.2.2.1 v (Yt hv);rw [e1] at c0 hcap;have hI:=aC (Ih.out v.1 v.2.2 t wr (by omega) (by omega) hmt.1 hmt.2.1 hmt.2.2 e2 hcap);have Cx:Hid (out++gM t=qU x vs.length::pK (bI aG) (k+1)):=aC (by rw [hout.out,Cw ht,Gx])
        have af4:out.length+(gM t).length<=100000000001:=by
         have h1:=congrArg RB Cx.out;rw [A_,Bl] at h1;have h2:=Ij (fun t ht=>(DU.out.2.2 t ht).1) (k+1);have h3:=DU.out.2.1;omega
        clear hv ht e1 e2 hmt hcap;go_wp2_with fail;refine hI.out.mono ?_;rintro e w5 ⟨A6,c6,rfl,hown6,hb6⟩;replace M:=aC (Gw (aA.below M.out.1 hb6 (bN _)) (Af M.out.2 hb6 M.out.2.size));have H6:=aC (aA.g_ hown6);clear hown6 hb6 hI c0;go_wp2_with (at_builtin;refine eH rfl (.tmp 76) (.tmp 81) rfl w1.heap.size (l:=out) rfl M.out.1 (l2:=gM t) rfl H6.out (by omega) M.out.2.size ?_;intro A7 c7 w7 oH vo _;replace M:=aC (Gw oH (M.out.2.trans (below_app vo M.out.2.size (fun a ha=>(aA.lt M.out.1 a ha).1))));clear oH vo);go_roundw
        case rel=>exact ⟨k+1,A7,c7,out++gM t,by simp,by go_num,hp,by simp;omega,Cx,M⟩
        case measure=>simp [intOf];omega
       ·have hkn:k=(bI aG).length:=by have:=hnl.out;omega
        have e:out=gM (x::yL):=by rw [hg.out,hout.out,hkn,EL]
        have E:=aC e;clear e hkn;go_wp2_with fail;go_ret;unfold jP;rw [<-E.out];exact ⟨A5,c5,rfl,aA.lower M.out.1 G.out.2.2.2.size,G.out.2.2.2.trans (M.out.2.mono G.out.2.2.2.size)⟩
   ·have H8:=aC h8
    go_wp2_with fail;go_ret;have e:gM (x::yL)=[⟨4,x.s,0⟩]:=by rw [hgc.out,if_pos (.inl (by simpa using H8.out))]
    unfold jP;rw [e];exact ⟨_,_,rfl,(rF w ⟨4,x.s,0⟩),ak (aT _ _) _⟩
theorem ae2 {ts:List Nd} (h:ko ts):Mid ts:=by
 induction h with
 |mk x aG ok k9 tr ch row els tl ih=>
  refine .node x _ (fun t ht=>?_) (fun t ht=>?_)
  ·rw [<-tr.uniq] at ht
   exact ahg (ch t ht)
  ·rw [<-tr.uniq,<-lN aG] at ht
   rcases JQ.1 ht with ht|ht
   ·exact ih t ht
   ·obtain ⟨n,_,rfl⟩:=tl t ht
    have e:bC (manyN ⟨9,pR,n⟩) []=[]:=rfl;exact .node _ _ (fun t ht=>by rw [e] at ht;cases ht) (fun t ht=>by rw [e] at ht;cases ht)
theorem Ua (A:Option Addr) (c:Nat) (xs:List Nd) (w:World) (ha:aM w w.heap.size A xs) (hg:ko xs) (hl:xs.length<=100000000000) (hc:xs.length<=c):
  Calls Try.prog 29 #[.slice A xs.length c] w (jP w (gM xs)):=by
 have h:=aC (QA xs.length A c xs w (bN _) hl hg.trw.fo hg.trw.ok (ae2 hg) ha hc);clear ha hg;go_enter Try.func29,Try.ntmps29;go_wp2_with fail;refine h.out.mono ?_;rintro e w1 ⟨A',c',rfl,hown,hb⟩;go_wp2_with fail;go_ret;exact ⟨A',c',rfl,hown,hb⟩
theorem ae3 {U:List Lb}:∀t,pY U t->∀s,∀x∈aB s t,x.s=s\/x.s=pR\/x.s∈U:=by
 refine Ut.ind fun k n fs tl ih h s=>?_;rw [gI] at h;rw [bY];split
 ·intro x hx
  rcases Gz.1 hx with rfl|hx
  ·exact .inl rfl
  ·rcases JQ.1 hx with hx|hx
   ·rw [kN] at hx
    obtain ⟨l,hl,hx⟩:=aam.1 hx;obtain ⟨p,hp,rfl⟩:=aaN.1 hl;rcases ih p hp (h.2 p hp) p.1 x hx with e|e|e
    ·exact .inr (.inr (by rw [e];exact (h.1 p.1 (aaN.2 ⟨p,hp,rfl⟩)).1))
    ·exact .inr (.inl e)
    ·exact .inr (.inr e)
   ·cases tl with
    |none=>cases hx
    |some p=>simp only [aP,aaW] at hx;rw [hx];exact .inr (.inl rfl)
 ·intro x hx
  rcases Gz.1 hx with rfl|hx
  ·exact .inl rfl
  ·rw [qP] at hx
   obtain ⟨l,hl,hx⟩:=aam.1 hx;obtain ⟨p,hp,rfl⟩:=aaN.1 hl;rcases ih p hp (h.2 p hp) _ x hx with e|e|e
   ·exact .inr (.inl e)
   ·exact .inr (.inl e)
   ·exact .inr (.inr e)
theorem ae4 {U:List Lb}:∀t,pY U t->pY U (u_ t):=by
 refine Ut.ind fun k n fs tl ih h=>?_;rw [gI] at h;rw [Kg];split
 ·unfold tV
  rw [gI];exact ⟨fun l hl=>(by cases hl),fun p hp=>by cases hp⟩
 ·rw [gI,qE]
  refine ⟨h.1,fun p hp=>?_⟩;obtain ⟨q,hq,rfl⟩:=aaN.1 hp;exact ih q hq (h.2 q hq)
theorem aM.frame {Y:Nat->Prop} {w w':World} {B:Nat} {A:Option Addr} {xs:List Nd} (h:aM w B A xs) (hf:Fr Y w w') (hB:B<=w.heap.size) (hn:xs≠[]->∀a,A=some a->¬Y a.block):aM w' B A xs:=by
 refine aX.g_ fun hne=>?_;obtain ⟨b,o,hA,hb,hr⟩:=h.PK hne;refine ⟨b,o,hA,hb,fun i x hx j u hu=>?_⟩;exact (adN (a:=⟨b,o+i*3+j,none⟩) (hf.block b (vv hb hB) (hn hne _ hA))).trans (hr i x hx j u hu)
theorem Ub (A:Option Addr) (c:Nat) (xs:List Nd) (n:Int) (w:World) (ha:aM w w.heap.size A xs) (hl:xs.length<=1000000) (h0:∀x∈xs,bZ x.k=true->0<=x.n):
  Calls Try.prog 35 #[.slice A xs.length c,.int .i64 n] w fun e w'=>e= .returned (.bool (decide (n∈dG xs)))/\Below w.heap.size w w':=by
 have hv:=aC (VD A c xs w ha hl h0);have hvl:=aC (Od xs);clear ha h0;go_enter Try.func35,Try.ntmps35;go_wp2_with fail;refine hv.out.mono ?_;clear hv;rintro e w1 ⟨A',c',rfl,hr,hb⟩;have Jy:(dG xs).length<=9223372036854775807:=by have:=hvl.out;omega
 have hin:=aC (XU A' c' w1.heap.size (dG xs) n w1 hr Jy);have B:=aC hb;clear hr hb Jy;go_wp2_with fail;refine hin.out.mono ?_;rintro e w2 ⟨rfl,rfl⟩;go_wp2_with fail;go_ret;exact ⟨rfl,B.out⟩
theorem Ik (q:QV):(BF q).length=2:=rfl
theorem O9 (q:QV):∀u∈BF q,u.oneCell'=true:=by simp [BF,Value.oneCell']
theorem acF:(Try.prog.info? 175).map (fun i=>(i.zero,i.size,i.bytes))=some (some (.agg #[.int .i64 0,.slice none 0 0]),2,32):=by kernel_rfl
abbrev O_ (w:World) (base:Nat) (A:Option Addr) (cap:Nat) (l:List QV):Prop:=aA 175 2 BF w base A cap l
theorem QB {w:World} {ops:Array Oper} {rest:List Oper} {o:Oper} {a:Act} {K:Exit->Act->World->Prop} (hgd:o.guard=none) (s x:Operand)
  (ho:o.op= .call {callee:=.builtin .append,args:=#[s,x],argTypes:=#[27,27]})
  (base:Nat) {A:Option Addr} {cap:Nat} {l:List QV} (hs:a.eval s= .slice A l.length cap) (hown:O_ w base A cap l) {B:Nat} {A2:Option Addr} {c:Nat} {l2:List QV} (hx:a.eval x= .slice A2 l2.length c) (hr:Et w B A2 l2)
  (hlen:l.length+l2.length<=1000000000000) (hbase:base<=w.heap.size)
  (h:∀A' cap' w',O_ w' base A' cap' (l++l2)->w.grownBy w' ((aO A l.length cap).ownBlock)->
   ((aO A' (l.length+l2.length) cap').ownBlock=(aO A l.length cap).ownBlock\/(aO A' (l.length+l2.length) cap').ownBlock=some w.heap.size)->wpList Try.prog ops K rest (a.put o.dst (.slice A' (l.length+l2.length) cap')) w'):wpList Try.prog ops K (o::rest) a w:=by
 obtain ⟨i0,hi,hz0,hz1,hz2⟩:=info_parts acF;exact nX w Ik O9 hgd s x 27 ho base 175 i0 _ 32 Try.underlying27 hi hz0 hz1 hz2 rfl (by decide) hs hown hx hr (by unfold maxLen;omega) (by omega) hbase h
theorem Pb {t:Ut} (h:j_ t) (v:Int) (s:Lb):decide (v∈dG (aB s t))=true↔bL v t:=by
 rw [decide_eq_true_iff,Qf v t h s,tJ]
structure Me (K:Nat->Prop) (w0:World) (V:Option Addr) (cv:Nat) (us:List QV) (ts:List (Int×List Nd)) (w:World):Prop where
 own:O_ w w0.heap.size V cv us
 tab:Tab w w.heap.size us ts
 off:∀v∈us,Off v.2.1 V
 lo:∀v∈us,∀a,v.2.1=some a->¬K a.block
 lt:∀v∈us,∀a,v.2.1=some a->a.block<w.heap.size
section
variable {K:Nat->Prop} {w0 w w':World} {V:Option Addr} {cv:Nat} {us:List QV} {ts:List (Int×List Nd)}
theorem Me.fr {X:Nat->Prop} (h:Me K w0 V cv us ts w) (hf:Fr X w w') (hX:∀k,X k->K k/\k<w0.heap.size):Me K w0 V cv us ts w':=by
 refine ⟨aA.fr h.own hf fun k hk=>(hX k hk).2,⟨h.tab.1,fun i v t hv ht=>?_⟩,h.off,h.lo,fun v hv a ha=>vv (h.lt v hv a ha) hf.size⟩;obtain ⟨a,b,c,d⟩:=h.tab.2 i v t hv ht;refine ⟨a,b,c,(aM.frame d hf (bN _) fun _ x hx hy=>?_).more hf.size⟩;exact h.lo v (Yt hv) x hx (hX _ hy).1
theorem Me.step (h:Me K w0 V cv us ts w) (hb:Below w.heap.size w w'):Me K w0 V cv us ts w':=h.fr (X:=fun _=>False) (Fr.below hb) fun _ e=>e.elim
theorem Me.app {V2:Option Addr} {gq:Nat} {v:QV} {t:Int×List Nd} (h:Me K w0 V cv us ts w) (h1:v.1=t.1) (h2:v.2.2.1=t.2.length) (h3:t.2.length<=v.2.2.2) (h4:aM w w.heap.size v.2.1 t.2) (ho:Off v.2.1 V) (hl:∀a,v.2.1=some a->¬K a.block) (hlt:∀a,v.2.1=some a->a.block<w.heap.size)
  (hown:O_ w' w0.heap.size V2 gq (us++[v])) (hg:w.grownBy w' ((aO V us.length cv).ownBlock))
  (hA:(aO V2 (us.length+1) gq).ownBlock=(aO V us.length cv).ownBlock\/(aO V2 (us.length+1) gq).ownBlock=some w.heap.size):Me K w0 V2 gq (us++[v]) (ts++[t]) w':=by
 have hV:∀a,V2=some a->(∃b,V=some b/\a.block=b.block)\/a.block=w.heap.size:=fun a ha=>by
  subst ha;rcases hA with hA|hA
  ·obtain ⟨b,hb,hbe⟩:=bA (hA.symm.trans (show (aO (some a) (us.length+1) gq).ownBlock=some a.block from rfl))
   exact .inl ⟨b,hb,hbe.symm⟩
  ·exact .inr (by simpa [Value.ownBlock] using hA)
 have hlow:∀k,(aO V us.length cv).ownBlock=some k->∃a,V=some a/\a.block=k:=fun k hk=>bA hk
 have hall:∀u∈us++[v],Off u.2.1 V/\(∀a,u.2.1=some a->¬K a.block)/\∀a,u.2.1=some a->a.block<w.heap.size:=fun u hu=>by
  rcases JQ.1 hu with hu|hu
  ·exact ⟨h.off u hu,h.lo u hu,h.lt u hu⟩
  ·rw [aaW.1 hu];exact ⟨ho,hl,hlt⟩
 have hz:=hg.size
 have keep:∀(A:Option Addr) (xs:List Nd),aM w w.heap.size A xs->Off A V->aM w' w'.heap.size A xs:=fun A xs ha hoA=>ha.nP hg fun k hk a e he=>by
  obtain ⟨b,hb,hbe⟩:=hlow k hk;exact hoA a b e hb (by rw [he,hbe])
 refine ⟨hown,⟨by simp [h.tab.1],fun i u s hu hs=>?_⟩,fun u hu a b ha hb e=>?_,fun u hu=>(hall u hu).2.1,fun u hu a ha=>vv ((hall u hu).2.2 a ha) hz⟩
 ·by_cases hi:i<us.length
  ·rw [aaM hi] at hu
   rw [aaM (by rw [<-h.tab.1];exact hi)] at hs;obtain ⟨a,b,c,d⟩:=h.tab.2 i u s hu hs;exact ⟨a,b,c,keep _ _ d (h.off u (Yt hu))⟩
  ·have hi2:i=us.length:=by have:=bf hu;simp at this;omega
   subst hi2;rw [zA (bN _),Nat.sub_self] at hu;rw [zA (by rw [h.tab.1];exact bN _),h.tab.1,Nat.sub_self] at hs;simp at hu hs;subst hu hs;exact ⟨h1,h2,h3,keep _ _ h4 ho⟩
 ·rcases hV b hb with ⟨b',hb',hbe⟩|hbe
  ·exact (hall u hu).1 a b' ha hb' (by rw [e,hbe])
  ·have:=(hall u hu).2.2 a ha
   omega
end
structure Il (L:Sorts) (β:Va) (xJ:Int->Int) (enc enc':Int->Ut) (ns:List Int) (n:Int) (U:Ut) (first:Int):Prop where
 one:Ac L β xJ [n]
 eu:jl L β xJ n=U
 len:(aB pR U).length<=700000
 sh:j_ U
 nn:∀x∈aB pR U,bZ x.k=true->0<=x.n
 self:enc' n=U
 kn:¬bL n U->∀j∈ns,JV L β pR (enc j)/\enc' j=inst β (enc j)
 wf:¬bL n U->∀j∈ns++[n],j<first->gD (enc' j)
 gl:¬bL n U->∀j∈ns++[n],j<first->∀x∈gM (aB pR (enc' j)),x.s.size<=9223372036854775807
 cnt:ns.length<=1000000
def Im (A:Option Addr) (first next:Int) (Q:Option Addr) (nq cq:Nat) (enc':Int->Ut) (ns:List Int) (n:Int) (U:Ut) (w:World) (e:Ending) (w':World):Prop:=
 (e= .returned (.tuple #[bS first next Q nq cq,.int .i64 9])/\Below w.heap.size w w'/\(bL n U\/∃j∈ns++[n],j<first/\¬OP (enc' j)))\/
  (∃vs' Q' cq',e= .returned (.tuple #[bS first next Q' vs'.length cq',.int .i64 0])/\lD vs' Q' enc' (ns++[n]) w'/\Below w.heap.size w w'/\¬bL n U/\(∀j∈ns++[n],j<first->OP (enc' j))/\(∀a,Q'=some a->a.off=0)/\(∀a,Q'=some a->w.heap.size<=a.block)/\∀v∈vs',∀a,v.2.1=some a->w.heap.size<=a.block\/∃a',A=some a'/\a'.block=a.block)
theorem QC (first next:Int) (Q:Option Addr) (cq:Nat) (vs:List QV) (L:Sorts) (β:Va) (xJ:Int->Int) (enc enc':Int->Ut) (ns:List Int) (n:Int) (U:Ut) (A:Option Addr) (c:Nat) (w:World)
  (h:Il L β xJ enc enc' ns n U first) (ha:aM w w.heap.size A (aB pR U)) (ho:bL n U):
  Calls Try.prog 95 #[bS first next Q vs.length cq,.int .i64 n,.slice A (aB pR U).length c] w (Im A first next Q vs.length cq enc' ns n U w):=by
 have HH:=aC (fun (v:World) (hb:Below w.heap.size w v)=>Ub A c (aB pR U) n v ((ha.below hb).more hb.size) (by have:=h.len;omega) h.nn);rw [(Pb h.sh n pR).2 ho] at HH;have HO:=aC ho;clear ha ho h;go_enter Try.func95,Try.ntmps95;go_wp2_with fail;obtain ⟨wa,gF⟩:∃wa,wa=(w.alloc (.cells #[.int .i64 first,.int .i64 next,.slice Q vs.length cq] 29)).alloc (.cells #[.int .i64 0,.int .i64 0,.slice none 0 0] 29):=⟨_,rfl⟩;have hba:Below w.heap.size w wa:=by rw [gF];exact ak (ak (aT _ _) _) _
 have hza:wa.heap.size=w.heap.size+2:=by rw [gF];simp
 have h1a:wa.heap[w.heap.size]?=some (.cells #[.int .i64 first,.int .i64 next,.slice Q vs.length cq] 29 (0,0)):=by
  rw [gF];exact (adM _ _ w.heap.size (by simp)).trans (heap_alloc_new w _)
 have T_:wa.heap[w.heap.size+1]?=some (.cells #[.int .i64 0,.int .i64 0,.slice none 0 0] 29 (0,0)):=by
  rw [gF];have hz1:(w.alloc (.cells #[.int .i64 first,.int .i64 next,.slice Q vs.length cq] 29)).heap.size=w.heap.size+1:=by simp
  rw [<-hz1];exact heap_alloc_new _ _
 rw [<-gF];refine (HH.out wa hba).mono ?_;rintro e w2 ⟨rfl,hb⟩;have e1:=(hb.block w.heap.size (by omega)).trans h1a;have e2:=(hb.block (w.heap.size+1) (by omega)).trans T_;have hz2:w.heap.size+2<=w2.heap.size:=by rw [<-hza];exact hb.size
 have a0:w2.cell? ⟨w.heap.size,0,none⟩=some (.int .i64 first):=by simp [adw,e1]
 have a1:w2.cell? ⟨w.heap.size,1,none⟩=some (.int .i64 next):=by simp [adw,e1]
 have a2:w2.cell? ⟨w.heap.size,2,none⟩=some (.slice Q vs.length cq):=by simp [adw,e1]
 have b0:w2.cell? ⟨w.heap.size+1,0,none⟩=some (.int .i64 0):=by simp [adw,e2]
 have b1:w2.cell? ⟨w.heap.size+1,1,none⟩=some (.int .i64 0):=by simp [adw,e2]
 have b2:w2.cell? ⟨w.heap.size+1,2,none⟩=some (.slice none 0 0):=by simp [adw,e2]
 have b3:w2.frozen? ⟨w.heap.size+1,0,none⟩=false:=by simp [ad6,e2]
 have b4:w2.frozen? ⟨w.heap.size+1,1,none⟩=false:=by simp [ad6,e2]
 have b5:w2.frozen? ⟨w.heap.size+1,2,none⟩=false:=by simp [ad6,e2]
 have M:=aC (ah hba hb);clear e1 e2 h1a T_ hb hba hza gF HH;go_wp2_with fail
 exact bodyPost_ret (v:=.tuple #[bS first next Q vs.length cq,.int .i64 9]) (by simp [results,Try.results95,go_sem,b0,b1,b2]) rfl
  (.inl ⟨rfl,kD (kD (kD M.out (p:=⟨w.heap.size+1,0,none⟩) (ad7 _) _) (p:=⟨w.heap.size+1,1,none⟩) (ad7 _) _) (p:=⟨w.heap.size+1,2,none⟩) (ad7 _) _,.inl HO.out⟩)
open Go
section
variable {P:Program} {ops:Array Oper} {Q:Exit->Act->World->Prop} {md:aeh} {S:World->Prop} {Z:List Nat}
def wpAnyL (P:Program) (md:aeh) (ops:Array Oper) (Q:Exit->Act->World->Prop) (S:World->Prop) (Z:List Nat):Nat->Array Bool->Act->World->Prop
 |0,listed,a,w=>ad4 md ops listed=[]/\Q .normal a w
 |fuel+1,listed,a,w=>(ad4 md ops listed=[]->Q .normal a w)/\
  ∀i∈ad4 md ops listed,wpOp P ops Q i (fun a' w'=>((∀z∈Z,(listed.setIfInBounds i true).getD z true=false)->S w')/\wpAnyL P md ops Q S Z fuel (listed.setIfInBounds i true) a' w') a w
theorem Jz:∀(fuel:Nat) (listed:Array Bool) (a:Act) (w:World),wpAnyL P md ops Q S Z fuel listed a w->wpAny P md ops Q fuel listed a w
 |0,_,_,_,h=>h
 |fuel+1,_,_,_,h=>⟨h.1,fun i hi=>wpOp_mono (fun _ _ h'=>Jz fuel _ _ _ h'.2) (h.2 i hi)⟩
theorem wpAnyL_first {i:Nat} {oi:Oper} {v:Value} {C:List Nat} (hi:ops[i]?=some oi) (hsel:∀(j:Nat) (o:Oper) cs b,ops[j]?=some o->o.op≠ .select cs b)
  (hQ:∀c a w,Q (.panic c) (a.put oi.dst v) w->Q (.panic c) a w) (hZ:∀z∈Z,z∈C) (hiC:i∉C)
  (hC:∀c∈C,∀oc,ops[c]?=some oc->∃e∈oc.after,ad8 md e=true/\(e.on=i\/e.on∈C)):
  ∀(fuel:Nat) (listed:Array Bool) (a:Act) (w:World),
   (∀j oj,ops[j]?=some oj->j≠i->listed.getD j true=false->(∀e∈oj.after,ad8 md e=true->e.on≠i)->oi.apart ops oj=true)->
   (∀c∈C,listed.getD c true=false)->i∈ad4 md ops listed->YieldsIf P ops S oi v a->S w->
   wpAnyL P md ops Q S Z fuel (listed.setIfInBounds i true) (a.put oi.dst v) w->wpAnyL P md ops Q S Z (fuel+1) listed a w:=by
 intro fuel
 induction fuel with
 |zero=>
  intro listed a w _ _ hr hy hS H;refine ⟨fun h=>(by rw [h] at hr;cases hr),fun j hj=>?_⟩;by_cases hji:j=i
  ·subst hji;exact hy.wpOp hi hS ⟨fun _=>hS,H⟩
  ·have:=ready_mono hj hji
   rw [H.1] at this
   cases this
 |succ fuel ih=>
  intro listed a w hfree hlc hr hy hS H;refine ⟨fun h=>(by rw [h] at hr;cases hr),fun j hj=>?_⟩;by_cases hji:j=i
  ·subst hji;exact hy.wpOp hi hS ⟨fun _=>hS,H⟩
  ·have h1:=H.2 j (ready_mono hj hji)
   obtain ⟨hjun,oj,hoj,hall⟩:=mem_ready.1 hj
   have off:∀k,listed.getD k true=false->listed.getD k false=true->False:=fun k h0 h1=>by
    rcases abE k listed.size with h'|h'
    ·simp [h'] at h0 h1;rw [h0] at h1;cases h1
    ·simp [Array.getElem?_eq_none h'] at h1
   have hjC:j∉C:=fun hc=>by
    obtain ⟨e,he,hb,hon⟩:=hC j hc oj hoj;have h1:=hall e he hb;rcases hon with hon|hon
    ·rw [hon] at h1;exact off i (mem_ready.1 hr).1 h1
    ·exact off e.on (hlc _ hon) h1
   have hnot:∀e∈oj.after,ad8 md e=true->e.on≠i:=fun e he hb heq=>by
    have h1:=hall e he hb;rw [heq] at h1;exact off i (mem_ready.1 hr).1 h1
   have hzs:∀(l:Array Bool),(∀c∈C,l.getD c true=false)->∀k,k∉C->∀c∈C,(l.setIfInBounds k true).getD c true=false:=fun l hl k hk c hc=>by
    by_cases e:k=c
    ·exact absurd (by rw [e];exact hc) hk
    ·rw [getD_set_ne true e];exact hl c hc
   have h2:=wpOp_putIf hoj (hfree j oj hoj hji hjun hnot) (fun cs b=>hsel i oi cs b hi) (fun cs b=>hsel j oj cs b hoj) hQ hy h1
   have hfree':∀k ok,ops[k]?=some ok->k≠i->(listed.setIfInBounds j true).getD k true=false->
     (∀e∈ok.after,ad8 md e=true->e.on≠i)->oi.apart ops ok=true:=fun k ok hk hki hun hno=>by
    refine hfree k ok hk hki ?_ hno;by_cases hjk:j=k
    ·subst hjk;exact hjun
    ·rw [getD_set_ne true hjk] at hun;exact hun
   refine wpOp_mono (fun a' w' h3=>?_) h2;have hS':S w':=h3.2.1 fun z hz=>hzs _ (hzs _ hlc i hiC) j hjC z (hZ z hz);refine ⟨fun _=>hS',ih (listed.setIfInBounds j true) a' w' hfree' (hzs _ hlc j hjC) (ready_mono hr (Ne.symm hji)) h3.1 hS' ?_⟩;rw [Array.setIfInBounds_comm _ _ hji];exact h3.2.2
def QD (md:aeh) (ops:Array Oper) (listed:Array Bool) (C Z:List Nat) (i:Nat):Bool:=
 Z.all (fun z=>C.contains z)&& !C.contains i&&C.all fun c=> !listed.getD c true&&match ops[c]? with
  |some oc=>oc.after.any fun e=>ad8 md e&&(e.on==i||C.contains e.on)
  |none=>true
theorem QE {i:Nat} {oi:Oper} {v:Value} {fuel:Nat} {listed:Array Bool} {a:Act} {w:World} (C:List Nat) (hi:ops[i]?=some oi)
  (hs:aei ops=true) (hf:aej md ops listed i=true) (hr:(ad4 md ops listed).contains i=true) (hc:QD md ops listed C Z i=true)
  (hQ:∀c a w,Q (.panic c) (a.put oi.dst v) w->Q (.panic c) a w) (hy:YieldsIf P ops S oi v a) (hS:S w)
  (h:wpAnyL P md ops Q S Z fuel (listed.setIfInBounds i true) (a.put oi.dst v) w):wpAnyL P md ops Q S Z (fuel+1) listed a w:=by
 unfold QD at hc;simp only [Bool.and_eq_true,SI,Bool.not_eq_true',List.contains_eq_mem,decide_eq_true_eq] at hc;obtain ⟨⟨h1,h2⟩,h3⟩:=hc;refine wpAnyL_first (C:=C) hi (Region.noSelect_spec hs) hQ h1 (by simpa using h2) (fun c hc oc hoc=>?_) fuel listed a w (Region.free_spec hi hf) (fun c hc=>(h3 c hc).1) (by simpa using hr) hy hS h;have:=(h3 c hc).2;rw [hoc] at this;simp only [Array.any_eq_true',Bool.and_eq_true,Bool.or_eq_true,beq_iff_eq,decide_eq_true_eq] at this;exact this
theorem JA {rs:List Nat} {fuel:Nat} {listed:Array Bool} {a:Act} {w:World} (hr:ad4 md ops listed=rs) (hne:rs≠[])
  (h:∀i∈rs,wpOp P ops Q i (fun a' w'=>((∀z∈Z,(listed.setIfInBounds i true).getD z true=false)->S w')/\wpAnyL P md ops Q S Z fuel (listed.setIfInBounds i true) a' w') a w):wpAnyL P md ops Q S Z (fuel+1) listed a w:=
 ⟨fun h0=>absurd (hr▸h0) hne,hr▸h⟩
theorem QF {id:Nat} {a:Act} {w:World} (Z:List Nat) (hm:P.follows .mixedOrders=true)
  (h:wpAnyL P .any ops Q S Z ops.size (Array.replicate ops.size false) a {w with drawn:=w.drawn+1}):(Code.region id ops true).wp P Q a w:=
 wp_region_any hm (Jz _ _ _ _ h)
theorem aR (i:Nat) (C:List Nat) (d:Option Tmp) {fuel:Nat} {listed:Array Bool} {a a2:Act} {w:World} {oi:Oper} {v:Value} (hi:ops[i]?=some oi) (hd:oi.dst=d)
  (h:wpAnyL P md ops Q S Z fuel (listed.setIfInBounds i true) a2 w) (hs:aei ops=true:=by kernel_rfl) (hf:aej md ops listed i=true:=by kernel_rfl) (hr:(ad4 md ops listed).contains i=true:=by kernel_rfl) (hc:QD md ops listed C Z i=true:=by kernel_rfl)
  (hw:aaH oi (yielded ops a.tmps)=true:=by rfl) (hS:S w:=by assumption) (hy:∀w,S w->(execOp a.eval oi).run P w= .ok (.value v) w:=by (intro w hSw;(try rw [hSS] at hSw);(try dsimp only at hSw);go_simp;try with_reducible rfl))
  (ha:a.put d v=a2:=by ((try simp only [Act.put,List.setIfInBounds_toArray,List.set_cons_zero,List.set_cons_succ]);exact rfl))
  (hQ:∀c a w,Q (.panic c) (a.put d v) w->Q (.panic c) a w:=by exact fun _ _ _ h=>h):wpAnyL P md ops Q S Z (fuel+1) listed a w:=by
 subst hd ha;exact QE C hi hs hf hr hc hQ (.inl ⟨hw,hy⟩) hS h
theorem dN {fuel:Nat} {listed:Array Bool} {a a2:Act} {w:World} (h:wpAnyL P md ops Q S Z fuel listed a2 w) (ha:a=a2:=by ((try simp only [Act.put,List.setIfInBounds_toArray,List.set_cons_zero,List.set_cons_succ]);exact rfl)):wpAnyL P md ops Q S Z fuel listed a w:=by
 subst ha;exact h
theorem d9 (i:Nat) {fuel:Nat} {listed:Array Bool} {a:Act} {w:World} {oi:Oper} (hi:ops[i]?=some oi) (hr:ad4 md ops listed=[i]) (hw:aaH oi (yielded ops a.tmps)=true)
  (h:oi.wp P a w (fun a' w'=>((∀z∈Z,(listed.setIfInBounds i true).getD z true=false)->S w')/\wpAnyL P md ops Q S Z fuel (listed.setIfInBounds i true) a' w') Q):wpAnyL P md ops Q S Z (fuel+1) listed a w:=by
 refine JA hr (by simp) fun j hj=>?_;simp only [aaW] at hj;subst hj;unfold wpOp;rw [hi];simp only [hw,if_true];exact .inl h
theorem sF (i:Nat) (d:Option Tmp) {fuel:Nat} {listed:Array Bool} {a:Act} {w:World} {oi:Oper} {f:FuncId} {args:Array Value} {post:Ending->World->Prop} (hi:ops[i]?=some oi) (hd:oi.dst=d) (hr:ad4 md ops listed=[i]) (hw:aaH oi (yielded ops a.tmps)=true)
  (hop:(execOp a.eval oi).run P w= .ok (.enter f args) w) (hc:Calls P f args w post)
  (h:∀e w',post e w'->∃u,e= .returned u/\S w'/\wpAnyL P md ops Q S Z fuel (listed.setIfInBounds i true) (a.put d u) w'):wpAnyL P md ops Q S Z (fuel+1) listed a w:=by
 subst hd;refine d9 i hi hr hw ?_;unfold Oper.wp;rw [hop];simp only [Oper.upon];refine hc.mono fun e w' he=>?_;obtain ⟨u,rfl,h1,h2⟩:=h e w' he;exact ⟨fun _=>h1,h2⟩
theorem bO {id:Nat} {a:Act} {w:World} (Z:List Nat) (hm:P.follows .mixedOrders=true) (hS:S w.drew)
  (h:S w.drew->wpAnyL P .any ops Q S Z ops.size (Array.replicate ops.size false) a w.drew):(Code.region id ops true).wp P Q a w:=QF Z hm (h hS)
theorem zL {listed:Array Bool} {w:World} (h:(Z.all fun z=> !listed.getD z true)=false):(∀z∈Z,listed.getD z true=false)->S w:=fun hz=>by
 have:(Z.all fun z=> !listed.getD z true)=true:=SI.2 fun z hz'=>by rw [hz z hz'];rfl
 rw [this] at h;cases h
theorem aj3 (i:Nat) (d:Option Tmp) {fuel:Nat} {listed:Array Bool} {a:Act} {w w':World} {oi:Oper} {v:Value} (hi:ops[i]?=some oi) (hd:oi.dst=d) (hr:ad4 md ops listed=[i]) (hw:aaH oi (yielded ops a.tmps)=true)
  (hop:(execOp a.eval oi).run P w= .ok (.value v) w') (hz:(∀z∈Z,(listed.setIfInBounds i true).getD z true=false)->S w')
  (h:wpAnyL P md ops Q S Z fuel (listed.setIfInBounds i true) (a.put d v) w'):wpAnyL P md ops Q S Z (fuel+1) listed a w:=by
 subst hd;refine d9 i hi hr hw ?_;unfold Oper.wp;rw [hop];exact ⟨hz,h⟩
theorem Cy (i:Nat) (d:Option Tmp) {fuel:Nat} {listed:Array Bool} {a:Act} {w w':World} {oi:Oper} (hi:ops[i]?=some oi) (hd:oi.dst=d) (hr:ad4 md ops listed=[i]) (hw:aaH oi (yielded ops a.tmps)=true)
  (hop:(execOp a.eval oi).run P w= .ok .skip w') (hz:(∀z∈Z,(listed.setIfInBounds i true).getD z true=false)->S w')
  (h:wpAnyL P md ops Q S Z fuel (listed.setIfInBounds i true) (a.put d undef) w'):wpAnyL P md ops Q S Z (fuel+1) listed a w:=by
 subst hd;refine d9 i hi hr hw ?_;unfold Oper.wp;rw [hop];exact ⟨hz,h⟩
theorem gJ {listed:Array Bool} {a:Act} {w:World} (hr:ad4 md ops listed=[]) (h:Q .normal a w):∀fuel,wpAnyL P md ops Q S Z fuel listed a w
 |0=>⟨hr,h⟩
 |_+1=>⟨fun _=>h,by rw [hr];simp⟩
end
def bD (w:World) (b:Nat) (f n:Int) (Q:Option Addr) (l c:Nat):Prop:=w.heap[b]?=some (.cells #[.int .i64 f,.int .i64 n,.slice Q l c] 29 (0,0))
section
variable {w w':World} {b z:Nat} {f n f' n':Int} {Q Q':Option Addr} {l c l' c':Nat}
theorem bD.at_ (h:bD w b f n Q l c):w.cell? ⟨b,0,none⟩=some (.int .i64 f)/\w.cell? ⟨b,1,none⟩=some (.int .i64 n)/\w.cell? ⟨b,2,none⟩=some (.slice Q l c):=by
 unfold bD at h;exact ⟨by simp [adw,h],by simp [adw,h],by simp [adw,h]⟩
theorem bD.fz (h:bD w b f n Q l c):w.frozen? ⟨b,0,none⟩=false/\w.frozen? ⟨b,1,none⟩=false/\w.frozen? ⟨b,2,none⟩=false:=by
 unfold bD at h;exact ⟨by simp [ad6,h],by simp [ad6,h],by simp [ad6,h]⟩
theorem bD.lt (h:bD w b f n Q l c):b<w.heap.size:=(Array.getElem?_eq_some_iff.1 h).1
theorem bD.below (h:bD w b f n Q l c) (hb:Below z w w') (hz:b<z):bD w' b f n Q l c:=(hb.block b hz).trans h
theorem bD.later (h:bD w b f n Q l c) (hb:Below w.heap.size w w'):bD w' b f n Q l c:=h.below hb h.lt
theorem bD.fr {X:Nat->Prop} (h:bD w b f n Q l c) (hf:Fr X w w') (hx:¬X b):bD w' b f n Q l c:=(hf.block b h.lt hx).trans h
abbrev dB (w:World) (b:Nat) (f n:Int) (Q:Option Addr) (l c:Nat):World:=((w.setCell ⟨b,0,none⟩ (.int .i64 f)).setCell ⟨b,1,none⟩ (.int .i64 n)).setCell ⟨b,2,none⟩ (.slice Q l c)
theorem bD.dB (h:bD w b f n Q l c) (f' n':Int) (Q':Option Addr) (l' c':Nat):bD (dB w b f' n' Q' l' c') b f' n' Q' l' c':=by
 unfold bD at*;exact heap_set (heap_set (heap_set h 0 _) 1 _) 2 _
theorem bD.set1 (h:bD w b f n Q l c) (n':Int):bD (w.setCell ⟨b,1,none⟩ (.int .i64 n')) b f n' Q l c:=heap_set h 1 _
theorem aY {w0:World} (h:Below w0.heap.size w0 w) (hb:w0.heap.size<=b) (u0 u1 u2:Value):Below w0.heap.size w0 (((w.setCell ⟨b,0,none⟩ u0).setCell ⟨b,1,none⟩ u1).setCell ⟨b,2,none⟩ u2):=
 kD (kD (kD h (p:=⟨b,0,none⟩) hb _) (p:=⟨b,1,none⟩) hb _) (p:=⟨b,2,none⟩) hb _
theorem gY {X:Nat->Prop} {w0:World} (h:Fr X w0 w) (hb:X b\/w0.heap.size<=b) (u0 u1 u2:Value):Fr X w0 (((w.setCell ⟨b,0,none⟩ u0).setCell ⟨b,1,none⟩ u1).setCell ⟨b,2,none⟩ u2):=
 ((h.setCell (p:=⟨b,0,none⟩) hb _).setCell (p:=⟨b,1,none⟩) hb _).setCell (p:=⟨b,2,none⟩) hb _
theorem bD.new (w:World) (f n:Int) (Q:Option Addr) (l c:Nat):bD (w.alloc (.cells #[.int .i64 f,.int .i64 n,.slice Q l c] 29)) w.heap.size f n Q l c:=heap_alloc_new w _
theorem Ag (w:World) (f n:Int) (Q:Option Addr) (l c:Nat):bD ((w.alloc (.cells #[.int .i64 f,.int .i64 n,.slice Q l c] 29)).alloc (.cells #[.int .i64 0,.int .i64 0,.slice none 0 0] 29)) w.heap.size f n Q l c/\
  bD ((w.alloc (.cells #[.int .i64 f,.int .i64 n,.slice Q l c] 29)).alloc (.cells #[.int .i64 0,.int .i64 0,.slice none 0 0] 29)) (w.heap.size+1) 0 0 none 0 0/\
  Below w.heap.size w ((w.alloc (.cells #[.int .i64 f,.int .i64 n,.slice Q l c] 29)).alloc (.cells #[.int .i64 0,.int .i64 0,.slice none 0 0] 29))/\
  ((w.alloc (.cells #[.int .i64 f,.int .i64 n,.slice Q l c] 29)).alloc (.cells #[.int .i64 0,.int .i64 0,.slice none 0 0] 29)).heap.size=w.heap.size+2:=by
 have hz1:(w.alloc (.cells #[.int .i64 f,.int .i64 n,.slice Q l c] 29)).heap.size=w.heap.size+1:=by simp
 refine ⟨(adM _ _ w.heap.size (by simp)).trans (heap_alloc_new w _),?_,ak (ak (aT _ _) _) _,by simp⟩;have:=bD.new (w.alloc (.cells #[.int .i64 f,.int .i64 n,.slice Q l c] 29)) 0 0 none 0 0
 rwa [hz1] at this
theorem bD.Io (h:bD w b f n Q l c) {o:Nat} {u:Value} (hu:w.cell? ⟨b,o,none⟩=some u):(o=0/\u= .int .i64 f)\/(o=1/\u= .int .i64 n)\/(o=2/\u= .slice Q l c):=by
 obtain ⟨h0,h1,h2⟩:=h.at_
 match o with
 |0=>rw [h0] at hu;injection hu with hu;exact .inl ⟨rfl,hu.symm⟩
 |1=>rw [h1] at hu;injection hu with hu;exact .inr (.inl ⟨rfl,hu.symm⟩)
 |2=>rw [h2] at hu;injection hu with hu;exact .inr (.inr ⟨rfl,hu.symm⟩)
 |o+3=>
  unfold bD at h;simp [adw,h] at hu
def eO (w:World) (b:Nat):Prop:=∃f n Q l c,bD w b f n Q l c/\(0<l->∃g s d t,Q=some ⟨g,0,none⟩/\w.cell? ⟨g,1,none⟩=some (.slice s d t))
theorem eO.zero (h:bD w b f n Q 0 c):eO w b:=⟨f,n,Q,0,c,h,fun h=>absurd h (by omega)⟩
structure fQ (Y:Nat->Prop) (vs:List QV) (Q:Option Addr) (enc:Int->Ut) (ns:List Int) (w:World):Prop where
 m:lD vs Q enc ns w
 z:∀a,Q=some a->a.off=0
 oq:vs≠[]->∀a,Q=some a->¬Y a.block
 ot:∀v∈vs,∀a,v.2.1=some a->¬Y a.block
theorem fQ.step {Y:Nat->Prop} {vs:List QV} {enc:Int->Ut} {ns:List Int} (h:fQ Y vs Q enc ns w) (hb:Below w.heap.size w w'):fQ Y vs Q enc ns w':=⟨h.m.step hb,h.z,h.oq,h.ot⟩
theorem fQ.first {Y:Nat->Prop} {vs:List QV} {enc:Int->Ut} {ns:List Int} (h:fQ Y vs Q enc ns w) (hl:0<vs.length):∃g s d t,Q=some ⟨g,0,none⟩/\w.cell? ⟨g,1,none⟩=some (.slice s d t):=by
 obtain ⟨v,hv⟩:=aD hl;obtain ⟨g,o,e,_,_,c1⟩:=h.m.r.at_ hv;have ho:=h.z _ e;simp only at ho;subst ho;exact ⟨g,_,_,_,e,by simpa using c1⟩
theorem fQ.JB {Y:Nat->Prop} {vs:List QV} {enc:Int->Ut} {ns:List Int} (h:fQ Y vs Q enc ns w) (hs:bD w b f n Q vs.length c):eO w b:=⟨f,n,Q,vs.length,c,hs,h.first⟩
theorem eO.Ah (h:eO w b) {A:Option Addr} {B:Nat} {xs:List Nd} (ha:aM w B A xs) (hne:xs≠[]):∀a,A=some a->a.block≠b:=fun a e hab=>by
 obtain ⟨f,n,Q,l,c,hs,_⟩:=h
 cases xs with
 |nil=>exact hne rfl
 |cons x xs=>
  obtain ⟨g,o,e2,_,_,c1,c2⟩:=ha.at_ (i:=0) (x:=x) rfl;rw [e] at e2;injection e2 with e2
  subst e2;simp only at hab;subst hab;simp only [adO,pO] at c1 c2;rcases hs.Io c1 with ⟨_,e⟩|⟨_,e⟩|⟨_,e⟩<;>cases e
theorem eO.acG (h:eO w b) {Y:Nat->Prop} {vs:List QV} {Q2:Option Addr} {enc:Int->Ut} {ns:List Int} (ht:fQ Y vs Q2 enc ns w) (hl:0<vs.length):∀a,Q2=some a->a.block≠b:=fun a e hab=>by
 obtain ⟨f,n,Q,l,c,hs,_⟩:=h;obtain ⟨g,s,d,t,e2,c1⟩:=ht.first hl;rw [e] at e2;injection e2 with e2
 subst e2;simp only at hab;subst hab;rcases hs.Io c1 with ⟨e,_⟩|⟨_,e⟩|⟨e,_⟩
 ·cases e
 ·cases e
 ·cases e
theorem aM.jw {X:Nat->Prop} {A:Option Addr} {xs:List Nd} (h:aM w w.heap.size A xs) (hf:Fr X w w') (hX:∀k,X k->eO w k):aM w' w'.heap.size A xs:=
 (aM.frame h hf (bN _) fun hne a ha hk=>(hX _ hk).Ah h hne a ha rfl).more hf.size
theorem fQ.past {X Y:Nat->Prop} {vs:List QV} {enc:Int->Ut} {ns:List Int} (h:fQ Y vs Q enc ns w) (hf:Fr X w w') (hX:∀k,X k->eO w k):fQ Y vs Q enc ns w':=by
 refine ⟨⟨fun hne=>?_,h.m.t.1,fun i v t hv ht=>?_⟩,h.z,h.oq,h.ot⟩
 ·obtain ⟨g,o,e,hb,hr⟩:=h.m.r hne
  refine ⟨g,o,e,vv hb hf.size,fun i x hx j u hu=>?_⟩;exact (adN (a:=⟨g,o+i*2+j,none⟩) (hf.block g hb fun hk=>(hX g hk).acG h (adx.2 hne) _ e rfl)).trans (hr i x hx j u hu)
 ·obtain ⟨a,b,c,d⟩:=h.m.t.2 i v t hv ht
  exact ⟨a,b,c,aM.jw d hf hX⟩
theorem sQ.past {X:Nat->Prop} {V:Option Addr} {vs:List (Option Addr×Nat×Nat)} {F:Fl} (h:sQ w V vs F) (hf:Fr X w w') (hX:∀k,X k->eO w k):sQ w' V vs F:=by
 refine ⟨fun hne=>?_,⟨h.s.1,fun i v xs hv hx=>?_⟩,h.c⟩
 ·obtain ⟨g,o,e,hb,hr⟩:=h.r hne
  refine ⟨g,o,e,vv hb hf.size,fun i x hx j u hu=>?_⟩;refine (adN (a:=⟨g,o+i*1+j,none⟩) (hf.block g hb fun hk=>?_)).trans (hr i x hx j u hu);have hF:0<F.length:=by rw [<-h.len];exact adx.2 hne
  obtain ⟨p,hp⟩:=aD hF;obtain ⟨g',o',b2,o2,L,c,e',_,_,_,hL,_,cl,_,cs,_⟩:=h.at_ hp;rw [e] at e'
  cases e';obtain ⟨f,n,Q2,l2,c2,hs,hq⟩:=hX g hk;rcases hs.Io cl with ⟨_,e⟩|⟨_,e⟩|⟨_,e⟩
  ·cases e
  ·cases e
  ·cases e
   obtain ⟨g3,s3,d3,t3,e3,c3⟩:=hq hL
   cases e3;rw [c3] at cs
   cases cs
 ·obtain ⟨a,b⟩:=h.s.2 i v xs hv hx
  exact ⟨a,aM.jw b hf hX⟩
end
end Go.Proofs.Ytblfeokjlecgkaa
