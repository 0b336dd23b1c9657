/- Laid together by a tool from the texts of this seat: ChG Sort RowB RowP RowG. Conditions: each theorem's own. -/
import Derived.Test.YtmjdhfbnmmdjiaaGreatJ07
set_option maxHeartbeats 8000000
set_option maxRecDepth 100000
namespace Go.Proofs.YtmjdhfbnmmdjiaaGreat
open Go.Lib renaming hid->aD
open _root_.And renaming intro->Cj
open _root_.List renaming range->Np,getElem?_eq_getElem->bA,length_cons->mX,mem_of_getElem?->Ox,mem_range->PG,mem_cons_of_mem->Qb,append_nil->lI,length_map->Qx,take_of_length_le->iO,getElem?_eq_some_iff->Ro,drop_eq_getElem_cons->aJ,map_map->S_,getElem?_map->TW,length_take->iW,take_add_one->KV,getElem?_eq_none->Wi,drop_zero->l8,pairwise_iff_getElem->Wj,take_length->pq
open Go.RowKit.Below renaming refl->aF
open _root_.Nat renaming zero_le->bE,zero_add->iC
open _root_.ByteArray renaming empty->bZ
open Go.World renaming block_lt_of_cell?->Db,cell?_of_block->WL
open Go.Value renaming slice->fq
open Go.ByteArray renaming toList_eq->bC
open _root_.Array renaming getElem?_modify->Vj,getElem?_eq_getElem->Wh
open Go.RowKit
theorem Qo {x:Nd} {xt:List Nd} (g:Gd (x::xt)) (s:ByteArray):
  ((dw (aZ (x::xt) (manyN x) 1)).findIdx? (fun n=>(aQ ((x::xt).drop n.toNat)).s.toList==s.toList)=none/\(gN (x::xt)).find? (fun ts=>(aQ ts).s.toList==s.toList)=none)\/
  ∃(k pos:Nat) (ts r:List Nd),(dw (aZ (x::xt) (manyN x) 1)).findIdx? (fun n=>(aQ ((x::xt).drop n.toNat)).s.toList==s.toList)=some k/\(dw (aZ (x::xt) (manyN x) 1))[k]?=some (pos:Int)/\(x::xt).drop pos=ts++r/\Fo 1 ts/\bI ts/\
   (gN (x::xt)).find? (fun ts=>(aQ ts).s.toList==s.toList)=some ts:=by
 have hok:bI xt:=fun z hz=>g.ok z (Qb _ hz);have hd:(x::xt).drop 1=xt++[]:=by rw [lI];rfl
 have hm:=uj (manyN x) 1 xt [] hd hok g.fo.kids
 have e1:(dw (aZ (x::xt) (manyN x) 1)).findIdx? (fun n=>(aQ ((x::xt).drop n.toNat)).s.toList==s.toList)=(dM (manyN x) xt).findIdx? (fun ts=>(aQ ts).s.toList==s.toList):=by
  have h1:=congrArg (fun l=>l.findIdx? (fun y:Nd=>y.s.toList==s.toList)) hm;simp only [List.findIdx?_map] at h1;unfold dw;rw [List.findIdx?_map];exact h1
 rcases JG (p:=fun ts=>(aQ ts).s.toList==s.toList) (dM (manyN x) xt) with ⟨h1,h2⟩|⟨k,ts,h1,h2,h3⟩
 ·exact .inl ⟨e1.trans h1,h2⟩
 ·have hlen:k<(aZ (x::xt) (manyN x) 1).length:=by
   have:=congrArg List.length hm;rw [Qx,Qx] at this;rw [this];exact aU h2
  obtain ⟨pos,hpos⟩:=aN hlen;obtain ⟨ts',r,f1,f2,f3,f4⟩:=uD (manyN x) 1 xt [] hd hok g.fo.kids k pos hpos;rw [h2] at f1;injection f1 with f1
  subst f1;exact .inr ⟨k,pos,ts,r,e1.trans h1,sw hpos,f2,f3,f4,h3⟩
theorem rO (x:Nd) (xt:List Nd) (s:ByteArray):bJ (x::xt) s=if x.k=0 then some wQ else
 if bK x.k=true then ((gN (x::xt)).find? fun ts=>(aQ ts).s.toList==s.toList).map kV else none:=rfl
theorem sK (A:Option Addr) (c:Nat) (t:List Nd) (s:ByteArray) (w:World) (ha:bO w w.heap.size A t) (g:Gd t) (hc:t.length<=c):
  Calls Tryz.prog 91 #[.slice A t.length c,.string s] w (Fw t s w):=by
 rcases t with _|⟨x,xt⟩
 ·exact absurd g.fo.pos (by simp)
 obtain ⟨b,o,rfl,hb,c0,_,_⟩:=ha.at_ (i:=0) (x:=x) rfl;rw [show o+0*3=o by omega] at c0;have HA:=aD (Cj ha g);have hl:=g.len;simp only [mX] at hl hc;clear ha g;simp only [mX];go_enter Tryz.func91,Tryz.ntmps91;go_upto_region 1 with fail
 obtain ⟨w1,hw1⟩:∃w1,w1=((w.alloc (.cells #[.slice (some ⟨b,o,none⟩) (xt.length+1) c] 28)).alloc (.cells #[.string s] 9)):=⟨_,rfl⟩;have hb1:Below w.heap.size w w1:=by rw [hw1];exact aj (aj (aF _ _) _) _
 have k0:w1.cell? ⟨w.heap.size,0,none⟩=some (.slice (some ⟨b,o,none⟩) (xt.length+1) c):=by rw [hw1];simp
 have k1:w1.cell? ⟨w.heap.size+1,0,none⟩=some (.string s):=by
  have h:=heap_alloc_new (w.alloc (.cells #[.slice (some ⟨b,o,none⟩) (xt.length+1) c] 28)) (.cells #[.string s] 9);rw [<-hw1,World.size_alloc] at h;simp [World.cell?,h]
 have hz1:w1.heap.size=w.heap.size+2:=by rw [hw1];simp
 rw [<-hw1];clear hw1;have HB1:=aD hb1;have HK:=aD (Cj k0 (Cj k1 hz1));have c0':=(hb1.cell (p:=⟨b,o,none⟩) hb).trans c0;clear hb1 c0;by_cases h0:x.k=0
 ·have b0:(x.k==0)=true:=by simp [h0]
  have HR:Hid (bJ (x::xt) s=some wQ):=aD (by simp [bJ,aQ,h0]);clear h0;go_wp2_with fail;go_ret2;refine ⟨aj HB1.out _,?_⟩;rw [HR.out];have h:=uZ w1 ⟨0,bZ,0⟩;rw [HK.out.2.2] at h;exact ⟨_,1,rfl,aB.lower h (by omega)⟩
 ·have b0:(x.k==0)=false:=by simp [h0]
  have hd:(x::xt).drop 1=xt++[]:=by rw [lI];rfl
  have hok:bI xt:=fun z hz=>HA.out.2.ok z (Qb _ hz);have hxo:=HA.out.2.ok x (by simp);have Hk:=aD (zY (some ⟨b,o,none⟩) c (x::xt) xt [] x 0 w1 ((HA.out.1.below HB1.out).more HB1.out.size) HA.out.2.len rfl hxo hd hok HA.out.2.fo.kids);have HF:=aD (Qo HA.out.2 s);have Es:=aD (fun j hj=>zW (xs:=x::xt) (manyN x) 1 j hj);have HLen:Hid ((dw (aZ (x::xt) (manyN x) 1)).length=manyN x/\manyN x<=50):=aD ⟨by rw [nK];exact vT _ _ xt [] hd hok HA.out.2.fo.kids,rW hxo⟩;have H0:=aD h0;obtain ⟨L,hL⟩:∃L,L=dw (aZ (x::xt) (manyN x) (0+1)):=⟨_,rfl⟩;have HLe:Hid (L=dw (aZ (x::xt) (manyN x) 1)):=aD hL;rw [<-hL] at Hk;rw [<-HLe.out] at HF HLen;clear h0 hd hok hxo hL;go_wp2_with fail;refine Hk.out.mono ?_;rintro e w2 ⟨A2,c2,rfl,hown2,hb2⟩;have HB2:=aD (au HB1.out hb2);have ji:=(hb2.cell (p:=⟨w.heap.size,0,none⟩) (by show w.heap.size<_;omega)).trans k0;have k1':=(hb2.cell (p:=⟨w.heap.size+1,0,none⟩) (by show w.heap.size+1<_;omega)).trans k1;have hrd:=aB.read eP hown2;have NP:=aD hrd
  have aib:=aD (Uy 115 (.pointer (some ⟨w.heap.size,0,none⟩)) (.pointer (some ⟨w.heap.size+1,0,none⟩)) Qm (fun n=>(aQ ((x::xt).drop n.toNat)).s.toList==s.toList) A2 c2 L w2 hrd (by have:=HLen.out;omega) (by
   intro n hn v hv;rw [HLe.out] at hn;obtain ⟨j,hj,rfl⟩:=List.mem_map.1 hn;have hjl:=Es.out j hj;obtain ⟨y,hy⟩:=aN hjl
   have hh:aQ ((x::xt).drop j)=y:=by
    obtain ⟨_,h2⟩:=Ro.1 hy;rw [aJ hjl];exact h2
   have:=NM w.heap.size (w.heap.size+1) (some ⟨b,o,none⟩) c (x::xt) s y j v hy ((HA.out.1.below (au HB2.out hv)).more (au HB2.out hv).size) ((hv.cell (by have:=hb2.size;show w.heap.size<_;omega)).trans ji) ((hv.cell (by have:=hb2.size;show w.heap.size+1<_;omega)).trans k1');show Calls _ _ _ _ (fun e w''=>e= .returned (.bool ((aQ ((x::xt).drop ((j:Int)).toNat)).s.toList==s.toList))/\_);rw [show ((j:Int)).toNat=j from rfl,hh];exact this))
  have HZ:Hid (w.heap.size+2<=w2.heap.size):=aD (by have:=hb2.size;omega);clear hown2 hb2 hrd k0 k1 c0' hz1;go_wp2_with fail;refine aib.out.mono ?_;rintro e w3 ⟨hk,hb3⟩;have HB3:=aD (au HB2.out hb3);have k0:=(hb3.cell (p:=⟨w.heap.size,0,none⟩) (by have:=HZ.out;show w.heap.size<_;omega)).trans ji;have HR3:=aD (bf.more (bf.below NP.out hb3) hb3.size);clear ji k1' hb3;rcases hk with ⟨hn,rfl⟩|⟨k,hk,rfl⟩
  ·have HR:Hid (bJ (x::xt) s=none):=aD (by
    rcases HF.out with ⟨_,h2⟩|⟨k,_,_,_,h1,_⟩
    ·rw [rO,if_neg H0.out,h2]
     split<;>rfl
    ·rw [hn] at h1;cases h1)
   clear hn;go_wp2_with fail;go_ret2;exact ⟨HB3.out,by rw [HR.out];rfl⟩
  ·obtain ⟨pos,ts,r,hLk,hdp,hf1,hok1,hfind⟩:∃(pos:Nat) (ts r:List Nd),L[k]?=some (pos:Int)/\(x::xt).drop pos=ts++r/\Fo 1 ts/\bI ts/\(gN (x::xt)).find? (fun ts=>(aQ ts).s.toList==s.toList)=some ts:=by
    rcases HF.out with ⟨h1,_⟩|⟨k2,pos,ts,r,h1,h2,h3,h4,h5,h6⟩
    ·rw [hk] at h1;cases h1
    ·rw [hk] at h1
     injection h1 with h1
     subst h1;exact ⟨pos,ts,r,h2,h3,h4,h5,h6⟩
   have hkl:=aU hLk;obtain ⟨lb,lo,rfl,hlb,hlc⟩:=bf.int HR3.out hLk;have HIs:=aD (NJ (some ⟨b,o,none⟩) c x xt w3 ((HA.out.1.below HB3.out).more HB3.out.size));have HC:=aD (Cj hLk (Cj hdp (Cj hf1 (Cj hok1 (Cj hfind (Cj hlc (Cj hlb hkl)))))));clear hLk hdp hf1 hok1 hfind hk hlc;go_wp2_with fail;refine HIs.out.mono ?_;rintro e w4 ⟨rfl,hb4⟩;have nY:=aD (au HB3.out hb4);have ji:=(hb4.cell (p:=⟨w.heap.size,0,none⟩) (by have:=HZ.out;have:=HB3.out.size;have:=Db _ _ k0;exact this)).trans k0;have hlc:=(hb4.cell (p:=⟨lb,lo+k,none⟩) hlb).trans HC.out.2.2.2.2.2.1;clear k0 hb4
   cases hr:bK x.k with
   |false=>
    have HR:Hid (bJ (x::xt) s=none):=aD (by rw [rO,if_neg H0.out,if_neg (by rw [hr];simp)]);clear hr;go_wp2_with fail;go_ret2
    exact ⟨nY.out,by rw [HR.out];rfl⟩
   |true=>
    have HR:Hid (bJ (x::xt) s=some (kV ts)):=aD (by rw [rO,if_neg H0.out,if_pos hr,HC.out.2.2.2.2.1];rfl);clear hr;go_upto_region 7 with fail
    obtain ⟨SS,hSS⟩:∃SS:World->Prop,SS=fun v=>v.cell? ⟨w.heap.size,0,none⟩=some (.slice (some ⟨b,o,none⟩) (xt.length+1) c)/\v.cell? ⟨lb,lo+k,none⟩=some (.int .i64 (pos:Int)):=⟨_,rfl⟩;obtain ⟨wd,hwd⟩:∃wd,wd=w4.drew:=⟨_,rfl⟩;have bM:Hid (Below w.heap.size w wd):=aD (by rw [hwd];exact nY.out.drew);have hsd:SS wd:=by rw [hSS,hwd];exact ⟨ji,hlc⟩
    have Hpt:=aD (Cu (some ⟨b,o,none⟩) c (x::xt) ts r pos wd ((HA.out.1.below bM.out).more bM.out.size) HA.out.2.len (by simp;omega) HC.out.2.1 HC.out.2.2.2.1 HC.out.2.2.1);refine aI (S:=SS) [5] (by kernel_rfl) (by rw [<-hwd];exact hsd) (fun hHeld=>?_);rw [<-hwd] at hHeld ⊢;clear hwd ji hlc;refine aL 0 [5,6,7] (some 27) rfl rfl ?_;refine aL 1 [3,4,5,6,7] (some 28) rfl rfl ?_;refine aL 2 [3,4,5,6,7] (some 29) rfl rfl ?_;refine aL 3 [4,5,6,7] (some 30) rfl rfl ?_;refine aL 4 [5,6,7] (some 31) rfl rfl ?_;refine bD 5 (some 32) rfl rfl (by kernel_rfl) (by rfl) (by kernel_rfl) Hpt.out ?_;rintro e wf ⟨A5,c5,rfl,hown5,hb5⟩;have HP:Hid (dK wf w.heap.size A5 c5 (kV ts)/\Below w.heap.size w wf):=aD ⟨aB.lower hown5 bM.out.size,au bM.out hb5⟩;refine ⟨_,rfl,?_,?_⟩
    ·rw [hSS] at hsd ⊢
     exact ⟨(hb5.cell (Db _ _ hsd.1)).trans hsd.1,(hb5.cell (Db _ _ hsd.2)).trans hsd.2⟩
    clear hown5 hb5;refine aC ?_;refine bB 6 (some 4) rfl rfl (by kernel_rfl) (by rfl) (by go_simp;first|with_reducible rfl|(constructor<;>with_reducible rfl)) (zL (by kernel_rfl)) ?_;refine aC ?_;refine bB 7 (some 5) rfl rfl (by kernel_rfl) (by rfl) (by go_simp;first|with_reducible rfl|(constructor<;>with_reducible rfl)) (zL (by kernel_rfl)) ?_;refine aC ?_;refine bG (by kernel_rfl) ?_ _;clear hHeld hsd;go_wp2_with fail;go_ret2;refine ⟨HP.out.2,?_⟩;rw [HR.out];exact ⟨_,_,rfl,HP.out.1⟩
abbrev dN (w:World) (base:Nat) (A:Option Addr) (cap:Nat) (l:List ByteArray):Prop:=aB 9 1 uh w base A cap l
theorem JH (s:ByteArray):∀u∈uh s,u.oneCell'=true:=by
 intro u hu;simp [uh] at hu;subst hu;rfl
theorem NQ:(Tryz.prog.info? 9).map (fun i=>(i.zero,i.size,i.bytes))=some (some (.string bZ),1,16):=by kernel_rfl
theorem mJ (w:World) (s:ByteArray):q9 (w.alloc (.cells #[.string s] 9)) (w.heap.size+1) (some ⟨w.heap.size,0,none⟩) [s]:=fun _=>by
 refine ⟨w.heap.size,0,rfl,by omega,fun i x hx j u hu=>?_⟩
 match i,hx with
 |0,hx=>
  simp at hx;subst hx
  have hj:j=0:=by
   have:=aU hu;rw [j6] at this;omega
  subst hj;simp [uh] at hu;subst hu
  simp
 |i+1,hx=>simp at hx
section
variable {w:World} {ops:Array Oper} {rest:List Oper} {o:Oper} {a:Act} {Q:Exit->Act->World->Prop}
theorem mU (hgd:o.guard=none) (s x:Operand)
  (ho:o.op= .call {callee:=.builtin .append,args:=#[s,x],argTypes:=#[39,39]})
  (base:Nat) {A:Option Addr} {cap m n:Nat} {l:List ByteArray} (hm:l.length=m) (hs:a.eval s= .slice A m cap) (hown:dN w base A cap l) {B:Nat} {A2:Option Addr} {c:Nat} {l2:List ByteArray} (hn:l2.length=n) (hx:a.eval x= .slice A2 n c) (hr:q9 w B A2 l2)
  (hlen:m+n<=1000000000000) (hbase:base<=w.heap.size)
  (h:∀A' cap' w',dN w' base A' cap' (l++l2)->w.grownBy w' ((fq A l.length cap).ownBlock)->
   ((fq A' (l.length+l2.length) cap').ownBlock=(fq A l.length cap).ownBlock\/(fq A' (l.length+l2.length) cap').ownBlock=some w.heap.size)->wpList Tryz.prog ops Q rest (a.put o.dst (.slice A' (m+n) cap')) w'):wpList Tryz.prog ops Q (o::rest) a w:=by
 subst hm hn;obtain ⟨i0,hi,hz0,hz1,hz2⟩:=info_parts NQ;exact om w j6 JH hgd s x 39 ho base 9 i0 _ 16 Tryz.underlying39 hi hz0 hz1 hz2 rfl (by decide) hs hown hx hr (by unfold maxLen;omega) (by omega) hbase h
end
def Uz (t:List Nd) (w:World) (e:Ending) (w':World):Prop:=
 Below w.heap.size w w'/\match kI t with
  |some l=>∃A1 c1,e= .returned (.tuple #[.slice A1 l.length c1,.int .i64 0])/\dN w' w.heap.size A1 c1 l
  |none=>e= .returned (.tuple #[.slice none 0 0,.int .i64 9])
theorem UC (A:Option Addr) (c:Nat) (t:List Nd) (w:World) (ha:bO w w.heap.size A t) (g:Gd t) (hc:t.length<=c):
  Calls Tryz.prog 124 #[.slice A t.length c] w (Uz t w):=by
 rcases t with _|⟨x,xt⟩
 ·exact absurd g.fo.pos (by simp)
 obtain ⟨b,o,rfl,hb,c0,_,_⟩:=ha.at_ (i:=0) (x:=x) rfl;rw [show o+0*3=o by omega] at c0;have HA:=aD (Cj ha g);have hl:=g.len;simp only [mX] at hl hc;clear ha g;simp only [mX];go_enter Tryz.func124,Tryz.ntmps124;by_cases h0:x.k=0
 ·have b0:(x.k==0)=true:=by simp [h0]
  have HR:Hid (kI (x::xt)=some []):=aD (if_pos h0);clear h0;go_wp2_with fail;go_ret2;refine ⟨aF _ _,?_⟩;rw [HR.out];exact ⟨none,0,rfl,aB.nil⟩
 ·have b0:(x.k==0)=false:=by simp [h0]
  by_cases h7:x.k=7
  ·have b7:(x.k==7)=true:=by simp [h7]
   have hd:(x::xt).drop 1=xt++[]:=by rw [lI];rfl
   have hok:bI xt:=fun z hz=>HA.out.2.ok z (Qb _ hz);have hxo:=HA.out.2.ok x (by simp);have Hk:=aD (zY (some ⟨b,o,none⟩) c (x::xt) xt [] x 0 w HA.out.1 HA.out.2.len rfl hxo hd hok HA.out.2.fo.kids);have HH:=aD (uj (manyN x) 1 xt [] hd hok HA.out.2.fo.kids);have Es:=aD (fun j hj=>zW (xs:=x::xt) (manyN x) 1 j hj);have HLen:Hid ((dw (aZ (x::xt) (manyN x) 1)).length=manyN x/\manyN x<=50):=aD ⟨by rw [nK];exact vT _ _ xt [] hd hok HA.out.2.fo.kids,rW hxo⟩
   have HR:Hid (kI (x::xt)=some ((gN (x::xt)).map fun ts=>(aQ ts).s)):=aD (by
    show (if x.k=0 then _ else if x.k=7 then _ else _)=_;rw [if_neg h0,if_pos h7])
   clear h0 h7 hd hok hxo;go_wp2_with fail;refine Hk.out.mono ?_;rintro e w2 ⟨A2,c2,rfl,hown2,hb2⟩;have HB2:=aD hb2;have NP:=aD (aB.read eP hown2);have NK:=aD (aB.lt hown2);clear hown2 hb2;obtain ⟨n,hn⟩:∃n,n=manyN x:=⟨_,rfl⟩;obtain ⟨L,hL⟩:∃L,L=aZ (x::xt) (manyN x) 1:=⟨_,rfl⟩;have cO:Hid ((dw L).length=n/\L.length=n):=aD ⟨by rw [hL,hn];exact HLen.out.1,by rw [hL,hn,<-nK];exact HLen.out.1⟩;have W_:n<=50:=by rw [hn];exact HLen.out.2
   rw [<-hL] at NP Es HH
   have HRs:Hid ((gN (x::xt)).map (fun ts=>(aQ ts).s)=L.map fun pos=>(aQ ((x::xt).drop pos)).s):=aD (by
    have:=congrArg (List.map Nd.s) HH.out;rw [S_,S_] at this;exact this.symm)
   obtain ⟨R,hR⟩:∃R,R=(gN (x::xt)).map fun ts=>(aQ ts).s:=⟨_,rfl⟩;rw [<-hR] at HR HRs;have IY:Hid (R.length=n):=aD (by rw [HRs.out,Qx];exact cO.out.2);simp only [iC];rw [<-hL,cO.out.1];clear hL hn hR;go_upto_region 7 with fail
   go_loopw [4,18] (fun s4 s18 wr=>∃(k:Nat) (A':Option Addr) (c':Nat),k<=n/\s4= .slice A' k c'/\s18= .int .i64 k/\Hid (dN wr w2.heap.size A' c' (R.take k)/\Below w2.heap.size w2 wr)) (fun _ s18 _=>n-(Lib.intOf s18).toNat)
   case atStart=>exact ⟨0,none,0,bE _,rfl,rfl,aD ⟨aB.nil,aF _ _⟩⟩
   case round=>
    obtain ⟨k,A',c',hk,rfl,rfl,HI⟩:=hrel;by_cases hlt:k<n
    ·obtain ⟨pos,hpos⟩:=aN (l:=L) (i:=k) (by rw [cO.out.2];exact hlt)
     have hpl:=Es.out pos (Ox hpos);obtain ⟨y,hy⟩:=aN hpl
     have hRk:R[k]?=some y.s:=by
      rw [HRs.out,TW,hpos];obtain ⟨_,h2⟩:=Ro.1 hy;show some (aQ ((x::xt).drop pos)).s=_;rw [aJ hpl,h2];rfl
     obtain ⟨lb,lo,rfl,hlb,hlc⟩:=bf.int (bf.below NP.out HI.out.2) (sw hpos);obtain ⟨_,_,eA,_,_,ny,_⟩:=((HA.out.1.below HB2.out).more HB2.out.size |>.below HI.out.2).at_ hy;injection eA with eA
     injection eA with eA1 eA2 _
     subst eA1 eA2;simp only [mX] at hpl;have HC:=aD (Cj hRk hlt);have htl:(R.take k).length=k:=by rw [iW,IY.out];omega
     have HT:=aD htl;clear hpos hy hRk htl;go_wp2_with (at_builtin;refine mU rfl (.tmp 22) (.tmp 28) rfl w2.heap.size (m:=k) (n:=1) HT.out rfl (aB.alloc HI.out.1 _) (l2:=[y.s]) rfl rfl (mJ _ _) (by omega) (by have:=HI.out.2.size;simp;omega) ?_;intro A5 c5 w5 hown5 hg5 _)
     have vg:Hid (dN w5 w2.heap.size A5 c5 (R.take (k+1))/\Below w2.heap.size w2 w5):=aD (by
      refine ⟨?_,jw (aj HI.out.2 _) hg5 fun q hq=>(aB.block HI.out.1 q hq).1⟩;rw [KV,HC.out.1];exact hown5)
     clear hown5 hg5;go_wp2_with fail;go_roundw
     case rel=>exact ⟨k+1,A5,c5,HC.out.2,by go_num,by go_num,vg⟩
     case measure=>simp [Lib.intOf];omega
    ·have hkn:k=n:=by omega
     have HQ:Hid (dN wr w.heap.size A' c' R/\Below w.heap.size w wr/\R.length=k):=aD (by
      refine ⟨?_,au HB2.out HI.out.2,by rw [IY.out,hkn]⟩;have:=HI.out.1;rw [iO (by rw [IY.out];omega)] at this;exact aB.lower this HB2.out.size)
     clear hkn;go_wp2_with fail;go_ret2;refine ⟨HQ.out.2.1,?_⟩;rw [HR.out];exact ⟨A',c',by rw [HQ.out.2.2];rfl,HQ.out.1⟩
  ·have b7:(x.k==7)=false:=by simp [h7]
   have HR:Hid (kI (x::xt)=none):=aD (by
    show (if x.k=0 then _ else if x.k=7 then _ else _)=_;rw [if_neg h0,if_neg h7])
   clear h0 h7;go_wp2_with fail;go_ret2;exact ⟨aF _ _,by rw [HR.out];rfl⟩
def lab (ls:List ByteArray) (i:Nat):ByteArray:=(ls[i]?).getD bZ
theorem zf {ls:List ByteArray} {i:Nat} (h:i<ls.length):ls[i]?=some (lab ls i):=by
 unfold lab;rw [bA h];rfl
def Fx {n:Nat} (i:Fin n):Value:=.int .i64 ((i.val:Nat):Int)
def cfF (ls:List ByteArray) (n:Nat) (i j:Fin n):Int:=zN (lab ls i.val) (lab ls j.val)
def kN (a b:ByteArray):Bool:=Op.bytesLess a.toList b.toList
theorem Bg (ls:List ByteArray) (n:Nat) (i j:Fin n):ltOf (cfF ls n) i j=kN (lab ls i.val) (lab ls j.val):=by
 unfold ltOf cfF zN kN
 cases h:Op.bytesLess (lab ls i.val).toList (lab ls j.val).toList
 ·simp
  split<;>omega
 ·simp
theorem DT (a:ByteArray):kN a a=false:=by
 unfold kN;rw [kU];simp [List.lt_irrefl]
theorem Ab {a b c:ByteArray} (h:kN a b=true) (k:kN b c=true):kN a c=true:=by
 unfold kN at*;rw [kU,decide_eq_true_eq] at*;exact List.lt_trans h k
theorem DU {a b c:ByteArray} (h:kN a b=false) (k:kN b c=false):kN a c=false:=by
 unfold kN at*;rw [kU,decide_eq_false_iff_not,List.not_lt] at*;exact List.le_trans k h
theorem KY {a b:ByteArray} (h:kN a b=false) (k:kN b a=false):a=b:=by
 unfold kN at*;rw [kU,decide_eq_false_iff_not,List.not_lt] at*;have e:a.toList=b.toList:=List.le_antisymm k h;rw [bC,bC] at e
 cases a;cases b;simpa using Array.toList_inj.1 e
theorem swo (ls:List ByteArray) (n:Nat):Go.Sort.SWO (ltOf (cfF ls n)) where
 irrefl x:=by rw [Bg];exact DT _
 trans x y z h k:=by rw [Bg] at*;exact Ab h k
 ntrans x y z h k:=by rw [Bg] at*;exact DU h k
section
variable {α:Type} [Inhabited α] (enc:α->Value) (w:World) (g m:Nat) (d:Array α) (os:Array Obj)
theorem pY:w.grownBy (sortWorld enc w g 0 m d os) (some g) where
 os:=rfl
 tape:=rfl
 output:=rfl
 size:=by
  show w.heap.size<=((Go.Sort.putRow enc (Go.Sort.ahead w m) g 0 d).heap++os).size;rw [Array.size_append];show w.heap.size<=(w.heap.modify g _).size+_;rw [Array.size_modify];omega
 block k hk hne:=by
  show ((w.heap.modify g _)++os)[k]?=w.heap[k]?;rw [Array.getElem?_append_left (by rw [Array.size_modify];exact hk),Vj,if_neg (fun e=>hne (by rw [e]))]
theorem vw {c:Array Value} {e:TypeId} {fr:Nat×Nat} (h:w.heap[g]?=some (.cells c e fr)):(sortWorld enc w g 0 m d os).heap[g]?=some (.cells (Go.Sort.putCells enc 0 d c) e fr):=by
 have hk:=lt_of_block h;show ((w.heap.modify g _)++os)[g]?=_;rw [Array.getElem?_append_left (by rw [Array.size_modify];exact hk),Vj,if_pos rfl,h];rfl
end
theorem aB.sorted {n:Nat} {w:World} {base g cap:Nat} {L:List Int} (h:eU w base (some ⟨g,0,none⟩) cap L) (hL:L.length=n) [Inhabited (Fin n)] (d:Array (Fin n)) (hd:d.size=n) (m:Nat) (os:Array Obj):
  eU (sortWorld Fx w g 0 m d os) base (some ⟨g,0,none⟩) cap (dw (d.toList.map Fin.val)):=by
 have hl2:(dw (d.toList.map Fin.val)).length=L.length:=by simp [dw,hd,hL]
 have h':w.ownsRow base 3 1 (.slice (some ⟨g,0,none⟩) L.length cap) L.length (L.flatMap encI):=h;show (sortWorld Fx w g 0 m d os).ownsRow base 3 1 (.slice (some ⟨g,0,none⟩) (dw (d.toList.map Fin.val)).length cap) (dw (d.toList.map Fin.val)).length ((dw (d.toList.map Fin.val)).flatMap encI);rw [hl2];rcases h'.2 with ⟨hv,hn⟩|⟨g',cap',cur,hv,hbg,hg,hnc,hcm,hcs,htake⟩
 ·cases hv
 ·injection hv with hA' hl hc'
  injection hA' with hA'
  injection hA' with hA1
  subst hA1 hc';refine ⟨by rw [jB eP,hl2],.inr ⟨g,cap,_,rfl,hbg,vw Fx w g m d os hg,hnc,hcm,by simp [Go.Sort.putCells];omega,?_⟩⟩;apply List.ext_getElem?;intro k;by_cases hk:k<n
  ·rw [List.getElem?_take_of_lt (by omega)]
   have hkc:k<cur.size:=by omega
   have hkd:k<d.size:=by omega
   rw [qz];simp only [Go.Sort.putCells,Array.getElem?_toList,Array.getElem?_mapIdx,Wh hkc,Option.map_some,TW,dw,Wh hkd];rw [if_pos ⟨bE _,by omega⟩,Nat.sub_zero,getElem!_pos d k hkd];rfl
  ·rw [Wi (by rw [iW];omega),Wi (by rw [jB eP,hl2];omega)]
def aav (p:Bool) (e:Ending):Prop:=∃i:Int,e= .returned (.int .i64 i)/\(p=true->0<=i)/\(p=false->i= -1)
theorem UD (kind:Int) (s:ByteArray) (g:Nat) (w:World) (hg:w.cell? ⟨g,0,none⟩=some (.int .i64 kind)):
  Calls Tryz.prog 126 #[.string s,.pointer (some ⟨g,0,none⟩)] w fun e w'=>e= .returned (.bool (!bR kind s))/\Below w.heap.size w w':=by
 go_enter Tryz.func126,Tryz.ntmps126;go_wp2_with (go_at_call 127;refine (KH _ _ _).mono ?_;rintro e w1 ⟨rfl,hbx⟩);go_ret;exact ⟨rfl,hbx⟩
theorem IZ (A:Option Addr) (c:Nat) (ls:List ByteArray) (kind:Int) (g:Nat) (w:World) (ha:q9 w w.heap.size A ls) (hg:w.cell? ⟨g,0,none⟩=some (.int .i64 kind)) (hgl:g<w.heap.size) (hl:ls.length<=9223372036854775807):
  Calls Tryz.prog 149 #[.slice A ls.length c,.func (.func 126) #[] #[.pointer (some ⟨g,0,none⟩)]] w fun e w'=>aav (kX kind ls 0) e/\Below w.heap.size w w':=by
 have Hg:=aD hg;clear hg;go_enter Tryz.func149,Tryz.ntmps149;go_wp2_with fail;go_loopw [8] (fun i w'=>∃k:Nat,k<=ls.length/\i= .int .i64 k/\Below w.heap.size w w'/\Hid (kX kind ls k=kX kind ls 0)) (fun i _=>ls.length-(intOf i).toNat)
 case atStart=>exact ⟨0,bE _,rfl,aF _ _,aD rfl⟩
 case round=>
  obtain ⟨k,hk,rfl,hbel,hgood⟩:=hrel;by_cases hp:k<ls.length
  ·obtain ⟨x,hx⟩:=aN hp
   have hstep:=aD (IX (kind:=kind) hx);obtain ⟨b1,o1,rfl,hb1,c10⟩:=bf.str (bf.more (bf.below ha hbel) hbel.size) hx;have hg':=aD ((hbel.cell (p:=⟨g,0,none⟩) hgl).trans Hg.out);clear hx
   cases he:bR kind x
   all_goals
    have He:=aD he;clear he;go_wp2_with (go_at_call 126;refine (UD kind x g _ hg'.out).mono ?_;rintro e w1 ⟨rfl,hbx⟩;rw [He.out])
   ·go_ret
    refine ⟨⟨_,rfl,fun _=>by omega,fun h=>?_⟩,au hbel hbx⟩;rw [<-hgood.out,hstep.out,He.out] at h
    cases h
   ·go_roundw
    case rel=>exact ⟨k+1,hp,by go_num,au hbel hbx,aD (by rw [<-hgood.out,hstep.out,He.out,Bool.not_true,Bool.false_or])⟩
    case measure=>simp [intOf];omega
  ·have hend:=aD (KW (kind:=kind) hp)
   go_wp2_with fail;go_ret;refine ⟨⟨_,rfl,fun h=>?_,fun _=>rfl⟩,hbel⟩;rw [<-hgood.out,hend.out] at h
   cases h
theorem CB (A:Option Addr) (c:Nat) (ls:List ByteArray) (kind:Int) (g:Nat) (w:World) (ha:q9 w w.heap.size A ls) (hg:w.cell? ⟨g,0,none⟩=some (.int .i64 kind)) (hgl:g<w.heap.size) (hl:ls.length<=9223372036854775807):
  Calls Tryz.prog 129 #[.slice A ls.length c,.func (.func 126) #[] #[.pointer (some ⟨g,0,none⟩)]] w fun e w'=>e= .returned (.bool (kX kind ls 0))/\Below w.heap.size w w':=by
 have Hg:=aD hg;clear hg
 cases hp:kX kind ls 0
 all_goals
  have Hp:=aD hp;go_enter Tryz.func129,Tryz.ntmps129;go_wp2_with (go_at_call 149;refine (IZ A c ls kind g _ ha Hg.out hgl hl).mono ?_;rintro e w1 ⟨⟨i,rfl,h1,h2⟩,hbx⟩;have H1:=aD h1;have H2:=aD h2;clear h1 h2);go_ret
 ·exact ⟨aT (by rw [H2.out Hp.out];rfl),hbx⟩
 ·exact ⟨aT (by have:=H1.out Hp.out;simpa using this),hbx⟩
theorem UE (A:Option Addr) (c:Nat) (ls:List ByteArray) (g i j:Nat) (a b:ByteArray) (w:World) (hg:w.cell? ⟨g,0,none⟩=some (.slice A ls.length c)) (ha:q9 w w.heap.size A ls) (hi:ls[i]?=some a) (hj:ls[j]?=some b) (_hl:ls.length<=1000000):
  Calls Tryz.prog 131 #[.int .i64 (i:Int),.int .i64 (j:Int),.pointer (some ⟨g,0,none⟩)] w fun e w'=>e= .returned (.int .i64 (zN a b))/\∃q,w'=w.drewN q:=by
 obtain ⟨b1,o1,rfl,hb1,c10⟩:=bf.str ha hi;obtain ⟨_,_,he,_,c11⟩:=bf.str ha hj;simp only [Option.some.injEq,Addr.mk.injEq,and_true] at he;obtain ⟨rfl,rfl⟩:=he;have hil:=aU hi;have hjl:=aU hj;clear hi hj;go_enter Tryz.func131,Tryz.ntmps131;go_wp2_with fail
 go_quiet (first
  |(go_at_call 132;go_loud (refine Calls.quiet_of_same ((KX _ _ _).mono fun e w1 h=>⟨h.1,h.2.symm⟩))))
 go_wp2_with fail;go_ret;exact ⟨rfl,_,rfl⟩
theorem UF (A:Option Addr) (c:Nat) (ls:List ByteArray) (n gl g cap base B:Nat) (w:World) (hn:ls.length=n) (hn6:n<=1000000)
  (hgl:w.cell? ⟨gl,0,none⟩=some (.slice A n c)) (hne:gl≠g) (ha:q9 w B A ls) (hB:B<=g) (hown:eU w base (some ⟨g,0,none⟩) cap (dw (Np n))):
  Calls Tryz.prog 130 #[.slice (some ⟨g,0,none⟩) n cap,.func (.func 131) #[] #[.pointer (some ⟨gl,0,none⟩)]] w fun e w'=>e= .returned (.tuple #[])/\
   ∃os:List Nat,os.Perm (Np n)/\os.Pairwise (fun i j=>kN (lab ls j) (lab ls i)=false)/\eU w' base (some ⟨g,0,none⟩) cap (dw os)/\w.grownBy w' (some g):=by
 match n,hn,hgl,hown with
 |0,hn,hgl,hown=>
  refine (Tryz.slices_SortFunc_none (α:=Nat) (some ⟨g,0,none⟩) cap _ w).mono ?_;rintro e w' ⟨rfl,rfl⟩
  exact ⟨rfl,[],by simp,.nil,hown,⟨rfl,rfl,rfl,Nat.le_refl _,fun _ _ _=>rfl⟩⟩
 |n+1,hn,hgl,hown=>
  have NC:=(aB.block hown g rfl).2;have anA:=Db w _ hgl;have hrange:(dw (Np (n+1))).length=n+1:=by simp [dw]
  have hd:(List.finRange (n+1)).toArray.size=n+1:=by simp
  have hdl:∀j (hj:j<n+1),(List.finRange (n+1)).toArray[j]! =⟨j,hj⟩:=fun j hj=>by
   rw [getElem!_pos _ j (by simpa using hj)];simp
  have H:=Tryz.slices_SortFunc (α:=Fin (n+1)) Fx (fun _=>rfl) (cfF ls (n+1)) (swo ls _) 131 #[.pointer (some ⟨gl,0,none⟩)] g 0 cap (List.finRange (n+1)).toArray w
   (enters_of Tryz.func131 (by kernel_rfl) rfl)
   (CmpReads.lays fun m os dk hdk x y=>by
    rw [hd] at hdk;have hgr:=pY Fx w g m dk os;have hxl:x.val<ls.length:=by rw [hn];exact x.isLt
    have hyl:y.val<ls.length:=by rw [hn];exact y.isLt
    have ha2:q9 (sortWorld Fx w g 0 m dk os) (sortWorld Fx w g 0 m dk os).heap.size A ls:=fun hne2=>by
     obtain ⟨b,o,rfl,hb,hc⟩:=ha hne2;exact ⟨b,o,rfl,Nat.lt_of_lt_of_le (by omega) hgr.size,fun i s hs j u hu=>hgr.cell (hc i s hs j u hu) (by simp;omega)⟩
    exact UE A c ls gl x.val y.val (lab ls x.val) (lab ls y.val) _ (by rw [hn];exact hgr.cell hgl (by simp;omega)) ha2 (zf hxl) (zf hyl) (by omega))
   (fun j hj=>by
    rw [hd] at hj;rw [hdl j hj];have hj2:(dw (Np (n+1)))[j]?=some (j:Int):=by simp [dw,hj]
    obtain ⟨b,o,hA,_,hc⟩:=bf.int (aB.read eP hown) hj2;injection hA with hA
    injection hA with h1 h2 _
    subst h1 h2;exact ⟨hc,by rw [iC];exact World.ownsRow.frozenAt hown j⟩)
   NC (by rw [hd];omega)
  rw [hd] at H;refine H.mono ?_;rintro e w' ⟨rfl,d',k,os,⟨hs,_,hperm⟩,Xa,rfl⟩;rw [hd] at hs;refine ⟨rfl,d'.toList.map Fin.val,?_,?_,aB.sorted hown hrange d' hs k os,pY _ _ _ _ _ _⟩
  ·have e1:(d'.extract 0 (n+1)).toList=d'.toList:=by
    rw [Array.toList_extract,List.extract_eq_take_drop,Nat.sub_zero,l8];exact iO (by simp;omega)
   have e2:((List.finRange (n+1)).toArray.extract 0 (n+1)).toList=List.finRange (n+1):=by
    rw [Array.toList_extract,List.extract_eq_take_drop,Nat.sub_zero,l8];exact iO (by simp)
   rw [e1,e2] at hperm;refine (hperm.map Fin.val).trans (List.Perm.of_eq ?_);apply List.ext_getElem
   ·simp
   ·intro i h1 h2;simp
  ·rw [List.pairwise_map,Wj]
   intro i j hi hj hij;have hi':i<d'.size:=by simpa using hi
   have hj':j<d'.size:=by simpa using hj
   have:=Xa i j (bE _) hij (by omega);rw [Bg,getElem!_pos d' i hi',getElem!_pos d' j hj'] at this;simpa using this
def gZ (s:ByteArray):List Nd->List Nd
 |[]=>[]
 |x::ys=>x.name s::ys
def Bh (ls:List ByteArray) (xss:List (List Nd)) (i:Nat):List Nd:=gZ (lab ls i) ((xss[i]?).getD [])
def CF (kind:Int) (ls:List ByteArray) (xss:List (List Nd)) (os:List Nat):List Nd:=⟨kind,bZ,(xss.length:Int)⟩::os.flatMap (Bh ls xss)
def jQ (kind:Int) (ls:List ByteArray) (n:Nat):Bool:= !bK kind|| !decide (ls.length=n)||decide (50<n)||(decide (kind=7)&&decide (n=0))||kX kind ls 0
def Xb (kind:Int) (ls:List ByteArray) (xss:List (List Nd)) (w:World) (e:Ending) (w':World):Prop:=
 Below w.heap.size w w'/\
 ((jQ kind ls xss.length=true/\e= .returned (.tuple #[.slice none 0 0,.int .i64 1]))\/
  (jQ kind ls xss.length=false/\¬ls.Nodup/\e= .returned (.tuple #[.slice none 0 0,.int .i64 7]))\/
  (jQ kind ls xss.length=false/\∃(os:List Nat) (A':Option Addr) (cap':Nat),os.Perm (Np xss.length)/\os.Pairwise (fun i j=>kN (lab ls i) (lab ls j)=true)/\
   e= .returned (.tuple #[.slice A' (CF kind ls xss os).length cap',.int .i64 0])/\dK w' w.heap.size A' cap' (CF kind ls xss os)))
theorem Qp {ls:List ByteArray} {os:List Nat} (h:os.Pairwise (fun i j=>kN (lab ls j) (lab ls i)=false))
  (hd:∀(j a b:Nat),os[j]?=some a->os[j+1]?=some b->lab ls a≠lab ls b):os.Pairwise (fun i j=>kN (lab ls i) (lab ls j)=true):=by
 rw [Wj] at h ⊢;intro i j hi hj hij
 cases hlt:kN (lab ls os[i]) (lab ls os[j])
 ·exfalso
  have h1:i+1<os.length:=by omega
  have hle1:=h i (i+1) hi h1 (by omega)
  have hge:kN (lab ls os[i]) (lab ls os[i+1])=false:=by
   by_cases hj1:j=i+1
   ·subst hj1;exact hlt
   ·exact DU hlt (h (i+1) j h1 hj (by omega))
  exact hd i _ _ (bA hi) (bA h1) (KY hge hle1)
 ·rfl
theorem Ev (k:Nat):dw (Np (k+1))=dw (Np k)++[(k:Int)]:=by
 rw [List.range_succ,Nh];rfl
theorem JI (out ys:List Nd) (x:Nd) (s:ByteArray):(out++x::ys).set out.length (x.name s)=out++gZ s (x::ys):=by
 rw [List.set_append_right _ _ (Nat.le_refl _)];simp [gZ]
theorem Qq {ls:List ByteArray} {os:List Nat} {k p i:Nat} (ho:os.Perm (Np ls.length)) (hp:os[k]?=some p) (hi:os[k+1]?=some i) (he:((lab ls p).toList==(lab ls i).toList)=true):¬ls.Nodup:=by
 intro hn;have hnd:os.Nodup:=(ho.nodup_iff).2 List.nodup_range;have hpl:p<ls.length:=PG.1 ((ho.mem_iff).1 (Ox hp));have hil:i<ls.length:=PG.1 ((ho.mem_iff).1 (Ox hi));have e1:(lab ls p).toList=(lab ls i).toList:=by simpa using he
 have e2:lab ls p=lab ls i:=by
  refine KY ?_ ?_
  ·unfold kN;rw [e1,kU];simp [List.lt_irrefl]
  ·unfold kN;rw [e1,kU];simp [List.lt_irrefl]
 have e3:ls[p]=ls[i]:=by
  have h1:=zf hpl;have h2:=zf hil;rw [bA hpl] at h1;rw [bA hil] at h2;injection h1 with h1
  injection h2 with h2
  rw [h1,h2,e2]
 have e4:p=i:=(List.getElem_inj hn).1 e3;subst e4;have h1:=aU hp;have h2:=aU hi;rw [bA h1] at hp;rw [bA h2] at hi;injection hp with hp
 injection hi with hi
 have:=(List.getElem_inj hnd (h₀:=h1) (h₁:=h2)).1 (by rw [hp,hi]);omega
theorem vV (L V:Option Addr) (cl cv:Nat) (kind:Int) (ls:List ByteArray) (vs:List (Option Addr×Nat×Nat)) (xss:List (List Nd)) (w:World) (hL:q9 w w.heap.size L ls) (hV:jU w w.heap.size V vs) (hS:Sls w w.heap.size vs xss)
  (hne:∀xs∈xss,xs≠[]/\xs.length<=1000000000) (hgood:jQ kind ls xss.length=false):
  Calls Tryz.prog 103 #[.int .i64 kind,.slice L ls.length cl,.slice V vs.length cv] w (Xb kind ls xss w):=by
 have dW:=hgood;unfold jQ at dW;simp only [Bool.or_eq_false_iff,Bool.not_eq_false',decide_eq_true_eq,decide_eq_false_iff_not,Bool.and_eq_false_iff] at dW;obtain ⟨⟨⟨⟨h1,h2⟩,h3⟩,h4⟩,h5⟩:=dW;have Xc:=aD hgood;have hvl:vs.length=ls.length:=by rw [hS.1,h2]
 have Hx:=aD h2;rw [hvl];have HS:=aD hS.2;have KZ:=aD hne;have h50:ls.length<=50:=by omega
 obtain ⟨W,hW⟩:∃W,W=(w.alloc (.cells #[.int .i64 kind] 3)).alloc (.cells #[.slice L ls.length cl] 39):=⟨_,rfl⟩;have hWs:W.heap.size=w.heap.size+2:=by rw [hW];simp
 have hbW:Below w.heap.size w W:=by rw [hW];exact aj (aj (aF _ _) _) _
 have c1:W.cell? ⟨w.heap.size,0,none⟩=some (.int .i64 kind):=by rw [hW];simp
 have c2:W.cell? ⟨w.heap.size+1,0,none⟩=some (.slice L ls.length cl):=by rw [hW];simp
 have hL1:=bf.below hL hbW;have hV1:=bf.below hV hbW;have hT1:Hid (∀(i:Nat) (v:Option Addr×Nat×Nat) (xs:List Nd),vs[i]?=some v->xss[i]?=some xs->v.2.1=xs.length/\bO W w.heap.size v.1 xs):=aD fun i v xs hv hx=>⟨(HS.out i v xs hv hx).1,(HS.out i v xs hv hx).2.below hbW⟩;have H1:=aD h1;have H5:=aD h5
 have h7:(kind==7)=false\/((kind==7)=true/\¬ls.length=0):=by
  by_cases h:kind=7
  ·refine .inr ⟨by simp [h],fun h0=>?_⟩
   rcases h4 with h4|h4
   ·exact h4 h
   ·omega
  ·exact .inl (by simpa using h)
 generalize hnn:ls.length=n at*;have UG:=aD hnn;clear h1 h2 h3 h4 h5 hgood hL hV hS hne hnn
 have h7':(kind==7)=false\/((kind==7)=true/\((n:Int)==0)=false):=by
  rcases h7 with h7|⟨h7,h0⟩
  ·exact .inl h7
  ·exact .inr ⟨h7,by rw [beq_eq_false_iff_ne];omega⟩
 clear h7;rcases h7' with h7|⟨h7,h0b⟩
 all_goals
  go_enter Tryz.func103,Tryz.ntmps103;go_wp2_with fail;rw [<-hW];refine (ER _ _ _ _).mono ?_;rintro e w1 ⟨rfl,hbx⟩;rw [H1.out];have c1':=(hbx.cell (p:=⟨w.heap.size,0,none⟩) (by simp;omega)).trans c1;have c2':=(hbx.cell (p:=⟨w.heap.size+1,0,none⟩) (by simp;omega)).trans c2;have z1:=hbx.size;go_wp2_with fail;have hcon:=CB L cl ls kind w.heap.size w1 (bf.more (bf.below hL1 (hbx.mono (by omega))) (by omega)) c1' (by omega) (by rw [UG.out];omega);rw [UG.out] at hcon;refine hcon.mono ?_;rintro e w2 ⟨rfl,hby⟩;rw [H5.out];have hb2:=au hbx hby;clear hcon c1' c2' z1 hbx hby;have z2:=hb2.size;have c1':=(hb2.cell (p:=⟨w.heap.size,0,none⟩) (by simp;omega)).trans c1;have c2':=(hb2.cell (p:=⟨w.heap.size+1,0,none⟩) (by simp;omega)).trans c2;go_wp2_with fail;obtain ⟨w3,hmk,hown3,JB⟩:=Cv w2 W.heap.size n (by omega) z2;rw [hmk];have hb3:=au hb2 (qJ JB);clear hb2 JB c1' c2' hmk;generalize hG:w2.heap.size=G at*;have hGl:G<w3.heap.size:=(aB.block hown3 G rfl).2;go_wp2_with fail
  go_loopw [51] (fun k51 wr=>∃(k:Nat) (M:List Int),k51= .int .i64 k/\k<=n/\M.length=n/\eU wr W.heap.size (some ⟨G,0,none⟩) n M/\Below W.heap.size W wr/\Hid (M.take k=dw (Np k)))
   (fun k51 _=>n-(intOf k51).toNat)
  case atStart=>exact ⟨0,List.replicate n 0,rfl,bE _,by simp,hown3,hb3,aD (by simp [dw])⟩
  case round=>
   clear hown3 hb3 hGl hG w2 z2;obtain ⟨k,M,rfl,hk,UH,hown,hbel,htk⟩:=hrel;have zr:=hbel.size;have hGl:G<wr.heap.size:=(aB.block hown G rfl).2;by_cases hlt:k<n
   ·obtain ⟨g,hg,hbg,NC,⟨m,hm,hcell⟩,hfz,hown2,JC⟩:=hown.Nj (j:=k) (by omega) (k:Int)
    injection hg with hg
    injection hg with hg1 _ _
    subst hg1;have jC:=lN (p:=⟨G,k,none⟩) hbel hbg (.int .i64 (k:Int));have aic:Hid ((M.set k (k:Int)).take (k+1)=dw (Np (k+1))):=aD (by rw [sH _ _ _ (by omega),htk.out,Ev]);have Ct:(M.set k (k:Int)).length=n:=by simp [UH]
    clear hm;go_wp2_with fail;go_roundw
    case rel=>exact ⟨k+1,M.set k (k:Int),by go_num,by omega,Ct,hown2,jC,aic⟩
    case measure=>simp [intOf];omega
   ·have hM:M=dw (Np n):=by
     have hkk:k=n:=by omega
     subst hkk;rw [<-htk.out,<-UH,pq]
    subst hM;have c1':=(hbel.cell (p:=⟨w.heap.size,0,none⟩) (by simp;omega)).trans c1;have c2':=(hbel.cell (p:=⟨w.heap.size+1,0,none⟩) (by simp;omega)).trans c2;have hbG:=(aB.block hown G rfl).1;clear htk UH;go_wp2_with fail;refine (UF L cl ls n (w.heap.size+1) G n W.heap.size w.heap.size wr UG.out (by omega) c2' (by omega) (bf.below hL1 (hbel.mono (by omega))) (by omega) hown).mono ?_;rintro e w4 ⟨rfl,os,hperm,hsort,xB,abM⟩;have CG:Below W.heap.size W w4:=hbel.grown abM zr fun k hk=>by injection hk with hk;omega
    have K3:=aD hperm;have adp:=aD hsort;have abN:os.length=n:=by rw [hperm.length_eq];simp
    clear hlt hk hown hbel abM hsort hperm c1' c2' zr hGl;have z4:=CG.size;have c1':=(CG.cell (p:=⟨w.heap.size,0,none⟩) (by simp;omega)).trans c1;have c2':=(CG.cell (p:=⟨w.heap.size+1,0,none⟩) (by simp;omega)).trans c2;have hone:=uZ w4 ⟨kind,⟨#[]⟩,(n:Int)⟩;have Xd:=aj (aF w4.heap.size w4) (.cells #[.int .i64 kind,.string ⟨#[]⟩,.int .i64 (n:Int)] 49);have Xe:mF w4 w4.heap.size (some ⟨G,0,none⟩) (dw os):=aB.read eP xB;go_wp2_with fail;clear c1' c2' xB
    go_loopw [11,69] (fun s11 i69 wr=>∃(k:Nat) (A':Option Addr) (cap' m:Nat) (out:List Nd),s11= .slice A' m cap'/\i69= .int .i64 k/\k<=n/\m<=1+k*1000000000/\dK wr w4.heap.size A' cap' out/\Below w4.heap.size w4 wr/\
      Hid (m=out.length/\out=⟨kind,⟨#[]⟩,(n:Int)⟩::(os.take k).flatMap (Bh ls xss))/\Hid (∀(j a b:Nat),j+1<k->os[j]?=some a->os[j+1]?=some b->lab ls a≠lab ls b))
     (fun _ i69 _=>n-(intOf i69).toNat)
    case atStart=>exact ⟨0,_,1,1,_,rfl,rfl,bE _,by omega,hone,Xd,aD ⟨rfl,by simp⟩,aD fun j a b h=>by omega⟩
    case round=>
     clear hone Xd;obtain ⟨k,A',cap',m,out,rfl,rfl,hk,hmk,hown,hbel,hout,NR⟩:=hrel;have zr:=hbel.size;have hbelW:Below W.heap.size W wr:=CG.trans (hbel.mono z4);have c1':=(hbelW.cell (p:=⟨w.heap.size,0,none⟩) (by simp;omega)).trans c1;have c2':=(hbelW.cell (p:=⟨w.heap.size+1,0,none⟩) (by simp;omega)).trans c2;have hLw:=bf.below hL1 (hbelW.mono (by omega));have hVw:=bf.below hV1 (hbelW.mono (by omega));by_cases hlt:k<n
     ·obtain ⟨i,hi⟩:=aN (show k<os.length by omega)
      have hin:i<n:=PG.1 ((K3.out.mem_iff).1 (Ox hi));obtain ⟨gb,go,hgo,NC,ho1⟩:=(bf.below Xe hbel).int (show (dw os)[k]?=some (i:Int) by simp [dw,hi]);injection hgo with hgo
      injection hgo with Xf Xg _
      subst Xf Xg;rw [iC] at ho1;obtain ⟨v,hv⟩:=aN (show i<vs.length by omega);obtain ⟨xs,hxs⟩:=aN (show i<xss.length by rw [<-Hx.out];exact hin);obtain ⟨hv1,Ue⟩:=hT1.out i v xs hv hxs;obtain ⟨xne,aii⟩:=KZ.out xs (Ox hxs)
      obtain ⟨x,ys,rfl⟩:∃x ys,xs=x::ys:=by
       cases xs with
       |nil=>exact absurd rfl xne
       |cons x ys=>exact ⟨x,ys,rfl⟩
      have hil:ls[i]?=some (lab ls i):=zf (by rw [UG.out];exact hin);obtain ⟨lb,lo,rfl,hlb,hlc⟩:=hLw.str hil;obtain ⟨vb,vo,rfl,hvb,I4⟩:=hVw.slice hv;rw [hv1] at I4;obtain ⟨hm,ho⟩:=hout.out;have anB:lb<wr.heap.size:=by omega
      have anC:vb<wr.heap.size:=by omega
      have hstep:out++gZ (lab ls i) (x::ys)=⟨kind,⟨#[]⟩,(n:Int)⟩::(os.take (k+1)).flatMap (Bh ls xss):=by
       rw [KV,hi,List.flatMap_append,ho];simp [Bh,hxs]
      have q8:=aD hstep;have Hi:=aD hi;have abO:bO wr w.heap.size v.1 (x::ys):=Ue.below (hbelW.mono (by omega));subst hm;have Hil:=aD hil;clear hi hv hxs Ue xne hil ho hstep hv1 hout hlt;simp only [mX] at aii;have hlt:k<n:=by have:=aU Hi.out;omega
      generalize hlab:lab ls i=s at*;have abP:=aD hlab
      cases k with
      |zero=>
       have Xh:=aD (show ∀(j a b:Nat),j+1<0+1->os[j]?=some a->os[j+1]?=some b->lab ls a≠lab ls b from fun j a b h=>by omega);clear NR hlab;go_wp2_with fail;go_quiet (fail);go_wp2_with (at_builtin;(refine rG rfl (.tmp 93) (.tmp 97) rfl w4.heap.size (l:=out) rfl (aB.drewN hown _) (l2:=x::ys) rfl (abO.drewN _) (by simp;omega) (by simp;omega) ?_;intro A2 cap2 w5 hown5 hg5 _;have Ac:Below w4.heap.size w4 w5:=jw (dH hbel _) hg5 (fun k hk=>(aB.block hown k hk).1);have hx5:(out++x::ys)[out.length]?=some x:=(by simp);obtain ⟨g5,rfl,Xi,aij,aaw,aik,hown6,ail⟩:=aB.WI hown5 (j:=out.length) (x:=x) hx5 s;rw [JI] at hown6;have Qr:=lN (p:=⟨g5,out.length*3+1,none⟩) Ac Xi (.string s);clear hx5;have NS:Below W.heap.size W w5:=CG.trans (Ac.mono z4);have c1x:=(NS.cell (p:=⟨w.heap.size,0,none⟩) (by simp;omega)).trans c1;have c2x:=(NS.cell (p:=⟨w.heap.size+1,0,none⟩) (by simp;omega)).trans c2;have lbx:=(Ac.block lb (by omega)).trans (hbel.block lb (by omega)).symm;have hlx:=(WL (a:=⟨lb,lo+i,none⟩) lbx).trans hlc));go_roundw
       case rel=>exact ⟨0+1,some ⟨g5,0,none⟩,cap2,out.length+(ys.length+1),out++gZ s (x::ys),rfl,by go_num,by omega,by omega,hown6,Qr,aD ⟨by simp [gZ],q8.out⟩,Xh⟩
       case measure=>simp [intOf];omega
      |succ k=>
       obtain ⟨p,hp⟩:=aN (show k<os.length by omega);have hpn:p<n:=PG.1 ((K3.out.mem_iff).1 (Ox hp));obtain ⟨_,_,hgo,_,ho2⟩:=(bf.below Xe hbel).int (show (dw os)[k]?=some (p:Int) by simp [dw,hp]);injection hgo with hgo
       injection hgo with Xf Xg _
       subst Xf Xg;rw [iC] at ho2;obtain ⟨_,_,hl2,_,anD⟩:=hLw.str (zf (show p<ls.length by rw [UG.out];exact hpn));simp only [Option.some.injEq,Addr.mk.injEq,and_true] at hl2;obtain ⟨rfl,rfl⟩:=hl2;generalize Qs:lab ls p=sp at*;have Xj:=aD Qs;have Hp:=aD hp;clear hp
       cases he:(sp.toList==s.toList)
       ·have Xh:=aD (show ∀(j a b:Nat),j+1<k+1+1->os[j]?=some a->os[j+1]?=some b->lab ls a≠lab ls b from fun j a b h ha hb=>by
         by_cases hj:j=k
         ·subst hj
          rw [Hp.out] at ha;rw [Hi.out] at hb;injection ha with ha
          injection hb with hb
          subst ha hb;rw [Xj.out,abP.out];intro e;rw [e] at he;simp at he
         ·exact NR.out j a b (by omega) ha hb)
        clear NR hlab Qs;go_wp2_with fail;go_quiet (fail);go_wp2_with (at_builtin;(refine rG rfl (.tmp 93) (.tmp 97) rfl w4.heap.size (l:=out) rfl (aB.drewN hown _) (l2:=x::ys) rfl (abO.drewN _) (by simp;omega) (by simp;omega) ?_;intro A2 cap2 w5 hown5 hg5 _;have Ac:Below w4.heap.size w4 w5:=jw (dH hbel _) hg5 (fun k hk=>(aB.block hown k hk).1);have hx5:(out++x::ys)[out.length]?=some x:=(by simp);obtain ⟨g5,rfl,Xi,aij,aaw,aik,hown6,ail⟩:=aB.WI hown5 (j:=out.length) (x:=x) hx5 s;rw [JI] at hown6;have Qr:=lN (p:=⟨g5,out.length*3+1,none⟩) Ac Xi (.string s);clear hx5;have NS:Below W.heap.size W w5:=CG.trans (Ac.mono z4);have c1x:=(NS.cell (p:=⟨w.heap.size,0,none⟩) (by simp;omega)).trans c1;have c2x:=(NS.cell (p:=⟨w.heap.size+1,0,none⟩) (by simp;omega)).trans c2;have lbx:=(Ac.block lb (by omega)).trans (hbel.block lb (by omega)).symm;have hlx:=(WL (a:=⟨lb,lo+i,none⟩) lbx).trans hlc));go_roundw
        case rel=>exact ⟨k+1+1,some ⟨g5,0,none⟩,cap2,out.length+(ys.length+1),out++gZ s (x::ys),rfl,by go_num,by omega,by omega,hown6,Qr,aD ⟨by simp [gZ],q8.out⟩,Xh⟩
        case measure=>simp [intOf];omega
       ·have Hnd:=aD (Qq (by rw [UG.out];exact K3.out) Hp.out Hi.out (by rw [Xj.out,abP.out];exact he))
        clear NR hlab Qs;go_wp2_with fail;go_quiet (fail);go_wp2_with fail;go_ret2;exact ⟨au hbW (below_drewN hbelW _),.inr (.inl ⟨Xc.out,Hnd.out,rfl⟩)⟩
     ·have hkk:k=n:=by omega
      go_wp2_with fail;go_ret2;obtain ⟨hm,ho⟩:=hout.out;have hfin:out=CF kind ls xss os:=by rw [ho,hkk,<-abN,pq,abN];unfold CF;rw [<-Hx.out];rfl
      subst hm;rw [hfin] at hown ⊢;refine ⟨au hbW hbelW,.inr (.inr ⟨Xc.out,os,A',cap',by rw [<-Hx.out];exact K3.out,Qp adp.out fun j a b ha hb=>NR.out j a b (by have:=aU hb;omega) ha hb,rfl,aB.lower hown (by omega)⟩)⟩
end Go.Proofs.YtmjdhfbnmmdjiaaGreat
