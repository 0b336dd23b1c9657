/- Laid together by a tool from the texts of this seat: OpenCk. Conditions: each theorem's own. -/
import Derived.Test.YtmjdhfbnmmdjiaaGreatJ33
import Derived.Test.YtmjdhfbnmmdjiaaGreatJ14
set_option maxRecDepth 100000
namespace Go.Proofs.YtmjdhfbnmmdjiaaGreat
open _root_.List renaming range->Np,getElem?_map->TW,getElem?_range->aaZ
open Go.Value renaming okWide->aa2,cells->aa3
open Go.World renaming block_lt_of_cell?->Db
open _root_.Classical renaming choose->aaX,choose_spec->aaY
open _root_.ByteArray renaming empty->bZ
open Go.ChangeShapes Go.WideShapes Go.ChangeAt Go.WideMaps Go.WideElems Go.RowKit Go.Deep
section
variable {H:Type} {enc:TypeId×Value->H} {W:World} {base:Nat} {d:DataW H} {p:List MemPlace} {v:Value} {fuel:Nat} {cs:List Value} {X:DataW H×List MemPlace}
theorem PZ:Tryz.prog.cellsOf 36=2:=by kernel_rfl
theorem Sy:Tryz.prog.cellsOf 33=8:=by kernel_rfl
theorem IK:Tryz.prog.cellsOf 9=1:=by kernel_rfl
theorem Sz:Tryz.prog.cellsOf 3=1:=by kernel_rfl
theorem SB:Tryz.prog.cellsOf 2=1:=by kernel_rfl
theorem KF:Tryz.prog.cellsOf 28=1:=by kernel_rfl
theorem tL.out {A:Option Addr} {t:List Nd} (h:bO W W.heap.size A t):tL W (fun _=>False) A t:=fun hne=>by
 obtain ⟨b,o,h1,h2,h3⟩:=h hne;exact ⟨b,o,h1,h2,fun h=>h,h3,.inr fun q hq=>hq.elim⟩
theorem Ch {e:TypeId} {t:TypeId} (ht:Tryz.prog.underlying t=some (.slice e)) {A:Option Addr} {n c:Nat} (hv:aa2 Tryz.prog W .any base t (.slice A n c)):∀a,A=some a->∃b o,a=⟨b,o,none⟩:=by
 intro a ha;subst ha;simp only [aa2,ht,Cell.okWide,Cell.ok,World.has] at hv;obtain ⟨b,o,s⟩:=a;have:s=none:=hv.2.2.2.1;subst this;exact ⟨b,o,rfl⟩
theorem M5 (hf:DataW.trod enc Tryz.prog W 0 (fun _=>true) true fuel 36 cs=some X) (hl:cs.length=2):
  ∃(b:Bn) (e:ByteArray×List Nd),cs=pO b/\b.s=e.1/\b.n=e.2.length/\aA W (fun _=>False) b.A b.c e.2/\F6 [e]:=by
 match cs,hl with
 |[v0,v1],_=>
  obtain ⟨ys,n',_,_,_,hyl,o_⟩:=DataW.trod_struct Tryz.underlying36 hf;have h0:=o_ 0 _ rfl;have h1:=o_ 1 _ rfl;change DataW.trod enc Tryz.prog W 0 _ true n' 9 (([v0,v1].drop 0).take (Tryz.prog.cellsOf 9))=_ at h0;change DataW.trod enc Tryz.prog W 0 _ true n' 28 (([v0,v1].drop 1).take (Tryz.prog.cellsOf 28))=_ at h1;rw [IK] at h0;rw [KF] at h1
  have hne:∀j,j<2->∃y,ys[j]?=some y:=fun j hj=>by
   have:ys.length=2:=hyl;exact aN (by omega)
  obtain ⟨y0,e0⟩:=hne 0 (by omega);obtain ⟨y1,e1⟩:=hne 1 (by omega);obtain ⟨s,hs,_,hsw⟩:=DataW.trod_string Tryz.underlying9 (h0.trans e0);obtain ⟨A,a,ca,hA,tA,lA',sA,oA⟩:=Dw (h1.trans e1);simp at hA hs;subst hA hs
  exact ⟨⟨s,A,a.length,ca⟩,(s,a),rfl,rfl,rfl,⟨tL.out tA,lA'⟩,by simp,fun e he=>by
   simp at he;subst he;exact ⟨hsw,sA,fun x hx=>(oA x hx).s1⟩⟩
theorem P5 (hf:DataW.trod enc Tryz.prog W 0 (fun _=>true) true fuel 33 cs=some X) (hl:cs.length=8):
  ∃(p:Pt) (TA:Option Addr) (tc:Nat) (UA:Option Addr) (uc:Nat),aA W (fun _=>False) TA tc p.T/\aA W (fun _=>False) UA uc p.U/\
   cs=[.int .i64 p.k,.string p.lb,.string p.nm,.string p.bd,.int .i64 p.mn,.int .i64 p.num,.slice TA p.T.length tc,.slice UA p.U.length uc]:=by
 match cs,hl with
 |[v0,v1,v2,v3,v4,v5,v6,v7],_=>
  obtain ⟨ys,n',_,_,_,hyl,o_⟩:=DataW.trod_struct Tryz.underlying33 hf;have h0:=o_ 0 _ rfl;have h1:=o_ 1 _ rfl;have h2:=o_ 2 _ rfl;have h3:=o_ 3 _ rfl;have h4:=o_ 4 _ rfl;have h5:=o_ 5 _ rfl;have h6:=o_ 6 _ rfl;have h7:=o_ 7 _ rfl;change DataW.trod enc Tryz.prog W 0 _ true n' 3 (([v0,v1,v2,v3,v4,v5,v6,v7].drop 0).take (Tryz.prog.cellsOf 3))=_ at h0;change DataW.trod enc Tryz.prog W 0 _ true n' 9 (([v0,v1,v2,v3,v4,v5,v6,v7].drop 1).take (Tryz.prog.cellsOf 9))=_ at h1;change DataW.trod enc Tryz.prog W 0 _ true n' 9 (([v0,v1,v2,v3,v4,v5,v6,v7].drop 2).take (Tryz.prog.cellsOf 9))=_ at h2;change DataW.trod enc Tryz.prog W 0 _ true n' 9 (([v0,v1,v2,v3,v4,v5,v6,v7].drop 3).take (Tryz.prog.cellsOf 9))=_ at h3;change DataW.trod enc Tryz.prog W 0 _ true n' 3 (([v0,v1,v2,v3,v4,v5,v6,v7].drop 4).take (Tryz.prog.cellsOf 3))=_ at h4;change DataW.trod enc Tryz.prog W 0 _ true n' 2 (([v0,v1,v2,v3,v4,v5,v6,v7].drop 5).take (Tryz.prog.cellsOf 2))=_ at h5;change DataW.trod enc Tryz.prog W 0 _ true n' 28 (([v0,v1,v2,v3,v4,v5,v6,v7].drop 6).take (Tryz.prog.cellsOf 28))=_ at h6;change DataW.trod enc Tryz.prog W 0 _ true n' 28 (([v0,v1,v2,v3,v4,v5,v6,v7].drop 7).take (Tryz.prog.cellsOf 28))=_ at h7;rw [Sz] at h0 h4;rw [IK] at h1 h2 h3;rw [SB] at h5;rw [KF] at h6 h7
  have hne:∀j,j<8->∃y,ys[j]?=some y:=fun j hj=>by
   have:ys.length=8:=hyl;exact aN (by omega)
  obtain ⟨y0,e0⟩:=hne 0 (by omega);obtain ⟨y1,e1⟩:=hne 1 (by omega);obtain ⟨y2,e2⟩:=hne 2 (by omega);obtain ⟨y3,e3⟩:=hne 3 (by omega);obtain ⟨y4,e4⟩:=hne 4 (by omega);obtain ⟨y5,e5⟩:=hne 5 (by omega);obtain ⟨y6,e6⟩:=hne 6 (by omega);obtain ⟨y7,e7⟩:=hne 7 (by omega);obtain ⟨k,hk,_,_⟩:=DataW.trod_int Tryz.underlying3 (h0.trans e0);obtain ⟨s1,hs1,_,_⟩:=DataW.trod_string Tryz.underlying9 (h1.trans e1);obtain ⟨s2,hs2,_,_⟩:=DataW.trod_string Tryz.underlying9 (h2.trans e2);obtain ⟨s3,hs3,_,_⟩:=DataW.trod_string Tryz.underlying9 (h3.trans e3);obtain ⟨m,hm,_,_⟩:=DataW.trod_int Tryz.underlying3 (h4.trans e4);obtain ⟨n,hn,_,_⟩:=DataW.trod_int Tryz.underlying2 (h5.trans e5);obtain ⟨TA,t,tc,hT,tT,lT,sT,oT⟩:=Dw (h6.trans e6);obtain ⟨UA,u,uc,hU,tU,lU,sU,oU⟩:=Dw (h7.trans e7);simp at hk hs1 hs2 hs3 hm hn hT hU;subst hk hs1 hs2 hs3 hm hn hT hU;exact ⟨⟨k,s1,s2,s3,m,n,t,u⟩,TA,tc,UA,uc,⟨tL.out tT,lT⟩,⟨tL.out tU,lU⟩,rfl⟩
theorem Wd (hv:aa2 Tryz.prog W .any base 22 v) (h:DataW.Trod enc Tryz.prog W 0 (fun _=>true) true 22 v d p):
  ∃(A:Option Addr) (bs:List Bn) (env:Env) (c:Nat),v= .slice A bs.length c/\mK W W.heap.size A bs/\(A=none->bs=[])/\(∀a,A=some a->∃b o,a=⟨b,o,none⟩)/\dX W (fun _=>False) bs env/\F6 env:=by
 obtain ⟨a0,n0,c0,rfl⟩:=okWide_slice Tryz.underlying22 hv;have hform:=Ch Tryz.underlying22 hv;obtain ⟨fuel,hf⟩:=h;rcases open_slice Tryz.underlying22 hf with ⟨hcs,_⟩|⟨a,len,cap,m,n,D,Pl,hcs,_,hl,hcm,hm,_,hel⟩
 ·simp [aa3] at hcs
  obtain ⟨rfl,rfl,rfl⟩:=hcs;exact ⟨none,[],[],0,rfl,bf.nil,fun _=>rfl,(fun a h=>by cases h),⟨rfl,fun i b e hb _=>by simp at hb⟩,by simp,fun e he=>by simp at he⟩
 ·simp [aa3] at hcs
  obtain ⟨rfl,rfl,rfl⟩:=hcs;simp only [if_true] at hm;subst hm
  have hst:∀i,i<n0->∃q:Bn×(ByteArray×List Nd),(q.1.s=q.2.1/\q.1.n=q.2.2.length/\aA W (fun _=>False) q.1.A q.1.c q.2.2/\F6 [q.2])/\∀j u,(pO q.1)[j]?=some u->W.cell? (a.add (i*2+j))=some u:=fun i hi=>by
   obtain ⟨cs',hc,ht⟩:=hel i (by omega);rw [PZ] at hc;obtain ⟨_,hlen,hat⟩:=World.cells?_some hc;obtain ⟨v,x,rfl,h1,h2,h3,h4⟩:=M5 ht (by simpa using hlen);refine ⟨(v,x),⟨h1,h2,h3,h4⟩,fun j u hu=>?_⟩;have hj:j<2:=by have:=aU hu;rwa [rX] at this
   have:=hat j (by omega);rw [add_add] at this;rw [this];exact hu
  obtain ⟨f,hf2⟩:∃f:Nat->Bn×(ByteArray×List Nd),∀i,i<n0->((f i).1.s=(f i).2.1/\(f i).1.n=(f i).2.2.length/\aA W (fun _=>False) (f i).1.A (f i).1.c (f i).2.2/\F6 [(f i).2])/\∀j u,(pO (f i).1)[j]?=some u->W.cell? (a.add (i*2+j))=some u:=
   ⟨fun i=>if h:i<n0 then aaX (hst i h) else (⟨bZ,none,0,0⟩,(bZ,[])),fun i hi=>by
    simp only [dif_pos hi];exact aaY (hst i hi)⟩
  have hget:∀{β:Type} (g:Nat->β) i x,((Np n0).map g)[i]?=some x->i<n0/\x=g i:=fun g i x hx=>by
   have hi:i<n0:=by have:=aU hx;simpa using this
   rw [TW,aaZ hi] at hx;injection hx with hx
   exact ⟨hi,hx.symm⟩
  have hlen:((Np n0).map fun i=>(f i).1).length=n0:=by simp
  refine ⟨some a,(Np n0).map fun i=>(f i).1,(Np n0).map fun i=>(f i).2,m,by rw [hlen],fun hne=>?_,fun h=>by (cases h),hform,⟨by simp,fun i v x hv hx=>?_⟩,?_,fun x hx=>?_⟩
  ·have hn:0<n0:=by
    rcases Nat.eq_zero_or_pos n0 with h|h
    ·subst h;exact absurd rfl hne
    ·exact h
   obtain ⟨b,off,spot⟩:=a;have h0:=(hf2 0 hn).2 0 _ rfl;have hspot:spot=none:=by simpa [Addr.add] using World.cell?_spot h0
   subst hspot;simp only [add_plain] at hf2;refine ⟨b,off,rfl,Db W _ ((hf2 0 hn).2 0 _ rfl),fun i x hx j u hu=>?_⟩;obtain ⟨hi,rfl⟩:=hget _ i x hx;have:=(hf2 i hi).2 j u hu
   rwa [<-Nat.add_assoc] at this
  ·obtain ⟨hi,rfl⟩:=hget _ i v hv
   obtain ⟨_,rfl⟩:=hget _ i x hx;have:=(hf2 i hi).1;exact ⟨this.1,this.2.1,this.2.2.1⟩
  ·simp only [List.length_map,List.length_range]
   unfold maxLen at hcm;omega
  ·obtain ⟨i,hi,rfl⟩:=List.mem_map.1 hx
   exact (hf2 i (List.mem_range.1 hi)).1.2.2.2.2 _ (by simp)
theorem SC (hv:aa2 Tryz.prog W .any base 24 v) (h:DataW.Trod enc Tryz.prog W 0 (fun _=>true) true 24 v d p):
  ∃(A:Option Addr) (es:List Pt) (c:Nat),v= .slice A es.length c/\jW W (fun _=>False) A es/\es.length<=c/\es.length<=9223372036854775807:=by
 obtain ⟨a0,n0,c0,rfl⟩:=okWide_slice Tryz.underlying24 hv;have hform:=Ch Tryz.underlying24 hv;obtain ⟨fuel,hf⟩:=h;rcases open_slice Tryz.underlying24 hf with ⟨hcs,_⟩|⟨a,len,cap,m,n,D,Pl,hcs,_,hl,hcm,hm,_,hel⟩
 ·simp [aa3] at hcs
  obtain ⟨rfl,rfl,rfl⟩:=hcs;exact ⟨none,[],0,rfl,fun i p hp=>by simp at hp,Nat.le_refl _,by simp⟩
 ·simp [aa3] at hcs
  obtain ⟨rfl,rfl,rfl⟩:=hcs;simp only [if_true] at hm;subst hm;obtain ⟨ab,ao,rfl⟩:=hform a rfl
  have hst:∀i,i<n0->∃p:Pt,zO W (fun _=>False) ab (ao+i*8) p:=fun i hi=>by
   obtain ⟨cs',hc,ht⟩:=hel i (by omega);rw [Sy] at hc;obtain ⟨_,hlen,hat⟩:=World.cells?_some hc;obtain ⟨p,TA,tc,UA,uc,h1,h2,rfl⟩:=P5 ht (by simpa using hlen);simp only [add_plain] at hat;refine ⟨p,TA,tc,UA,uc,h1,h2,?_,?_,?_,?_,?_,?_,?_,?_⟩
   ·exact hat 0 (by omega)
   ·exact hat 1 (by omega)
   ·exact hat 2 (by omega)
   ·exact hat 3 (by omega)
   ·exact hat 4 (by omega)
   ·exact hat 5 (by omega)
   ·exact hat 6 (by omega)
   ·exact hat 7 (by omega)
  obtain ⟨f,hf2⟩:∃f:Nat->Pt,∀i,i<n0->zO W (fun _=>False) ab (ao+i*8) (f i):=
   ⟨fun i=>if h:i<n0 then aaX (hst i h) else default,fun i hi=>by
    simp only [dif_pos hi];exact aaY (hst i hi)⟩
  have hlen:((Np n0).map f).length=n0:=by simp
  refine ⟨some ⟨ab,ao,none⟩,(Np n0).map f,m,by rw [hlen],fun i x hx=>?_,by rw [hlen];exact hl,by rw [hlen];unfold maxLen at hcm;omega⟩;have hi:i<n0:=by have:=aU hx;simpa using this
  rw [TW,aaZ hi] at hx;injection hx with hx
  subst hx;have hat:=hf2 i hi
  have hlt:ab<W.heap.size:=by
   obtain ⟨_,_,_,_,_,_,h0,_⟩:=hat;exact Db W _ h0
  exact ⟨ab,ao,rfl,hlt,fun h=>h,hat,.inr fun q hq=>hq.elim⟩
end
end Go.Proofs.YtmjdhfbnmmdjiaaGreat
