/- UnifyRuns, walked. Written by gen_runs.py. -/
import Derived.Test.YtblfeokjlecgkaaV15
import Derived.Test.YtblfeokjlecgkaaV20
import Derived.Deep.CutBlock
namespace Go.Proofs.Ytblfeokjlecgkaa
open Go.Lib renaming hid->aC
open _root_.And renaming intro->Gw
open Go.RowKit.Below renaming refl->aT
open _root_.List renaming mem_cons->Gz,mem_map->aaN,mem_append->JQ,mem_of_getElem?->Yt,take_zero->ae6,length_take->zH
open _root_.ByteArray renaming empty->pR
open Go.RowKit
attribute [local go_sem ↓] Go.wp_at_zero Go.wp_at_succ
theorem MV {w:World} {b:Nat} {f n:Int} {Q:Option Addr} {l c:Nat} (h:bD w b f n Q l c):MS w b:=by
 unfold bD at h;refine ⟨fun o v hv=>?_,fun c0 c1 c2 c3 c4 t z e=>?_⟩
 ·simp only [World.cell?,h] at hv
  match o,hv with
  |0,hv=>simp at hv;subst hv;exact ⟨fun l e=>(by cases e),fun p e=>by cases e⟩
  |1,hv=>simp at hv;subst hv;exact ⟨fun l e=>(by cases e),fun p e=>by cases e⟩
  |2,hv=>simp at hv;subst hv;exact ⟨fun l e=>(by cases e),fun p e=>by cases e⟩
  |o+3,hv=>simp at hv
 ·rw [h] at e
  injection e with e
  injection e with e _ _
  have:=congrArg Array.size e;simp at this
theorem wW.caps {w:World} {A:Option Addr} {vs:List zf} {xs:List Stp} (hr:Ae w w.heap.size A vs) (hs:wW w w.heap.size vs xs) {i:Nat} {x:Stp} (hx:xs[i]?=some x):
  ∃(b o:Nat) (A1 B1:Option Addr) (ca cb:Nat),A=some ⟨b,o,none⟩/\b<w.heap.size/\(∀v,Below w.heap.size w v->v.cell? ⟨b,o+i*6,none⟩=some (.slice A1 x.a.length ca)/\v.cell? ⟨b,o+i*6+1,none⟩=some (.slice B1 x.b.length cb)/\v.cell? ⟨b,o+i*6+2,none⟩=some (.string x.l)/\
   v.cell? ⟨b,o+i*6+3,none⟩=some (.int .i64 x.k)/\v.cell? ⟨b,o+i*6+4,none⟩=some (.int .i64 x.n)/\v.cell? ⟨b,o+i*6+5,none⟩=some (.int .i64 x.m))/\(∀v,Below w.heap.size w v->aM v v.heap.size A1 x.a/\aM v v.heap.size B1 x.b)/\x.a.length<=ca/\x.b.length<=cb:=by
 obtain ⟨v,hv⟩:=aD (l:=vs) (i:=i) (by rw [hs.1];exact bf hx);obtain ⟨b,o,hA,hb',c0,c1,c2,c3,c4,c5⟩:=aX.step hr hv;obtain ⟨e1,e2,e3,e4,e5,t1,l1,e6,t2,l2⟩:=hs.2 i v x hv hx;rw [e5] at c0;rw [e6] at c1;rw [e1] at c2;rw [e2] at c3;rw [e3] at c4;rw [e4] at c5;exact ⟨b,o,v.a.1,v.b.1,v.a.2.2,v.b.2.2,hA,hb',fun u hu=>⟨(hu.cell (p:=⟨b,_,none⟩) hb').trans c0,(hu.cell (p:=⟨b,_,none⟩) hb').trans c1,(hu.cell (p:=⟨b,_,none⟩) hb').trans c2,(hu.cell (p:=⟨b,_,none⟩) hb').trans c3,(hu.cell (p:=⟨b,_,none⟩) hb').trans c4,(hu.cell (p:=⟨b,_,none⟩) hb').trans c5⟩,fun u hu=>⟨(t1.below hu).more hu.size,(t2.below hu).more hu.size⟩,l1,l2⟩
theorem Vb {l:List Stp} {i:Nat} {x:Stp} (h:l[i]?=some x):l.take i++[x]=l.take (i+1):=by
 rw [List.take_add_one,h];rfl
theorem iB.alO {Y:Nat->Prop} {U Lo:List Lb} {m0:Int} {l:List Stp} {S:Kn} {ns:List Int} (h:iB U Lo m0 l S ns) (hl:l.length<=12) (h8:m0<=8) {vs:List QV} {Q:Option Addr} {w:World} (ht:fQ Y vs Q (dA S) ns w):vs.length<=1000000:=by
 have h1:=ht.m.len;have h2:=(h.num.len h.j.kg.inv h.j.kg.nn).1;have h3:=h.run.m;omega
theorem aa0 (Y:Nat->Prop) (enc:Int->Ut) (w:World):fQ Y [] none enc [] w:=
 ⟨⟨fun h=>absurd rfl h,rfl,fun i v t hv=>by simp at hv⟩,fun a ha=>(by cases ha),fun h=>absurd rfl h,fun v hv=>by cases hv⟩
theorem Vd {xs:List Stp} (h:∀x∈xs,x.Ok):∀y∈tY xs,y.size<=9223372036854775807:=by
 intro y hy;unfold tY at hy;rcases Gz.1 hy with rfl|hy
 ·decide
 rcases Gz.1 hy with rfl|hy
 ·decide
 obtain ⟨x,hx,hy⟩:=List.mem_flatMap.1 hy;rcases Gz.1 hy with rfl|hy
 ·exact (h x hx).l
 split at hy
 ·rcases JQ.1 hy with hy|hy
  ·obtain ⟨z,hz,rfl⟩:=aaN.1 hy
   exact ((h x hx).a.2 z hz).s1
  ·obtain ⟨z,hz,rfl⟩:=aaN.1 hy
   exact ((h x hx).b.2 z hz).s1
 ·cases hy
def aee (U Lo:List Lb) (s m m0 br:Nat) (xs:List Stp) (i:Nat) (w:World):Prop:=
 ∃(Sp Sd:Kn) (ns:List Int) (vs:List QV) (Q:Option Addr) (cq:Nat),oC U (m0:Int) (xs.take i) Sp/\oI U s m m0 w Sp/\iB U Lo (m0:Int) (xs.take i) Sd ns/\bD w br (m0:Int) Sd.m Q vs.length cq/\fQ (fun k=>SX s m k\/k=br) vs Q (dA Sd) ns w
theorem XI {Y:Nat->Prop} {U Lo:List Lb} {m0:Nat} {xs:List Stp} {i:Nat} {x:Stp} {ok:Bool} {s m:Nat} {w5 w9:World} {Sd:Kn} {ns:List Int} {f g er:Int} {Q9:Option Addr} {l9:Nat} (hg:∀x∈xs,GoodS U (m0:Int) x) (hx:xs[i]?=some x)
  (hno:ok=false->Bad (m0:Int) (mM (xs.take i++[x]))) (hyes:ok=true->∃S',oC U (m0:Int) (xs.take i++[x]) S'/\oI U s m m0 w5 S') (hR:iB U Lo (m0:Int) (xs.take i) Sd ns) (hD:J7 Y U Lo (m0:Int) (xs.take i) x Sd f g Q9 l9 er w9):ok=true/\er=0\/ok=false/\er=9:=by
 have g:=hg x (Yt hx)
 cases ok with
 |true=>
  obtain ⟨Sp,hp,_⟩:=hyes rfl;rcases hD with ⟨_,hn⟩|⟨he,_⟩
  ·exact (hR.no g hn hp).elim
  ·exact .inl ⟨rfl,he⟩
 |false=>
  have hb:=hno rfl;rcases hD with ⟨he,_⟩|⟨_,S',ns',vs',_,_,_,_,hr⟩
  ·exact .inr ⟨rfl,he⟩
  ·exact (hr.run.run.Lh (ZC fun y hy=>by
    rcases JQ.1 hy with hy|hy
    ·exact hg y (List.mem_of_mem_take hy)
    ·simp only [List.mem_singleton] at hy;rw [hy];exact g) (fun τ h=>h) hb).elim
theorem XJ {Y:Nat->Prop} {U Lo:List Lb} {m0:Nat} {xs:List Stp} {i:Nat} {x:Stp} {s m:Nat} {w5 w9:World} {Sd:Kn} {f g:Int} {Q9:Option Addr} {l9:Nat} (hx:xs[i]?=some x)
  (hyes:∃S',oC U (m0:Int) (xs.take i++[x]) S'/\oI U s m m0 w5 S') (hD:J7 Y U Lo (m0:Int) (xs.take i) x Sd f g Q9 l9 0 w9):
  ∃(Sp' Gu:Kn) (ns':List Int) (vs':List QV),Hid ((f=(m0:Int)/\g=Gu.m/\l9=vs'.length)/\oC U (m0:Int) (xs.take (i+1)) Sp'/\oI U s m m0 w5 Sp'/\fQ Y vs' Q9 (dA Gu) ns' w9/\iB U Lo (m0:Int) (xs.take (i+1)) Gu ns'):=by
 obtain ⟨Sp,hp,hs⟩:=hyes;rcases hD with ⟨he,_⟩|⟨_,S',ns',vs',e1,e2,e3,ht,hr⟩
 ·cases he
 ·rw [Vb hx] at hp hr
  exact ⟨Sp,S',ns',vs',aC ⟨⟨e1,e2,e3⟩,hp,hs,ht,hr⟩⟩
set_option maxRecDepth 100000 in
set_option maxHeartbeats 8000000 in
theorem MZ (next:Int) (A:Option Addr) (c:Nat) (vs:List zf) (xs:List Stp) (W:World) (hr:Ae W W.heap.size A vs) (hs:wW W W.heap.size vs xs) (hl:vs.length<=9223372036854775807) (hok:∀x∈xs,x.Ok):
  Calls Try.prog 3 #[.int .i64 next,.slice A vs.length c] W fun e w'=>e= .returned (.bool true)/\Below W.heap.size W w':=by
 have hm:=aC (aaZ next A c vs xs W hr hs hl hok);have H:=aC (Gw hr (Gw hs hok));have hlx:=aC hs.1;clear hr hs hok;go_enter Try.func3,Try.ntmps3;go_wp2_with fail;refine hm.out.mono ?_;clear hm;rintro e w1 ⟨rfl,hb⟩;have B1:=aC hb;clear hb
 cases hmb:z8 next xs with
 |false=>
  clear hmb;go_wp2_with fail;refine (Aq _).mono ?_;rintro e w2 ⟨rfl,hb⟩;go_wp2_with fail;go_ret
  exact ⟨rfl,ah B1.out hb⟩
 |true=>
  obtain ⟨h0,h8,hlen,hU,hmy,hg⟩:=Tn hmb;obtain ⟨m0,rfl⟩:∃m0:Nat,next=(m0:Int):=⟨next.toNat,by omega⟩;have hm8:m0<=8:=by omega
  have alM:vs.length<=12:=by have:=hlx.out;omega
  obtain ⟨U,hUd⟩:∃U,U=tY xs:=⟨_,rfl⟩;obtain ⟨Lo,hLd⟩:∃Lo,Lo=xs.map Stp.l:=⟨_,rfl⟩;have hUs:∀y∈U,y.size<=9223372036854775807:=by rw [hUd];exact Vd H.out.2.2
  have HG:=aC hg
  have HLo:Hid (Lo.length<=30/\∀x∈xs,x.l∈Lo):=aC (by
   rw [hLd];exact ⟨by rw [List.length_map];omega,fun x hx=>aaN.2 ⟨x,hx,rfl⟩⟩)
  have HRt:Hid (∀x∈xs,x.l.size=0->(bB x.a).s=pR/\(bB x.b).s=pR):=aC fun x hx e=>by
   obtain ⟨_,_,r1,r2,_⟩:=Tm (hmy x hx) e;exact ⟨(tT r1).2.1,(tT r2).2.1⟩
  rw [<-hUd] at HG hU;have HUs:=aC hUs;clear hmb hg h0 h8 hUd hl hLd hUs hmy;go_wp2_with fail;refine (TL (m0:Int) w1).mono ?_;rintro e w2 ⟨s,m,rfl,z1,z2,z3,hst,hmap,hb⟩;have N1:=aC (Gw z1 (Gw z2 (Gw z3 (Gw hst (Gw hmap hb)))));clear z1 z2 z3 hst hmap hb;unfold pk;go_wp2_with fail;refine (Ru (m0:Int) w2).mono ?_;rintro e w3 ⟨rfl,hb3⟩;have B3:=aC hb3;clear hb3;go_upto_region 5 with fail
  obtain ⟨w4,hw4⟩:∃w4,w4=w3.alloc (.cells #[.int .i64 (m0:Int),.int .i64 (m0:Int),.slice none 0 0] 29):=⟨_,rfl⟩;rw [<-hw4];obtain ⟨br,hbr⟩:∃br,br=w3.heap.size:=⟨_,rfl⟩;rw [<-hbr];have hsl:s<w2.heap.size:=(Array.getElem?_eq_some_iff.1 N1.out.2.2.2.1).1;have hml:m<w2.heap.size:=N1.out.2.2.2.2.1.lt;have aef:Below w2.heap.size w2 w4:=by rw [hw4];exact ak B3.out _
  have hg1:oI U s m m0 w4 (Kn.zero (m0:Int)):=(Po (by omega) (by omega) N1.out.2.2.1 N1.out.2.2.2.1 N1.out.2.2.2.2.1).aU aef;have s4:bD w4 br (m0:Int) (m0:Int) none 0 0:=by rw [hw4,hbr];exact bD.new _ _ _ _ _ _
  have Uw:Hid (Below W.heap.size W w4):=aC (ah (ah B1.out N1.out.2.2.2.2.2) aef);have HNE:Hid (br≠s/\br≠m):=aC (by have:=B3.out.size;omega)
  have Ie:Hid (W.heap.size<=s/\W.heap.size<=m/\W.heap.size<=br):=aC (by
   have h1:=B1.out.size;have h2:=N1.out.1;have h3:=N1.out.2.1;have h4:=B3.out.size;have h5:=N1.out.2.2.2.2.2.size;omega)
  have HI0:Hid (aee U Lo s m m0 br xs 0 w4):=aC (by
   refine ⟨_,_,[],[],none,0,by rw [ae6];exact oC.start U (by omega),hg1,by rw [ae6];exact iB.start U Lo (by omega),s4,aa0 _ _ _⟩)
  clear hw4 hbr hsl hml aef hg1 s4 B3 N1;go_wp2_with fail;go_loopw [7,8,9,10] (fun s7 _ _ _ wr=>∃i:Nat,s7= .int .i64 i/\i<=vs.length/\Hid (aee U Lo s m m0 br xs i wr)/\Hid (Below W.heap.size W wr)) (fun s7 _ _ _ _=>vs.length-(intOf s7).toNat)
  case atStart=>exact ⟨0,rfl,Nat.zero_le _,HI0,Uw⟩
  case round=>
   obtain ⟨i,rfl,hi,HI,NU⟩:=hrel;by_cases hp:i<vs.length
   ·obtain ⟨x,hx⟩:=aD (show i<xs.length by rw [<-hlx.out];exact hp)
    obtain ⟨Sp,Sd,ns,vq,Q,cq,hRp,hSp,hRd,hsd,htd⟩:=HI.out;obtain ⟨b1,o1,A1,Rv,ca,cb,rfl,hbz,hcs,hty,l1,l2⟩:=wW.caps H.out.1 H.out.2.1 hx;have hsz:=NU.out.size;have hxm:=Yt hx;have hti:(xs.take i).length<=12:=by rw [zH];have:=hlx.out;omega
    obtain ⟨q0,q1,q2,q3,q4,q5⟩:=hcs wr NU.out;have alV:b1<wr.heap.size:=Nat.lt_of_lt_of_le hbz hsz;have hdo:Hid (Calls Try.prog 19 #[pk s,stV x A1 ca Rv cb] wr (Km U s m m0 (xs.take i) x wr)):=aC (afD U s m m0 (xs.take i) x Sp wr A1 Rv ca cb hRp hSp (HG.out x hxm) (by omega) hm8 (hty wr NU.out).1 (hty wr NU.out).2);have Hx:=aC hx;have HCB:=aC (Gw hbz hcs);have HRf:=aC hRd;have HD0:=aC (Gw hsd (Gw htd (Gw hty (Gw l1 (Gw l2 (Gw hxm hti))))));obtain ⟨gm,hgm⟩:∃gm,gm=Sd.m:=⟨_,rfl⟩;obtain ⟨nq,hnq⟩:∃nq,nq=vq.length:=⟨_,rfl⟩;unfold pk stV at hdo;have hlt:∀k,SX s m k->k<wr.heap.size:=l7 hSp.lg;have Z8:=aC hlt;clear hx hty hRp hSp hRd hsd htd l1 l2 hbz hcs HI hxm hti hlt;go_wp2_with fail;refine hdo.out.mono ?_;clear hdo;rintro e w5 ⟨ok,rfl,hf5,hno,hyes⟩;have H5:=aC (Gw hf5 (Gw hno hyes));have rA:Hid (Below W.heap.size W w5):=aC (Q6 Ie.out.1 Ie.out.2.1 NU.out hf5);have agM:¬SX s m br:=fun h=>by rcases h with h|h;exact HNE.out.1 h;exact HNE.out.2 h
    have s5:bD w5 br (m0:Int) gm Q nq cq:=by rw [hgm,hnq];exact HD0.out.1.fr hf5 agM
    have qc:Hid (∀v,Below w5.heap.size w5 v->bD v br (m0:Int) gm Q nq cq):=aC fun v hv=>s5.later hv
    have hDo:Hid (∀v,Below w5.heap.size w5 v->Calls Try.prog 20 #[bS (m0:Int) gm Q nq cq,.agg #[.slice A1 x.a.length ca,.slice Rv x.b.length cb,.string x.l,.int .i64 x.k,.int .i64 x.n,.int .i64 x.m]] v (DoR (fun k=>SX s m k\/k=br) U Lo (m0:Int) (xs.take i) x Sd v)):=aC fun v hv=>by
     have hbv:=ah rA.out hv;have hw:=HD0.out.2.2;rw [hgm,hnq]
     exact aaY HUs.out HRf.out (HG.out x hw.2.2.2.1) (by have:=hw.2.2.2.2;omega) (by omega) HLo.out.1 (fun _=>HLo.out.2 x hw.2.2.2.1) (HRt.out x hw.2.2.2.1) Q cq vq A1 Rv ca cb v ((HD0.out.2.1.YH hf5 fun k hk=>.inl hk).step hv) (fun k hk=>by
      have h1:=hf5.size;have h2:=hv.size;rcases hk with hk|rfl
      ·have:=Z8.out k hk;omega
      ·have:=HD0.out.1.lt;omega) (hw.1 v hbv).1 (hw.1 v hbv).2 hw.2.1 hw.2.2.1
    have HCS:Hid (∀v,Below w5.heap.size w5 v->v.cell? ⟨br,0,none⟩=some (.int .i64 (m0:Int))/\v.cell? ⟨br,1,none⟩=some (.int .i64 gm)/\v.cell? ⟨br,2,none⟩=some (.slice Q nq cq)/\v.cell? ⟨b1,o1+i*6,none⟩=some (.slice A1 x.a.length ca)/\v.cell? ⟨b1,o1+i*6+1,none⟩=some (.slice Rv x.b.length cb)/\v.cell? ⟨b1,o1+i*6+2,none⟩=some (.string x.l)/\v.cell? ⟨b1,o1+i*6+3,none⟩=some (.int .i64 x.k)/\v.cell? ⟨b1,o1+i*6+4,none⟩=some (.int .i64 x.n)/\v.cell? ⟨b1,o1+i*6+5,none⟩=some (.int .i64 x.m)):=aC fun v hv=>by
     obtain ⟨y0,y1,y2⟩:=(qc.out v hv).at_;exact ⟨y0,y1,y2,HCB.out.2 v (ah rA.out hv)⟩
    obtain ⟨ve,hve⟩:∃ve:Int,ve=if ok=true then 0 else 9:=⟨_,rfl⟩
    rw [<-hve];have HVE:=aC hve;clear hf5 hno hyes agM s5 hve hgm hnq q0 q1 q2 q3 q4 q5 alV;go_upto_region 9 with fail
    go_cut [9,10] (fun s9 s10 wx=>∃(b7:Nat) (f g:Int) (Q9:Option Addr) (l9 c9:Nat) (er:Int),s9= .pointer (some ⟨b7,0,none⟩)/\s10= .int .i64 er/\Hid (bD wx b7 f g Q9 l9 c9/\J7 (fun k=>SX s m k\/k=br) U Lo (m0:Int) (xs.take i) x Sd f g Q9 l9 er wx/\Below w5.heap.size w5 wx/\w5.heap.size<=b7))
    case first=>
     obtain ⟨SS,hSS⟩:∃SS:World->Prop,SS=fun v=>v.cell? ⟨br,0,none⟩=some (.int .i64 (m0:Int))/\v.cell? ⟨br,1,none⟩=some (.int .i64 gm)/\v.cell? ⟨br,2,none⟩=some (.slice Q nq cq)/\v.cell? ⟨b1,o1+i*6,none⟩=some (.slice A1 x.a.length ca)/\v.cell? ⟨b1,o1+i*6+1,none⟩=some (.slice Rv x.b.length cb)/\v.cell? ⟨b1,o1+i*6+2,none⟩=some (.string x.l)/\v.cell? ⟨b1,o1+i*6+3,none⟩=some (.int .i64 x.k)/\v.cell? ⟨b1,o1+i*6+4,none⟩=some (.int .i64 x.n)/\v.cell? ⟨b1,o1+i*6+5,none⟩=some (.int .i64 x.m):=⟨_,rfl⟩;have bg:Hid (∀v,Below w5.heap.size w5 v->SS v):=aC fun v hv=>by rw [hSS];exact HCS.out v hv
     refine bO (S:=SS) [] (by kernel_rfl) ?_ (fun hHeld=>?_)
     ·exact bg.out _ (aT _ _).drew
     refine aR 0 [] (some 33) rfl rfl ?_;refine aR 1 [] (some 34) rfl rfl ?_;refine aR 2 [] (some 35) rfl rfl ?_;refine aR 3 [] (some 36) rfl rfl ?_;refine aR 4 [] (some 37) rfl rfl ?_;refine vH 5 9 (by kernel_rfl) rfl rfl (by rfl) (by rfl) ?_ ?_
     ·refine dO (some 38) rfl (by go_simp) (hDo.out _ ((aT _ w5).drew)) ?_
      rintro e w9 ⟨f,g,Q9,l9,c9,er,rfl,H9⟩;have dM:=H9.out.1;have mU:Hid (Below w5.heap.size w5 w9):=aC (ah (aT _ w5).drew dM);clear dM;have xE:=bg.out _ mU.out;refine ⟨.tuple #[bS f g Q9 l9 c9,.int .i64 er],rfl,fun _=>xE,?_⟩;refine dN ?_;refine aR 6 [] (some 32) rfl rfl ?_;refine aR 7 [] (some 39) rfl rfl ?_;refine aR 8 [] (some 40) rfl rfl ?_;refine d9 9 rfl (by kernel_rfl) (by rfl) ?_;refine pq (some 9) w9.heap.size rfl mU.out bg ?_;intro wz1 kC zB fC;have IU:=bg.out _ kC.out;refine d9 10 rfl (by kernel_rfl) (by rfl) ?_;have hle:w5.heap.size<=w9.heap.size:=mU.out.size;refine pz none f g Q9 l9 c9 zB rfl kC.out hle bg ?_;intro wy2 MR xG EW EX;have XD:=bg.out _ xG.out;refine aR 11 [] (some 10) rfl rfl ?_;refine gJ (by kernel_rfl) ?_ _;go_wp2_with fail;go_meet;exact ⟨w9.heap.size,f,g,Q9,l9,c9,er,rfl,rfl,aC ⟨MR,J7.past (by first|exact H9.out.2|exact H9.out.2.step fC.out) EW.out (fun k hk=>by rw [hk];exact eO.zero EX.out),xG.out,hle⟩⟩
     ·refine pq (some 9) w5.heap.size rfl (aT _ w5).drew bg ?_
      intro wz0 iY zC IV;have IW:=bg.out _ iY.out;refine d9 5 rfl (by kernel_rfl) (by rfl) ?_;refine dO (some 38) rfl (by go_simp) (hDo.out _ (iY.out)) ?_;rintro e w9 ⟨f,g,Q9,l9,c9,er,rfl,H9⟩;have dM:=H9.out.1;have mU:Hid (Below w5.heap.size w5 w9):=aC (ah iY.out dM);have Rj:bD w9 w5.heap.size 0 0 none 0 0:=zC.later dM;clear dM;have xE:=bg.out _ mU.out;refine ⟨.tuple #[bS f g Q9 l9 c9,.int .i64 er],rfl,fun _=>xE,?_⟩;refine dN ?_;refine aR 6 [] (some 32) rfl rfl ?_;refine aR 7 [] (some 39) rfl rfl ?_;refine aR 8 [] (some 40) rfl rfl ?_;refine d9 10 rfl (by kernel_rfl) (by rfl) ?_;have hle:w5.heap.size<=w5.heap.size:=Nat.le_refl _;refine pz none f g Q9 l9 c9 Rj rfl mU.out hle bg ?_;intro wy2 MR xG EW EX;have XD:=bg.out _ xG.out;refine aR 11 [] (some 10) rfl rfl ?_;refine gJ (by kernel_rfl) ?_ _;go_wp2_with fail;go_meet;exact ⟨w5.heap.size,f,g,Q9,l9,c9,er,rfl,rfl,aC ⟨MR,J7.past (by first|exact H9.out.2|exact H9.out.2.step fC.out) EW.out (fun k hk=>by rw [hk];exact eO.zero EX.out),xG.out,hle⟩⟩
    case rest=>
     obtain ⟨b7,f,g,Q9,l9,c9,er,rfl,rfl,N9⟩:=hcut;have hse:ok=true/\er=0\/ok=false/\er=9:=XI HG.out Hx.out H5.out.2.1 H5.out.2.2 HRf.out N9.out.2.1;rcases hse with ⟨rfl,rfl⟩|⟨rfl,rfl⟩
     ·obtain rfl:ve=0:=by rw [HVE.out];rfl
      obtain ⟨Sp',Gu,ns',vs',qJ⟩:=XJ Hx.out (by simpa using H5.out.2.2) N9.out.2.1;obtain ⟨ef,eg,el⟩:=qJ.out.1;subst ef eg el;have s7:=N9.out.1;obtain ⟨r0,r1,r2⟩:=s7.at_;have sb:=qc.out wc N9.out.2.2.1;obtain ⟨u0,u1,u2⟩:=sb.at_;obtain ⟨u3,u4,u5⟩:=sb.fz;go_upto_region 15 with fail
      obtain ⟨w6,vB⟩:∃w6,w6=((wc.setCell ⟨br,0,none⟩ (.int .i64 (m0:Int))).setCell ⟨br,1,none⟩ (.int .i64 Gu.m)).setCell ⟨br,2,none⟩ (.slice Q9 vs'.length c9):=⟨_,rfl⟩;rw [<-vB];have qd:Fr (fun k=>k=br) wc w6:=by rw [vB];exact gY (X:=fun k=>k=br) (Fr.refl _ _) (.inl rfl) _ _ _
      have s6:bD w6 br (m0:Int) Gu.m Q9 vs'.length c9:=by rw [vB];exact sb.dB _ _ _ _ _
      have hsg:oI U s m m0 w6 Sp':=(qJ.out.2.2.1.aU N9.out.2.2.1).beside (MV sb) (MV sb) (qd.mono fun k hk=>.inl hk) HNE.out HNE.out;have htz:fQ (fun k=>SX s m k\/k=br) vs' Q9 (dA Gu) ns' w6:=qJ.out.2.2.2.1.YH qd fun k hk=>.inr hk
      have hb6:Below W.heap.size W w6:=by
       rw [vB];exact aY (ah rA.out N9.out.2.2.1) Ie.out.2.2 _ _ _
      have IZ:Hid (∀v,Below w6.heap.size w6 v->v.cell? ⟨br,0,none⟩=some (.int .i64 (m0:Int))/\v.cell? ⟨br,1,none⟩=some (.int .i64 Gu.m)/\v.cell? ⟨br,2,none⟩=some (.slice Q9 vs'.length c9)):=aC fun v hv=>(s6.later hv).at_;have H6:=aC (Gw s6 (Gw hsg (Gw htz hb6)));have hA1:Hid (∀v,Below w6.heap.size w6 v->Calls Try.prog 22 #[.pointer (some ⟨s,0,none⟩),.int .i64 (m0:Int)] v (Gl (lq [] (gU m0 Sp')) v)):=aC fun v hv=>UC U s m m0 Sp' v (hsg.aU hv) qJ.out.2.1.run.fit hm8;have hA2:Hid (∀v,Below w6.heap.size w6 v->Calls Try.prog 23 #[bS (m0:Int) Gu.m Q9 vs'.length c9] v (Gl (lq [] (gU m0 Gu)) v)):=aC fun v hv=>UF qJ.out.2.2.2.2.j qJ.out.2.2.2.2.run.run.fit qJ.out.2.2.2.2.num Gu.m Q9 c9 vs' v (qJ.out.2.2.2.2.alO (by rw [zH];have:=hlx.out;omega) (by omega) htz) (htz.step hv).m hm8;have HK:Hid (lq [] (gU m0 Gu)=lq [] (gU m0 Sp')):=aC (Qh qJ.out.2.1.run.most qJ.out.2.2.2.2.run.run.most qJ.out.2.1.run.kg.sh qJ.out.2.1.run.low fun τ=>Iff.rfl);have HSh:=aC (Rx qJ.out.2.1.run.fit);clear vB qd s6 hsg htz hb6 s7 r0 r1 r2 sb u0 u1 u2 u3 u4 u5;obtain ⟨SS,hSS⟩:∃SS:World->Prop,SS=fun v=>v.cell? ⟨br,0,none⟩=some (.int .i64 (m0:Int))/\v.cell? ⟨br,1,none⟩=some (.int .i64 Gu.m)/\v.cell? ⟨br,2,none⟩=some (.slice Q9 vs'.length c9):=⟨_,rfl⟩;have bg:Hid (∀v,Below w6.heap.size w6 v->SS v):=aC fun v hv=>by rw [hSS];exact IZ.out v hv
      refine bO (S:=SS) [] (by kernel_rfl) ?_ (fun hHeld=>?_)
      ·exact bg.out _ (aT _ _).drew
      refine aR 0 [2,4,5,6] (some 48) rfl rfl ?_;refine aR 1 [2,4,5,6] (some 49) rfl rfl ?_;refine aR 3 [4,5,6] (some 51) rfl rfl ?_;refine sF 2 (some 50) rfl rfl (by kernel_rfl) (by rfl) (by go_simp) (hA1.out _ (aT _ w6).drew) ?_;rintro e w7 ⟨V1,c1,v1,rfl,k1,ML⟩;have vo:Hid (Below w6.heap.size w6 w7):=aC (ah (aT _ w6).drew ML);have X7:=aC k1;clear ML k1;have sc2:=bg.out _ vo.out;refine ⟨.slice V1 v1.length c1,rfl,sc2,?_⟩;refine dN ?_;refine sF 4 (some 52) rfl rfl (by kernel_rfl) (by rfl) (by go_simp) (hA2.out _ vo.out) ?_;rintro e w8 ⟨V2,c2,v2,rfl,k2,Da⟩;have oO:Hid (Below w6.heap.size w6 w8):=aC (ah vo.out Da);have X8:=aC (Gw (WK V1 v1 _ _ _ X7.out Da) k2);clear Da k2
      have hTy:Hid (Calls Try.prog 21 #[.slice V1 v1.length c1,.slice V2 v2.length c2] w8 fun e w'=>e= .returned (.bool true)/\∃n,w'=w8.drewN n):=aC (by
       have h:=Vz V1 V2 c1 c2 v1 v2 _ _ w8 X8.out.1.1 X8.out.2.1 X8.out.1.2 X8.out.2.2 (by have h1:=X8.out.1.2.1;rw [h1,Oa,CP];omega) HSh.out
       rwa [HK.out,decide_eq_true rfl] at h)
      have sc4:=bg.out _ oO.out;refine ⟨.slice V2 v2.length c2,rfl,sc4,?_⟩;refine dN ?_;refine sF 5 (some 53) rfl rfl (by kernel_rfl) (by rfl) (by go_simp) (hTy.out) ?_;rintro e w9 ⟨rfl,q,rfl⟩;have XA:=bg.out _ (below_drewN oO.out q);refine ⟨.bool true,rfl,XA,?_⟩;refine dN ?_;refine aR 6 [] (some 54) rfl rfl ?_;refine gJ (by kernel_rfl) ?_ _;have hbz:Hid (Below w6.heap.size w6 (w8.drewN q)):=aC (below_drewN oO.out q);go_wp2_with fail;go_roundw
      case rel=>exact ⟨i+1,by go_num,hp,aC ⟨Sp',Gu,ns',vs',Q9,c9,qJ.out.2.1,H6.out.2.1.aU hbz.out,qJ.out.2.2.2.2,H6.out.1.later hbz.out,H6.out.2.2.1.step hbz.out⟩,aC (ah H6.out.2.2.2 hbz.out)⟩
      case measure=>simp [intOf];omega
     ·obtain rfl:ve=9:=by rw [HVE.out];rfl
      have HBw:Hid (Below W.heap.size W wc):=aC (ah rA.out N9.out.2.2.1);go_wp2_with fail;refine (Aq _).mono ?_;rintro e w6 ⟨rfl,hb6⟩;go_wp2_with fail;go_ret;exact ⟨rfl,ah HBw.out hb6⟩
   ·go_wp2_with fail
    refine (Aq _).mono ?_;rintro e w6 ⟨rfl,hb6⟩;go_wp2_with fail;go_ret;exact ⟨rfl,ah NU.out hb6⟩
end Go.Proofs.Ytblfeokjlecgkaa
