/- Laid together by a tool from the texts of this seat: RoW13 Rp13. Conditions: each theorem's own. -/
import Derived.Test.YtblfeokjlecgkaaV16
import Derived.Test.YtblfeokjlecgkaaV18
import Derived.Deep.CutBlock
set_option maxHeartbeats 8000000
set_option maxRecDepth 100000
namespace Go.Proofs.Ytblfeokjlecgkaa
open Go.Lib renaming hid->aC
open _root_.ByteArray renaming empty->pR
open _root_.And renaming intro->Gw
open Go.RowKit.Below renaming refl->aT
open _root_.Nat renaming lt_of_lt_of_le->vv,le_trans->zk,le_succ->ad7,le_refl->bN,zero_le->h_,strongRecOn->afb
open _root_.List renaming mem_of_getElem?->Yt,length_map->aaT,length_reverse->afg,getElem?_map->adg
open Go.World renaming cell?_of_block->adN
open _root_.Classical renaming byContradiction->aax
open Go.RowKit
attribute [local go_sem ↓] Go.wp_at_zero Go.wp_at_succ
theorem UQ {Y:Nat->Prop} {U Lo:List Lb} {m0:Int} {X:Int->Prop} {S0:Kn} {a0 b0:Ut} (hU:∀y∈U,y.size<=9223372036854775807) (hW:Q_ U Lo m0 X S0 a0 b0) (hk:av a0.k=true) (hab:b0.k=a0.k) (ih:∀S c d,r_ S0 a0 b0 S c d->Q_ U Lo m0 X S c d->∀Y,YF Y U Lo m0 X S c d)
  (ns:List Int) (vs:List QV) (Q:Option Addr) (cq:Nat) (A B:Option Addr) (ca cb:Nat) (w:World) (hY:∀k,Y k->k<w.heap.size) (num:fG S0 ns) (hM:fQ Y vs Q (dA S0) ns w) (ha:aM w w.heap.size A (aB pR a0)) (hca:(aB pR a0).length<=ca) (hb:aM w w.heap.size B (aB pR b0)) (hcb:(aB pR b0).length<=cb):
  Calls Try.prog 96 #[bS m0 S0.m Q vs.length cq,.slice A (aB pR a0).length ca,.slice B (aB pR b0).length cb] w (sW Y U Lo m0 X S0 (bF a0 b0) (aJ a0+aJ b0) w):=by
 have HU:=aC hU;have zi:=aC ih;have xq:=aC hY;obtain ⟨s1,s2,hwb,hwz⟩:=Ag w m0 S0.m Q vs.length cq;obtain ⟨wa,gF⟩:∃wa,wa=(w.alloc (.cells #[.int .i64 m0,.int .i64 S0.m,.slice Q vs.length cq] 29)).alloc (.cells #[.int .i64 0,.int .i64 0,.slice none 0 0] 29):=⟨_,rfl⟩;rw [<-gF] at s1 s2 hwb hwz;have hown0:=dV 9 1 nT wa;have hba:Below wa.heap.size wa (wa.alloc (.cells #[] 9)):=ak (aT _ _) _;have hbw:=ah hwb hba
 have M0:Hid (RwM Y U Lo m0 X S0 a0 b0 w wa.heap.size S0 [] ns vs Q cq A a0 ca B b0 cb (some ⟨wa.heap.size,0,none⟩) 0 (wa.alloc (.cells #[] 9))):=aC
  ⟨Cm.start hW.r hk hab,num,⟨(hM.step hbw).m,hM.z,fun hne a ha hy=>by
   rcases hy with hy|⟨hy,_⟩
   ·exact hM.oq hne a ha hy
   ·obtain ⟨b,o,e,hlt,_⟩:=hM.m.r hne
    rw [ha] at e
    cases e;simp only at hy;omega,fun v hv a ha hy=>by
   rcases hy with hy|⟨hy,_⟩
   ·exact hM.ot v hv a ha hy
   ·have:=YG hM.m v hv a ha
    omega⟩,s1.later hba,s2.later hba,⟨hW.r.ga.pend.1,hW.wa,hW.la,rfl⟩,(ha.below hbw).more hbw.size,hca,⟨hW.r.gb.pend.1,hW.wb,hW.lb,rfl⟩,(hb.below hbw).more hbw.size,hcb,hown0,hbw⟩
 obtain ⟨LA,Bf⟩:∃LA,LA=(aB pR a0).length:=⟨_,rfl⟩;obtain ⟨LB,Bg⟩:∃LB,LB=(aB pR b0).length:=⟨_,rfl⟩;have HLA:=aC Bf;have HLB:=aC Bg;rw [<-Bf,<-Bg];have HW0:=aC hW;have HK:=aC hk;have Xz:=aC hwz;clear hU hW ih hY s1 s2 hwb hwz hown0 hba hbw num hM ha hca hb hcb Bf Bg hk hab;go_enter Try.func96,Try.ntmps96;go_wp2_with fail;rw [<-gF];clear gF;go_loopw [1,2,8] (fun s1 s2 s8 wr=>∃(S:Kn) (E:List Lb) (ns:List Int) (vs:List QV) (Q:Option Addr) (cq:Nat) (A:Option Addr) (ta:Ut) (ca:Nat) (B:Option Addr) (tb:Ut) (cb:Nat) (DA:Option Addr) (dc:Nat) (la lb:Nat),s1= .slice A la ca/\s2= .slice B lb cb/\s8= .slice DA E.length dc/\Hid (RwM Y U Lo m0 X S0 a0 b0 w wa.heap.size S E ns vs Q cq A ta ca B tb cb DA dc wr/\la=(aB pR ta).length/\lb=(aB pR tb).length)) (fun _ _ s8 _=>U.length-lenOf s8)
 case atStart=>exact ⟨S0,[],ns,vs,Q,cq,A,a0,ca,B,b0,cb,some ⟨wa.heap.size,0,none⟩,0,LA,LB,rfl,rfl,by rw [Xz.out];rfl,aC ⟨M0.out,HLA.out,HLB.out⟩⟩
 case round=>
  obtain ⟨S,E,ns,vs,Q,cq,A,ta,ca,B,tb,cb,DA,dc,la,lb,rfl,rfl,rfl,M⟩:=hrel;clear M0;obtain ⟨x,p,y,q,rx,ry,ex,ey⟩:=M.out.1.i.known;obtain ⟨Av,Aw⟩:=M.out.1.i.wf;have hpl:=M.out.1.i.pair.len M.out.1.i.fit pR;have hT:=Cq M.out.1.i.j M.out.1.i.fit M.out.1.num
  have hvl:vs.length<=1000000:=by
   have h1:=M.out.1.tab.m.len;have h2:=(M.out.1.num.len M.out.1.i.j.kg.inv M.out.1.i.j.kg.nn).1;have h3:=M.out.1.i.ri.m;have h4:=M.out.1.i.h0.mb;omega
  obtain ⟨xk,hxk⟩:∃xk,xk=aI (inst S.σ) x:=⟨_,rfl⟩;obtain ⟨yk,hyk⟩:∃yk,yk=aI (inst S.σ) y:=⟨_,rfl⟩;rw [<-hxk] at ex;rw [<-hyk] at ey;have hKa:=M.out.1.a.ka;have hKb:=M.out.1.b.ka;rw [ex] at hKa;rw [ey] at hKb
  have yF:Hid (∀v,Below wr.heap.size wr v->Calls Try.prog 56 #[bS m0 S.m Q vs.length cq,.slice A la ca] v (jP v (aB pR (.mk a0.k 0 xk p)))):=aC fun v hv=>by
   have:=m_ m0 S.m Q cq vs S.L S.σ (l6 S) ns hT hvl _ ta pR A ca v (bN _) ((M.out.1.tab.step hv).m) ((M.out.1.am.below hv).more hv.size) M.out.1.ac (M.out.1.a.knT Av hpl.1);rw [hKa,<-M.out.2.1] at this;exact this
  have yG:Hid (∀v,Below wr.heap.size wr v->Calls Try.prog 56 #[bS m0 S.m Q vs.length cq,.slice B lb cb] v (jP v (aB pR (.mk a0.k 0 yk q)))):=aC fun v hv=>by
   have:=m_ m0 S.m Q cq vs S.L S.σ (l6 S) ns hT hvl _ tb pR B cb v (bN _) ((M.out.1.tab.step hv).m) ((M.out.1.bm.below hv).more hv.size) M.out.1.bc (M.out.1.b.knT Aw hpl.2);rw [hKb,<-M.out.2.2] at this;exact this
  rw [ex] at Av hpl;rw [ey] at Aw hpl;have xM:=aC (Gw rx (Gw ry (Gw hxk (Gw hyk (Gw ex ey)))));have C9:=aC (Gw Av (Gw Aw hpl));have HVL:=aC hvl;have S2:Hid (∀v,Below wr.heap.size wr v->v.cell? ⟨w.heap.size,0,none⟩=some (.int .i64 m0)/\v.cell? ⟨w.heap.size,1,none⟩=some (.int .i64 S.m)/\v.cell? ⟨w.heap.size,2,none⟩=some (.slice Q vs.length cq)):=aC fun v hv=>(M.out.1.s.later hv).at_;obtain ⟨NQ,Py⟩:∃NQ,NQ=(aB pR (.mk a0.k 0 xk p)).length:=⟨_,rfl⟩;obtain ⟨NR,Pz⟩:∃NR,NR=(aB pR (.mk a0.k 0 yk q)).length:=⟨_,rfl⟩;have UR:=aC Py;have UW:=aC Pz;clear rx ry ex ey Av Aw hpl hT hKa hKb hxk hyk hvl Py Pz;go_wp2_with fail;obtain ⟨SS,hSS⟩:∃SS:World->Prop,SS=fun v=>v.cell? ⟨w.heap.size,0,none⟩=some (.int .i64 m0)/\v.cell? ⟨w.heap.size,1,none⟩=some (.int .i64 S.m)/\v.cell? ⟨w.heap.size,2,none⟩=some (.slice Q vs.length cq):=⟨_,rfl⟩;have bg:Hid (∀v,Below wr.heap.size wr v->SS v):=aC fun v hv=>by rw [hSS];exact S2.out v hv
  refine bO (S:=SS) [] (by kernel_rfl) ?_ (fun hHeld=>?_)
  ·exact bg.out _ (aT _ _).drew
  refine aR 0 [] (some 22) rfl rfl ?_;refine aR 1 [] (some 23) rfl rfl ?_;refine aR 3 [] (some 25) rfl rfl ?_;refine aR 4 [] (some 26) rfl rfl ?_;refine sF 2 (some 24) rfl rfl (by kernel_rfl) (by rfl) (by go_simp) (yF.out _ (aT _ wr).drew) ?_;rintro e w1 ⟨A1,c1,rfl,ho1,hb1⟩;have hg1:Hid (Below wr.heap.size wr w1):=aC (ah (aT _ wr).drew hb1);have X1:=aC (Gw ho1.g_ (Gw (aA.cZ ho1) (fun (a:Addr) (ha:A1=some a)=>(aA.lt ho1 a ha).1)));clear ho1 hb1;have sc2:=bg.out _ hg1.out;refine ⟨.slice A1 (aB pR (.mk a0.k 0 xk p)).length c1,rfl,sc2,?_⟩;refine dN ?_;refine sF 5 (some 27) rfl rfl (by kernel_rfl) (by rfl) (by go_simp) (yG.out w1 hg1.out) ?_;rintro e w2 ⟨B1,d1,rfl,ho2,hb2⟩;have hg2:Hid (Below wr.heap.size wr w2):=aC (ah hg1.out hb2);have X2:=aC (Gw ho2.g_ (Gw (aA.cZ ho2) (Gw ((X1.out.1.below hb2).more hb2.size) (fun (a:Addr) (ha:B1=some a)=>zk hg1.out.size (aA.lt ho2 a ha).1))));clear ho2 hb2;have XA:=bg.out _ hg2.out;refine ⟨.slice B1 (aB pR (.mk a0.k 0 yk q)).length d1,rfl,XA,?_⟩;refine dN ?_;refine aR 6 [] (some 1) rfl rfl ?_;refine aR 7 [] (some 2) rfl rfl ?_;refine gJ (by kernel_rfl) ?_ _;have TA:Hid (∀v,Below w2.heap.size w2 v->aM v v.heap.size A1 (aB pR (.mk a0.k 0 xk p))/\aM v v.heap.size B1 (aB pR (.mk a0.k 0 yk q))):=aC fun v hv=>⟨(X2.out.2.2.1.below hv).more hv.size,(X2.out.1.below hv).more hv.size⟩
  have HKI:Hid (∀v,Below w2.heap.size w2 v->Calls Try.prog 97 #[.slice A1 NQ c1] v (pJ true xk p v)):=aC fun v hv=>by
   have:=jm (.inl C9.out.1) pR A1 c1 v (TA.out v hv).1 (by have:=C9.out.2.2.1;omega) X1.out.2.1;rw [show av (Ut.mk a0.k 0 xk p).k=true from HK.out,<-UR.out] at this;exact this
  have HKJ:Hid (∀v,Below w2.heap.size w2 v->Calls Try.prog 97 #[.slice B1 NR d1] v (pJ true yk q v)):=aC fun v hv=>by
   have:=jm (.inl C9.out.2.1) pR B1 d1 v (TA.out v hv).2 (by have:=C9.out.2.2.2;omega) X2.out.2.1;rw [show av (Ut.mk a0.k 0 yk q).k=true from HK.out,<-UW.out] at this;exact this
  rw [<-UR.out,<-UW.out];clear hSS yF yG;go_wp2_with fail;refine (HKI.out w2 (aT _ _)).mono ?_;rintro e w3 ⟨V1,xK,vw,A3,c3,rfl,h1,h2,h3,h4,h5,h6,h7,h8',h9⟩;have f1:vk w2 V1 xK vw (yC xk) w3:=nG (r:=true) h1 h2 h4 h5 h6;have G1:=aC (Gw f1.JU h5);have W1:=aC (Gw (fun (a:Addr) (ha:V1=some a)=>(aA.lt h1 a ha).1) h8');clear HKI f1 h1 h2 h3 h4 h5 h6 h7 h8' h9;go_wp2_with fail;refine (HKJ.out w3 G1.out.2).mono ?_;rintro e w4 ⟨V2,gq,pF,B3,d3,rfl,h1,h2,h3,h4,h5,h6,h7,h8',h9⟩;have f1:vk w3 V2 gq pF (yC yk) w4:=nG (r:=true) h1 h2 h4 h5 h6;have W2:=aC (Gw (fun (a:Addr) (ha:V2=some a)=>zk G1.out.2.size (aA.lt h1 a ha).1) (fun (v:Option Addr×Nat×Nat) (hv:v∈pF) (a:Addr) (ha:v.1=some a)=>zk G1.out.2.size (h8' v hv a ha)));have G2:=aC (Gw (G1.out.1.below h5) (Gw f1.JU (ah (ah hg2.out G1.out.2) h5)));have Xi:vw.length=xk.length:=G1.out.1.len;have huy:pF.length=yk.length:=f1.JU.len;have GT:=TA.out w4 (ah G1.out.2 h5);have G2p:=aC h5;have EM:=aC GT;rw [Xi,huy];clear HKJ f1 h1 h2 h3 h4 h5 h6 h7 h8' h9 Xi huy GT;have FX:=aC G2.out.1;have FY:=aC G2.out.2.1;have FE:Hid (aX 1 nT w4 w4.heap.size DA E):=aC (aA.read y9 (aA.fr M.out.1.e (Fr.below (X:=fun _=>False) G2.out.2.2) fun _ h=>h.elim));have hlx:xk.length<=1000000:=by have h1:=iP pR a0.k 0 xk p;have h2:=qF (r:=av a0.k) (fs:=xk);have:=C9.out.2.2.1;omega
  have hly:yk.length<=1000000:=by have h1:=iP pR a0.k 0 yk q;have h2:=qF (r:=av a0.k) (fs:=yk);have:=C9.out.2.2.2;omega
  have hEl:E.length<=1000000:=by
   have h1:=iy M.out.1.i.ri.nd fun l hl=>by
    obtain ⟨_,_,g,_⟩:=M.out.1.i.ri.dn l hl x p y q xM.out.1 xM.out.2.1;exact jJ g
   rw [afg] at h1;have h2:(ay x).length=xk.length:=by rw [xM.out.2.2.1];unfold ay aI;simp
   omega
  go_upto_block 2 with fail
  go_cut [13,14] (fun s13 Iz wx=>∃d,wx=w4.drewN d/\s13= .int .i64 (uo (sM xk yk E xk.length)).1/\Iz= .int .i64 (uo (sM xk yk E xk.length)).2)
  case first=>as_aux_lemma=>
   clear M zi HU xq HW0 xM C9 HVL EM UR UW G1 G2 G2p W1 W2 X1 X2 TA S2 bg hHeld;go_wp2_with fail;go_loopw [13,14,15] (fun s13 Iz s15 wr=>∃(n d:Nat),wr=w4.drewN d/\n<=xk.length/\s13= .int .i64 (uo (sM xk yk E n)).1/\Iz= .int .i64 (uo (sM xk yk E n)).2/\s15= .int .i64 (n:Int)) (fun _ _ s15 _=>xk.length-(intOf s15).toNat)
   case atStart=>exact ⟨0,0,rfl,h_ _,rfl,rfl,rfl⟩
   case round=>
    obtain ⟨n,d,rfl,hn,rfl,rfl,rfl⟩:=hrel;by_cases hp:n<xk.length
    ·obtain ⟨f1,hx⟩:=aD hp
     obtain ⟨b,o,b2,o2,L,c,eV,zb,_,_,L0,_,k1,z2,k2,_⟩:=FX.out.at_ hx;subst eV;have Hl:Hid (jo xk n=f1.1):=aC (CU hx);clear hx;go_wp2_with fail;go_loopw [13,14,16] (fun s13 Iz s16 wq=>∃(m e:Nat),wq=w4.drewN e/\m<=yk.length/\s13= .int .i64 (uo (mg xk yk E n (sM xk yk E n) m)).1/\Iz= .int .i64 (uo (mg xk yk E n (sM xk yk E n) m)).2/\s16= .int .i64 (m:Int)) (fun _ _ s16 _=>yk.length-(intOf s16).toNat)
     case atStart=>exact ⟨0,d,rfl,h_ _,rfl,rfl,rfl⟩
     case round=>
      obtain ⟨m,e,rfl,hm,rfl,rfl,rfl⟩:=hrel;by_cases hq:m<yk.length
      ·obtain ⟨f2,hy⟩:=aD hq
       obtain ⟨b3,o3,b4,o4,L4,c4,eW,zb3,_,_,L04,_,k3,z4,k4,_⟩:=FY.out.at_ hy;subst eW;have Hm:Hid (jo yk m=f2.1):=aC (CU hy);clear hy;obtain ⟨q1,hq1⟩:∃q1,q1=f1.1:=⟨_,rfl⟩;obtain ⟨q2,hq2⟩:∃q2,q2=f2.1:=⟨_,rfl⟩;have Hl2:=aC (Hl.out.trans hq1.symm);have Hm2:=aC (Hm.out.trans hq2.symm);rw [<-hq1] at k2;rw [<-hq2] at k4;clear hq1 hq2;go_wp2_with fail;go_loopw [17,18] (fun Xu Ra wq=>∃(j f:Nat) (bo:Bool),wq=w4.drewN f/\j<=E.length/\Xu= .bool bo/\Ra= .int .i64 (j:Int)/\Hid (bo=jD q1 (E.take j))) (fun _ Ra _=>E.length-(intOf Ra).toNat)
       case atStart=>exact ⟨0,e,false,rfl,h_ _,rfl,rfl,aC rfl⟩
       case round=>
        obtain ⟨j,f,bo,rfl,hj,rfl,rfl,Qv⟩:=hrel;by_cases hje:j<E.length
        ·obtain ⟨l3,hl3⟩:=aD hje
         obtain ⟨be,oe,eD,zbe,k5⟩:=FE.out.txt hl3;have Hy:=aC (Xn (l:=q1) hl3);clear hl3;subst eD
         cases bo with
         |true=>
          go_wp2_with fail;go_quiet (fail);go_wp2_with fail;go_roundw
          case rel=>exact ⟨j+1,_,true,rfl,hje,rfl,by go_num,aC (by rw [Hy.out,<-Qv.out];rfl)⟩
          case measure=>simp [intOf];omega
         |false=>
          cases hs:(l3.toList==q1.toList) with
          |true=>
           have HS:Hid (l3=q1):=aC (aax fun h=>by have:=Qt h;unfold bne at this;rw [hs] at this;cases this);go_wp2_with fail;go_quiet (fail);go_wp2_with fail;go_roundw
           case rel=>exact ⟨j+1,_,true,rfl,hje,rfl,by go_num,aC (by rw [Hy.out,HS.out];simp)⟩
           case measure=>simp [intOf];omega
          |false=>
           have HS:Hid (l3≠q1):=aC (by intro e;rw [e] at hs;simp at hs);go_wp2_with fail;go_quiet (fail);go_wp2_with fail;go_roundw
           case rel=>exact ⟨j+1,_,false,rfl,hje,rfl,by go_num,aC (by rw [Hy.out,<-Qv.out];simp;exact HS.out)⟩
           case measure=>simp [intOf];omega
        ·have Hb:Hid (bo=jD q1 E):=aC (by rw [Qv.out,List.take_of_length_le (by omega)])
         clear Qv
         cases hs:(q1.toList==q2.toList) with
         |false=>
          have HS:Hid (¬(jo xk n=jo yk m/\jo xk n∉E)):=aC (fun h=>by
           have h:=h.1;rw [Hl2.out,Hm2.out] at h;rw [h] at hs;simp at hs)
          go_wp2_with fail;go_quiet (fail);go_wp2_with fail;go_roundw
          case rel=>exact ⟨m+1,_,rfl,hq,by rw [Au HS.out],by rw [Au HS.out],by go_num⟩
          case measure=>simp [intOf];omega
         |true=>
          have HE:Hid (q1=q2):=aC (aax fun h=>by have:=Qt h;unfold bne at this;rw [hs] at this;cases this)
          cases bo with
          |true=>
           have HS:Hid (¬(jo xk n=jo yk m/\jo xk n∉E)):=aC (fun h=>h.2 (by rw [Hl2.out];exact kM.1 Hb.out.symm));go_wp2_with fail;go_quiet (fail);go_wp2_with fail;go_roundw
           case rel=>exact ⟨m+1,_,rfl,hq,by rw [Au HS.out],by rw [Au HS.out],by go_num⟩
           case measure=>simp [intOf];omega
          |false=>
           have HN:Hid (jo xk n∉E):=aC (fun h=>by rw [Hl2.out] at h;have:=kM.2 h;rw [<-Hb.out] at this;cases this)
           cases hr:mg xk yk E n (sM xk yk E n) m with
           |some z=>
            have hI:(uo (some z)).1=(z.1:Int):=rfl;have hJ:(uo (some z)).2=(z.2:Int):=rfl;rw [hI,hJ];clear hI hJ;have HR:=aC hr;clear hr;have hz0:¬((z.1:Int)<0):=by omega
            go_wp2_with fail;go_quiet (fail);go_wp2_with fail;go_roundw
            case rel=>exact ⟨m+1,_,rfl,hq,by rw [Ar HR.out];rfl,by rw [Ar HR.out];rfl,by go_num⟩
            case measure=>simp [intOf];omega
           |none=>
            have hI:(uo none).1= -1:=rfl;have hJ:(uo none).2= -1:=rfl;rw [hI,hJ];clear hI hJ;have HR:=aC hr;clear hr;go_wp2_with fail;go_quiet (fail);go_wp2_with fail;go_roundw
            case rel=>exact ⟨m+1,_,rfl,hq,by rw [ES HR.out (by rw [Hl2.out,Hm2.out,HE.out]) HN.out];rfl,by rw [ES HR.out (by rw [Hl2.out,Hm2.out,HE.out]) HN.out];rfl,by go_num⟩
            case measure=>simp [intOf];omega
      ·obtain rfl:m=yk.length:=by omega
       go_wp2_with fail;go_roundw
       case rel=>exact ⟨n+1,_,rfl,hp,rfl,rfl,by go_num⟩
       case measure=>simp [intOf];omega
    ·obtain rfl:n=xk.length:=by omega
     go_wp2_with fail;go_meet;exact ⟨d,rfl,rfl,rfl⟩
  case rest=>
   obtain ⟨d,mh,alg,alh⟩:=hcut;obtain ⟨w5,adQ⟩:∃w5,w5=wc:=⟨_,rfl⟩;have B45:Below w4.heap.size w4 w5:=by rw [adQ,mh];exact iA _ _
   rw [<-adQ];clear mh adQ;have rA:Hid (Below wr.heap.size wr w5):=aC (ah G2.out.2.2 B45);have IK:Hid (Below w.heap.size w w5):=aC (ah M.out.1.aU rA.out);have FX5:=aC (FX.out.below B45);have FY5:=aC (FY.out.below B45);have TA5:Hid (∀v,Below w5.heap.size w5 v->aM v v.heap.size A1 (aB pR (.mk a0.k 0 xk p))/\aM v v.heap.size B1 (aB pR (.mk a0.k 0 yk q))):=aC fun v hv=>TA.out v (ah (ah (ah G1.out.2 G2p.out) B45) hv);obtain ⟨a0',a1',Rc⟩:=(M.out.1.s.later rA.out).at_;obtain ⟨r0,r1,r2⟩:=(M.out.1.r.later rA.out).at_;obtain ⟨r3,r4,r5⟩:=(M.out.1.r.later rA.out).fz;subst alg alh
   cases hpk:sM xk yk E xk.length with
   |none=>
    have hD:∀l,l∈ay x->l∈ay y->l∈E.reverse:=fun l h1 h2=>by
     have e1:ay xk=ay x:=by rw [xM.out.2.2.1,fJ]
     have e2:ay yk=ay y:=by rw [xM.out.2.2.2.1,fJ]
     exact List.mem_reverse.2 (UH hpk l (by rw [e1];exact h1) (by rw [e2];exact h2))
    have hEW:=M.out.1.i.aie xM.out.1 xM.out.2.1 hD;obtain ⟨_,_,_,hcv,hnf⟩:=M.out.1.i.ends xM.out.1 xM.out.2.1 hD;rw [<-xM.out.2.2.1,<-xM.out.2.2.2.1] at hEW hcv hnf;have C_:=aC (Gw hcv hnf)
    have HE:Hid (Calls Try.prog 137 #[bS m0 S.m Q vs.length cq,.slice A1 NQ c1,.slice B1 NR d1] w5 (sW Y U Lo m0 X S (bF (.mk a0.k 0 xk p) (.mk a0.k 0 yk q)) (bG (au xk yk)+bG (au yk xk)) w5)):=aC (by
     have:=UO (Y:=Y) HU.out hEW M.out.1.num Q cq vs A1 B1 c1 d1 w5 (fun k hk=>vv (xq.out k hk) IK.out.size) ((M.out.1.tab.step rA.out).wider fun k hk=>.inl (.inl hk)) (TA5.out w5 (aT _ _)).1 X1.out.2.1 (TA5.out w5 (aT _ _)).2 X2.out.2.1;rw [<-UR.out,<-UW.out] at this;exact this)
    have hi0:(uo none).1= -1:=rfl;rw [hi0];clear hD hEW hcv hnf hpk hi0;go_wp2_with fail;refine HE.out.mono ?_;rintro e w6 ⟨f,g,Q9,l9,c9,er,rfl,H9⟩;obtain ⟨r0,r1,r2⟩:=((M.out.1.r.later rA.out).later H9.out.1).at_;obtain ⟨r3,r4,r5⟩:=((M.out.1.r.later rA.out).later H9.out.1).fz;go_wp2_with fail;refine bodyPost_ret (v:=.tuple #[bS f g Q9 l9 c9,.int .i64 er]) (by simp [results,Try.results96,go_sem,r0,r1,r2]) rfl ⟨_,_,_,_,_,_,rfl,aC ⟨aY (ah IK.out H9.out.1) (ad7 _) _ _ _,?_⟩⟩
    exact (H9.out.2.conv C_.out.2 C_.out.1).past (gY (X:=fun k=>k=w.heap.size+1) (Fr.refl _ _) (.inl rfl) _ _ _) (fun k hk=>by rw [hk];exact eO.zero ((M.out.1.r.later rA.out).later H9.out.1))
   |some z=>
    have hsp:=CQ (x:=xk) (y:=yk) (D:=E) xk.length;rw [hpk] at hsp;obtain ⟨hz1,hz2,hz3,hz4⟩:=hsp;obtain ⟨f1,hx1⟩:=aD hz1;obtain ⟨f2,hy1⟩:=aD hz2;rw [CU hx1,CU hy1] at hz3;rw [CU hx1] at hz4;obtain ⟨b,o,b2,o2,L1,e1,eV,zb,hv1,hL1,L0,agz,k1,z2,k2,ty1⟩:=FX5.out.at_ hx1;obtain ⟨b3,o3,b4,o4,L4,e4,eW,zb3,hv4,hL4,L04,agA,k3,z4,k4,ty4⟩:=FY5.out.at_ hy1;have agB:dY xk:=by have hw:=C9.out.1;rw [bU] at hw;exact (hw.1.row HK.out).1
    have agC:dY yk:=by have hw:=C9.out.2.1;rw [bU] at hw;exact (hw.1.row HK.out).1
    have hgx:aL f1.1 (aI (inst S.σ) x)=some f1.2:=by rw [<-xM.out.2.2.1];exact yU agB.nodup hx1
    have hgy:aL f1.1 (aI (inst S.σ) y)=some f2.2:=by rw [<-xM.out.2.2.2.1,hz3];exact yU agC.nodup hy1
    obtain ⟨hag,hless,hnext,hno⟩:=M.out.1.i.child xM.out.1 xM.out.2.1 (fun h=>hz4 (List.mem_reverse.1 h)) hgx hgy;have adT:(aB f1.1 f1.2).length<=700000:=by have h1:=qj (r:=true) (Yt hx1);have h2:=zw HK.out xk p;have h3:=C9.out.2.2.1;have h4:jU true xk=jv xk:=(by simp [jU]);rw [um f1.1 pR];rw [h4] at h1;omega
    have adU:(aB f2.1 f2.2).length<=700000:=by have h1:=qj (r:=true) (Yt hy1);have h2:=zw HK.out yk q;have h3:=C9.out.2.2.2;have h4:jU true yk=jv yk:=(by simp [jU]);rw [um f2.1 pR];rw [h4] at h1;omega
    have UY:gD f1.2:=by have hw:=C9.out.1;rw [bU] at hw;exact hw.2 _ (Yt hx1)
    have UZ:gD f2.2:=by have hw:=C9.out.2.1;rw [bU] at hw;exact hw.2 _ (Yt hy1)
    have hAW:Q_ U Lo m0 X S f1.2 f2.2:=⟨hag,UY,UZ,by rw [um pR f1.1];exact adT,by rw [um pR f2.1];exact adU⟩;have HAg:=aC (zi.out S f1.2 f2.2 hless hAW);have HNX:=aC (Gw hnext hno);have UD:=aC (Gw adT adU);have NB:Hid (wr.heap.size<=b/\wr.heap.size<=b2/\wr.heap.size<=b3/\wr.heap.size<=b4):=aC ⟨zk hg2.out.size (W1.out.1 _ eV),zk hg2.out.size (W1.out.2 _ (Yt hv1) _ rfl),zk hg2.out.size (W2.out.1 _ eW),zk hg2.out.size (W2.out.2 _ (Yt hv4) _ rfl)⟩;have agD:aA 9 1 nT w5 wa.heap.size DA dc E:=aA.fr M.out.1.e (Fr.below (X:=fun _=>False) rA.out) fun _ h=>h.elim;have HOL:Hid (∀a,DA=some a->wa.heap.size<=a.block/\a.block<wr.heap.size):=aC fun a ha=>aA.lt M.out.1.e a ha;have HO5:=aC agD;have hbase:wa.heap.size<=w5.heap.size:=by have h1:=rA.out.size;have h2:=M.out.1.s.lt;have h3:=M.out.1.r.lt;have h4:=Xz.out;omega
    have apx:¬((z.1:Int)<0):=by omega
    have hi0:(uo (some z)).1=(z.1:Int):=rfl;have hi1:(uo (some z)).2=(z.2:Int):=rfl;rw [hi0,hi1];subst eV eW;obtain ⟨q1,hq1⟩:∃q1,q1=f1.1:=⟨_,rfl⟩;rw [<-hq1] at k2;have HQ1:=aC hq1;have HTY:=aC (Gw ty1 ty4);have Ri:=aC (Gw (Gw hL1 agz) (Gw hL4 agA));have agE:=aC (Gw k1 k3);have apy:=aC (Gw hz3 hz4);clear hpk hz3 hz4 hx1 hy1 hv1 hv4 hL1 agz hL4 agA ty1 ty4 agB agC hgx hgy hag hless hnext hno adT adU UY UZ hAW agD hi0 hi1 hq1 k3 k4;go_wp2_with (at_builtin;refine NJ rfl (.tmp 104) (.tmp 112) rfl wa.heap.size (l:=E) rfl (aA.alloc HO5.out _) (l2:=[q1]) (A2:=some ⟨w5.heap.size,0,none⟩) (c:=1) (B:=w5.heap.size+1) rfl (qG w5 q1 _ _ rfl) (by simp;omega) (by simp;omega) ?_;intro DA2 dc2 w6 hown6 hg6 hA6;have H6:=aC (Gw hown6 (Gw hg6 hA6));clear hown6 hg6 hA6);have HOE:Hid (∀n,wr.heap.size<=n->¬∃a,DA=some a/\a.block=n):=aC fun n hn ⟨a,ha,e⟩=>by have:=(HOL.out a ha).2;omega
    have qd:Fr (fun k=>∃a,DA=some a/\a.block=k) w5 w6:=((Fr.refl _ w5).alloc _).trans (Fr.grown (X:=fun k=>∃a,DA=some a/\a.block=k) H6.out.2.1 fun k hk=>bA hk);have HB6:Hid (Below w.heap.size w w6):=aC ((Fr.new (X:=fun _=>False) (Fr.below IK.out) qd fun k ⟨a,ha,e⟩=>.inr (by have h1:=(HOL.out a ha).1;have h2:=Xz.out;omega)).toBelow fun k hk=>hk.elim);have s6:bD w6 w.heap.size m0 S.m Q vs.length cq:=(M.out.1.s.later rA.out).fr qd fun ⟨a,ha,e⟩=>by have h1:=(HOL.out a ha).1;have h2:=Xz.out;omega
    have r6:bD w6 (w.heap.size+1) 0 0 none 0 0:=(M.out.1.r.later rA.out).fr qd fun ⟨a,ha,e⟩=>by have h1:=(HOL.out a ha).1;have h2:=Xz.out;omega
    obtain ⟨YN,hYN⟩:∃YN:Nat->Prop,YN=fun k=>Y k\/(wa.heap.size<=k/\∃a,DA2=some a/\a.block=k):=⟨_,rfl⟩
    have agG:fQ YN vs Q (dA S) ns w6:=by
     have t5:=(M.out.1.tab.step rA.out).wider (Y':=fun k=>(Y k\/(wa.heap.size<=k/\∃a,DA=some a/\a.block=k))\/YN k) fun k hk=>by
      rcases hk with hk|hk
      ·exact .inl hk
      ·rw [hYN] at hk
       rcases hk with hk|⟨hk,a,ha,e⟩
       ·exact .inl (.inl hk)
       ·rcases H6.out.2.2 with hA|hA
        ·subst ha
         obtain ⟨a',ha',e'⟩:=bA (hA.symm.trans (show (Value.slice (some a) (E.length+[q1].length) dc2).ownBlock=some a.block from rfl));exact .inl (.inr ⟨hk,a',ha',by rw [<-e,<-e']⟩)
        ·subst ha
         have hA:a.block=w5.heap.size+1:=by simpa [Value.ownBlock] using hA
         exact .inr (by omega)
     exact (t5.YH qd fun k ⟨a,ha,e⟩=>.inl (.inr ⟨by rw [<-e];exact (HOL.out a ha).1,a,ha,e⟩)).wider fun k hk=>.inl (.inr hk)
    have c13:w6.cell? ⟨b,o+z.1,none⟩=some (.slice (some ⟨b2,o2,none⟩) L1 e1):=(adN (qd.block b zb (HOE.out b NB.out.1))).trans agE.out.1;have c46:w6.cell? ⟨b3,o3+z.2,none⟩=some (.slice (some ⟨b4,o4,none⟩) L4 e4):=(adN (qd.block b3 zb3 (HOE.out b3 NB.out.2.2.1))).trans agE.out.2;have zb6:b<w6.heap.size:=vv zb qd.size;have alp:b3<w6.heap.size:=vv zb3 qd.size;have ty1:aM w6 w6.heap.size (some ⟨b2,o2,none⟩) (aB f1.1 f1.2):=(aM.frame HTY.out.1 qd (bN _) fun _ a ha hk=>by injection ha with ha;subst ha;exact HOE.out _ NB.out.2.1 hk).more qd.size;have ty4:aM w6 w6.heap.size (some ⟨b4,o4,none⟩) (aB f2.1 f2.2):=(aM.frame HTY.out.2 qd (bN _) fun _ a ha hk=>by injection ha with ha;subst ha;exact HOE.out _ NB.out.2.2.2 hk).more qd.size;have agH:=aC (Gw ty1 ty4);have ta6:aM w6 w6.heap.size A1 (aB pR (.mk a0.k 0 xk p)):=(aM.frame (TA5.out w5 (aT _ _)).1 qd (bN _) fun _ a ha hk=>HOE.out _ (X1.out.2.2 a ha) hk).more qd.size;have tb6:aM w6 w6.heap.size B1 (aB pR (.mk a0.k 0 yk q)):=(aM.frame (TA5.out w5 (aT _ _)).2 qd (bN _) fun _ a ha hk=>HOE.out _ (X2.out.2.2.2 a ha) hk).more qd.size;have HT6:=aC (Gw ta6 tb6);have IZ:=aC (Gw s6 (Gw r6 agG));obtain ⟨C1,XB⟩:∃C1,C1=aB pR f1.2:=⟨_,rfl⟩;obtain ⟨C2,hC2⟩:∃C2,C2=aB pR f2.2:=⟨_,rfl⟩
    have agI:Hid (∀v,Below w6.heap.size w6 v->Calls Try.prog 138 #[.slice (some ⟨b2,o2,none⟩) L1 e1] v (jP v C1)):=aC fun v hv=>by
     have:=MC f1 (by have:=UD.out.1;omega) (some ⟨b2,o2,none⟩) e1 v ((agH.out.1.below hv).more hv.size);rw [<-Ri.out.1.1,<-XB] at this;exact this
    have adW:Hid (∀v,Below w6.heap.size w6 v->Calls Try.prog 138 #[.slice (some ⟨b4,o4,none⟩) L4 e4] v (jP v C2)):=aC fun v hv=>by
     have:=MC f2 (by have:=UD.out.2;omega) (some ⟨b4,o4,none⟩) e4 v ((agH.out.2.below hv).more hv.size);rw [<-Ri.out.2.1,<-hC2] at this;exact this
    have MK:Hid (∀(v:World) (A:Option Addr) (c:Nat) (B:Option Addr) (d:Nat),Below w6.heap.size w6 v->aM v v.heap.size A C1->C1.length<=c->aM v v.heap.size B C2->C2.length<=d->Calls Try.prog 54 #[bS m0 S.m Q vs.length cq,.slice A C1.length c,.slice B C2.length d] v (sW YN U Lo m0 X S (bF f1.2 f2.2) (aJ f1.2+aJ f2.2) v)):=aC fun v A c B d hv h1 h2 h3 h4=>by
     have hk:∀k,YN k->k<v.heap.size:=fun k hk=>by
      rw [hYN] at hk;rcases hk with hk|⟨_,a,ha,e⟩
      ·exact vv (xq.out k hk) (zk HB6.out.size hv.size)
      ·rw [<-e];exact vv (aA.lt H6.out.1 a ha).2 hv.size
     have:=HAg.out YN ns vs Q cq A B c d v hk M.out.1.num (IZ.out.2.2.step hv) (by rw [<-XB];exact h1) (by rw [<-XB];exact h2) (by rw [<-hC2];exact h3) (by rw [<-hC2];exact h4);rw [<-XB,<-hC2] at this;exact this
    have alu:Hid (∀v,Below w6.heap.size w6 v->v.cell? ⟨w.heap.size,0,none⟩=some (.int .i64 m0)/\v.cell? ⟨w.heap.size,1,none⟩=some (.int .i64 S.m)/\v.cell? ⟨w.heap.size,2,none⟩=some (.slice Q vs.length cq)/\v.cell? ⟨b,o+z.1,none⟩=some (.slice (some ⟨b2,o2,none⟩) L1 e1)/\v.cell? ⟨b3,o3+z.2,none⟩=some (.slice (some ⟨b4,o4,none⟩) L4 e4)):=aC fun v hv=>
     ⟨(IZ.out.1.later hv).at_.1,(IZ.out.1.later hv).at_.2.1,(IZ.out.1.later hv).at_.2.2,(hv.cell (p:=⟨b,o+z.1,none⟩) zb6).trans c13,(hv.cell (p:=⟨b3,o3+z.2,none⟩) alp).trans c46⟩
    clear s6 r6 agG c13 c46 ty1 ty4 ta6 tb6 qd XB hC2 k1 k2 z2 z4 a0' a1' Rc r0 r1 r2 r3 r4 r5;go_upto_region 22 with fail
    go_cut [19,20] (fun s19 s20 wx=>∃(b7:Nat) (f g:Int) (Q9:Option Addr) (l9 c9:Nat) (er:Int),s19= .pointer (some ⟨b7,0,none⟩)/\s20= .int .i64 er/\Hid (bD wx b7 f g Q9 l9 c9/\jG YN U Lo m0 X S (bF f1.2 f2.2) (aJ f1.2+aJ f2.2) f g Q9 l9 er wx/\Below w6.heap.size w6 wx/\w6.heap.size<=b7))
    case first=>
     obtain ⟨SS,hSS⟩:∃SS:World->Prop,SS=fun v=>v.cell? ⟨w.heap.size,0,none⟩=some (.int .i64 m0)/\v.cell? ⟨w.heap.size,1,none⟩=some (.int .i64 S.m)/\v.cell? ⟨w.heap.size,2,none⟩=some (.slice Q vs.length cq)/\v.cell? ⟨b,o+z.1,none⟩=some (.slice (some ⟨b2,o2,none⟩) L1 e1)/\v.cell? ⟨b3,o3+z.2,none⟩=some (.slice (some ⟨b4,o4,none⟩) L4 e4):=⟨_,rfl⟩;have bg:Hid (∀v,Below w6.heap.size w6 v->SS v):=aC fun v hv=>by rw [hSS];exact alu.out v hv
     refine bO (S:=SS) [] (by kernel_rfl) ?_ (fun hHeld=>?_)
     ·exact bg.out _ (aT _ _).drew
     refine aR 0 [] (some 115) rfl rfl ?_;refine aR 1 [] (some 116) rfl rfl ?_;refine aR 2 [] (some 117) rfl rfl ?_;refine aR 3 [] (some 118) rfl rfl ?_;refine aR 4 [] (some 119) rfl rfl ?_;refine aR 6 [] (some 121) rfl rfl ?_;refine aR 7 [] (some 122) rfl rfl ?_;refine aR 8 [] (some 123) rfl rfl ?_;refine aR 9 [] (some 124) rfl rfl ?_;refine vH 5 15 (by kernel_rfl) rfl rfl (by rfl) (by rfl) ?_ ?_
     ·refine dO (some 120) rfl (by go_simp) (agI.out _ ((aT _ w6).drew)) ?_
      rintro e w7 ⟨A7,c7,rfl,XC,ML⟩;have X7:Hid ((∀v,Below w7.heap.size w7 v->aM v v.heap.size A7 C1)/\C1.length<=c7):=aC ⟨fun v hv=>(XC.g_.below hv).more hv.size,aA.cZ XC⟩;have hh7:=aC ML;clear XC;have Gq:Hid (Below w6.heap.size w6 w7):=aC (ah (aT _ w6).drew ML);clear ML;have adY:=bg.out _ Gq.out;refine ⟨.slice A7 C1.length c7,rfl,fun _=>adY,?_⟩;refine dN ?_;refine vH 10 15 (by kernel_rfl) rfl rfl (by rfl) (by rfl) ?_ ?_
      ·refine dO (some 125) rfl (by go_simp) (adW.out _ (Gq.out)) ?_
       rintro e w8 ⟨A8,c8,rfl,MO,Da⟩;have X8:Hid ((∀v,Below w8.heap.size w8 v->aM v v.heap.size A8 C2)/\C2.length<=c8):=aC ⟨fun v hv=>(MO.g_.below hv).more hv.size,aA.cZ MO⟩;have Bj:=aC Da;clear MO;have zD:Hid (Below w6.heap.size w6 w8):=aC (ah Gq.out Da);clear Da;have U0:=bg.out _ zD.out;refine ⟨.slice A8 C2.length c8,rfl,fun _=>U0,?_⟩;refine dN ?_;refine vH 11 15 (by kernel_rfl) rfl rfl (by rfl) (by rfl) ?_ ?_
       ·refine dO (some 126) rfl (by go_simp) (MK.out _ A7 c7 A8 c8 (zD.out) (X7.out.1 _ (by first|exact Bj.out|exact ah fC.out Bj.out|exact ah Bj.out eP.out|exact ah (ah fC.out Bj.out) eP.out)) X7.out.2 (X8.out.1 _ (by first|exact aT _ _|exact eP.out)) X8.out.2) ?_
        rintro e w9 ⟨f,g,Q9,l9,c9,er,rfl,H9⟩;have dM:=H9.out.1;have mU:Hid (Below w6.heap.size w6 w9):=aC (ah zD.out dM);clear dM;have xE:=bg.out _ mU.out;refine ⟨.tuple #[bS f g Q9 l9 c9,.int .i64 er],rfl,fun _=>xE,?_⟩;refine dN ?_;refine aR 12 [] (some 114) rfl rfl ?_;refine aR 13 [] (some 127) rfl rfl ?_;refine aR 14 [] (some 128) rfl rfl ?_;refine d9 15 rfl (by kernel_rfl) (by rfl) ?_;refine pq (some 19) w9.heap.size rfl mU.out bg ?_;intro wz3 C8 UM lI;have adI:=bg.out _ C8.out;refine d9 16 rfl (by kernel_rfl) (by rfl) ?_;have hle:w6.heap.size<=w9.heap.size:=mU.out.size;refine pz none f g Q9 l9 c9 UM rfl C8.out hle bg ?_;intro uq oM gK kW kX;have xC:=bg.out _ gK.out;refine aR 17 [] (some 20) rfl rfl ?_;refine gJ (by kernel_rfl) ?_ _;go_wp2_with fail;go_meet;exact ⟨w9.heap.size,f,g,Q9,l9,c9,er,rfl,rfl,aC ⟨oM,jG.past (by first|exact H9.out.2|exact H9.out.2.step lI.out) kW.out (fun k hk=>by rw [hk];exact eO.zero kX.out),gK.out,hle⟩⟩
       ·refine pq (some 19) w8.heap.size rfl zD.out bg ?_
        intro wz2 oK Gp eP;have Rb:=bg.out _ oK.out;refine d9 11 rfl (by kernel_rfl) (by rfl) ?_;refine dO (some 126) rfl (by go_simp) (MK.out _ A7 c7 A8 c8 (oK.out) (X7.out.1 _ (by first|exact Bj.out|exact ah fC.out Bj.out|exact ah Bj.out eP.out|exact ah (ah fC.out Bj.out) eP.out)) X7.out.2 (X8.out.1 _ (by first|exact aT _ _|exact eP.out)) X8.out.2) ?_;rintro e w9 ⟨f,g,Q9,l9,c9,er,rfl,H9⟩;have dM:=H9.out.1;have mU:Hid (Below w6.heap.size w6 w9):=aC (ah oK.out dM);have Rj:bD w9 w8.heap.size 0 0 none 0 0:=Gp.later dM;clear dM;have xE:=bg.out _ mU.out;refine ⟨.tuple #[bS f g Q9 l9 c9,.int .i64 er],rfl,fun _=>xE,?_⟩;refine dN ?_;refine aR 12 [] (some 114) rfl rfl ?_;refine aR 13 [] (some 127) rfl rfl ?_;refine aR 14 [] (some 128) rfl rfl ?_;refine d9 16 rfl (by kernel_rfl) (by rfl) ?_;have hle:w6.heap.size<=w8.heap.size:=zD.out.size;refine pz none f g Q9 l9 c9 Rj rfl mU.out hle bg ?_;intro uq oM gK kW kX;have xC:=bg.out _ gK.out;refine aR 17 [] (some 20) rfl rfl ?_;refine gJ (by kernel_rfl) ?_ _;go_wp2_with fail;go_meet;exact ⟨w8.heap.size,f,g,Q9,l9,c9,er,rfl,rfl,aC ⟨oM,jG.past (by first|exact H9.out.2|exact H9.out.2.step lI.out) kW.out (fun k hk=>by rw [hk];exact eO.zero kX.out),gK.out,hle⟩⟩
      ·refine pq (some 19) w7.heap.size rfl Gq.out bg ?_
       intro wz1 kC zB fC;have IU:=bg.out _ kC.out;refine d9 10 rfl (by kernel_rfl) (by rfl) ?_;refine dO (some 125) rfl (by go_simp) (adW.out _ (kC.out)) ?_;rintro e w8 ⟨A8,c8,rfl,MO,Da⟩;have X8:Hid ((∀v,Below w8.heap.size w8 v->aM v v.heap.size A8 C2)/\C2.length<=c8):=aC ⟨fun v hv=>(MO.g_.below hv).more hv.size,aA.cZ MO⟩;have Bj:=aC Da;clear MO;have zD:Hid (Below w6.heap.size w6 w8):=aC (ah kC.out Da);have sw8:bD w8 w7.heap.size 0 0 none 0 0:=zB.later Da;clear Da;have U0:=bg.out _ zD.out;refine ⟨.slice A8 C2.length c8,rfl,fun _=>U0,?_⟩;refine dN ?_;refine d9 11 rfl (by kernel_rfl) (by rfl) ?_;refine dO (some 126) rfl (by go_simp) (MK.out _ A7 c7 A8 c8 (zD.out) (X7.out.1 _ (by first|exact Bj.out|exact ah fC.out Bj.out|exact ah Bj.out eP.out|exact ah (ah fC.out Bj.out) eP.out)) X7.out.2 (X8.out.1 _ (by first|exact aT _ _|exact eP.out)) X8.out.2) ?_;rintro e w9 ⟨f,g,Q9,l9,c9,er,rfl,H9⟩;have dM:=H9.out.1;have mU:Hid (Below w6.heap.size w6 w9):=aC (ah zD.out dM);have Rj:bD w9 w7.heap.size 0 0 none 0 0:=sw8.later dM;clear dM;have xE:=bg.out _ mU.out;refine ⟨.tuple #[bS f g Q9 l9 c9,.int .i64 er],rfl,fun _=>xE,?_⟩;refine dN ?_;refine aR 12 [] (some 114) rfl rfl ?_;refine aR 13 [] (some 127) rfl rfl ?_;refine aR 14 [] (some 128) rfl rfl ?_;refine d9 16 rfl (by kernel_rfl) (by rfl) ?_;have hle:w6.heap.size<=w7.heap.size:=Gq.out.size;refine pz none f g Q9 l9 c9 Rj rfl mU.out hle bg ?_;intro uq oM gK kW kX;have xC:=bg.out _ gK.out;refine aR 17 [] (some 20) rfl rfl ?_
       refine gJ (by kernel_rfl) ?_ _;go_wp2_with fail;go_meet;exact ⟨w7.heap.size,f,g,Q9,l9,c9,er,rfl,rfl,aC ⟨oM,jG.past (by first|exact H9.out.2|exact H9.out.2.step lI.out) kW.out (fun k hk=>by rw [hk];exact eO.zero kX.out),gK.out,hle⟩⟩
     ·refine pq (some 19) w6.heap.size rfl (aT _ w6).drew bg ?_
      intro wz0 iY zC IV;have IW:=bg.out _ iY.out;refine d9 5 rfl (by kernel_rfl) (by rfl) ?_;refine dO (some 120) rfl (by go_simp) (agI.out _ (iY.out)) ?_;rintro e w7 ⟨A7,c7,rfl,XC,ML⟩;have X7:Hid ((∀v,Below w7.heap.size w7 v->aM v v.heap.size A7 C1)/\C1.length<=c7):=aC ⟨fun v hv=>(XC.g_.below hv).more hv.size,aA.cZ XC⟩;have hh7:=aC ML;clear XC;have Gq:Hid (Below w6.heap.size w6 w7):=aC (ah iY.out ML);have sw7:bD w7 w6.heap.size 0 0 none 0 0:=zC.later ML;clear ML;have adY:=bg.out _ Gq.out;refine ⟨.slice A7 C1.length c7,rfl,fun _=>adY,?_⟩;refine dN ?_;refine d9 10 rfl (by kernel_rfl) (by rfl) ?_;refine dO (some 125) rfl (by go_simp) (adW.out _ (Gq.out)) ?_;rintro e w8 ⟨A8,c8,rfl,MO,Da⟩;have X8:Hid ((∀v,Below w8.heap.size w8 v->aM v v.heap.size A8 C2)/\C2.length<=c8):=aC ⟨fun v hv=>(MO.g_.below hv).more hv.size,aA.cZ MO⟩;have Bj:=aC Da;clear MO;have zD:Hid (Below w6.heap.size w6 w8):=aC (ah Gq.out Da);have sw8:bD w8 w6.heap.size 0 0 none 0 0:=sw7.later Da;clear Da;have U0:=bg.out _ zD.out;refine ⟨.slice A8 C2.length c8,rfl,fun _=>U0,?_⟩;refine dN ?_;refine d9 11 rfl (by kernel_rfl) (by rfl) ?_;refine dO (some 126) rfl (by go_simp) (MK.out _ A7 c7 A8 c8 (zD.out) (X7.out.1 _ (by first|exact Bj.out|exact ah fC.out Bj.out|exact ah Bj.out eP.out|exact ah (ah fC.out Bj.out) eP.out)) X7.out.2 (X8.out.1 _ (by first|exact aT _ _|exact eP.out)) X8.out.2) ?_;rintro e w9 ⟨f,g,Q9,l9,c9,er,rfl,H9⟩;have dM:=H9.out.1;have mU:Hid (Below w6.heap.size w6 w9):=aC (ah zD.out dM)
      have Rj:bD w9 w6.heap.size 0 0 none 0 0:=sw8.later dM;clear dM;have xE:=bg.out _ mU.out;refine ⟨.tuple #[bS f g Q9 l9 c9,.int .i64 er],rfl,fun _=>xE,?_⟩;refine dN ?_;refine aR 12 [] (some 114) rfl rfl ?_;refine aR 13 [] (some 127) rfl rfl ?_;refine aR 14 [] (some 128) rfl rfl ?_;refine d9 16 rfl (by kernel_rfl) (by rfl) ?_;have hle:w6.heap.size<=w6.heap.size:=bN _;refine pz none f g Q9 l9 c9 Rj rfl mU.out hle bg ?_;intro uq oM gK kW kX;have xC:=bg.out _ gK.out;refine aR 17 [] (some 20) rfl rfl ?_;refine gJ (by kernel_rfl) ?_ _;go_wp2_with fail;go_meet;exact ⟨w6.heap.size,f,g,Q9,l9,c9,er,rfl,rfl,aC ⟨oM,jG.past (by first|exact H9.out.2|exact H9.out.2.step lI.out) kW.out (fun k hk=>by rw [hk];exact eO.zero kX.out),gK.out,hle⟩⟩
    case rest=>
     obtain ⟨b7,f,g,Q9,l9,c9,er,rfl,rfl,MP⟩:=hcut;have HBQ:Hid (Below w.heap.size w wc):=aC (ah HB6.out MP.out.2.2.1);have s7:=IZ.out.1.later MP.out.2.2.1;have r7:=IZ.out.2.1.later MP.out.2.2.1;rcases MP.out.2.1 with ⟨he,hno⟩|⟨he,S',ns',vs',ef,eg,el,DY,dn,j9,Rl,Rm⟩
     ·subst he
      obtain ⟨a0',a1',Rc⟩:=s7.at_;obtain ⟨r0,r1,r2⟩:=r7.at_;obtain ⟨r3,r4,r5⟩:=r7.fz;go_wp2_with fail;exact bodyPost_ret (v:=.tuple #[bS m0 S.m Q vs.length cq,.int .i64 9]) (by simp [results,Try.results96,go_sem,r0,r1,r2]) rfl ⟨_,_,_,_,_,_,rfl,aC ⟨aY HBQ.out (ad7 _) _ _ _,.inl ⟨rfl,HNX.out.2 hno⟩⟩⟩
     ·subst he
      obtain ⟨b0',b1',b2'⟩:=MP.out.1.at_;obtain ⟨a3',a4',a5'⟩:=s7.fz;obtain ⟨a0',a1',Rc⟩:=s7.at_;have HR9:=aC (Gw (Gw ef (Gw eg el)) (Gw DY (Gw dn (Gw j9 (Gw Rl Rm)))));have adZ:=aC (Gw s7 r7);clear ef eg el DY dn j9 Rl Rm s7 r7;go_wp2_with fail;go_roundw
      case rel=>
       obtain ⟨⟨ef,eg,el⟩,DY,dn,j9,Rl,Rm⟩:=HR9.out;have hfr:Fr (fun k=>k=w.heap.size) wc (dB wc w.heap.size f g Q9 l9 c9):=gY (X:=fun k=>k=w.heap.size) (Fr.refl _ _) (.inl rfl) _ _ _;have IY:∀k,k=w.heap.size->eO wc k:=fun k hk=>by rw [hk];exact (IZ.out.2.2.step MP.out.2.2.1).JB adZ.out.1
       have vg:=HNX.out.1 S' dn j9 Rl;have er9:(E++[q1]).reverse=f1.1::E.reverse:=by rw [List.reverse_append,HQ1.out];rfl
       rw [<-er9] at vg;have s9:=adZ.out.1.dB f g Q9 l9 c9;rw [ef,eg,el] at s9 hfr;have hla:S.Le S':=dn.st.le;have gA:TG U S a0:=M.out.1.i.h0.ga.later M.out.1.i.ri.lp.le;have gB:TG U S b0:=M.out.1.i.h0.gb.later M.out.1.i.ri.lp.le;have i0:=M.out.1.i.j.kg.inv
       have kA:JK S' a0 (.mk a0.k 0 xk p):=by
        rw [<-xM.out.2.2.2.2.1];exact ⟨((gA.res M.out.1.i.j.kg).later hla).pend.1,by rw [xM.out.2.2.2.2.1];exact C9.out.1,by rw [xM.out.2.2.2.2.1];have:=C9.out.2.2.1;omega,qR i0 dn.kg.inv hla gA.pend.1 gA.pend.2⟩
       have kB:JK S' b0 (.mk a0.k 0 yk q):=by
        rw [<-xM.out.2.2.2.2.2];exact ⟨((gB.res M.out.1.i.j.kg).later hla).pend.1,by rw [xM.out.2.2.2.2.2];exact C9.out.2.1,by rw [xM.out.2.2.2.2.2];have:=C9.out.2.2.2;omega,qR i0 dn.kg.inv hla gB.pend.1 gB.pend.2⟩
       have htA:=aM.jw ((HT6.out.1.below MP.out.2.2.1).more MP.out.2.2.1.size) hfr IY;have htB:=aM.jw ((HT6.out.2.below MP.out.2.2.1).more MP.out.2.2.1.size) hfr IY;have alv:=aA.fr (aA.fr H6.out.1 (Fr.below (X:=fun _=>False) MP.out.2.2.1) fun _ h=>h.elim) hfr (fun k hk=>by rw [hk];have:=Xz.out;omega);have agJ:=DY.past hfr IY;rw [hYN] at agJ;rw [ef,eg,el];exact ⟨S',E++[q1],ns',vs',Q9,c9,A1,.mk a0.k 0 xk p,c1,B1,.mk a0.k 0 yk q,d1,DA2,dc2,NQ,NR,rfl,rfl,by simp,aC ⟨⟨vg,Rm,agJ,s9,adZ.out.2.fr hfr (by omega),kA,htA,X1.out.2.1,kB,htB,X2.out.2.1,alv,aY HBQ.out (bN _) _ _ _⟩,UR.out,UW.out⟩⟩
      case measure=>
       have vg:=HNX.out.1 S' HR9.out.2.2.1 HR9.out.2.2.2.1 HR9.out.2.2.2.2.1;have h1:=iy vg.ri.nd vg.ri.lb;simp only [List.length_cons,afg] at h1;simp [lenOf];omega
theorem Rn:∀t:Ut,Ut.mk t.k t.n t.fs t.tl=t
 | .mk _ _ _ _=>rfl
theorem ad1 {w:World} {A:Option Addr} {t:Ut} (h:aM w w.heap.size A (aB pR t)):∃b o n,A=some ⟨b,o,none⟩/\b<w.heap.size/\w.cell? ⟨b,o,none⟩=some (.int .i64 t.k)/\w.cell? ⟨b,o+2,none⟩=some (.int .i64 n)/\(t.k=8->n=t.n):=by
 obtain ⟨k,n,fs,tl⟩:=t;rw [bY] at h;by_cases hr:av k=true
 ·rw [if_pos hr] at h
  obtain ⟨b,o,e,hb,c0,_,c2⟩:=h.at_ (i:=0) (x:=⟨k,pR,_⟩) rfl;exact ⟨b,o,_,e,hb,by show w.cell? _=some (.int .i64 k);simpa using c0,by simpa using c2,fun e=>by have e:k=8:=e;rw [e] at hr;cases hr⟩
 ·rw [if_neg hr] at h
  obtain ⟨b,o,e,hb,c0,_,c2⟩:=h.at_ (i:=0) (x:=⟨k,pR,n⟩) rfl;exact ⟨b,o,n,e,hb,by show w.cell? _=some (.int .i64 k);simpa using c0,by simpa using c2,fun _=>rfl⟩
theorem NS {Y:Nat->Prop} {U Lo:List Lb} {m0:Int} {X:Int->Prop} {S:Kn} {a b:Ut} (hU:∀y∈U,y.size<=9223372036854775807) (hW:Q_ U Lo m0 X S a b) (ih:∀S' c d,r_ S a b S' c d->Q_ U Lo m0 X S' c d->∀Y,YF Y U Lo m0 X S' c d):YF Y U Lo m0 X S a b:=by
 intro ns vs Q cq A B ca cb w hY num hM ha hca hb hcb;have HW:=aC hW;have HU:=aC hU;have zi:=aC ih;have HN:=aC num;have xq:=aC hY;have hT:=Cq hW.r.j hW.r.fit num
 have hvl:vs.length<=1000000:=by
  have h1:=hM.m.len;have h2:=(num.len hW.r.j.kg.inv hW.r.j.kg.nn).1;have h3:=hW.r.mb;omega
 obtain ⟨Av,Aw⟩:=hW.r.wf;have hpl:=hW.r.pair.len hW.r.fit pR;have kA:JK S a a:=⟨hW.r.ga.pend.1,hW.wa,hW.la,rfl⟩;have kB:JK S b b:=⟨hW.r.gb.pend.1,hW.wb,hW.lb,rfl⟩;obtain ⟨s1,s2,hwb,hwz⟩:=Ag w m0 S.m Q vs.length cq;obtain ⟨wa,gF⟩:∃wa,wa=(w.alloc (.cells #[.int .i64 m0,.int .i64 S.m,.slice Q vs.length cq] 29)).alloc (.cells #[.int .i64 0,.int .i64 0,.slice none 0 0] 29):=⟨_,rfl⟩;rw [<-gF] at s1 s2 hwb hwz;have HB:Hid (Below w.heap.size w wa):=aC hwb;have HS:Hid (∀v,Below wa.heap.size wa v->bD v w.heap.size m0 S.m Q vs.length cq/\bD v (w.heap.size+1) 0 0 none 0 0):=aC fun v hv=>⟨s1.later hv,s2.later hv⟩;have HT:Hid (∀v,Below w.heap.size w v->fQ Y vs Q (dA S) ns v):=aC fun v hv=>hM.step hv
 have yF:Hid (∀v,Below wa.heap.size wa v->Calls Try.prog 56 #[bS m0 S.m Q vs.length cq,.slice A (aB pR a).length ca] v (jP v (aB pR (inst S.σ a)))):=aC fun v hv=>
  m_ m0 S.m Q cq vs S.L S.σ (l6 S) ns hT hvl _ a pR A ca v (bN _) (HT.out v (ah hwb hv)).m ((ha.below (ah hwb hv)).more (ah hwb hv).size) hca (kA.knT Av hpl.1)
 have yG:Hid (∀v,Below wa.heap.size wa v->Calls Try.prog 56 #[bS m0 S.m Q vs.length cq,.slice B (aB pR b).length cb] v (jP v (aB pR (inst S.σ b)))):=aC fun v hv=>
  m_ m0 S.m Q cq vs S.L S.σ (l6 S) ns hT hvl _ b pR B cb v (bN _) (HT.out v (ah hwb hv)).m ((hb.below (ah hwb hv)).more (ah hwb hv).size) hcb (kB.knT Aw hpl.2)
 have Ay:0<=S.m/\S.m<=1000000:=⟨hW.r.j.kg.nn.m,by have:=hW.r.mb;omega⟩;have Xz:=aC hwz;clear s1 s2 hwb hwz hM ha hca hb hcb hT Av Aw hpl kA kB hU hW ih num hY;go_enter Try.func54,Try.ntmps54;go_upto_region 1 with fail
 rw [<-gF];obtain ⟨SS,hSS⟩:∃SS:World->Prop,SS=fun v=>v.cell? ⟨w.heap.size,0,none⟩=some (.int .i64 m0)/\v.cell? ⟨w.heap.size,1,none⟩=some (.int .i64 S.m)/\v.cell? ⟨w.heap.size,2,none⟩=some (.slice Q vs.length cq):=⟨_,rfl⟩;have bg:Hid (∀v,Below wa.heap.size wa v->SS v):=aC fun v hv=>by rw [hSS];exact (HS.out v hv).1.at_
 refine bO (S:=SS) [] (by kernel_rfl) ?_ (fun hHeld=>?_)
 ·exact bg.out _ (aT _ _).drew
 refine aR 0 [] (some 19) rfl rfl ?_;refine aR 1 [] (some 20) rfl rfl ?_;refine aR 3 [] (some 22) rfl rfl ?_;refine aR 4 [] (some 23) rfl rfl ?_;refine sF 2 (some 21) rfl rfl (by kernel_rfl) (by rfl) (by go_simp) (yF.out _ (aT _ wa).drew) ?_;rintro e w1 ⟨A1,c1,rfl,ho1,hb1⟩;have hg1:Hid (Below wa.heap.size wa w1):=aC (ah (aT _ wa).drew hb1);have X1:=aC (Gw ho1.g_ (aA.cZ ho1));clear ho1 hb1;have sc2:=bg.out _ hg1.out;refine ⟨.slice A1 (aB pR (inst S.σ a)).length c1,rfl,sc2,?_⟩;refine dN ?_;refine sF 5 (some 24) rfl rfl (by kernel_rfl) (by rfl) (by go_simp) (yG.out w1 hg1.out) ?_;rintro e w2 ⟨B1,d1,rfl,ho2,hb2⟩;have hg2:Hid (Below wa.heap.size wa w2):=aC (ah hg1.out hb2);have X2:=aC (Gw ho2.g_ (Gw (aA.cZ ho2) ((X1.out.1.below hb2).more hb2.size)));clear ho2 hb2;have XA:=bg.out _ hg2.out;refine ⟨.slice B1 (aB pR (inst S.σ b)).length d1,rfl,XA,?_⟩;refine dN ?_;refine aR 6 [] (some 1) rfl rfl ?_;refine aR 7 [] (some 2) rfl rfl ?_;refine gJ (by kernel_rfl) ?_ _;clear yF yG;obtain ⟨a',ha'⟩:∃a',a'=inst S.σ a:=⟨_,rfl⟩;obtain ⟨b',hb'⟩:∃b',b'=inst S.σ b:=⟨_,rfl⟩;rw [<-ha'] at X1 X2 ⊢;rw [<-hb'] at X2 ⊢
 have HR':Hid (oW U Lo m0 X S a' b'/\gD a'/\gD b'/\(aB pR a').length<=600002/\(aB pR b').length<=600002/\inst S.σ a'=a'/\inst S.σ b'=b'):=aC (by
  have hr:=HW.out.r;have hp:=hr.pair.len hr.fit pR;rw [ha',hb'];exact ⟨hr.res,hr.wf.1,hr.wf.2,hp.1,hp.2,kJ hr.j.kg.inv hr.ga.pend.1,kJ hr.j.kg.inv hr.gb.pend.1⟩)
 have vD:=aC (Gw ha' hb')
 have C_:Hid ((∀S' n,Done U S S' (bF a' b') n->Done U S S' (bF a b) n)/\(eX m0 S (bF a' b')->eX m0 S (bF a b))/\aJ a'=aJ a/\aJ b'=aJ b):=aC (by
  rw [ha',hb'];exact ⟨fun S' n d=>HW.out.r.back d,HW.out.r.ab_,HW.out.r.dyn.1,HW.out.r.dyn.2⟩)
 clear ha' hb';have EM:Hid (∀v,Below w2.heap.size w2 v->aM v v.heap.size A1 (aB pR a')/\aM v v.heap.size B1 (aB pR b')):=aC fun v hv=>⟨(X2.out.2.2.below hv).more hv.size,(X2.out.1.below hv).more hv.size⟩;obtain ⟨ba,oa,na,eA,J5,Ro,JR,hna⟩:=ad1 (EM.out w2 (aT _ _)).1;obtain ⟨bb,ob,nb,eB,Rp,Nz,Ct,hnb⟩:=ad1 (EM.out w2 (aT _ _)).2;subst eA eB;have hla:0<(aB pR a').length:=oV _ _;have hlb:0<(aB pR b').length:=oV _ _;obtain ⟨kA,hkA⟩:∃kA,kA=a'.k:=⟨_,rfl⟩;obtain ⟨kB,hkB⟩:∃kB,kB=b'.k:=⟨_,rfl⟩;rw [<-hkA] at Ro hna;rw [<-hkB] at Nz hnb;have HKK:=aC (Gw hkA hkB);obtain ⟨NQ,Py⟩:∃NQ,NQ=(aB pR a').length:=⟨_,rfl⟩;obtain ⟨NR,Pz⟩:∃NR,NR=(aB pR b').length:=⟨_,rfl⟩;rw [<-Py] at hla ⊢;rw [<-Pz] at hlb ⊢;have Ri:=aC (Gw Py Pz);have HNN:=aC (Gw hna hnb);clear hkA hkB Py Pz hna hnb;have HB2:Hid (Below w.heap.size w w2):=aC (ah HB.out hg2.out);obtain ⟨a0,a1,a2⟩:=(HS.out w2 hg2.out).1.at_;obtain ⟨r0,r1,r2⟩:=(HS.out w2 hg2.out).2.at_;obtain ⟨r3,r4,r5⟩:=(HS.out w2 hg2.out).2.fz;have HOK:Hid (∀n,Done U S S (bF a b) n->∀(wz:World),Below w.heap.size w wz->jG Y U Lo m0 X S (bF a b) n m0 S.m Q vs.length 0 wz):=aC fun n d wz hz=>.inr ⟨rfl,S,ns,vs,rfl,rfl,rfl,HT.out wz hz,d,HW.out.r.j,HW.out.r.fit,HN.out⟩;by_cases U3:kA=0
 ·have alx:(kA==0)=true:=by simp [U3]
  subst U3;go_wp2_with fail;refine bodyPost_ret (v:=.tuple #[bS m0 S.m Q vs.length cq,.int .i64 0]) (by simp [results,Try.results54,go_sem,r0,r1,r2]) rfl ⟨_,_,_,_,_,_,rfl,aC ⟨aY (by first|exact HB2.out|exact below_drewN HB2.out _) (ad7 _) _ _ _,?_⟩⟩;exact HOK.out _ (HW.out.r.afS (.inl (by rw [<-vD.out.1,<-HKK.out.1])) _) _ (aY (by first|exact HB2.out|exact below_drewN HB2.out _) (ad7 _) _ _ _)
 ·have alx:(kA==0)=false:=by simpa using U3
  by_cases hB0:kB=0
  ·have aly:(kB==0)=true:=by simp [hB0]
   subst hB0;go_wp2_with fail;refine bodyPost_ret (v:=.tuple #[bS m0 S.m Q vs.length cq,.int .i64 0]) (by simp [results,Try.results54,go_sem,r0,r1,r2]) rfl ⟨_,_,_,_,_,_,rfl,aC ⟨aY (by first|exact HB2.out|exact below_drewN HB2.out _) (ad7 _) _ _ _,?_⟩⟩;exact HOK.out _ (HW.out.r.afS (.inr (by rw [<-vD.out.2,<-HKK.out.2])) _) _ (aY (by first|exact HB2.out|exact below_drewN HB2.out _) (ad7 _) _ _ _)
  ·have aly:(kB==0)=false:=by simpa using hB0
   by_cases qp:kA=8
   ·have alz:(kA==8)=true:=by simp [qp]
    have Rq:Hid (na=a'.n/\(inst S.σ a).k=8):=aC ⟨HNN.out.1 qp,by rw [<-vD.out.1,<-HKK.out.1];exact qp⟩;by_cases hs:kB=8/\na=nb
    ·obtain ⟨NT,hnn⟩:=hs
     have YI:(kB==8)=true:=by simp [NT]
     have hvB:Hid (nb=b'.n/\(inst S.σ b).k=8):=aC ⟨HNN.out.2 NT,by rw [<-vD.out.2,<-HKK.out.2];exact NT⟩;have HE:Hid ((inst S.σ a).n=(inst S.σ b).n):=aC (by rw [<-vD.out.1,<-vD.out.2,<-Rq.out.1,<-hvB.out.1,hnn]);subst hnn qp NT;go_upto_region 4 with fail
     go_quiet (fail);go_wp2_with fail;refine bodyPost_ret (v:=.tuple #[bS m0 S.m Q vs.length cq,.int .i64 0]) (by simp [results,Try.results54,go_sem,r0,r1,r2]) rfl ⟨_,_,_,_,_,_,rfl,aC ⟨aY (by first|exact HB2.out|exact below_drewN HB2.out _) (ad7 _) _ _ _,?_⟩⟩;exact HOK.out _ (HW.out.r.same Rq.out.2 hvB.out.2 HE.out _) _ (aY (by first|exact HB2.out|exact below_drewN HB2.out _) (ad7 _) _ _ _)
    ·have hB4:kB≠8\/(kB=8/\na≠nb):=by
      by_cases h:kB=8
      ·exact .inr ⟨h,fun e=>hs ⟨h,e⟩⟩
      ·exact .inl h
     go_upto_region 4 with fail
     go_cut [60] (fun s60 wx=>s60= .bool false/\∃nq,wx=w2.drewN nq)
     case first=>
      subst qp;rcases hB4 with h|⟨h,hn⟩
      ·have YI:(kB==8)=false:=by simpa using h
       go_quiet (fail);go_wp2_with fail;go_meet;exact ⟨rfl,_,rfl⟩
      ·have YI:(kB==8)=true:=by simp [h]
       have hn':(na==nb)=false:=by simpa using hn
       subst h;go_quiet (fail);go_wp2_with fail;go_meet;exact ⟨rfl,_,rfl⟩
     case rest=>
      obtain ⟨rfl,hwc⟩:=hcut
      have hNB:Hid ((inst S.σ b).k≠0/\((inst S.σ b).k=8->(inst S.σ b).n≠(inst S.σ a).n)):=aC (by
       rw [<-vD.out.2,<-HKK.out.2,<-vD.out.1,<-Rq.out.1];refine ⟨hB0,fun h8=>?_⟩;rw [<-HNN.out.2 h8];rcases hB4 with h|⟨_,h⟩
       ·exact absurd h8 h
       ·exact fun e=>h e.symm)
      have HVR:Hid (wV U Lo m0 X S na b'):=aC (by have h:=HW.out.r.ajE Rq.out.2 hNB.out.1 hNB.out.2;rw [<-vD.out.1,<-vD.out.2,<-Rq.out.1] at h;exact h);have hfx:inst S.σ b'=b':=HR'.out.2.2.2.2.2.2;have hwt:gD b':=HR'.out.2.2.1;have hlt:(aB pR b').length<=600002:=HR'.out.2.2.2.2.1;have o8:Hid (∀v,Below w2.heap.size w2 v->Calls Try.prog 94 #[bS m0 S.m Q vs.length cq,.slice (some ⟨bb,ob,none⟩) (aB pR b').length d1] v fun e w'=>∃A' c',e= .returned (.tuple #[bS m0 (aH S.m b').2 Q vs.length cq,.slice A' (aB pR (aH S.m b').1).length c'])/\fA w' v.heap.size A' c' (aB pR (aH S.m b').1)/\Below v.heap.size v w'):=aC fun v hv=>qX (.inl hwt) (by omega) Ay.1 Ay.2 m0 Q vs.length cq v _ d1 (EM.out v hv).2;have xg:Hid (∀(v:World) (A:Option Addr) (c:Nat),Below w.heap.size w v->aM v v.heap.size A (aB pR (aH S.m b').1)->(aB pR (aH S.m b').1).length<=c->(∀a,A=some a->w.heap.size<=a.block)->Calls Try.prog 95 #[bS m0 (aH S.m b').2 Q vs.length cq,.int .i64 na,.slice A (aB pR (aH S.m b').1).length c] v (sW Y U Lo m0 X S (bF (aS na) b') (aJ b') v)):=aC fun v A c hv h1 h2 h3=>Pt (fun k hk=>vv (xq.out k hk) hv.size) (fun a ha hy=>by have e1:=h3 a ha;have e2:=xq.out _ hy;omega) HU.out HVR.out hfx hwt (by omega) Ay.2 HN.out (HT.out v hv).m h1 h2;obtain ⟨m1,hm1⟩:∃m1,m1=(aH S.m b').2:=⟨_,rfl⟩;obtain ⟨UU,vC⟩:∃UU,UU=aB pR (aH S.m b').1:=⟨_,rfl⟩;rw [<-hm1,<-vC] at o8 xg;rw [<-Ri.out.2] at o8;clear hm1 vC hfx hwt hlt;obtain ⟨w3,hw3⟩:∃w3,w3=wc:=⟨_,rfl⟩;rw [<-hw3] at hwc ⊢;clear hw3
      have sP:Hid (Below w2.heap.size w2 w3):=aC (by obtain ⟨nq,e⟩:=hwc;rw [e];exact iA _ _);clear hwc a0 a1 a2 r0 r1 r2 r3 r4 r5;have Ro:=(sP.out.cell (p:=⟨ba,oa,none⟩) J5).trans Ro;have JR:=(sP.out.cell (p:=⟨ba,oa+2,none⟩) J5).trans JR;have Nz:=(sP.out.cell (p:=⟨bb,ob,none⟩) Rp).trans Nz;have Ct:=(sP.out.cell (p:=⟨bb,ob+2,none⟩) Rp).trans Ct;have qc:Hid (∀v,Below w3.heap.size w3 v->bD v w.heap.size m0 S.m Q vs.length cq/\bD v (w.heap.size+1) 0 0 none 0 0):=aC fun v hv=>HS.out v (ah (ah hg2.out sP.out) hv);obtain ⟨a0,a1,a2⟩:=(qc.out w3 (aT _ _)).1.at_;go_wp2_with fail;refine (o8.out w3 sP.out).mono ?_;rintro e w4 ⟨A4,c4,rfl,J2,hb4⟩;have X4:=aC (Gw J2.g_ (Gw (aA.cZ J2) (Gw (fun (a:Addr) (ha:A4=some a)=>(aA.lt J2 a ha).1) hb4)));clear J2 hb4;go_upto_region 8 with fail
      obtain ⟨w5,mh⟩:∃w5,w5=w4.alloc (.cells #[.int .i64 m0,.int .i64 m1,.slice Q vs.length cq] 29):=⟨_,rfl⟩;rw [<-mh];have s5:bD w5 w4.heap.size m0 m1 Q vs.length cq:=by rw [mh];exact bD.new w4 m0 m1 Q vs.length cq
      have MQ:Hid (Below w3.heap.size w3 w5):=aC (by rw [mh];exact ak X4.out.2.2.2 _);have zy:w3.heap.size<=w4.heap.size:=X4.out.2.2.2.size;have X5:Hid (aM w5 w5.heap.size A4 UU):=aC (by rw [mh];exact (X4.out.1.below (ak (aT _ _) _)).more (by simp));have HS5:=aC s5;have hne5:w4.heap.size≠w.heap.size+1:=by have h1:=(qc.out w3 (aT _ _)).2.lt;omega
      have ad5:ba≠w.heap.size+1:=fun e=>(eO.zero (HS.out w2 hg2.out).2).Ah (EM.out w2 (aT _ _)).1 (zZ _ _) _ rfl e;have HCN:Hid (∀v,Below w5.heap.size w5 v->v.cell? ⟨ba,oa+2,none⟩=some (.int .i64 na)):=aC fun v hv=>((ah MQ.out hv).cell (p:=⟨ba,oa+2,none⟩) (vv J5 sP.out.size)).trans JR;have En:ba<w5.heap.size:=vv J5 (zk sP.out.size MQ.out.size);clear mh s5 a0 a1 a2;obtain ⟨SS,hSS⟩:∃SS:World->Prop,SS=fun v=>v.cell? ⟨w4.heap.size,0,none⟩=some (.int .i64 m0)/\v.cell? ⟨w4.heap.size,1,none⟩=some (.int .i64 m1)/\v.cell? ⟨w4.heap.size,2,none⟩=some (.slice Q vs.length cq)/\v.cell? ⟨ba,oa+2,none⟩=some (.int .i64 na):=⟨_,rfl⟩
      have bg:Hid (∀v,Below w5.heap.size w5 v->SS v):=aC fun v hv=>by
       rw [hSS];obtain ⟨y0,y1,y2⟩:=(HS5.out.later hv).at_;exact ⟨y0,y1,y2,HCN.out v hv⟩
      refine bO (S:=SS) [] (by kernel_rfl) ?_ (fun hHeld=>?_)
      ·exact bg.out _ (aT _ _).drew
      refine aR 0 [] (some 73) rfl rfl ?_;refine aR 1 [] (some 74) rfl rfl ?_;refine aR 2 [] (some 75) rfl rfl ?_;refine aR 3 [] (some 76) rfl rfl ?_;refine aR 4 [] (some 77) rfl rfl ?_;refine aR 5 [] (some 78) rfl rfl ?_;refine sF 6 (some 79) rfl rfl (by kernel_rfl) (by rfl) (by go_simp) (xg.out _ A4 c4 (ah HB2.out (ah (ah sP.out MQ.out) (aT _ _).drew)) (X5.out.below (aT _ _).drew) X4.out.2.1 (fun a ha=>zk (ah HB2.out sP.out).size (X4.out.2.2.1 a ha))) ?_;rintro e w9 ⟨f,g,Q9,l9,c9,er,rfl,H9⟩;have dM:Hid (Below w5.heap.size w5 w9):=aC (ah (aT _ w5).drew H9.out.1);have t2:=(qc.out w9 (ah MQ.out dM.out)).2;have r0':=t2.at_;have r1':=t2.fz;have MG:=bg.out _ dM.out;refine ⟨.tuple #[bS f g Q9 l9 c9,.int .i64 er],rfl,MG,?_⟩;refine dN ?_;refine aR 7 [] (some 80) rfl rfl ?_;refine aR 8 [] (some 81) rfl rfl ?_;have hfr:Fr (fun k=>k=w.heap.size+1) w9 (dB w9 (w.heap.size+1) f g Q9 l9 c9):=gY (X:=fun k=>k=w.heap.size+1) (Fr.refl _ _) (.inl rfl) _ _ _
      have xL:SS (dB w9 (w.heap.size+1) f g Q9 l9 c9):=by
       rw [hSS];obtain ⟨y0,y1,y2⟩:=((HS5.out.later dM.out).fr hfr hne5).at_;exact ⟨y0,y1,y2,(adN (hfr.block _ (vv En dM.out.size) ad5)).trans (HCN.out w9 dM.out)⟩
      refine Cy 9 none (w':=dB w9 (w.heap.size+1) f g Q9 l9 c9) rfl rfl (by kernel_rfl) (by rfl) (by go_simp) (fun _=>xL) ?_;refine dN ?_;have sz:=t2.dB f g Q9 l9 c9;have hbz:Below w.heap.size w (dB w9 (w.heap.size+1) f g Q9 l9 c9):=aY (ah (ah HB2.out (ah sP.out MQ.out)) dM.out) (ad7 _) _ _ _;have han:=jG.past (jG.conv (n0:=aJ a+aJ b) H9.out.2 (fun h=>C_.out.2.1 (by have hv:=(t_ HW.out.r.j HW.out.r.ga Rq.out.2).2.2.2.2;rw [<-vD.out.1,<-Rq.out.1] at hv;rw [hv];exact h)) (fun S' h=>(C_.out.1 S' _ (by have hv:=(t_ HW.out.r.j HW.out.r.ga Rq.out.2).2.2.2.2;rw [<-vD.out.1,<-Rq.out.1] at hv;rw [hv];exact h)).more (by have:=C_.out.2.2.2;omega))) hfr (fun k hk=>by rw [hk];exact eO.zero t2);obtain ⟨wz,hwz⟩:∃wz,wz=dB w9 (w.heap.size+1) f g Q9 l9 c9:=⟨_,rfl⟩;rw [<-hwz] at xL sz hbz han ⊢;clear hfr hwz;refine aR 10 [] (some 7) rfl rfl ?_;refine gJ (by kernel_rfl) ?_ _;obtain ⟨z0,z1,z2⟩:=sz.at_;go_wp2_with fail;exact bodyPost_ret (v:=.tuple #[bS f g Q9 l9 c9,.int .i64 er]) (by simp [results,Try.results54,go_sem,z0,z1,z2]) rfl ⟨_,_,_,_,_,_,rfl,aC ⟨hbz,han⟩⟩
   ·have alz:(kA==8)=false:=by simpa using qp
    have YJ:Hid ((inst S.σ a).k≠0/\(inst S.σ a).k≠8):=aC (by rw [<-vD.out.1,<-HKK.out.1];exact ⟨U3,qp⟩);by_cases NT:kB=8
    ·have YI:(kB==8)=true:=by simp [NT]
     have hvB:Hid (nb=b'.n/\(inst S.σ b).k=8):=aC ⟨HNN.out.2 NT,by rw [<-vD.out.2,<-HKK.out.2];exact NT⟩;go_upto_region 4 with fail
     go_cut [60] (fun s60 wx=>s60= .bool false/\∃nq,wx=w2.drewN nq)
     case first=>
      go_quiet (fail);go_wp2_with fail;go_meet;exact ⟨rfl,_,rfl⟩
     case rest=>
      obtain ⟨rfl,hwc⟩:=hcut;have HVR:Hid (wV U Lo m0 X S nb a'):=aC (by have h:=HW.out.r.ajF hvB.out.2 YJ.out.1 YJ.out.2;rw [<-vD.out.1,<-vD.out.2,<-hvB.out.1] at h;exact h);have hfx:inst S.σ a'=a':=HR'.out.2.2.2.2.2.1;have hwt:gD a':=HR'.out.2.1;have hlt:(aB pR a').length<=600002:=HR'.out.2.2.2.1;have o8:Hid (∀v,Below w2.heap.size w2 v->Calls Try.prog 94 #[bS m0 S.m Q vs.length cq,.slice (some ⟨ba,oa,none⟩) (aB pR a').length c1] v fun e w'=>∃A' c',e= .returned (.tuple #[bS m0 (aH S.m a').2 Q vs.length cq,.slice A' (aB pR (aH S.m a').1).length c'])/\fA w' v.heap.size A' c' (aB pR (aH S.m a').1)/\Below v.heap.size v w'):=aC fun v hv=>qX (.inl hwt) (by omega) Ay.1 Ay.2 m0 Q vs.length cq v _ c1 (EM.out v hv).1;have xg:Hid (∀(v:World) (A:Option Addr) (c:Nat),Below w.heap.size w v->aM v v.heap.size A (aB pR (aH S.m a').1)->(aB pR (aH S.m a').1).length<=c->(∀a,A=some a->w.heap.size<=a.block)->Calls Try.prog 95 #[bS m0 (aH S.m a').2 Q vs.length cq,.int .i64 nb,.slice A (aB pR (aH S.m a').1).length c] v (sW Y U Lo m0 X S (bF (aS nb) a') (aJ a') v)):=aC fun v A c hv h1 h2 h3=>Pt (fun k hk=>vv (xq.out k hk) hv.size) (fun a ha hy=>by have e1:=h3 a ha;have e2:=xq.out _ hy;omega) HU.out HVR.out hfx hwt (by omega) Ay.2 HN.out (HT.out v hv).m h1 h2;obtain ⟨m1,hm1⟩:∃m1,m1=(aH S.m a').2:=⟨_,rfl⟩;obtain ⟨UU,vC⟩:∃UU,UU=aB pR (aH S.m a').1:=⟨_,rfl⟩;rw [<-hm1,<-vC] at o8 xg;rw [<-Ri.out.1] at o8;clear hm1 vC hfx hwt hlt;obtain ⟨w3,hw3⟩:∃w3,w3=wc:=⟨_,rfl⟩;rw [<-hw3] at hwc ⊢;clear hw3
      have sP:Hid (Below w2.heap.size w2 w3):=aC (by obtain ⟨nq,e⟩:=hwc;rw [e];exact iA _ _);clear hwc a0 a1 a2 r0 r1 r2 r3 r4 r5;have Ro:=(sP.out.cell (p:=⟨ba,oa,none⟩) J5).trans Ro;have JR:=(sP.out.cell (p:=⟨ba,oa+2,none⟩) J5).trans JR;have Nz:=(sP.out.cell (p:=⟨bb,ob,none⟩) Rp).trans Nz;have Ct:=(sP.out.cell (p:=⟨bb,ob+2,none⟩) Rp).trans Ct;have qc:Hid (∀v,Below w3.heap.size w3 v->bD v w.heap.size m0 S.m Q vs.length cq/\bD v (w.heap.size+1) 0 0 none 0 0):=aC fun v hv=>HS.out v (ah (ah hg2.out sP.out) hv);obtain ⟨a0,a1,a2⟩:=(qc.out w3 (aT _ _)).1.at_;go_wp2_with fail;refine (o8.out w3 sP.out).mono ?_;rintro e w4 ⟨A4,c4,rfl,J2,hb4⟩;have X4:=aC (Gw J2.g_ (Gw (aA.cZ J2) (Gw (fun (a:Addr) (ha:A4=some a)=>(aA.lt J2 a ha).1) hb4)));clear J2 hb4;go_upto_region 11 with fail
      obtain ⟨w5,mh⟩:∃w5,w5=w4.alloc (.cells #[.int .i64 m0,.int .i64 m1,.slice Q vs.length cq] 29):=⟨_,rfl⟩;rw [<-mh];have s5:bD w5 w4.heap.size m0 m1 Q vs.length cq:=by rw [mh];exact bD.new w4 m0 m1 Q vs.length cq
      have MQ:Hid (Below w3.heap.size w3 w5):=aC (by rw [mh];exact ak X4.out.2.2.2 _);have zy:w3.heap.size<=w4.heap.size:=X4.out.2.2.2.size;have X5:Hid (aM w5 w5.heap.size A4 UU):=aC (by rw [mh];exact (X4.out.1.below (ak (aT _ _) _)).more (by simp));have HS5:=aC s5;have hne5:w4.heap.size≠w.heap.size+1:=by have h1:=(qc.out w3 (aT _ _)).2.lt;omega
      have ad5:bb≠w.heap.size+1:=fun e=>(eO.zero (HS.out w2 hg2.out).2).Ah (EM.out w2 (aT _ _)).2 (zZ _ _) _ rfl e;have HCN:Hid (∀v,Below w5.heap.size w5 v->v.cell? ⟨bb,ob+2,none⟩=some (.int .i64 nb)):=aC fun v hv=>((ah MQ.out hv).cell (p:=⟨bb,ob+2,none⟩) (vv Rp sP.out.size)).trans Ct;have En:bb<w5.heap.size:=vv Rp (zk sP.out.size MQ.out.size);clear mh s5 a0 a1 a2;obtain ⟨SS,hSS⟩:∃SS:World->Prop,SS=fun v=>v.cell? ⟨w4.heap.size,0,none⟩=some (.int .i64 m0)/\v.cell? ⟨w4.heap.size,1,none⟩=some (.int .i64 m1)/\v.cell? ⟨w4.heap.size,2,none⟩=some (.slice Q vs.length cq)/\v.cell? ⟨bb,ob+2,none⟩=some (.int .i64 nb):=⟨_,rfl⟩
      have bg:Hid (∀v,Below w5.heap.size w5 v->SS v):=aC fun v hv=>by
       rw [hSS];obtain ⟨y0,y1,y2⟩:=(HS5.out.later hv).at_;exact ⟨y0,y1,y2,HCN.out v hv⟩
      refine bO (S:=SS) [] (by kernel_rfl) ?_ (fun hHeld=>?_)
      ·exact bg.out _ (aT _ _).drew
      refine aR 0 [] (some 93) rfl rfl ?_;refine aR 1 [] (some 94) rfl rfl ?_;refine aR 2 [] (some 95) rfl rfl ?_;refine aR 3 [] (some 96) rfl rfl ?_;refine aR 4 [] (some 97) rfl rfl ?_;refine aR 5 [] (some 98) rfl rfl ?_;refine sF 6 (some 99) rfl rfl (by kernel_rfl) (by rfl) (by go_simp) (xg.out _ A4 c4 (ah HB2.out (ah (ah sP.out MQ.out) (aT _ _).drew)) (X5.out.below (aT _ _).drew) X4.out.2.1 (fun a ha=>zk (ah HB2.out sP.out).size (X4.out.2.2.1 a ha))) ?_;rintro e w9 ⟨f,g,Q9,l9,c9,er,rfl,H9⟩;have dM:Hid (Below w5.heap.size w5 w9):=aC (ah (aT _ w5).drew H9.out.1);have t2:=(qc.out w9 (ah MQ.out dM.out)).2;have r0':=t2.at_;have r1':=t2.fz;have MG:=bg.out _ dM.out;refine ⟨.tuple #[bS f g Q9 l9 c9,.int .i64 er],rfl,MG,?_⟩;refine dN ?_;refine aR 7 [] (some 100) rfl rfl ?_;refine aR 8 [] (some 101) rfl rfl ?_;have hfr:Fr (fun k=>k=w.heap.size+1) w9 (dB w9 (w.heap.size+1) f g Q9 l9 c9):=gY (X:=fun k=>k=w.heap.size+1) (Fr.refl _ _) (.inl rfl) _ _ _
      have xL:SS (dB w9 (w.heap.size+1) f g Q9 l9 c9):=by
       rw [hSS];obtain ⟨y0,y1,y2⟩:=((HS5.out.later dM.out).fr hfr hne5).at_;exact ⟨y0,y1,y2,(adN (hfr.block _ (vv En dM.out.size) ad5)).trans (HCN.out w9 dM.out)⟩
      refine Cy 9 none (w':=dB w9 (w.heap.size+1) f g Q9 l9 c9) rfl rfl (by kernel_rfl) (by rfl) (by go_simp) (fun _=>xL) ?_;refine dN ?_;have sz:=t2.dB f g Q9 l9 c9;have hbz:Below w.heap.size w (dB w9 (w.heap.size+1) f g Q9 l9 c9):=aY (ah (ah HB2.out (ah sP.out MQ.out)) dM.out) (ad7 _) _ _ _;have han:=jG.past (jG.conv (n0:=aJ a+aJ b) H9.out.2 (fun h=>C_.out.2.1 (by have hv:=(t_ HW.out.r.j HW.out.r.gb hvB.out.2).2.2.2.2;rw [<-vD.out.2,<-hvB.out.1] at hv;rw [hv];exact Js h)) (fun S' h=>(C_.out.1 S' _ (by have hv:=(t_ HW.out.r.j HW.out.r.gb hvB.out.2).2.2.2.2;rw [<-vD.out.2,<-hvB.out.1] at hv;rw [hv];exact h.symm)).more (by have:=C_.out.2.2.1;omega))) hfr (fun k hk=>by rw [hk];exact eO.zero t2);obtain ⟨wz,hwz⟩:∃wz,wz=dB w9 (w.heap.size+1) f g Q9 l9 c9:=⟨_,rfl⟩;rw [<-hwz] at xL sz hbz han ⊢;clear hfr hwz;refine aR 10 [] (some 7) rfl rfl ?_;refine gJ (by kernel_rfl) ?_ _;obtain ⟨z0,z1,z2⟩:=sz.at_;go_wp2_with fail;exact bodyPost_ret (v:=.tuple #[bS f g Q9 l9 c9,.int .i64 er]) (by simp [results,Try.results54,go_sem,z0,z1,z2]) rfl ⟨_,_,_,_,_,_,rfl,aC ⟨hbz,han⟩⟩
    ·have YI:(kB==8)=false:=by simpa using NT
     have agK:Hid ((inst S.σ b).k≠0/\(inst S.σ b).k≠8):=aC (by rw [<-vD.out.2,<-HKK.out.2];exact ⟨hB0,NT⟩);go_upto_region 4 with fail
     go_cut [60] (fun s60 wx=>s60= .bool false/\∃nq,wx=w2.drewN nq)
     case first=>
      go_quiet (fail);go_wp2_with fail;go_meet;exact ⟨rfl,_,rfl⟩
     case rest=>
      obtain ⟨rfl,hwc⟩:=hcut;obtain ⟨w3,hw3⟩:∃w3,w3=wc:=⟨_,rfl⟩;rw [<-hw3] at hwc ⊢;clear hw3;have sP:Hid (Below w2.heap.size w2 w3):=aC (by obtain ⟨nq,e⟩:=hwc;rw [e];exact iA _ _);clear hwc a0 a1 a2 r0 r1 r2 r3 r4 r5;have Ro:=(sP.out.cell (p:=⟨ba,oa,none⟩) J5).trans Ro;have Nz:=(sP.out.cell (p:=⟨bb,ob,none⟩) Rp).trans Nz;have J5:=vv J5 sP.out.size;have Rp:=vv Rp sP.out.size;go_upto_region 12 with fail
      go_cut [110] (fun alB wx=>alB= .bool (decide (kA≠kB))/\∃nq,wx=w3.drewN nq)
      case first=>
       cases hkk:(kA==kB) with
       |true=>
        have e:kA=kB:=by simpa using hkk
        subst e;go_quiet (fail);go_wp2_with fail;go_meet
        exact ⟨by simp,_,rfl⟩
       |false=>
        have e:kA≠kB:=by simpa using hkk
        go_quiet (fail);go_wp2_with fail;go_meet;exact ⟨by simp [e],_,rfl⟩
      case rest=>
       obtain ⟨rfl,hwc⟩:=hcut;obtain ⟨w4,hw4⟩:∃w4,w4=wc:=⟨_,rfl⟩;rw [<-hw4] at hwc ⊢;clear hw4;have B34:Hid (Below w3.heap.size w3 w4):=aC (by obtain ⟨nq,e⟩:=hwc;rw [e];exact iA _ _);clear hwc;have rz:Hid (Below w2.heap.size w2 w4):=aC (ah sP.out B34.out);have Ro:=(B34.out.cell (p:=⟨ba,oa,none⟩) J5).trans Ro;have J5:=vv J5 B34.out.size;have qc:Hid (∀v,Below w4.heap.size w4 v->bD v w.heap.size m0 S.m Q vs.length cq/\bD v (w.heap.size+1) 0 0 none 0 0):=aC fun v hv=>HS.out v (ah (ah hg2.out rz.out) hv);have HB2:Hid (Below w.heap.size w w4):=aC (ah HB2.out rz.out);obtain ⟨a0,a1,a2⟩:=(qc.out w4 (aT _ _)).1.at_;obtain ⟨r0,r1,r2⟩:=(qc.out w4 (aT _ _)).2.at_;obtain ⟨r3,r4,r5⟩:=(qc.out w4 (aT _ _)).2.fz;by_cases hk:kA=kB
       ·have hk':decide (kA≠kB)=false:=by simp [hk]
        rw [hk'];have HKE:=aC hk;clear hk hk';by_cases hr:av kA=true
        ·have AZ:kA=6\/kA=7:=by unfold av at hr;simpa using hr
         have mD:Hid (Calls Try.prog 96 #[bS m0 S.m Q vs.length cq,.slice (some ⟨ba,oa,none⟩) NQ c1,.slice (some ⟨bb,ob,none⟩) NR d1] w4 (sW Y U Lo m0 X S (bF a' b') (aJ a'+aJ b') w4)):=aC (by
          have h:=UQ (Y:=Y) HU.out ⟨HR'.out.1,HR'.out.2.1,HR'.out.2.2.1,by have:=HR'.out.2.2.2.1;omega,by have:=HR'.out.2.2.2.2.1;omega⟩ (by rw [<-HKK.out.1];exact hr) (by rw [<-HKK.out.1,<-HKK.out.2,HKE.out]) (fun S' c d hl hw=>zi.out S' c d (r_.res HW.out.r (by rw [<-vD.out.1,<-vD.out.2];exact hl)) hw) ns vs Q cq (some ⟨ba,oa,none⟩) (some ⟨bb,ob,none⟩) c1 d1 w4 (fun k hk=>vv (xq.out k hk) HB2.out.size) HN.out (HT.out w4 HB2.out) (EM.out w4 rz.out).1 X1.out.2 (EM.out w4 rz.out).2 X2.out.2.1;rw [<-Ri.out.1,<-Ri.out.2] at h;exact h)
         have fin:Hid (∀(f g:Int) (Q9:Option Addr) (l9 c9:Nat) (er:Int) (w9:World),Below w4.heap.size w4 w9->jG Y U Lo m0 X S (bF a' b') (aJ a'+aJ b') f g Q9 l9 er w9->jG Y U Lo m0 X S (bF a b) (aJ a+aJ b) f g Q9 l9 er (dB w9 (w.heap.size+1) f g Q9 l9 c9)):=aC fun f g Q9 l9 c9 er w9 dM h=>
          jG.past (jG.conv (n0:=aJ a+aJ b) h C_.out.2.1 (fun S' d=>by rw [<-C_.out.2.2.1,<-C_.out.2.2.2];exact C_.out.1 S' _ d)) (gY (X:=fun k=>k=w.heap.size+1) (Fr.refl _ _) (.inl rfl) _ _ _) (fun k hk=>by rw [hk];exact eO.zero (qc.out w9 dM).2)
         rcases AZ with h6|h6
         all_goals
          subst h6;go_wp2_with fail;refine mD.out.mono ?_;rintro e w9 ⟨f,g,Q9,l9,c9,er,rfl,H9⟩;obtain ⟨r0,r1,r2⟩:=(qc.out w9 H9.out.1).2.at_;obtain ⟨r3,r4,r5⟩:=(qc.out w9 H9.out.1).2.fz;go_wp2_with fail;exact bodyPost_ret (v:=.tuple #[bS f g Q9 l9 c9,.int .i64 er]) (by simp [results,Try.results54,go_sem,r0,r1,r2]) rfl ⟨_,_,_,_,_,_,rfl,aC ⟨aY (ah HB2.out H9.out.1) (ad7 _) _ _ _,fin.out f g Q9 l9 c9 er w9 H9.out.1 H9.out.2⟩⟩
        ·have hr':av kA=false:=by simpa using hr
         have h6:(kA==6)=false:=by cases h:(kA==6) with|false=>rfl|true=>(have e:kA=6:=by simpa using h);rw [e] at hr';cases hr'
         have h7:(kA==7)=false:=by cases h:(kA==7) with|false=>rfl|true=>(have e:kA=7:=by simpa using h);rw [e] at hr';cases hr'
         have HLK:Hid (Like a' b'):=aC ⟨by rw [<-HKK.out.1,<-HKK.out.2,HKE.out],by rw [<-HKK.out.1];exact U3,by rw [<-HKK.out.1];exact qp,by rw [<-HKK.out.1];exact hr'⟩
         have HKI:Hid (∀v,Below w4.heap.size w4 v->Calls Try.prog 97 #[.slice (some ⟨ba,oa,none⟩) NQ c1] v (pJ false a'.fs a'.tl v)):=aC fun v hv=>by
          have h:=jm (.inl HR'.out.2.1) pR (some ⟨ba,oa,none⟩) c1 v (EM.out v (ah rz.out hv)).1 (by have:=HR'.out.2.2.2.1;omega) X1.out.2;rw [show av a'.k=false from HLK.out.row,<-Ri.out.1] at h;exact h
         have HKJ:Hid (∀v,Below w4.heap.size w4 v->Calls Try.prog 97 #[.slice (some ⟨bb,ob,none⟩) NR d1] v (pJ false b'.fs b'.tl v)):=aC fun v hv=>by
          have h:=jm (.inl HR'.out.2.2.1) pR (some ⟨bb,ob,none⟩) d1 v (EM.out v (ah rz.out hv)).2 (by have:=HR'.out.2.2.2.2.1;omega) X2.out.2.1;rw [show av b'.k=false by rw [HLK.out.k];exact HLK.out.row,<-Ri.out.2] at h;exact h
         go_wp2_with fail;refine (HKI.out w4 (aT _ _)).mono ?_;rintro e w5 ⟨V1,xK,vw,A3,c3,rfl,h1,h2,h3,h4,h5,h6',h7',h8',h9⟩;have K1:=aC (Gw (aA.read jq h1) (Gw h2 (Gw h4 (Gw h5 (fun (a:Addr) (ha:V1=some a)=>(aA.lt h1 a ha).1)))));clear HKI h1 h2 h3 h4 h5 h6' h7' h8' h9;go_wp2_with fail;refine (HKJ.out w5 K1.out.2.2.2.1).mono ?_;rintro e w6 ⟨V2,gq,pF,B3,d3,rfl,h1,h2,h3,h4,h5,h6',h7',h8',h9⟩;have K2:=aC (Gw (aA.read jq h1) (Gw h2 (Gw h4 (Gw h5 (fun (a:Addr) (ha:V2=some a)=>zk K1.out.2.2.2.1.size (aA.lt h1 a ha).1)))));clear HKJ h1 h2 h3 h4 h5 h6' h7' h8' h9;have hu1:vw.length=a'.fs.length:=by rw [K1.out.2.1.1,aaT]
         have HU2:Hid (pF.length=b'.fs.length):=aC (by rw [K2.out.2.1.1,aaT]);have HBL:Hid (a'.fs.length=b'.fs.length):=aC (HLK.out.len HR'.out.1.ga HR'.out.1.gb);have B46:Hid (Below w4.heap.size w4 w6):=aC (ah K1.out.2.2.2.1 K2.out.2.2.2.1);rw [hu1];clear hu1;have huE:pF.length=a'.fs.length:=by rw [HU2.out,HBL.out]
         rw [huE];clear huE;have hlf:a'.fs.length<=1000000:=by have h1:=iP pR a'.k a'.n a'.fs a'.tl;have h2:=qF (r:=av a'.k) (fs:=a'.fs);have h3:=HR'.out.2.2.2.1;have e:=Rn a';rw [e] at h1;omega
         obtain ⟨NF,hNF⟩:∃NF,NF=a'.fs.length:=⟨_,rfl⟩;have HNF:=aC hNF;rw [<-hNF] at hlf ⊢;clear hNF;have HB6:Hid (Below w.heap.size w w6):=aC (ah HB2.out B46.out);have IZ:Hid (bD w6 w.heap.size m0 S.m Q vs.length cq/\bD w6 (w.heap.size+1) 0 0 none 0 0):=aC (qc.out w6 B46.out);have HK6:Hid (∀k,k=w.heap.size->eO w6 k):=aC fun k hk=>by rw [hk];exact (HT.out w6 HB6.out).JB IZ.out.1
         have M0:Hid (Nt U Lo m0 X S S a' b' 0/\fG S ns/\fQ Y vs Q (dA S) ns w6/\bD w6 w.heap.size m0 S.m Q vs.length cq/\Fr (fun k=>k=w.heap.size) w6 w6):=aC ⟨Nt.start HR'.out.1 HR'.out.2.2.2.2.2.1 HR'.out.2.2.2.2.2.2 HLK.out,HN.out,HT.out w6 HB6.out,IZ.out.1,Fr.refl _ _⟩;clear a0 a1 a2 r0 r1 r2 r3 r4 r5;go_wp2_with fail;go_loopw [16] (fun s16 wr=>∃(i:Nat) (S1:Kn) (ns1:List Int) (vs1:List QV) (Q1:Option Addr) (U4:Nat),s16= .int .i64 (i:Int)/\i<=NF/\Hid (Nt U Lo m0 X S S1 a' b' i/\fG S1 ns1/\fQ Y vs1 Q1 (dA S1) ns1 wr/\bD wr w.heap.size m0 S1.m Q1 vs1.length U4/\Fr (fun k=>k=w.heap.size) w6 wr)) (fun s16 _=>NF-(intOf s16).toNat)
         case atStart=>exact ⟨0,S,ns,vs,Q,cq,rfl,h_ _,M0⟩
         case round=>
          obtain ⟨i,S1,ns1,vs1,Q1,U4,rfl,hi,N⟩:=hrel;clear M0;have NU:Hid (Below w.heap.size w wr):=aC ((Fr.new (X:=fun _=>False) (Fr.below HB6.out) N.out.2.2.2.2 fun k hk=>.inr (by omega)).toBelow fun k hk=>hk.elim);have HR1:Hid (bD wr (w.heap.size+1) 0 0 none 0 0):=aC (IZ.out.2.fr N.out.2.2.2.2 (by show ¬w.heap.size+1=w.heap.size;omega));obtain ⟨a0,a1,a2⟩:=N.out.2.2.2.1.at_;by_cases hp:i<NF
          ·obtain ⟨f1,hx⟩:=aD (show i<a'.fs.length by rw [<-HNF.out];exact hp)
           obtain ⟨f2,hy⟩:=aD (show i<b'.fs.length by rw [<-HBL.out,<-HNF.out];exact hp);obtain ⟨v1,hv1⟩:=aD (show i<vw.length by rw [K1.out.2.1.1,aaT,<-HNF.out];exact hp);obtain ⟨v2,hv2⟩:=aD (show i<pF.length by rw [HU2.out,<-HBL.out,<-HNF.out];exact hp);obtain ⟨b,o,eV,hbV,k1⟩:=aX.slice K1.out.1 hv1;obtain ⟨b3,o3,eW,hbW,k3⟩:=aX.slice K2.out.1 hv2;obtain ⟨e1,t1⟩:=K1.out.2.1.2 i v1 (aB pR f1.2) hv1 (by rw [adg,hx];rfl);obtain ⟨e2,t2⟩:=K2.out.2.1.2 i v2 (aB pR f2.2) hv2 (by rw [adg,hy];rfl);have hcp1:=K1.out.2.2.1 v1 (Yt hv1);have hcp2:=K2.out.2.2.1 v2 (Yt hv2);have nb1:=K1.out.2.2.2.2 _ eV;have nb3:=K2.out.2.2.2.2 _ eW;have hw0:w.heap.size<w4.heap.size:=(qc.out w4 (aT _ _)).1.lt;obtain ⟨va1,vl1,vc1⟩:=v1;obtain ⟨va2,vl2,vc2⟩:=v2;simp only at e1 e2 k1 k3 t1 t2 hcp1 hcp2;have k1:=(adN (N.out.2.2.2.2.block b (vv hbV K2.out.2.2.2.1.size) (by show ¬b=w.heap.size;simp only at nb1;omega))).trans ((K2.out.2.2.2.1.cell (p:=⟨b,o+i,none⟩) hbV).trans k1);have k3:=(adN (N.out.2.2.2.2.block b3 hbW (by show ¬b3=w.heap.size;simp only at nb3;omega))).trans k3;have t1:=aM.jw ((t1.below K2.out.2.2.2.1).more K2.out.2.2.2.1.size) N.out.2.2.2.2 HK6.out;have t2:=aM.jw t2 N.out.2.2.2.2 HK6.out;have zb:b<wr.heap.size:=vv (vv hbV K2.out.2.2.2.1.size) N.out.2.2.2.2.size;have zb3:b3<wr.heap.size:=vv hbW N.out.2.2.2.2.size;obtain ⟨hag,hless,hnext,hno⟩:=N.out.1.child hx hy;have UY:gD f1.2:=by have hw:=HR'.out.2.1;obtain ⟨_,_,_,_⟩:=a';rw [bU] at hw;exact hw.2 _ (Yt hx)
           have UZ:gD f2.2:=by have hw:=HR'.out.2.2.1;obtain ⟨_,_,_,_⟩:=b';rw [bU] at hw;exact hw.2 _ (Yt hy)
           have hl1:(aB pR f1.2).length<=700000:=by have h1:=qj (r:=av a'.k) (Yt hx);have h2:=iP pR a'.k a'.n a'.fs a'.tl;have h3:=HR'.out.2.2.2.1;have e:=Rn a';rw [e] at h2;omega
           have hl2:(aB pR f2.2).length<=700000:=by have h1:=qj (r:=av b'.k) (Yt hy);have h2:=iP pR b'.k b'.n b'.fs b'.tl;have h3:=HR'.out.2.2.2.2.1;have e:=Rn b';rw [e] at h2;omega
           have HNX:=aC (Gw hnext hno);obtain ⟨C1,XB⟩:∃C1,C1=aB pR f1.2:=⟨_,rfl⟩;obtain ⟨C2,hC2⟩:∃C2,C2=aB pR f2.2:=⟨_,rfl⟩
           have MK:Hid (∀v,Below wr.heap.size wr v->Calls Try.prog 54 #[bS m0 S1.m Q1 vs1.length U4,.slice va1 vl1 vc1,.slice va2 vl2 vc2] v (sW Y U Lo m0 X S1 (bF f1.2 f2.2) (aJ f1.2+aJ f2.2) v)):=aC fun v hv=>by
            rw [e1,e2];exact zi.out S1 f1.2 f2.2 (r_.res HW.out.r (by rw [<-vD.out.1,<-vD.out.2];exact hless)) ⟨hag,UY,UZ,hl1,hl2⟩ Y ns1 vs1 Q1 U4 va1 va2 vc1 vc2 v (fun k hk=>vv (xq.out k hk) (zk NU.out.size hv.size)) N.out.2.1 (N.out.2.2.1.step hv) ((t1.below hv).more hv.size) (by rw [<-e1];exact hcp1) ((t2.below hv).more hv.size) (by rw [<-e2];exact hcp2)
           subst eV eW
           have alJ:Hid (∀v,Below wr.heap.size wr v->v.cell? ⟨w.heap.size,0,none⟩=some (.int .i64 m0)/\v.cell? ⟨w.heap.size,1,none⟩=some (.int .i64 S1.m)/\v.cell? ⟨w.heap.size,2,none⟩=some (.slice Q1 vs1.length U4)/\v.cell? ⟨b,o+i,none⟩=some (.slice va1 vl1 vc1)/\v.cell? ⟨b3,o3+i,none⟩=some (.slice va2 vl2 vc2)):=aC fun v hv=>
            ⟨(N.out.2.2.2.1.later hv).at_.1,(N.out.2.2.2.1.later hv).at_.2.1,(N.out.2.2.2.1.later hv).at_.2.2,(hv.cell (p:=⟨b,o+i,none⟩) zb).trans k1,(hv.cell (p:=⟨b3,o3+i,none⟩) zb3).trans k3⟩
           clear hx hy hv1 hv2 e1 e2 t1 t2 hcp1 hcp2 nb1 nb3 hag hless hnext hno UY UZ hl1 hl2 XB hC2 C1 C2 k1 k3;go_upto_region 21 with fail
           go_cut [17,18] (fun Xu Ra wx=>∃(b7:Nat) (f g:Int) (Q9:Option Addr) (l9 c9:Nat) (er:Int),Xu= .pointer (some ⟨b7,0,none⟩)/\Ra= .int .i64 er/\Hid (bD wx b7 f g Q9 l9 c9/\jG Y U Lo m0 X S1 (bF f1.2 f2.2) (aJ f1.2+aJ f2.2) f g Q9 l9 er wx/\Below wr.heap.size wr wx/\wr.heap.size<=b7))
           case first=>
            obtain ⟨SS,hSS⟩:∃SS:World->Prop,SS=fun v=>v.cell? ⟨w.heap.size,0,none⟩=some (.int .i64 m0)/\v.cell? ⟨w.heap.size,1,none⟩=some (.int .i64 S1.m)/\v.cell? ⟨w.heap.size,2,none⟩=some (.slice Q1 vs1.length U4)/\v.cell? ⟨b,o+i,none⟩=some (.slice va1 vl1 vc1)/\v.cell? ⟨b3,o3+i,none⟩=some (.slice va2 vl2 vc2):=⟨_,rfl⟩;have bg:Hid (∀v,Below wr.heap.size wr v->SS v):=aC fun v hv=>by rw [hSS];exact alJ.out v hv
            refine bO (S:=SS) [] (by kernel_rfl) ?_ (fun hHeld=>?_)
            ·exact bg.out _ (aT _ _).drew
            refine aR 0 [] (some 147) rfl rfl ?_;refine aR 1 [] (some 148) rfl rfl ?_;refine aR 2 [] (some 149) rfl rfl ?_;refine aR 3 [] (some 150) rfl rfl ?_;refine aR 4 [] (some 151) rfl rfl ?_;refine aR 5 [] (some 152) rfl rfl ?_;refine aR 6 [] (some 153) rfl rfl ?_;refine aR 7 [] (some 154) rfl rfl ?_;refine aR 8 [] (some 155) rfl rfl ?_;refine vH 9 13 (by kernel_rfl) rfl rfl (by rfl) (by rfl) ?_ ?_
            ·refine dO (some 156) rfl (by go_simp) (MK.out _ ((aT _ wr).drew)) ?_
             rintro e w9 ⟨f,g,Q9,l9,c9,er,rfl,H9⟩;have dM:=H9.out.1;have mU:Hid (Below wr.heap.size wr w9):=aC (ah (aT _ wr).drew dM);clear dM;have xE:=bg.out _ mU.out;refine ⟨.tuple #[bS f g Q9 l9 c9,.int .i64 er],rfl,fun _=>xE,?_⟩;refine dN ?_;refine aR 10 [] (some 146) rfl rfl ?_;refine aR 11 [] (some 157) rfl rfl ?_;refine aR 12 [] (some 158) rfl rfl ?_;refine d9 13 rfl (by kernel_rfl) (by rfl) ?_;refine pq (some 17) w9.heap.size rfl mU.out bg ?_;intro wz1 kC zB fC;have IU:=bg.out _ kC.out;refine d9 14 rfl (by kernel_rfl) (by rfl) ?_;have hle:wr.heap.size<=w9.heap.size:=mU.out.size;refine pz none f g Q9 l9 c9 zB rfl kC.out hle bg ?_;intro wy2 MR xG EW EX;have XD:=bg.out _ xG.out;refine aR 15 [] (some 18) rfl rfl ?_;refine gJ (by kernel_rfl) ?_ _;go_wp2_with fail;go_meet;exact ⟨w9.heap.size,f,g,Q9,l9,c9,er,rfl,rfl,aC ⟨MR,jG.past (by first|exact H9.out.2|exact H9.out.2.step fC.out) EW.out (fun k hk=>by rw [hk];exact eO.zero EX.out),xG.out,hle⟩⟩
            ·refine pq (some 17) wr.heap.size rfl (aT _ wr).drew bg ?_
             intro wz0 iY zC IV;have IW:=bg.out _ iY.out;refine d9 9 rfl (by kernel_rfl) (by rfl) ?_;refine dO (some 156) rfl (by go_simp) (MK.out _ (iY.out)) ?_;rintro e w9 ⟨f,g,Q9,l9,c9,er,rfl,H9⟩;have dM:=H9.out.1;have mU:Hid (Below wr.heap.size wr w9):=aC (ah iY.out dM);have Rj:bD w9 wr.heap.size 0 0 none 0 0:=zC.later dM;clear dM;have xE:=bg.out _ mU.out;refine ⟨.tuple #[bS f g Q9 l9 c9,.int .i64 er],rfl,fun _=>xE,?_⟩;refine dN ?_;refine aR 10 [] (some 146) rfl rfl ?_;refine aR 11 [] (some 157) rfl rfl ?_;refine aR 12 [] (some 158) rfl rfl ?_;refine d9 14 rfl (by kernel_rfl) (by rfl) ?_;have hle:wr.heap.size<=wr.heap.size:=bN _;refine pz none f g Q9 l9 c9 Rj rfl mU.out hle bg ?_;intro wy2 MR xG EW EX;have XD:=bg.out _ xG.out;refine aR 15 [] (some 18) rfl rfl ?_;refine gJ (by kernel_rfl) ?_ _;go_wp2_with fail;go_meet;exact ⟨wr.heap.size,f,g,Q9,l9,c9,er,rfl,rfl,aC ⟨MR,jG.past (by first|exact H9.out.2|exact H9.out.2.step fC.out) EW.out (fun k hk=>by rw [hk];exact eO.zero EX.out),xG.out,hle⟩⟩
           case rest=>
            obtain ⟨b7,f,g,Q9,l9,c9,er,rfl,rfl,XE⟩:=hcut;have HBQ:Hid (Below w.heap.size w wc):=aC (ah NU.out XE.out.2.2.1);have s7:=N.out.2.2.2.1.later XE.out.2.2.1;have r7:=HR1.out.later XE.out.2.2.1;rcases XE.out.2.1 with ⟨he,hno⟩|⟨he,S',ns',vs',ef,eg,el,DY,dn,j9,Rl,Rm⟩
            ·subst he
             obtain ⟨a0',a1',Rc⟩:=s7.at_;obtain ⟨r0,r1,r2⟩:=r7.at_;obtain ⟨r3,r4,r5⟩:=r7.fz;go_wp2_with fail;exact bodyPost_ret (v:=.tuple #[bS m0 S1.m Q1 vs1.length U4,.int .i64 9]) (by simp [results,Try.results54,go_sem,r0,r1,r2]) rfl ⟨_,_,_,_,_,_,rfl,aC ⟨aY HBQ.out (ad7 _) _ _ _,.inl ⟨rfl,C_.out.2.1 (HNX.out.2 hno)⟩⟩⟩
            ·subst he
             obtain ⟨b0',b1',b2'⟩:=XE.out.1.at_;obtain ⟨a3',a4',a5'⟩:=s7.fz;obtain ⟨a0',a1',Rc⟩:=s7.at_;have HR9:=aC (Gw (Gw ef (Gw eg el)) (Gw DY (Gw dn (Gw j9 (Gw Rl Rm)))));have HS7:=aC s7;clear ef eg el DY dn j9 Rl Rm s7 r7;go_wp2_with fail;go_roundw
             case rel=>
              obtain ⟨⟨ef,eg,el⟩,DY,dn,j9,Rl,Rm⟩:=HR9.out;have hfr:Fr (fun k=>k=w.heap.size) wc (dB wc w.heap.size f g Q9 l9 c9):=gY (X:=fun k=>k=w.heap.size) (Fr.refl _ _) (.inl rfl) _ _ _;have IY:∀k,k=w.heap.size->eO wc k:=fun k hk=>by rw [hk];exact (N.out.2.2.1.step XE.out.2.2.1).JB HS7.out
              have s9:=HS7.out.dB f g Q9 l9 c9;rw [ef,eg,el] at s9 hfr ⊢;exact ⟨i+1,S',ns',vs',Q9,c9,by go_num,hp,aC ⟨HNX.out.1 S' dn j9 Rl,Rm,DY.past hfr IY,s9,(N.out.2.2.2.2.trans (Fr.below XE.out.2.2.1)).trans hfr⟩⟩
             case measure=>simp [intOf];omega
          ·have hfin:=N.out.1.stop (by rw [<-HNF.out];omega)
           have HFN:=aC (C_.out.1 _ _ hfin);obtain ⟨r0,r1,r2⟩:=HR1.out.at_;obtain ⟨r3,r4,r5⟩:=HR1.out.fz;clear hfin;go_wp2_with fail;exact bodyPost_ret (v:=.tuple #[bS m0 S1.m Q1 vs1.length U4,.int .i64 0]) (by simp [results,Try.results54,go_sem,r0,r1,r2]) rfl ⟨_,_,_,_,_,_,rfl,aC ⟨aY NU.out (ad7 _) _ _ _,.inr ⟨rfl,S1,ns1,vs1,rfl,rfl,rfl,fQ.past N.out.2.2.1 (gY (X:=fun k=>k=w.heap.size+1) (Fr.refl _ _) (.inl rfl) _ _ _) (fun k hk=>by rw [hk];exact eO.zero HR1.out),HFN.out.more (by have h1:=C_.out.2.2.1;have h2:=C_.out.2.2.2;omega),N.out.1.j,N.out.1.fit,N.out.2.1⟩⟩⟩
       ·have hk':decide (kA≠kB)=true:=by simp [hk]
        rw [hk'];go_wp2_with fail;refine bodyPost_ret (v:=.tuple #[bS m0 S.m Q vs.length cq,.int .i64 9]) (by simp [results,Try.results54,go_sem,r0,r1,r2]) rfl ⟨_,_,_,_,_,_,rfl,aC ⟨aY (by first|exact HB2.out|exact below_drewN HB2.out _) (ad7 _) _ _ _,?_⟩⟩;exact .inl ⟨rfl,HW.out.r.kinds (by rw [<-vD.out.1,<-vD.out.2,<-HKK.out.1,<-HKK.out.2];exact hk) YJ.out.1 YJ.out.2 agK.out.1 agK.out.2⟩
theorem Rs {U Lo:List Lb} {m0:Int} {X:Int->Prop} (hU:∀y∈U,y.size<=9223372036854775807):∀(n k:Nat) (S:Kn) (a b:Ut),S.un+(aJ a+aJ b)=n->gL (inst S.σ a)+gL (inst S.σ b)=k->Q_ U Lo m0 X S a b->∀Y,YF Y U Lo m0 X S a b:=by
 intro n
 induction n using afb with
 |_ n ihx=>
  intro k
  induction k using afb with
  |_ k ihy=>
   intro S a b hx hy h Y;refine NS hU h fun S' c d hl h' Y'=>?_;rcases hl with hl|⟨h1,h2⟩
   ·exact ihx _ (by omega) _ S' c d rfl rfl h' Y'
   ·exact ihy _ (by omega) S' c d (by omega) rfl h' Y'
end Go.Proofs.Ytblfeokjlecgkaa
