/- Laid together by a tool from the texts of this seat: PxF PxR PxG. Conditions: each theorem's own. -/
import Derived.Test.YtmjdhfbnmmdjiaaGreatH32
namespace Go.Proofs.YtmjdhfbnmmdjiaaGreat
open _root_.List renaming length_append->lS,mem_of_getElem?->O8,length_cons->oG,append_assoc->kV,mem_cons->qm,append_nil->mO,cons_append->uK,nil_append->aat,mem_map->aaw
open _root_.Nat renaming add_assoc->abE,le_refl->aK,add_comm->jf
open _root_.Option renaming map_some->aaK
open _root_.Classical renaming byContradiction->aan
open _root_.ByteArray renaming empty->dQ
theorem Dn {t:List Nd} (g:Gd t):jR t (aT t)=true:=by
 by_cases h0:(aD t).k=0
 ·unfold aT
  rw [if_pos h0];have hf:=g.fo;have hs:=g.s
  cases t with
  |nil=>exact absurd hf.pos (by simp)
  |cons x xt=>
   unfold jR aR;rw [wE (y:=⟨5,dQ,0⟩) (yt:=aH 0++aH 0) hf (by decide) (show x.s=dQ from hs) (.inl h0)];rfl
 ·rw [xQ h0]
  exact (Q2.refl t).qp g.fo
theorem abI (s:ByteArray):Gd (aH (cZ s)):=CP _ (by
 unfold cZ;split
 ·omega
 ·split<;>omega)
theorem JA (s:ByteArray):cZ s≠0:=by
 unfold cZ;split
 ·decide
 ·split<;>decide
theorem X3 (s:ByteArray):fA s≠0:=by
 unfold fA;split
 ·decide
 ·exact JA s
theorem Ag:∀(N n:Nat) (xs ys m:List Nd),xs.length<=N->Fo n xs->Fo n ys->met n xs ys=some m->Fo n m/\(∃r,met n xs m=some r)/\∃r,met n ys m=some r
 |_,0,xs,ys,m,_,h1,h2,hm=>by
  rw [jw] at hm;injection hm with hm
  subst hm
  exact ⟨Fo.zero,⟨[],jw _ _⟩,⟨[],jw _ _⟩⟩
 |0,n+1,xs,ys,m,hl,h1,_,_=>by
  have:=h1.pos
  omega
 |N+1,n+1,xs,ys,m,hl,h1,h2,hm=>by
  obtain ⟨t1,r1,rfl,f1,g1⟩:=h1.first;obtain ⟨t2,r2,rfl,f2,g2⟩:=h2.first;have ht1:=f1.pos;rw [lS] at hl;rw [oL f1 f2] at hm
  cases ha:met 1 t1 t2 with
  |none=>rw [ha] at hm;cases hm
  |some a=>
   cases hr:met n r1 r2 with
   |none=>rw [ha,hr] at hm;cases hm
   |some r=>
    rw [ha,hr] at hm;simp only [Option.bind_some,aaK,Option.some.injEq] at hm;subst hm;obtain ⟨b1,⟨c1,b2⟩,⟨c2,b3⟩⟩:=Ag N n r1 r2 r (by omega) g1 g2 hr
    have key:Fo 1 a/\(∃q,met 1 t1 a=some q)/\∃q,met 1 t2 a=some q:=by
     match t1,t2,f1,f2,ha,hl with
     |[],_,f1,_,_,_=>exact absurd f1.pos (by simp)
     |_::_,[],_,f2,_,_=>exact absurd f2.pos (by simp)
     |x::k1,y::k2,f1,f2,ha,hl=>
      by_cases hs:x.s=y.s
      ·by_cases h0:x.k=0\/y.k=0
       ·have ha0:=ha
        rw [wE f1 f2 hs h0] at ha;injection ha with ha
        by_cases hy:y.k=0
        ·rw [if_pos hy] at ha
         subst ha;exact ⟨f1,⟨_,tF _ 1 _ (aK _) f1⟩,⟨_,wE f2 f1 hs.symm (.inl hy)⟩⟩
        ·rw [if_neg hy] at ha
         subst ha;exact ⟨f2,⟨_,ha0⟩,⟨_,tF _ 1 _ (aK _) f2⟩⟩
       ·by_cases hk:x.k≠y.k\/x.n≠y.n
        ·rw [Cx hs h0 hk] at ha
         cases ha
        ·have hk2:x.k=y.k:=aan fun h=>hk (.inl h)
         have hn2:x.n=y.n:=aan fun h=>hk (.inr h);have hmn:manyN y=manyN x:=by unfold manyN;rw [hk2,hn2]
         rw [pq hs h0 hk2 hn2] at ha
         cases hq:met (manyN x) k1 k2 with
         |none=>rw [hq] at ha;cases ha
         |some q=>
          rw [hq] at ha;simp only [aaK,Option.some.injEq] at ha;subst ha;have e1:=f1.kids;have e2:=f2.kids;rw [hmn] at e2;obtain ⟨d1,⟨q1,d2⟩,⟨q2,d3⟩⟩:=Ag N (manyN x) k1 k2 q (by simp at hl;omega) e1 e2 hq;refine ⟨?_,⟨x::q1,?_⟩,⟨y::q2,?_⟩⟩
          ·have:=Fo.cons (n:=0) (x:=x) (ks:=q) (rs:=[]) d1 Fo.zero
           rw [mO] at this;exact this
          ·rw [pq rfl (by intro h;exact h0 (.inl (h.elim id id))) rfl rfl,d2]
           rfl
          ·rw [pq hs.symm (by intro h;exact h0 (h.elim .inr .inl)) hk2.symm hn2.symm,hmn,d3]
           rfl
      ·rw [Cy hs] at ha
       cases ha
    obtain ⟨k0,⟨q1,k1⟩,⟨q2,k2⟩⟩:=key;refine ⟨by rw [jf];exact k0.append b1,⟨q1++c1,?_⟩,⟨q2++c2,?_⟩⟩
    ·rw [oL f1 k0,k1,b2]
     rfl
    ·rw [oL f2 k0,k2,b3]
     rfl
theorem ads {t u m:List Nd} (h:met 1 t u=some m) (gt:Gd t) (gu:Gd u):jR t m=true:=by
 obtain ⟨_,⟨r,h1⟩,_⟩:=Ag _ 1 t u m (aK _) gt.fo gu.fo h;unfold jR;rw [h1];rfl
theorem abJ {t u m:List Nd} (h:met 1 t u=some m) (gt:Gd t) (gu:Gd u):jR u m=true:=by
 obtain ⟨_,_,⟨r,h1⟩⟩:=Ag _ 1 t u m (aK _) gt.fo gu.fo h;unfold jR;rw [h1];rfl
theorem iq.two {s r:ByteArray} {t u:List Nd} (g:Gd t) (k:Gd u):iq [(s,t),(r,u)] [(s,t),(r,u)]:=⟨⟨rfl,Q2.refl _,g⟩,⟨rfl,Q2.refl _,k⟩,trivial⟩
section
variable {es:List Pt} {f:Nat} {env env':Env} {a b:Nat} {p:Pt} {t:List Nd}
variable (hI:Ov es) (hK:Cb es f) (hp:es[a]?=some p) (hE:iq env env') (hl:env.length<=900000) (ho:vw p) (hx:Dj p) (hg:Gd t) (htl:t.length<=5000000)
include hI hK hp hE hl ho hx hg htl
theorem abK (hk:p.k=3) (hw:GQ (jC f es) env a (a+1)=some (.ok (t,b))):∃x t',vW es (f+1) env' a b t x t':=by
 obtain ⟨u1,c,h1,hw⟩:=oV hw;obtain ⟨u2,d,h2,hw⟩:=oV hw;have hm:aL p=2:=by unfold aL;simp [hk]
 have hE':env'.length<=900000:=by rw [<-hE.len];exact hl
 have hpo:=hI.ok p (O8 hp);have hes:=hI.len;obtain ⟨y1,t1,S1⟩:=hK _ _ _ _ h1 (zP hI hp (by omega) (by omega)) env' hE;obtain ⟨y2,t2,S2⟩:=hK _ _ _ _ h2 (Q6 hI hp (by omega) (by omega) S1.e) env' hE
 cases hc:iP u1 with
 |none=>rw [hc] at hw;cases hw
 |some r=>
  obtain ⟨tk,tl⟩:=r;rw [hc] at hw;dsimp only at hw;split at hw
  rotate_left
  ·cases hw
  rename_i hag;injection hw with hw
  injection hw with hw
  injection hw with e1 e2
  subst e1 e2;obtain ⟨k',l',c1,q1,q2⟩:=S1.q.call hc;obtain ⟨c2,c3⟩:=XU c1;have G1:=S1.gd;have G2:=S2.gd;obtain ⟨gk,gl⟩:=CQ G1.gd c1;have lk:=(L8 G1.nY c1).1;have gd1:=qj G1.gd;have ld:(aT t1).length<=5000000:=by have:=G1.tl;unfold aT;split;decide;exact this
  have hl1:=S1.lt;have hl2:=S2.lt;have hn1:=S1.ln;have hn2:=S2.ln;have n1:=bR y1 t1 (aT t1);have n2:=bR y2 t2 k';have tl1:=G1.tl;have F1:=S1.full.to G1.gd gd1 (Dn G1.gd) hE' (by omega) ld;have F2:=S2.full.to G2.gd gk (S2.q.ag q1 hag) hE' (by omega) (by omega);refine mQ hI hp hE hl hx htl (x:=p::(toM y1 t1 (aT t1)++toM y2 t2 k')) (t':=l') ?_ q2 gl (Gg hp hm S1.e S2.e) (eU.cons (by rw [hm];exact (S1.tr.to _ _).app (S2.tr.to _ _))) (by rw [oG,lS];omega) rfl ?_ (fE hpo (nN (lQ S1.ok _ _) (lQ S2.ok _ _))) (qx hp (by omega) (by rw [hk];rfl) hm ((S1.rl.to (Dn G1.gd) G1.gd gd1 fun h=>⟨S1.st h.1 h.2,abD (S1.st h.1 h.2) G1.nY⟩).join (S2.rl.to (S2.q.ag q1 hag) G2.gd gk fun h=>⟨S2.st h.1 h.2,(L9 (S1.st h.1 h.2) G1.nY c1).1⟩))) (fun h1 h2=>(L9 (S1.st h1 h2) G1.nY c1).2)
  ·rw [(show dJ (cst f es) es env' p (a+1)=BQ (cst f es) env' p (a+1) from by unfold dJ;simp [hk])]
   unfold BQ;rw [S1.c];dsimp only [fZ];rw [S2.c];dsimp only;rw [c2];dsimp only;rw [if_pos (by omega)]
  ·obtain ⟨f1,F1⟩:=F1
   obtain ⟨f2,F2⟩:=F2;refine gG.mk ho hx hE' (by rw [lS];omega) (by rw [<-q2.len];exact htl) (f1+f2) fun s g hg0 es2 a2 bH hat hp2 hE2 hl2=>?_;obtain ⟨v1,d1,d2,d3,d4⟩:=F1.at (f:=g) (by omega) hat.left hE2;obtain ⟨v2,e1,e2,e3,e4⟩:=F2.at (f:=g) (by omega) hat.right hE2;obtain ⟨k2,l2,m1,m2,m3⟩:=d3.call c2;have hv0:(aD v1).k≠0:=by rw [<-d3.k];exact c3
   have qk:Q2 v2 k2:=e3.symm.trans m2;refine ⟨l2,?_,?_,m3,(CQ d4 m1).2⟩
   ·rw [(show gK (iT g es2) es2 bH {p with lb:=s} a2 (a2+1)=GQ (iT g es2) bH a2 (a2+1) from by unfold gK;simp [hk])]
    unfold GQ;rw [d1];dsimp only [dw];rw [e1];dsimp only;rw [m1];dsimp only;rw [if_pos (qk.qp e4.fo),lS,abE]
   ·rw [(show dJ (cst g es2) es2 bH {p with lb:=s} (a2+1)=BQ (cst g es2) bH {p with lb:=s} (a2+1) from by unfold dJ;simp [hk])]
    unfold BQ;rw [d2];dsimp only [fZ];rw [e2];dsimp only;rw [xQ hv0,m1];dsimp only;rw [if_pos (by have:=(L8 (mJ d4) m1).1;have:=d3.len;omega),kD (Q2.refl v1),kD qk,lS,abE]
omit hg in
theorem abL (hk:p.k=4) (hw:KZ (jC f es) env p a (a+1)=some (.ok (t,b))):∃x t',vW es (f+1) env' a b t x t':=by
 obtain ⟨u1,c,h1,hw⟩:=oV hw;have hm:aL p=2:=by unfold aL;simp [hk]
 have hE':env'.length<=900000:=by rw [<-hE.len];exact hl
 have hpo:=hI.ok p (O8 hp);have hes:=hI.len;have gT:=ho.1 (.inr (.inl hk)) (by omega);have lT:=(hx.1 (.inr (.inl hk))).2;unfold og at hw;split at hw
 rotate_left
 ·cases hw
 rename_i hag;obtain ⟨y1,t1,S1⟩:=hK _ _ _ _ h1 (zP hI hp (by omega) (by omega)) env' hE;obtain ⟨y2,t2,S2⟩:=hK _ _ _ _ hw (Q6 hI hp (by omega) (by omega) S1.e) (env'++[(p.bd,p.T)]) (hE.app (.one (Q2.refl _) gT));have G1:=S1.gd;have G2:=S2.gd;have hl1:=S1.lt;have hl2:=S2.lt;have hn1:=S1.ln;have hn2:=S2.ln;have n1:=bR y1 t1 p.T;have F1:=S1.full.to G1.gd gT (S1.q.ag (Q2.refl _) hag) hE' (by omega) lT;refine mQ hI hp hE hl hx htl (x:=p::(toM y1 t1 p.T++y2)) (t':=t2) ?_ S2.q G2.gd (Gg hp hm S1.e S2.e) (eU.cons (by rw [hm];exact (S1.tr.to _ _).app S2.tr)) (by rw [oG,lS];omega) rfl ?_ (fE hpo (nN (lQ S1.ok _ _) S2.ok)) (qx hp (by omega) (by rw [hk];rfl) hm ((S1.rl.to (S1.q.ag (Q2.refl _) hag) G1.gd gT fun h=>⟨S1.st h.1 h.2,(h.2 p (O8 hp)).1⟩).join (S2.rl.imp fun h=>⟨h.1.app (.one (h.2 p (O8 hp)).1),h.2⟩).mono)) (fun h1 h2=>S2.st (h1.app (.one (h2 p (O8 hp)).1)) h2)
 ·rw [(show dJ (cst f es) es env' p (a+1)=Lj (cst f es) env' p (a+1) from by unfold dJ;simp [hk])]
  unfold Lj;rw [S1.c];dsimp only [fZ];rw [S2.c]
 ·obtain ⟨f1,F1⟩:=F1
  obtain ⟨f2,F2⟩:=S2.full;refine gG.mk ho hx hE' (by rw [lS];omega) G2.tl (f1+f2) fun s g hg0 es2 a2 bH hat hp2 hE2 hl2=>?_;obtain ⟨v1,d1,d2,d3,d4⟩:=F1.at (f:=g) (by omega) hat.left hE2;obtain ⟨v2,e1,e2,e3,e4⟩:=F2.at (f:=g) (by omega) hat.right (hE2.app (.one (s:=p.bd) (Q2.refl _) gT));refine ⟨v2,?_,?_,e3,e4⟩
  ·rw [(show gK (iT g es2) es2 bH {p with lb:=s} a2 (a2+1)=KZ (iT g es2) bH {p with lb:=s} a2 (a2+1) from by unfold gK;simp [hk])]
   unfold KZ;rw [d1];dsimp only [dw];unfold og;rw [if_pos (d3.symm.qp d4.fo)];dsimp only [Pz];rw [e1,lS,abE]
  ·rw [(show dJ (cst g es2) es2 bH {p with lb:=s} (a2+1)=Lj (cst g es2) bH {p with lb:=s} (a2+1) from by unfold dJ;simp [hk])]
   unfold Lj;rw [d2];dsimp only [fZ];rw [e2];dsimp only;rw [kD d3.symm,lS,abE]
omit hg in
theorem abM (hk:p.k=5) (hw:K3 (jC f es) env p a (a+1)=some (.ok (t,b))):∃x t',vW es (f+1) env' a b t x t':=by
 obtain ⟨u1,c,h1,hw⟩:=oV hw;have hm:aL p=2:=by unfold aL;simp [hk]
 have hE':env'.length<=900000:=by rw [<-hE.len];exact hl
 have hpo:=hI.ok p (O8 hp);have hes:=hI.len;have gT:=ho.1 (.inr (.inr (.inl hk))) (by omega);have gU:=ho.2 (.inl hk);have lT:=(hx.1 (.inr (.inr (.inl hk)))).2;have lU:=(hx.2 hk).2;have gA:Gd (aR p.T p.U):=EF gT gU (by omega);unfold og at hw;split at hw
 rotate_left
 ·cases hw
 rename_i hag;obtain ⟨y1,t1,S1⟩:=hK _ _ _ _ h1 (zP hI hp (by omega) (by omega)) (env'++[(p.nm,aR p.T p.U),(p.bd,p.T)]) (hE.app (.two gA gT));obtain ⟨y2,t2,S2⟩:=hK _ _ _ _ hw (Q6 hI hp (by omega) (by omega) S1.e) (env'++[(p.nm,aR p.T p.U)]) (hE.app (.one (Q2.refl _) gA));have G1:=S1.gd;have G2:=S2.gd;have hl1:=S1.lt;have hl2:=S2.lt;have hn1:=S1.ln;have hn2:=S2.ln;have n1:=bR y1 t1 p.U;have hst:uD es->stA (aR p.T p.U):=fun h=>Ju (h p (O8 hp)).1 (h p (O8 hp)).2;have aeR:uD es->nC [(p.nm,aR p.T p.U),(p.bd,p.T)]:=fun h=>nC.app (.one (hst h)) (.one (h p (O8 hp)).1)
 have hE1:(env'++[(p.nm,aR p.T p.U),(p.bd,p.T)]).length<=900000:=by
  have h9:=S1.c
  cases f with
  |zero=>cases h9
  |succ f=>
   obtain ⟨_,_,h10,_⟩:=wP h9;exact h10
 have F1:=S1.full.to G1.gd gU (S1.q.ag (Q2.refl _) hag) hE1 (by omega) lU;refine mQ hI hp hE hl hx htl (x:=p::(toM y1 t1 p.U++y2)) (t':=t2) ?_ S2.q G2.gd (Gg hp hm S1.e S2.e) (eU.cons (by rw [hm];exact (S1.tr.to _ _).app S2.tr)) (by rw [oG,lS];omega) rfl ?_ (fE hpo (nN (lQ S1.ok _ _) S2.ok)) (qx hp (by omega) (by rw [hk];rfl) hm (((S1.rl.imp fun h=>⟨h.1.app (aeR h.2),h.2⟩).to (S1.q.ag (Q2.refl _) hag) G1.gd gU fun h=>⟨S1.st (h.1.app (aeR h.2)) h.2,(h.2 p (O8 hp)).2⟩).join (S2.rl.imp fun h=>⟨h.1.app (.one (hst h.2)),h.2⟩).mono)) (fun h1 h2=>S2.st (h1.app (.one (hst h2))) h2)
 ·rw [(show dJ (cst f es) es env' p (a+1)=Ll (cst f es) env' p (a+1) from by unfold dJ;simp [hk])]
  unfold Ll;rw [S1.c];dsimp only [fZ];rw [S2.c]
 ·obtain ⟨f1,F1⟩:=F1
  obtain ⟨f2,F2⟩:=S2.full;refine gG.mk ho hx hE' (by rw [lS];omega) G2.tl (f1+f2) fun s g hg0 es2 a2 bH hat hp2 hE2 hl2=>?_;obtain ⟨v1,d1,d2,d3,d4⟩:=F1.at (f:=g) (by omega) hat.left (hE2.app (.two (s:=p.nm) (r:=p.bd) gA gT));obtain ⟨v2,e1,e2,e3,e4⟩:=F2.at (f:=g) (by omega) hat.right (hE2.app (.one (s:=p.nm) (Q2.refl _) gA));refine ⟨v2,?_,?_,e3,e4⟩
  ·rw [(show gK (iT g es2) es2 bH {p with lb:=s} a2 (a2+1)=K3 (iT g es2) bH {p with lb:=s} a2 (a2+1) from by unfold gK;simp [hk])]
   unfold K3;dsimp only;rw [d1];dsimp only [dw];unfold og;rw [if_pos (d3.symm.qp d4.fo)];dsimp only [Pz];rw [e1,lS,abE]
  ·rw [(show dJ (cst g es2) es2 bH {p with lb:=s} (a2+1)=Ll (cst g es2) bH {p with lb:=s} (a2+1) from by unfold dJ;simp [hk])]
   unfold Ll;dsimp only;rw [d2];dsimp only [fZ];rw [e2];dsimp only;rw [kD d3.symm,lS,abE]
theorem adt (hk:p.k=6) (hw:Bz (jC f es) env a (a+1)=some (.ok (t,b))):∃x t',vW es (f+1) env' a b t x t':=by
 obtain ⟨u1,c,h1,hw⟩:=oV hw;obtain ⟨u2,d,h2,hw⟩:=oV hw;obtain ⟨u3,e,h3,hw⟩:=oV hw;have hm:aL p=3:=by unfold aL;simp [hk]
 have hE':env'.length<=900000:=by rw [<-hE.len];exact hl
 have hpo:=hI.ok p (O8 hp);have hes:=hI.len;split at hw
 rotate_left
 ·cases hw
 rename_i hag;unfold sj at hw
 cases hmt:met 1 u2 u3 with
 |none=>rw [hmt] at hw;cases hw
 |some m=>
  rw [hmt] at hw;injection hw with hw
  injection hw with hw
  injection hw with z1 z2
  subst z1 z2;obtain ⟨y1,t1,S1⟩:=hK _ _ _ _ h1 (zP hI hp (by omega) (by omega)) env' hE;obtain ⟨y2,t2,S2⟩:=hK _ _ _ _ h2 (Q6 hI hp (by omega) (by omega) S1.e) env' hE;obtain ⟨y3,t3,S3⟩:=hK _ _ _ _ h3 (amO hI hp (by omega) (by omega) S1.e S2.e) env' hE;have G1:=S1.gd;have G2:=S2.gd;have G3:=S3.gd;have hl1:=S1.lt;have hl2:=S2.lt;have hl3:=S3.lt;have hn1:=S1.ln;have hn2:=S2.ln;have hn3:=S3.ln;obtain ⟨m',mt,mq⟩:=S2.q.met S3.q hmt;have gm:Gd m':=mq.gd hg (Ac _ 1 _ _ _ (aK _) G2.gd.ok G3.gd.ok mt);have lm:m'.length<=5000000:=by rw [<-mq.len];exact htl
  have hsm:nC env'->uD es->stA m':=fun h1 h2=>L_ mt G2.gd G3.gd (S2.st h1 h2) (S3.st h1 h2);have a2':jR t2 m'=true:=ads mt G2.gd G3.gd;have a3':jR t3 m'=true:=abJ mt G2.gd G3.gd;have n1:=bR y1 t1 (aH 2);have n2:=bR y2 t2 m';have n3:=bR y3 t3 m';have gb:Gd (aH 2):=by decide
  have F1:=S1.full.to G1.gd gb (S1.q.ag (Q2.refl _) hag) hE' (by omega) (by decide);have F2:=S2.full.to G2.gd gm a2' hE' (by omega) lm;have F3:=S3.full.to G3.gd gm a3' hE' (by omega) lm;refine mQ hI hp hE hl hx htl (x:=p::(toM y1 t1 (aH 2)++(toM y2 t2 m'++toM y3 t3 m'))) (t':=m') ?_ mq gm (XZ hp hm S1.e S2.e S3.e) (eU.cons (by rw [hm];exact (S1.tr.to _ _).app ((S2.tr.to _ _).app (S3.tr.to _ _)))) (by rw [oG,lS,lS];omega) rfl ?_ (fE hpo (nN (lQ S1.ok _ _) (nN (lQ S2.ok _ _) (lQ S3.ok _ _)))) (qx hp (by omega) (by rw [hk];rfl) hm ((S1.rl.to (S1.q.ag (Q2.refl _) hag) G1.gd gb fun h=>⟨S1.st h.1 h.2,Ae (by decide)⟩).join ((S2.rl.to a2' G2.gd gm fun h=>⟨S2.st h.1 h.2,hsm h.1 h.2⟩).join (S3.rl.to a3' G3.gd gm fun h=>⟨S3.st h.1 h.2,hsm h.1 h.2⟩)))) hsm
  ·rw [(show dJ (cst f es) es env' p (a+1)=Eh (cst f es) env' p (a+1) from by unfold dJ;simp [hk])]
   unfold Eh;rw [S1.c];dsimp only [fZ];rw [S2.c];dsimp only;rw [S3.c];dsimp only [bT];rw [mt];dsimp only;rw [if_pos gm];dsimp only;rw [if_pos lm]
  ·obtain ⟨f1,F1⟩:=F1
   obtain ⟨f2,F2⟩:=F2;obtain ⟨f3,F3⟩:=F3;refine gG.mk ho hx hE' (by rw [lS,lS];omega) lm (f1+f2+f3) fun s g hg0 es2 a2 bH hat hp2 hE2 hl2=>?_;obtain ⟨v1,d1,d2,d3,d4⟩:=F1.at (f:=g) (by omega) hat.left hE2;obtain ⟨v2,e1,e2,e3,e4⟩:=F2.at (f:=g) (by omega) hat.right.left hE2;obtain ⟨v3,k1,k2,k3,k4⟩:=F3.at (f:=g) (by omega) hat.right.right hE2;obtain ⟨m2,r1,r2⟩:=(e3.symm.trans k3).EB e4.fo;have g2:Gd m2:=r2.gd e4 (Ac _ 1 _ _ _ (aK _) e4.ok k4.ok r1);have l2:m2.length<=5000000:=by rw [<-r2.len,<-e3.len];exact lm
   refine ⟨m2,?_,?_,e3.trans r2,g2⟩
   ·rw [(show gK (iT g es2) es2 bH {p with lb:=s} a2 (a2+1)=Bz (iT g es2) bH a2 (a2+1) from by unfold gK;simp [hk])]
    unfold Bz;rw [d1];dsimp only [dw];rw [e1];dsimp only;rw [k1];dsimp only;rw [if_pos (d3.symm.qp d4.fo)];unfold sj;rw [r1];dsimp only;rw [lS,lS,<-abE,<-abE]
   ·rw [(show dJ (cst g es2) es2 bH {p with lb:=s} (a2+1)=Eh (cst g es2) bH {p with lb:=s} (a2+1) from by unfold dJ;simp [hk])]
    unfold Eh;rw [d2];dsimp only [fZ];rw [e2];dsimp only;rw [k2];dsimp only [bT];rw [r1];dsimp only;rw [if_pos g2];dsimp only;rw [if_pos l2,kD d3.symm,kD r2,kD ((k3.symm.trans e3).trans r2),lS,lS,<-abE,<-abE]
theorem adu (hk:p.k=9) (hw:Sg (jC f es) env p a (a+1)=some (.ok (t,b))):∃x t',vW es (f+1) env' a b t x t':=by
 obtain ⟨u1,c,h1,hw⟩:=oV hw;obtain ⟨u2,d,h2,hw⟩:=oV hw;have hm:aL p=2:=by unfold aL;simp [hk]
 have hE':env'.length<=900000:=by rw [<-hE.len];exact hl
 have hpo:=hI.ok p (O8 hp);have hes:=hI.len;split at hw
 rotate_left
 ·cases hw
 rename_i hag;injection hw with hw
 injection hw with hw
 injection hw with z1 z2
 subst z1 z2;obtain ⟨y1,t1,S1⟩:=hK _ _ _ _ h1 (zP hI hp (by omega) (by omega)) env' hE;obtain ⟨y2,t2,S2⟩:=hK _ _ _ _ h2 (Q6 hI hp (by omega) (by omega) S1.e) env' hE;have G1:=S1.gd;have G2:=S2.gd;have hl1:=S1.lt;have hl2:=S2.lt;have hn1:=S1.ln;have hn2:=S2.ln;have n1:=bR y1 t1 (aH (cZ p.nm));have n2:=bR y2 t2 (aH (cZ p.nm));have gb:=abI p.nm;have lb:(aH (cZ p.nm)).length<=5000000:=by simp [aH]
 have F1:=S1.full.to G1.gd gb (S1.q.ag (Q2.refl _) hag.1) hE' (by omega) lb;have F2:=S2.full.to G2.gd gb (S2.q.ag (Q2.refl _) hag.2) hE' (by omega) lb;refine mQ hI hp hE hl hx htl (x:=p::(toM y1 t1 (aH (cZ p.nm))++toM y2 t2 (aH (cZ p.nm)))) (t':=aH (fA p.nm)) ?_ (Q2.refl _) hg (Gg hp hm S1.e S2.e) (eU.cons (by rw [hm];exact (S1.tr.to _ _).app (S2.tr.to _ _))) (by rw [oG,lS];omega) rfl ?_ (fE hpo (nN (lQ S1.ok _ _) (lQ S2.ok _ _))) (qx hp (by omega) (by rw [hk];rfl) hm ((S1.rl.to (S1.q.ag (Q2.refl _) hag.1) G1.gd gb fun h=>⟨S1.st h.1 h.2,Ae (JA _)⟩).join (S2.rl.to (S2.q.ag (Q2.refl _) hag.2) G2.gd gb fun h=>⟨S2.st h.1 h.2,Ae (JA _)⟩))) (fun _ _=>Ae (X3 _))
 ·rw [(show dJ (cst f es) es env' p (a+1)=Xk (cst f es) env' p (a+1) from by unfold dJ;simp [hk])]
  unfold Xk;rw [S1.c];dsimp only [fZ];rw [S2.c]
 ·obtain ⟨f1,F1⟩:=F1
  obtain ⟨f2,F2⟩:=F2;refine gG.mk ho hx hE' (by rw [lS];omega) htl (f1+f2) fun s g hg0 es2 a2 bH hat hp2 hE2 hl2=>?_;obtain ⟨v1,d1,d2,d3,d4⟩:=F1.at (f:=g) (by omega) hat.left hE2;obtain ⟨v2,e1,e2,e3,e4⟩:=F2.at (f:=g) (by omega) hat.right hE2;refine ⟨aH (fA p.nm),?_,?_,Q2.refl _,hg⟩
  ·rw [(show gK (iT g es2) es2 bH {p with lb:=s} a2 (a2+1)=Sg (iT g es2) bH {p with lb:=s} a2 (a2+1) from by unfold gK;simp [hk])]
   unfold Sg;rw [d1];dsimp only [dw];rw [e1];dsimp only;rw [if_pos ⟨d3.symm.qp d4.fo,e3.symm.qp e4.fo⟩,lS,abE]
  ·rw [(show dJ (cst g es2) es2 bH {p with lb:=s} (a2+1)=Xk (cst g es2) bH {p with lb:=s} (a2+1) from by unfold dJ;simp [hk])]
   unfold Xk;rw [d2];dsimp only [fZ];rw [e2];dsimp only;rw [kD d3.symm,kD e3.symm,lS,abE]
theorem abN (hk:p.k=11) (hw:getM (jC f es) env p a (a+1)=some (.ok (t,b))):∃x t',vW es (f+1) env' a b t x t':=by
 obtain ⟨u1,c,h1,hw⟩:=oV hw;have hm:aL p=1:=by unfold aL;simp [hk]
 have hE':env'.length<=900000:=by rw [<-hE.len];exact hl
 have hpo:=hI.ok p (O8 hp);have hes:=hI.len;unfold nH at hw
 cases hf:bG u1 p.nm with
 |none=>rw [hf] at hw;cases hw
 |some u=>
  rw [hf] at hw;injection hw with hw
  injection hw with hw
  injection hw with z1 z2
  subst z1 z2;obtain ⟨y1,t1,S1⟩:=hK _ _ _ _ h1 (zP hI hp (by omega) (by omega)) env' hE;have G1:=S1.gd;have hl1:=S1.lt;have hn1:=S1.ln;obtain ⟨u',c1,c2⟩:=S1.q.field hf;have gu:=qN G1.gd c1;refine mQ hI hp hE hl hx htl (x:=p::y1) (t':=u') ?_ c2 gu (Af hp hm S1.e) (eU.cons (by rw [hm];exact S1.tr)) (by rw [oG];omega) rfl ?_ (fE hpo S1.ok) (qx hp (by omega) (by rw [hk];rfl) hm S1.rl) (fun h1 h2=>uz (S1.st h1 h2) G1.nY c1)
  ·rw [(show dJ (cst f es) es env' p (a+1)=Lm (cst f es) env' p (a+1) from by unfold dJ;simp [hk])]
   unfold Lm;rw [S1.c];dsimp only [fZ];rw [c1]
  ·obtain ⟨f1,F1⟩:=S1.full
   refine gG.mk ho hx hE' (by omega) (by rw [<-c2.len];exact htl) f1 fun s g hg0 es2 a2 bH hat hp2 hE2 hl2=>?_;obtain ⟨v1,d1,d2,d3,d4⟩:=F1.at hg0 hat hE2;obtain ⟨u2,m1,m2⟩:=d3.field c1;refine ⟨u2,?_,?_,m2,qN d4 m1⟩
   ·rw [(show gK (iT g es2) es2 bH {p with lb:=s} a2 (a2+1)=getM (iT g es2) bH {p with lb:=s} a2 (a2+1) from by unfold gK;simp [hk])]
    unfold getM;rw [d1];dsimp only [dw];unfold nH;rw [m1]
   ·rw [(show dJ (cst g es2) es2 bH {p with lb:=s} (a2+1)=Lm (cst g es2) bH {p with lb:=s} (a2+1) from by unfold dJ;simp [hk])]
    unfold Lm;rw [d2];dsimp only [fZ];rw [m1]
theorem abO (hk:p.k=12) (hw:GR (jC f es) env p a (a+1)=some (.ok (t,b))):∃x t',vW es (f+1) env' a b t x t':=by
 obtain ⟨u1,c,h1,hw⟩:=oV hw;have hm:aL p=1:=by unfold aL;simp [hk]
 have hE':env'.length<=900000:=by rw [<-hE.len];exact hl
 have hpo:=hI.ok p (O8 hp);have hes:=hI.len;obtain ⟨gT,lT⟩:=hx.1 (.inr (.inr (.inr (.inl hk))));unfold nH at hw
 cases hf:bG p.T p.nm with
 |none=>rw [hf] at hw;cases hw
 |some u=>
  rw [hf] at hw;dsimp only [dw] at hw;split at hw
  rotate_left
  ·cases hw
  rename_i hag;injection hw with hw
  injection hw with hw
  injection hw with z1 z2
  subst z1 z2;obtain ⟨y1,t1,S1⟩:=hK _ _ _ _ h1 (zP hI hp (by omega) (by omega)) env' hE;have G1:=S1.gd;have hl1:=S1.lt;have hn1:=S1.ln;have gu:=qN gT hf;have lu:=Un (mJ gT) hf;have n1:=bR y1 t1 u;have F1:=S1.full.to G1.gd gu (S1.q.ag (Q2.refl _) hag) hE' (by omega) (by omega);refine mQ hI hp hE hl hx htl (x:=p::toM y1 t1 u) (t':=p.T) ?_ (Q2.refl _) hg (Af hp hm S1.e) (eU.cons (by rw [hm];exact S1.tr.to _ _)) (by rw [oG];omega) rfl ?_ (fE hpo (lQ S1.ok _ _)) (qx hp (by omega) (by rw [hk];rfl) hm (S1.rl.to (S1.q.ag (Q2.refl _) hag) G1.gd gu fun h=>⟨S1.st h.1 h.2,uz (h.2 p (O8 hp)).1 (mJ gT) hf⟩)) (fun _ h2=>(h2 p (O8 hp)).1)
  ·rw [(show dJ (cst f es) es env' p (a+1)=Lp (cst f es) env' p (a+1) from by unfold dJ;simp [hk])]
   unfold Lp;rw [S1.c];dsimp only [fZ];rw [hf];dsimp only;rw [if_pos ⟨mJ gu,by omega⟩]
  ·obtain ⟨f1,F1⟩:=F1
   refine gG.mk ho hx hE' (by omega) htl f1 fun s g hg0 es2 a2 bH hat hp2 hE2 hl2=>?_;obtain ⟨v1,d1,d2,d3,d4⟩:=F1.at hg0 hat hE2;refine ⟨p.T,?_,?_,Q2.refl _,hg⟩
   ·rw [(show gK (iT g es2) es2 bH {p with lb:=s} a2 (a2+1)=GR (iT g es2) bH {p with lb:=s} a2 (a2+1) from by unfold gK;simp [hk])]
    unfold GR;rw [d1];dsimp only [dw];unfold nH;rw [hf];dsimp only;rw [if_pos (d3.symm.qp d4.fo)]
   ·rw [(show dJ (cst g es2) es2 bH {p with lb:=s} (a2+1)=Lp (cst g es2) bH {p with lb:=s} (a2+1) from by unfold dJ;simp [hk])]
    unfold Lp;rw [d2];dsimp only [fZ];rw [hf];dsimp only;rw [if_pos ⟨mJ gu,by omega⟩,kD d3.symm]
omit ho in
theorem adv (hk:p.k=13) (hw:asM (jC f es) env p a (a+1)=some (.ok (t,b))):∃x t',vW es (f+1) env' a b t x t':=by
 obtain ⟨u1,c,h1,hw⟩:=oV hw;have hm:aL p=1:=by unfold aL;simp [hk]
 have hE':env'.length<=900000:=by rw [<-hE.len];exact hl
 have hpo:=hI.ok p (O8 hp);have hes:=hI.len;obtain ⟨gT,lT⟩:=hx.1 (.inr (.inr (.inr (.inr hk))));split at hw
 rotate_left
 ·cases hw
 rename_i hag;injection hw with hw
 injection hw with hw
 injection hw with z1 z2
 subst z1 z2;obtain ⟨y1,t1,S1⟩:=hK _ _ _ _ h1 (zP hI hp (by omega) (by omega)) env' hE;have G1:=S1.gd;have hl1:=S1.lt;have hn1:=S1.ln;have n1:=bR y1 t1 p.T;have F1:=S1.full.to G1.gd gT (S1.q.ag (Q2.refl _) hag) hE' (by omega) lT;refine mQ hI hp hE hl hx htl (x:=bQ p.lb (toM y1 t1 p.T)) (t':=p.T) ?_ (Q2.refl _) hg (Af hp hm S1.e) ((S1.tr.to _ _).lb _) (by rw [dW];omega) (ED _ (S1.tr.to _ _).ne) (F1.lb _) (Q8 (lQ S1.ok _ _) _) (Rl.as1 hp hk (S1.rl.to (S1.q.ag (Q2.refl _) hag) G1.gd gT fun h=>⟨S1.st h.1 h.2,(h.2 p (O8 hp)).1⟩)) (fun _ h2=>(h2 p (O8 hp)).1);rw [(show dJ (cst f es) es env' p (a+1)=asX (cst f es) env' p (a+1) from by unfold dJ;simp [hk])];unfold asX;rw [S1.c];rfl
theorem X_ (hk:p.k=14) (hw:xw (jC f es) env p a (a+1)=some (.ok (t,b))):∃x t',vW es (f+1) env' a b t x t':=by
 obtain ⟨u1,c,h1,hw⟩:=oV hw;have hm:aL p=1:=by unfold aL;simp [hk]
 have hE':env'.length<=900000:=by rw [<-hE.len];exact hl
 have hpo:=hI.ok p (O8 hp);have hes:=hI.len;split at hw
 rotate_left
 ·cases hw
 rename_i hag;injection hw with hw
 injection hw with hw
 injection hw with z1 z2
 subst z1 z2;obtain ⟨y1,t1,S1⟩:=hK _ _ _ _ h1 (zP hI hp (by omega) (by omega)) env' hE;have G1:=S1.gd;have hl1:=S1.lt;have hn1:=S1.ln;refine mQ hI hp hE hl hx htl (x:=p::y1) (t':=p.U) ?_ (Q2.refl _) hg (Af hp hm S1.e) (eU.cons (by rw [hm];exact S1.tr)) (by rw [oG];omega) rfl ?_ (fE hpo S1.ok) (qx hp (by omega) (by rw [hk];rfl) hm S1.rl) (fun _ h2=>(h2 p (O8 hp)).2)
 ·rw [(show dJ (cst f es) es env' p (a+1)=zu (cst f es) env' p (a+1) from by unfold dJ;simp [hk])]
  unfold zu;rw [S1.c];rfl
 ·obtain ⟨f1,F1⟩:=S1.full
  refine gG.mk ho hx hE' (by omega) htl f1 fun s g hg0 es2 a2 bH hat hp2 hE2 hl2=>?_;obtain ⟨v1,d1,d2,d3,d4⟩:=F1.at hg0 hat hE2;have hs:Q2 v1 p.T:=(S1.q.trans d3).symm.trans (same_iff.1 hag.1);refine ⟨p.U,?_,?_,Q2.refl _,hg⟩
  ·rw [(show gK (iT g es2) es2 bH {p with lb:=s} a2 (a2+1)=xw (iT g es2) bH {p with lb:=s} a2 (a2+1) from by unfold gK;simp [hk])]
   unfold xw;rw [d1];dsimp only [dw];rw [if_pos ⟨same_iff.2 hs,hag.2⟩]
  ·rw [(show dJ (cst g es2) es2 bH {p with lb:=s} (a2+1)=zu (cst g es2) bH {p with lb:=s} (a2+1) from by unfold dJ;simp [hk])]
   unfold zu;rw [d2];rfl
end
inductive Rf:Nat->List Nd->List Nd->Prop
 |nil:Rf 0 [] []
 |dyn {n:Nat} {x y:Nd} {ks rs qg:List Nd}:x.k=0->x.s=y.s->Fo (manyN y) ks->Rf n rs qg->Rf (n+1) (x::rs) (y::(ks++qg))
 |node {n:Nat} {x y:Nd} {ks Ao rs qg:List Nd}:x.k≠0->x=y->Rf (manyN x) ks Ao->Rf n rs qg->Rf (n+1) (x::(ks++rs)) (y::(Ao++qg))
theorem pJ {x:Nd} (h:x.k=0):manyN x=0:=by unfold manyN;rw [h,BX];rfl
theorem Rf.fo {n:Nat} {xs ys:List Nd} (h:Rf n xs ys):Fo n xs/\Fo n ys:=by
 induction h with
 |nil=>exact ⟨Fo.zero,Fo.zero⟩
 |@dyn n x y ks rs qg h0 hs hf _ ih=>
  refine ⟨?_,hf.cons ih.2⟩
  exact Fo.cons (ks:=[]) (by rw [pJ h0];exact Fo.zero) ih.1
 |node h0 hx _ _ ih1 ih2=>
  subst hx;exact ⟨ih1.1.cons ih2.1,ih1.2.cons ih2.2⟩
theorem Q9 {n:Nat} {a b c d:List Nd} (h:Fo n a) (k:Fo n b) (e:a++c=b++d):a=b/\c=d:=by
 have h1:=h.pass c;have h2:=k.pass d;rw [e,h2] at h1;injection h1 with h1
 subst h1;exact ⟨List.append_cancel_right e,rfl⟩
theorem Rf.trans {n:Nat} {a b:List Nd} (h:Rf n a b):∀c,Rf n b c->Rf n a c:=by
 induction h with
 |nil=>intro c hc;exact hc
 |@dyn n x y ks rs qg h0 hs hf h1 ih=>
  intro c hc;generalize hb:y::(ks++qg)=b at hc
  cases hc with
  |@dyn _ x' z ks' rs' abP k0 ks0 kf k1=>
   injection hb with e1 e2
   subst e1;have:ks=[]:=by rw [pJ k0] at hf;exact hf.fK
   subst this;rw [aat] at e2;subst e2
   exact .dyn h0 (hs.trans ks0) kf (ih _ k1)
  |@node _ x' z ks' amR rs' abP k0 kx k1 k2=>
   injection hb with e1 e2
   subst e1;subst kx;obtain ⟨e3,e4⟩:=Q9 hf k1.fo.1 e2;subst e3 e4
   exact .dyn h0 hs k1.fo.2 (ih _ k2)
 |@node n x y ks Ao rs qg h0 hx h1 h2 ih1 ih2=>
  intro c hc;subst hx;generalize hb:x::(Ao++qg)=b at hc
  cases hc with
  |@dyn _ x' z ks' rs' abP k0 ks0 kf k1=>
   injection hb with e1 e2
   subst e1
   exact absurd k0 h0
  |@node _ x' z ks' amR rs' abP k0 kx k1 k2=>
   injection hb with e1 e2
   subst e1;subst kx;obtain ⟨e3,e4⟩:=Q9 h1.fo.2 k1.fo.1 e2;subst e3 e4;exact .node h0 rfl (ih1 _ k1) (ih2 _ k2)
theorem Rf.refl:∀(N n:Nat) (xs:List Nd),xs.length<=N->Fo n xs->Rf n xs xs
 |_,0,xs,_,h=>by rw [h.fK];exact .nil
 |_,n+1,[],_,h=>absurd h.pos (by simp)
 |0,n+1,x::xt,hl,_=>by simp at hl
 |N+1,n+1,x::xt,hl,h=>by
  obtain ⟨ks,rs,rfl,f1,f2⟩:=h.rA;simp at hl;by_cases h0:x.k=0
  ·have:ks=[]:=by rw [pJ h0] at f1;exact f1.fK
   subst this;exact .dyn h0 rfl f1 (Rf.refl N n rs (by omega) f2)
  ·exact .node h0 rfl (Rf.refl N _ ks (by omega) f1) (Rf.refl N n rs (by omega) f2)
theorem Rf.app {j:Nat} {a b:List Nd} (h:Rf j a b):∀{n:Nat} {c d:List Nd},Rf n c d->Rf (j+n) (a++c) (b++d):=by
 induction h with
 |nil=>intro n c d hc;rw [Nat.zero_add];exact hc
 |@dyn j x y ks rs qg h0 hs hf _ ih=>
  intro n c d hc;rw [show j+1+n=(j+n)+1 by omega,uK,uK,kV]
  exact .dyn h0 hs hf (ih hc)
 |@node j x y ks Ao rs qg h0 hx h1 _ _ ih2=>
  intro n c d hc;rw [show j+1+n=(j+n)+1 by omega,uK,uK,kV,kV];exact .node h0 hx h1 (ih2 hc)
theorem Rf.met {n:Nat} {xs ys:List Nd} (h:Rf n xs ys):∃r,Go.Proofs.YtmjdhfbnmmdjiaaGreat.met n xs ys=some r:=by
 induction h with
 |nil=>exact ⟨[],jw _ _⟩
 |@dyn n x y ks rs qg h0 hs hf h1 ih=>
  obtain ⟨r,hr⟩:=ih;have e1:bV (x::rs)=rs:=gB (ts:=[x]) (Fo.cons (n:=0) (ks:=[]) (rs:=[]) (by rw [pJ h0];exact Fo.zero) Fo.zero)
  have SK:Fo 1 (y::ks):=by
   have:=hf.cons Fo.zero;rw [mO] at this;exact this
  have e2:bV (y::(ks++qg))=qg:=gB (ts:=y::ks) SK;rw [jy,if_neg (by simp [hs]),if_pos (.inl h0),e1,e2,hr]
  exact ⟨_,rfl⟩
 |@node n x y ks Ao rs qg h0 hx h1 h2 ih1 ih2=>
  subst hx;obtain ⟨r1,hr1⟩:=ih1;obtain ⟨r2,hr2⟩:=ih2;rw [jy,if_neg (by simp),if_neg (by simp [h0]),if_neg (by simp),yN ks.length (manyN x) n ks Ao rs qg (aK _) h1.fo.1 h1.fo.2,hr1,hr2];exact ⟨_,rfl⟩
theorem adw {x y:Nd} (h1:x.k=y.k) (h2:x.s=y.s) (h3:x.n=y.n):x=y:=by
 obtain ⟨k,s,n⟩:=x;obtain ⟨k',s',n'⟩:=y;dsimp only at h1 h2 h3;subst h1 h2 h3;rfl
theorem Ow:∀(N n:Nat) (xs ys m:List Nd),xs.length<=N->Fo n xs->Fo n ys->met n xs ys=some m->Rf n xs m/\Rf n ys m
 |_,0,xs,ys,m,_,h1,h2,hm=>by
  rw [jw] at hm;injection hm with hm
  subst hm;rw [h1.fK,h2.fK]
  exact ⟨.nil,.nil⟩
 |0,n+1,xs,ys,m,hl,h1,_,_=>by
  have:=h1.pos
  omega
 |N+1,n+1,xs,ys,m,hl,h1,h2,hm=>by
  obtain ⟨t1,r1,rfl,f1,g1⟩:=h1.first;obtain ⟨t2,r2,rfl,f2,g2⟩:=h2.first;have ht1:=f1.pos;rw [lS] at hl;rw [oL f1 f2] at hm
  cases ha:met 1 t1 t2 with
  |none=>rw [ha] at hm;cases hm
  |some a=>
   cases hr:met n r1 r2 with
   |none=>rw [ha,hr] at hm;cases hm
   |some r=>
    rw [ha,hr] at hm;simp only [Option.bind_some,aaK,Option.some.injEq] at hm;subst hm;obtain ⟨b2,b3⟩:=Ow N n r1 r2 r (by omega) g1 g2 hr
    have key:Rf 1 t1 a/\Rf 1 t2 a:=by
     match t1,t2,f1,f2,ha,hl with
     |[],_,f1,_,_,_=>exact absurd f1.pos (by simp)
     |_::_,[],_,f2,_,_=>exact absurd f2.pos (by simp)
     |x::k1,y::k2,f1,f2,ha,hl=>
      have e1:=f1.kids;have e2:=f2.kids;by_cases hs:x.s=y.s
      ·by_cases h0:x.k=0\/y.k=0
       ·rw [wE f1 f2 hs h0] at ha
        injection ha with ha
        by_cases hy:y.k=0
        ·rw [if_pos hy] at ha
         subst ha;have:k2=[]:=by rw [pJ hy] at e2;exact e2.fK
         subst this;refine ⟨Rf.refl _ 1 _ (aK _) f1,?_⟩;have:=Rf.dyn (n:=0) (rs:=[]) (qg:=[]) hy hs.symm e1 .nil;rw [mO] at this;exact this
        ·rw [if_neg hy] at ha
         subst ha;have hx0:x.k=0:=h0.resolve_right hy;have:k1=[]:=by rw [pJ hx0] at e1;exact e1.fK
         subst this;refine ⟨?_,Rf.refl _ 1 _ (aK _) f2⟩;have:=Rf.dyn (n:=0) (rs:=[]) (qg:=[]) hx0 hs e2 .nil;rw [mO] at this;exact this
       ·by_cases hk:x.k≠y.k\/x.n≠y.n
        ·rw [Cx hs h0 hk] at ha
         cases ha
        ·have hk2:x.k=y.k:=aan fun h=>hk (.inl h)
         have hn2:x.n=y.n:=aan fun h=>hk (.inr h);have hxy:x=y:=adw hk2 hs hn2;subst hxy;rw [pq hs h0 hk2 hn2] at ha
         cases hq:met (manyN x) k1 k2 with
         |none=>rw [hq] at ha;cases ha
         |some q=>
          rw [hq] at ha;simp only [aaK,Option.some.injEq] at ha;subst ha;obtain ⟨d2,d3⟩:=Ow N (manyN x) k1 k2 q (by simp at hl;omega) e1 e2 hq;have hx0:x.k≠0:=fun h=>h0 (.inl h);have z1:=Rf.node (n:=0) (rs:=[]) (qg:=[]) hx0 rfl d2 .nil;have z2:=Rf.node (n:=0) (rs:=[]) (qg:=[]) hx0 rfl d3 .nil;simp only [mO] at z1 z2;exact ⟨z1,z2⟩
      ·rw [Cy hs] at ha
       cases ha
    rw [jf];exact ⟨key.1.app b2,key.2.app b3⟩
theorem Ma:∀(ts:List (List Nd)) (t m:List Nd) (a:Nat),Gd t->(∀u∈ts,Gd u)->bT a t ts=some (.ok m)->Rf 1 t m/\(∀u∈ts,Rf 1 u m)/\Gd m
 |[],t,m,a,hg,_,h=>by
  unfold bT at h;injection h with h
  injection h with h
  subst h
  exact ⟨Rf.refl _ 1 _ (aK _) hg.fo,(fun u hu=>by cases hu),hg⟩
 |u::ts,t,m,a,hg,hu,h=>by
  unfold bT at h
  cases h1:met 1 t u with
  |none=>rw [h1] at h;cases h
  |some m1=>
   rw [h1] at h;dsimp only at h;split at h
   ·rename_i hg1
    obtain ⟨k1,k2⟩:=Ow _ 1 t u m1 (aK _) hg.fo (hu u (by simp)).fo h1;obtain ⟨j1,j2,j3⟩:=Ma ts m1 m a hg1 (fun v hv=>hu v (by simp [hv])) h;refine ⟨k1.trans _ j1,fun v hv=>?_,j3⟩;rcases qm.1 hv with rfl|hv
    ·exact k2.trans _ j1
    ·exact j2 v hv
   ·cases h
theorem Rf.ag {t m:List Nd} (h:Rf 1 t m):jR t m=true:=by
 obtain ⟨r,hr⟩:=h.met;unfold jR;rw [hr];rfl
theorem Ya {s:ByteArray} {t:List Nd} (h:bC t):bC (g_ s t):=by
 cases t with
 |nil=>exact h
 |cons x xt=>
  intro y hy;rcases qm.1 hy with rfl|hy
  ·exact h x (by simp)
  ·exact h y (by simp [hy])
theorem VN {k:Int} {fs:List fB} (hn:(fs.map (·.1)).Nodup) (h:∀p∈fs,bC p.2) (ho:dP k (fs.length:Int)=true):bC (d_ k fs):=by
 obtain ⟨h1,_⟩:=pI fs hn;intro x hx;unfold d_ at hx;rcases qm.1 hx with rfl|hx
 ·exact ho
 ·obtain ⟨p,hp,hx⟩:=List.mem_flatMap.1 hx
  exact Ya (h p (h1.subset hp)) x hx
theorem Mc {env:Env}:∀(Xs:List (List Pt×List Nd)),(∀e∈Xs,gG env e.1 e.2)->∃f0,∀e∈Xs,rE f0 env e.1 e.2
 |[],_=>⟨0,fun e he=>by cases he⟩
 |e::Xs,h=>by
  obtain ⟨f1,h1⟩:=h e (by simp);obtain ⟨f2,h2⟩:=Mc Xs fun x hx=>h x (by simp [hx]);refine ⟨f1+f2,fun x hx=>?_⟩;rcases qm.1 hx with rfl|hx
  ·exact h1.mono (by omega)
  ·exact (h2 x hx).mono (by omega)
abbrev nD (Xs:List (List Pt×List Nd)):List Pt:=(Xs.map (·.1)).flatten
abbrev yg (Xs:List (List Pt×List Nd)):List fB:=Xs.map fun e=>(iU e.1,e.2)
theorem Dp {env':Env} {f0:Nat}:∀(Xs:List (List Pt×List Nd)) (g:Nat) (es2:List Pt) (a2:Nat) (bH:Env) (xs:List Pt) (fs:List fB),f0<=g->(∀e∈Xs,rE f0 env' e.1 e.2/\eU 1 e.1)->At es2 a2 (nD Xs)->iq env' bH->
  ∃gs2,iG (iT g es2) es2 bH Xs.length a2 fs=some (.ok (fs++gs2,a2+(nD Xs).length))/\jo (cst g es2) es2 bH Xs.length a2 xs fs=some (xs++nD Xs,fs++gs2,a2+(nD Xs).length)/\QF (yg Xs) gs2/\∀p∈gs2,Gd p.2
 |[],g,es2,a2,bH,xs,fs,_,_,_,_=>⟨[],by simp [iG],by simp [jo],rfl,fun p hp=>by cases hp⟩
 |e::Xs,g,es2,a2,bH,xs,fs,hg,hX,hat,hE=>by
  obtain ⟨F,T⟩:=hX e (by simp);have Cw:At es2 a2 (e.1++nD Xs):=hat;obtain ⟨v,d1,d2,d3,d4⟩:=F.at hg Cw.left hE;have hne:=T.ne;have hlb:=Cw.left.lb hne
  obtain ⟨q,hq⟩:∃q,es2[a2]?=some q:=by
   cases hx:e.1 with
   |nil=>exact absurd hx hne
   |cons p x=>
    have h5:=Cw.left;rw [hx] at h5;exact ⟨p,h5.head⟩
  have hlq:q.lb=iU e.1:=by
   rw [<-hlb];unfold vU;rw [hq];rfl
  obtain ⟨gs2,k1,k2,k3,k4⟩:=Dp Xs g es2 (a2+e.1.length) bH (xs++e.1) (fs++[(q.lb,v)]) hg (fun x hx=>hX x (by simp [hx])) Cw.right hE;have hfl:(nD (e::Xs)).length=e.1.length+(nD Xs).length:=by simp [nD]
  refine ⟨(q.lb,v)::gs2,?_,?_,?_,?_⟩
  ·rw [oG]
   unfold iG;rw [hq];dsimp only;rw [d1];dsimp only;rw [k1,hfl,kV,abE];rfl
  ·rw [oG]
   unfold jo;rw [hq];dsimp only;rw [d2];dsimp only;rw [k2,hfl,kV,kV,abE];rfl
  ·unfold QF wQ at*
   rw [hlq];show (iU e.1,aC e.2)::_=(iU e.1,aC v)::_;rw [show aC e.2=aC v from d3]
   congr 1
  ·intro p hp
   rcases qm.1 hp with rfl|hp
   ·exact d4
   ·exact k4 p hp
section
variable {es:List Pt} {f:Nat} {env env':Env}
theorem FH (hK:Cb es f) (hE:iq env env'):∀(n a:Nat) (fs fs':List fB) (xs:List Pt) (gs:List fB) (b:Nat) (l:List Nat),iG (jC f es) es env n a fs=some (.ok (gs,b))->bZ es n a=some l->(∀i∈l,∀q,es[i]?=some q->q.k≠8)->QF fs fs'->
  ∃Xs:List (List Pt×List Nd),Xs.length=n/\jo (cst f es) es env' n a xs fs'=some (xs++nD Xs,fs'++yg Xs,b)/\QF gs (fs'++yg Xs)/\EA es n a b/\eU n (nD Xs)/\(nD Xs).length<=2*(b-a)/\a<=b/\dN (nD Xs)/\(Rl es (nC env'/\uD es) false n a b (nD Xs)/\(nC env'->uD es->∀e∈Xs,stA e.2))/\∀e∈Xs,eU 1 e.1/\gG env' e.1 e.2/\Gd e.2
 |0,a,fs,fs',xs,gs,b,l,h,_,_,hq=>by
  unfold iG at h;injection h with h
  injection h with h
  injection h with h1 h2
  subst h1 h2
  exact ⟨[],rfl,by simp [jo],by simpa using hq,by unfold EA;exact qX _ _,eU.nil,by simp,aK _,(fun q hq=>by simp at hq),⟨.nil _ _,fun _ _ e he=>by cases he⟩,fun e he=>by cases he⟩
 |n+1,a,fs,fs',xs,gs,b,l,h,hkd,h8,hq=>by
  unfold iG at h;split at h
  ·cases h
  rename_i x hx
  cases h1:jC f es env a with
  |none=>rw [h1] at h;cases h
  |some y=>
   rw [h1] at h
   match y,h1,h with
   | .error _,_,h=>cases h
   | .ok (t,c),h1,h=>
    dsimp only at h
    have ha:a∈l:=by
     unfold bZ at hkd;split at hkd
     ·cases hkd
     ·rw [Option.map_eq_some_iff] at hkd
      obtain ⟨l2,_,rfl⟩:=hkd;simp
    obtain ⟨y,t',S⟩:=hK _ _ _ _ h1 (h8 a ha) env' hE;obtain ⟨l2,rfl,hk2⟩:=qY hkd S.e
    have hlb:iU y=x.lb:=by
     rw [S.lb];unfold vU;rw [hx];rfl
    obtain ⟨Xs,k1,k2,k3,k4,k5,k6,k7,k8,k10,k9⟩:=FH hK hE n c (fs++[(x.lb,t)]) (fs'++[(x.lb,t')]) (xs++y) gs b l2 h hk2 (fun i hi=>h8 i (by simp [hi])) (hq.snoc S.q);have hlt:=S.lt;have hln:=S.ln;refine ⟨(y,t')::Xs,by simp [k1],?_,?_,S.e.join k4,?_,?_,by omega,?_,?_,?_⟩
    ·unfold jo
     rw [hx];dsimp only;rw [S.c];dsimp only;rw [k2,kV,kV,<-hlb];rfl
    ·rw [kV,<-hlb] at k3
     exact k3
    ·show eU (n+1) (y++nD Xs)
     rw [jf];exact S.tr.app k5
    ·show (y++nD Xs).length<=_
     rw [lS];omega
    ·exact nN S.ok k8
    ·rw [jf]
     exact ⟨S.rl.join k10.1,fun h1 h2 e he=>by
      rcases qm.1 he with rfl|he
      ·exact S.st h1 h2
      ·exact k10.2 h1 h2 e he⟩
    ·intro e he
     rcases qm.1 he with rfl|he
     ·exact ⟨S.tr,S.full,S.gd.gd⟩
     ·exact k9 e he
end
section
variable {es:List Pt} {f:Nat} {env env':Env} {a b:Nat} {p:Pt} {t:List Nd}
variable (hI:Ov es) (hK:Cb es f) (hp:es[a]?=some p) (hE:iq env env') (hl:env.length<=900000) (ho:vw p) (hx:Dj p) (hg:Gd t) (htl:t.length<=5000000)
include hI hK hp hE hl ho hx hg htl
theorem Yb (hk:p.k=10) (hw:vH (jC f es) es env p (a+1)=some (.ok (t,b))):∃x t',vW es (f+1) env' a b t x t':=by
 have hE':env'.length<=900000:=by rw [<-hE.len];exact hl
 have hpo:=hI.ok p (O8 hp);have hes:=hI.len;have hm:aL p=p.mn.toNat:=by unfold aL;simp [hk]
 unfold vH at hw;split at hw
 rotate_left
 ·cases hw
 rename_i hmn
 cases hr:iG (jC f es) es env p.mn.toNat (a+1) [] with
 |none=>rw [hr] at hw;cases hw
 |some y=>
  rw [hr] at hw
  match y,hr,hw with
  | .error _,_,hw=>cases hw
  | .ok (gs,c),hr,hw=>
   dsimp only at hw;split at hw
   rotate_left
   ·cases hw
   rename_i hbr;injection hw with hw
   injection hw with hw
   injection hw with z1 z2
   subst z1 z2;obtain ⟨l,hl1,hl2⟩:=hI.kids a p hp;rw [hm] at hl1
   obtain ⟨Xs,k1,k2,k3,k4,k5,k6,k7,k8,k10,k9⟩:=FH hK hE p.mn.toNat (a+1) [] [] [p] gs c l hr hl1 (fun i hi q hq h8=>by
    obtain ⟨j,hj⟩:=List.getElem?_of_mem hi;have:=(hl2.kind j i q hj hq).1 h8;omega) rfl
   rw [aat] at k2 k3;have hlab:=k3.aeQ
   have hlen:gs.length=(yg Xs).length:=by
    have:=congrArg List.length hlab;simpa using this
   have KP:jZ 6 ((yg Xs).map (·.1)) (yg Xs).length=false/\((yg Xs).map (·.1)).Nodup:=by rw [<-hlab,<-hlen];exact hbr
   have qr:Q2 (d_ 6 gs) (d_ 6 (yg Xs)):=k3.row (by decide);have ho6:dP 6 (gs.length:Int)=true:=hg.ok ⟨6,dQ,(gs.length:Int)⟩ (by unfold d_;exact List.mem_cons_self ..)
   have gr:Gd (d_ 6 (yg Xs)):=qr.gd hg (VN KP.2 (fun q hq=>by
    obtain ⟨e,he,rfl⟩:=aaw.1 hq;exact (k9 e he).2.2.ok) (by rw [<-hlen];exact ho6))
   have hlt:=k4.lt
   refine mQ hI hp hE hl hx htl (x:=p::nD Xs) (t':=d_ 6 (yg Xs)) ?_ qr gr (EA.close hp (by rw [hm];exact k4)) (eU.cons (by rw [hm];exact k5)) (by rw [oG];omega) rfl ?_ (fE hpo k8) (qx hp (by omega) (by rw [hk];rfl) hm k10.1) (fun h1 h2=>abB (by decide) KP.2 fun q hq=>by
    obtain ⟨e,he,rfl⟩:=aaw.1 hq;exact k10.2 h1 h2 e he)
   ·rw [(show dJ (cst f es) es env' p (a+1)=xK (cst f es) es env' p (a+1) from by unfold dJ;simp [hk])]
    unfold xK;rw [if_pos hmn,k2];dsimp only;rw [if_pos KP];rfl
   ·obtain ⟨f0,F⟩:=Mc Xs fun e he=>(k9 e he).2.1
    refine gG.mk ho hx hE' (by omega) (by rw [<-qr.len];exact htl) f0 fun s g hg0 es2 a2 bH hat hp2 hE2 hl2=>?_;have amT:At es2 (a2+1) (nD Xs):=hat;obtain ⟨gs2,m1,m2,m3,m4⟩:=Dp Xs g es2 (a2+1) bH [{p with lb:=s}] [] hg0 (fun e he=>⟨F e he,(k9 e he).1⟩) amT hE2;rw [aat,k1] at m1 m2;have abQ:=m3.aeQ
    have DR:(yg Xs).length=gs2.length:=by
     have:=congrArg List.length abQ;simpa using this
    have abR:jZ 6 (gs2.map (·.1)) gs2.length=false/\(gs2.map (·.1)).Nodup:=by rw [<-abQ,<-DR];exact KP
    have qr2:Q2 (d_ 6 (yg Xs)) (d_ 6 gs2):=m3.row (by decide);have gr2:Gd (d_ 6 gs2):=qr2.gd gr (VN abR.2 (fun q hq=>(m4 q hq).ok) (by rw [<-DR,<-hlen];exact ho6));refine ⟨d_ 6 gs2,?_,?_,qr2,gr2⟩
    ·rw [(show gK (iT g es2) es2 bH {p with lb:=s} a2 (a2+1)=vH (iT g es2) es2 bH {p with lb:=s} (a2+1) from by unfold gK;simp [hk])]
     unfold vH;dsimp only;rw [if_pos hmn,m1];dsimp only;rw [if_pos abR]
    ·rw [(show dJ (cst g es2) es2 bH {p with lb:=s} (a2+1)=xK (cst g es2) es2 bH {p with lb:=s} (a2+1) from by unfold dJ;simp [hk])]
     unfold xK;dsimp only;rw [if_pos hmn,m2];dsimp only;rw [if_pos abR];rfl
end
end Go.Proofs.YtmjdhfbnmmdjiaaGreat
