/- Laid together by a tool from the texts of this seat: PxF PxR PxG. Conditions: each theorem's own. -/
import Derived.Test.YtmjdhfbnmmdjiaaGreatJ28
namespace Go.Proofs.YtmjdhfbnmmdjiaaGreat
open _root_.List renaming length_append->jX,length_cons->mX,mem_of_getElem?->Ox,append_assoc->kE,mem_cons->oJ,append_nil->lI,cons_append->rM,nil_append->aar
open _root_.Nat renaming add_assoc->aaS,le_refl->aG,add_comm->iK
open _root_.Option renaming map_some->aaL
open _root_.Classical renaming byContradiction->aal
open _root_.ByteArray renaming empty->bZ
theorem MO {t:List Nd} (g:Gd t):jA t (aV t)=true:=by
 by_cases h0:(aQ t).k=0
 ·unfold aV
  rw [if_pos h0];have hf:=g.fo;have hs:=g.s
  cases t with
  |nil=>exact absurd hf.pos (by simp)
  |cons x xt=>
   unfold jA aW;rw [u7 (y:=⟨5,bZ,0⟩) (yt:=ay 0++ay 0) hf (by decide) (show x.s=bZ from hs) (.inl h0)];rfl
 ·rw [BS h0]
  exact (Q2.refl t).oZ g.fo
theorem ZM (s:ByteArray):Gd (ay (dD s)):=ku _ (by
 unfold dD;split
 ·omega
 ·split<;>omega)
theorem zn:∀(N n:Nat) (xs ys m:List Nd),xs.length<=N->Fo n xs->Fo n ys->met n xs ys=some m->Fo n m/\(∃r,met n xs m=some r)/\∃r,met n ys m=some r
 |_,0,xs,ys,m,_,h1,h2,hm=>by
  rw [jk] at hm;injection hm with hm
  subst hm
  exact ⟨Fo.zero,⟨[],jk _ _⟩,⟨[],jk _ _⟩⟩
 |0,n+1,xs,ys,m,hl,h1,_,_=>by
  have:=h1.pos
  omega
 |N+1,n+1,xs,ys,m,hl,h1,h2,hm=>by
  obtain ⟨t1,r1,rfl,f1,g1⟩:=h1.first;obtain ⟨t2,r2,rfl,f2,g2⟩:=h2.first;have ht1:=f1.pos;rw [jX] at hl;rw [pX f1 f2] at hm
  cases ha:met 1 t1 t2 with
  |none=>rw [ha] at hm;cases hm
  |some a=>
   cases hr:met n r1 r2 with
   |none=>rw [ha,hr] at hm;cases hm
   |some r=>
    rw [ha,hr] at hm;simp only [Option.bind_some,aaL,Option.some.injEq] at hm;subst hm;obtain ⟨b1,⟨c1,b2⟩,⟨c2,b3⟩⟩:=zn N n r1 r2 r (by omega) g1 g2 hr
    have key:Fo 1 a/\(∃q,met 1 t1 a=some q)/\∃q,met 1 t2 a=some q:=by
     match t1,t2,f1,f2,ha,hl with
     |[],_,f1,_,_,_=>exact absurd f1.pos (by simp)
     |_::_,[],_,f2,_,_=>exact absurd f2.pos (by simp)
     |x::k1,y::k2,f1,f2,ha,hl=>
      by_cases hs:x.s=y.s
      ·by_cases h0:x.k=0\/y.k=0
       ·have ha0:=ha
        rw [u7 f1 f2 hs h0] at ha;injection ha with ha
        by_cases hy:y.k=0
        ·rw [if_pos hy] at ha
         subst ha;exact ⟨f1,⟨_,vK _ 1 _ (aG _) f1⟩,⟨_,u7 f2 f1 hs.symm (.inl hy)⟩⟩
        ·rw [if_neg hy] at ha
         subst ha;exact ⟨f2,⟨_,ha0⟩,⟨_,vK _ 1 _ (aG _) f2⟩⟩
       ·by_cases hk:x.k≠y.k\/x.n≠y.n
        ·rw [Fp hs h0 hk] at ha
         cases ha
        ·have hk2:x.k=y.k:=aal fun h=>hk (.inl h)
         have hn2:x.n=y.n:=aal fun h=>hk (.inr h);have hmn:manyN y=manyN x:=by unfold manyN;rw [hk2,hn2]
         rw [pW hs h0 hk2 hn2] at ha
         cases hq:met (manyN x) k1 k2 with
         |none=>rw [hq] at ha;cases ha
         |some q=>
          rw [hq] at ha;simp only [aaL,Option.some.injEq] at ha;subst ha;have e1:=f1.kids;have e2:=f2.kids;rw [hmn] at e2;obtain ⟨d1,⟨q1,d2⟩,⟨q2,d3⟩⟩:=zn N (manyN x) k1 k2 q (by simp at hl;omega) e1 e2 hq;refine ⟨?_,⟨x::q1,?_⟩,⟨y::q2,?_⟩⟩
          ·have:=Fo.cons (n:=0) (x:=x) (ks:=q) (rs:=[]) d1 Fo.zero
           rw [lI] at this;exact this
          ·rw [pW rfl (by intro h;exact h0 (.inl (h.elim id id))) rfl rfl,d2]
           rfl
          ·rw [pW hs.symm (by intro h;exact h0 (h.elim .inr .inl)) hk2.symm hn2.symm,hmn,d3]
           rfl
      ·rw [Fq hs] at ha
       cases ha
    obtain ⟨k0,⟨q1,k1⟩,⟨q2,k2⟩⟩:=key;refine ⟨by rw [iK];exact k0.append b1,⟨q1++c1,?_⟩,⟨q2++c2,?_⟩⟩
    ·rw [pX f1 k0,k1,b2]
     rfl
    ·rw [pX f2 k0,k2,b3]
     rfl
theorem abh {t u m:List Nd} (h:met 1 t u=some m) (gt:Gd t) (gu:Gd u):jA t m=true:=by
 obtain ⟨_,⟨r,h1⟩,_⟩:=zn _ 1 t u m (aG _) gt.fo gu.fo h;unfold jA;rw [h1];rfl
theorem ZN {t u m:List Nd} (h:met 1 t u=some m) (gt:Gd t) (gu:Gd u):jA u m=true:=by
 obtain ⟨_,_,⟨r,h1⟩⟩:=zn _ 1 t u m (aG _) gt.fo gu.fo h;unfold jA;rw [h1];rfl
theorem gI.two {s r:ByteArray} {t u:List Nd} (g:Gd t) (k:Gd u):gI [(s,t),(r,u)] [(s,t),(r,u)]:=⟨⟨rfl,Q2.refl _,g⟩,⟨rfl,Q2.refl _,k⟩,trivial⟩
section
variable {es:List Pt} {f:Nat} {env env':Env} {a b:Nat} {p:Pt} {t:List Nd}
variable (hI:MN es) (hK:AJ es f) (hp:es[a]?=some p) (hE:gI env env') (hl:env.length<=900000) (ho:qO p) (hx:yQ p) (hg:Gd t) (htl:t.length<=5000000)
include hI hK hp hE hl ho hx hg htl
theorem ZO (hk:p.k=3) (hw:DV (jm f es) env a (a+1)=some (.ok (t,b))):∃x t',uT es (f+1) env' a b t x t':=by
 obtain ⟨u1,c,h1,hw⟩:=oh hw;obtain ⟨u2,d,h2,hw⟩:=oh hw;have hm:aP p=2:=by unfold aP;simp [hk]
 have hE':env'.length<=900000:=by rw [<-hE.len];exact hl
 have hpo:=hI.ok p (Ox hp);have hes:=hI.len;obtain ⟨y1,t1,S1⟩:=hK _ _ _ _ h1 (yT hI hp (by omega) (by omega)) env' hE;obtain ⟨y2,t2,S2⟩:=hK _ _ _ _ h2 (Pm hI hp (by omega) (by omega) S1.e) env' hE
 cases hc:iQ u1 with
 |none=>rw [hc] at hw;cases hw
 |some r=>
  obtain ⟨tk,tl⟩:=r;rw [hc] at hw;dsimp only at hw;split at hw
  rotate_left
  ·cases hw
  rename_i hag;injection hw with hw
  injection hw with hw
  injection hw with e1 e2
  subst e1 e2;obtain ⟨k',l',c1,q1,q2⟩:=S1.q.call hc;obtain ⟨c2,c3⟩:=VK c1;have G1:=S1.gd;have G2:=S2.gd;obtain ⟨gk,gl⟩:=Bp G1.gd c1;have lk:=(Kn G1.pJ c1).1;have gd1:=oV G1.gd;have ld:(aV t1).length<=5000000:=by have:=G1.tl;unfold aV;split;decide;exact this
  have hl1:=S1.lt;have hl2:=S2.lt;have hn1:=S1.ln;have hn2:=S2.ln;have n1:=bS y1 t1 (aV t1);have n2:=bS y2 t2 k';have tl1:=G1.tl;have F1:=S1.full.to G1.gd gd1 (MO G1.gd) hE' (by omega) ld;have F2:=S2.full.to G2.gd gk (S2.q.ag q1 hag) hE' (by omega) (by omega);refine mg hI hp hE hl hx htl (x:=p::(toM y1 t1 (aV t1)++toM y2 t2 k')) (t':=l') ?_ q2 gl (EL hp hm S1.e S2.e) (eH.cons (by rw [hm];exact (S1.tr.to _ _).app (S2.tr.to _ _))) (by rw [mX,jX];omega) rfl ?_ (fu hpo (m_ (lF S1.ok _ _) (lF S2.ok _ _)))
  ·rw [(show dG (cst f es) es env' p (a+1)=yB (cst f es) env' p (a+1) from by unfold dG;simp [hk])]
   unfold yB;rw [S1.c];dsimp only [fF];rw [S2.c];dsimp only;rw [c2];dsimp only;rw [if_pos (by omega)]
  ·obtain ⟨f1,F1⟩:=F1
   obtain ⟨f2,F2⟩:=F2;refine fU.mk ho hx hE' (by rw [jX];omega) (by rw [<-q2.len];exact htl) (f1+f2) fun s g hg0 es2 a2 bL hat hp2 hE2 hl2=>?_;obtain ⟨v1,d1,d2,d3,d4⟩:=F1.at (f:=g) (by omega) hat.left hE2;obtain ⟨v2,e1,e2,e3,e4⟩:=F2.at (f:=g) (by omega) hat.right hE2;obtain ⟨k2,l2,m1,m2,m3⟩:=d3.call c2;have hv0:(aQ v1).k≠0:=by rw [<-d3.k];exact c3
   have qk:Q2 v2 k2:=e3.symm.trans m2;refine ⟨l2,?_,?_,m3,(Bp d4 m1).2⟩
   ·rw [(show fV (gW g es2) es2 bL {p with lb:=s} a2 (a2+1)=DV (gW g es2) bL a2 (a2+1) from by unfold fV;simp [hk])]
    unfold DV;rw [d1];dsimp only [dB];rw [e1];dsimp only;rw [m1];dsimp only;rw [if_pos (qk.oZ e4.fo),jX,aaS]
   ·rw [(show dG (cst g es2) es2 bL {p with lb:=s} (a2+1)=yB (cst g es2) bL {p with lb:=s} (a2+1) from by unfold dG;simp [hk])]
    unfold yB;rw [d2];dsimp only [fF];rw [e2];dsimp only;rw [BS hv0,m1];dsimp only;rw [if_pos (by have:=(Kn (nG d4) m1).1;have:=d3.len;omega),j_ (Q2.refl v1),j_ qk,jX,aaS]
omit hg in
theorem ZP (hk:p.k=4) (hw:FC (jm f es) env p a (a+1)=some (.ok (t,b))):∃x t',uT es (f+1) env' a b t x t':=by
 obtain ⟨u1,c,h1,hw⟩:=oh hw;have hm:aP p=2:=by unfold aP;simp [hk]
 have hE':env'.length<=900000:=by rw [<-hE.len];exact hl
 have hpo:=hI.ok p (Ox hp);have hes:=hI.len;have gT:=ho.1 (.inr (.inl hk)) (by omega);have lT:=(hx.1 (.inr (.inl hk))).2;unfold fZ at hw;split at hw
 rotate_left
 ·cases hw
 rename_i hag;obtain ⟨y1,t1,S1⟩:=hK _ _ _ _ h1 (yT hI hp (by omega) (by omega)) env' hE;obtain ⟨y2,t2,S2⟩:=hK _ _ _ _ hw (Pm hI hp (by omega) (by omega) S1.e) (env'++[(p.bd,p.T)]) (hE.app (.one (Q2.refl _) gT));have G1:=S1.gd;have G2:=S2.gd;have hl1:=S1.lt;have hl2:=S2.lt;have hn1:=S1.ln;have hn2:=S2.ln;have n1:=bS y1 t1 p.T;have F1:=S1.full.to G1.gd gT (S1.q.ag (Q2.refl _) hag) hE' (by omega) lT;refine mg hI hp hE hl hx htl (x:=p::(toM y1 t1 p.T++y2)) (t':=t2) ?_ S2.q G2.gd (EL hp hm S1.e S2.e) (eH.cons (by rw [hm];exact (S1.tr.to _ _).app S2.tr)) (by rw [mX,jX];omega) rfl ?_ (fu hpo (m_ (lF S1.ok _ _) S2.ok))
 ·rw [(show dG (cst f es) es env' p (a+1)=Gl (cst f es) env' p (a+1) from by unfold dG;simp [hk])]
  unfold Gl;rw [S1.c];dsimp only [fF];rw [S2.c]
 ·obtain ⟨f1,F1⟩:=F1
  obtain ⟨f2,F2⟩:=S2.full;refine fU.mk ho hx hE' (by rw [jX];omega) G2.tl (f1+f2) fun s g hg0 es2 a2 bL hat hp2 hE2 hl2=>?_;obtain ⟨v1,d1,d2,d3,d4⟩:=F1.at (f:=g) (by omega) hat.left hE2;obtain ⟨v2,e1,e2,e3,e4⟩:=F2.at (f:=g) (by omega) hat.right (hE2.app (.one (s:=p.bd) (Q2.refl _) gT));refine ⟨v2,?_,?_,e3,e4⟩
  ·rw [(show fV (gW g es2) es2 bL {p with lb:=s} a2 (a2+1)=FC (gW g es2) bL {p with lb:=s} a2 (a2+1) from by unfold fV;simp [hk])]
   unfold FC;rw [d1];dsimp only [dB];unfold fZ;rw [if_pos (d3.symm.oZ d4.fo)];dsimp only [NT];rw [e1,jX,aaS]
  ·rw [(show dG (cst g es2) es2 bL {p with lb:=s} (a2+1)=Gl (cst g es2) bL {p with lb:=s} (a2+1) from by unfold dG;simp [hk])]
   unfold Gl;rw [d2];dsimp only [fF];rw [e2];dsimp only;rw [j_ d3.symm,jX,aaS]
omit hg in
theorem ZQ (hk:p.k=5) (hw:FD (jm f es) env p a (a+1)=some (.ok (t,b))):∃x t',uT es (f+1) env' a b t x t':=by
 obtain ⟨u1,c,h1,hw⟩:=oh hw;have hm:aP p=2:=by unfold aP;simp [hk]
 have hE':env'.length<=900000:=by rw [<-hE.len];exact hl
 have hpo:=hI.ok p (Ox hp);have hes:=hI.len;have gT:=ho.1 (.inr (.inr (.inl hk))) (by omega);have gU:=ho.2 (.inl hk);have lT:=(hx.1 (.inr (.inr (.inl hk)))).2;have lU:=(hx.2 hk).2;have gA:Gd (aW p.T p.U):=Dr gT gU (by omega);unfold fZ at hw;split at hw
 rotate_left
 ·cases hw
 rename_i hag;obtain ⟨y1,t1,S1⟩:=hK _ _ _ _ h1 (yT hI hp (by omega) (by omega)) (env'++[(p.nm,aW p.T p.U),(p.bd,p.T)]) (hE.app (.two gA gT));obtain ⟨y2,t2,S2⟩:=hK _ _ _ _ hw (Pm hI hp (by omega) (by omega) S1.e) (env'++[(p.nm,aW p.T p.U)]) (hE.app (.one (Q2.refl _) gA));have G1:=S1.gd;have G2:=S2.gd;have hl1:=S1.lt;have hl2:=S2.lt;have hn1:=S1.ln;have hn2:=S2.ln;have n1:=bS y1 t1 p.U
 have hE1:(env'++[(p.nm,aW p.T p.U),(p.bd,p.T)]).length<=900000:=by
  have h9:=S1.c
  cases f with
  |zero=>cases h9
  |succ f=>
   obtain ⟨_,_,h10,_⟩:=vJ h9;exact h10
 have F1:=S1.full.to G1.gd gU (S1.q.ag (Q2.refl _) hag) hE1 (by omega) lU;refine mg hI hp hE hl hx htl (x:=p::(toM y1 t1 p.U++y2)) (t':=t2) ?_ S2.q G2.gd (EL hp hm S1.e S2.e) (eH.cons (by rw [hm];exact (S1.tr.to _ _).app S2.tr)) (by rw [mX,jX];omega) rfl ?_ (fu hpo (m_ (lF S1.ok _ _) S2.ok))
 ·rw [(show dG (cst f es) es env' p (a+1)=Gm (cst f es) env' p (a+1) from by unfold dG;simp [hk])]
  unfold Gm;rw [S1.c];dsimp only [fF];rw [S2.c]
 ·obtain ⟨f1,F1⟩:=F1
  obtain ⟨f2,F2⟩:=S2.full;refine fU.mk ho hx hE' (by rw [jX];omega) G2.tl (f1+f2) fun s g hg0 es2 a2 bL hat hp2 hE2 hl2=>?_;obtain ⟨v1,d1,d2,d3,d4⟩:=F1.at (f:=g) (by omega) hat.left (hE2.app (.two (s:=p.nm) (r:=p.bd) gA gT));obtain ⟨v2,e1,e2,e3,e4⟩:=F2.at (f:=g) (by omega) hat.right (hE2.app (.one (s:=p.nm) (Q2.refl _) gA));refine ⟨v2,?_,?_,e3,e4⟩
  ·rw [(show fV (gW g es2) es2 bL {p with lb:=s} a2 (a2+1)=FD (gW g es2) bL {p with lb:=s} a2 (a2+1) from by unfold fV;simp [hk])]
   unfold FD;dsimp only;rw [d1];dsimp only [dB];unfold fZ;rw [if_pos (d3.symm.oZ d4.fo)];dsimp only [NT];rw [e1,jX,aaS]
  ·rw [(show dG (cst g es2) es2 bL {p with lb:=s} (a2+1)=Gm (cst g es2) bL {p with lb:=s} (a2+1) from by unfold dG;simp [hk])]
   unfold Gm;dsimp only;rw [d2];dsimp only [fF];rw [e2];dsimp only;rw [j_ d3.symm,jX,aaS]
theorem abj (hk:p.k=6) (hw:xP (jm f es) env a (a+1)=some (.ok (t,b))):∃x t',uT es (f+1) env' a b t x t':=by
 obtain ⟨u1,c,h1,hw⟩:=oh hw;obtain ⟨u2,d,h2,hw⟩:=oh hw;obtain ⟨u3,e,h3,hw⟩:=oh hw;have hm:aP p=3:=by unfold aP;simp [hk]
 have hE':env'.length<=900000:=by rw [<-hE.len];exact hl
 have hpo:=hI.ok p (Ox hp);have hes:=hI.len;split at hw
 rotate_left
 ·cases hw
 rename_i hag;unfold ru at hw
 cases hmt:met 1 u2 u3 with
 |none=>rw [hmt] at hw;cases hw
 |some m=>
  rw [hmt] at hw;injection hw with hw
  injection hw with hw
  injection hw with z1 z2
  subst z1 z2;obtain ⟨y1,t1,S1⟩:=hK _ _ _ _ h1 (yT hI hp (by omega) (by omega)) env' hE;obtain ⟨y2,t2,S2⟩:=hK _ _ _ _ h2 (Pm hI hp (by omega) (by omega) S1.e) env' hE;obtain ⟨y3,t3,S3⟩:=hK _ _ _ _ h3 (akn hI hp (by omega) (by omega) S1.e S2.e) env' hE;have G1:=S1.gd;have G2:=S2.gd;have G3:=S3.gd;have hl1:=S1.lt;have hl2:=S2.lt;have hl3:=S3.lt;have hn1:=S1.ln;have hn2:=S2.ln;have hn3:=S3.ln;obtain ⟨m',mt,mq⟩:=S2.q.met S3.q hmt;have gm:Gd m':=mq.gd hg (zl _ 1 _ _ _ (aG _) G2.gd.ok G3.gd.ok mt);have lm:m'.length<=5000000:=by rw [<-mq.len];exact htl
  have a2':jA t2 m'=true:=abh mt G2.gd G3.gd;have a3':jA t3 m'=true:=ZN mt G2.gd G3.gd;have n1:=bS y1 t1 (ay 2);have n2:=bS y2 t2 m';have n3:=bS y3 t3 m';have gb:Gd (ay 2):=by decide
  have F1:=S1.full.to G1.gd gb (S1.q.ag (Q2.refl _) hag) hE' (by omega) (by decide);have F2:=S2.full.to G2.gd gm a2' hE' (by omega) lm;have F3:=S3.full.to G3.gd gm a3' hE' (by omega) lm;refine mg hI hp hE hl hx htl (x:=p::(toM y1 t1 (ay 2)++(toM y2 t2 m'++toM y3 t3 m'))) (t':=m') ?_ mq gm (VL hp hm S1.e S2.e S3.e) (eH.cons (by rw [hm];exact (S1.tr.to _ _).app ((S2.tr.to _ _).app (S3.tr.to _ _)))) (by rw [mX,jX,jX];omega) rfl ?_ (fu hpo (m_ (lF S1.ok _ _) (m_ (lF S2.ok _ _) (lF S3.ok _ _))))
  ·rw [(show dG (cst f es) es env' p (a+1)=Aq (cst f es) env' p (a+1) from by unfold dG;simp [hk])]
   unfold Aq;rw [S1.c];dsimp only [fF];rw [S2.c];dsimp only;rw [S3.c];dsimp only [bT];rw [mt];dsimp only;rw [if_pos gm];dsimp only;rw [if_pos lm]
  ·obtain ⟨f1,F1⟩:=F1
   obtain ⟨f2,F2⟩:=F2;obtain ⟨f3,F3⟩:=F3;refine fU.mk ho hx hE' (by rw [jX,jX];omega) lm (f1+f2+f3) fun s g hg0 es2 a2 bL hat hp2 hE2 hl2=>?_;obtain ⟨v1,d1,d2,d3,d4⟩:=F1.at (f:=g) (by omega) hat.left hE2;obtain ⟨v2,e1,e2,e3,e4⟩:=F2.at (f:=g) (by omega) hat.right.left hE2;obtain ⟨v3,k1,k2,k3,k4⟩:=F3.at (f:=g) (by omega) hat.right.right hE2;obtain ⟨m2,r1,r2⟩:=(e3.symm.trans k3).Dp e4.fo;have g2:Gd m2:=r2.gd e4 (zl _ 1 _ _ _ (aG _) e4.ok k4.ok r1);have l2:m2.length<=5000000:=by rw [<-r2.len,<-e3.len];exact lm
   refine ⟨m2,?_,?_,e3.trans r2,g2⟩
   ·rw [(show fV (gW g es2) es2 bL {p with lb:=s} a2 (a2+1)=xP (gW g es2) bL a2 (a2+1) from by unfold fV;simp [hk])]
    unfold xP;rw [d1];dsimp only [dB];rw [e1];dsimp only;rw [k1];dsimp only;rw [if_pos (d3.symm.oZ d4.fo)];unfold ru;rw [r1];dsimp only;rw [jX,jX,<-aaS,<-aaS]
   ·rw [(show dG (cst g es2) es2 bL {p with lb:=s} (a2+1)=Aq (cst g es2) bL {p with lb:=s} (a2+1) from by unfold dG;simp [hk])]
    unfold Aq;rw [d2];dsimp only [fF];rw [e2];dsimp only;rw [k2];dsimp only [bT];rw [r1];dsimp only;rw [if_pos g2];dsimp only;rw [if_pos l2,j_ d3.symm,j_ r2,j_ ((k3.symm.trans e3).trans r2),jX,jX,<-aaS,<-aaS]
theorem abk (hk:p.k=9) (hw:NU (jm f es) env p a (a+1)=some (.ok (t,b))):∃x t',uT es (f+1) env' a b t x t':=by
 obtain ⟨u1,c,h1,hw⟩:=oh hw;obtain ⟨u2,d,h2,hw⟩:=oh hw;have hm:aP p=2:=by unfold aP;simp [hk]
 have hE':env'.length<=900000:=by rw [<-hE.len];exact hl
 have hpo:=hI.ok p (Ox hp);have hes:=hI.len;split at hw
 rotate_left
 ·cases hw
 rename_i hag;injection hw with hw
 injection hw with hw
 injection hw with z1 z2
 subst z1 z2;obtain ⟨y1,t1,S1⟩:=hK _ _ _ _ h1 (yT hI hp (by omega) (by omega)) env' hE;obtain ⟨y2,t2,S2⟩:=hK _ _ _ _ h2 (Pm hI hp (by omega) (by omega) S1.e) env' hE;have G1:=S1.gd;have G2:=S2.gd;have hl1:=S1.lt;have hl2:=S2.lt;have hn1:=S1.ln;have hn2:=S2.ln;have n1:=bS y1 t1 (ay (dD p.nm));have n2:=bS y2 t2 (ay (dD p.nm));have gb:=ZM p.nm;have lb:(ay (dD p.nm)).length<=5000000:=by simp [ay]
 have F1:=S1.full.to G1.gd gb (S1.q.ag (Q2.refl _) hag.1) hE' (by omega) lb;have F2:=S2.full.to G2.gd gb (S2.q.ag (Q2.refl _) hag.2) hE' (by omega) lb;refine mg hI hp hE hl hx htl (x:=p::(toM y1 t1 (ay (dD p.nm))++toM y2 t2 (ay (dD p.nm)))) (t':=ay (fM p.nm)) ?_ (Q2.refl _) hg (EL hp hm S1.e S2.e) (eH.cons (by rw [hm];exact (S1.tr.to _ _).app (S2.tr.to _ _))) (by rw [mX,jX];omega) rfl ?_ (fu hpo (m_ (lF S1.ok _ _) (lF S2.ok _ _)))
 ·rw [(show dG (cst f es) es env' p (a+1)=Q7 (cst f es) env' p (a+1) from by unfold dG;simp [hk])]
  unfold Q7;rw [S1.c];dsimp only [fF];rw [S2.c]
 ·obtain ⟨f1,F1⟩:=F1
  obtain ⟨f2,F2⟩:=F2;refine fU.mk ho hx hE' (by rw [jX];omega) htl (f1+f2) fun s g hg0 es2 a2 bL hat hp2 hE2 hl2=>?_;obtain ⟨v1,d1,d2,d3,d4⟩:=F1.at (f:=g) (by omega) hat.left hE2;obtain ⟨v2,e1,e2,e3,e4⟩:=F2.at (f:=g) (by omega) hat.right hE2;refine ⟨ay (fM p.nm),?_,?_,Q2.refl _,hg⟩
  ·rw [(show fV (gW g es2) es2 bL {p with lb:=s} a2 (a2+1)=NU (gW g es2) bL {p with lb:=s} a2 (a2+1) from by unfold fV;simp [hk])]
   unfold NU;rw [d1];dsimp only [dB];rw [e1];dsimp only;rw [if_pos ⟨d3.symm.oZ d4.fo,e3.symm.oZ e4.fo⟩,jX,aaS]
  ·rw [(show dG (cst g es2) es2 bL {p with lb:=s} (a2+1)=Q7 (cst g es2) bL {p with lb:=s} (a2+1) from by unfold dG;simp [hk])]
   unfold Q7;rw [d2];dsimp only [fF];rw [e2];dsimp only;rw [j_ d3.symm,j_ e3.symm,jX,aaS]
theorem ZR (hk:p.k=11) (hw:getM (jm f es) env p a (a+1)=some (.ok (t,b))):∃x t',uT es (f+1) env' a b t x t':=by
 obtain ⟨u1,c,h1,hw⟩:=oh hw;have hm:aP p=1:=by unfold aP;simp [hk]
 have hE':env'.length<=900000:=by rw [<-hE.len];exact hl
 have hpo:=hI.ok p (Ox hp);have hes:=hI.len;unfold mV at hw
 cases hf:bJ u1 p.nm with
 |none=>rw [hf] at hw;cases hw
 |some u=>
  rw [hf] at hw;injection hw with hw
  injection hw with hw
  injection hw with z1 z2
  subst z1 z2;obtain ⟨y1,t1,S1⟩:=hK _ _ _ _ h1 (yT hI hp (by omega) (by omega)) env' hE;have G1:=S1.gd;have hl1:=S1.lt;have hn1:=S1.ln;obtain ⟨u',c1,c2⟩:=S1.q.field hf;have gu:=qd G1.gd c1;refine mg hI hp hE hl hx htl (x:=p::y1) (t':=u') ?_ c2 gu (zm hp hm S1.e) (eH.cons (by rw [hm];exact S1.tr)) (by rw [mX];omega) rfl ?_ (fu hpo S1.ok)
  ·rw [(show dG (cst f es) es env' p (a+1)=Gn (cst f es) env' p (a+1) from by unfold dG;simp [hk])]
   unfold Gn;rw [S1.c];dsimp only [fF];rw [c1]
  ·obtain ⟨f1,F1⟩:=S1.full
   refine fU.mk ho hx hE' (by omega) (by rw [<-c2.len];exact htl) f1 fun s g hg0 es2 a2 bL hat hp2 hE2 hl2=>?_;obtain ⟨v1,d1,d2,d3,d4⟩:=F1.at hg0 hat hE2;obtain ⟨u2,m1,m2⟩:=d3.field c1;refine ⟨u2,?_,?_,m2,qd d4 m1⟩
   ·rw [(show fV (gW g es2) es2 bL {p with lb:=s} a2 (a2+1)=getM (gW g es2) bL {p with lb:=s} a2 (a2+1) from by unfold fV;simp [hk])]
    unfold getM;rw [d1];dsimp only [dB];unfold mV;rw [m1]
   ·rw [(show dG (cst g es2) es2 bL {p with lb:=s} (a2+1)=Gn (cst g es2) bL {p with lb:=s} (a2+1) from by unfold dG;simp [hk])]
    unfold Gn;rw [d2];dsimp only [fF];rw [m1]
theorem ZT (hk:p.k=12) (hw:DW (jm f es) env p a (a+1)=some (.ok (t,b))):∃x t',uT es (f+1) env' a b t x t':=by
 obtain ⟨u1,c,h1,hw⟩:=oh hw;have hm:aP p=1:=by unfold aP;simp [hk]
 have hE':env'.length<=900000:=by rw [<-hE.len];exact hl
 have hpo:=hI.ok p (Ox hp);have hes:=hI.len;obtain ⟨gT,lT⟩:=hx.1 (.inr (.inr (.inr (.inl hk))));unfold mV at hw
 cases hf:bJ p.T p.nm with
 |none=>rw [hf] at hw;cases hw
 |some u=>
  rw [hf] at hw;dsimp only [dB] at hw;split at hw
  rotate_left
  ·cases hw
  rename_i hag;injection hw with hw
  injection hw with hw
  injection hw with z1 z2
  subst z1 z2;obtain ⟨y1,t1,S1⟩:=hK _ _ _ _ h1 (yT hI hp (by omega) (by omega)) env' hE;have G1:=S1.gd;have hl1:=S1.lt;have hn1:=S1.ln;have gu:=qd gT hf;have lu:=R8 (nG gT) hf;have n1:=bS y1 t1 u;have F1:=S1.full.to G1.gd gu (S1.q.ag (Q2.refl _) hag) hE' (by omega) (by omega);refine mg hI hp hE hl hx htl (x:=p::toM y1 t1 u) (t':=p.T) ?_ (Q2.refl _) hg (zm hp hm S1.e) (eH.cons (by rw [hm];exact S1.tr.to _ _)) (by rw [mX];omega) rfl ?_ (fu hpo (lF S1.ok _ _))
  ·rw [(show dG (cst f es) es env' p (a+1)=Gp (cst f es) env' p (a+1) from by unfold dG;simp [hk])]
   unfold Gp;rw [S1.c];dsimp only [fF];rw [hf];dsimp only;rw [if_pos ⟨nG gu,by omega⟩]
  ·obtain ⟨f1,F1⟩:=F1
   refine fU.mk ho hx hE' (by omega) htl f1 fun s g hg0 es2 a2 bL hat hp2 hE2 hl2=>?_;obtain ⟨v1,d1,d2,d3,d4⟩:=F1.at hg0 hat hE2;refine ⟨p.T,?_,?_,Q2.refl _,hg⟩
   ·rw [(show fV (gW g es2) es2 bL {p with lb:=s} a2 (a2+1)=DW (gW g es2) bL {p with lb:=s} a2 (a2+1) from by unfold fV;simp [hk])]
    unfold DW;rw [d1];dsimp only [dB];unfold mV;rw [hf];dsimp only;rw [if_pos (d3.symm.oZ d4.fo)]
   ·rw [(show dG (cst g es2) es2 bL {p with lb:=s} (a2+1)=Gp (cst g es2) bL {p with lb:=s} (a2+1) from by unfold dG;simp [hk])]
    unfold Gp;rw [d2];dsimp only [fF];rw [hf];dsimp only;rw [if_pos ⟨nG gu,by omega⟩,j_ d3.symm]
omit ho in
theorem abl (hk:p.k=13) (hw:Xk (jm f es) env p a (a+1)=some (.ok (t,b))):∃x t',uT es (f+1) env' a b t x t':=by
 obtain ⟨u1,c,h1,hw⟩:=oh hw;have hm:aP p=1:=by unfold aP;simp [hk]
 have hE':env'.length<=900000:=by rw [<-hE.len];exact hl
 have hpo:=hI.ok p (Ox hp);have hes:=hI.len;obtain ⟨gT,lT⟩:=hx.1 (.inr (.inr (.inr (.inr hk))));split at hw
 rotate_left
 ·cases hw
 rename_i hag;injection hw with hw
 injection hw with hw
 injection hw with z1 z2
 subst z1 z2;obtain ⟨y1,t1,S1⟩:=hK _ _ _ _ h1 (yT hI hp (by omega) (by omega)) env' hE;have G1:=S1.gd;have hl1:=S1.lt;have hn1:=S1.ln;have n1:=bS y1 t1 p.T;have F1:=S1.full.to G1.gd gT (S1.q.ag (Q2.refl _) hag) hE' (by omega) lT;refine mg hI hp hE hl hx htl (x:=gP p.lb (toM y1 t1 p.T)) (t':=p.T) ?_ (Q2.refl _) hg (zm hp hm S1.e) ((S1.tr.to _ _).lb _) (by rw [sZ];omega) (VI _ (S1.tr.to _ _).ne) (F1.lb _) (Po (lF S1.ok _ _) _);rw [(show dG (cst f es) es env' p (a+1)=Ym (cst f es) env' p (a+1) from by unfold dG;simp [hk])];unfold Ym;rw [S1.c];rfl
theorem VO (hk:p.k=14) (hw:uF (jm f es) env p a (a+1)=some (.ok (t,b))):∃x t',uT es (f+1) env' a b t x t':=by
 obtain ⟨u1,c,h1,hw⟩:=oh hw;have hm:aP p=1:=by unfold aP;simp [hk]
 have hE':env'.length<=900000:=by rw [<-hE.len];exact hl
 have hpo:=hI.ok p (Ox hp);have hes:=hI.len;split at hw
 rotate_left
 ·cases hw
 rename_i hag;injection hw with hw
 injection hw with hw
 injection hw with z1 z2
 subst z1 z2;obtain ⟨y1,t1,S1⟩:=hK _ _ _ _ h1 (yT hI hp (by omega) (by omega)) env' hE;have G1:=S1.gd;have hl1:=S1.lt;have hn1:=S1.ln;refine mg hI hp hE hl hx htl (x:=p::y1) (t':=p.U) ?_ (Q2.refl _) hg (zm hp hm S1.e) (eH.cons (by rw [hm];exact S1.tr)) (by rw [mX];omega) rfl ?_ (fu hpo S1.ok)
 ·rw [(show dG (cst f es) es env' p (a+1)=wE (cst f es) env' p (a+1) from by unfold dG;simp [hk])]
  unfold wE;rw [S1.c];rfl
 ·obtain ⟨f1,F1⟩:=S1.full
  refine fU.mk ho hx hE' (by omega) htl f1 fun s g hg0 es2 a2 bL hat hp2 hE2 hl2=>?_;obtain ⟨v1,d1,d2,d3,d4⟩:=F1.at hg0 hat hE2;have hs:Q2 v1 p.T:=(S1.q.trans d3).symm.trans (same_iff.1 hag.1);refine ⟨p.U,?_,?_,Q2.refl _,hg⟩
  ·rw [(show fV (gW g es2) es2 bL {p with lb:=s} a2 (a2+1)=uF (gW g es2) bL {p with lb:=s} a2 (a2+1) from by unfold fV;simp [hk])]
   unfold uF;rw [d1];dsimp only [dB];rw [if_pos ⟨same_iff.2 hs,hag.2⟩]
  ·rw [(show dG (cst g es2) es2 bL {p with lb:=s} (a2+1)=wE (cst g es2) bL {p with lb:=s} (a2+1) from by unfold dG;simp [hk])]
   unfold wE;rw [d2];rfl
end
inductive Rf:Nat->List Nd->List Nd->Prop
 |nil:Rf 0 [] []
 |dyn {n:Nat} {x y:Nd} {ks rs oP:List Nd}:x.k=0->x.s=y.s->Fo (manyN y) ks->Rf n rs oP->Rf (n+1) (x::rs) (y::(ks++oP))
 |node {n:Nat} {x y:Nd} {ks zy rs oP:List Nd}:x.k≠0->x=y->Rf (manyN x) ks zy->Rf n rs oP->Rf (n+1) (x::(ks++rs)) (y::(zy++oP))
theorem oF {x:Nd} (h:x.k=0):manyN x=0:=by unfold manyN;rw [h,Ay];rfl
theorem Rf.fo {n:Nat} {xs ys:List Nd} (h:Rf n xs ys):Fo n xs/\Fo n ys:=by
 induction h with
 |nil=>exact ⟨Fo.zero,Fo.zero⟩
 |@dyn n x y ks rs oP h0 hs hf _ ih=>
  refine ⟨?_,hf.cons ih.2⟩
  exact Fo.cons (ks:=[]) (by rw [oF h0];exact Fo.zero) ih.1
 |node h0 hx _ _ ih1 ih2=>
  subst hx;exact ⟨ih1.1.cons ih2.1,ih1.2.cons ih2.2⟩
theorem Pp {n:Nat} {a b c d:List Nd} (h:Fo n a) (k:Fo n b) (e:a++c=b++d):a=b/\c=d:=by
 have h1:=h.pass c;have h2:=k.pass d;rw [e,h2] at h1;injection h1 with h1
 subst h1;exact ⟨List.append_cancel_right e,rfl⟩
theorem Rf.trans {n:Nat} {a b:List Nd} (h:Rf n a b):∀c,Rf n b c->Rf n a c:=by
 induction h with
 |nil=>intro c hc;exact hc
 |@dyn n x y ks rs oP h0 hs hf h1 ih=>
  intro c hc;generalize hb:y::(ks++oP)=b at hc
  cases hc with
  |@dyn _ x' z ks' rs' ZU k0 ks0 kf k1=>
   injection hb with e1 e2
   subst e1;have:ks=[]:=by rw [oF k0] at hf;exact hf.jy
   subst this;rw [aar] at e2;subst e2
   exact .dyn h0 (hs.trans ks0) kf (ih _ k1)
  |@node _ x' z ks' ako rs' ZU k0 kx k1 k2=>
   injection hb with e1 e2
   subst e1;subst kx;obtain ⟨e3,e4⟩:=Pp hf k1.fo.1 e2;subst e3 e4
   exact .dyn h0 hs k1.fo.2 (ih _ k2)
 |@node n x y ks zy rs oP h0 hx h1 h2 ih1 ih2=>
  intro c hc;subst hx;generalize hb:x::(zy++oP)=b at hc
  cases hc with
  |@dyn _ x' z ks' rs' ZU k0 ks0 kf k1=>
   injection hb with e1 e2
   subst e1
   exact absurd k0 h0
  |@node _ x' z ks' ako rs' ZU k0 kx k1 k2=>
   injection hb with e1 e2
   subst e1;subst kx;obtain ⟨e3,e4⟩:=Pp h1.fo.2 k1.fo.1 e2;subst e3 e4;exact .node h0 rfl (ih1 _ k1) (ih2 _ k2)
theorem Rf.refl:∀(N n:Nat) (xs:List Nd),xs.length<=N->Fo n xs->Rf n xs xs
 |_,0,xs,_,h=>by rw [h.jy];exact .nil
 |_,n+1,[],_,h=>absurd h.pos (by simp)
 |0,n+1,x::xt,hl,_=>by simp at hl
 |N+1,n+1,x::xt,hl,h=>by
  obtain ⟨ks,rs,rfl,f1,f2⟩:=h.za;simp at hl;by_cases h0:x.k=0
  ·have:ks=[]:=by rw [oF h0] at f1;exact f1.jy
   subst this;exact .dyn h0 rfl f1 (Rf.refl N n rs (by omega) f2)
  ·exact .node h0 rfl (Rf.refl N _ ks (by omega) f1) (Rf.refl N n rs (by omega) f2)
theorem Rf.app {j:Nat} {a b:List Nd} (h:Rf j a b):∀{n:Nat} {c d:List Nd},Rf n c d->Rf (j+n) (a++c) (b++d):=by
 induction h with
 |nil=>intro n c d hc;rw [Nat.zero_add];exact hc
 |@dyn j x y ks rs oP h0 hs hf _ ih=>
  intro n c d hc;rw [show j+1+n=(j+n)+1 by omega,rM,rM,kE]
  exact .dyn h0 hs hf (ih hc)
 |@node j x y ks zy rs oP h0 hx h1 _ _ ih2=>
  intro n c d hc;rw [show j+1+n=(j+n)+1 by omega,rM,rM,kE,kE];exact .node h0 hx h1 (ih2 hc)
theorem Rf.met {n:Nat} {xs ys:List Nd} (h:Rf n xs ys):∃r,Go.Proofs.YtmjdhfbnmmdjiaaGreat.met n xs ys=some r:=by
 induction h with
 |nil=>exact ⟨[],jk _ _⟩
 |@dyn n x y ks rs oP h0 hs hf h1 ih=>
  obtain ⟨r,hr⟩:=ih;have e1:cZ (x::rs)=rs:=iN (ts:=[x]) (Fo.cons (n:=0) (ks:=[]) (rs:=[]) (by rw [oF h0];exact Fo.zero) Fo.zero)
  have QN:Fo 1 (y::ks):=by
   have:=hf.cons Fo.zero;rw [lI] at this;exact this
  have e2:cZ (y::(ks++oP))=oP:=iN (ts:=y::ks) QN;rw [jJ,if_neg (by simp [hs]),if_pos (.inl h0),e1,e2,hr]
  exact ⟨_,rfl⟩
 |@node n x y ks zy rs oP h0 hx h1 h2 ih1 ih2=>
  subst hx;obtain ⟨r1,hr1⟩:=ih1;obtain ⟨r2,hr2⟩:=ih2;rw [jJ,if_neg (by simp),if_neg (by simp [h0]),if_neg (by simp),xI ks.length (manyN x) n ks zy rs oP (aG _) h1.fo.1 h1.fo.2,hr1,hr2];exact ⟨_,rfl⟩
theorem abm {x y:Nd} (h1:x.k=y.k) (h2:x.s=y.s) (h3:x.n=y.n):x=y:=by
 obtain ⟨k,s,n⟩:=x;obtain ⟨k',s',n'⟩:=y;dsimp only at h1 h2 h3;subst h1 h2 h3;rfl
theorem MP:∀(N n:Nat) (xs ys m:List Nd),xs.length<=N->Fo n xs->Fo n ys->met n xs ys=some m->Rf n xs m/\Rf n ys m
 |_,0,xs,ys,m,_,h1,h2,hm=>by
  rw [jk] at hm;injection hm with hm
  subst hm;rw [h1.jy,h2.jy]
  exact ⟨.nil,.nil⟩
 |0,n+1,xs,ys,m,hl,h1,_,_=>by
  have:=h1.pos
  omega
 |N+1,n+1,xs,ys,m,hl,h1,h2,hm=>by
  obtain ⟨t1,r1,rfl,f1,g1⟩:=h1.first;obtain ⟨t2,r2,rfl,f2,g2⟩:=h2.first;have ht1:=f1.pos;rw [jX] at hl;rw [pX f1 f2] at hm
  cases ha:met 1 t1 t2 with
  |none=>rw [ha] at hm;cases hm
  |some a=>
   cases hr:met n r1 r2 with
   |none=>rw [ha,hr] at hm;cases hm
   |some r=>
    rw [ha,hr] at hm;simp only [Option.bind_some,aaL,Option.some.injEq] at hm;subst hm;obtain ⟨b2,b3⟩:=MP N n r1 r2 r (by omega) g1 g2 hr
    have key:Rf 1 t1 a/\Rf 1 t2 a:=by
     match t1,t2,f1,f2,ha,hl with
     |[],_,f1,_,_,_=>exact absurd f1.pos (by simp)
     |_::_,[],_,f2,_,_=>exact absurd f2.pos (by simp)
     |x::k1,y::k2,f1,f2,ha,hl=>
      have e1:=f1.kids;have e2:=f2.kids;by_cases hs:x.s=y.s
      ·by_cases h0:x.k=0\/y.k=0
       ·rw [u7 f1 f2 hs h0] at ha
        injection ha with ha
        by_cases hy:y.k=0
        ·rw [if_pos hy] at ha
         subst ha;have:k2=[]:=by rw [oF hy] at e2;exact e2.jy
         subst this;refine ⟨Rf.refl _ 1 _ (aG _) f1,?_⟩;have:=Rf.dyn (n:=0) (rs:=[]) (oP:=[]) hy hs.symm e1 .nil;rw [lI] at this;exact this
        ·rw [if_neg hy] at ha
         subst ha;have hx0:x.k=0:=h0.resolve_right hy;have:k1=[]:=by rw [oF hx0] at e1;exact e1.jy
         subst this;refine ⟨?_,Rf.refl _ 1 _ (aG _) f2⟩;have:=Rf.dyn (n:=0) (rs:=[]) (oP:=[]) hx0 hs e2 .nil;rw [lI] at this;exact this
       ·by_cases hk:x.k≠y.k\/x.n≠y.n
        ·rw [Fp hs h0 hk] at ha
         cases ha
        ·have hk2:x.k=y.k:=aal fun h=>hk (.inl h)
         have hn2:x.n=y.n:=aal fun h=>hk (.inr h);have hxy:x=y:=abm hk2 hs hn2;subst hxy;rw [pW hs h0 hk2 hn2] at ha
         cases hq:met (manyN x) k1 k2 with
         |none=>rw [hq] at ha;cases ha
         |some q=>
          rw [hq] at ha;simp only [aaL,Option.some.injEq] at ha;subst ha;obtain ⟨d2,d3⟩:=MP N (manyN x) k1 k2 q (by simp at hl;omega) e1 e2 hq;have hx0:x.k≠0:=fun h=>h0 (.inl h);have z1:=Rf.node (n:=0) (rs:=[]) (oP:=[]) hx0 rfl d2 .nil;have z2:=Rf.node (n:=0) (rs:=[]) (oP:=[]) hx0 rfl d3 .nil;simp only [lI] at z1 z2;exact ⟨z1,z2⟩
      ·rw [Fq hs] at ha
       cases ha
    rw [iK];exact ⟨key.1.app b2,key.2.app b3⟩
theorem Ko:∀(ts:List (List Nd)) (t m:List Nd) (a:Nat),Gd t->(∀u∈ts,Gd u)->bT a t ts=some (.ok m)->Rf 1 t m/\(∀u∈ts,Rf 1 u m)/\Gd m
 |[],t,m,a,hg,_,h=>by
  unfold bT at h;injection h with h
  injection h with h
  subst h
  exact ⟨Rf.refl _ 1 _ (aG _) hg.fo,(fun u hu=>by cases hu),hg⟩
 |u::ts,t,m,a,hg,hu,h=>by
  unfold bT at h
  cases h1:met 1 t u with
  |none=>rw [h1] at h;cases h
  |some m1=>
   rw [h1] at h;dsimp only at h;split at h
   ·rename_i hg1
    obtain ⟨k1,k2⟩:=MP _ 1 t u m1 (aG _) hg.fo (hu u (by simp)).fo h1;obtain ⟨j1,j2,j3⟩:=Ko ts m1 m a hg1 (fun v hv=>hu v (by simp [hv])) h;refine ⟨k1.trans _ j1,fun v hv=>?_,j3⟩;rcases oJ.1 hv with rfl|hv
    ·exact k2.trans _ j1
    ·exact j2 v hv
   ·cases h
theorem Rf.ag {t m:List Nd} (h:Rf 1 t m):jA t m=true:=by
 obtain ⟨r,hr⟩:=h.met;unfold jA;rw [hr];rfl
theorem VP {s:ByteArray} {t:List Nd} (h:bI t):bI (gZ s t):=by
 cases t with
 |nil=>exact h
 |cons x xt=>
  intro y hy;rcases oJ.1 hy with rfl|hy
  ·exact h x (by simp)
  ·exact h y (by simp [hy])
theorem TT {k:Int} {fs:List eT} (hn:(fs.map (·.1)).Nodup) (h:∀p∈fs,bI p.2) (ho:dR k (fs.length:Int)=true):bI (eG k fs):=by
 obtain ⟨h1,_⟩:=qw fs hn;intro x hx;unfold eG at hx;rcases oJ.1 hx with rfl|hx
 ·exact ho
 ·obtain ⟨p,hp,hx⟩:=List.mem_flatMap.1 hx
  exact VP (h p (h1.subset hp)) x hx
theorem Kq {env:Env}:∀(Xs:List (List Pt×List Nd)),(∀e∈Xs,fU env e.1 e.2)->∃f0,∀e∈Xs,qE f0 env e.1 e.2
 |[],_=>⟨0,fun e he=>by cases he⟩
 |e::Xs,h=>by
  obtain ⟨f1,h1⟩:=h e (by simp);obtain ⟨f2,h2⟩:=Kq Xs fun x hx=>h x (by simp [hx]);refine ⟨f1+f2,fun x hx=>?_⟩;rcases oJ.1 hx with rfl|hx
  ·exact h1.mono (by omega)
  ·exact (h2 x hx).mono (by omega)
abbrev nH (Xs:List (List Pt×List Nd)):List Pt:=(Xs.map (·.1)).flatten
abbrev wU (Xs:List (List Pt×List Nd)):List eT:=Xs.map fun e=>(ng e.1,e.2)
theorem BU {env':Env} {f0:Nat}:∀(Xs:List (List Pt×List Nd)) (g:Nat) (es2:List Pt) (a2:Nat) (bL:Env) (xs:List Pt) (fs:List eT),f0<=g->(∀e∈Xs,qE f0 env' e.1 e.2/\eH 1 e.1)->At es2 a2 (nH Xs)->gI env' bL->
  ∃gs2,f_ (gW g es2) es2 bL Xs.length a2 fs=some (.ok (fs++gs2,a2+(nH Xs).length))/\gy (cst g es2) es2 bL Xs.length a2 xs fs=some (xs++nH Xs,fs++gs2,a2+(nH Xs).length)/\QF (wU Xs) gs2/\∀p∈gs2,Gd p.2
 |[],g,es2,a2,bL,xs,fs,_,_,_,_=>⟨[],by simp [f_],by simp [gy],rfl,fun p hp=>by cases hp⟩
 |e::Xs,g,es2,a2,bL,xs,fs,hg,hX,hat,hE=>by
  obtain ⟨F,T⟩:=hX e (by simp);have Bc:At es2 a2 (e.1++nH Xs):=hat;obtain ⟨v,d1,d2,d3,d4⟩:=F.at hg Bc.left hE;have hne:=T.ne;have hlb:=Bc.left.lb hne
  obtain ⟨q,hq⟩:∃q,es2[a2]?=some q:=by
   cases hx:e.1 with
   |nil=>exact absurd hx hne
   |cons p x=>
    have h5:=Bc.left;rw [hx] at h5;exact ⟨p,h5.head⟩
  have hlq:q.lb=ng e.1:=by
   rw [<-hlb];unfold wI;rw [hq];rfl
  obtain ⟨gs2,k1,k2,k3,k4⟩:=BU Xs g es2 (a2+e.1.length) bL (xs++e.1) (fs++[(q.lb,v)]) hg (fun x hx=>hX x (by simp [hx])) Bc.right hE;have hfl:(nH (e::Xs)).length=e.1.length+(nH Xs).length:=by simp [nH]
  refine ⟨(q.lb,v)::gs2,?_,?_,?_,?_⟩
  ·rw [mX]
   unfold f_;rw [hq];dsimp only;rw [d1];dsimp only;rw [k1,hfl,kE,aaS];rfl
  ·rw [mX]
   unfold gy;rw [hq];dsimp only;rw [d2];dsimp only;rw [k2,hfl,kE,kE,aaS];rfl
  ·unfold QF vL at*
   rw [hlq];show (ng e.1,aH e.2)::_=(ng e.1,aH v)::_;rw [show aH e.2=aH v from d3]
   congr 1
  ·intro p hp
   rcases oJ.1 hp with rfl|hp
   ·exact d4
   ·exact k4 p hp
section
variable {es:List Pt} {f:Nat} {env env':Env}
theorem Eh (hK:AJ es f) (hE:gI env env'):∀(n a:Nat) (fs fs':List eT) (xs:List Pt) (gs:List eT) (b:Nat) (l:List Nat),f_ (jm f es) es env n a fs=some (.ok (gs,b))->dF es n a=some l->(∀i∈l,∀q,es[i]?=some q->q.k≠8)->QF fs fs'->
  ∃Xs:List (List Pt×List Nd),Xs.length=n/\gy (cst f es) es env' n a xs fs'=some (xs++nH Xs,fs'++wU Xs,b)/\QF gs (fs'++wU Xs)/\EA es n a b/\eH n (nH Xs)/\(nH Xs).length<=2*(b-a)/\a<=b/\dZ (nH Xs)/\∀e∈Xs,eH 1 e.1/\fU env' e.1 e.2/\Gd e.2
 |0,a,fs,fs',xs,gs,b,l,h,_,_,hq=>by
  unfold f_ at h;injection h with h
  injection h with h
  injection h with h1 h2
  subst h1 h2
  exact ⟨[],rfl,by simp [gy],by simpa using hq,by unfold EA;exact wH _ _,eH.nil,by simp,aG _,fun q hq=>by simp at hq,fun e he=>by cases he⟩
 |n+1,a,fs,fs',xs,gs,b,l,h,hkd,h8,hq=>by
  unfold f_ at h;split at h
  ·cases h
  rename_i x hx
  cases h1:jm f es env a with
  |none=>rw [h1] at h;cases h
  |some y=>
   rw [h1] at h
   match y,h1,h with
   | .error _,_,h=>cases h
   | .ok (t,c),h1,h=>
    dsimp only at h
    have ha:a∈l:=by
     unfold dF at hkd;split at hkd
     ·cases hkd
     ·rw [Option.map_eq_some_iff] at hkd
      obtain ⟨l2,_,rfl⟩:=hkd;simp
    obtain ⟨y,t',S⟩:=hK _ _ _ _ h1 (h8 a ha) env' hE;obtain ⟨l2,rfl,hk2⟩:=qx hkd S.e
    have hlb:ng y=x.lb:=by
     rw [S.lb];unfold wI;rw [hx];rfl
    obtain ⟨Xs,k1,k2,k3,k4,k5,k6,k7,k8,k9⟩:=Eh hK hE n c (fs++[(x.lb,t)]) (fs'++[(x.lb,t')]) (xs++y) gs b l2 h hk2 (fun i hi=>h8 i (by simp [hi])) (hq.snoc S.q);have hlt:=S.lt;have hln:=S.ln;refine ⟨(y,t')::Xs,by simp [k1],?_,?_,S.e.join k4,?_,?_,by omega,?_,?_⟩
    ·unfold gy
     rw [hx];dsimp only;rw [S.c];dsimp only;rw [k2,kE,kE,<-hlb];rfl
    ·rw [kE,<-hlb] at k3
     exact k3
    ·show eH (n+1) (y++nH Xs)
     rw [iK];exact S.tr.app k5
    ·show (y++nH Xs).length<=_
     rw [jX];omega
    ·exact m_ S.ok k8
    ·intro e he
     rcases oJ.1 he with rfl|he
     ·exact ⟨S.tr,S.full,S.gd.gd⟩
     ·exact k9 e he
end
section
variable {es:List Pt} {f:Nat} {env env':Env} {a b:Nat} {p:Pt} {t:List Nd}
variable (hI:MN es) (hK:AJ es f) (hp:es[a]?=some p) (hE:gI env env') (hl:env.length<=900000) (ho:qO p) (hx:yQ p) (hg:Gd t) (htl:t.length<=5000000)
include hI hK hp hE hl ho hx hg htl
theorem VQ (hk:p.k=10) (hw:sM (jm f es) es env p (a+1)=some (.ok (t,b))):∃x t',uT es (f+1) env' a b t x t':=by
 have hE':env'.length<=900000:=by rw [<-hE.len];exact hl
 have hpo:=hI.ok p (Ox hp);have hes:=hI.len;have hm:aP p=p.mn.toNat:=by unfold aP;simp [hk]
 unfold sM at hw;split at hw
 rotate_left
 ·cases hw
 rename_i hmn
 cases hr:f_ (jm f es) es env p.mn.toNat (a+1) [] with
 |none=>rw [hr] at hw;cases hw
 |some y=>
  rw [hr] at hw
  match y,hr,hw with
  | .error _,_,hw=>cases hw
  | .ok (gs,c),hr,hw=>
   dsimp only at hw;split at hw
   rotate_left
   ·cases hw
   rename_i hbr;injection hw with hw
   injection hw with hw
   injection hw with z1 z2
   subst z1 z2;obtain ⟨l,hl1,hl2⟩:=hI.kids a p hp;rw [hm] at hl1
   obtain ⟨Xs,k1,k2,k3,k4,k5,k6,k7,k8,k9⟩:=Eh hK hE p.mn.toNat (a+1) [] [] [p] gs c l hr hl1 (fun i hi q hq h8=>by
    obtain ⟨j,hj⟩:=List.getElem?_of_mem hi;have:=(hl2.kind j i q hj hq).1 h8;omega) rfl
   rw [aar] at k2 k3;have hlab:=k3.acL
   have hlen:gs.length=(wU Xs).length:=by
    have:=congrArg List.length hlab;simpa using this
   have Nq:jQ 6 ((wU Xs).map (·.1)) (wU Xs).length=false/\((wU Xs).map (·.1)).Nodup:=by rw [<-hlab,<-hlen];exact hbr
   have qr:Q2 (eG 6 gs) (eG 6 (wU Xs)):=k3.row (by decide);have ho6:dR 6 (gs.length:Int)=true:=hg.ok ⟨6,bZ,(gs.length:Int)⟩ (by unfold eG;exact List.mem_cons_self ..)
   have gr:Gd (eG 6 (wU Xs)):=qr.gd hg (TT Nq.2 (fun q hq=>by
    obtain ⟨e,he,rfl⟩:=List.mem_map.1 hq;exact (k9 e he).2.2.ok) (by rw [<-hlen];exact ho6))
   have hlt:=k4.lt;refine mg hI hp hE hl hx htl (x:=p::nH Xs) (t':=eG 6 (wU Xs)) ?_ qr gr (EA.close hp (by rw [hm];exact k4)) (eH.cons (by rw [hm];exact k5)) (by rw [mX];omega) rfl ?_ (fu hpo k8)
   ·rw [(show dG (cst f es) es env' p (a+1)=uP (cst f es) es env' p (a+1) from by unfold dG;simp [hk])]
    unfold uP;rw [if_pos hmn,k2];dsimp only;rw [if_pos Nq];rfl
   ·obtain ⟨f0,F⟩:=Kq Xs fun e he=>(k9 e he).2.1
    refine fU.mk ho hx hE' (by omega) (by rw [<-qr.len];exact htl) f0 fun s g hg0 es2 a2 bL hat hp2 hE2 hl2=>?_;have akr:At es2 (a2+1) (nH Xs):=hat;obtain ⟨gs2,m1,m2,m3,m4⟩:=BU Xs g es2 (a2+1) bL [{p with lb:=s}] [] hg0 (fun e he=>⟨F e he,(k9 e he).1⟩) akr hE2;rw [aar,k1] at m1 m2;have ZV:=m3.acL
    have Ct:(wU Xs).length=gs2.length:=by
     have:=congrArg List.length ZV;simpa using this
    have ZW:jQ 6 (gs2.map (·.1)) gs2.length=false/\(gs2.map (·.1)).Nodup:=by rw [<-ZV,<-Ct];exact Nq
    have qr2:Q2 (eG 6 (wU Xs)) (eG 6 gs2):=m3.row (by decide);have gr2:Gd (eG 6 gs2):=qr2.gd gr (TT ZW.2 (fun q hq=>(m4 q hq).ok) (by rw [<-Ct,<-hlen];exact ho6));refine ⟨eG 6 gs2,?_,?_,qr2,gr2⟩
    ·rw [(show fV (gW g es2) es2 bL {p with lb:=s} a2 (a2+1)=sM (gW g es2) es2 bL {p with lb:=s} (a2+1) from by unfold fV;simp [hk])]
     unfold sM;dsimp only;rw [if_pos hmn,m1];dsimp only;rw [if_pos ZW]
    ·rw [(show dG (cst g es2) es2 bL {p with lb:=s} (a2+1)=uP (cst g es2) es2 bL {p with lb:=s} (a2+1) from by unfold dG;simp [hk])]
     unfold uP;dsimp only;rw [if_pos hmn,m2];dsimp only;rw [if_pos ZW];rfl
end
end Go.Proofs.YtmjdhfbnmmdjiaaGreat
