/- Laid together by a tool from the texts of this seat: UniT UniU UniV UniW Sit UniX UniY UniZ RefA RefB RefC RefD RefE. Conditions: each theorem's own. -/
import Derived.Test.YtblfeokjlecgkaaV06
import Derived.Test.YtblfeokjlecgkaaV02
namespace Go.Proofs.Ytblfeokjlecgkaa
open _root_.ByteArray renaming empty->pR
open _root_.List renaming mem_map->aaN,length_append->A_,length_map->aaT,mem_cons_of_mem->abr,mem_append->JQ,append_nil->ER,length_cons->Bl,map_map->abL,map_cons->Bn,nodup_append->aa6,pairwise_map->acK,zip_cons_cons->abF,length->RB,map_congr_left->Vg,map_nil->abM,flatten_cons->Ry,mem_cons->Gz,eq_nil_of_length_eq_zero->kZ,mem_append_right->acZ,flatten_nil->aan,length_singleton->ac1,all_eq_true->SI,map_eq_nil_iff->ada,flatten_append->WS,length_nil->adb,cons_append->Gx,Pairwise->abn,mem_append_left->aaR
open _root_.Bool renaming and_eq_true->DC,or_eq_true->Vh
open _root_.Nat renaming le_refl->bN
open _root_.Option renaming isSome_map->acX,map_eq_some_iff->ac4
open Go.ByteArray renaming toList_eq->yH
def boolT:Ut:=.mk 2 0 [] none
def tV:Ut:=.mk 4 0 [] none
def Ll:Ut:=.mk 0 0 [] none
def fI (k n:Int):Nd:=⟨k,pR,n⟩
def rW:List Nd:=[fI 5 0,fI 8 0,fI 0 0]
def rX:List Nd:=[fI 5 0,fI 1 0,fI 2 0]
def mE:List Lb:=[lA,lB,pR]
theorem jN:ko rW/\ko rX/\ko [fI 8 0]/\ko [fI 4 0]:=
 ⟨(tT (by rfl)).1,(tT (by rfl)).1,(tT (by rfl)).1,(tT (by rfl)).1⟩
theorem tX:dI rW=Jp (aS 0) Ll/\dI rX=Jp oz boolT/\dI [fI 8 0]=aS 0/\dI [fI 4 0]=tV:=by
 refine ⟨rfl,rfl,rfl,rfl⟩
theorem lV:Told mE 1 (dI rW)/\Told mE 1 (dI rX)/\Told mE 1 (dI [fI 8 0])/\Told mE 1 (dI [fI 4 0]):=by
 have hA:lA∈mE:=by simp [mE]
 have hB:lB∈mE:=by simp [mE]
 refine ⟨Ce hA hB jN.1 ?_ ?_,Ce hA hB jN.2.1 ?_ ?_,Ce hA hB jN.2.2.1 ?_ ?_,Ce hA hB jN.2.2.2 ?_ ?_⟩<;>simp [rW,rX,mE,fI,nM]
theorem OE {U:List Lb} {m0:Int} {a b:Ut} (ha:Told U m0 a) (hb:Told U m0 b):Low m0 (bF a b):=fun τ τ' h hc=>by
 unfold bF at hc ⊢
 rwa [<-ha.no.inst h,<-hb.no.inst h]
theorem Jq:¬Bad 1 fun τ=>True/\bF (dI rW) (dI rX) τ:=by
 refine Lh ((Low.true 1).and (OE lV.1 lV.2.1)) (τ:=⟨fun _=>oz,Va.id.t⟩) (fun n _=>Li) ⟨trivial,?_⟩ (fun n _ _=>?_)
 ·rw [tX.1,tX.2.1]
  unfold bF;rw [Du,Du,aW,Yc];refine ⟨?_,?_⟩
  ·have:inst ⟨fun _=>oz,Va.id.t⟩ oz=oz:=Ci _ oz (by rw [oz,bU];exact ⟨(bU.1 (EB (tT (T:=[fI 1 0]) (by rfl)).1)).1,fun p hp=>by cases hp⟩) (by rw [oz,jF];simp)
   rw [this];exact Co.refl _
  ·have h1:inst ⟨fun _=>oz,Va.id.t⟩ Ll=Ll:=Ci _ Ll (EB (tT (T:=[fI 0 0]) (by rfl)).1) (by rw [Ll,jF];simp)
   rw [h1];exact .dl _ _ _ _
 ·show jL oz<=10000/\lY oz<=100
  unfold oz;rw [iW,jS,ou,rV];simp
theorem Jr {k:Int} (h:kY [fI k 0]=true) (h8:k≠8) (h5:k≠5) (hr:av k=false) (τ:Va):inst τ (.mk k 0 [] none)= .mk k 0 [] none:=by
 have hu:dI [fI k 0]= .mk k 0 [] none:=by
  have tr:Trees (manyN (fI k 0)) ([]:List (List Nd)).flatten []:=by
   have:manyN (fI k 0)=0:=by
    unfold manyN many fI;rw [if_neg h5,hr];rfl
   rw [this];exact ⟨rfl,rfl,fun ts hts=>by cases hts⟩
  have:=jM tr;simp only [aan] at this;rw [this];show Ut.mk k (if k=8 then 0 else 0) ((jk k (bI [])).zip ((bI []).map dI)) (u6 [])=_;rw [if_neg h8];simp [bI,gN,u6,jA]
 rw [<-hu];refine Ci τ _ (EB (tT h).1) ?_;rw [hu,jF];exact ⟨fun e=>absurd e h8,rfl,fun c hc=>by cases hc⟩
theorem OG (τ:Va):inst τ oz=oz:=Jr (by rfl) (by decide) (by decide) rfl τ
theorem Wo (τ:Va):inst τ tV=tV:=Jr (by rfl) (by decide) (by decide) rfl τ
theorem Ql {S S':Kn} (hL:S.L 0=none) (hm:0<S.m) (s:Step S S' (bF (dI rW) (dI rX))):S'.σ.v 0=oz:=by
 have:=s.co _ s.inv.sat;rw [tX.1,tX.2.1] at this;unfold bF at this;rw [Du,Du,aW,OG,Yc] at this;have oA:=s.inv.wf.ok.v 0 (by rw [s.le.L 0 hm];exact hL);exact this.1.eq oA.1 Li.1 oA.2 Li.2
theorem ZH {S S':Kn} (h:S.Inv) (hL:S.L 0=none) (hk:S.σ.v 0=oz) (s:Step S S' (bF (dI [fI 8 0]) (dI [fI 4 0]))):False:=by
 have h1:=s.co _ s.inv.sat;rw [tX.2.2.1,tX.2.2.2] at h1;unfold bF at h1;rw [aW,Wo] at h1;obtain ⟨τ,h2,ha⟩:=s.le.sat _ s.inv.sat;have h3:=h.gen τ h2.1 h2.2 (aS 0) (pV hL);rw [aW,aW,hk,OG] at h3
 have hlt:0<S.m:=by
  rcases Int.lt_or_le 0 S.m with g|g
  ·exact g
  ·exfalso
   have:=h.unk 0 (h.free g);rw [hk] at this;have h4:=this.1;unfold oz aS at h4;injection h4 with h4
   exact absurd h4 (by decide)
 have h4:=(ha 0 hlt).1;rw [h4,<-h3] at h1;unfold oz tV at h1
 cases h1
structure oC (U:List Lb) (m0:Int) (l:List Stp) (S:Kn):Prop where
 run:Run U m0 (mM l) S
 m:S.m+(S.un:Int)<=2*m0+1000*(l.length:Nat)
theorem oC.start (U:List Lb) {m0:Int} (h0:0<=m0):oC U m0 [] (Kn.zero m0):=
 ⟨(Run.start U h0).congr fun τ=>⟨fun _ x hx=>by simp at hx,fun _=>trivial⟩,by rw [Ld h0];show m0+m0<=_;simp;omega⟩
theorem oC.low {U:List Lb} {m0:Int} {l:List Stp} {S:Kn} (h:oC U m0 l S):m0<=S.m/\∀x,x<m0->S.L x=none:=⟨h.run.most.m,h.run.most.sort⟩
theorem oC.pair {U:List Lb} {m0:Int} {l:List Stp} {S S':Kn} {x:Stp} (h:oC U m0 l S) (g:GoodS U m0 x) (hx:x.l.size=0) (d:Done U S S' (bF (dI x.a) (dI x.b)) (aJ (dI x.a)+aJ (dI x.b))):
  (fK m0 S'->oC U m0 (l++[x]) S')/\(¬fK m0 S'->Bad m0 (mM (l++[x]))):=by
 have hc:x.cst= .pair (dI x.a) (dI x.b):=if_pos hx;have hl:Low m0 (bF (dI x.a) (dI x.b)):=by have:=g.low;rw [hc] at this;exact this
 have e:∀τ,(mM l τ/\bF (dI x.a) (dI x.b) τ)↔mM (l++[x]) τ:=fun τ=>by rw [wS,hc];rfl
 obtain ⟨g1,g2,g3,g4⟩:=g.pair hx;have d1:=qh g1;have d2:=qh g2;refine ⟨fun hf=>⟨(h.run.next d.kg d.st hl hf).congr e,?_⟩,fun hf=>?_⟩
 ·have h1:=d.m
  have h2:=h.m;simp only [A_,ac1];omega
 ·have:=h.run.big d.st hl hf
  rwa [show (fun τ=>mM l τ/\bF (dI x.a) (dI x.b) τ)=mM (l++[x]) from funext fun τ=>propext (e τ)] at this
theorem oC.ahh {U:List Lb} {m0:Int} {l:List Stp} {S:Kn} {x:Stp} (h:oC U m0 l S) (g:GoodS U m0 x) (hx:x.l.size=0) (d:pX S (dI x.a) (dI x.b)):Bad m0 (mM (l++[x])):=by
 have hc:x.cst= .pair (dI x.a) (dI x.b):=if_pos hx;have hl:Low m0 (bF (dI x.a) (dI x.b)):=by have:=g.low;rw [hc] at this;exact this
 have e:∀τ,(mM l τ/\bF (dI x.a) (dI x.b) τ)↔mM (l++[x]) τ:=fun τ=>by rw [wS,hc];rfl
 have:=h.run.dis d hl
 rwa [show (fun τ=>mM l τ/\bF (dI x.a) (dI x.b) τ)=mM (l++[x]) from funext fun τ=>propext (e τ)] at this
theorem oC.opn {U:List Lb} {m0:Int} {l:List Stp} {S S':Kn} {x:Stp} (h:oC U m0 l S) (g:GoodS U m0 x) (hx:x.l.size≠0) (d:Done U (S.aQ [x.l]) S' (bF (aS x.n) (fV x.k x.l x.m S.m)) (aJ (aS x.n)+aJ (fV x.k x.l x.m S.m))):
  (fK m0 S'->oC U m0 (l++[x]) S')/\(¬fK m0 S'->Bad m0 (mM (l++[x]))):=by
 have hc:x.cst= .opn x.k x.l x.n x.m:=if_neg hx;have gc:=g.c;have hl:=g.low;rw [hc] at gc hl;have e:∀τ,(mM l τ/\(yA.opn x.k x.l x.n x.m).holds τ)↔mM (l++[x]) τ:=fun τ=>by rw [wS,hc]
 have st:=Wj gc h.run.kg h.low.2 h.low.1 d.st
 have hk:x.k≠0:=by
  intro e;have h1:av x.k=true:=gc.1;rw [e] at h1
  cases h1
 have hd:aJ (aS x.n)+aJ (fV x.k x.l x.m S.m)=0:=by
  simp [fV,aS,kE,cB,lK];exact hk
 refine ⟨fun hf=>⟨(h.run.next d.kg st hl hf).congr e,?_⟩,fun hf=>?_⟩
 ·have h1:=d.m
  have h2:=h.m;have h3:=zV h.run.kg.inv h.run.kg.nn [x.l];have h4:(S.aQ [x.l]).m=S.m+1:=rfl;rw [hd] at h1;simp only [A_,ac1];omega
 ·have:=h.run.big st hl hf
  rwa [show (fun τ=>mM l τ/\(yA.opn x.k x.l x.n x.m).holds τ)=mM (l++[x]) from funext fun τ=>propext (e τ)] at this
theorem oC.ajA {U:List Lb} {m0:Int} {l:List Stp} {S:Kn} {x:Stp} (h:oC U m0 l S) (g:GoodS U m0 x) (hx:x.l.size≠0) (d:pX (S.aQ [x.l]) (aS x.n) (fV x.k x.l x.m S.m)):Bad m0 (mM (l++[x])):=by
 have hc:x.cst= .opn x.k x.l x.n x.m:=if_neg hx;have gc:=g.c;have hl:=g.low;rw [hc] at gc hl;have e:∀τ,(mM l τ/\(yA.opn x.k x.l x.n x.m).holds τ)↔mM (l++[x]) τ:=fun τ=>by rw [wS,hc]
 have:=h.run.dis (ZA gc h.run.kg h.low.2 h.low.1 d) hl
 rwa [show (fun τ=>mM l τ/\(yA.opn x.k x.l x.n x.m).holds τ)=mM (l++[x]) from funext fun τ=>propext (e τ)] at this
def u7 (t:List Nd) (next:Int):Bool:=Jc t 30&&t.all (nM next)
def rY (next:Int) (x:Stp):Bool:=
 if x.l.size≠0 then decide (x.l.size<=50)&&((x.k==6||x.k==7)&&(iR [⟨x.k,pR,1⟩,⟨1,x.l,0⟩]&&(decide (0<=x.n)&&decide (x.n<next)&&(decide (0<=x.m)&&decide (x.m<next)))))
 else u7 x.a next&&u7 x.b next
def z8 (next:Int) (l:List Stp):Bool:=decide (0<=next)&&decide (next<=8)&&(decide (l.length<=12)&&l.all (rY next))
theorem ZI {k:Int} {l:Lb} (hk:av k=true) (h:kY [⟨k,pR,1⟩,⟨1,l,0⟩]=true):bV k l=true:=by
 have g:=(tT h).1;generalize hT:([⟨k,pR,1⟩,⟨1,l,0⟩]:List Nd)=T at g
 cases g with
 |mk x aG ok k9 tr ch row els tl=>
  injection hT with h1 h2
  subst h1
  have hm:manyN (⟨k,pR,1⟩:Nd)=1:=by
   unfold av at hk;simp only [Vh,beq_iff_eq] at hk;rcases hk with rfl|rfl<;>rfl
  have e:=tr.uniq;rw [hm,<-h2] at e;have e2:aG=[[⟨1,l,0⟩]]:=by rw [e];rfl
  subst e2
  have:=(row hk).2 l (by
   show l∈dW (bI [[⟨1,l,0⟩]]);simp [bI,gN,dW,bB])
  exact this
theorem z_ {U:List Lb} {t:List Nd} {next:Int} (hA:lA∈U) (hB:lB∈U) (hU:∀x∈t,x.s∈U) (h:u7 t next=true):Told U next (dI t)/\ko t/\t.length<=30/\kY t=true/\∀x∈t,nM next x=true:=by
 unfold u7 at h;rw [DC,SI] at h;obtain ⟨h1,_,h3⟩:=Jd h.1;rw [right_eq] at h3;exact ⟨Ce hA hB (tT h3).1 hU h.2,(tT h3).1,by omega,h3,h.2⟩
def tY (l:List Stp):List Lb:=lA::lB::l.flatMap fun x=>x.l::(if x.l.size=0 then x.a.map Nd.s++x.b.map Nd.s else [])
theorem Wp {l:List Stp} {x:Stp} (hx:x∈l):x.l∈tY l/\(x.l.size=0->(∀y∈x.a,y.s∈tY l)/\∀y∈x.b,y.s∈tY l):=by
 unfold tY;refine ⟨?_,fun e=>⟨fun y hy=>?_,fun y hy=>?_⟩⟩
 all_goals
  refine abr _ (abr _ (List.mem_flatMap.2 ⟨x,hx,?_⟩))
 ·simp
 ·rw [if_pos e]
  exact abr _ (JQ.2 (.inl (aaN.2 ⟨y,hy,rfl⟩)))
 ·rw [if_pos e]
  exact abr _ (JQ.2 (.inr (aaN.2 ⟨y,hy,rfl⟩)))
theorem Qm {U:List Lb} {next:Int} {x:Stp} (hA:lA∈U) (hB:lB∈U) (hl:x.l∈U) (hab:x.l.size=0->(∀y∈x.a,y.s∈U)/\∀y∈x.b,y.s∈U) (h:rY next x=true):GoodS U next x:=by
 unfold rY at h;split at h
 ·next hx=>
  simp only [DC,Vh,beq_iff_eq,decide_eq_true_eq] at h;obtain ⟨h1,h2,h3,⟨h4,h5⟩,h6,h7⟩:=h
  have hr:av x.k=true:=by
   unfold av;rcases h2 with e|e<;>rw [e]<;>rfl
  refine ⟨?_,fun e=>absurd e hx⟩;unfold Stp.cst;rw [if_neg hx];exact ⟨hr,ZI hr (by rw [<-right_eq];exact h3),hl,h4,h5,h6,h7⟩
 ·next hx=>
  rw [DC] at h;obtain ⟨ha,hb⟩:=hab (by omega);obtain ⟨t1,g1,l1,_⟩:=z_ hA hB ha h.1;obtain ⟨t2,g2,l2,_⟩:=z_ hA hB hb h.2;refine ⟨?_,fun _=>⟨g1,g2,l1,l2⟩⟩;unfold Stp.cst;rw [if_pos (by omega)];exact ⟨t1,t2⟩
theorem Tm {next:Int} {x:Stp} (h:rY next x=true) (hx:x.l.size=0):x.a.length<=30/\x.b.length<=30/\kY x.a=true/\kY x.b=true/\(∀y∈x.a,nM next y=true)/\∀y∈x.b,nM next y=true:=by
 unfold rY at h;rw [if_neg (by simpa using hx),DC] at h;have t1:=z_ (U:=lA::lB::x.a.map Nd.s) (by simp) (by simp) (fun y hy=>abr _ (abr _ (aaN.2 ⟨y,hy,rfl⟩))) h.1;have t2:=z_ (U:=lA::lB::x.b.map Nd.s) (by simp) (by simp) (fun y hy=>abr _ (abr _ (aaN.2 ⟨y,hy,rfl⟩))) h.2;exact ⟨t1.2.2.1,t2.2.2.1,t1.2.2.2.1,t2.2.2.2.1,t1.2.2.2.2,t2.2.2.2.2⟩
theorem Wq {next:Int} {l:List Stp} (h:∀x∈l,rY next x=true):(tY l).length<=2+l.length*61:=by
 unfold tY
 have:∀l:List Stp,(∀x∈l,rY next x=true)->(l.flatMap fun x=>x.l::(if x.l.size=0 then x.a.map Nd.s++x.b.map Nd.s else [])).length<=l.length*61:=by
  intro l
  induction l with
  |nil=>intro _;simp
  |cons x l ih=>
   intro h;have h1:=ih fun y hy=>h y (abr _ hy)
   have h2:(if x.l.size=0 then x.a.map Nd.s++x.b.map Nd.s else []).length<=60:=by
    split
    ·next hx=>
     have:=Tm (h x (by simp)) hx;simp only [A_,aaT];omega
    ·simp
   simp only [List.flatMap_cons,A_,Bl];omega
 have:=this l h;simp only [Bl];omega
theorem Tn {next:Int} {l:List Stp} (h:z8 next l=true):0<=next/\next<=8/\l.length<=12/\(tY l).length<=1000/\(∀x∈l,rY next x=true)/\∀x∈l,GoodS (tY l) next x:=by
 unfold z8 at h;simp only [DC,decide_eq_true_eq,SI] at h;obtain ⟨⟨h1,h2⟩,h3,h4⟩:=h;have:=Wq h4;refine ⟨h1,h2,h3,by omega,h4,fun x hx=>?_⟩;obtain ⟨a,b⟩:=Wp hx;exact Qm (by simp [tY]) (by simp [tY]) a b (h4 x hx)
section
variable {U:List Lb} {S:Kn}
theorem ZJ (h:KG U S) {k n:Int} {fs:Fl} {tl:Option Int} (h8:k≠8) (h0:k≠0) (g:TG U S (.mk k n fs tl)):∃x p,Chain S k fs tl x p/\∀q,p=some q->S.κ q=none:=by
 obtain ⟨r,h1,h2⟩:=h.rk;obtain rfl:=rU g.pend.1 h8 h0
 have key:∀(N:Nat) (x:Fl) (p:Option Int),Chain S k fs tl x p->(∀q,p=some q->r q<=N)->∃x p,Chain S k fs tl x p/\∀q,p=some q->S.κ q=none:=by
  intro N
  induction N with
  |zero=>
   intro x p c hp;refine ⟨x,p,c,fun q hq=>?_⟩
   cases hk:S.κ q with
   |none=>rfl
   |some t=>have:=(h2 q t hk).1;have:=hp q hq;omega
  |succ N ih=>
   intro x p c hp
   cases p with
   |none=>exact ⟨x,none,c,fun q hq=>by cases hq⟩
   |some q=>
    cases hk:S.κ q with
    |none=>exact ⟨x,some q,c,fun q' hq=>by injection hq with hq;subst hq;exact hk⟩
    |some t=>
     obtain ⟨_,_,d,_⟩:=c.row h.inv h.fu h8 g.pend g.fu;obtain ⟨_,ls,hls,_⟩:=d q rfl;have hr:=h.inv.row q t ls hk hls;obtain ⟨k',n',gs,q'⟩:=t;obtain rfl:=rU (h.inv.dom q _ hk).2.1 hr.1 hr.2.1;refine ih _ _ (.more c hk) fun q2 hq2=>?_;have:=(h2 q _ hk).2.2 ls q2 hls hq2;have:=hp q rfl;omega
 cases tl with
 |none=>exact ⟨fs,none,.here,fun q hq=>by cases hq⟩
 |some q=>exact key (r q) fs (some q) .here fun q' hq=>by injection hq with hq;subst hq;exact bN _
theorem Qn (h:KG U S) {t:Ut} (hr:av t.k=true) (g:TG U S t):∃x p,dK U S t x p:=by
 obtain ⟨k,n,fs,tl⟩:=t;have h8:k≠8:=by rintro rfl;cases hr
 have h0:k≠0:=by rintro rfl;cases hr
 obtain ⟨x,p,c,hp⟩:=ZJ h h8 h0 g;exact ⟨_,_,dK.G5 h h8 h0 g c hp⟩
theorem qE (f:Ut->Ut) (fs:Fl):ay (aI f fs)=ay fs:=by
 unfold ay aI;rw [abL];rfl
theorem aez (h:KG U S):∀(N:Nat) (t:Ut),gL (inst S.σ t)<=N->TG U S t->yS (inst S.σ t)/\pY U (inst S.σ t)/\qY S.L (inst S.σ t):=by
 intro N
 induction N with
 |zero=>
  intro t ht
  cases e:inst S.σ t with
  |mk k n fs tl=>rw [e,rM] at ht;omega
 |succ N ih=>
  intro t ht g;obtain ⟨u,hl⟩:=qL h.rk t;obtain ⟨gu,_,eu⟩:=hl.good h g;rw [eu] at ht ⊢;have hend:=hl.end_;clear eu hl g;obtain ⟨k,n,fs,tl⟩:=u;by_cases h8:k=8
  ·obtain ⟨e,_⟩:=jK gu.pend.1 h8
   have hun:S.κ n=none:=hend h8;rw [e,aW,(h.inv.unk n hun).1];have:=gu.nn;rw [e] at this;exact ⟨this,Ov U n,by rw [<-e];exact gu.fu⟩
  ·cases hr:av k with
   |false=>
    obtain ⟨rfl,hin⟩:=mQ (S:=S) gu.pend.1 gu.sh h8 hr;have hc:∀p∈fs,yS (inst S.σ p.2)/\pY U (inst S.σ p.2)/\qY S.L (inst S.σ p.2):=fun p hp=>ih p.2 (by have:=qM gu.pend.1 gu.sh h8 hr hp;omega) (gu.child hp);have hlb:=gu.lb;rw [gI] at hlb;rw [hin,lS,gI,nR,qE];refine ⟨⟨(lS.1 gu.nn).1,fun p hp=>(by cases hp),fun p hp=>?_⟩,⟨hlb.1,fun p hp=>?_⟩,fun q ls hq=>(by cases hq),fun p hp=>?_⟩
    ·obtain ⟨q,hq,rfl⟩:=aaN.1 hp
     exact (hc q hq).1
    ·obtain ⟨q,hq,rfl⟩:=aaN.1 hp
     exact (hc q hq).2.1
    ·obtain ⟨q,hq,rfl⟩:=aaN.1 hp
     exact (hc q hq).2.2
   |true=>
    obtain ⟨x,p,r⟩:=Qn (t:=.mk k n fs tl) h hr gu;have hc:∀c∈x,yS (inst S.σ c.2)/\pY U (inst S.σ c.2)/\qY S.L (inst S.σ c.2):=fun c hc=>ih c.2 (by have:=r.less hc;omega) (r.el c hc);rw [r.is,lS,gI,nR,qE];refine ⟨⟨fun e=>absurd (bJ hr) (fun hh=>e.elim hh.1 hh.2.1),r.nn,fun p hp=>?_⟩,⟨r.lb,fun p hp=>?_⟩,fun q ls hq hls l hl=>?_,fun p hp=>?_⟩
    ·obtain ⟨q,hq,rfl⟩:=aaN.1 hp
     exact (hc q hq).1
    ·obtain ⟨q,hq,rfl⟩:=aaN.1 hp
     exact (hc q hq).2.1
    ·obtain ⟨_,_,ls',e1,e2⟩:=r.of.tl q hq
     rw [hls] at e1;injection e1 with e1
     subst e1;exact (e2 l).1 hl
    ·obtain ⟨q,hq,rfl⟩:=aaN.1 hp
     exact (hc q hq).2.2
end
theorem ZK {m0:Int}:∀t,o_ m0 (jE t)↔o_ m0 t:=by
 refine Ut.ind fun k n fs tl ih=>?_;rw [lU,jF,jF];constructor
 ·rintro ⟨h1,h2,h3⟩
  exact ⟨fun e=>by have:=h1 e;rwa [if_neg (by omega)] at this,h2,fun c hc=>(ih c hc).1 (h3 _ (aaN.2 ⟨c,hc,rfl⟩))⟩
 ·rintro ⟨h1,h2,h3⟩
  refine ⟨fun e=>by rw [if_neg (by omega)];exact h1 e,h2,fun c hc=>?_⟩;obtain ⟨q,hq,rfl⟩:=aaN.1 hc;exact (ih q hq).2 (h3 q hq)
theorem ZL {U:List Lb}:∀t,Ei U (jE t)->Ei U t:=by
 refine Ut.ind fun k n fs tl ih=>?_;rw [lU,uR,uR,qE];exact fun ⟨h1,h2⟩=>⟨h1,fun c hc=>ih c hc (h2 _ (aaN.2 ⟨c,hc,rfl⟩))⟩
theorem OH:∀t,lY (jE t)=lY t/\jL (jE t)=jL t/\aJ (jE t)=aJ t:=by
 refine Ut.ind fun k n fs tl ih=>?_;rw [lU,jS,jS,iW,iW,kE,kE,fO]
 have hF:∀gs:Fl,(∀p∈gs,p∈fs)->qZ (aI jE gs)=qZ gs/\pI (aI jE gs)=pI gs/\bG (aI jE gs)=bG gs:=by
  intro gs
  induction gs with
  |nil=>intro _;exact ⟨rfl,rfl,rfl⟩
  |cons p gs ih2=>
   intro h;obtain ⟨a,b,c⟩:=ih2 fun q hq=>h q (by simp [hq]);obtain ⟨d,e,f⟩:=ih p (h p (by simp));rw [eU,iT,iC,cB,iT,iC,cB,a,b,c,d,e,f];exact ⟨rfl,rfl,rfl⟩
 obtain ⟨d1,d2,d3⟩:=hF fs fun p hp=>hp;rw [d1,d2,d3];exact ⟨rfl,rfl,rfl⟩
theorem Yd {a b:Ut} (h:Co a b):Co (jE a) (jE b):=by
 induction h with
 |dl n fs tl b=>rw [lU];exact .dl _ _ _ _
 |dr n fs tl a=>rw [lU];exact .dr _ _ _ _
 |nd k n fs gs tl hl hc ih=>
  rw [lU,lU];refine .nd _ _ _ _ _ (fun l=>?_) fun l x y hx hy=>?_
  ·rw [iw,iw,acX,acX]
   exact hl l
  ·rw [iw] at hx hy
   obtain ⟨x',h1,rfl⟩:=ac4.1 hx;obtain ⟨y',h2,rfl⟩:=ac4.1 hy;exact ih l x' y' h1 h2
theorem Lm:∀a b,Co (jE a) (jE b)->Co a b:=by
 refine Ut.ind fun k n fs tl ih b h=>?_;obtain ⟨k',n',gs,tl'⟩:=b;by_cases k0:k=0
 ·subst k0;exact .dl _ _ _ _
 by_cases k1:k'=0
 ·subst k1;exact .dr _ _ _ _
 rw [lU,lU,if_neg k0,if_neg k1] at h
 cases h with
 |dl=>exact absurd rfl k0
 |dr=>exact absurd rfl k1
 |nd k n _ _ tl hl hc=>
  refine .nd _ _ _ _ _ (fun l=>?_) fun l x y hx hy=>?_
  ·have:=hl l
   rwa [iw,iw,acX,acX] at this
  ·exact ih (l,x) (bR hx) y (hc l _ _ (by rw [iw,hx];rfl) (by rw [iw,hy];rfl))
theorem Dv (τ:Va):∀t,jE (inst τ (jE t))=jE (inst τ t):=by
 refine Ut.ind fun k n fs tl ih=>?_;rw [lU,aK,aK];by_cases h8:k=8
 ·rw [if_pos h8,if_pos h8,if_neg (by omega)]
 ·rw [if_neg h8,if_neg h8,lU,lU,tL,tL,vN,vN,wM,wM,wM]
  have e:aI (fun t=>jE (inst τ (jE t))) fs=aI (fun t=>jE (inst τ t)) fs:=by
   unfold aI;exact Vg fun p hp=>congrArg (Prod.mk p.1) (ih p hp)
  rw [e]
  congr 1
  split<;>rfl
theorem abZ (a b:Ut):bF (jE a) (jE b)=bF a b:=by
 funext τ
 refine propext ⟨fun h=>?_,fun h=>?_⟩
 ·have:=Yd (show Co (inst τ (jE a)) (inst τ (jE b)) from h)
  rw [Dv,Dv] at this;exact Lm _ _ this
 ·have:=Yd (show Co (inst τ a) (inst τ b) from h)
  rw [<-Dv,<-Dv τ b] at this;exact Lm _ _ this
theorem vQ.unmap {f:Ut->Ut} {k n n':Int} {fs:Fl} {tl:Option Int} (h:vQ k n (aI f fs) tl) (h0:k≠8->k≠0->n'=0) (h8:k=8\/k=0->0<=n'):vQ k n' fs tl:=by
 obtain ⟨a1,a2,a3,a4,⟨a,b,c,d⟩,a6,a7,a8,a9⟩:=h;rw [qE] at a1 a6;rw [fO] at a8 a9;refine ⟨a1,fun e=>?_,h0,h8,⟨a,b,fun e=>?_,fun e1 e2=>?_⟩,fun hr=>⟨acK.1 (a6 hr).1,(a6 hr).2⟩,a7,a8,a9⟩
 ·obtain ⟨h1,h2⟩:=a2 e
  exact ⟨ada.1 h1,h2⟩
 ·obtain ⟨⟨x,y,h1⟩,h2⟩:=c e
  refine ⟨?_,h2⟩
  match fs,h1 with
  |[(l1,u1),(l2,u2)],h1=>
   simp only [aI,Bn,abM,List.cons.injEq,Prod.mk.injEq,and_true] at h1;exact ⟨u1,u2,by rw [h1.1.1,h1.2.1]⟩
 ·obtain ⟨h1,h2⟩:=d e1 e2
  exact ⟨ada.1 h1,h2⟩
theorem OI {f:List Nd->Ut}:∀{rs:List (List Nd)},(∀t∈rs,aB (bB t).s (f t)=t)->jv ((dW rs).zip (rs.map f))=rs.flatten
 |[],_=>by simp [dW,lT]
 |t::rs,h=>by
  rw [xY,Bn,abF,fq,OI fun t' ht=>h t' (abr _ ht),h t (by simp),Ry]
theorem ZM {ls:List Lb} {f g:List Nd->Ut}:∀{L:List (List Nd)},(∀t∈L,jE (f t)=g t)->aI jE (ls.zip (L.map f))=ls.zip (L.map g):=by
 induction ls with
 |nil=>intro L _;rfl
 |cons l ls ih=>
  intro L h
  cases L with
  |nil=>rfl
  |cons t L=>rw [Bn,Bn,abF,abF,eU,ih fun t ht=>h t (by simp [ht]),h t (by simp)]
theorem aeA {ts:List Nd} (h:ko ts):∃t,gD t/\jE t=dI ts/\aB (bB ts).s t=ts:=by
 induction h with
 |mk x aG ok k9 tr ch row els tl ih=>
  have hex:∃f:List Nd->Ut,∀t∈bI aG,gD (f t)/\jE (f t)=dI t/\aB (bB t).s (f t)=t:=by
   classical
   refine ⟨fun t=>if ht:t∈bI aG then (ih t ht).choose else Ll,fun t ht=>?_⟩;simp only [dif_pos ht];exact (ih t ht).choose_spec
  obtain ⟨f,hf⟩:=hex;have w:=EB (.mk x aG ok k9 tr ch row els tl);have hz:=ZM (ls:=jk x.k (bI aG)) fun t ht=>(hf t ht).2.1;rw [jM tr,<-hz,bU] at w;rw [jM tr,<-hz]
  have hkn:x.k=5/\x.n=0\/av x.k=true\/x.k≠5/\av x.k=false/\aG=[]/\(x.k≠8->x.k≠0->x.n=0)/\0<=x.n:=by
   rcases Cb ok k9 tr with ⟨h5,hn,_⟩|⟨hr,_⟩|⟨h5,hr,ht,h0,h8,hn0,hnn⟩
   ·exact .inl ⟨h5,hn⟩
   ·exact .inr (.inl hr)
   ·exact .inr (.inr ⟨h5,hr,ht,hn0,hnn⟩)
  refine ⟨.mk x.k (if x.k=8\/x.k=0 then x.n else 0) ((jk x.k (bI aG)).zip ((bI aG).map f)) (u6 aG),?_,?_,?_⟩
  ·rw [bU]
   refine ⟨w.1.unmap (fun e1 e2=>if_neg (by omega)) (fun e=>?_),fun p hp=>?_⟩
   ·rw [if_pos e]
    rcases hkn with h|h|h
    ·omega
    ·have:=bJ h;omega
    ·exact h.2.2.2.2
   ·obtain ⟨t,ht,hpt⟩:=aaN.1 (yX hp)
    rw [<-hpt];exact (hf t ht).1
  ·rw [lU]
   congr 1
   split<;>split<;>first|omega|rfl
  ·rw [bY]
   obtain ⟨t1,t2,t3⟩:=K_ tl;have hx:(bB (x::aG.flatten)).s=x.s:=rfl;rw [hx];rcases Cb ok k9 tr with ⟨h5,hn,a,b,rfl⟩|⟨hr,hn,hl,hu⟩|⟨h5,hr,rfl,h0,h8,hn0,hnn⟩
   ·have hr:av x.k=false:=by rw [h5];rfl
    obtain ⟨e,eb⟩:=els hr;rw [if_neg (by rw [hr];simp),J_ e,if_neg (by omega)];rw [J_ e] at hf;have ea:=(hf a (by simp)).2.2;have eb':=(hf b (by simp)).2.2;rw [eb (bB a).s (by simp [dW])] at ea;rw [eb (bB b).s (by simp [dW])] at eb';have hl:jk x.k [a,b]=[lA,lB]:=by unfold jk;rw [if_pos h5]
    rw [hl];simp only [Bn,abM,abF,List.zip_nil_right,gT,gH,ea,eb',ER,Ry,aan]
    congr 1
    rw [<-hn]
   ·rw [if_pos hr]
    have AZ:x.k=6\/x.k=7:=by simpa [av] using hr
    have BL:jk x.k (bI aG)=dW (bI aG):=by unfold jk;rw [if_neg (by omega)]
    have hfl:((dW (bI aG)).zip ((bI aG).map f)).length=(bI aG).length:=by rw [List.length_zip,nK,aaT,Nat.min_self]
    rw [BL,hfl,t2,FD,OI fun t ht=>(hf t ht).2.2,t1];have e:aG.flatten=(bI aG).flatten++(jA aG).flatten:=by rw [<-WS,lN]
    rw [e]
    congr 1
    rw [<-hn]
   ·rw [if_neg (by rw [hr];simp)]
    have e3:(jk x.k (bI [])).zip ((bI []).map f)=[]:=by simp [bI,gN]
    rw [e3,gH];obtain ⟨k,s,n⟩:=x;simp only at*
    congr 1
    by_cases h:k=8\/k=0
    ·rw [if_pos h]
    ·rw [if_neg h,hn0 (fun e=>h (.inl e)) (fun e=>h (.inr e))]
theorem Hu {k n:Int} {fs:Fl} {tl:Option Int} (h:gD (.mk k n fs tl)) (s:Lb):∃(x:Nd) (aG:List (List Nd)),aB s (.mk k n fs tl)=x::aG.flatten/\Trees (manyN x) aG.flatten aG/\x.k=k/\x.s=s/\(av k=false->x.n=n)/\
  bI aG=fs.map (fun p=>aB (if av k=true then p.1 else pR) p.2)/\jA aG=(aP tl).map fun x=>[x]:=by
 have h9:∀(f:Lb×Ut->Lb),∀t∈fs.map (fun p=>aB (f p) p.2),(bB t).k≠9:=fun f t ht=>by
  obtain ⟨p,hp,rfl⟩:=aaN.1 ht;rw [(oU (t:=p.2) (f p)).2];exact ((bU.1 h).2 p hp).k9
 have hfo:∀p∈fs,∀s,Fo 1 (aB s p.2):=fun p hp s=>(La p.2 ((bU.1 h).2 p hp) s).1.fo;have h1:=(bU.1 h).1;rw [bY]
 cases hr:av k with
 |true=>
  have AZ:k=6\/k=7:=by simpa [av] using hr
  obtain ⟨e1,e2⟩:=Ka (tl:=tl) (h9 fun p=>p.1);refine ⟨⟨k,s,(fs.length+(aP tl).length:Nat)⟩,fs.map (fun p=>aB p.1 p.2)++(aP tl).map fun x=>[x],?_,⟨?_,rfl,fun ts hts=>?_⟩,rfl,rfl,fun e=>(by cases e),by rw [e1];simp,e2⟩
  ·rw [if_pos rfl,WS,kN]
   cases tl<;>rfl
  ·unfold manyN many
   rw [if_neg (by show k≠5;omega),if_pos hr];simp;omega
  ·rcases JQ.1 hts with hts|hts
   ·obtain ⟨p,hp,rfl⟩:=aaN.1 hts
    exact hfo p hp p.1
   ·obtain ⟨x,hx,rfl⟩:=aaN.1 hts
    cases tl with
    |none=>cases hx
    |some q=>
     simp only [aP,List.mem_singleton] at hx;subst hx
     rfl
 |false=>
  have e1:=Ka (tl:=none) (h9 fun _=>pR);simp only [aP,abM,ER] at e1
  have htl:tl=none:=by
   by_cases h5:k=5
   ·exact (h1.sh.2.2.1 h5).2
   ·exact (h1.sh.2.2.2 h5 hr).2
  subst htl;refine ⟨⟨k,s,n⟩,fs.map (fun p=>aB pR p.2),by rw [if_neg (by simp),qP],⟨?_,rfl,fun ts hts=>?_⟩,rfl,rfl,fun _=>rfl,by rw [e1.1];simp,e1.2⟩
  ·rw [aaT]
   unfold manyN many;by_cases h5:k=5
   ·obtain ⟨⟨a,b,rfl⟩,_⟩:=h1.sh.2.2.1 h5
    rw [if_pos h5];rfl
   ·obtain ⟨rfl,_⟩:=h1.sh.2.2.2 h5 hr
    rw [if_neg h5];show _=((if av k=true then n else 0:Int)).toNat;rw [hr];rfl
  ·obtain ⟨p,hp,rfl⟩:=aaN.1 hts
   exact hfo p hp _
noncomputable def aeB:Ut->Ut
 | .mk k n fs tl=>if k=8 then Ll else .mk k n (fs.attach.map fun p=>(p.1.1,aeB p.1.2)) tl
termination_by t=>SizeOf.sizeOf t
decreasing_by all_goals exact Ut.fZ p.2
theorem ab0 {f:Ut->Ut} {k:Int} {fs:Fl} {tl:Option Int} (h:zW k fs tl):zW k (aI f fs) tl:=by
 obtain ⟨a,b,c,d⟩:=h;refine ⟨a,b,fun e=>?_,fun e1 e2=>?_⟩
 ·obtain ⟨⟨x,y,rfl⟩,h2⟩:=c e
  exact ⟨⟨f x,f y,rfl⟩,h2⟩
 ·obtain ⟨rfl,h2⟩:=d e1 e2
  exact ⟨rfl,h2⟩
theorem vQ.aI {f:Ut->Ut} {k n:Int} {fs:Fl} {tl:Option Int} (h:vQ k n fs tl):vQ k n (Proofs.Ytblfeokjlecgkaa.aI f fs) tl:=by
 obtain ⟨a1,a2,a3,a4,a5,a6,a7,a8,a9⟩:=h;refine ⟨by rw [qE];exact a1,fun e=>?_,a3,a4,ab0 a5,fun hr=>⟨lX (a6 hr).1,by rw [qE];exact (a6 hr).2⟩,a7,by rw [fO];exact a8,by rw [fO];exact a9⟩;obtain ⟨rfl,h2⟩:=a2 e;exact ⟨rfl,h2⟩
noncomputable def u_:Ut->Ut
 | .mk k n fs _=>if k=8\/(k=7/\fs.length=0) then tV else .mk k n (fs.attach.map fun p=>(p.1.1,u_ p.1.2)) none
termination_by t=>SizeOf.sizeOf t
decreasing_by all_goals exact Ut.fZ p.2
theorem Kg (k n:Int) (fs:Fl) (tl:Option Int):u_ (.mk k n fs tl)=if k=8\/(k=7/\fs.length=0) then tV else .mk k n (aI u_ fs) none:=by
 rw [u_,attach_map]
theorem ab1:gD tV:=EB (tT (T:=[fI 4 0]) (by rfl)).1
theorem ab2:∀t,gD t->gD (u_ t)/\o_ 0 (u_ t)/\lY (u_ t)<=lY t/\jL (u_ t)<=jL t:=by
 refine Ut.ind fun k n fs tl ih h=>?_;rw [bU] at h;rw [Kg]
 have hF:∀gs:Fl,(∀p∈gs,lY (u_ p.2)<=lY p.2/\jL (u_ p.2)<=jL p.2)->qZ (aI u_ gs)<=qZ gs/\pI (aI u_ gs)<=pI gs:=by
  intro gs
  induction gs with
  |nil=>intro _;exact ⟨bN _,bN _⟩
  |cons p gs ih2=>
   intro h;obtain ⟨a,b⟩:=ih2 fun q hq=>h q (by simp [hq]);have:=h p (by simp);rw [eU,iT,iC,iT,iC];show max (lY (u_ p.2)) _<=_/\jL (u_ p.2)+_<=_;omega
 obtain ⟨d1,d2⟩:=hF fs fun p hp=>(ih p hp (h.2 p hp)).2.2;split
 ·refine ⟨ab1,?_,?_,?_⟩
  ·unfold tV;rw [jF];exact ⟨fun e=>absurd e (by decide),rfl,fun c hc=>by cases hc⟩
  ·unfold tV;rw [jS,rV];exact K3 _
  ·unfold tV;rw [iW,ou];have:=(Dl (.mk k n fs tl)).1;simp;exact this
 ·next hk=>
  refine ⟨?_,?_,?_,?_⟩
  ·rw [bU]
   obtain ⟨a1,a2,a3,a4,a5,a6,a7,a8,a9⟩:=h.1.aI (f:=u_);refine ⟨⟨a1,fun e=>⟨(a2 e).1,rfl⟩,a3,a4,⟨a5.1,a5.2.1,fun e=>⟨(a5.2.2.1 e).1,rfl⟩,fun e1 e2=>⟨(a5.2.2.2 e1 e2).1,rfl⟩⟩,a6,fun p hp=>(by cases hp),fun hr=>(by have:=a8 hr;simp only [aP,adb];omega),fun h7=>?_⟩,fun p hp=>?_⟩
   ·rw [fO]
    have:fs.length≠0:=fun e=>hk (.inr ⟨h7,e⟩);omega
   ·obtain ⟨q,hq,rfl⟩:=aaN.1 hp
    exact (ih q hq (h.2 q hq)).1
  ·rw [jF]
   refine ⟨fun e=>absurd (.inl e) hk,rfl,fun c hc=>?_⟩;obtain ⟨q,hq,rfl⟩:=aaN.1 hc;exact (ih q hq (h.2 q hq)).2.1
  ·rw [jS,jS];omega
  ·rw [iW,iW,fO];split<;>omega
theorem Ws:∀t,gD t->∀s,gM (aB s t)=aB s (u_ t):=by
 refine Ut.ind fun k n fs tl ih h s=>?_;obtain ⟨x,aG,e,tr,xk,xs,xn,hl,_⟩:=Hu h s;rw [e,Es,<-tr.uniq,hl,Kg,aaT,xk,xs];split
 ·unfold tV
  rw [bY,if_neg (by decide),gH]
 ·rw [bY,abL]
  have hc:fs.map (gM∘fun p=>aB (if av k=true then p.1 else pR) p.2)=(aI u_ fs).map fun p=>aB (if av k=true then p.1 else pR) p.2:=by
   unfold aI;rw [abL];exact Vg fun p hp=>ih p hp ((bU.1 h).2 p hp) _
  rw [hc]
  cases hr:av k with
  |true=>
   simp only [if_true];rw [kN,fO]
   simp [aP]
  |false=>
   rw [if_neg (by simp),if_neg (by simp),qP]
   have:x=⟨k,s,n⟩:=by
    obtain ⟨a,b,c⟩:=x;simp only at xk xs;have xn:=xn hr;simp only at xn;rw [xk,xs,xn]
   rw [this];simp
theorem Wt {m:Int}:∀t,o_ m t->jL t<=10000->∀s,(aB s t).length<=jL t:=by
 refine Ut.ind fun k n fs tl ih no h s=>?_;rw [jF] at no;obtain ⟨_,rfl,nc⟩:=no;rw [iW] at h ⊢;split at h
 ·omega
 ·next h50=>
  rw [if_neg h50];have h2:=Qj (f:=jL) (fs:=fs) fun p hp s=>ih p hp (nc p hp) (by have:=Ke hp;omega) s;rw [<-Lj] at h2;rw [bY];split
  ·simp only [Bl,A_,aP,adb];omega
  ·simp only [Bl];omega
theorem ahi {x:Nd} {ks:List Nd} (h:ko (x::ks)):bX x.k x.n=true:=by
 generalize hT:x::ks=T at h
 cases h with
 |mk y aG ok=>injection hT with h1 _;rw [h1];exact ok
theorem aeC {a b:Lb} (h:dz a b=true):YP b a=false:=by
 rw [RX];have:Op.bytesLess a.toList b.toList=true:=h;rw [this];rfl
theorem Tp {x y:Nd} {k:Int} {last:Lb} (h9:y.k≠9) (hr:av x.k=true->bV x.k y.s=true/\dz last y.s=true) (he:av x.k=false->y.s=pR):uJ x k last y=true:=by
 unfold uJ;rw [if_neg h9]
 cases hx:av x.k with
 |true=>
  obtain ⟨a,b⟩:=hr hx;rw [aeC b];unfold bV at a;unfold eZ;split
  ·next e=>rw [if_pos e] at a;rw [a];rfl
  ·next e=>
   rw [if_neg e] at a;split
   ·next e2=>rw [if_pos e2] at a;rw [a];rfl
   ·next e2=>rw [if_neg e2] at a;cases a
 |false=>
  rw [he hx];unfold eZ;have:x.k≠6/\x.k≠7:=by simpa [av] using hx
  rw [if_neg this.1,if_neg this.2];rfl
theorem Tq {f:Nat} {x:Nd}:∀(aG:List (List Nd)) (k:Int) (last:Lb),(∀ts∈aG,∃y ks,ts=y::ks/\y.k≠9/\bX y.k y.n=true/\yM f y 0 pR (manyN y) ks)->
  (av x.k=true->(dW aG).Pairwise (fun a b=>dz a b=true)/\∀l∈dW aG,bV x.k l=true/\dz last l=true)->(av x.k=false->∀l∈dW aG,l=pR)->yM (f+1) x k last aG.length aG.flatten
 |[],k,last,_,_,_=>.nil _ _ _ _
 |t::aG,k,last,h,hr,he=>by
  obtain ⟨y,ks,rfl,h9,ho,h1⟩:=h t (by simp);have hlab:dW ((y::ks)::aG)=y.s::dW aG:=rfl;rw [Ry,Gx,Bl];refine .cons ho (Tp h9 (fun hx=>(hr hx).2 y.s (by rw [hlab];simp)) fun hx=>he hx y.s (by rw [hlab];simp)) h1 (Tq aG (k+1) y.s (fun ts hts=>h ts (by simp [hts])) (fun hx=>?_) fun hx l hl=>he hx l (by rw [hlab];simp [hl]));obtain ⟨a,b⟩:=hr hx;rw [hlab,List.pairwise_cons] at a;exact ⟨a.2,fun l hl=>⟨(b l (by rw [hlab];simp [hl])).1,a.1 l hl⟩⟩
theorem uz {k:Int} {l:Lb} (h:bV k l=true):dz pR l=true:=by
 have hne:l.data.toList≠[]:=by
  intro e;unfold bV wC Bp at h;rw [e] at h;split at h
  ·cases h
  ·split at h
   ·cases h
   ·cases h
 have e1:l.toList=l.data.toList:=yH l;have e2:pR.toList=[]:=by rw [yH];rfl
 unfold dz;rw [oN,e1,e2]
 cases hl:l.data.toList with
 |nil=>exact absurd hl hne
 |cons c cs=>exact decide_eq_true (List.nil_lt_cons c cs)
theorem ahj {m:Int}:∀t,gD t->o_ m t->∀(f:Nat) (s:Lb),lY t<=f+1->∃x ks,aB s t=x::ks/\x.k=t.k/\x.s=s/\bX x.k x.n=true/\yM f x 0 pR (manyN x) ks:=by
 refine Ut.ind fun k n fs tl ih hw hn f s hd=>?_;obtain ⟨x,aG,e,tr,xk,xs,xn,hl,ht⟩:=Hu hw s;have ho:bX x.k x.n=true:=ahi (ks:=aG.flatten) (by rw [<-e];exact (La _ hw s).1);rw [bU] at hw;rw [jF] at hn;obtain ⟨_,rfl,nc⟩:=hn
 have Tt:aG=fs.map (fun p=>aB (if av k=true then p.1 else pR) p.2):=by
  have:=lN aG;rw [ht,hl] at this;rw [<-this];simp [aP]
 refine ⟨x,aG.flatten,e,xk,xs,ho,?_⟩;rw [<-tr.len];rw [jS] at hd
 have hdp:∀p∈fs,lY p.2<=qZ fs:=by
  have:∀gs:Fl,∀p∈gs,lY p.2<=qZ gs:=by
   intro gs
   induction gs with
   |nil=>intro p hp;cases hp
   |cons q gs ih=>
    intro p hp;rw [iT];rcases Gz.1 hp with rfl|hp
    ·omega
    ·have:=ih p hp;omega
  exact this fs
 cases hfs:fs with
 |nil=>
  rw [hfs] at Tt;rw [Tt]
  exact .nil _ _ _ _
 |cons p0 fs0=>
  have hp0:=hdp p0 (by rw [hfs];simp);have h1:=K3 p0.2;obtain ⟨f,rfl⟩:∃f',f=f'+1:=⟨f-1,by omega⟩;refine Tq aG 0 pR (fun ts hts=>?_) (fun hr=>?_) fun hr l hl2=>?_
  ·rw [Tt] at hts
   obtain ⟨p,hp,rfl⟩:=aaN.1 hts;obtain ⟨y,ks,e1,e2,e3,e4,e5⟩:=ih p hp (hw.2 p hp) (nc p hp) f (if av k=true then p.1 else pR) (by have:=hdp p hp;omega);exact ⟨y,ks,e1,by rw [e2];exact (hw.2 p hp).k9,e4,e5⟩
  ·rw [xk] at hr
   have hlab:dW aG=ay fs:=by
    rw [Tt,dW,abL,ay];refine Vg fun p _=>?_;show (bB (aB _ p.2)).s=p.1;rw [(oU _).1,if_pos hr]
   rw [hlab,xk];obtain ⟨a,b⟩:=hw.1.row hr;exact ⟨acK.2 a,fun l hl=>⟨b l hl,uz (b l hl)⟩⟩
  ·rw [xk] at hr
   rw [Tt,dW,abL] at hl2;obtain ⟨p,_,rfl⟩:=aaN.1 hl2;show (bB (aB _ p.2)).s=_;rw [(oU _).1,hr];rfl
theorem ZN {m:Int} {t:Ut} (hw:gD t) (hn:o_ m t) (hd:lY t<=100) (hl:jL t<=10000):kY (aB pR t)=true:=by
 obtain ⟨x,ks,e1,e2,e3,e4,e5⟩:=ahj t hw hn 99 pR hd;exact IsR.right ⟨e1,by have:=Wt t hn hl pR;omega,e3,by rw [e2];exact hw.k9,e4,e5⟩
theorem Ns {t:Ut} (hw:gD t) (hd:lY t<=100) (hl:jL t<=10000):kY (gM (aB pR t))=true:=by
 obtain ⟨a,b,c,d⟩:=ab2 t hw;rw [Ws t hw];exact ZN a b (by omega) (by omega)
theorem Qo {f:Nat}:∀{fs:Fl},(∀p∈fs,lY p.2<=f)->qZ fs<=f
 |[],_=>by rw [rV];omega
 |p::fs,h=>by
  rw [iT];have h1:=h p (by simp);have h2:=Qo (fs:=fs) fun q hq=>h q (by simp [hq]);omega
theorem ahk {f:Nat} {x:Nd} {k:Int} {last:ByteArray} {d:Nat} {ks:List Nd} (h:yM f x k last d ks):∀t∈bC d ks,lY (dI t)<=f:=by
 induction h with
 |nil=>intro t ht;simp [bC] at ht
 |@cons f x k last d y ks rs ho hc h1 h2 i1 i2=>
  intro t ht;rw [Fb h1.fo] at ht;rcases Gz.1 ht with rfl|ht
  ·have tr:=vW h1.fo
   have tr2:Trees (manyN y) (bC (manyN y) ks).flatten (bC (manyN y) ks):=by rw [tr.flat];exact tr
   have e:=jM tr2;rw [tr.flat] at e;rw [e,jS]
   have:=Qo (f:=f) (fs:=(jk y.k (bI (bC (manyN y) ks))).zip ((bI (bC (manyN y) ks)).map dI)) fun p hp=>by
    obtain ⟨q,hq,hpq⟩:=aaN.1 (yX hp);rw [<-hpq];exact i1 q (yV hq)
   omega
  ·exact i2 t ht
theorem aeD {T:List Nd} {y:Nd} {ks:List Nd} (h:IsR T y ks):lY (dI T)<=100:=by
 have tr:=vW h.rt.fo;have tr2:Trees (manyN y) (bC (manyN y) ks).flatten (bC (manyN y) ks):=by rw [tr.flat];exact tr
 have e:=jM tr2;rw [tr.flat] at e;rw [h.eq,e,jS]
 have:=Qo (f:=99) (fs:=(jk y.k (bI (bC (manyN y) ks))).zip ((bI (bC (manyN y) ks)).map dI)) fun p hp=>by
  obtain ⟨q,hq,hpq⟩:=aaN.1 (yX hp);rw [<-hpq];exact ahk h.rt q (yV hq)
 omega
theorem ab3:∀t,gD t->lY (u_ t)=lY t/\jL (u_ t)=jL t:=by
 refine Ut.ind fun k n fs tl ih h=>?_;rw [bU] at h;rw [Kg];split
 ·next hk=>
  have hf:fs=[]:=by
   rcases hk with h8|⟨_,h0⟩
   ·exact (h.1.lf (.inr h8)).1
   ·exact kZ h0
  subst hf;unfold tV;rw [jS,jS,iW,iW];exact ⟨rfl,rfl⟩
 ·rw [jS,jS,iW,iW,fO]
  have hF:∀gs:Fl,(∀p∈gs,lY (u_ p.2)=lY p.2/\jL (u_ p.2)=jL p.2)->qZ (aI u_ gs)=qZ gs/\pI (aI u_ gs)=pI gs:=by
   intro gs
   induction gs with
   |nil=>intro _;exact ⟨rfl,rfl⟩
   |cons p gs ih2=>
    intro h;obtain ⟨a,b⟩:=ih2 fun q hq=>h q (by simp [hq]);obtain ⟨c,d⟩:=h p (by simp);rw [eU,iT,iC,iT,iC,a,b,c,d];exact ⟨rfl,rfl⟩
  obtain ⟨d1,d2⟩:=hF fs fun p hp=>ih p hp (h.2 p hp);rw [d1,d2];exact ⟨rfl,rfl⟩
theorem Tv {t:Ut} (hw:gD t):kY (gM (aB pR t))=true↔jL t<=10000/\lY t<=100:=by
 constructor
 ·intro h
  rw [Ws t hw] at h;obtain ⟨w,_,_,_⟩:=ab2 t hw;obtain ⟨g,u⟩:=La _ w pR;obtain ⟨y,ks,I⟩:=XT h;have h1:=aeD I;have h2:=ahf g;have h3:=I.len;obtain ⟨s1,s2,_⟩:=OH (u_ t);rw [u] at h1 h2;obtain ⟨e1,e2⟩:=ab3 t hw;omega
 ·intro h
  exact Ns hw h.2 h.1
theorem Dw:∀a b:List Nd,jc (a++b)=jc a+jc b
 |[],b=>by simp [jc]
 |x::a,b=>by
  rw [Gx,qo,qo,Dw a b];omega
theorem Wu:∀t,gD t->∀(m:Int) (s:Lb),gG m (aB s t)=aB s (aH m t).1/\m+(jc (aB s t):Nat)=(aH m t).2:=by
 refine Ut.ind fun k n fs tl ih h m s=>?_;rw [bU] at h;rw [fF];by_cases hk:k=0
 ·obtain ⟨rfl,rfl⟩:=h.1.lf (.inl hk)
  rw [if_pos hk,bY,bY,hk,if_neg (by decide),if_neg (by decide),gH];exact ⟨rfl,rfl⟩
 ·rw [if_neg hk]
  have hF:∀(gs:Fl) (m:Int),(∀p∈gs,∀m s,gG m (aB s p.2)=aB s (aH m p.2).1/\m+(jc (aB s p.2):Nat)=(aH m p.2).2)->
    (gG m (jv gs)=jv (cK m gs).1/\m+(jc (jv gs):Nat)=(cK m gs).2)/\(gG m (nV gs)=nV (cK m gs).1/\m+(jc (nV gs):Nat)=(cK m gs).2):=by
   intro gs
   induction gs with
   |nil=>
    intro m _;rw [dw,lT,gH]
    exact ⟨⟨rfl,by simp [jc]⟩,⟨rfl,by simp [jc]⟩⟩
   |cons p gs ih2=>
    intro m h;obtain ⟨a1,a2⟩:=h p (by simp) m p.1;obtain ⟨b1,b2⟩:=h p (by simp) m pR;obtain ⟨⟨c1,c2⟩,d1,d2⟩:=ih2 (aH m p.2).2 fun q hq=>h q (by simp [hq]);rw [b_,fq,gT,fq,gT,mJ,mJ,Dw,Dw];refine ⟨⟨?_,?_⟩,?_,?_⟩
    ·rw [a1,a2,c1]
    ·rw [<-c2,<-a2];push_cast;omega
    ·rw [b1,b2,d1]
    ·rw [<-d2,<-b2];push_cast;omega
  obtain ⟨⟨f1,f2⟩,e1,e2⟩:=hF fs m fun p hp m s=>ih p hp (h.2 p hp) m s
  have hlen:(cK m fs).1.length=fs.length:=by
   have:=congrArg RB (jg fs m);unfold ay at this;rw [aaT,aaT] at this;exact this
  rw [bY,bY];split
  ·rw [vM,if_neg hk,mJ,qo,if_neg hk,Dw,f1,hlen]
   cases tl with
   |none=>
    refine ⟨rfl,?_⟩;rw [<-f2]
    simp [aP,jc]
   |some q=>
    refine ⟨?_,?_⟩
    ·simp [aP,gG]
    ·rw [<-f2]
     simp [aP,jc]
  ·rw [vM,if_neg hk,qo,if_neg hk,e1]
   refine ⟨rfl,?_⟩;rw [<-e2];omega
theorem FL:∀{fs:Fl} (_:∀p∈fs,∀m,aH m p.2=(p.2,m)) (m:Int),cK m fs=(fs,m)
 |[],_,m=>by rw [dw]
 |p::fs,h,m=>by
  rw [b_,h p (by simp) m];simp only;rw [FL (fun q hq=>h q (by simp [hq])) m]
theorem xZ:∀t,iO t->∀m,aH m t=(t,m):=by
 refine Ut.ind fun k n fs tl ih h m=>?_;rw [gP] at h;rw [fF,if_neg h.1,FL fun p hp=>ih p hp (h.2 p hp)]
theorem tZ {f:Ut->Ut}:∀{fs:Fl},(∀p∈fs,aJ (f p.2)=aJ p.2)->bG (aI f fs)=bG fs
 |[],_=>rfl
 |p::fs,h=>by
  rw [eU,cB,cB,tZ fun q hq=>h q (by simp [hq]),h p (by simp)]
theorem FM:∀{fs:Fl},(∀p∈fs,iO p.2)->bG fs=0
 |[],_=>by rw [lK]
 |p::fs,h=>by rw [cB,wQ _ (h p (by simp)),FM fun q hq=>h q (by simp [hq])]
theorem BN {L:Sorts} {τ:Va} (h:τ.Ok L) {k n:Int} {fs:Fl} {tl:Option Int} (ho:Dg L k n fs tl):∀q∈(τ.tail tl).1,iO q.2/\jT q.2:=fun q hq=>by
 cases tl with
 |none=>cases hq
 |some p=>
  obtain ⟨ls,hl,_⟩:=ho.2.2.2.2 p rfl;exact (h.t p ls hl).2.2 q hq
theorem Wv {L:Sorts} {τ:Va} (h:τ.Ok L) {k n:Int} {fs:Fl} {tl:Option Int} (ho:Dg L k n fs tl):dY (τ.tail tl).1/\∀l∈ay (τ.tail tl).1,l∉ay fs:=by
 cases tl with
 |none=>exact ⟨abn.nil,fun l hl=>(by cases hl)⟩
 |some p=>
  obtain ⟨ls,hl,h2⟩:=ho.2.2.2.2 p rfl;exact ⟨(h.t p ls hl).1,fun l hl' hf=>(h.t p ls hl).2.1 l hl' (h2 l hf)⟩
theorem qQ {L:Sorts} {τ:Va} (h:τ.Ok L):∀t,dQ L t->aJ (inst τ t)=aJ t:=by
 refine Ut.ind fun k n fs tl ih ho=>?_;rw [bK] at ho;rw [aK];split
 ·next h8=>
  rw [(ho.1.2.1 (.inr h8)).1,kE,wQ _ (h.v n (ho.1.2.2.1 h8)).1,lK,h8];rfl
 ·rw [kE,kE,Ey (eT _),rT,tZ fun p hp=>ih p hp (ho.2 p hp),FM fun p hp=>(BN h ho.1 p hp).1]
  omega
theorem OJ {p:Lb×Ut} (hp:iO p.2):∀(l:Fl) (m:Int),cK m (gX p l)=(gX p (cK m l).1,(cK m l).2)
 |[],m=>by
  show cK m [p]=_;rw [b_,xZ _ hp,dw]
  rfl
 |q::l,m=>by
  cases e:dz q.1 p.1 with
  |true=>rw [jB e,b_,b_,OJ hp l,jB (q:=(q.1,(aH m q.2).1)) e]
  |false=>
   rw [jC e,b_,xZ _ hp];simp only;rw [b_,jC (q:=(q.1,(aH m q.2).1)) e]
theorem OL:∀(R:Fl),(∀p∈R,iO p.2)->∀(l:Fl) (m:Int),cK m (vF R l)=(vF R (cK m l).1,(cK m l).2)
 |[],_,l,m=>rfl
 |p::R,h,l,m=>by
  show cK m (gX p (vF R l))=(gX p (vF R (cK m l).1),_);rw [OJ (h p (by simp)),OL R fun q hq=>h q (by simp [hq])]
theorem Lp {A R:Fl} (hA:dY A) (hR:dY R) (hd:∀l∈ay R,l∉ay A):aZ (A++R)=vF R A:=by
 have hn:(ay (A++R)).Nodup:=by
  rw [dZ,aa6];exact ⟨hA.nodup,hR.nodup,fun a ha b hb e=>hd b hb (e▸ha)⟩
 have hn2:(ay (R++A)).Nodup:=by
  rw [dZ,aa6];exact ⟨hR.nodup,hA.nodup,fun a ha b hb e=>hd a ha (e▸hb)⟩
 have e:vF R A=aZ (R++A):=by rw [vX,dh hA]
 rw [e];refine tN (kR hn) (kR hn2) fun l=>?_;rw [kL hn,kL hn2];exact zP List.perm_append_comm hn
theorem OM:∀{fs:Fl} {m:Int},dY fs->dY (cK m fs).1:=by
 intro fs m h;have e:=jg fs m;unfold dY at*;have h1:(ay fs).Pairwise fun a b=>dz a b=true:=by unfold ay;exact acK.2 h
 rw [<-e] at h1;exact acK.1 h1
theorem ZO {L:Sorts} {τ:Va} (h:τ.Ok L) {m:Int} (hn:∀x,m<=x->L x=none/\τ.v x=aS x):∀t,dQ L t->jT t->∀m',m<=m'->aH m' (inst τ t)=(inst τ (aH m' t).1,(aH m' t).2):=by
 refine Ut.ind fun k n fs tl ih ho hr m' hm=>?_;rw [bK] at ho;rw [iI] at hr;by_cases h0:k=0
 ·obtain ⟨rfl,rfl⟩:=ho.1.2.1 (.inl h0)
  rw [aK,if_neg (by omega),h0,fF,fF,if_pos rfl,if_pos rfl,aK,if_pos rfl,(hn m' hm).2];rfl
 by_cases h8:k=8
 ·obtain ⟨rfl,rfl⟩:=ho.1.2.1 (.inr h8)
  rw [aK,if_pos h8,xZ _ (h.v n (ho.1.2.2.1 h8)).1,fF,if_neg h0,dw,aK,if_pos h8]
 ·obtain ⟨rR,dR⟩:=Wv h ho.1
  have hA:dY (aI (inst τ) fs):=lX hr.1;have hdA:∀l∈ay (τ.tail tl).1,l∉ay (aI (inst τ) fs):=by rw [fJ];exact dR
  have hB:dY (aI (inst τ) (cK m' fs).1):=lX (OM hr.1);have hdB:∀l∈ay (τ.tail tl).1,l∉ay (aI (inst τ) (cK m' fs).1):=by rw [fJ,jg];exact dR
  rw [aK,if_neg h8,fF,if_neg h0,Lp hA rR hdA,OL _ fun p hp=>(BN h ho.1 p hp).1,fF,if_neg h0]
  have hF:∀(gs:Fl),(∀p∈gs,p∈fs)->∀m'',m<=m''->cK m'' (aI (inst τ) gs)=(aI (inst τ) (cK m'' gs).1,(cK m'' gs).2)/\m<=(cK m'' gs).2:=by
   intro gs
   induction gs with
   |nil=>intro _ m'' ab4;rw [dw];exact ⟨dw m'',ab4⟩
   |cons p gs ih2=>
    intro hs m'' ab4;have hp:=hs p (by simp);have hge:m''<=(aH m'' p.2).2:=by rw [nJ p.2 m'' (ho.2 p hp)];omega
    obtain ⟨e1,e2⟩:=ih2 (fun q hq=>hs q (by simp [hq])) (aH m'' p.2).2 (by omega);rw [eU,b_,b_,ih p hp (ho.2 p hp) (hr.2 p hp) m'' ab4];simp only;rw [e1,eU];exact ⟨rfl,e2⟩
  rw [(hF fs (fun p hp=>hp) m' hm).1];simp only;rw [aK,if_neg h8,Lp hB rR hdB]
section
variable {U:List Lb} {S S':Kn} {t:Ut}
theorem kJ (h:S.Inv) (ho:dQ S.L t):inst S.σ (inst S.σ t)=inst S.σ t:=h.gen S.σ h.wf.ok h.model t ho
theorem nE (h:S.Inv) (ho:dQ S.L t):wP S (inst S.σ t) t:=fun τ hτ=>h.gen τ hτ.1 hτ.2 t ho
theorem qR (h:S.Inv) (h':S'.Inv) (l:S.Le S') (ho:dQ S.L t) (hb:jf S.m t):inst S'.σ (inst S.σ t)=inst S'.σ t:=by
 obtain ⟨τ0,s0,a0⟩:=l.sat S'.σ h'.sat;rw [a0.inst _ (yO h.bd _ ho hb),a0.inst _ hb];exact h.gen τ0 s0.1 s0.2 t ho
theorem TG.res (h:KG U S) (g:TG U S t):TG U S (inst S.σ t):=by
 obtain ⟨a,b,c⟩:=aez h _ t (bN _) g;exact ⟨⟨rJ h.inv.wf _ g.pend.1,yO h.inv.bd _ g.pend.1 g.pend.2⟩,c,BQ h.sh.σ _ g.pend.1 g.sh,a,b⟩
theorem mF (h:S.Inv) (ho:dQ S.L t):jT (inst S.σ t):=yN h.wf.ok _ ho
theorem ZP (h:KG U S):∀q ls,S.L q=some ls->∀r,(S.σ.t q).2=some r->S.κ r=none:=by
 obtain ⟨rk,r0,r1⟩:=h.rk
 have:∀(N:Nat) q ls,rk q<=N->S.L q=some ls->∀r,(S.σ.t q).2=some r->S.κ r=none:=by
  intro N
  induction N with
  |zero=>
   intro q ls hN hl r hr
   cases hk:S.κ q with
   |none=>
    rw [(h.inv.unk q hk).2] at hr;injection hr with hr
    rw [<-hr];exact hk
   |some u=>have:=(r1 q u hk).1;omega
  |succ N ih=>
   intro q ls hN hl r hr
   cases hk:S.κ q with
   |none=>
    rw [(h.inv.unk q hk).2] at hr;injection hr with hr
    rw [<-hr];exact hk
   |some u=>
    have e:=(h.inv.model q u hk).2 ls hl;obtain ⟨e8,e0,_,e3⟩:=h.inv.row q u ls hk hl;obtain ⟨k,n,fs,tl⟩:=u;have e8:k≠8:=e8;rw [aK,if_neg e8] at e;rw [e] at hr;simp only [Ut.tl] at hr
    cases tl with
    |none=>cases hr
    |some q'=>
     obtain ⟨ls',hl',_⟩:=e3 q' rfl;exact ih q' ls' (by have:=(r1 q _ hk).2.2 ls q' hl rfl;omega) hl' r hr
 intro q ls hl r hr;exact this (rk q) q ls (bN _) hl r hr
theorem aeE (h:KG U S) (g:TG U S t):∀q,(inst S.σ t).tl=some q->S.κ q=none:=by
 obtain ⟨u,hl⟩:=qL h.rk t;obtain ⟨gu,_,eu⟩:=hl.good h g;intro q hq;rw [eu] at hq;have hend:=hl.end_;obtain ⟨k,n,fs,tl⟩:=u;by_cases h8:k=8
 ·obtain ⟨e,_⟩:=jK gu.pend.1 h8
  rw [e,aW,(h.inv.unk n (hend h8)).1] at hq
  cases hq
 ·rw [aK,if_neg h8] at hq
  cases tl with
  |none=>cases hq
  |some p=>
   have ho:=gu.pend.1;rw [bK] at ho;obtain ⟨ls,hl',_⟩:=ho.1.2.2.2.2 p rfl;exact ZP h p ls hl' q hq
theorem FN (h:KG U S) (g:TG U S t):(inst S.σ t).k=8->inst S.σ t=aS (inst S.σ t).n/\S.κ (inst S.σ t).n=none:=by
 obtain ⟨u,hl⟩:=qL h.rk t;obtain ⟨gu,_,eu⟩:=hl.good h g;intro hq;rw [eu] at hq ⊢;have hend:=hl.end_;obtain ⟨k,n,fs,tl⟩:=u;by_cases h8:k=8
 ·obtain ⟨e,_⟩:=jK gu.pend.1 h8
  rw [e,aW,(h.inv.unk n (hend h8)).1];exact ⟨rfl,hend h8⟩
 ·rw [aK,if_neg h8] at hq
  exact absurd hq h8
theorem dK.res (h:KG U S) (g:TG U S t) (hr:av (inst S.σ t).k=true):dK U S (inst S.σ t) (inst S.σ t).fs (inst S.σ t).tl:=by
 have gr:=g.res h;have ht:=aeE h g;have vg:=mF h.inv g.pend.1;obtain ⟨e8,e0,_⟩:=bJ hr;generalize inst S.σ t=T at*;obtain ⟨k,n,fs,tl⟩:=T;rw [iI] at vg;have:=dK.G5 h e8 e0 gr .here ht
 rwa [dh vg.1] at this
theorem wT (h:S.Inv):∀x,S.m<=x->S.L x=none/\S.σ.v x=aS x:=fun x hx=>⟨h.new x hx,(h.unk x (h.free hx)).1⟩
theorem Cj (h:S.Inv) (ho:dQ S.L t) (hr:jT t):aH S.m (inst S.σ t)=(inst S.σ (aH S.m t).1,(aH S.m t).2):=ZO h.wf.ok (wT h) t ho hr S.m (Int.le_refl _)
end
def qb:Ut->Prop
 | .mk k _ fs _=>(av k=true->fs.length<=30/\(k=7->fs≠[]))/\∀p∈fs,qb p.2
termination_by t=>SizeOf.sizeOf t
decreasing_by exact Ut.fZ (by assumption)
theorem mG {k n:Int} {fs:Fl} {tl:Option Int}:qb (.mk k n fs tl)↔(av k=true->fs.length<=30/\(k=7->fs≠[]))/\∀p∈fs,qb p.2:=by rw [qb]
theorem yY (n:Int):qb (aS n):=by
 unfold aS;rw [mG];exact ⟨fun h=>(by cases h),fun p hp=>(by cases hp)⟩
theorem Ye:∀(t:Ut) (m:Int),qb t->qb (aH m t).1:=by
 refine Ut.ind fun k n fs tl ih m h=>?_;rw [mG] at h;rw [fF];split
 ·rw [mG]
  exact ⟨fun h=>(by cases h),fun p hp=>(by cases hp)⟩
 ·have hl:(cK m fs).1.length=fs.length:=by
   have:=congrArg RB (jg fs m);simpa [ay] using this
  rw [mG,hl];refine ⟨fun hr=>⟨(h.1 hr).1,fun h7 e=>(h.1 hr).2 h7 ?_⟩,fun q hq=>?_⟩
  ·rw [e] at hl
   exact kZ hl.symm
  ·obtain ⟨p,hp,m',rfl⟩:=GY hq
   exact ih p hp m' (h.2 p hp)
structure Va.Rw (L:Sorts) (τ:Va):Prop where
 v:∀n,L n=none->qb (τ.v n)
 t:∀p ls,L p=some ls->ls.length+(τ.t p).1.length<=30/\∀c∈(τ.t p).1,qb c.2
theorem rZ {L:Sorts} {τ:Va} (h:τ.Rw L):∀t,dQ L t->qb t->qb (inst τ t):=by
 refine Ut.ind fun k n fs tl ih ho hw=>?_;rw [bK] at ho;rw [mG] at hw;rw [aK];split
 ·next h8=>exact h.v n (ho.1.2.2.1 h8)
 ·rw [mG]
  refine ⟨fun hr=>?_,fun q hq=>?_⟩
  ·obtain ⟨h1,h2⟩:=hw.1 hr
   refine ⟨?_,fun h7 e=>?_⟩
   ·rw [kK,A_,fO]
    cases tl with
    |none=>
     show fs.length+0<=30
     omega
    |some p=>
     obtain ⟨ls,hl,hs⟩:=ho.1.2.2.2.2 p rfl;have:=(h.t p ls hl).1;have h3:=iy ho.1.1 hs;unfold ay at h3;rw [aaT] at h3;show fs.length+(τ.t p).1.length<=30;omega
   ·have:=congrArg RB e
    rw [kK,A_,fO] at this
    have h0:fs.length=0:=by
     have e0:([]:Fl).length=0:=rfl;omega
    exact h2 h7 (kZ h0)
  ·rw [dX] at hq
   rcases JQ.1 hq with hq|hq
   ·obtain ⟨p,hp,rfl⟩:=aaN.1 hq
    exact ih p hp (ho.2 p hp) (hw.2 p hp)
   ·cases tl with
    |none=>cases hq
    |some p=>
     obtain ⟨ls,hl,_⟩:=ho.1.2.2.2.2 p rfl;exact (h.t p ls hl).2 q hq
theorem EC {L:Sorts} {U:List Lb}:∀t,dQ L t->j_ t->jT t->yS t->pY U t->qb t->gD t:=by
 refine Ut.ind fun k n fs tl ih ok sh ri nn lb rw=>?_;rw [bK] at ok;rw [iV] at sh;rw [iI] at ri;rw [lS] at nn;rw [gI] at lb;rw [mG] at rw;rw [bU];refine ⟨⟨ok.1.1,ok.1.2.1,ok.1.2.2.2.1,nn.1,sh.1,fun hr=>⟨ri.1,fun l hl=>(lb.1 l hl).2 hr⟩,nn.2.1,fun hr=>?_,fun h7=>?_⟩,fun p hp=>ih p hp (ok.2 p hp) (sh.2 p hp) (ri.2 p hp) (nn.2.2 p hp) (lb.2 p hp) (rw.2 p hp)⟩
 ·have:=(rw.1 hr).1
  have:(aP tl).length<=1:=by cases tl<;>simp [aP]
  omega
 ·have:=List.length_pos_iff.2 ((rw.1 (by rw [h7];rfl)).2 h7)
  omega
theorem Kh {U:List Lb} {S:Kn} {t:Ut} (h:KG U S) (hw:S.σ.Rw S.L) (g:TG U S t) (hr:qb t):gD (inst S.σ t):=by
 have gr:=g.res h;exact EC _ gr.pend.1 gr.sh (mF h.inv g.pend.1) gr.nn gr.lb (rZ hw _ g.pend.1 hr)
inductive Sub:Ut->Ut->Prop
 |here (t:Ut):Sub t t
 |child {a:Ut} {p:Lb×Ut} {k n:Int} {fs:Fl} {tl:Option Int} (hp:p∈fs) (h:Sub a p.2):Sub a (.mk k n fs tl)
theorem Sub.trans {a b c:Ut} (h:Sub a b) (k:Sub b c):Sub a c:=by
 induction k with
 |here=>exact h
 |child hp _ ih=>exact .child hp ih
theorem Sub.st {a b:Ut} (h:Sub a b) (ho:iO b):iO a:=by
 induction h with
 |here=>exact ho
 |child hp _ ih=>rw [gP] at ho;exact ih (ho.2 _ hp)
theorem Sub.inst {L:Sorts} {a b:Ut} (τ:Va) (h:Sub a b) (ho:dQ L b):Sub (Proofs.Ytblfeokjlecgkaa.inst τ a) (Proofs.Ytblfeokjlecgkaa.inst τ b):=by
 induction h with
 |here=>exact .here _
 |@child p k n fs tl hp hs ih=>
  rw [bK] at ho
  have h8:k≠8:=fun e=>by
   have:=(ho.1.2.1 (.inr e)).1;subst this
   cases hp
  rw [aK,if_neg h8];exact .child (p:=(p.1,Proofs.Ytblfeokjlecgkaa.inst τ p.2)) (dX.2 (aaR _ (aaN.2 ⟨p,hp,rfl⟩))) (ih (ho.2 p hp))
theorem aeF {a b:Ut} (h:Sub a b):jL b<=10000->jL a<=10000:=by
 induction h with
 |here=>exact id
 |@child p k n fs tl hp hs ih=>
  intro hb;rw [iW] at hb;refine ih ?_;have:=Ke hp;split at hb
  ·omega
  ·omega
theorem Tw {L:Sorts}:∀(t:Ut),dQ L t->∀m n:Int,m<=n->n<(aH m t).2->Sub (aS n) (aH m t).1:=by
 refine Ut.ind fun k n fs tl ih ho m x h1 h2=>?_;rw [bK] at ho;rw [fF] at h2 ⊢;by_cases hk:k=0
 ·rw [if_pos hk] at h2 ⊢
  have h2:x<m+1:=h2;have:x=m:=by omega
  subst this;exact .here _
 ·rw [if_neg hk] at h2 ⊢
  have h2:x<(cK m fs).2:=h2
  have hF:∀(gs:Fl),(∀p∈gs,p∈fs)->∀m,m<=x->x<(cK m gs).2->∃q∈(cK m gs).1,Sub (aS x) q.2:=by
   intro gs
   induction gs with
   |nil=>intro _ m h3 h4;rw [dw] at h4;have h4:x<m:=h4;omega
   |cons p gs ih2=>
    intro hs m h3 h4;rw [b_] at h4 ⊢;by_cases hx:x<(aH m p.2).2
    ·exact ⟨(p.1,(aH m p.2).1),by simp,ih p (hs p (by simp)) (ho.2 p (hs p (by simp))) m x h3 hx⟩
    ·obtain ⟨q,hq,hs2⟩:=ih2 (fun q hq=>hs q (by simp [hq])) _ (by omega) h4
     exact ⟨q,by simp [hq],hs2⟩
  obtain ⟨q,hq,hs⟩:=hF fs (fun p hp=>hp) m h1 h2;exact .child hq hs
def Yf (R:Fl×Option Int) (T:Ut):Prop:=∃k gs,k≠8/\Sub (.mk k 0 gs R.2) T/\∀c∈R.1,c∈gs
theorem Yf.inst {L:Sorts} {R:Fl×Option Int} {T:Ut} (β:Va) (h:Yf R T) (ho:dQ L T):Yf (aZ (aI (Proofs.Ytblfeokjlecgkaa.inst β) R.1++(β.tail R.2).1),(β.tail R.2).2) (Proofs.Ytblfeokjlecgkaa.inst β T):=by
 obtain ⟨k,gs,h8,hs,hc⟩:=h;have:=hs.inst β ho;rw [aK,if_neg h8] at this;refine ⟨k,_,h8,this,fun c hc'=>?_⟩;rw [dX] at hc' ⊢;rcases JQ.1 hc' with h|h
 ·obtain ⟨p,hp,rfl⟩:=aaN.1 h
  exact aaR _ (aaN.2 ⟨p,hc p hp,rfl⟩)
 ·exact acZ _ h
def Reach (m0:Int) (S:Kn) (n:Int):Prop:=
 ∃x,0<=x/\x<m0/\(S.L n=none->Sub (S.σ.v n) (S.σ.v x))/\∀ls,S.L n=some ls->Yf (S.σ.t n) (S.σ.v x)
section
variable {U Lo:List Lb} {m0:Int} {X:Int->Prop} {S S':Kn} {t:Ut} {n:Int}
theorem Reach.later (h:Reach m0 S n) {β:Va} (hσ:S'.σ=β.comp S.σ) (hL:S'.L=S.L) (hw:S.σ.Wf S.L) (hlow:∀x,x<m0->S.L x=none):Reach m0 S' n:=by
 obtain ⟨x,h0,h1,h2,h3⟩:=h;have ho:=hw.v x (hlow x h1);refine ⟨x,h0,h1,fun hl=>?_,fun ls hl=>?_⟩
 ·rw [hL] at hl
  rw [hσ];exact (h2 hl).inst β ho
 ·rw [hL] at hl
  rw [hσ];exact (h3 ls hl).inst β ho
structure dL (U Lo:List Lb) (m0:Int) (X:Int->Prop) (S:Kn):Prop where
 kg:KG U S
 h0:0<=m0
 hm:m0<=S.m
 low:∀x,x<m0->S.L x=none
 lo:∀p ls,S.L p=some ls->ls.Nodup/\∀l∈ls,l∈Lo
 rw:S.σ.Rw S.L
 re:∀n,0<=n->n<S.m->Reach m0 S n\/(X n/\S.κ n=none)
theorem dL.wider (h:dL U Lo m0 X S) {X':Int->Prop} (hX:∀n,X n->X' n):dL U Lo m0 X' S:=
 ⟨h.kg,h.h0,h.hm,h.low,h.lo,h.rw,fun n a b=>(h.re n a b).imp id fun e=>⟨hX n e.1,e.2⟩⟩
theorem ab5 {L:Sorts} {v:Int} {u:Ut} (hu:qb u) (hl:∀p ls,L p=some ls->ls.length<=30):(Va.id.iL v u).Rw L:=
 ⟨fun n _=>by
  show qb (if n=v then u else aS n);split
  ·exact hu
  ·exact yY n,fun p ls hp=>⟨by have:=hl p ls hp;simpa [Va.iL,Va.id] using this,fun c hc=>(by cases hc)⟩⟩
theorem dL.afQ (h:dL U Lo m0 X S) {p:Int} {ls:List Lb} (hl:S.L p=some ls):ls.length<=30:=by
 have:=(h.rw.t p ls hl).1;omega
theorem dL.ab6 (h:dL U Lo m0 X S) (g:TG U S t) (hr:qb t):qb (inst S.σ (aH S.m t).1):=
 rZ h.rw _ (jX t S.m ⟨g.pend.1,g.pend.2,h.kg.inv.new⟩).2.1 (Ye t S.m hr)
theorem dL.eF (h:dL U Lo m0 X S) {v:Int} (hv:S.κ v=none) (hl:S.L v=none) (h0:0<=v) (pW:v<S.m) (hre:Reach m0 S v) (g:TG U S t) (hr:qb t) (h8:t.k=8->S.κ t.n=none/\t.n≠v) (o:¬bL v (inst S.σ (aH S.m t).1)):
  dL U Lo m0 X (S.eF v t):=by
 have hu:=h.ab6 g hr;have hmm:S.m<=(aH S.m t).2:=by rw [nJ t S.m g.pend.1];omega
 have hβ:=ab5 (L:=S.L) (v:=v) hu fun p ls hp=>h.afQ hp;refine ⟨h.kg.eF hv hl h0 pW g h8 o,h.h0,Int.le_trans h.hm hmm,h.low,h.lo,⟨fun n hn=>?_,fun p ls hp=>?_⟩,fun n n0 n1=>?_⟩
 ·exact rZ hβ _ (h.kg.inv.wf.v n hn) (h.rw.v n hn)
 ·obtain ⟨a,b⟩:=h.rw.t p ls hp
  have e:∀tl,(Va.id.iL v (inst S.σ (aH S.m t).1)).tail tl=([],tl):=fun tl=>by cases tl<;>rfl
  refine ⟨?_,fun c hc=>?_⟩
  ·show ls.length+(aZ (aI _ (S.σ.t p).1++((Va.id.iL v _).tail (S.σ.t p).2).1)).length<=30
   rw [kK,e,ER,fO];exact a
  ·have hc:c∈aZ (aI (inst (Va.id.iL v (inst S.σ (aH S.m t).1))) (S.σ.t p).1++((Va.id.iL v (inst S.σ (aH S.m t).1)).tail (S.σ.t p).2).1):=hc
   rw [dX,e,ER] at hc;obtain ⟨d,hd,rfl⟩:=aaN.1 hc;exact rZ hβ _ ((h.kg.inv.wf.t p ls hp).1 d hd) (b d hd)
 ·have hlat:∀n,Reach m0 S n->Reach m0 (S.eF v t) n:=fun n hn=>hn.later (β:=Va.id.iL v (inst S.σ (aH S.m t).1)) rfl rfl h.kg.inv.wf h.low
  by_cases hn:n<S.m
  ·rcases h.re n n0 hn with r|⟨a,b⟩
   ·exact .inl (hlat n r)
   ·by_cases e:n=v
    ·rw [e];exact .inl (hlat v hre)
    ·exact .inr ⟨a,by show upd S.κ v _ n=none;rw [bQ e];exact b⟩
  ·left
   have n1:n<(aH S.m t).2:=n1;obtain ⟨x,x0,x1,x2,_⟩:=hlat v hre;have hs:=Tw t g.pend.1 S.m n (by omega) n1;have ho:=(jX t S.m ⟨g.pend.1,g.pend.2,h.kg.inv.new⟩).2.1;have hs2:=hs.inst S.σ ho;obtain ⟨f1,f2⟩:=wT h.kg.inv n (by omega);rw [aW,f2] at hs2
   have e1:(S.eF v t).σ.v n=aS n:=by
    show inst (Va.id.iL v (inst S.σ (aH S.m t).1)) (S.σ.v n)=aS n;rw [f2,aW];show (if n=v then _ else aS n)=aS n;rw [if_neg (by omega)]
   have e2:(S.eF v t).σ.v v=inst S.σ (aH S.m t).1:=by
    show inst (Va.id.iL v (inst S.σ (aH S.m t).1)) (S.σ.v v)=_;rw [(h.kg.inv.unk v hv).1,aW];show (if v=v then _ else aS v)=_;rw [if_pos rfl]
   refine ⟨x,x0,x1,fun _=>?_,fun ls hls=>?_⟩
   ·have:=x2 hl
    rw [e2] at this;rw [e1];exact hs2.trans this
   ·have hls:S.L n=some ls:=hls
    rw [f1] at hls
    cases hls
theorem dL.aQ (h:dL U Lo m0 X S) (ls:List Lb) (hne:ls≠[]) (hn:ls.Nodup) (hlo:∀l∈ls,l∈Lo) (hLo:Lo.length<=30):dL U Lo m0 (fun n=>X n\/n=S.m) (S.aQ ls):=by
 have hfr:S.κ S.m=none:=h.kg.inv.free (Int.le_refl _)
 have hL:∀x,x≠S.m->(S.aQ ls).L x=S.L x:=fun x hx=>by
  show (if x=S.m then some ls else S.L x)=_;rw [if_neg hx]
 have hLm:(S.aQ ls).L S.m=some ls:=by
  show (if S.m=S.m then some ls else S.L S.m)=_;rw [if_pos rfl]
 have hm:(S.aQ ls).m=S.m+1:=rfl;refine ⟨h.kg.aQ ls hne,h.h0,by rw [hm];have:=h.hm;omega,fun x hx=>?_,fun p ls' hp=>?_,⟨fun n hn=>?_,fun p ls' hp=>?_⟩,fun n n0 n1=>?_⟩
 ·rw [hL x (by have:=h.hm;omega)]
  exact h.low x hx
 ·by_cases e:p=S.m
  ·rw [e,hLm] at hp
   injection hp with hp
   rw [<-hp];exact ⟨hn,hlo⟩
  ·rw [hL p e] at hp
   exact h.lo p ls' hp
 ·by_cases e:n=S.m
  ·rw [e,hLm] at hn;cases hn
  ·rw [hL n e] at hn
   exact h.rw.v n hn
 ·by_cases e:p=S.m
  ·rw [e,hLm] at hp
   injection hp with hp
   rw [<-hp,e];show ls.length+(S.σ.t S.m).1.length<=30/\∀c∈(S.σ.t S.m).1,qb c.2;rw [(h.kg.inv.unk _ hfr).2];have:=iy hn hlo;exact ⟨by simp;omega,fun c hc=>(by cases hc)⟩
  ·rw [hL p e] at hp
   exact h.rw.t p ls' hp
 ·rw [hm] at n1
  by_cases e:n=S.m
  ·rw [e]
   exact .inr ⟨.inr rfl,hfr⟩
  ·rcases h.re n n0 (by omega) with ⟨x,a,b,c,d⟩|⟨a,b⟩
   ·exact .inl ⟨x,a,b,fun hl=>c (by rwa [hL n e] at hl),fun ls' hl=>d ls' (by rwa [hL n e] at hl)⟩
   ·exact .inr ⟨.inl a,b⟩
end
section
variable {U Lo:List Lb} {m0:Int} {X:Int->Prop} {S S':Kn} {t:Ut} {p:Int} {ls:List Lb}
theorem OO (h:S.Inv) (r:iK S p ls t):inst S.σ (aH S.m t).1= .mk t.k 0 (aZ (aI (inst S.σ) (aH S.m t).1.fs)) t.tl:=by
 have h8:=r.k8;have h0:=r.k0;have hn:=r.n;have hq:=r.q;obtain ⟨k,n,fs,tl⟩:=t;simp only [Ut.k,Ut.n,Ut.tl] at h8 h0 hn hq;subst hn;have e:=wh h (p:=tl) fun q hq'=>(hq q hq').2.1;rw [fF,if_neg h0,aK,if_neg h8,e,ER];rfl
theorem aeG (m:Int) (ht:t.k≠0):(aH m t).1.fs=(cK m t.fs).1/\(aH m t).2=(cK m t.fs).2:=by
 obtain ⟨k,n,fs,tl⟩:=t;have ht:k≠0:=ht;rw [fF,if_neg ht];exact ⟨rfl,rfl⟩
theorem Dx (m:Int) (fs:Fl):(cK m fs).1.length=fs.length:=by
 have:=congrArg RB (jg fs m);simpa [ay] using this
theorem aeH {L:Sorts} (h:dQ L t):∀c∈t.fs,dQ L c.2:=by
 obtain ⟨k,n,fs,tl⟩:=t;rw [bK] at h;exact h.2
theorem dL.aV (h:dL U Lo m0 X S) (hp:S.κ p=none) (hl:S.L p=some ls) (r:iK S p ls t) (kg:KG U (S.aV p t)) (rwc:∀c∈t.fs,qb c.2) (hlen:ls.length+t.fs.length<=30)
  (hre:Reach m0 S p\/(Reach m0 (S.aV p t) p/\iO t)):dL U Lo m0 (fun n=>X n/\(Reach m0 S p->t.tl≠some n)) (S.aV p t):=by
 have hu:=OO h.kg.inv r;obtain ⟨hs1,hs2⟩:=aeG (t:=t) S.m r.k0;have hok:=jX t S.m ⟨r.ok,r.bd,h.kg.inv.new⟩;have hFl:(aZ (aI (inst S.σ) (aH S.m t).1.fs)).length=t.fs.length:=by rw [kK,fO,hs1,Dx]
 have hFr:∀c∈aZ (aI (inst S.σ) (aH S.m t).1.fs),qb c.2:=fun c hc=>by
  rw [dX] at hc;obtain ⟨d,hd,rfl⟩:=aaN.1 hc;have hd2:=hd;rw [hs1] at hd2;obtain ⟨e,he,m',rfl⟩:=GY hd2;exact rZ h.rw _ (aeH hok.2.1 _ hd) (Ye _ _ (rwc e he))
 obtain ⟨F,hF⟩:∃F,F=aZ (aI (inst S.σ) (aH S.m t).1.fs):=⟨_,rfl⟩
 have ab7:∀q,q∈(aH S.m t).1.fs->(q.1,inst S.σ q.2)∈F:=fun q hq=>by
  rw [hF,dX];exact aaN.2 ⟨q,hq,rfl⟩
 rw [<-hF] at hFl hFr hu
 have hσ:(S.aV p t).σ=(Va.id.jh p (F,t.tl)).comp S.σ:=by
  show (Va.id.jh p ((inst S.σ (aH S.m t).1).fs,(inst S.σ (aH S.m t).1).tl)).comp S.σ=_;rw [hu];rfl
 have hm:(S.aV p t).m=(aH S.m t).2:=rfl;have hmm:S.m<=(aH S.m t).2:=hok.1;obtain ⟨β,hβe⟩:∃β,β=Va.id.jh p (F,t.tl):=⟨_,rfl⟩;have bv:∀n,β.v n=aS n:=fun n=>by rw [hβe];rfl
 have bp:β.t p=(F,t.tl):=by rw [hβe];show (if p=p then _ else _)=_;rw [if_pos rfl]
 have bo:∀q,q≠p->β.t q=([],some q):=fun q hq=>by rw [hβe];show (if q=p then _ else _)=_;rw [if_neg hq];rfl
 rw [<-hβe] at hσ
 have hβ:β.Rw S.L:=⟨fun n _=>by rw [bv];exact yY n,fun q ls' hq=>by
  by_cases e:q=p
  ·subst e
   rw [hl] at hq;injection hq with hq
   rw [<-hq,bp];exact ⟨by show ls.length+F.length<=30;omega,hFr⟩
  ·rw [bo q e]
   have:=h.afQ hq;exact ⟨by show ls'.length+0<=30;omega,fun c hc=>(by cases hc)⟩⟩
 have hlat:∀n,Reach m0 S n->Reach m0 (S.aV p t) n:=fun n hn=>hn.later (β:=β) hσ rfl h.kg.inv.wf h.low;refine ⟨kg,h.h0,by rw [hm];exact Int.le_trans h.hm hmm,h.low,h.lo,?_,fun n n0 n1=>?_⟩
 ·rw [hσ]
  refine ⟨fun n hn=>rZ hβ _ (h.kg.inv.wf.v n hn) (h.rw.v n hn),fun q ls' hq=>?_⟩;obtain ⟨a,b⟩:=h.rw.t q ls' hq;obtain ⟨w1,w2⟩:=h.kg.inv.wf.t q ls' hq;obtain ⟨o1,o2,o3⟩:=h.kg.inv.wf.ok.t q ls' hq;refine ⟨?_,fun c hc=>?_⟩
  ·show ls'.length+(aZ (aI _ (S.σ.t q).1++(β.tail (S.σ.t q).2).1)).length<=30
   rw [kK,A_,fO]
   cases e:(S.σ.t q).2 with
   |none=>show ls'.length+((S.σ.t q).1.length+0)<=30;omega
   |some r2=>
    by_cases e2:r2=p
    ·subst e2
     obtain ⟨kG,hl2,i1,i2⟩:=w2 r2 e;rw [hl] at hl2;injection hl2 with hl2
     subst hl2
     have hnd:(ls'++ay (S.σ.t q).1).Nodup:=by
      rw [aa6];exact ⟨(h.lo q ls' hq).1,o1.nodup,fun x hx y hy exy=>o2 y hy (exy▸hx)⟩
     have:=iy hnd fun x hx=>by
      rcases JQ.1 hx with hx|hx
      ·exact i1 x hx
      ·exact i2 x hx
     rw [A_] at this;unfold ay at this;rw [aaT] at this;show ls'.length+((S.σ.t q).1.length+(β.t r2).1.length)<=30;rw [bp];show ls'.length+((S.σ.t q).1.length+F.length)<=30;omega
    ·show ls'.length+((S.σ.t q).1.length+(β.t r2).1.length)<=30
     rw [bo r2 e2];show ls'.length+((S.σ.t q).1.length+0)<=30;omega
  ·have hc:c∈aZ (aI (inst β) (S.σ.t q).1++(β.tail (S.σ.t q).2).1):=hc
   rw [dX] at hc;rcases JQ.1 hc with hc|hc
   ·obtain ⟨d,hd,rfl⟩:=aaN.1 hc
    exact rZ hβ _ (w1 d hd) (b d hd)
   ·cases e:(S.σ.t q).2 with
    |none=>rw [e] at hc;cases hc
    |some r2=>
     rw [e] at hc;have hc:c∈(β.t r2).1:=hc;by_cases e2:r2=p
     ·rw [e2,bp] at hc
      exact hFr c hc
     ·rw [bo r2 e2] at hc
      cases hc
 ·
  have wU:Reach m0 S p->∃x k gs,0<=x/\x<m0/\k≠8/\Sub (.mk k 0 gs t.tl) ((S.aV p t).σ.v x)/\∀c∈F,c∈gs:=fun ⟨x,x0,x1,_,x3⟩=>by
   obtain ⟨k,gs,k8,hs,_⟩:=x3 ls hl;rw [(h.kg.inv.unk p hp).2] at hs;have:=hs.inst β (h.kg.inv.wf.v x (h.low x x1));rw [aK,if_neg k8] at this;rw [hσ];refine ⟨x,k,aZ (aI (inst β) gs++(β.tail (some p)).1),x0,x1,k8,?_,?_⟩
   ·have e:(β.tail (some p)).2=t.tl:=by show (β.t p).2=_;rw [bp]
    rw [<-e];exact this
   ·intro c hc
    rw [dX];refine acZ _ ?_;show c∈(β.t p).1;rw [bp];exact hc
  by_cases hn:n<S.m
  ·rcases h.re n n0 hn with a|⟨a,b⟩
   ·exact .inl (hlat n a)
   ·by_cases e:n=p
    ·rw [e]
     rcases hre with a|a
     ·exact .inl (hlat p a)
     ·exact .inl a.1
    ·by_cases e2:Reach m0 S p/\t.tl=some n
     ·left
      obtain ⟨x,k,gs,x0,x1,k8,hs,_⟩:=wU e2.1;obtain ⟨q1,q2,ls',q3,_⟩:=r.q n e2.2;refine ⟨x,x0,x1,fun hn=>?_,fun kG _=>?_⟩
      ·have hn:S.L n=none:=hn
       rw [q3] at hn;cases hn
      ·have:(S.aV p t).σ.t n=([],some n):=by
        rw [hσ];show (aZ (aI (inst β) (S.σ.t n).1++(β.tail (S.σ.t n).2).1),(β.tail (S.σ.t n).2).2)=_;rw [(h.kg.inv.unk n q2).2];show (aZ ([]++(β.t n).1),(β.t n).2)=_;rw [bo n e];rfl
       rw [this];rw [e2.2] at hs;exact ⟨k,gs,k8,hs,fun c hc=>(by cases hc)⟩
     ·exact .inr ⟨⟨a,fun h1 h2=>e2 ⟨h1,h2⟩⟩,by show upd S.κ p _ n=none;rw [bQ e];exact b⟩
  ·have n1:n<(aH S.m t).2:=n1
   rcases hre with a|⟨_,a⟩
   ·left
    obtain ⟨x,k,gs,x0,x1,k8,hs,hg⟩:=wU a;obtain ⟨f1,f2⟩:=wT h.kg.inv n (by omega)
    have e1:(S.aV p t).σ.v n=aS n:=by
     rw [hσ];show inst β (S.σ.v n)=_;rw [f2,aW,bv]
    refine ⟨x,x0,x1,fun _=>?_,fun kG h2=>?_⟩
    ·rw [e1]
     refine Sub.trans ?_ hs;have hsub:=Tw t r.ok S.m n (by omega) n1;have hT:=hok.2.1;have r8:(aH S.m t).1.k≠8:=by rw [(oQ (m:=S.m) r.k0).1];exact r.k8
     generalize (aH S.m t).1=T at hsub hT ab7 r8
     cases hsub with
     |here=>exact absurd rfl r8
     |@child q k2 n2 fs2 tl2 hq hsq=>
      rw [bK] at hT;have:=hsq.inst S.σ (hT.2 q hq);rw [aW,f2] at this;exact .child (p:=(q.1,inst S.σ q.2)) (hg _ (ab7 q hq)) this
    ·have h2:S.L n=some kG:=h2
     rw [f1] at h2;cases h2
   ·rw [xZ t a] at n1
    exact absurd n1 hn
end
structure r9 (U:List Lb) (m0:Int) (t:Ut):Prop where
 told:Told U m0 t
 len:∀s,(aB s t).length<=30
def kT (m0:Int) (S:Kn) (T:Ut):Prop:=∃x,0<=x/\x<m0/\Sub T (S.σ.v x)
def Hand (U:List Lb) (m0:Int) (S:Kn) (T:Ut):Prop:=kT m0 S T\/∃t0,r9 U m0 t0/\T=inst S.σ t0
theorem aeJ {a b:Ut} (h:Sub a b) (hb:qb b):qb a:=by
 induction h with
 |here=>exact hb
 |child hp _ ih=>rw [mG] at hb;exact ih (hb.2 _ hp)
theorem qj {r:Bool}:∀{fs:Fl} {c:Lb×Ut},c∈fs->(aB pR c.2).length<=(jU r fs).length
 |p::fs,c,h=>by
  have e:(jU r (p::fs)).length=(aB pR p.2).length+(jU r fs).length:=by
   unfold jU
   cases r with
   |true=>rw [if_pos rfl,if_pos rfl,fq,A_,uy _ pR]
   |false=>rw [if_neg (by simp),if_neg (by simp),gT,A_]
  rcases Gz.1 h with rfl|h
  ·omega
  ·have:=qj (r:=r) h
   omega
theorem qF {r:Bool}:∀{fs:Fl},fs.length<=(jU r fs).length
 |[]=>by simp
 |p::fs=>by
  have e:(jU r (p::fs)).length=(aB pR p.2).length+(jU r fs).length:=by
   unfold jU
   cases r with
   |true=>rw [if_pos rfl,if_pos rfl,fq,A_,uy _ pR]
   |false=>rw [if_neg (by simp),if_neg (by simp),gT,A_]
  have:=qF (r:=r) (fs:=fs);have:=oV pR p.2;simp;omega
theorem iP (s:Lb) (k n:Int) (fs:Fl) (tl:Option Int):(jU (av k) fs).length+1<=(aB s (.mk k n fs tl)).length:=by
 rw [bY];unfold jU;split
 ·simp
 ·simp
theorem r9.rw {U:List Lb} {m0:Int}:∀t,r9 U m0 t->qb t:=by
 refine Ut.ind fun k n fs tl ih h=>?_;have hw:=h.told.wf;have hl:=h.told.lb;have hno:=h.told.no;rw [bU] at hw;rw [uR] at hl;rw [jF] at hno;have hlen:=h.len pR;have h1:=iP pR k n fs tl;have h2:=qF (r:=av k) (fs:=fs);rw [mG];refine ⟨fun hr=>⟨by omega,fun h7 e=>?_⟩,fun p hp=>ih p hp ⟨⟨hw.2 p hp,hl.2 p hp,hno.2.2 p hp⟩,fun s=>?_⟩⟩
 ·have:=hw.1.un h7
  rw [e,hno.2.1] at this;simp [aP] at this
 ·have:=qj (r:=av k) hp
  rw [uy s pR];omega
theorem r9.child {U:List Lb} {m0:Int} {k n:Int} {fs:Fl} {tl:Option Int} (h:r9 U m0 (.mk k n fs tl)) {p:Lb×Ut} (hp:p∈fs):r9 U m0 p.2:=by
 have hw:=h.told.wf;have hl:=h.told.lb;have hno:=h.told.no;rw [bU] at hw;rw [uR] at hl;rw [jF] at hno;have hlen:=h.len pR;have h1:=iP pR k n fs tl;refine ⟨⟨hw.2 p hp,hl.2 p hp,hno.2.2 p hp⟩,fun s=>?_⟩;have:=qj (r:=av k) hp;rw [uy s pR];omega
section
variable {U Lo:List Lb} {m0:Int} {X:Int->Prop} {S S':Kn} {t T:Ut} {n p:Int}
theorem r9.tg (h:r9 U m0 t) (j:dL U Lo m0 X S):TG U S t:=h.told.tg j.low j.hm
theorem Ww (j:dL U Lo m0 X S) {x:Int} (hx:x<m0):dQ S.L (aS x)/\jf S.m (aS x):=
 ⟨pV (j.low x hx),yP (Int.lt_of_lt_of_le hx j.hm)⟩
theorem Qp (j:dL U Lo m0 X S) (h':S'.Inv) (l:S.Le S') {x:Int} (hx:x<m0):inst S'.σ (S.σ.v x)=S'.σ.v x:=by
 obtain ⟨a,b⟩:=Ww j hx;have:=qR j.kg.inv h' l a b
 rwa [aW,aW] at this
theorem kT.later (h:kT m0 S T) (j:dL U Lo m0 X S) (h':S'.Inv) (l:S.Le S'):kT m0 S' (inst S'.σ T):=by
 obtain ⟨x,x0,x1,hs⟩:=h;have:=hs.inst S'.σ (j.kg.inv.wf.v x (j.low x x1));rw [Qp j h' l x1] at this;exact ⟨x,x0,x1,this⟩
theorem Hand.later (h:Hand U m0 S T) (j:dL U Lo m0 X S) (h':S'.Inv) (l:S.Le S'):Hand U m0 S' (inst S'.σ T):=by
 rcases h with h|⟨t0,hs,rfl⟩
 ·exact .inl (h.later j h' l)
 ·have g:=hs.tg j
  exact .inr ⟨t0,hs,qR j.kg.inv h' l g.pend.1 g.pend.2⟩
theorem Hand.root (h:Hand U m0 S T):kT m0 S T\/∃k n fs,k≠8/\r9 U m0 (.mk k n fs none)/\T= .mk k n (aZ (aI (inst S.σ) fs)) none:=by
 rcases h with h|⟨t0,hs,rfl⟩
 ·exact .inl h
 ·obtain ⟨k,n,fs,tl⟩:=t0
  have hno:=hs.told.no;rw [jF] at hno;obtain ⟨h1,rfl,h3⟩:=hno;by_cases h8:k=8
  ·left
   have hw:=hs.told.wf;rw [bU] at hw;exact ⟨n,hw.1.n8 (.inl h8),h1 h8,by rw [aK,if_pos h8];exact .here _⟩
  ·right
   refine ⟨k,n,fs,h8,hs,?_⟩;rw [aK,if_neg h8];show Ut.mk k n (aZ (aI (inst S.σ) fs++[])) none=_;rw [ER]
theorem Hand.child {k n:Int} {fs:Fl} {tl:Option Int} (h:Hand U m0 S (.mk k n fs tl)) {c:Lb×Ut} (hc:c∈fs):Hand U m0 S c.2:=by
 rcases h.root with ⟨x,x0,x1,hs⟩|⟨k2,n2,gs,h8,hs,e⟩
 ·exact .inl ⟨x,x0,x1,(Sub.child hc (.here _)).trans hs⟩
 ·injection e with e1 e2 e3 e4
  rw [e3,dX] at hc;obtain ⟨d,hd,rfl⟩:=aaN.1 hc;exact .inr ⟨d.2,hs.child hd,rfl⟩
theorem kT.Ki (h:kT m0 S (aS n)) (j:dL U Lo m0 X S) (hn:S.κ n=none) (hl:S.L n=none):Reach m0 S n:=by
 obtain ⟨x,x0,x1,hs⟩:=h;exact ⟨x,x0,x1,fun _=>by rw [(j.kg.inv.unk n hn).1];exact hs,fun ls h2=>by rw [hl] at h2;cases h2⟩
theorem Hand.Ki (h:Hand U m0 S (aS n)) (j:dL U Lo m0 X S) (hn:S.κ n=none) (hl:S.L n=none):Reach m0 S n:=by
 rcases h.root with h|⟨k2,n2,gs,h8,hs,e⟩
 ·exact h.Ki j hn hl
 ·unfold aS at e
  injection e with e1
  exact absurd e1.symm h8
theorem kT.Kj {k:Int} {fs:Fl} (h:kT m0 S (.mk k 0 fs (some p))) (j:dL U Lo m0 X S) (h8:k≠8) (hn:S.κ p=none) {ls:List Lb} (hl:S.L p=some ls):Reach m0 S p:=by
 obtain ⟨x,x0,x1,hs⟩:=h;refine ⟨x,x0,x1,fun h2=>(by rw [hl] at h2;cases h2),fun _ _=>?_⟩;rw [(j.kg.inv.unk p hn).2];exact ⟨k,fs,h8,hs,fun c hc=>(by cases hc)⟩
theorem Hand.Kj {k:Int} {fs:Fl} (h:Hand U m0 S (.mk k 0 fs (some p))) (j:dL U Lo m0 X S) (h8:k≠8) (hn:S.κ p=none) {ls:List Lb} (hl:S.L p=some ls):Reach m0 S p:=by
 rcases h.root with h|⟨k2,n2,gs,_,hs,e⟩
 ·exact h.Kj j h8 hn hl
 ·injection e with e1 e2 e3 e4
  cases e4
theorem Hand.rw (h:Hand U m0 S T) (j:dL U Lo m0 X S):qb T:=by
 rcases h with ⟨x,x0,x1,hs⟩|⟨t0,hs,rfl⟩
 ·exact aeJ hs (j.rw.v x (j.low x x1))
 ·exact rZ j.rw _ (hs.tg j).pend.1 (r9.rw _ hs)
theorem kT.len (h:kT m0 S T) (hf:fK m0 S) (s:Lb):(aB s T).length<=20000:=by
 obtain ⟨x,x0,x1,hs⟩:=h;have h1:=aeF hs (hf x x0 x1).1;have:=FJ _ h1 s;omega
theorem Hand.len (h:Hand U m0 S T) (hf:fK m0 S) (s:Lb):(aB s T).length<=600000:=by
 rcases h with h|⟨t0,hs,rfl⟩
 ·have:=h.len hf s
  omega
 ·have h1:=ZF (m0:=m0) (σ:=S.σ) (B:=20000) (by omega) (fun n h0 hn s=>by
   have:=FJ _ (hf n h0 hn).1 s;have:=(hf n h0 hn).1;omega) t0 hs.told.wf hs.told.no s
  have h2:=hs.len s;have h3:(aB s t0).length*20000<=30*20000:=Nat.mul_le_mul_right _ h2;omega
theorem kT.st (h:kT m0 S T) (j:dL U Lo m0 X S):iO T:=by
 obtain ⟨x,x0,x1,hs⟩:=h;exact hs.st (j.kg.inv.wf.ok.v x (j.low x x1)).1
def Yg (m0:Int) (τ:Va):Prop:=∀n,0<=n->n<m0->jL (τ.v n)<=10000/\lY (τ.v n)<=100
def eX (m0:Int) (S:Kn) (C:Va->Prop):Prop:=∀τ,S.Sat τ->C τ->¬Yg m0 τ
theorem oD {a b:Ut} (h:pX S a b):eX m0 S (bF a b):=fun τ hτ hc=>absurd hc (h τ hτ)
theorem ED {τ τ':Va} {m:Int} (h:Alike m τ τ') (hm:m0<=m) (hf:Yg m0 τ):Yg m0 τ':=fun n h0 hn=>by
 rw [<-(h n (by omega)).1];exact hf n h0 hn
theorem ZQ (h:S.Inv) (low:∀x,x<m0->S.L x=none) {τ:Va} (hτ:S.Sat τ) (hf:Yg m0 τ):fK m0 S:=fun n h0 hn=>by
 have e:=h.gen τ hτ.1 hτ.2 (aS n) (pV (low n hn));rw [aW,aW] at e;obtain ⟨a,b⟩:=SQ τ (S.σ.v n) S.L (h.wf.v n (low n hn));rw [e] at a b;obtain ⟨c,d⟩:=hf n h0 hn;omega
theorem Aa {C:Va->Prop} (hg:∀τ,S.Sat τ->C τ->∃τ',S'.Sat τ'/\Alike S.m τ τ') (h':S'.Inv) (low:∀x,x<m0->S'.L x=none) (hm:m0<=S.m) (hf:¬fK m0 S'):eX m0 S C:=fun τ hτ hc hv=>by
 obtain ⟨τ',h1,a⟩:=hg τ hτ hc;exact hf (ZQ h' low h1 (ED a hm hv))
theorem Ck {S0:Kn} {a b c d:Ut} (l:Loop S0 S a b) (pa:jd S0 a) (pb:jd S0 b) (hm:m0<=S0.m) (hcd:∀τ,S.Sat τ->bF a b τ->bF c d τ) (h:eX m0 S (bF c d)):eX m0 S0 (bF a b):=fun τ hτ hc hv=>by
 obtain ⟨τ1,h1,a1⟩:=l.gen τ hτ hc;rw [qx a1 pa.2 pb.2] at hc;exact h τ1 h1 (hcd τ1 h1 hc) (ED a1 hm hv)
theorem EF {a a' b b':Ut} (h:eX m0 S (bF a b)) (ea:wP S a' a) (eb:wP S b' b):eX m0 S (bF a' b'):=fun τ hτ hc=>h τ hτ (by
 unfold bF at hc ⊢
 rwa [<-ea τ hτ,<-eb τ hτ])
theorem Js {a b:Ut} (h:eX m0 S (bF a b)):eX m0 S (bF b a):=fun τ hτ hc=>h τ hτ hc.symm
def l6 (S:Kn) (n:Int):Int:=match S.κ n with
 |some t=>t.k
 |none=>6
def jl (L:Sorts) (σ:Va) (kd:Int->Int) (n:Int):Ut:=match L n with
 |none=>σ.v n
 |some _=>.mk (kd n) 0 (σ.t n).1 (σ.t n).2
theorem Lr {L:Sorts} {σ β:Va} {kd:Int->Int} {n:Int} (hk:∀ls,L n=some ls->kd n≠8):inst β (jl L σ kd n)=jl L (β.comp σ) kd n:=by
 unfold jl
 cases e:L n with
 |none=>rfl
 |some ls=>
  simp only;rw [aK,if_neg (hk ls e)];rfl
end
def OP (t:Ut):Prop:=jL t<=10000/\lY t<=100
section
variable {U Lo:List Lb} {m0:Int} {X:Int->Prop} {S S':Kn} {a b t:Ut} {k:Int} {x y:Fl} {p q:Option Int} {p0 q0:Int}
structure wV (U Lo:List Lb) (m0:Int) (X:Int->Prop) (S:Kn) (v:Int) (t:Ut):Prop where
 j:dL U Lo m0 X S
 fit:fK m0 S
 hv:S.κ v=none
 hl:S.L v=none
 h0:0<=v
 pW:v<S.m
 hre:Reach m0 S v
 g:TG U S t
 rw:qb t
 k0:t.k≠0
 h8:t.k=8->S.κ t.n=none/\t.n≠v
theorem wV.occ {v:Int} (h:wV U Lo m0 X S v t) (o:bL v (inst S.σ (aH S.m t).1)):eX m0 S (bF (aS v) t):=oD (S9 h.j.kg h.hl h.pW h.g h.k0 h.h8 o)
theorem wV.ok {v:Int} (h:wV U Lo m0 X S v t) (o:¬bL v (inst S.σ (aH S.m t).1)):Done U S (S.eF v t) (bF (aS v) t) (aJ t)/\dL U Lo m0 X (S.eF v t):=
 ⟨Ow h.j.kg h.hv h.hl h.h0 h.pW h.g h.h8 o,h.j.eF h.hv h.hl h.h0 h.pW h.hre h.g h.rw h.h8 o⟩
theorem wV.big {v:Int} (h:wV U Lo m0 X S v t) (o:¬bL v (inst S.σ (aH S.m t).1)) (hf:¬fK m0 (S.eF v t)):eX m0 S (bF (aS v) t):=by
 obtain ⟨d,j⟩:=h.ok o;exact Aa d.st.gen j.kg.inv j.low h.j.hm hf
structure kU (U Lo:List Lb) (m0:Int) (X:Int->Prop) (S:Kn) (k:Int) (x:Fl) (p:Option Int) (y:Fl) (q:Option Int):Prop where
 j:dL U Lo m0 X S
 fit:fK m0 S
 lo:Lo.length<=30
 hk:av k=true
 ra:dK U S (.mk k 0 x p) x p
 rb:dK U S (.mk k 0 y q) y q
 ga:TG U S (.mk k 0 x p)
 gb:TG U S (.mk k 0 y q)
 ia:inst S.σ (.mk k 0 x p)= .mk k 0 x p
 ib:inst S.σ (.mk k 0 y q)= .mk k 0 y q
 sh:Shared S x y
 rwa:qb (.mk k 0 x p)
 rwb:qb (.mk k 0 y q)
theorem ZR {f:Ut->Ut} {fs:Fl} (h:aI f fs=fs):∀c∈fs,f c.2=c.2:=by
 intro c hc;obtain ⟨i,hi⟩:=List.getElem?_of_mem hc;have h2:(aI f fs)[i]?=some c:=by rw [h];exact hi
 unfold aI at h2;rw [List.getElem?_map,hi] at h2;simp only [Option.map_some,Option.some.injEq] at h2;exact congrArg Prod.snd h2
theorem Yh {tl:Option Int} (h8:k≠8) (ht:S.σ.tail tl=([],tl)) (hx:dY x) (h:inst S.σ (.mk k 0 x tl)= .mk k 0 x tl):∀c∈x,inst S.σ c.2=c.2:=by
 rw [aK,if_neg h8,ht,ER,dh (lX hx)] at h;injection h with _ _ h3 _
 exact ZR h3
theorem Yi {σ:Va} {tl:Option Int} (h8:k≠8) (ht:σ.tail tl=([],tl)) (hx:dY x) (h:∀c∈x,inst σ c.2=c.2):inst σ (.mk k 0 x tl)= .mk k 0 x tl:=by
 rw [aK,if_neg h8,ht,ER,Fq h,dh hx]
theorem oF {x y:Fl} (h:dY y):dY (au y x):=abn.sublist List.filter_sublist h
theorem H_ {x y:Fl} (hx:(ay x).Nodup) (hy:(ay y).Nodup) {V:List Lb} (h1:∀l∈ay x,l∈V) (h2:∀l∈ay y,l∈V):x.length+(au y x).length<=V.length:=by
 have hn:(ay x++ay (au y x)).Nodup:=by
  rw [aa6];exact ⟨hx,vP hy,fun u hu v hv e=>(dP.1 hv).2 (e▸hu)⟩
 have:=iy hn fun l hl=>by
  rcases JQ.1 hl with h|h
  ·exact h1 l h
  ·exact h2 l (dP.1 h).1
 rw [A_] at this;unfold ay at this;rw [aaT,aaT] at this;exact this
theorem kU.symm (h:kU U Lo m0 X S k x p y q):kU U Lo m0 X S k y q x p:=
 ⟨h.j,h.fit,h.lo,h.hk,h.rb,h.ra,h.gb,h.ga,h.ib,h.ia,h.sh.symm,h.rwb,h.rwa⟩
theorem kU.tl (h:kU U Lo m0 X S k x p y q):S.σ.tail p=([],p)/\S.σ.tail q=([],q):=
 ⟨wh h.j.kg.inv fun r hr=>(h.ra.of.tl r hr).2.1,wh h.j.kg.inv fun r hr=>(h.rb.of.tl r hr).2.1⟩
theorem kU.fix (h:kU U Lo m0 X S k x p y q):(∀c∈x,inst S.σ c.2=c.2)/\∀c∈y,inst S.σ c.2=c.2:=
 ⟨Yh (bJ h.hk).1 h.tl.1 h.ra.ri h.ia,Yh (bJ h.hk).1 h.tl.2 h.rb.ri h.ib⟩
theorem kU.same (h:kU U Lo m0 X S k x p y q) (hpq:p=q):(au x y=[]->au y x=[]->∀n,Done U S S (bF (.mk k 0 x p) (.mk k 0 y q)) n)/\(p≠none->¬(au x y=[]/\au y x=[])->eX m0 S (bF (.mk k 0 x p) (.mk k 0 y q))):=by
 subst hpq;refine ⟨fun hu hv n=>B_ h.j.kg h.ra h.rb h.hk rfl h.sh hu hv n,fun hp hu=>?_⟩
 cases p with
 |none=>exact absurd rfl hp
 |some p0=>exact oD (Ox h.ra h.rb h.hk rfl hu)
theorem kU.lack (h:kU U Lo m0 X S k x p y q) (hl:(au x y≠[]/\q=none)\/(au y x≠[]/\p=none)):eX m0 S (bF (.mk k 0 x p) (.mk k 0 y q)):=by
 rcases hl with ⟨hu,rfl⟩|⟨hu,rfl⟩
 ·exact oD (Dm h.ra h.rb h.hk rfl hu)
 ·exact oD (Dm h.rb h.ra h.hk rfl hu).symm
theorem Ls {x y:Fl} (h:∀c∈y,qb c.2):∀c∈au y x,qb c.2:=fun c hc=>h c (dU hc)
theorem Jt (h:kU U Lo m0 X S k x (some p0) y q) (h':S'.Inv) (l:S.Le S') (hL:∀n,n<S.m->S'.L n=S.L n) (hc:∀τ,S'.Sat τ->bF (.mk k 0 x (some p0)) (.mk k 0 y q) τ) (hh:kT m0 S (.mk k 0 y q)) (hs:iO (.mk k 0 x (some p0))):Reach m0 S' p0:=by
 obtain ⟨k8,_⟩:=bJ h.hk;have hst:=hh.st h.j;obtain ⟨z,z0,z1,hz⟩:=hh.later h.j h' l;have pa:=h.ga.pend.mono l;have pb:=h.gb.pend.mono l;have e:=Co.eq (hc S'.σ h'.sat) (rH h'.wf.ok _ pa.1 hs) (rH h'.wf.ok _ pb.1 hst) (mF h' pa.1) (mF h' pb.1);rw [<-e,aK,if_neg k8] at hz;obtain ⟨hpm,_,ls,hl,_⟩:=h.ra.of.tl p0 rfl;refine ⟨z,z0,z1,fun hn=>?_,fun _ _=>⟨k,_,k8,hz,fun c hc=>?_⟩⟩
 ·rw [hL p0 hpm,hl] at hn
  cases hn
 ·rw [dX]
  exact acZ _ hc
theorem kU.one (h:kU U Lo m0 X S k x (some p0) y none) (hu:au x y=[]) (hre:Reach m0 S p0\/(kT m0 S (.mk k 0 y none)/\iO (.mk k 0 x (some p0)))):
  (∃ls,S.L p0=some ls/\iK S p0 ls (.mk k 0 (au y x) none))/\inst S.σ (.mk k 0 (au y x) none)= .mk k 0 (au y x) none/\jT (.mk k 0 (au y x) none)/\
   (bL p0 (inst S.σ (aH S.m (.mk k 0 (au y x) none)).1)->eX m0 S (bF (.mk k 0 x (some p0)) (.mk k 0 y none)))/\
   (¬bL p0 (inst S.σ (aH S.m (.mk k 0 (au y x) none)).1)->Done U S (S.aV p0 (.mk k 0 (au y x) none)) (bF (.mk k 0 x (some p0)) (.mk k 0 y none)) (bG (au y x))/\dL U Lo m0 X (S.aV p0 (.mk k 0 (au y x) none))/\
    (¬fK m0 (S.aV p0 (.mk k 0 (au y x) none))->eX m0 S (bF (.mk k 0 x (some p0)) (.mk k 0 y none)))):=by
 obtain ⟨k8,k0,_⟩:=bJ h.hk;obtain ⟨ls,hl,rf⟩:=om h.ra.of h.rb.of k0 k8;have vg:=mF h.j.kg.inv h.gb.pend.1;rw [h.ib,iI] at vg;obtain ⟨hpm,xH,kG,hl2,hls⟩:=h.ra.of.tl p0 rfl;rw [hl] at hl2;injection hl2 with hl2
 subst hl2
 refine ⟨⟨ls,hl,rf⟩,Yi k8 (wh h.j.kg.inv fun r hr=>(by cases hr)) (oF h.rb.ri) fun c hc=>h.fix.2 c (dU hc),by rw [iI];exact ⟨oF vg.1,fun c hc=>vg.2 c (dU hc)⟩,
  fun o=>oD (K7 h.j.kg h.ra h.rb h.hk rfl h.sh hu o),fun o=>?_⟩
 have d:=G_ h.j.kg h.ra h.rb h.hk rfl h.sh hu o;have hwb:=h.rwb;rw [mG] at hwb
 have hlen:ls.length+(au y x).length<=30:=by
  have h1:=iy (h.j.lo p0 ls hl).1 fun l hl=>(hls l).1 hl;have h2:=H_ (x:=x) (y:=y) h.ra.of.vO h.rb.of.vO (V:=ay y) (fun l hl=>zS hu hl) fun l hl=>hl;have h3:=(hwb.1 h.hk).1;unfold ay at h1 h2;rw [aaT] at h1 h2;omega
 have j':=h.j.aV xH hl rf d.kg (Ls hwb.2) hlen (hre.imp id fun ⟨hh,hs⟩=>⟨Jt h d.kg.inv d.st.le (fun _ _=>rfl) d.st.co hh hs,by
  have:=hh.st h.j;rw [gP] at this ⊢;exact ⟨k0,fun c hc=>this.2 c (dU hc)⟩⟩)
 have j2:dL U Lo m0 X (S.aV p0 (.mk k 0 (au y x) none)):=j'.wider fun n hn=>hn.1;exact ⟨d,j2,fun hf=>Aa d.st.gen d.kg.inv j2.low h.j.hm hf⟩
theorem Reach.aQ {n:Int} (h:Reach m0 S n) (hn:n<S.m) (ls:List Lb):Reach m0 (S.aQ ls) n:=by
 obtain ⟨z,z0,z1,z2,z3⟩:=h
 have e:(S.aQ ls).L n=S.L n:=by
  show (if n=S.m then some ls else S.L n)=_;rw [if_neg (by omega)]
 exact ⟨z,z0,z1,fun hl=>z2 (by rwa [e] at hl),fun kG hl=>z3 kG (by rwa [e] at hl)⟩
theorem kU.ab9 (h:kU U Lo m0 X S k x (some p0) y (some q0)) (hre:Reach m0 S p0):
  dL U Lo m0 (fun n=>X n\/n=S.m) (S1 S x y)/\(∃ls,(S1 S x y).L p0=some ls/\iK (S1 S x y) p0 ls (t1 S k x y))/\inst (S1 S x y).σ (t1 S k x y)=t1 S k x y/\jT (t1 S k x y)/\
   (bL p0 (inst (S1 S x y).σ (aH (S1 S x y).m (t1 S k x y)).1)->eX m0 S (bF (.mk k 0 x (some p0)) (.mk k 0 y (some q0))))/\
   (¬bL p0 (inst (S1 S x y).σ (aH (S1 S x y).m (t1 S k x y)).1)->dL U Lo m0 X (S2 S k x y p0)/\(¬fK m0 (S2 S k x y p0)->eX m0 S (bF (.mk k 0 x (some p0)) (.mk k 0 y (some q0))))):=by
 obtain ⟨k8,k0,_⟩:=bJ h.hk;obtain ⟨ls,hl,rf⟩:=ji h.j.kg.inv h.ra.of h.rb.of k0 k8;have vg:=mF h.j.kg.inv h.gb.pend.1;rw [h.ib,iI] at vg;obtain ⟨hpm,xH,kG,hl2,hls⟩:=h.ra.of.tl p0 rfl;obtain ⟨hqm,hqu,ls3,hl3,Yj⟩:=h.rb.of.tl q0 rfl;have e2:ls=kG:=by rw [rQ hpm,hl2] at hl;injection hl with hl;exact hl.symm
 subst e2;have loa:∀l∈ay x,l∈Lo:=fun l hx=>(h.j.lo p0 ls hl2).2 l ((hls l).2 hx);have lob:∀l∈ay y,l∈Lo:=fun l hy=>(h.j.lo q0 ls3 hl3).2 l ((Yj l).2 hy)
 have hbn:(rP x y).Nodup:=by
  unfold rP;rw [aa6];exact ⟨h.ra.of.vO,vP h.rb.of.vO,fun u hu v hv e=>(dP.1 hv).2 (e▸hu)⟩
 have j1:dL U Lo m0 (fun n=>X n\/n=S.m) (S1 S x y):=h.j.aQ (rP x y) (Fz h.j.kg h.ra y) hbn (fun l hl=>by
  rcases tQ.1 hl with a|a
  ·exact loa l a
  ·exact lob l a) h.lo
 have hwb:=h.rwb;rw [mG] at hwb
 have hlen:ls.length+(au y x).length<=30:=by
  have h1:=iy (h.j.lo p0 ls hl2).1 fun l hl=>(hls l).1 hl;have h2:=H_ (x:=x) (y:=y) h.ra.of.vO h.rb.of.vO loa lob;have h3:=h.lo;unfold ay at h1;rw [aaT] at h1;omega
 have hfr:S.κ S.m=none:=h.j.kg.inv.free (Int.le_refl _);have htl:(S1 S x y).σ.tail (some S.m)=([],some S.m):=(h.j.kg.inv.unk _ hfr).2
 refine ⟨j1,⟨ls,hl,rf⟩,Yi k8 htl (oF h.rb.ri) fun c hc=>h.fix.2 c (dU hc),by unfold t1;rw [iI];exact ⟨oF vg.1,fun c hc=>vg.2 c (dU hc)⟩,
  fun o=>oD (Oz h.j.kg h.ra h.rb h.hk rfl o),fun o=>?_⟩
 obtain ⟨kg2,_,_⟩:=zX h.j.kg h.ra h.rb h.hk rfl o;have afR:Reach m0 (S1 S x y) p0:=hre.aQ hpm _;have j2:=j1.aV (show (S1 S x y).κ p0=none from xH) hl rf kg2 (Ls hwb.2) hlen (.inl afR)
 have j3:dL U Lo m0 X (S2 S k x y p0):=j2.wider fun n hn=>by
  rcases hn.1 with a|a
  ·exact a
  ·exact absurd (by rw [a];rfl) (hn.2 afR)
 refine ⟨j3,fun hf=>Aa (S':=S2 S k x y p0) (fun τ hτ hc=>?_) kg2.inv j3.low h.j.hm hf⟩;obtain ⟨τ1,s1,a1,_,c1⟩:=Dj h.j.kg.inv h.ra.of h.rb.of k0 k8 hτ hc;obtain ⟨τ2,s2,a2⟩:=j1.kg.inv.wO (show (S1 S x y).κ p0=none from xH) hl (show p0<S.m+1 by omega) rf s1 c1;exact ⟨τ2,s2,a1.trans (a2.mono (show S.m<=S.m+1 by omega))⟩
end
end Go.Proofs.Ytblfeokjlecgkaa
