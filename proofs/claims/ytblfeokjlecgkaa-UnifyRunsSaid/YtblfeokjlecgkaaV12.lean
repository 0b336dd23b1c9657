/- Laid together by a tool from the texts of this seat: URow UIn UDel UDelB. Conditions: each theorem's own. -/
import Derived.Test.YtblfeokjlecgkaaV11
import Derived.Test.YtblfeokjlecgkaaV06
set_option maxHeartbeats 8000000
set_option maxRecDepth 100000
namespace Go.Proofs.Ytblfeokjlecgkaa
open Go.Lib renaming hid->aC,run_eql_slice_nil->ae0
open _root_.And renaming intro->Gw
open Go.RowKit.Below renaming refl->aT,heap_alloc->adM
open Go.World renaming cell?->adw,cell?_of_block->adN,ownsRow->lM
open _root_.Nat renaming le_refl->bN,lt_or_ge->abE,zero_le->h_,le_trans->zk
open _root_.List renaming mem_map->aaN,mem_of_getElem?->Yt,take_add_one->GZ,getElem?_eq_getElem->jr,getElem?_of_mem->acr,length->RB,getElem?_map->adg,length_take->zH,filter_append->aeW,getElem?_append_left->aaM,getElem?_append_right->zA,getElem?_cons_zero->ad2,getElem?_eq_none->AO,pairwise_iff_getElem->aaV,eq_nil_of_length_eq_zero->kZ,length_append->A_,append_nil->ER,take_of_length_le->CK,length_map->aaT,mem_append->JQ,mem_singleton->aaW,any_eq_true->aeY,filter_eq_self->aeZ
open _root_.Array renaming getElem?_eq_some_iff->ade,getElem?_eq_none->aeU
open Go.Value renaming slice->aO,pointer->aeX
open _root_.ByteArray renaming empty->pR
open _root_.Option renaming map_some->abg
open Go.ByteArray renaming toList_eq->yH
open Go.RowKit
def iM (X:Nat->Prop) (w:World) (cl:List (ByteArray×Nat)) (x:Fl):Prop:=
 cl.length=x.length/\∀(i:Nat) (c:ByteArray×Nat) (p:Lb×Ut),cl[i]?=some c->x[i]?=some p->c.1=p.1/\aF X w c.2 p.2
section
variable {X Y:Nat->Prop} {w w':World} {cl cl':List (ByteArray×Nat)} {x:Fl}
theorem iM.nil:iM X w [] []:=⟨rfl,fun i c p h=>by simp at h⟩
theorem iM.fr (h:iM X w cl x) (hf:Fr Y w w') (hY:∀k,k<w.heap.size->Y k->X k):iM X w' cl x:=⟨h.1,fun i c p hc hp=>⟨(h.2 i c p hc hp).1,(h.2 i c p hc hp).2.fr hf hY⟩⟩
theorem iM.aU (h:iM X w cl x) (hb:Below w.heap.size w w'):iM X w' cl x:=⟨h.1,fun i c p hc hp=>⟨(h.2 i c p hc hp).1,(h.2 i c p hc hp).2.aU hb⟩⟩
theorem iM.snoc (h:iM X w cl x) {b:Nat} {p:Lb×Ut} (hb:aF X w b p.2):iM X w (cl++[(p.1,b)]) (x++[p]):=by
 refine ⟨by simp [h.1],fun i c q hc hq=>?_⟩;rcases abE i cl.length with hi|hi
 ·rw [aaM hi] at hc
  rw [aaM (by rw [<-h.1];exact hi)] at hq;exact h.2 i c q hc hq
 ·have hi2:i=cl.length:=by
   have:=bf hc;simp at this;omega
  subst hi2;rw [zA (bN _),Nat.sub_self] at hc;rw [h.1,zA (bN _),Nat.sub_self] at hq;simp only [ad2,Option.some.injEq] at hc hq;subst hc hq;exact ⟨rfl,hb⟩
theorem iM.FB (h:iM X w cl x):cl.map (·.1)=ay x:=by
 apply List.ext_getElem?;intro i;rcases abE i cl.length with hi|hi
 ·have hx:i<x.length:=by rw [<-h.1];exact hi
  have h1:=jr hi;have h2:=jr hx;have:=(h.2 i _ _ h1 h2).1;simp [ay,h1,h2,this]
 ·rw [AO (by simpa using hi),AO (by simpa [ay,<-h.1] using hi)]
theorem iM.mem (h:iM X w cl x) {c:ByteArray×Nat} (hc:c∈cl):∃p∈x,c.1=p.1/\aF X w c.2 p.2:=by
 obtain ⟨i,hi⟩:=acr hc;have hlt:=bf hi;obtain ⟨p,hp⟩:=aD (l:=x) (i:=i) (by rw [<-h.1];exact hlt);obtain ⟨a,b⟩:=h.2 i c p hi hp;exact ⟨p,Yt hp,a,b⟩
theorem iM.srt (h:iM X w cl x) (hn:(ay x).Nodup) (hp:cl'.Perm cl) (hs:gW lG cl' 0 cl'.length):iM X w cl' (aZ x):=by
 have hl:=h.FB;have hpl:(cl'.map (·.1)).Perm (ay x):=by rw [<-hl];exact hp.map _
 have hn':(cl'.map (·.1)).Nodup:=hpl.nodup_iff.2 hn
 have hg:∀c∈cl',∃t,aL c.1 x=some t/\aF X w c.2 t:=fun c hc=>by
  obtain ⟨p,h1,h2,h3⟩:=h.mem (hp.mem_iff.1 hc);exact ⟨p.2,by rw [h2];exact jR hn h1,h3⟩
 have key:cl'.map (fun c=>(c.1,(aL c.1 x).getD (.mk 0 0 [] none)))=aZ x:=by
  refine tN ?_ (kR hn) fun l=>?_
  ·refine List.pairwise_map.2 ?_
   rw [aaV];intro i j hi hj hij;have h1:=hs i j _ _ (h_ _) hij hj (jr hi) (jr hj)
   have h2:cl'[i].1≠cl'[j].1:=fun e=>by
    have:=aaV.1 hn' i j (by simpa using hi) (by simpa using hj) hij;simp at this;exact this e
   cases e:dz cl'[i].1 cl'[j].1
   ·exact absurd (xQ e h1) h2
   ·rfl
  ·rw [kL hn]
   have hlab:ay (cl'.map (fun c=>(c.1,(aL c.1 x).getD (.mk 0 0 [] none))))=cl'.map (·.1):=by simp [ay]
   cases e:aL l x with
   |none=>
    rw [bP,hlab];rw [bP] at e
    exact fun hm=>e (hpl.mem_iff.1 hm)
   |some t=>
    have hm:l∈cl'.map (·.1):=hpl.mem_iff.2 (jJ e);obtain ⟨c,hc,rfl⟩:=aaN.1 hm;refine jR (by rw [hlab];exact hn') (aaN.2 ⟨c,hc,?_⟩);rw [e];rfl
 rw [<-key];refine ⟨by simp,fun i c p hc hq=>?_⟩;rw [adg,hc] at hq;simp only [abg,Option.some.injEq] at hq;subst hq;obtain ⟨t,h1,h2⟩:=hg c (Yt hc);refine ⟨rfl,?_⟩;show aF X w c.2 ((aL c.1 x).getD _);rw [h1];exact h2
end
theorem ahM:(Try.prog.info? 150).map (fun i=>(i.zero,i.size,i.bytes))=some (some (.agg #[.string pR,.pointer none]),2,24):=by kernel_rfl
theorem F7 {w:World} {ops:Array Oper} {rest:List Oper} {o:Oper} {a:Act} {Q:Exit->Act->World->Prop} (hgd:o.guard=none) (s x:Operand)
  (ho:o.op= .call {callee:=.builtin .append,args:=#[s,x],argTypes:=#[146,146]})
  (base:Nat) {A:Option Addr} {cap:Nat} {l:List (ByteArray×Nat)} (hs:a.eval s= .slice A l.length cap) (hown:dD w base A cap l) {B:Nat} {A2:Option Addr} {c:Nat} {l2:List (ByteArray×Nat)} (hx:a.eval x= .slice A2 l2.length c) (hr:aX 2 jY w B A2 l2)
  (hlen:l.length+l2.length<=10000000) (hbase:base<=w.heap.size)
  (h:∀A' cap' w',dD w' base A' cap' (l++l2)->w.grownBy w' ((aO A l.length cap).ownBlock)->
   ((aO A' (l.length+l2.length) cap').ownBlock=(aO A l.length cap).ownBlock\/(aO A' (l.length+l2.length) cap').ownBlock=some w.heap.size)->wpList Try.prog ops Q rest (a.put o.dst (.slice A' (l.length+l2.length) cap')) w'):wpList Try.prog ops Q (o::rest) a w:=by
 obtain ⟨i0,hi,hz0,hz1,hz2⟩:=info_parts ahM;exact nX w jO ZX hgd s x 146 ho base 150 i0 _ 24 Try.underlying146 hi hz0 hz1 hz2 rfl (by decide) hs hown hx hr (by unfold maxLen;omega) (by omega) hbase h
theorem WW (w:World) (c:ByteArray×Nat) (t:TypeId):aX 2 jY (w.alloc (.cells #[.string c.1,.pointer (some ⟨c.2,0,none⟩)] t)) (w.heap.size+1) (some ⟨w.heap.size,0,none⟩) [c]:=fun _=>by
 refine ⟨w.heap.size,0,rfl,by omega,fun i y hi j v hj=>?_⟩
 cases i with
 |succ i=>simp at hi
 |zero=>
  simp only [ad2,Option.some.injEq] at hi;subst hi;have e:jY c=[.string c.1,.pointer (some ⟨c.2,0,none⟩)]:=rfl;rw [e] at hj;show (w.alloc (.cells #[.string c.1,.pointer (some ⟨c.2,0,none⟩)] t)).cell? ⟨w.heap.size,0+0*2+j,none⟩=some v;simp only [adw,heap_alloc_new]
  match j,hj with
  |0,hj=>simpa using hj
  |1,hj=>simpa using hj
def Iu (r:Int->Nat) (v:Value) (w:World):Nat:=match v with
 | .pointer (some a)=>(match w.cell? ⟨a.block,4,none⟩ with
  |some (.pointer (some b))=>(match w.cell? ⟨b.block,1,none⟩ with
   |some (.int _ q)=>r q+1
   |_=>0)
  |_=>0)
 |_=>0
theorem JC {X:Nat->Prop} {w:World} {b:Nat} {t:Ut} (h:aF X w b t) (r:Int->Nat):Iu r (.pointer (some ⟨b,0,none⟩)) w=match t.tl with|none=>0|some q=>r q+1:=by
 cases h with
 |mk _ k n fs tl A B ls bs ca cb tv hx hb hn hl hA hB hlen hk ht=>
  have c4:w.cell? ⟨b,4,none⟩=some tv:=by simp [adw,hb]
  cases tl with
  |none=>
   have ht:tv= .pointer none:=ht;subst ht
   simp [Iu,c4,Ut.tl]
  |some q=>
   obtain ⟨b2,rfl,_,hb2⟩:=ht;have c1:w.cell? ⟨b2,1,none⟩=some (.int .i64 q):=by simp [adw,hb2]
   simp [Iu,c4,Ut.tl,pk,c1]
theorem KG.aao {U:List Lb} {S:Kn} (h:KG U S) {q:Int} {t:Ut} {ls:List Lb} (hk:S.κ q=some t) (hl:S.L q=some ls):av t.k=true:=by
 obtain ⟨l,hm⟩:=List.exists_mem_of_ne_nil ls (h.ne q ls hl);have:=(h.lb q t hk).2 ls hl l hm;unfold bV at this;unfold av;by_cases h6:t.k=6
 ·rw [h6];rfl
 ·rw [if_neg h6] at this
  by_cases h7:t.k=7
  ·rw [h7];rfl
  ·rw [if_neg h7] at this
   cases this
def Ug (X:Nat->Prop) (U:List Lb) (S:Kn) (t:Ut) (w:World) (e:Ending) (w':World):Prop:=
 ∃A cap cl x p tv,e= .returned (.tuple #[.slice A (RB cl) cap,tv])/\dK U S t x p/\iM X w' cl x/\cO X w' tv p/\dD w' w.heap.size A cap cl/\Below w.heap.size w w'
theorem aF.parts {X:Nat->Prop} {w:World} {b:Nat} {k n:Int} {fs:Fl} {tl:Option Int} (h:aF X w b (.mk k n fs tl)):
  ∃(A B:Option Addr) (ls:List ByteArray) (bs:List Nat) (ca cb:Nat) (ta:Option Addr),w.heap[b]?=some (.cells #[.int .i64 k,.int .i64 n,.slice A ls.length ca,.slice B bs.length cb,.pointer ta] 105 (0,0))/\ls.length=bs.length/\
   (av k=true->ls=ay fs)/\dH X 1 nT w A ls/\dH X 1 lC w B bs/\bs.length=fs.length/\(∀(i:Nat) (p:Lb×Ut) (c:Nat),fs[i]?=some p->bs[i]?=some c->aF X w c p.2)/\cO X w (.pointer ta) tl/\¬X b:=by
 cases h with
 |mk _ _ _ _ _ A B ls bs ca cb tv hx hb hn hl hA hB hlen hk ht=>
  have Ng:∃ta,tv= .pointer ta:=by
   cases tl with
   |none=>exact ⟨none,ht⟩
   |some q=>
    obtain ⟨b2,e,_⟩:=ht;exact ⟨_,e⟩
  obtain ⟨ta,rfl⟩:=Ng;exact ⟨A,B,ls,bs,ca,cb,ta,hb,hn,hl,hA,hB,hlen,hk,ht,hx⟩
theorem bH.Ga {X:Nat->Prop} {s m:Nat} {first:Int} {w wr:World} {S:Kn} (h:bH X s m first w S) (hb:Below w.heap.size w wr) (n:Int):∃v,(∀j,(Instr.lookup 85 (.map (some m)) (.int .i64 n) false).run Try.prog (wr.drewN j)= .ok v (wr.drewN j))/\
  match S.κ n with
  |none=>v= .pointer none
  |some t=>∃b,v=pk b/\aF X w b t:=by
 obtain ⟨h1,_,_,h2,l,⟨es,clock,h3,h5⟩,h4⟩:=h;have hm:jV ik wr m l:=⟨es,clock,(hb.block m (ade.1 h3).1).trans h3,h5⟩;refine ⟨_,fun j=>LV (wr.drewN j) m l n hm,?_⟩;have:=h4 n
 cases hk:S.κ n with
 |none=>rw [hk] at this;simp only [this];rfl
 |some t=>
  rw [hk] at this;obtain ⟨b,e,hn⟩:=this;exact ⟨b,by simp only [e];rfl,hn⟩
theorem dH.Iw {X:Nat->Prop} {w:World} {B:Option Addr} {bs:List Nat} (h:dH X 1 lC w B bs) {i c:Nat} (hc:bs[i]?=some c):∃bb oo,B=some ⟨bb,oo,none⟩/\¬X bb/\bb<w.heap.size/\w.cell? ⟨bb,oo+i,none⟩=some (.pointer (some ⟨c,0,none⟩)):=by
 obtain ⟨bb,oo,e,h1,h2,hr⟩:=h (by rintro rfl;simp at hc);refine ⟨bb,oo,e,h1,h2,?_⟩;have:=hr i c hc 0 _ rfl;simpa [pk] using this
theorem dH.cellL {X:Nat->Prop} {w:World} {B:Option Addr} {ls:List ByteArray} (h:dH X 1 nT w B ls) {i:Nat} {l:ByteArray} (hc:ls[i]?=some l):∃bb oo,B=some ⟨bb,oo,none⟩/\¬X bb/\bb<w.heap.size/\w.cell? ⟨bb,oo+i,none⟩=some (.string l):=by
 obtain ⟨bb,oo,e,h1,h2,hr⟩:=h (by rintro rfl;simp at hc);refine ⟨bb,oo,e,h1,h2,?_⟩;have:=hr i l hc 0 _ rfl;simpa using this
theorem JZ (base:Nat) (A:Option Addr) (cap:Nat) (l:List (ByteArray×Nat)) (w:World) (h:dD w base A cap l) (hl:l.length<=1000000):
  Calls Try.prog 139 #[.slice A l.length cap,Pd] w fun e w'=>e= .returned (.tuple #[])/\∃l':List (ByteArray×Nat),l'.length=l.length/\l'.Perm l/\gW lG l' 0 l'.length/\dD w' base A cap l'/\Below base w w':=by
 cases A with
 |none=>
  rcases h.2 with ⟨hv,hn⟩|⟨g,cap',cur,hv,_⟩
  ·have hl:l=[]:=kZ hn
   subst hl;refine (Ir cap Pd w).mono ?_;rintro e w' ⟨he,rfl⟩;exact ⟨he,[],rfl,.refl _,fun i j x y _ _ h=>by simp at h,h,aT _ _⟩
  ·cases hv
 |some a=>
  rcases h.2 with ⟨hv,hn⟩|⟨g,cap',cur,hv,hbg,hgz,_⟩
  ·cases hv
  ·have hgz:g<w.heap.size:=(ade.1 hgz).1
   injection hv with hv _ _
   injection hv with hv
   subst hv;refine (Mj base g cap l l.length w h rfl hl).mono ?_;rintro e w' ⟨he,l',h1,h2,h3,h4⟩;refine ⟨he,l',h2.len,h2.perm,by rw [h2.len];exact h1,h3,h4.os,h4.tape,h4.output,h4.size,fun i hi=>?_⟩;exact h4.block i (by omega) fun e=>by injection e with e;omega
def Iy (S:Kn):Option Int->Bool
 |none=>true
 |some q=>(S.κ q).isNone
def acR (X:Nat->Prop) (S:Kn) (Ch:Fl->Option Int->Prop) (w:World) (e:Ending) (w':World):Prop:=
 ∃A cap cl x p tv,e= .returned (.tuple #[.slice A (RB cl) cap,tv])/\Ch x p/\(∀q,p=some q->S.κ q=none)/\iM X w' cl (aZ x)/\cO X w' tv p/\dD w' w.heap.size A cap cl/\Below w.heap.size w w'
theorem Pe (X:Nat->Prop) (s m:Nat) (first:Int) (w:World) (S:Kn) (hS:bH X s m first w S) (hrk:S.Rk) (b:Nat) (k n:Int) (fs:Fl) (tl:Option Int) (hb:aF X w b (.mk k n fs tl)) (hr:av k=true)
  (Ch:Fl->Option Int->Prop) (c0:Ch fs tl) (af8:∀x p,Ch x p->x.length<=100000) (af9:∀x p,Ch x p->(ay x).Nodup) (acS:∀x q y,Ch x (some q)->S.κ q=some y->av y.k=true/\Ch (x++y.fs) y.tl/\∃ls,S.L q=some ls):
  Calls Try.prog 103 #[pk s,pk b] w (acR X S Ch w):=by
 obtain ⟨r,hr1,hr2⟩:=hrk;have HR:=aC hr2;have HS:=aC hS;have HB:=aC hb;have HC0:=aC c0;have HLn:=aC af8;have HNd:=aC af9;have HMo:=aC acS;have mD:=aC hr;clear hb hS c0 af8 af9 acS hr hr1 hr2;unfold pk;go_enter Try.func103,Try.ntmps103;go_wp2_with fail
 go_loopw [1,6] (fun s1 s6 wr=>∃(c:Nat) (k' n':Int) (fs':Fl) (tl':Option Int) (A:Option Addr) (cap:Nat) (cl:List (ByteArray×Nat)) (x:Fl),s1= .pointer (some ⟨c,0,none⟩)/\s6= .slice A cl.length cap/\
   Hid (aF X w c (.mk k' n' fs' tl')/\av k'=true/\Ch (x++fs') tl'/\iM X w cl x/\dD wr w.heap.size A cap cl/\Below w.heap.size w wr)) (fun s1 _ wr=>Iu r s1 w)
 case atStart=>exact ⟨b,k,n,fs,tl,none,0,[],[],rfl,rfl,aC ⟨HB.out,mD.out,HC0.out,iM.nil,aA.nil,aT _ _⟩⟩
 case round=>
  obtain ⟨c,k',n',fs',tl',A,cap,cl,x,rfl,rfl,M⟩:=hrel;clear HB;have hlen:=aC (HLn.out _ _ M.out.2.2.1);obtain ⟨A',B',ls,bs,ca,cb,ta,hb,hn,hl,hA,hB,hbl,hk,ht,hx⟩:=M.out.1.parts;have hcz:c<w.heap.size:=(ade.1 hb).1;have P:=aC (Gw hn (Gw (hl M.out.2.1) (Gw hA (Gw hB (Gw hbl (Gw hk ht))))));have hb1:wr.heap[c]?=_:=(M.out.2.2.2.2.2.block c hcz).trans hb;have c2:wr.cell? ⟨c,2,none⟩=some (.slice A' ls.length ca):=by simp [adw,hb1]
  have c3:wr.cell? ⟨c,3,none⟩=some (.slice B' bs.length cb):=by simp [adw,hb1]
  have hbs:bs.length<=100000:=by
   have:=hlen.out;simp only [A_] at this;omega
  have HBl:=aC hb;clear hb hn hl hA hB hbl hk ht hx hb1;go_wp2_with fail;obtain ⟨wo,rfl⟩:∃wo:World,wo=wr:=⟨_,rfl⟩;go_loopw [6,14] (fun s6 Iz wr=>∃(i:Nat) (A:Option Addr) (cap:Nat) (cl:List (ByteArray×Nat)),Iz= .int .i64 i/\s6= .slice A cl.length cap/\i<=bs.length/\Hid (iM X w cl (x++fs'.take i)/\dD wr w.heap.size A cap cl/\Below w.heap.size w wr)) (fun _ Iz _=>bs.length-(intOf Iz).toNat)
  case atStart=>exact ⟨0,A,cap,cl,rfl,rfl,h_ _,aC ⟨by rw [List.take_zero,ER];exact M.out.2.2.2.1,M.out.2.2.2.2⟩⟩
  case round=>
   clear c2 c3;obtain ⟨i,A,cap,cl,rfl,rfl,hi,MI⟩:=hrel
   have c2:wr.cell? ⟨c,2,none⟩=some (.slice A' ls.length ca):=by
    have hb1:wr.heap[c]?=_:=(MI.out.2.2.block c hcz).trans HBl.out;simp [adw,hb1]
   by_cases hp:i<bs.length
   ·obtain ⟨d,hd⟩:=aD (l:=bs) (i:=i) hp
    obtain ⟨l,hl⟩:=aD (l:=ls) (i:=i) (by have:=P.out.1;omega);obtain ⟨p,hpq⟩:=aD (l:=fs') (i:=i) (by have:=P.out.2.2.2.2.1;omega);obtain ⟨bb,oo,rfl,_,hbb,Nz⟩:=P.out.2.2.2.1.Iw hd;obtain ⟨bl,ol,rfl,_,hbl,cl0⟩:=P.out.2.2.1.cellL hl;have cb1:=(MI.out.2.2.cell (p:=⟨bb,oo+i,none⟩) hbb).trans Nz;have cl1:=(MI.out.2.2.cell (p:=⟨bl,ol+i,none⟩) hbl).trans cl0
    have hlp:Hid (l=p.1/\aF X w d p.2):=aC ⟨by
     have:=P.out.2.1;rw [this] at hl;simp [ay,hpq] at hl;exact hl.symm,P.out.2.2.2.2.2.1 i p d hpq hd⟩
    have htk:Hid (fs'.take (i+1)=fs'.take i++[p]):=aC (by rw [GZ,hpq];rfl);have hil:i<ls.length:=bf hl
    have apc:cl.length<=200000:=by
     have h1:=MI.out.1.1;have h2:=hlen.out;simp only [A_,zH] at h1 h2;omega
    have hwz:w.heap.size<=wr.heap.size:=MI.out.2.2.size;clear hd hl hpq Nz cl0 hbb hbl;go_wp2_with (at_builtin;refine F7 rfl (.tmp 19) (.tmp 29) rfl w.heap.size (l:=cl) rfl (aA.alloc MI.out.2.1 _) (l2:=[(l,d)]) rfl (WW _ (l,d) _) (by simp;omega) (by simp;omega) ?_;intro A1 c1 w1 hown1 hg1 _)
    have MJ:Hid (iM X w (cl++[(l,d)]) (x++fs'.take (i+1))/\dD w1 w.heap.size A1 c1 (cl++[(l,d)])/\Below w.heap.size w w1):=aC ⟨by
     rw [htk.out,<-List.append_assoc,hlp.out.1];exact MI.out.1.snoc hlp.out.2,hown1,eG (ak MI.out.2.2 _) hg1 (fun q hq=>(MI.out.2.1.block q hq).1)⟩
    clear hown1 hg1 cb1 cl1;go_roundw
    case rel=>exact ⟨i+1,A1,c1,cl++[(l,d)],by go_num,by simp,hp,MJ⟩
    case measure=>simp [intOf];omega
   ·have hie:Hid (fs'.take i=fs'):=aC (CK (by have:=P.out.2.2.2.2.1;omega))
    have MF:Hid (iM X w cl (x++fs')/\dD wr w.heap.size A cap cl/\Below w.heap.size w wr):=aC (by have:=MI.out;rw [hie.out] at this;exact this);have XY:Hid (cl.length<=100000):=aC (by have:=MF.out.1.1;have:=hlen.out;omega);clear hie MI
    have c4:wr.cell? ⟨c,4,none⟩=some (.pointer ta):=by
     have hb1:wr.heap[c]?=_:=(MF.out.2.2.block c hcz).trans HBl.out;simp [adw,hb1]
    go_wp2_with fail;obtain ⟨DV,rfl⟩:∃DV:World,DV=wr:=⟨_,rfl⟩;go_cut [51] (fun s51 wx=>s51= .bool (Iy S tl')/\∃q,wx=DV.drewN q)
    case first=>as_aux_lemma=>
     cases tl' with
     |none=>
      have Ng:ta=none:=by have:aeX ta= .pointer none:=P.out.2.2.2.2.2.2;simpa using this
      subst Ng;go_quiet (fail);go_wp2_with fail;go_meet
      exact ⟨rfl,_,rfl⟩
     |some q=>
      obtain ⟨bt,hbt,_,hbq⟩:=P.out.2.2.2.2.2.2;obtain rfl:ta=some ⟨bt,0,none⟩:=by simpa [pk] using hbt
      have zo:bt<w.heap.size:=(ade.1 hbq).1
      have t1:DV.cell? ⟨bt,1,none⟩=some (.int .i64 q):=by
       have hb1:DV.heap[bt]?=_:=(MF.out.2.2.block bt zo).trans hbq;simp [adw,hb1]
      have s2:DV.cell? ⟨s,2,none⟩=some (.map (some m)):=(MF.out.2.2.cell (p:=⟨s,2,none⟩) (ade.1 HS.out.st).1).trans HS.out.cell.1;obtain ⟨v,hv,hv2⟩:=HS.out.Ga MF.out.2.2 q;have HV:=aC hv2;clear hbt hbq hv2 zo
      cases hkq:S.κ q with
      |none=>
       have Z4:v= .pointer none:=by have:=HV.out;rw [hkq] at this;exact this
       subst Z4;go_quiet (fail);go_wp2_with fail;go_meet
       exact ⟨by simp [Iy,hkq],_,rfl⟩
      |some y=>
       have hy:∃d,v=pk d/\aF X w d y:=by have:=HV.out;rw [hkq] at this;exact this
       obtain ⟨d,rfl,_⟩:=hy;unfold pk at hv;go_quiet (fail);go_wp2_with fail;go_meet;exact ⟨by simp [Iy,hkq],_,rfl⟩
    case rest=>
     obtain ⟨rfl,q9,rfl⟩:=hcut
     cases hst:Iy S tl'
     ·have JN:=aC hst
      cases tl' with
      |none=>cases hst
      |some q=>
       clear hst;obtain ⟨bt,hbt,_,hbq⟩:=P.out.2.2.2.2.2.2;obtain rfl:ta=some ⟨bt,0,none⟩:=by simpa [pk] using hbt
       have zo:bt<w.heap.size:=(ade.1 hbq).1;have hbel:=MF.out.2.2.trans (below_drewN (aT w.heap.size DV) q9)
       have t1:DV.cell? ⟨bt,1,none⟩=some (.int .i64 q):=by
        have hb1:DV.heap[bt]?=_:=(MF.out.2.2.block bt zo).trans hbq;simp [adw,hb1]
       have s2:DV.cell? ⟨s,2,none⟩=some (.map (some m)):=(MF.out.2.2.cell (p:=⟨s,2,none⟩) (ade.1 HS.out.st).1).trans HS.out.cell.1;obtain ⟨v,hv,hv2⟩:=HS.out.Ga MF.out.2.2 q
       have hky:∃y,S.κ q=some y:=by
        have:=JN.out;simp only [Iy] at this
        cases hk:S.κ q with
        |none=>rw [hk] at this;cases this
        |some y=>exact ⟨y,rfl⟩
       obtain ⟨y,hky⟩:=hky;have hy:∃d,v=pk d/\aF X w d y:=by rw [hky] at hv2;exact hv2
       obtain ⟨d,rfl,hdy⟩:=hy;obtain ⟨hrow,hch,ls0,af_⟩:=HMo.out _ q y M.out.2.2.1 hky;obtain ⟨ky,ny,fy,ty⟩:=y;have MN:Hid (aF X w d (.mk ky ny fy ty)/\av ky=true/\Ch ((x++fs')++fy) ty/\iM X w cl (x++fs')/\dD (DV.drewN q9) w.heap.size A cap cl/\Below w.heap.size w (DV.drewN q9)):=aC ⟨hdy,hrow,hch,MF.out.1,MF.out.2.1.drewN q9,hbel⟩
       have hmu:Hid (Iu r (.pointer (some ⟨d,0,none⟩)) w<Iu r (.pointer (some ⟨c,0,none⟩)) w):=aC (by
        rw [JC hdy,JC M.out.1];obtain ⟨a1,_,a3⟩:=HR.out q _ hky
        cases ty with
        |none=>exact Nat.succ_pos _
        |some q'=>
         have:=a3 ls0 q' af_ rfl;show r q'+1<r q+1;omega)
       clear hbt hbq hv2 hky hdy af_ hrow hbel hch;unfold pk at hv;go_wp2_with fail;go_quiet (fail);go_wp2_with fail;go_roundw
       case rel=>exact ⟨d,ky,ny,fy,ty,A,cap,cl,x++fs',rfl,rfl,aC ⟨MN.out.1,MN.out.2.1,MN.out.2.2.1,MN.out.2.2.2.1,MN.out.2.2.2.2.1.drewN _,MN.out.2.2.2.2.2.trans (below_drewN (aT _ _) _)⟩⟩
       case measure=>exact hmu.out
     ·have JN:=aC hst
      clear hst;go_wp2_with fail;refine (JZ w.heap.size A cap cl _ (MF.out.2.1.drewN q9) (by have:=XY.out;omega)).mono ?_;rintro e w3 ⟨rfl,l3,z1,z2,z3,z4,z5⟩;have Z:=aC (Gw z1 (Gw z2 (Gw z3 (Gw z4 ((MF.out.2.2.trans (below_drewN (aT w.heap.size DV) q9)).trans z5)))));clear z1 z2 z3 z4 z5 c4
      have c4:w3.cell? ⟨c,4,none⟩=some (.pointer ta):=by
       have hb1:w3.heap[c]?=_:=(Z.out.2.2.2.2.block c hcz).trans HBl.out;simp [adw,hb1]
      go_wp2_with fail;go_quiet (fail);go_wp2_with fail;go_ret2
      have akd:∀q,tl'=some q->S.κ q=none:=by
       rintro q rfl;have:=JN.out;simpa [Iy] using this
      have hch:=M.out.2.2.1;have XZ:=HNd.out _ _ hch;have hcs:=MF.out.1.srt XZ Z.out.2.1 Z.out.2.2.1;rw [<-Z.out.1];exact ⟨A,cap,l3,x++fs',tl',.pointer ta,rfl,hch,akd,hcs.fr (Fr.below (X:=fun _=>False) (Z.out.2.2.2.2.trans (below_drewN (aT _ _) _))) (fun _ _ e=>e.elim),P.out.2.2.2.2.2.2.fr (Fr.below (X:=fun _=>False) (Z.out.2.2.2.2.trans (below_drewN (aT _ _) _))) (fun _ _ e=>e.elim),Z.out.2.2.2.1.drewN _,Z.out.2.2.2.2.trans (below_drewN (aT _ _) _)⟩
theorem Pf (X:Nat->Prop) (U:List Lb) (s m:Nat) (first:Int) (w:World) (S:Kn) (hS:bH X s m first w S) (hK:KG U S) (hU:U.length<=100000) (b:Nat) (k:Int) (fs:Fl) (tl:Option Int) (hb:aF X w b (.mk k 0 fs tl)) (g:TG U S (.mk k 0 fs tl)) (hr:av k=true):
  Calls Try.prog 103 #[pk s,pk b] w (Ug X U S (.mk k 0 fs tl) w):=by
 have h8:=(bJ hr).1;refine (Pe X s m first w S hS hK.rk b k 0 fs tl hb hr (Chain S k fs tl) .here (fun x p h=>zk (h.len hK h8 g) hU) (fun x p h=>(Chain.row hK.inv hK.fu h8 g.pend g.fu h).1) (fun x q y h hk=>?_)).mono ?_
 ·obtain ⟨_,ls,hls,_⟩:=(Chain.row hK.inv hK.fu h8 g.pend g.fu h).2.2.1 q rfl
  have hrow:=hK.aao hk hls;obtain ⟨ky,ny,fy,ty⟩:=y;obtain rfl:ny=0:=rU (hK.inv.dom q _ hk).2.1 (bJ hrow).1 (bJ hrow).2.1;exact ⟨hrow,.more h hk,ls,hls⟩
 ·rintro e w' ⟨A,cap,cl,x,p,tv,he,h1,h2,h3⟩
  exact ⟨A,cap,cl,aZ x,p,tv,he,dK.G5 hK h8 (bJ hr).2.1 g h1 h2,h3⟩
structure JD (U:List Lb) (S:Kn) (t:Ut) (x:Fl) (p:Option Int):Prop where
 el:∀c∈x,TG U S c.2
 len:x.length<=U.length
 is:inst S.σ t= .mk t.k 0 (aI (inst S.σ) x) p
theorem dK.toI {U:List Lb} {S:Kn} {t:Ut} {x:Fl} {p:Option Int} (r:dK U S t x p):JD U S t x p:=⟨r.el,r.len,r.is⟩
theorem JD.less {U:List Lb} {S:Kn} {t:Ut} {x:Fl} {p:Option Int} (r:JD U S t x p) {c:Lb×Ut} (hc:c∈x):gL (inst S.σ c.2)<gL (inst S.σ t):=by
 rw [r.is,rM];have:=tO (p:=(c.1,inst S.σ c.2)) (a:=aI (inst S.σ) x) (aaN.2 ⟨c,hc,rfl⟩);have h2:gL (inst S.σ c.2)<=nQ (aI (inst S.σ) x):=this;omega
theorem JD.occ {U:List Lb} {S:Kn} {t:Ut} {x:Fl} {p:Option Int} (r:JD U S t x p) (h8:t.k≠8) (v:Int):bL v (inst S.σ t)↔p=some v\/∃c∈x,bL v (inst S.σ c.2):=by
 rw [r.is,nD];constructor
 ·rintro (⟨e,_⟩|e|⟨c,hc,ho⟩)
  ·exact absurd e h8
  ·exact .inl e
  ·obtain ⟨c',h1,rfl⟩:=aaN.1 hc
   exact .inr ⟨c',h1,ho⟩
 ·rintro (e|⟨c,hc,ho⟩)
  ·exact .inr (.inl e)
  ·exact .inr (.inr ⟨(c.1,inst S.σ c.2),aaN.2 ⟨c,hc,rfl⟩,ho⟩)
structure WR (U:List Lb) (S:Kn) (t:Ut):Prop where
 row:av t.k=true
 ok:dQ S.L t
 sh:j_ t
 el:∀c∈t.fs,TG U S c.2
 lb:∀l∈ay t.fs,l∈U
 unk:∀q,t.tl=some q->S.κ q=none
theorem WR.ake {U:List Lb} {S:Kn} {t:Ut} (h:S.Inv) (g:WR U S t):JD U S t (aZ t.fs) t.tl:=by
 obtain ⟨k,n,fs,tl⟩:=t;obtain ⟨hr,ho,_,el,lb,unk⟩:=g;have h8:k≠8:=(bJ hr).1;obtain rfl:=rU ho h8 (bJ hr).2.1;refine ⟨fun c hc=>el c (dX.1 hc),?_,?_⟩
 ·rw [kK]
  rw [bK] at ho;have:=iy ho.1.1 lb;have this:(ay fs).length<=U.length:=this;show fs.length<=U.length;simpa [ay] using this
 ·have unk:∀q,tl=some q->S.κ q=none:=unk
  rw [aK,if_neg h8,wh h unk,ER,tL];rfl
def Pg (X:Nat->Prop) (U:List Lb) (S:Kn) (t:Ut) (w:World) (e:Ending) (w':World):Prop:=
 ∃A cap cl x p tv,e= .returned (.tuple #[.slice A (RB cl) cap,tv])/\JD U S t x p/\iM X w' cl x/\cO X w' tv p/\dD w' w.heap.size A cap cl/\Below w.heap.size w w'
theorem aap (X:Nat->Prop) (U:List Lb) (s m:Nat) (first:Int) (w:World) (S:Kn) (hS:bH X s m first w S) (hK:KG U S) (hU:U.length<=100000) (b:Nat) (t:Ut) (hb:aF X w b t) (g:WR U S t):
  Calls Try.prog 103 #[pk s,pk b] w (Pg X U S t w):=by
 have hi:=g.ake hK.inv;obtain ⟨k,n,fs,tl⟩:=t;have hnd:=g.ok;rw [bK] at hnd;refine (Pe X s m first w S hS hK.rk b k n fs tl hb g.row (fun x p=>x=fs/\p=tl) ⟨rfl,rfl⟩ (fun x p h=>?_) (fun x p h=>by rw [h.1];exact hnd.1.1) (fun x q y h hk=>?_)).mono ?_
 ·rw [h.1]
  have:=hi.len;rw [kK] at this;have this:fs.length<=U.length:=this;omega
 ·rw [g.unk q h.2.symm] at hk
  cases hk
 ·rintro e w' ⟨A,cap,cl,x,p,tv,he,⟨rfl,rfl⟩,_,h3⟩
  exact ⟨A,cap,cl,aZ x,p,tv,he,hi,h3⟩
attribute [local go_sem ↓] Go.wp_at_zero Go.wp_at_succ
structure agb (K:Nat) (caps:Array Value) (B:Option Addr) (bs:List Nat) (I:Nat->World->Prop) (R:World->Prop):Prop where
 read:∀i c wr,I i wr->bs[i]?=some c->∃bb oo,B=some ⟨bb,oo,none⟩/\wr.cell? ⟨bb,oo+i,none⟩=some (.pointer (some ⟨c,0,none⟩))
 call:∀i c wr,I i wr->bs[i]?=some c->Calls Try.prog K (#[.pointer (some ⟨c,0,none⟩)]++caps) wr fun e w'=>∃r:Bool,e= .returned (.bool r)/\(r=true->R w')/\(r=false->I (i+1) w')
theorem Uh (B:Option Addr) (cb:Nat) (bs:List Nat) (p1 p2 p3:Value) (I:Nat->World->Prop) (R:World->Prop) (w:World) (H:agb 176 #[p1,p2,p3] B bs I R) (h0:I 0 w) (hl:bs.length<=1000000):
  Calls Try.prog 214 #[.slice B bs.length cb,.func (.func 176) #[] #[p1,p2,p3]] w fun e w'=>∃n:Int,e= .returned (.int .i64 n)/\(0<=n->R w')/\(n<0->I bs.length w'):=by
 have HH:=aC H;have H0:=aC h0;clear H h0;go_enter Try.func214,Try.ntmps214;go_wp2_with fail;go_loopw [8] (fun s8 wr=>∃i:Nat,s8= .int .i64 i/\i<=bs.length/\Hid (I i wr)) (fun s8 _=>bs.length-(intOf s8).toNat)
 case atStart=>exact ⟨0,rfl,h_ _,H0⟩
 case round=>
  obtain ⟨i,rfl,hi,M⟩:=hrel;clear H0;by_cases hp:i<bs.length
  ·obtain ⟨c,hc⟩:=aD (l:=bs) (i:=i) hp
   obtain ⟨bb,oo,rfl,hcell⟩:=HH.out.read i c wr M.out hc;have HC:=aC (HH.out.call i c wr M.out hc);clear hc;go_wp2_with fail;refine HC.out.mono ?_;rintro e w1 ⟨r,rfl,hr1,hr2⟩
   cases r with
   |true=>
    have R1:=aC (hr1 rfl);clear hr1 hr2;go_wp2_with fail;go_ret
    exact ⟨i,rfl,fun _=>R1.out,fun h=>by omega⟩
   |false=>
    have R1:=aC (hr2 rfl);clear hr1 hr2;go_wp2_with fail;go_roundw
    case rel=>exact ⟨i+1,by go_num,hp,R1⟩
    case measure=>simp [intOf];omega
  ·go_wp2_with fail
   go_ret;have e:i=bs.length:=by omega
   subst e;exact ⟨-1,rfl,fun h=>by omega,fun _=>M.out⟩
theorem Mk (B:Option Addr) (cb:Nat) (bs:List Nat) (p1 p2 p3:Value) (I:Nat->World->Prop) (R:World->Prop) (w:World) (H:agb 176 #[p1,p2,p3] B bs I R) (h0:I 0 w) (hl:bs.length<=1000000):
  Calls Try.prog 175 #[.slice B bs.length cb,.func (.func 176) #[] #[p1,p2,p3]] w fun e w'=>∃r:Bool,e= .returned (.bool r)/\(r=true->R w')/\(r=false->I bs.length w'):=by
 have HC:=aC (Uh B cb bs p1 p2 p3 I R w H h0 hl);clear H h0;go_enter Try.func175,Try.ntmps175;go_wp2_with fail;refine HC.out.mono ?_;rintro e w1 ⟨n,rfl,h1,h2⟩;have H1:=aC (Gw h1 h2);clear h1 h2 HC;by_cases hn:0<=n
 ·go_wp2_with fail
  go_ret;exact ⟨true,aN (by simp),fun _=>H1.out.1 hn,fun h=>by cases h⟩
 ·go_wp2_with fail
  go_ret;exact ⟨false,aN (by simpa using hn),fun h=>(by cases h),fun _=>H1.out.2 (by omega)⟩
def DW (U:List Lb) (S:Kn) (t:Ut):Prop:=TG U S t\/WR U S t
theorem DW.sh {U:List Lb} {S:Kn} {t:Ut} (h:DW U S t):j_ t:=by
 rcases h with h|h
 ·exact h.sh
 ·exact h.sh
theorem DW.look {U:List Lb} {S:Kn} {t u:Ut} (h:DW U S t) (hK:KG U S) (hl:Looks S t u):DW U S u/\inst S.σ t=inst S.σ u:=by
 rcases h with h|h
 ·obtain ⟨a,_,b⟩:=hl.good hK h
  exact ⟨.inl a,b⟩
 ·cases hl with
  |here=>exact ⟨.inr h,rfl⟩
  |more _ s _ h8 _ _=>exact absurd h8 (bJ h.row).1
theorem DW.plain {U:List Lb} {S:Kn} {t:Ut} (h:DW U S t) (hr:av t.k=false):TG U S t:=by
 rcases h with h|h
 ·exact h
 ·have:=h.row
  rw [hr] at this
  cases this
theorem DW.row {U:List Lb} {S:Kn} {u:Ut} (h:DW U S u) (X:Nat->Prop) (s m:Nat) (first:Int) (w:World) (hS:bH X s m first w S) (hK:KG U S) (hU:U.length<=100000) (b:Nat) (hb:aF X w b u) (hr:av u.k=true):
  Calls Try.prog 103 #[pk s,pk b] w (Pg X U S u w):=by
 rcases h with g|g
 ·obtain ⟨k,n,fs,tl⟩:=u
  obtain rfl:n=0:=rU g.pend.1 (bJ hr).1 (bJ hr).2.1;refine (Pf X U s m first w S hS hK hU b k fs tl hb g hr).mono ?_;rintro e w' ⟨A,cap,cl,x,p,tv,he,h1,h2⟩;exact ⟨A,cap,cl,x,p,tv,he,h1.toI,h2⟩
 ·exact aap X U s m first w S hS hK hU b u hb g
def Gb (X:Nat->Prop) (S:Kn) (num:Int) (w:World) (hm:Nat) (l:List (Nat×Value)) (sz:Nat):Prop:=
 jV pk w hm l/\∀q∈l,q.2= .bool true/\∃u,aF X w q.1 u/\j_ u/\(gL (inst S.σ u)<=sz->¬bL num (inst S.σ u))
def Aj (X:Nat->Prop) (S:Kn) (num:Int) (hm:Nat) (l:List (Nat×Value)) (t:Ut) (w:World) (e:Ending) (w':World):Prop:=
 ∃r:Bool,e= .returned (.bool r)/\Fr (fun k=>k=hm) w w'/\(r=true->bL num (inst S.σ t))/\(r=false->¬bL num (inst S.σ t)/\∃l',jV pk w' hm l'/\∀q∈l',q∈l\/(q.2= .bool true/\∃u,aF X w' q.1 u/\j_ u/\¬bL num (inst S.σ u)))
def Yu (X:Nat->Prop) (U:List Lb) (S:Kn) (s m:Nat) (first num:Int) (hm:Nat) (t:Ut):Prop:=
 ∀(b:Nat) (w:World) (l:List (Nat×Value)),(∀k,X k->k<w.heap.size)->bH X s m first w S->aF X w b t->DW U S t->Gb X S num w hm l (gL (inst S.σ t))->Calls Try.prog 144 #[pk s,.int .i64 num,pk b,.map (some hm)] w (Aj X S num hm l t w)
theorem acU (X:Nat->Prop) (U:List Lb) (S:Kn) (s m:Nat) (first num:Int) (hm:Nat) (t:Ut) (H:Yu X U S s m first num hm t) (b:Nat) (w:World) (l:List (Nat×Value)) (p1 p2 p3:Nat) (hX:∀k,X k->k<w.heap.size) (hS:bH X s m first w S) (hb:aF X w b t) (g:DW U S t) (hI:Gb X S num w hm l (gL (inst S.σ t)))
  (c1:w.cell? ⟨p1,0,none⟩=some (.pointer (some ⟨s,0,none⟩))) (c2:w.cell? ⟨p2,0,none⟩=some (.int .i64 num)) (c3:w.cell? ⟨p3,0,none⟩=some (.map (some hm))):
  Calls Try.prog 176 #[.pointer (some ⟨b,0,none⟩),.pointer (some ⟨p1,0,none⟩),.pointer (some ⟨p2,0,none⟩),.pointer (some ⟨p3,0,none⟩)] w (Aj X S num hm l t w):=by
 have HC:=aC (H b w l hX hS hb g hI);clear H hX hS hb g hI;unfold pk at HC;go_enter Try.func176,Try.ntmps176;go_wp2_with fail;refine HC.out.mono ?_;rintro e w1 ⟨r,rfl,h1⟩;have H1:=aC h1;clear h1 HC c1 c2 c3;go_wp2_with fail;go_ret;exact ⟨r,rfl,H1.out⟩
structure DF (X:Nat->Prop) (U:List Lb) (S:Kn) (u:Ut) (w:World) (B:Option Addr) (bs:List Nat) (tv:Value):Prop where
 ex:∃(xs:List Ut) (p:Option Int),cO X w tv p/\bs.length=xs.length/\bs.length<=200000/\(∀(i c:Nat) (x:Ut),bs[i]?=some c->xs[i]?=some x->aF X w c x)/\(∀x∈xs,TG U S x/\gL (inst S.σ x)<gL (inst S.σ u))/\
  (∀v,bL v (inst S.σ u)↔p=some v\/∃x∈xs,bL v (inst S.σ x))
 rd:dH X 1 lC w B bs
theorem ae7 {X:Nat->Prop} {S:Kn} {num:Int} {w:World} {hm:Nat} {l:List (Nat×Value)} {sz:Nat} (h:Gb X S num w hm l sz):∀q∈l,Plain w q.1:=fun q hq=>by
 obtain ⟨_,u,hu,_⟩:=h.2 q hq;exact hu.plain
theorem ae8:(Try.prog.info? 105).map (fun i=>i.size)=some 5:=by kernel_rfl
theorem WX:∃i,Try.prog.info? 105=some i/\i.size≠0:=by
 have h:=ae8
 cases e:Try.prog.info? 105 with
 |none=>rw [e] at h;cases h
 |some i=>
  rw [e] at h;simp only [abg,Option.some.injEq] at h;exact ⟨i,rfl,by omega⟩
theorem akf (w:World) (v1 v2 v3:Value) (t1 t2 t3:TypeId) (w1:World) (hb:Below (((w.alloc (.cells #[v1] t1)).alloc (.cells #[v2] t2)).alloc (.cells #[v3] t3)).heap.size (((w.alloc (.cells #[v1] t1)).alloc (.cells #[v2] t2)).alloc (.cells #[v3] t3)) w1):
  w1.cell? ⟨w.heap.size,0,none⟩=some v1/\w1.cell? ⟨w.heap.size+1,0,none⟩=some v2/\w1.cell? ⟨w.heap.size+1+1,0,none⟩=some v3/\w.heap.size+3<=w1.heap.size:=by
 have hz:(((w.alloc (.cells #[v1] t1)).alloc (.cells #[v2] t2)).alloc (.cells #[v3] t3)).heap.size=w.heap.size+3:=by simp
 have z1:(w.alloc (.cells #[v1] t1)).heap.size=w.heap.size+1:=by simp
 have z2:((w.alloc (.cells #[v1] t1)).alloc (.cells #[v2] t2)).heap.size=w.heap.size+2:=by simp
 have a1:(((w.alloc (.cells #[v1] t1)).alloc (.cells #[v2] t2)).alloc (.cells #[v3] t3)).heap[w.heap.size]?=some (.cells #[v1] t1):=
  (adM _ _ _ (by omega)).trans ((adM _ _ _ (by omega)).trans (heap_alloc_new w _))
 have a2:(((w.alloc (.cells #[v1] t1)).alloc (.cells #[v2] t2)).alloc (.cells #[v3] t3)).heap[w.heap.size+1]?=some (.cells #[v2] t2):=by
  refine (adM _ _ _ (by omega)).trans ?_;rw [<-z1];exact heap_alloc_new _ _
 have a3:(((w.alloc (.cells #[v1] t1)).alloc (.cells #[v2] t2)).alloc (.cells #[v3] t3)).heap[w.heap.size+2]?=some (.cells #[v3] t3):=by
  rw [<-z2];exact heap_alloc_new _ _
 have b1:=(hb.block w.heap.size (by omega)).trans a1;have b2:=(hb.block (w.heap.size+1) (by omega)).trans a2;have b3:=(hb.block (w.heap.size+2) (by omega)).trans a3;have:=hb.size;exact ⟨by simp [adw,b1],by simp [adw,b2],by simp [adw,b3],by omega⟩
theorem WY (w:World):(zeroValue 4).run Try.prog w= .ok (.bool false) w:=by kernel_rfl
theorem jV.later {κ:Type} {kf:κ->Value} {w w':World} {b:Nat} {l:List (κ×Value)} (h:jV kf w b l) (hb:w'.heap[b]?=w.heap[b]?):jV kf w' b l:=by
 obtain ⟨es,clock,h1,h2⟩:=h;exact ⟨es,clock,hb.trans h1,h2⟩
theorem Gb.aU {X:Nat->Prop} {S:Kn} {num:Int} {w w':World} {hm:Nat} {l:List (Nat×Value)} {sz:Nat} (h:Gb X S num w hm l sz) (hb:Below w.heap.size w w'):Gb X S num w' hm l sz:=
 ⟨h.1.later (hb.block hm h.1.lt),fun q hq=>by
  obtain ⟨e,u,hu,hs,ho⟩:=h.2 q hq;exact ⟨e,u,hu.aU hb,hs,ho⟩⟩
theorem aF.QL {X:Nat->Prop} {w:World} {b:Nat} {u:Ut} (h:aF X w b u):
  ∃(A B:Option Addr) (ls:List ByteArray) (bs:List Nat) (ca cb:Nat) (ta:Option Addr),w.heap[b]?=some (.cells #[.int .i64 u.k,.int .i64 u.n,.slice A ls.length ca,.slice B bs.length cb,.pointer ta] 105 (0,0))/\ls.length=bs.length/\
   (av u.k=true->ls=ay u.fs)/\dH X 1 nT w A ls/\dH X 1 lC w B bs/\bs.length=u.fs.length/\(∀(i:Nat) (p:Lb×Ut) (c:Nat),u.fs[i]?=some p->bs[i]?=some c->aF X w c p.2)/\cO X w (.pointer ta) u.tl/\¬X b:=by
 obtain ⟨k,n,fs,tl⟩:=u;exact h.parts
theorem Ui {X:Nat->Prop} {U:List Lb} {S:Kn} {u:Ut} {w:World} {B:Option Addr} {bs:List Nat} {ta:Option Addr} (g:TG U S u) (hU:U.length<=100000) (h8:u.k≠8) (hr:av u.k=false) (hB:dH X 1 lC w B bs) (hl:bs.length=u.fs.length)
  (hk:∀(i:Nat) (p:Lb×Ut) (c:Nat),u.fs[i]?=some p->bs[i]?=some c->aF X w c p.2) (ht:cO X w (.pointer ta) u.tl):DF X U S u w B bs (.pointer ta):=by
 have hlen:=g.J9;obtain ⟨k,n,fs,tl⟩:=u;have h8:k≠8:=h8;have hr:av k=false:=hr;obtain ⟨rfl,_⟩:=mQ (S:=S) g.pend.1 g.sh h8 hr;refine ⟨⟨fs.map (·.2),none,ht,by rw [aaT];exact hl,?_,fun i c x hc hx=>?_,fun x hx=>?_,fun v=>?_⟩,hB⟩
 ·have hl:bs.length=fs.length:=hl
  have hlen:fs.length<=U.length+2:=hlen;omega
 ·rw [adg] at hx
  cases hp:fs[i]? with
  |none=>rw [hp] at hx;cases hx
  |some p=>
   rw [hp] at hx;simp only [abg,Option.some.injEq] at hx;subst hx;exact hk i p c hp hc
 ·obtain ⟨p,hp,rfl⟩:=aaN.1 hx
  exact ⟨g.child hp,qM g.pend.1 g.sh h8 hr hp⟩
 ·rw [V6 g.pend.1 g.sh h8 hr]
  constructor
  ·rintro ⟨p,hp,h⟩
   exact .inr ⟨p.2,aaN.2 ⟨p,hp,rfl⟩,h⟩
  ·rintro (e|⟨x,hx,h⟩)
   ·cases e
   ·obtain ⟨p,hp,rfl⟩:=aaN.1 hx
    exact ⟨p,hp,h⟩
theorem aaq {X:Nat->Prop} {U:List Lb} {S:Kn} {u:Ut} {w:World} {x:Fl} {p:Option Int} {cl:List (ByteArray×Nat)} {B:Option Addr} {tv:Value} (r:JD U S u x p) (hU:U.length<=100000) (h8:u.k≠8) (hc:iM X w cl x) (ht:cO X w tv p) (hB:dH X 1 lC w B (cl.map (·.2))):DF X U S u w B (cl.map (·.2)) tv:=by
 have hlen:=r.len;refine ⟨⟨x.map (·.2),p,ht,by simpa using hc.1,?_,fun i c y h1 h2=>?_,fun y hy=>?_,fun v=>?_⟩,hB⟩
 ·have:=hc.1
  simp only [aaT];omega
 ·rw [adg] at h1 h2
  cases e1:cl[i]? with
  |none=>rw [e1] at h1;cases h1
  |some c1=>
   cases e2:x[i]? with
   |none=>rw [e2] at h2;cases h2
   |some p1=>
    rw [e1] at h1;rw [e2] at h2;simp only [abg,Option.some.injEq] at h1 h2;subst h1 h2;exact (hc.2 i c1 p1 e1 e2).2
 ·obtain ⟨q,hq,rfl⟩:=aaN.1 hy
  exact ⟨r.el q hq,r.less hq⟩
 ·rw [r.occ h8]
  constructor
  ·rintro (e|⟨q,hq,h⟩)
   ·exact .inl e
   ·exact .inr ⟨q.2,aaN.2 ⟨q,hq,rfl⟩,h⟩
  ·rintro (e|⟨y,hy,h⟩)
   ·exact .inl e
   ·obtain ⟨q,hq,rfl⟩:=aaN.1 hy
    exact .inr ⟨q,hq,h⟩
theorem DF.aU {X:Nat->Prop} {U:List Lb} {S:Kn} {u:Ut} {w w':World} {B:Option Addr} {bs:List Nat} {tv:Value} (h:DF X U S u w B bs tv) (hb:Below w.heap.size w w'):DF X U S u w' B bs tv:=by
 obtain ⟨⟨xs,p,h1,h2,h3,h4,h5⟩,h6⟩:=h;exact ⟨⟨xs,p,h1.fr (Fr.below (X:=fun _=>False) hb) (fun _ _ e=>e.elim),h2,h3,fun i c x hc hx=>(h4 i c x hc hx).aU hb,h5⟩,h6.fr (Fr.below (X:=fun _=>False) hb) (fun _ _ e=>e.elim)⟩
theorem cO.ptr {X:Nat->Prop} {w:World} {v:Value} {tl:Option Int} (h:cO X w v tl):∃ta,v= .pointer ta:=by
 cases tl with
 |none=>exact ⟨none,h⟩
 |some q=>
  obtain ⟨b,e,_⟩:=h;exact ⟨_,e⟩
theorem aA.at2 {w:World} {base:Nat} {A:Option Addr} {cap:Nat} {l:List (ByteArray×Nat)} (h:dD w base A cap l) {j:Nat} {x:ByteArray×Nat} (hx:l[j]?=some x):
  ∃b o,A=some ⟨b,o,none⟩/\base<=b/\b<w.heap.size/\w.cell? ⟨b,o+j*2,none⟩=some (.string x.1)/\w.cell? ⟨b,o+j*2+1,none⟩=some (.pointer (some ⟨x.2,0,none⟩)):=by
 obtain ⟨b,o,rfl,hb,c0,c1⟩:=(aA.read jO h).child hx;exact ⟨b,o,rfl,(h.block b rfl).1,hb,c0,c1⟩
theorem JE {α:Type} {enc:α->List Value} (w:World) (x:α) (u:Value) (t:TypeId) (he:enc x=[u]) (H:Nat) (hH:w.heap.size=H):aX 1 enc (w.alloc (.cells #[u] t)) (H+1) (some ⟨H,0,none⟩) [x]:=by
 subst hH;exact qG w x u t he
theorem Aj.aU {X:Nat->Prop} {S:Kn} {num:Int} {hm:Nat} {l:List (Nat×Value)} {t:Ut} {w w1 w2:World} {e:Ending} (h:Aj X S num hm l t w e w1) (hb:Below w1.heap.size w1 w2):Aj X S num hm l t w e w2:=by
 obtain ⟨r,he,hf,h1,h2⟩:=h;refine ⟨r,he,hf.trans (Fr.below hb),h1,fun h=>?_⟩;obtain ⟨h3,l',h4,h5⟩:=h2 h;refine ⟨h3,l',h4.later (hb.block hm h4.lt),fun q hq=>?_⟩;rcases h5 q hq with h|⟨a,u,b,c⟩
 ·exact .inl h
 ·exact .inr ⟨a,u,b.aU hb,c⟩
theorem Gc {κ:Type} [DecidableEq κ] {a:κ} {v:Value}:∀{l:List (κ×Value)},oZ a l=some v->(a,v)∈l
 |[],h=>by rw [FR] at h;cases h
 |p::l,h=>by
  rw [wm] at h;split at h
  ·next e=>
   injection h with h
   rw [e,<-h];simp
  ·exact List.mem_cons_of_mem _ (Gc h)
theorem Ml {κ:Type} [DecidableEq κ] {a:κ} {v:Value} {l:List (κ×Value)} (h:oZ a l=none):nS a v l=l++[(a,v)]:=by
 refine x9 (n:=0) ?_;unfold oZ at h;simpa using h
theorem aar {S:Kn} {t u:Ut} (h:Looks S t u) {L:Sorts} (ho:dQ L u) (h8:u.k=8):u=aS u.n/\S.κ u.n=none:=by
 refine ⟨?_,h.end_ h8⟩;obtain ⟨k,n,fs,tl⟩:=u;exact (jK ho h8).1
theorem Gd {w:World} {ops:Array Oper} {rest:List Oper} {o:Oper} {a:Act} {Q:Exit->Act->World->Prop} (hgd:o.guard=none) (s x:Operand)
  (ho:o.op= .call {callee:=.builtin .append,args:=#[s,x],argTypes:=#[103,103]})
  (base:Nat) {A:Option Addr} {cap:Nat} {l:List Nat} (hs:a.eval s= .slice A l.length cap) (hown:aA 93 1 lC w base A cap l) {B:Nat} {A2:Option Addr} {c:Nat} {l2:List Nat} (hx:a.eval x= .slice A2 l2.length c) (hr:aX 1 lC w B A2 l2)
  (hlen:l.length+l2.length<=1000000000000) (hbase:base<=w.heap.size)
  (h:∀A' cap' w',aA 93 1 lC w' base A' cap' (l++l2)->w.grownBy w' ((aO A l.length cap).ownBlock)->
   ((aO A' (l.length+l2.length) cap').ownBlock=(aO A l.length cap).ownBlock\/(aO A' (l.length+l2.length) cap').ownBlock=some w.heap.size)->wpList Try.prog ops Q rest (a.put o.dst (.slice A' (l.length+l2.length) cap')) w'):wpList Try.prog ops Q (o::rest) a w:=by
 obtain ⟨i0,hi,hz0,hz1,hz2⟩:=info_parts acp;exact nX w uf OV hgd s x 103 ho base 93 i0 _ 8 Try.underlying103 hi hz0 hz1 hz2 rfl (by decide) hs hown hx hr (by unfold maxLen;omega) (by omega) hbase h
theorem acV (X:Nat->Prop) (U:List Lb) (S:Kn) (s m:Nat) (first num:Int) (hm:Nat) (hK:KG U S) (hU:U.length<=100000) (IB:X hm) (hsm:hm≠s/\hm≠m) (ze:S.κ num=none) (t:Ut)
  (ih:∀x,DW U S x->gL (inst S.σ x)<gL (inst S.σ t)->Yu X U S s m first num hm x):Yu X U S s m first num hm t:=by
 intro b w l hX hS hb g hI;have HX:=aC hX;obtain ⟨u,hl⟩:=qL hK.rk t;obtain ⟨gu,eu⟩:=g.look hK hl;have Uj:=aC hl;have HK:=aC hK;have HS:=aC hS;have HB:=aC hb;have HG:=aC gu;have HE:=aC eu;have HI:=aC hI;have zi:=aC ih;have HN:=aC ze;clear hl hK hX hS hb g gu eu hI ih ze;have hsz:s<w.heap.size:=(ade.1 HS.out.st).1;unfold pk;go_enter Try.func144,Try.ntmps144;go_wp2_with fail;have hbW:=ak (ak (ak (aT w.heap.size w) (.cells #[.pointer (some ⟨s,0,none⟩)] 25)) (.cells #[.int .i64 num] 3)) (.cells #[.map (some hm)] 180);have HL:=za X s m first _ S (HS.out.aU hbW) HK.out.rk b t u (HB.out.aU hbW) Uj.out;unfold pk at HL;refine HL.mono ?_;clear HL;rintro e w1 ⟨c,rfl,hc,hb1⟩;obtain ⟨x1,x2,x3,hz1⟩:=akf w _ _ _ _ _ _ w1 hb1;have M1:=aC (Gw hc (hbW.trans (hb1.mono hbW.size)));have Cv:=aC (Gw x1 (Gw x2 x3));obtain ⟨n0,n1⟩:=hc.cells;clear hc hb1 hbW HB;by_cases h8:u.k=8
 ·have hd:(u.k==8)=true:=by simp [h8]
  have H8:=aC h8;clear h8;go_wp2_with fail;go_quiet (fail);go_wp2_with fail;go_ret;obtain ⟨eu,hun⟩:=aar Uj.out (HG.out.plain (by rw [H8.out];rfl)).pend.1 H8.out
  have hoc:bL num (inst S.σ t)↔u.n=num:=by
   rw [HE.out,eu,aW,(HK.out.inv.unk _ hun).1,SY];rfl
  refine ⟨u.n==num,rfl,Fr.below (M1.out.2.trans (below_drewN (aT _ _) _)),fun h=>hoc.2 (by simpa using h),fun h=>⟨fun h2=>?_,l,(HI.out.aU (M1.out.2.trans (below_drewN (aT _ _) _))).1,fun q hq=>.inl hq⟩⟩;rw [hoc.1 h2] at h;simp at h
 ·have hd:(u.k==8)=false:=by simp [h8]
  have H8:=aC h8;clear h8;have HI1:=aC (HI.out.aU M1.out.2)
  have hkey:Hid (yB Try.prog 93 pk w1 c l):=aC (by
   obtain ⟨i,hi,hn⟩:=WX;exact EH Try.underlying93 hi hn M1.out.1.plain (ae7 HI1.out))
  cases hat:oZ c l with
  |some v=>
   obtain ⟨Vw,u',hu',Uk,ho'⟩:=HI1.out.2 _ (Gc hat);have Vw:v= .bool true:=Vw;have heq:u'=u:=hu'.WC M1.out.1 Uk HG.out.sh;have hget:(oZ c l).getD (Value.bool false)= .bool true:=by rw [hat,Vw];rfl
   have HO:Hid (¬bL num (inst S.σ t)):=aC (by
    have:=ho' (by rw [HE.out,heq];exact bN _);rw [heq] at this;rw [HE.out];exact this)
   clear hat Vw hu' Uk ho' heq;go_wp2_with (at_lookup;refine uE rfl _ _ false rfl HI1.out.1 hkey.out Try.underlying180 _ (WY _) rfl rfl ?_);go_ret
   exact ⟨false,rfl,Fr.below M1.out.2,fun h=>(by cases h),fun _=>⟨HO.out,l,HI1.out.1,fun q hq=>.inl hq⟩⟩
  |none=>
   have hget:(oZ c l).getD (Value.bool false)= .bool false:=by rw [hat];rfl
   have acW:=aC (Ml (v:=.bool true) hat);clear hat
   go_wp2_with (first
    |(at_lookup;refine uE rfl _ _ false rfl HI1.out.1 hkey.out Try.underlying180 _ (WY _) rfl rfl ?_)
    |(refine sw rfl _ _ _ rfl HI1.out.1 hkey.out Try.underlying180 (.bool true) rfl rfl rfl ?_;intro w2 hM2 hg2))
   go_frame;clear hget;have hhm:hm<w.heap.size:=HI.out.1.lt
   have hbx:∀(x:Nat) (v:Value),w.heap.size<=x->w1.cell? ⟨x,0,none⟩=some v->w2.cell? ⟨x,0,none⟩=some v:=fun x v hx hv=>by
    have hlt:x<w1.heap.size:=by
     rcases abE x w1.heap.size with g|g
     ·exact g
     ·simp [adw,aeU g] at hv
    exact (adN (a:=⟨x,0,none⟩) (hg2.block x hlt fun e=>by injection e with e;omega)).trans hv
   have b2:Hid (w2.cell? ⟨w.heap.size,0,none⟩=some (.pointer (some ⟨s,0,none⟩))/\w2.cell? ⟨w.heap.size+1,0,none⟩=some (.int .i64 num)/\w2.cell? ⟨w.heap.size+1+1,0,none⟩=some (.map (some hm))/\w.heap.size+3<=w2.heap.size):=aC ⟨hbx _ _ (bN _) Cv.out.1,hbx _ _ (by omega) Cv.out.2.1,hbx _ _ (by omega) Cv.out.2.2,zk hz1 hg2.size⟩;have hF:Fr (fun k=>k=hm) w w2:=(Fr.below M1.out.2).trans (Fr.grown hg2 fun k hk=>by injection hk with hk;exact hk.symm);have hnd:aF X w2 c u:=M1.out.1.fr (Fr.grown (X:=fun k=>k=hm) hg2 fun k hk=>by injection hk with hk;exact hk.symm) fun k _ e=>e▸IB
   have Z2:Hid (aF X w2 c u/\bH X s m first w2 S/\Fr (fun k=>k=hm) w w2/\∀sz,sz<gL (inst S.σ u)->Gb X S num w2 hm (nS c (.bool true) l) sz):=aC ⟨hnd,HS.out.fr hF fun k _ e=>by subst e;exact ⟨IB,hsm.1,hsm.2⟩,hF,fun sz hsz=>⟨hM2,fun q hq=>by
    rw [acW.out] at hq;rcases JQ.1 hq with hq|hq
    ·obtain ⟨e1,u',e2,e3,e4⟩:=HI1.out.2 q hq
     exact ⟨e1,u',e2.fr (Fr.grown (X:=fun k=>k=hm) hg2 fun k hk=>by injection hk with hk;exact hk.symm) fun k _ e=>e▸IB,e3,fun h=>e4 (by rw [HE.out];omega)⟩
    ·rw [aaW] at hq
     subst hq;exact ⟨rfl,u,hnd,HG.out.sh,fun h=>by omega⟩⟩⟩
   obtain ⟨A3,B3,ls,bs,ca,cb,ta,hb3,_,hl3,_,hB3,JF,hk3,ht3,_⟩:=hnd.QL;have c0:w2.cell? ⟨c,0,none⟩=some (.int .i64 u.k):=by simp [adw,hb3]
   have c3:w2.cell? ⟨c,3,none⟩=some (.slice B3 bs.length cb):=by simp [adw,hb3]
   have c4:w2.cell? ⟨c,4,none⟩=some (.pointer ta):=by simp [adw,hb3]
   have P3:=aC (Gw hB3 (Gw JF (Gw hk3 ht3)));clear hbx hF hnd hM2 hg2 hb3 hl3 hB3 JF hk3 ht3 n0 n1 x1 x2 x3 HI1 hkey Cv hd;go_quiet (fail);go_upto_if 45 with (go_at_call 102;refine (yc u.k _).mono ?_;rintro e w9 ⟨rfl,rfl⟩)
   go_cut [9,10] (fun s9 s10 wx=>∃B bs cb ta,s9= .slice B (RB bs) cb/\s10= .pointer ta/\Hid (DF X U S u wx B bs (.pointer ta)/\Below w2.heap.size w2 wx))
   case first=>as_aux_lemma=>
    cases hr:av u.k
    ·have hR:=aC hr
     go_wp2_with fail;go_meet;exact ⟨B3,bs,cb,ta,rfl,rfl,aC ⟨(Ui (HG.out.plain hR.out) hU H8.out hR.out P3.out.1 P3.out.2.1 P3.out.2.2.1 P3.out.2.2.2).aU (below_drewN (aT _ _) _),below_drewN (aT _ _) _⟩⟩
    ·have hR:=aC hr
     obtain ⟨bq1,_,_,_⟩:=b2.out;go_wp2_with fail;have hrow:=HG.out.row X s m first (w2.drewN nq) (Z2.out.2.1.aU (below_drewN (aT _ _) _)) HK.out hU c (Z2.out.1.aU (below_drewN (aT _ _) _)) hR.out;unfold pk at hrow;refine hrow.mono ?_;clear hrow;rintro e w3 ⟨A4,cap4,cl,x,p,tv,rfl,z1,z2,z3,z4,z5⟩;obtain ⟨tb,rfl⟩:=z3.ptr;have Y:=aC (Gw z1 (Gw z2 (Gw z3 (Gw z4 ((below_drewN (aT w2.heap.size w2) nq).trans z5)))));have hcl:cl.length<=100000:=by have:=z1.len;have:=z2.1;omega
     clear z1 z2 z3 z4 z5 bq1;go_wp2_with fail;go_loopw [9,54] (fun s9 s54 wr=>∃(i:Nat) (B:Option Addr) (cb:Nat) (bs:List Nat),s54= .int .i64 i/\s9= .slice B bs.length cb/\i<=cl.length/\Hid (bs=(cl.take i).map (·.2)/\aA 93 1 lC wr w3.heap.size B cb bs/\Below w3.heap.size w3 wr)) (fun _ s54 _=>cl.length-(intOf s54).toNat)
     case atStart=>exact ⟨0,none,0,[],rfl,rfl,h_ _,aC ⟨by simp,aA.nil,aT _ _⟩⟩
     case round=>
      obtain ⟨i,B,Ct,Ak,rfl,rfl,hi,M⟩:=hrel;by_cases hp:i<cl.length
      ·obtain ⟨d,hd⟩:=aD (l:=cl) (i:=i) hp
       obtain ⟨gb,go,rfl,_,hgz,k0,k1⟩:=aA.at2 Y.out.2.2.2.1 hd;have e0:=(M.out.2.2.cell (p:=⟨gb,go+i*2,none⟩) hgz).trans k0;have e1:=(M.out.2.2.cell (p:=⟨gb,go+i*2+1,none⟩) hgz).trans k1
       have hbl:Ak.length<=100000:=by
        have:=M.out.1;rw [this];simp;omega
       have Htk:Hid ((cl.take (i+1)).map (·.2)=(cl.take i).map (·.2)++[d.2]):=aC (by rw [GZ,hd];simp);have hwz:w3.heap.size<=wr.heap.size:=M.out.2.2.size;clear hd hgz k0 k1;go_wp2_with (at_builtin;refine Gd rfl (.tmp 58) (.tmp 61) rfl w3.heap.size (l:=Ak) rfl (aA.alloc (aA.alloc M.out.2.1 _) _) (l2:=[d.2]) rfl (JE _ d.2 _ _ rfl (wr.heap.size+1) (by simp)) (by simp;omega) (by simp;omega) ?_;intro A1 c1 w4 hown1 hg1 _);have MJ:Hid (Ak++[d.2]=(cl.take (i+1)).map (·.2)/\aA 93 1 lC w4 w3.heap.size A1 c1 (Ak++[d.2])/\Below w3.heap.size w3 w4):=aC ⟨by rw [Htk.out,M.out.1],hown1,eG (ak (ak M.out.2.2 _) _) hg1 (fun q hq=>(M.out.2.1.block q hq).1)⟩;clear hown1 hg1 e0 e1;go_roundw
       case rel=>exact ⟨i+1,A1,c1,Ak++[d.2],by go_num,by simp,hp,MJ⟩
       case measure=>simp [intOf];omega
      ·go_wp2_with fail
       go_meet
       have hbe:Ak=cl.map (·.2):=by
        have:=M.out.1;rw [CK (by omega)] at this;exact this
       refine ⟨B,Ak,Ct,tb,rfl,rfl,aC ⟨?_,Y.out.2.2.2.2.trans (M.out.2.2.mono Y.out.2.2.2.2.size)⟩⟩;rw [hbe]
       exact aaq Y.out.1 hU H8.out (Y.out.2.1.aU M.out.2.2) (Y.out.2.2.1.fr (Fr.below (X:=fun _=>False) M.out.2.2) (fun _ _ e=>e.elim)) (by
        rw [<-hbe]
        exact dH.uF uf M.out.2.1 fun k hk _ hx=>by
         have h1:=HX.out k hx;have h2:=b2.out.2.2.2;have h3:=Y.out.2.2.2.2.size;omega)
   case rest=>
    obtain ⟨B5,NC,cb5,t5,rfl,rfl,KI⟩:=hcut;obtain ⟨⟨xs,p,kt,agd,kle,kn,kg,agf⟩,krd⟩:=KI.out.1;have hbel:=KI.out.2;have hz2:w.heap.size+3<=wc.heap.size:=zk b2.out.2.2.2 hbel.size
    have Yv:∀(x:Nat) (v:Value),w2.cell? ⟨x,0,none⟩=some v->wc.cell? ⟨x,0,none⟩=some v:=fun x v hv=>by
     have hlt:x<w2.heap.size:=by
      rcases abE x w2.heap.size with g|g
      ·exact g
      ·simp [adw,aeU g] at hv
     exact (hbel.cell (p:=⟨x,0,none⟩) hlt).trans hv
    have bq2:=Yv _ _ b2.out.2.1;have BX:=aC (Gw (Yv _ _ b2.out.1) (Gw bq2 (Yv _ _ b2.out.2.2.1)));have akh:hm<wc.heap.size:=by omega
    have Zc:Hid (bH X s m first wc S/\aF X wc c u/\Fr (fun k=>k=hm) w wc/\∀sz,sz<gL (inst S.σ u)->Gb X S num wc hm (nS c (.bool true) l) sz):=aC ⟨Z2.out.2.1.aU hbel,Z2.out.1.aU hbel,Z2.out.2.2.1.trans (Fr.below hbel),fun sz h=>(Z2.out.2.2.2 sz h).aU hbel⟩;have KC:=aC (Gw agd (Gw kn (Gw kg (Gw agf krd))));clear kn kg agf krd hbel Yv KI b2 c0 c3 c4 agd;by_cases hpn:p=some num
    ·subst hpn
     obtain ⟨bt,hbt,Yw,hbq⟩:=kt;obtain rfl:t5=some ⟨bt,0,none⟩:=by simpa [pk] using hbt
     have t1:wc.cell? ⟨bt,1,none⟩=some (.int .i64 num):=by simp [adw,hbq]
     clear hbt Yw hbq;go_wp2_with fail;go_quiet (fail);go_wp2_with fail;go_ret;exact ⟨true,rfl,Zc.out.2.2.1.trans (Fr.below (below_drewN (aT _ _) _)),fun _=>by rw [HE.out];exact (KC.out.2.2.2.1 num).2 (.inl rfl),fun h=>by cases h⟩
    ·have HPN:=aC hpn
     have acY:Hid (∀W,Below wc.heap.size wc W->Calls Try.prog 175 #[.slice B5 NC.length cb5,.func (.func 176) #[] #[.pointer (some ⟨w.heap.size,0,none⟩),.pointer (some ⟨w.heap.size+1,0,none⟩),.pointer (some ⟨w.heap.size+1+1,0,none⟩)]] W fun e w'=>∃r:Bool,e= .returned (.bool r)/\Fr (fun k=>k=hm) wc w'/\(r=true->∃x∈xs,bL num (inst S.σ x))/\
       (r=false->∃l2,jV pk w' hm l2/\(∀q∈l2,q∈nS c (.bool true) l\/(q.2= .bool true/\∃u,aF X w' q.1 u/\j_ u/\¬bL num (inst S.σ u)))/\∀x∈xs,¬bL num (inst S.σ x))):=aC fun W hW=>by
      have hfW:Fr (fun k=>k=hm) wc W:=Fr.below hW;have hIs:∀{v:World} {k:Nat},Fr (fun k=>k=hm) wc v->k<v.heap.size->k=hm->X k:=fun _ _ e=>e▸IB
      have hbx:∀{v:World} {x:Nat} {y:Value},Fr (fun k=>k=hm) wc v->w.heap.size<=x->wc.cell? ⟨x,0,none⟩=some y->v.cell? ⟨x,0,none⟩=some y:=fun {v x y} hf hx hv=>by
       have hlt:x<wc.heap.size:=by
        rcases abE x wc.heap.size with g|g
        ·exact g
        ·simp [adw,aeU g] at hv
       exact (adN (a:=⟨x,0,none⟩) (hf.block x hlt fun e=>by have e:x=hm:=e;omega)).trans hv
      refine (Mk B5 cb5 NC _ _ _ (fun i v=>Fr (fun k=>k=hm) wc v/\∃l2,jV pk v hm l2/\(∀q∈l2,q∈nS c (.bool true) l\/(q.2= .bool true/\∃u,aF X v q.1 u/\j_ u/\¬bL num (inst S.σ u)))/\∀(j:Nat) (x:Ut),j<i->xs[j]?=some x->¬bL num (inst S.σ x)) (fun v=>Fr (fun k=>k=hm) wc v/\∃x∈xs,bL num (inst S.σ x)) W ⟨?_,?_⟩ ?_ (by omega)).mono ?_
      ·rintro i d wr ⟨hf,_⟩ hd
       obtain ⟨bb,oo,e,hx,hb,hcell⟩:=KC.out.2.2.2.2.Iw hd;exact ⟨bb,oo,e,(adN (a:=⟨bb,oo+i,none⟩) (hf.block bb hb fun e=>hx (by have e:bb=hm:=e;exact e▸IB))).trans hcell⟩
      ·rintro i d wr ⟨hf,l2,m1,m2,m3⟩ hd
       obtain ⟨x,hx⟩:=aD (l:=xs) (i:=i) (by rw [<-KC.out.1];exact bf hd);obtain ⟨gx,sx⟩:=KC.out.2.2.1 x (Yt hx);have hXw:∀k,X k->k<wr.heap.size:=fun k hk=>by have:=HX.out k hk;have:=hf.size;omega
       have hSw:bH X s m first wr S:=Zc.out.1.fr hf fun k _ e=>by subst e;exact ⟨IB,hsm.1,hsm.2⟩
       have hNw:aF X wr d x:=(KC.out.2.1 i d x hd hx).fr hf fun k _ e=>e▸IB
       have hIw:Gb X S num wr hm l2 (gL (inst S.σ x)):=⟨m1,fun q hq=>by
        rcases m2 q hq with h|⟨e,u',h1,h2,h3⟩
        ·obtain ⟨e,u',h1,h2,h3⟩:=(Zc.out.2.2.2 _ sx).2 q h
         exact ⟨e,u',h1.fr hf fun k _ e=>e▸IB,h2,h3⟩
        ·exact ⟨e,u',h1,h2,fun _=>h3⟩⟩
       refine (acU X U S s m first num hm x (zi.out x (.inl gx) (by rw [HE.out];exact sx)) d wr l2 w.heap.size (w.heap.size+1) (w.heap.size+1+1) hXw hSw hNw (.inl gx) hIw (hbx hf (bN _) BX.out.1) (hbx hf (by omega) BX.out.2.1) (hbx hf (by omega) BX.out.2.2)).mono ?_;rintro e w' ⟨r,rfl,f1,f2,f3⟩;refine ⟨r,rfl,fun h=>⟨hf.trans f1,x,Yt hx,f2 h⟩,fun h=>?_⟩;obtain ⟨f4,l3,k1,k2⟩:=f3 h;refine ⟨hf.trans f1,l3,k1,fun q hq=>?_,fun j y hj hy=>?_⟩
       ·rcases k2 q hq with h|h
        ·rcases m2 q h with h|⟨e,u',h1,h2,h3⟩
         ·exact .inl h
         ·exact .inr ⟨e,u',h1.fr f1 fun k _ e=>e▸IB,h2,h3⟩
        ·exact .inr h
       ·by_cases e:j=i
        ·subst e
         rw [hx] at hy;injection hy with hy
         exact hy▸f4
        ·exact m3 j y (by omega) hy
      ·exact ⟨hfW,_,((Zc.out.2.2.2 0 (by obtain ⟨k,n,fs,tl⟩:=inst S.σ u;rw [rM];omega)).1).later (hW.block hm akh),fun q hq=>.inl hq,fun j x hj=>by omega⟩
      ·rintro e w' ⟨r,rfl,h1,h2⟩
       cases r with
       |true=>exact ⟨true,rfl,(h1 rfl).1,fun _=>(h1 rfl).2,fun h=>by cases h⟩
       |false=>
        obtain ⟨a1,l3,a2,a3,a4⟩:=h2 rfl;refine ⟨false,rfl,a1,fun h=>(by cases h),fun _=>⟨l3,a2,a3,fun x hx=>?_⟩⟩;obtain ⟨j,hj⟩:=acr hx;exact a4 j x (by rw [KC.out.1];exact bf hj) hj
     have hend:Hid (∀(r:Bool) (w':World),Fr (fun k=>k=hm) wc w'->(r=true->∃x∈xs,bL num (inst S.σ x))->(r=false->∃l2,jV pk w' hm l2/\(∀q∈l2,q∈nS c (.bool true) l\/(q.2= .bool true/\∃u,aF X w' q.1 u/\j_ u/\¬bL num (inst S.σ u)))/\∀x∈xs,¬bL num (inst S.σ x))->Aj X S num hm l t w (.returned (.bool r)) w'):=aC fun r w' f h1 h2=>by
      refine ⟨r,rfl,Zc.out.2.2.1.trans f,fun h=>by rw [HE.out];exact (KC.out.2.2.2.1 num).2 (.inr (h1 h)),fun h=>?_⟩;obtain ⟨l2,a1,a2,a3⟩:=h2 h
      have hno:¬bL num (inst S.σ u):=fun ho=>by
       rcases (KC.out.2.2.2.1 num).1 ho with e|⟨x,hx,hox⟩
       ·exact HPN.out e
       ·exact a3 x hx hox
      refine ⟨by rw [HE.out];exact hno,l2,a1,fun q hq=>?_⟩;rcases a2 q hq with h|h
      ·rw [acW.out] at h
       rcases JQ.1 h with h|h
       ·exact .inl h
       ·rw [aaW] at h
        subst h;exact .inr ⟨rfl,u,Zc.out.2.1.fr f fun k _ e=>e▸IB,HG.out.sh,hno⟩
      ·exact .inr h
     cases p with
     |none=>
      have Ng:t5=none:=by have:aeX t5= .pointer none:=kt;simpa using this
      subst Ng;clear kt hpn;go_wp2_with fail
      first|(go_region_with (go_at_call 175;(with_reducible refine (acY.out _ ?_).mono ?_);(first|exact aT _ _|exact (aT _ _).drew);rintro e w5 ⟨r,rfl,f1,f2,f3⟩;have RR:=aC (hend.out r w5 f1 f2 f3);clear f1 f2 f3))|fail
      all_goals
       go_wp2_with fail;go_ret
       exact RR.out.aU (by first|exact aT _ _|exact (aT _ _).drew)
     |some q=>
      obtain ⟨bt,hbt,Yw,hbq⟩:=kt;obtain rfl:t5=some ⟨bt,0,none⟩:=by simpa [pk] using hbt
      have zo:bt<wc.heap.size:=(ade.1 hbq).1;have aki:bt≠hm:=fun e=>Yw (e▸IB);have t1:wc.cell? ⟨bt,1,none⟩=some (.int .i64 q):=by simp [adw,hbq]
      have hqn:q≠num:=fun e=>hpn (by rw [e]);have hqd:(q==num)=false:=by simpa using hqn
      have hnz:w.heap.size+1<wc.heap.size:=by omega
      have hnh:w.heap.size+1≠hm:=by omega
      clear hbt Yw hbq hpn hqn;go_wp2_with fail
      go_region_held3 (fun v=>v.cell? ⟨bt,1,none⟩=some (.int .i64 q)/\v.cell? ⟨w.heap.size+1,0,none⟩=some (.int .i64 num)) (first|go_keep|exact ⟨y1,y2⟩)
       ((go_at_call 175;(with_reducible refine (acY.out _ ?_).mono ?_);(first|exact aT _ _|exact (aT _ _).drew);rintro e w5 ⟨r,rfl,f1,f2,f3⟩;have RR:=aC (hend.out r w5 f1 f2 f3);have y1:=(adN (a:=⟨bt,1,none⟩) (f1.block bt zo aki)).trans t1;have y2:=(adN (a:=⟨w.heap.size+1,0,none⟩) (f1.block (w.heap.size+1) hnz hnh)).trans bq2;clear f1 f2 f3))
      all_goals
       go_wp2_with fail;go_ret;exact RR.out.aU (by first|exact aT _ _|exact (aT _ _).drew)
theorem ac0 (X:Nat->Prop) (U:List Lb) (S:Kn) (s m:Nat) (first num:Int) (hm:Nat) (hK:KG U S) (hU:U.length<=100000) (IB:X hm) (hsm:hm≠s/\hm≠m) (ze:S.κ num=none):∀(n:Nat) (t:Ut),gL (inst S.σ t)<=n->Yu X U S s m first num hm t:=by
 intro n
 induction n with
 |zero=>
  intro t ht
  cases h:inst S.σ t with
  |mk k n fs tl=>
   rw [h,rM] at ht
   omega
 |succ n ih=>exact fun t ht=>acV X U S s m first num hm hK hU IB hsm ze t fun x _ hx=>ih x (by omega)
theorem eqS (a b:ByteArray):(a.toList==b.toList)=decide (a=b):=by
 rw [Bool.eq_iff_iff,beq_iff_eq,decide_eq_true_eq];constructor
 ·intro e
  rw [yH,yH] at e
  cases a;cases b;simpa using Array.toList_inj.1 e
 ·exact fun e=>by rw [e]
theorem aas (a b:ByteArray) (p:Option Addr) (q:Nat) (w:World) (hq:w.cell? ⟨q,0,none⟩=some (.string b)):
  Calls Try.prog 184 #[.agg #[.string a,.pointer p],.pointer (some ⟨q,0,none⟩)] w fun e w'=>e= .returned (.bool (decide (a=b)))/\Below w.heap.size w w':=by
 have hz:q<w.heap.size:=by
  rcases abE q w.heap.size with g|g
  ·exact g
  ·simp [adw,aeU g] at hq
 go_enter Try.func184,Try.ntmps184;go_wp2_with fail;go_ret;exact ⟨aN (eqS a b),(aT _ _).alloc (bN _) _⟩
theorem aat (a b:ByteArray) (p:Option Addr) (q:Nat) (w:World) (hq:w.cell? ⟨q,0,none⟩=some (.string b)):
  Calls Try.prog 178 #[.agg #[.string a,.pointer p],.pointer (some ⟨q,0,none⟩)] w fun e w'=>e= .returned (.bool (decide (a=b)))/\Below w.heap.size w w':=by
 have hz:q<w.heap.size:=by
  rcases abE q w.heap.size with g|g
  ·exact g
  ·simp [adw,aeU g] at hq
 go_enter Try.func178,Try.ntmps178;go_wp2_with fail;go_ret;exact ⟨aN (eqS a b),(aT _ _).alloc (bN _) _⟩
def Yx (K:Nat) (q:Nat) (cl:List (ByteArray×Nat)) (P:ByteArray×Nat->Bool) (w:World):Prop:=
 ∀(c:ByteArray×Nat) (wr:World),c∈cl->Below w.heap.size w wr->Calls Try.prog K #[.agg #[.string c.1,.pointer (some ⟨c.2,0,none⟩)],.pointer (some ⟨q,0,none⟩)] wr fun e w'=>e= .returned (.bool (P c))/\Below wr.heap.size wr w'
def ae_ (P:ByteArray×Nat->Bool) (cl:List (ByteArray×Nat)) (n:Int):Prop:=
 (n= -1/\∀c∈cl,P c=false)\/∃(i:Nat) (c:ByteArray×Nat),n=i/\cl[i]?=some c/\P c=true/\∀(j:Nat) (d:ByteArray×Nat),j<i->cl[j]?=some d->P d=false
theorem yh (K:Nat) (hK:K=184\/K=178\/K=182) (q:Nat) (A:Option Addr) (cap:Nat) (cl:List (ByteArray×Nat)) (P:ByteArray×Nat->Bool) (w:World) (hr:aX 2 jY w w.heap.size A cl) (hl:cl.length<=1000000) (H:Yx K q cl P w):
  Calls Try.prog 177 #[.slice A cl.length cap,.func (.func K) #[] #[.pointer (some ⟨q,0,none⟩)]] w fun e w'=>∃n:Int,e= .returned (.int .i64 n)/\ae_ P cl n/\Below w.heap.size w w':=by
 have HH:=aC H;have HR:=aC hr;clear H hr;rcases hK with rfl|rfl|rfl
 all_goals
  go_enter Try.func177,Try.ntmps177;go_wp2_with fail;go_loopw [8] (fun s8 wr=>∃i:Nat,s8= .int .i64 i/\i<=cl.length/\Hid ((∀(j:Nat) (d:ByteArray×Nat),j<i->cl[j]?=some d->P d=false)/\Below w.heap.size w wr)) (fun s8 _=>cl.length-(intOf s8).toNat)
  case atStart=>exact ⟨0,rfl,h_ _,aC ⟨fun j d h=>by omega,aT _ _⟩⟩
  case round=>
   obtain ⟨i,rfl,hi,M⟩:=hrel;by_cases hp:i<cl.length
   ·obtain ⟨c,hc⟩:=aD (l:=cl) (i:=i) hp
    obtain ⟨b,o,rfl,hb,k0,k1⟩:=HR.out.child hc;have e0:=(M.out.2.cell (p:=⟨b,o+i*2,none⟩) hb).trans k0;have e1:=(M.out.2.cell (p:=⟨b,o+i*2+1,none⟩) hb).trans k1;have HC:=aC (HH.out c wr (Yt hc) M.out.2);have Hc:=aC hc;clear hc k0 k1 hb;go_wp2_with fail;refine HC.out.mono ?_;rintro e w1 ⟨rfl,hb1⟩;have B1:=aC (ah M.out.2 hb1);clear hb1 e0 e1
    cases hpc:P c with
    |true=>
     have Hpc:=aC hpc;go_wp2_with fail;go_ret
     exact ⟨i,rfl,.inr ⟨i,c,rfl,Hc.out,Hpc.out,M.out.1⟩,B1.out⟩
    |false=>
     have Hpc:=aC hpc;go_wp2_with fail;go_roundw
     case rel=>
      exact ⟨i+1,by go_num,hp,aC ⟨fun j d h hd=>by
       by_cases e:j=i
       ·subst e
        rw [Hc.out] at hd;injection hd with hd
        exact hd▸Hpc.out
       ·exact M.out.1 j d (by omega) hd,B1.out⟩⟩
     case measure=>simp [intOf];omega
   ·go_wp2_with fail
    go_ret;refine ⟨-1,rfl,.inl ⟨rfl,fun c hc=>?_⟩,M.out.2⟩;obtain ⟨j,hj⟩:=acr hc;exact M.out.1 j c (by have:=bf hj;omega) hj
theorem Mq (q:Nat) (A:Option Addr) (cap:Nat) (cl:List (ByteArray×Nat)) (P:ByteArray×Nat->Bool) (w:World) (hr:aX 2 jY w w.heap.size A cl) (hl:cl.length<=1000000) (H:Yx 184 q cl P w):
  Calls Try.prog 183 #[.slice A cl.length cap,.func (.func 184) #[] #[.pointer (some ⟨q,0,none⟩)]] w fun e w'=>e= .returned (.bool (cl.any P))/\Below w.heap.size w w':=by
 have HC:=aC (yh _ (.inl rfl) q A cap cl P w hr hl H);clear H hr;go_enter Try.func183,Try.ntmps183;go_wp2_with fail;refine HC.out.mono ?_;rintro e w1 ⟨n,rfl,hf,hb⟩;have HF:=aC (Gw hf hb);clear hf hb HC;by_cases hn:0<=n
 ·go_wp2_with fail
  go_ret;refine ⟨aN ?_,HF.out.2⟩;rcases HF.out.1 with ⟨e,_⟩|⟨i,c,_,h1,h2,_⟩
  ·omega
  ·have:cl.any P=true:=aeY.2 ⟨c,Yt h1,h2⟩
   simp [this]
 ·go_wp2_with fail
  go_ret;refine ⟨aN ?_,HF.out.2⟩;rcases HF.out.1 with ⟨_,h⟩|⟨i,c,e,_⟩
  ·have:cl.any P=false:=by
    rw [Bool.eq_false_iff];intro hh;obtain ⟨c,hc,hp⟩:=aeY.1 hh;rw [h c hc] at hp
    cases hp
   simp [this,hn]
  ·omega
def sG (l:ByteArray) (cl:List (ByteArray×Nat)):Bool:=cl.any fun d=>decide (d.1=l)
theorem ND (l:ByteArray) (p:Option Addr) (q:Nat) (A:Option Addr) (cap:Nat) (cl:List (ByteArray×Nat)) (w:World) (hq:w.cell? ⟨q,0,none⟩=some (.slice A cl.length cap)) (hr:aX 2 jY w w.heap.size A cl) (hl:cl.length<=1000000):
  Calls Try.prog 182 #[.agg #[.string l,.pointer p],.pointer (some ⟨q,0,none⟩)] w fun e w'=>e= .returned (.bool (sG l cl))/\Below w.heap.size w w':=by
 have hz:q<w.heap.size:=by
  rcases abE q w.heap.size with g|g
  ·exact g
  ·simp [adw,aeU g] at hq
 have HR:=aC hr;clear hr;go_enter Try.func182,Try.ntmps182;go_wp2_with fail;have hba:=ak (aT w.heap.size w) (.cells #[.string l,.pointer p] 150)
 have agh:Yx 184 w.heap.size cl (fun d=>decide (d.1=l)) (w.alloc (.cells #[.string l,.pointer p] 150)):=fun c wr _ hb=>by
  refine aas c.1 l _ w.heap.size wr ((hb.cell (p:=⟨w.heap.size,0,none⟩) (by simp)).trans ?_);simp only [adw,heap_alloc_new];rfl
 refine (Mq w.heap.size A cap cl _ _ ((HR.out.below hba).more hba.size) hl agh).mono ?_;rintro e w1 ⟨rfl,hb1⟩;have B1:=aC (ah hba hb1);clear hb1 hba agh;go_wp2_with fail;go_ret;exact ⟨rfl,B1.out⟩
theorem Mr {P:Program} (w:World) (t e ty:TypeId) (z:Value) (ht:P.underlying t=some (.slice e)) (hv:∀w,(zeroValue e).run P w= .ok z w) (b o n c:Nat) (hn:0<n) (Z:List Value) (hZ:(Builtin.zeroCells z.cells n).toList=Z)
  (hc:∀j,j<Z.length->(w.cell? ⟨b,o+j,none⟩).isSome=true) (hf:∀j,j<Z.length->w.frozen? ⟨b,o+j,none⟩=false) (h1:∀v∈Z,v.oneCell'=true):
  (Builtin.clear_ #[t] ty #[.slice (some ⟨b,o,none⟩) n c]).run P w= .ok (.tuple #[]) (w.setCells b o Z):=by
 subst hZ;have hst:=run_storeCells_cells (P:=P) b o (Builtin.zeroCells z.cells n).toList 0 w (by simpa using hc) (by simpa using hf) h1;simp only [Nat.add_zero] at hst;obtain ⟨m,rfl⟩:∃m,n=m+1:=⟨n-1,by omega⟩;simp [Builtin.clear_,run_underlying ht,hv,hst]
theorem ahU (w:World):(zeroValue 150).run Try.prog w= .ok (.agg #[.string pR,.pointer none]) w:=by kernel_rfl
def zsC (n:Nat):List Value:=(Builtin.zeroCells (Value.agg #[.string pR,.pointer none]).cells n).toList
theorem ac2 (n:Nat):(zsC n).length=n*2:=by
 show ((Builtin.zeroCells #[.string pR,.pointer none] n).toList).length=_;simp [Builtin.zeroCells]
theorem ac3 (n:Nat):∀v∈zsC n,v.oneCell'=true:=by
 intro v hv;have hv:v∈(Builtin.zeroCells #[.string pR,.pointer none] n).toList:=hv;simp only [Builtin.zeroCells,Array.toList_map,aaN] at hv;obtain ⟨i,_,rfl⟩:=hv;have:i % 2=0\/i % 2=1:=by omega
 show ((#[Value.string pR,.pointer none]:Array Value)[i % 2]!).oneCell'=true;rcases this with h|h<;>rw [h]<;>rfl
theorem dD.beyond {base g cap:Nat} {l:List (ByteArray×Nat)}:∀(vs:List Value) (o:Nat) (w:World),dD w base (some ⟨g,0,none⟩) cap l->l.length*2<=o->dD (w.setCells g o vs) base (some ⟨g,0,none⟩) cap l/\w.grownBy (w.setCells g o vs) (some g)
 |[],_,w,h,_=>⟨h,World.grownBy.refl _ _⟩
 |v::vs,o,w,h,ho=>by
  have h':w.ownsRow base 150 2 (.slice (some ⟨g,0,none⟩) l.length cap) l.length (l.flatMap jY):=h;obtain ⟨h2,h3⟩:=lM.stored h' o v;rw [List.set_eq_of_length_le (by rw [vI jO];exact ho)] at h2;obtain ⟨h4,h5⟩:=dD.beyond vs (o+1) _ (show dD _ base (some ⟨g,0,none⟩) cap l from h2) (by omega);exact ⟨h4,fD h3 h5⟩
theorem afa {w:World} {base g cap:Nat} {l:List (ByteArray×Nat)} (h:dD w base (some ⟨g,0,none⟩) cap l) {k:Nat} (hk:k<l.length) (ty:TypeId) (c:Nat):
  (Builtin.clear_ #[146] ty #[.slice (some ⟨g,k*2,none⟩) (l.length-k) c]).run Try.prog w= .ok (.tuple #[]) (w.setCells g (k*2) (zsC (l.length-k))):=by
 have hcells:∀j,j<(l.length-k)*2->(w.cell? ⟨g,k*2+j,none⟩).isSome=true:=fun j hj=>by
  obtain ⟨x,hx⟩:=aD (l:=l) (i:=k+j / 2) (by omega);obtain ⟨_,_,c0,c1,_,_⟩:=dD.at_ h hx;rcases (by omega:j % 2=0\/j % 2=1) with e|e
  ·rw [show k*2+j=(k+j / 2)*2 by omega,c0];rfl
  ·rw [show k*2+j=(k+j / 2)*2+1 by omega,c1];rfl
 exact Mr w _ _ ty _ Try.underlying146 ahU g (k*2) _ _ (by omega) _ rfl (fun j hj=>hcells j (by have hj':j<(zsC (l.length-k)).length:=hj;rw [ac2] at hj';exact hj')) (fun j _=>lM.frozenAt h _) (ac3 _)
theorem QM (q base g cap:Nat) (cl:List (ByteArray×Nat)) (P:ByteArray×Nat->Bool) (w:World) (h:dD w base (some ⟨g,0,none⟩) cap cl) (hl:cl.length<=1000000)
  (H:∀(c:ByteArray×Nat) (wr:World),c∈cl->w.grownBy wr (some g)->Calls Try.prog 182 #[.agg #[.string c.1,.pointer (some ⟨c.2,0,none⟩)],.pointer (some ⟨q,0,none⟩)] wr fun e w'=>e= .returned (.bool (P c))/\Below wr.heap.size wr w'):
  Calls Try.prog 180 #[.slice (some ⟨g,0,none⟩) cl.length cap,.func (.func 182) #[] #[.pointer (some ⟨q,0,none⟩)]] w
   fun e w'=>∃n,n=(cl.filter fun c=> !P c).length/\e= .returned (.slice (some ⟨g,0,none⟩) n cap)/\dD w' base (some ⟨g,0,none⟩) cap (cl.filter fun c=> !P c)/\w.grownBy w' (some g):=by
 have HH:=aC H;have HO:=aC h;have HIx:=aC (yh _ (.inr (.inr rfl)) q (some ⟨g,0,none⟩) cap cl P w (aA.read jO h) hl (fun c wr hc hb=>H c wr hc (below_grown hb _)));have hcap:cl.length<=cap:=aA.cZ h;clear H h;go_enter Try.func180,Try.ntmps180;go_wp2_with fail;refine HIx.out.mono ?_;clear HIx;rintro e w1 ⟨n,rfl,hf,hb⟩;have B1:=aC hb;clear hb;rcases hf with ⟨rfl,hall⟩|⟨i,c,rfl,hc,hpc,hlow⟩
 ·have ac5:=aC hall
  clear hall;go_wp2_with fail;go_ret;have hfe:cl.filter (fun c=> !P c)=cl:=aeZ.2 fun c hc=>by rw [ac5.out c hc];rfl
  exact ⟨cl.length,by rw [hfe],rfl,by rw [hfe];exact aA.below HO.out B1.out (bN _),below_grown B1.out _⟩
 ·have hil:=bf hc
  have hie:((i:Int)== -1)=false:=beq_eq_false_iff_ne.2 (by omega);have Hc:=aC (Gw hc (Gw hpc hlow));clear hc hpc hlow;go_wp2_with fail;obtain ⟨wo,rfl⟩:∃wo:World,wo=w1:=⟨_,rfl⟩;go_loopw [5,6] (fun s5 s6 wr=>∃(i j:Nat) (l:List (ByteArray×Nat)),s5= .int .i64 i/\s6= .int .i64 j/\i<j/\j<=cl.length/\Hid (l.length=cl.length/\l.take i=(cl.take j).filter (fun c=> !P c)/\(∀k,j<=k->l[k]?=cl[k]?)/\dD wr base (some ⟨g,0,none⟩) cap l/\w.grownBy wr (some g))) (fun _ s6 _=>cl.length-(intOf s6).toNat)
  case atStart=>
   refine ⟨i,i+1,cl,rfl,by go_num,by omega,hil,aC ⟨rfl,?_,fun k _=>rfl,aA.below HO.out B1.out (bN _),below_grown B1.out _⟩⟩;rw [GZ,Hc.out.1,aeW]
   have h1:(cl.take i).filter (fun c=> !P c)=cl.take i:=aeZ.2 fun d hd=>by
    obtain ⟨k,hk⟩:=acr hd;have hki:=bf hk;rw [zH] at hki;rw [List.getElem?_take_of_lt (by omega)] at hk;rw [Hc.out.2.2 k d (by omega) hk];rfl
   rw [h1];simp [Hc.out.2.1]
  case round=>
   clear Hc hie;obtain ⟨i,j,l,rfl,rfl,hij,hj,M⟩:=hrel;have hll:Hid (l.length=cl.length):=aC M.out.1;by_cases hp:j<cl.length
   ·obtain ⟨v,hv⟩:=aD (l:=cl) (i:=j) hp
    have hvl:l[j]?=some v:=(M.out.2.2.1 j (bN _)).trans hv;obtain ⟨_,hgz,v0,v1,_,_⟩:=dD.at_ M.out.2.2.2.1 hvl;have HC:=aC (fun W=>HH.out v W (Yt hv));have Hv:=aC hv;have hji:i<cl.length:=by omega
    clear hv hvl;go_wp2_with fail;have hga:=RL M.out.2.2.2.2 (.cells #[.string v.1,.pointer (some ⟨v.2,0,none⟩)] 150);refine (HC.out _ hga).mono ?_;rintro e w2 ⟨rfl,hb2⟩;have hoa:=aA.below (aA.alloc M.out.2.2.2.1 (.cells #[.string v.1,.pointer (some ⟨v.2,0,none⟩)] 150)) hb2 (bN _);have hx0:(wr.alloc (.cells #[.string v.1,.pointer (some ⟨v.2,0,none⟩)] 150)).heap[wr.heap.size]?=_:=heap_alloc_new wr _;have hx2:=(hb2.block wr.heap.size (by simp)).trans hx0;have G:=aC (Gw hoa (o7 hga hb2));have b0:w2.cell? ⟨wr.heap.size,0,none⟩=some (.string v.1):=by simp [adw,hx2]
    have b1:w2.cell? ⟨wr.heap.size,1,none⟩=some (.pointer (some ⟨v.2,0,none⟩)):=by simp [adw,hx2]
    clear hga hb2 hoa hx0 hx2 v0 v1 hgz
    cases hpv:P v with
    |true=>
     have Hpv:=aC hpv;go_wp2_with fail;go_roundw
     case rel=>
      refine ⟨i,j+1,l,rfl,by go_num,by omega,hp,aC ⟨M.out.1,?_,fun k hk=>M.out.2.2.1 k (by omega),G.out.1,G.out.2⟩⟩;rw [GZ,Hv.out,aeW,M.out.2.1];simp [Hpv.out]
     case measure=>simp [intOf];omega
    |false=>
     have Hpv:=aC hpv;obtain ⟨y,hy⟩:=aD (l:=l) (i:=i) (by have:=hll.out;omega);obtain ⟨_,hgz,y0,y1,fy0,fy1⟩:=dD.at_ G.out.1 hy;have GS:=aC (dD.set G.out.1 hy v)
     have hset:Hid ((l.set i v).take (i+1)=(cl.take (j+1)).filter (fun c=> !P c)):=aC (by
      rw [GZ,List.getElem?_set_self (bf hy),List.take_set_of_le (bN _),M.out.2.1];rw [GZ,Hv.out,aeW];simp [Hpv.out])
     clear hy;go_wp2_with fail;go_roundw
     case rel=>
      exact ⟨i+1,j+1,l.set i v,by go_num,by go_num,by omega,hp,aC ⟨by rw [List.length_set];exact M.out.1,hset.out,fun k hk=>by rw [List.getElem?_set_ne (by omega)];exact M.out.2.2.1 k (by omega),GS.out.1,fD G.out.2 GS.out.2⟩⟩
     case measure=>simp [intOf];omega
   ·have hje:j=cl.length:=by omega
    subst hje;have hcl:=fun ty=>afa M.out.2.2.2.1 (k:=i) (by have:=hll.out;omega) ty (cap-i);rw [hll.out] at hcl;have anC:i<=cap:=by omega
    have al3:i<cap:=by omega
    go_wp2_with fail;go_ret;have hfl:l.take i=cl.filter (fun c=> !P c):=by rw [M.out.2.1,List.take_length]
    have hlen:i=(cl.filter (fun c=> !P c)).length:=by
     rw [<-hfl,zH];have:=hll.out;omega
    obtain ⟨h1,h2⟩:=dD.beyond (zsC (cl.length-i)) (i*2) wr (aA.cut jO M.out.2.2.2.1 (k:=i) (by have:=hll.out;omega)) (by rw [hfl,<-hlen];exact bN _);rw [hfl] at h1;exact ⟨i,hlen,rfl,h1,fD M.out.2.2.2.2 h2⟩
theorem Ul (q base:Nat) (A:Option Addr) (cap:Nat) (cl:List (ByteArray×Nat)) (P:ByteArray×Nat->Bool) (w:World) (h:dD w base A cap cl) (hl:cl.length<=1000000)
  (H:∀(c:ByteArray×Nat) (wr:World),c∈cl->(∀k,k<w.heap.size->k<base->wr.heap[k]?=w.heap[k]?)->Calls Try.prog 182 #[.agg #[.string c.1,.pointer (some ⟨c.2,0,none⟩)],.pointer (some ⟨q,0,none⟩)] wr fun e w'=>e= .returned (.bool (P c))/\Below wr.heap.size wr w'):
  Calls Try.prog 180 #[.slice A cl.length cap,.func (.func 182) #[] #[.pointer (some ⟨q,0,none⟩)]] w
   fun e w'=>∃n,n=(cl.filter fun c=> !P c).length/\e= .returned (.slice A n cap)/\dD w' base A cap (cl.filter fun c=> !P c)/\Fr (fun k=>base<=k) w w':=by
 cases A with
 |none=>
  rcases h.2 with ⟨hv,hn⟩|⟨g,cap',cur,hv,_⟩
  ·have hcl:cl=[]:=kZ hn
   subst hcl;have HIx:=aC (yh _ (.inr (.inr rfl)) q none cap [] P w (aA.read jO h) hl (fun c wr hc=>by simp at hc));have HO:=aC h;clear H h hn hv hl;go_enter Try.func180,Try.ntmps180;go_wp2_with fail;refine HIx.out.mono ?_;clear HIx;rintro e w1 ⟨n,rfl,hf,hb⟩;have B1:=aC hb;clear hb
   obtain rfl:n= -1:=by
    rcases hf with ⟨e,_⟩|⟨i,c,_,hc,_⟩
    ·exact e
    ·simp at hc
   clear hf;go_wp2_with fail;go_ret;exact ⟨0,rfl,rfl,aA.below HO.out B1.out (bN _),Fr.below B1.out⟩
  ·cases hv
 |some a=>
  rcases h.2 with ⟨hv,hn⟩|⟨g,cap',cur,hv,hbg,_⟩
  ·cases hv
  ·injection hv with hv _ _
   injection hv with hv
   subst hv;refine (QM q base g cap cl P w h hl fun c wr hc hg=>H c wr hc fun k hk hkb=>hg.block k hk fun e=>by injection e with e;omega).mono ?_;rintro e w' ⟨n,hn,he,h1,h2⟩;exact ⟨n,hn,he,h1,Fr.grown h2 fun k hk=>by injection hk with hk;omega⟩
theorem Um (V:Option Addr) (cv:Nat) (vs:List (ByteArray×Nat)) (w:World) (hr:aX 2 jY w w.heap.size V vs) (hl:vs.length<=1000000):
  Calls Try.prog 181 #[.slice V vs.length cv] w fun e w'=>∃V' cv',e= .returned (.slice V' vs.length cv')/\dD w' w.heap.size V' cv' vs/\Below w.heap.size w w':=by
 cases V with
 |none=>
  have hv:vs=[]:=by
   cases vs with
   |nil=>rfl
   |cons v vs=>
    obtain ⟨_,_,h,_⟩:=hr (by simp)
    cases h
  subst hv;go_enter Try.func181,Try.ntmps181;go_wp2_with fail;rw [ae0 _ _ _ _ _ _ _ _ Try.underlying146];go_wp2_with fail;go_ret
  exact ⟨none,0,rfl,aA.nil,aT _ _⟩
 |some a=>
  have hown0:=dV 150 2 jY w;have hb0:=ak (aT w.heap.size w) (.cells #[] 150);go_enter Try.func181,Try.ntmps181;go_wp2_with fail;rw [ae0 _ _ _ _ _ _ _ _ Try.underlying146];go_wp2_with (at_builtin;refine F7 rfl (.tmp 5) (.tmp 6) rfl w.heap.size (l:=[]) rfl hown0 (l2:=vs) rfl (aX.below hr hb0) (by simp;omega) (by simp) ?_;intro A2 cap2 w3 hown3 hg3 _);have mW:=eG hb0 hg3 (fun k hk=>(aA.block hown0 k hk).1);go_wp2_with fail;go_ret;exact ⟨A2,cap2,by simp,by simpa using hown3,mW⟩
theorem Gf (A B:Option Addr) (ca cb:Nat) (al bs:List (ByteArray×Nat)) (w:World) (ha:aX 2 jY w w.heap.size A al) (hb:aX 2 jY w w.heap.size B bs) (hla:al.length<=1000000) (hlb:bs.length<=1000000):
  Calls Try.prog 147 #[.slice A al.length ca,.slice B bs.length cb] w fun e w'=>∃A' cap',e= .returned (.slice A' (al.filter fun c=> !sG c.1 bs).length cap')/\dD w' w.heap.size A' cap' (al.filter fun c=> !sG c.1 bs)/\Below w.heap.size w w':=by
 have HA:=aC ha;have HB:=aC hb;clear ha hb;go_enter Try.func147,Try.ntmps147;go_wp2_with fail;have hba:=ak (aT w.heap.size w) (.cells #[.slice B bs.length cb] 146);refine (Um A ca al _ ((HA.out.below hba).more hba.size) hla).mono ?_;rintro e w1 ⟨V,cv,rfl,h1,h2⟩;have hz1:w.heap.size<w1.heap.size:=Nat.lt_of_lt_of_le (by simp) h2.size;have hq:w1.heap[w.heap.size]?=some (.cells #[.slice B bs.length cb] 146):=(h2.block w.heap.size (by simp)).trans (heap_alloc_new w _);have hbw:=ah hba h2;have Z:=aC (Gw h1 (Gw hbw hq));clear h1 h2 hbw hq hba;go_wp2_with fail;refine (Ul w.heap.size (w.heap.size+1) V cv al (fun c=>sG c.1 bs) w1 (by simpa using Z.out.1) hla fun c wr _ hk=>?_).mono ?_
 ·have hcell:wr.cell? ⟨w.heap.size,0,none⟩=some (.slice B bs.length cb):=by
   have:=(hk w.heap.size hz1 (by omega)).trans Z.out.2.2;simp [adw,this]
  have hrd:aX 2 jY wr wr.heap.size B bs:=by
   intro hne;obtain ⟨b,o,e,hb,hc⟩:=HB.out hne;have hb1:=Z.out.2.1.block b hb;have hb2:=(hk b (by omega) (by omega)).trans hb1
   have hlt:b<wr.heap.size:=by
    have h3:b<w.heap.size:=hb;rw [Array.getElem?_eq_getElem h3] at hb2;exact (ade.1 hb2).1
   exact ⟨b,o,e,hlt,fun i x hi j u hj=>(adN (a:=⟨b,o+i*2+j,none⟩) hb2).trans (hc i x hi j u hj)⟩
  exact ND c.1 _ w.heap.size B cb bs wr hcell hrd hlb
 rintro e w2 ⟨n,rfl,rfl,h3,h4⟩;have Y:=aC (Gw h3 h4);clear h3 h4;go_wp2_with fail;go_ret;exact ⟨V,cv,rfl,Y.out.1.lower (by omega),⟨Y.out.2.os.trans Z.out.2.1.os,Y.out.2.tape.trans Z.out.2.1.tape,Y.out.2.output.trans Z.out.2.1.output,zk Z.out.2.1.size Y.out.2.size,fun k hk=>(Y.out.2.block k (by have:=Z.out.2.1.size;omega) (fun e=>by have e:w.heap.size+1<=k:=e;omega)).trans (Z.out.2.1.block k hk)⟩⟩
end Go.Proofs.Ytblfeokjlecgkaa
