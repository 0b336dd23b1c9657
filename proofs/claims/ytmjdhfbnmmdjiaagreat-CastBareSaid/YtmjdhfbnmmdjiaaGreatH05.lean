/- Laid together by a tool from the texts of this seat: Concat Make Part PureA PureP Trees ChP Frm RegL PKids. Conditions: each theorem's own. -/
import Derived.Test.YtmjdhfbnmmdjiaaGreatH04
import Derived.Test.YtmjdhfbnmmdjiaaGreatH02
import Derived.Lib.SliceRun
import Derived.Test.YtmjdhfbnmmdjiaaGreatH01
import Derived.OrdersHeld
set_option maxHeartbeats 8000000
set_option maxRecDepth 100000
namespace Go.Proofs.YtmjdhfbnmmdjiaaGreat
open Go.Lib renaming hid->aB
open _root_.List renaming length_append->lS,length_cons->oG,replicate->rT,flatMap_cons->iW,length->sI,append_assoc->kV,take_left->uJ,cons_append->uK,take_length->wH,length_drop->xX,take_add_one->yj,flatten_cons->yB,all_eq_true->qz
open Go.Region renaming ready->qF,binds->sG,wanted->sH,Mode->yc,noSelect->z_,free->Ap
open _root_.Nat renaming le_refl->aK,zero_le->cu,add_sub_cancel->sP,le_trans->vV,zero_add->iO
open _root_.ByteArray renaming empty->dQ
open Go.RowKit.Below renaming refl->aI
open Go.RowKit
theorem V9 (n:Nat) (hn:n<=100000000000) (w:World):
  Calls Tryz.prog 137 #[.slice none 0 0,.int .i64 (n:Int)] w fun e w'=>∃A cap,e= .returned (.slice A 0 cap)/\dF w' w.heap.size A cap []/\Below w.heap.size w w':=by
 by_cases h0:n=0
 ·subst h0
  refine (Any8.slices_Grow_room Tryz.growN none 0 0 0 w (aK _) (by omega) (by omega) (by omega)).mono ?_;rintro e w' ⟨rfl,rfl⟩;exact ⟨none,0,rfl,ay.nil,aI _ _⟩
 ·obtain ⟨i0,hi,hz0,hz1,hz2⟩:=info_parts MC
  refine (Any8.slices_Grow_grow Tryz.growN i0 _ hi hz0 (by rw [hz1];decide) none 0 0 n [] w (aK _) (by omega) (by rw [hz2];omega) (by omega) (by simp) (fun _=>rfl) (by intro a h;cases h)).mono ?_;rintro e w' ⟨rfl,rfl⟩;refine ⟨_,_,rfl,?_,(aI _ _:Below w.heap.size w w).drew.alloc (by simp) _⟩
  exact World.ownsRow_made w.drew _ _ (aK _) (grownCap_le_maxLen w _ _ _ (by unfold maxLen;omega)) (by
   have:=grownCap_ge w (0+n) 0 49;rw [Array.size_append,Array.size_append,size_zeroCells,size_zeroCells];show 0+(0+n-0)*3+(grownCap w (0+n) 0 49-(0+n))*3=grownCap w (0+n) 0 49*3;omega)
theorem ay.lower {α:Type} {e size:Nat} {enc:α->List Value} {w:World} {base base':Nat} {A:Option Addr} {cap:Nat} {l:List α} (h:ay e size enc w base A cap l) (hb:base'<=base):ay e size enc w base' A cap l:=by
 refine ⟨h.1,?_⟩;rcases h.2 with h|⟨g,cap',cur,hv,hbg,hr⟩
 ·exact .inl h
 ·exact .inr ⟨g,cap',cur,hv,vV hb hbg,hr⟩
def RV (w:World) (B:Nat) (vs:List (Option Addr×Nat×Nat)) (xss:List (List Nd)):Prop:=
 vs.length=xss.length/\∀(i:Nat) (v:Option Addr×Nat×Nat) (xs:List Nd),vs[i]?=some v->xss[i]?=some xs->v.2.1=xs.length/\bJ w B v.1 xs
theorem tQ {xss:List (List Nd)} {k:Nat} {xs:List Nd} (h:xss[k]?=some xs):(xss.take (k+1)).flatten=(xss.take k).flatten++xs:=by
 rw [yj,h];simp
theorem wB (xss:List (List Nd)) (k:Nat):(xss.take k).flatten.length<=xss.flatten.length:=by
 conv=>rhs;rw [<-List.take_append_drop k xss]
 rw [List.flatten_append,lS];omega
theorem Pf (A:Option Addr) (c:Nat) (vs:List (Option Addr×Nat×Nat)) (xss:List (List Nd)) (w:World) (hr:jV w w.heap.size A vs) (hS:RV w w.heap.size vs xss) (hv:vs.length<=1000) (hlen:xss.flatten.length<=100000000000):
  Calls Tryz.prog 108 #[.slice A vs.length c] w fun e w'=>
   ∃A' cap',e= .returned (.slice A' xss.flatten.length cap')/\dF w' w.heap.size A' cap' xss.flatten/\Below w.heap.size w w':=by
 have HS:=aB hS.2;have JY:=hS.1;clear hS;go_enter Tryz.func108,Tryz.ntmps108;go_wp2_with fail
 go_loopw [3,11] (fun s3 i11 wr=>∃(k n:Nat),s3= .int .i64 n/\i11= .int .i64 k/\k<=vs.length/\n<=100000000000/\Below w.heap.size w wr/\Hid (n=(xss.take k).flatten.length))
  (fun _ i11 _=>vs.length-(intOf i11).toNat)
 case atStart=>exact ⟨0,0,rfl,rfl,cu _,by omega,aI _ _,aB (by simp)⟩
 case round=>
  obtain ⟨k,n,rfl,rfl,hk,hn6,hbel,hn⟩:=hrel;have zr:=hbel.size;by_cases hlt:k<vs.length
  ·obtain ⟨v,hvk⟩:=aJ hlt
   obtain ⟨xs,hxk⟩:=aJ (show k<xss.length by omega);obtain ⟨hvl,_⟩:=HS.out k v xs hvk hxk;obtain ⟨b1,o1,rfl,hb1,c10⟩:=hr.slice hvk;have Gy:=(hbel.cell (p:=⟨b1,o1+k,none⟩) hb1).trans c10;have hstep:=tQ hxk;have hle:=wB xss (k+1)
   have hle2:n+xs.length<=100000000000:=by
    rw [hstep,lS,<-hn.out] at hle;omega
   have r_:=aB hstep;rw [hvl] at Gy;have YR:b1<wr.heap.size:=by omega
   clear hvk hxk hstep c10 hle;go_wp2_with fail;go_roundw
   case rel=>exact ⟨k+1,n+xs.length,by go_num,by go_num,by omega,hle2,hbel,aB (by rw [r_.out,lS,<-hn.out])⟩
   case measure=>simp [intOf];omega
  ·have hkk:k=vs.length:=by omega
   have hnn:n=xss.flatten.length:=by rw [hn.out,hkk,JY,wH]
   subst hnn;clear hn;generalize hL:xss.flatten.length=L at*;have HL:=aB hL;clear hL;go_wp2_with fail;refine (V9 L hn6 wr).mono ?_;rintro e w1 ⟨A1,Pg,rfl,hown1,jD⟩;have Cv:=ah hbel jD;have hown0:dF w1 w.heap.size A1 Pg []:=ay.lower hown1 hbel.size;go_wp2_with fail;clear hown1 jD hbel zr hlt hkk
   go_loopw [6,27] (fun s6 i27 wr=>∃(k n:Nat) (A':Option Addr) (cap':Nat),s6= .slice A' n cap'/\i27= .int .i64 k/\k<=vs.length/\Hid (n=(xss.take k).flatten.length)/\dF wr w.heap.size A' cap' (xss.take k).flatten/\Below w.heap.size w wr)
    (fun _ i27 _=>vs.length-(intOf i27).toNat)
   case atStart=>exact ⟨0,0,A1,Pg,rfl,rfl,cu _,aB (by simp),by simpa using hown0,Cv⟩
   case round=>
    clear hown0 Cv;obtain ⟨k,n,A',cap',rfl,rfl,hk,hn,hown,hbel⟩:=hrel;have zr:=hbel.size;by_cases hlt:k<vs.length
    ·obtain ⟨v,hvk⟩:=aJ hlt
     obtain ⟨xs,hxk⟩:=aJ (show k<xss.length by omega);obtain ⟨hvl,V_⟩:=HS.out k v xs hvk hxk;obtain ⟨b1,o1,rfl,hb1,c10⟩:=hr.slice hvk;have Gy:=(hbel.cell (p:=⟨b1,o1+k,none⟩) hb1).trans c10;have hstep:=tQ hxk;have hle:=wB xss (k+1)
     have hle2:n+xs.length<=100000000000:=by
      rw [hstep,lS,<-hn.out,HL.out] at hle;omega
     have r_:=aB hstep;rw [hvl] at Gy;have YR:b1<wr.heap.size:=by omega
     generalize hys:(xss.take k).flatten=ys at hn hown;have YS:=aB hys;have hn':=hn.out;subst hn';clear hvk hxk hstep c10 hle hys hn;go_wp2_with (at_builtin;refine pY rfl (.tmp 31) (.tmp 32) rfl w.heap.size (l:=ys) rfl hown (l2:=xs) rfl (V_.below hbel) (by omega) (by omega) ?_;intro A2 cap2 w3 hown3 hg3 _);have dH:=iB hbel hg3 (fun k hk=>(ay.block hown k hk).1);go_roundw
     case rel=>exact ⟨k+1,_,A2,cap2,rfl,by go_num,by omega,aB (by rw [r_.out,YS.out,lS]),by rw [r_.out,YS.out];exact hown3,dH⟩
     case measure=>simp [intOf];omega
    ·have hkk:k=vs.length:=by omega
     have htk:xss.take k=xss:=by rw [hkk,JY,wH]
     rw [htk] at hown hn;have hn':=hn.out;subst hn';clear hn;go_wp2_with fail;go_ret;rw [<-HL.out];exact ⟨A',cap',rfl,hown,hbel⟩
def Nd.name (x:Nd) (s:ByteArray):Nd:=⟨x.k,s,x.n⟩
theorem AP (s:ByteArray) (x:Nd):∀(l:List Nd) (j:Nat),l[j]?=some x->(l.set j (x.name s)).flatMap iy=(l.flatMap iy).set (j*3+1) (.string s)
 |[],j,h=>by simp at h
 |y::l,0,h=>by
  simp at h;subst h;rw [List.set_cons_zero,iW,iW]
  rfl
 |y::l,j+1,h=>by
  rw [List.getElem?_cons_succ] at h;rw [List.set_cons_succ,iW,iW,AP s x l j h,List.set_append_right _ _ (by rw [ku];omega),ku,show (j+1)*3+1-3=j*3+1 by omega]
theorem ay.U1 {w:World} {base:Nat} {A:Option Addr} {cap:Nat} {l:List Nd} (h:dF w base A cap l) {j:Nat} {x:Nd} (hx:l[j]?=some x) (s:ByteArray):
  ∃g,A=some ⟨g,0,none⟩/\base<=g/\g<w.heap.size/\w.cell? ⟨g,j*3+1,none⟩=some (.string x.s)/\w.frozen? ⟨g,j*3+1,none⟩=false/\
   dF (w.setCell ⟨g,j*3+1,none⟩ (.string s)) base A cap (l.set j (x.name s))/\w.grownBy (w.setCell ⟨g,j*3+1,none⟩ (.string s)) (some g):=by
 obtain ⟨b,o,hA,hb,_,hc,_⟩:=(ay.eY h).at_ hx;have h':w.ownsRow base 49 3 (.slice A l.length cap) l.length (l.flatMap iy):=h;rcases h'.2 with ⟨hv,hn⟩|⟨g,cap',cur,hv,hbg,hg,hnc,hcm,hcs,htake⟩
 ·injection hv with hA' hl hc'
  rw [hA'] at hA
  cases hA
 ·injection hv with hA' hl hc'
  subst hA';injection hA with hA
  injection hA with hA1 hA2 hA3
  subst hA1;rw [<-hA2,iO] at hc;obtain ⟨h2,h3⟩:=World.ownsRow.stored h' (j*3+1) (.string s);refine ⟨g,rfl,hbg,hb,hc,World.ownsRow.frozenAt h' _,?_,h3⟩;show (w.setCell ⟨g,j*3+1,none⟩ (.string s)).ownsRow base 49 3 (.slice (some ⟨g,0,none⟩) (l.set j (x.name s)).length cap) (l.set j (x.name s)).length ((l.set j (x.name s)).flatMap iy);rw [List.length_set,AP s x l j hx];exact h2
theorem bJ.part {w:World} {B b o:Nat} {T ts rest:List Nd} {i:Nat} (h:bJ w B (some ⟨b,o,none⟩) T) (hd:T.drop i=ts++rest):bJ w B (some ⟨b,o+i*3,none⟩) ts:=fun hne=>by
 have hT:T≠[]:=by rintro rfl;simp at hd;exact hne hd.1
 obtain ⟨b',o',hA,hB,hr⟩:=h hT;injection hA with hA
 injection hA with h1 h2 h3
 subst h1 h2
 have key:∀(j:Nat) (x:Nd),ts[j]?=some x->T[i+j]?=some x:=fun j x hx=>by
  rw [<-List.getElem?_drop,hd,List.getElem?_append_left (aP hx)];exact hx
 refine ⟨b,o+i*3,rfl,hB,⟨fun j x hx=>?_,fun j x hx=>?_,fun j x hx=>?_⟩⟩
 ·have:=hr.c0 (i+j) x (key j x hx);rw [show o+(i+j)*3=o+i*3+j*3 by omega] at this;exact this
 ·have:=hr.c1 (i+j) x (key j x hx);rw [show o+(i+j)*3=o+i*3+j*3 by omega] at this;exact this
 ·have:=hr.c2 (i+j) x (key j x hx);rw [show o+(i+j)*3=o+i*3+j*3 by omega] at this;exact this
def AQ (w:World) (xs:List Nd) (e:Ending) (w':World):Prop:=∃A' cap',e= .returned (.slice A' xs.length cap')/\dF w' w.heap.size A' cap' xs/\Below w.heap.size w w'
theorem RX (A:Option Addr) (c:Nat) (xs:List Nd) (w:World) (ha:bJ w w.heap.size A xs) (hne:xs≠[]) (hl:xs.length<=1000000000):
  Calls Tryz.prog 142 #[.slice A xs.length c] w (AQ w xs):=by
 obtain ⟨b,o,hA,_,_⟩:=ha hne;subst hA;have hown0:=gL 49 3 iy w;have hb0:=au (aI w.heap.size w) (.cells #[] 49);clear hne;go_enter Tryz.func142,Tryz.ntmps142;go_wp2_with fail;rw [Lib.run_eql_slice_nil _ _ _ _ _ _ _ _ Tryz.underlying28];go_wp2_with (at_builtin;refine pY rfl (.tmp 5) (.tmp 6) rfl w.heap.size (l:=[]) rfl hown0 (l2:=xs) rfl (ha.below hb0) (by simp;omega) (by simp) ?_;intro A2 cap2 w3 hown3 hg3 _);have dH:=iB hb0 hg3 (fun k hk=>(ay.block hown0 k hk).1);go_wp2_with fail;go_ret;exact ⟨A2,cap2,by simp,by simpa using hown3,dH⟩
def aR (a b:List Nd):List Nd:=⟨5,dQ,0⟩::(a++b)
theorem YT (w:World) (x:Nd):bJ (w.alloc (.cells #[.int .i64 x.k,.string x.s,.int .i64 x.n] 49)) (w.heap.size+1) (some ⟨w.heap.size,0,none⟩) [x]:=by
 refine aS.eY (fun _=>⟨w.heap.size,0,rfl,by omega,fun i y hy j u hu=>?_⟩)
 match i,hy with
 |0,hy=>
  simp at hy;subst hy
  match j,hu with
  |0,hu=>simp [iy] at hu;subst hu;simp
  |1,hu=>simp [iy] at hu;subst hu;simp
  |2,hu=>simp [iy] at hu;subst hu;simp
  |j+3,hu=>simp [iy] at hu
 |i+1,hy=>simp at hy
theorem Ph (w:World) (v1 v2 v3:Option Addr×Nat×Nat):jV (w.alloc (.cells #[.slice v1.1 v1.2.1 v1.2.2,.slice v2.1 v2.2.1 v2.2.2,.slice v3.1 v3.2.1 v3.2.2] 28)) (w.heap.size+1) (some ⟨w.heap.size,0,none⟩) [v1,v2,v3]:=fun _=>by
 refine ⟨w.heap.size,0,rfl,by omega,fun i x hx j u hu=>?_⟩
 have hj:j=0:=by
  have:=aP hu;rw [jv] at this;omega
 subst hj;simp [encS] at hu;subst hu
 match i,hx with
 |0,hx=>simp at hx;subst hx;simp
 |1,hx=>simp at hx;subst hx;simp
 |2,hx=>simp at hx;subst hx;simp
 |i+3,hx=>simp at hx
theorem o_ (A1 A2:Option Addr) (c1 c2:Nat) (a b:List Nd) (w:World) (ha:bJ w w.heap.size A1 a) (hb:bJ w w.heap.size A2 b) (hl:a.length+b.length<=4000000000):
  Calls Tryz.prog 82 #[.slice A1 a.length c1,.slice A2 b.length c2] w (AQ w (aR a b)):=by
 go_enter Tryz.func82,Tryz.ntmps82;go_wp2_with fail;have hS:=Ph (w.alloc (.cells #[.int .i64 5,.string ⟨#[]⟩,.int .i64 0] 49)) (some ⟨w.heap.size,0,none⟩,1,1) (A1,a.length,c1) (A2,b.length,c2);rw [World.size_alloc] at hS;have hb0:=au (au (aI w.heap.size w) (.cells #[.int .i64 5,.string ⟨#[]⟩,.int .i64 0] 49)) (.cells #[.slice (some ⟨w.heap.size,0,none⟩) 1 1,.slice A1 a.length c1,.slice A2 b.length c2] 28);obtain ⟨W,hW⟩:∃W,W=(w.alloc (.cells #[.int .i64 5,.string ⟨#[]⟩,.int .i64 0] 49)).alloc (.cells #[.slice (some ⟨w.heap.size,0,none⟩) 1 1,.slice A1 a.length c1,.slice A2 b.length c2] 28):=⟨_,rfl⟩;have hWs:W.heap.size=w.heap.size+2:=by rw [hW];simp
 have hnew:=((YT w ⟨5,dQ,0⟩).alloc (by simp) (.cells #[.slice (some ⟨w.heap.size,0,none⟩) 1 1,.slice A1 a.length c1,.slice A2 b.length c2] 28));replace hS:jV W W.heap.size (some ⟨w.heap.size+1,0,none⟩) [(some ⟨w.heap.size,0,none⟩,1,1),(A1,a.length,c1),(A2,b.length,c2)]:=by rw [hWs,hW];exact hS
 replace hb0:Below w.heap.size w W:=by rw [hW];exact hb0
 replace hnew:bJ W (w.heap.size+1) (some ⟨w.heap.size,0,none⟩) [⟨5,dQ,0⟩]:=by rw [hW];exact hnew
 have h:=Pf (some ⟨w.heap.size+1,0,none⟩) 3 [(some ⟨w.heap.size,0,none⟩,1,1),(A1,a.length,c1),(A2,b.length,c2)] [[⟨5,dQ,0⟩],a,b] _ hS ⟨rfl,fun i v xs hv hx=>by
  match i,hv,hx with
  |0,hv,hx=>
   simp at hv hx;subst hv hx
   exact ⟨rfl,hnew.more (by omega)⟩
  |1,hv,hx=>simp at hv hx;subst hv hx;exact ⟨rfl,(ha.below hb0).more (by omega)⟩
  |2,hv,hx=>simp at hv hx;subst hv hx;exact ⟨rfl,(hb.below hb0).more (by omega)⟩
  |i+3,hv,hx=>simp at hv⟩ (by simp) (by simp;omega)
 rw [<-hW];refine h.mono ?_;rintro e w1 ⟨A',cap',rfl,hown,hbel⟩;have hfl:[[(⟨5,dQ,0⟩:Nd)],a,b].flatten=aR a b:=by simp [aR]
 rw [hfl] at hown;go_wp2_with fail;go_ret;exact ⟨A',cap',rfl,ay.lower hown (by omega),ah hb0 hbel⟩
theorem wC (w:World) (x:Nd):dF (w.alloc (.cells #[.int .i64 x.k,.string x.s,.int .i64 x.n] 49)) w.heap.size (some ⟨w.heap.size,0,none⟩) 1 [x]:=
 ⟨rfl,.inr ⟨w.heap.size,1,_,rfl,aK _,heap_alloc_new w _,aK _,by simp [maxLen],rfl,rfl⟩⟩
def eO:List Nd->List Nd
 |[]=>[]
 |x::xs=>x.name dQ::xs
theorem gF (xs:List Nd):(eO xs).length=xs.length:=by cases xs<;>rfl
theorem DT (A:Option Addr) (c:Nat) (T ts rest:List Nd) (i:Nat) (w:World) (ha:bJ w w.heap.size A T) (hl:T.length<=1000000000) (hc:T.length<=c) (hd:T.drop i=ts++rest) (hok:bC ts) (hf:Fo 1 ts):
  Calls Tryz.prog 117 #[.slice A T.length c,.int .i64 (i:Int)] w (AQ w (eO ts)):=by
 have hi:i<T.length:=lC hd hf.pos
 have hle:i+ts.length<=T.length:=by
  have:=congrArg sI hd;rw [xX,lS] at this;omega
 obtain ⟨x,ys,rfl⟩:∃x ys,ts=x::ys:=by
  cases ts with
  |nil=>exact absurd hf.MI (by omega)
  |cons x ys=>exact ⟨x,ys,rfl⟩
 obtain ⟨b1,o1,rfl,hb1,c10,c11,c12⟩:=ha.at_ (jP hd);have hpart:=ha.part hd;have hend:=qK (some ⟨b1,o1,none⟩) c T (x::ys) rest i w ha hl hd hok hf;have uW:=aB hend;have Hd:=aB hd;have n_:=aB hok;have Hf:=aB hf;clear hd hok hf hend;have h0':(0:Int)<=(i:Int):=by omega
 have h1':(i:Int)<(T.length:Int):=by omega
 have hd0:decide ((i:Int)<0)=false:=by simp
 have hd1:decide (T.length<=i)=false:=by simp;omega
 simp only [oG] at hle;go_enter Tryz.func117,Tryz.ntmps117;go_wp2_with fail;refine uW.out.mono ?_;rintro e w1 ⟨rfl,hb⟩;simp only [oG];go_wp2_with fail;have hpw:=hpart.below hb;refine (RX _ (c-i) (x::ys) w1 (hpw.more hb.size) (by simp) (by simp;omega)).mono ?_;rintro e w2 ⟨A2,cap2,rfl,hown2,hb2⟩;obtain ⟨g,rfl,hbg,hg,hcell,hfz,hown3,Gz⟩:=hown2.U1 (j:=0) (x:=x) rfl dQ;have jk:=ah hb hb2;have dH:=kY (p:=⟨g,0*3+1,none⟩) jk (by have:=hb.size;simp;omega) (.string dQ);simp only [Nat.zero_mul,iO] at hcell hfz hown3 dH;go_wp2_with fail;go_ret;exact ⟨_,_,rfl,ay.lower hown3 hb.size,dH⟩
theorem RY (A:Option Addr) (c:Nat) (T ts rest:List Nd) (i:Nat) (w:World) (ha:bJ w w.heap.size A T) (hl:T.length<=5000000) (hc:T.length<=c) (hd:T.drop i=ts++rest) (hok:bC ts) (adO:bC T) (hf:Fo 1 ts):
  Calls Tryz.prog 56 #[.slice A T.length c,.int .i64 (i:Int)] w (AQ w (eO ts)):=by
 have hi:i<T.length:=lC hd hf.pos
 have hle:i+ts.length<=T.length:=by
  have:=congrArg sI hd;rw [xX,lS] at this;omega
 have YU:=aB (show sF T (i:Int)=((i+ts.length:Nat):Int) by rw [zW hi,iY hd hok hf])
 obtain ⟨x,ys,rfl⟩:∃x ys,ts=x::ys:=by
  cases ts with
  |nil=>exact absurd hf.MI (by omega)
  |cons x ys=>exact ⟨x,ys,rfl⟩
 obtain ⟨b1,o1,rfl,hb1,c10,c11,c12⟩:=ha.at_ (jP hd);have hpart:=ha.part hd;have akr:=aB adO;clear hd hok hf adO;have h0':(0:Int)<=(i:Int):=by omega
 have h1':(i:Int)<(T.length:Int):=by omega
 have hd0:decide ((i:Int)<0)=false:=by simp
 have hd1:decide (T.length<=i)=false:=by simp;omega
 have hown0:=gL 49 3 iy w;have hb0:=au (aI w.heap.size w) (.cells #[] 49);simp only [oG] at hle YU;go_enter Tryz.func56,Tryz.ntmps56;go_wp2_with fail;refine (Bl _ c T i _ ((ha.below hb0).more hb0.size) (by omega) akr.out).mono ?_;rintro e w1 ⟨rfl,hb⟩;rw [YU.out];have hown1:=ay.below hown0 hb (aK _);have jD:=ah hb0 hb;have z1:=jD.size;go_wp2_with (at_builtin;refine pY rfl (.tmp 14) (.tmp 20) rfl w.heap.size (l:=[]) rfl hown1 (l2:=x::ys) (by show _=Value.slice _ (ys.length+1) _;rw [show i+(ys.length+1)-i=ys.length+1 by omega];rfl) (hpart.below jD) (by simp;omega) z1 ?_;intro A2 cap2 w3 hown2 hg3 _;have jk:=iB jD hg3 (fun k hk=>(ay.block hown1 k hk).1);rw [List.nil_append] at hown2;obtain ⟨g,rfl,hbg,hg,hcell,hfz,hown3,Gz⟩:=ay.U1 hown2 (j:=0) (x:=x) rfl dQ;have dH:=kY (p:=⟨g,0*3+1,none⟩) jk (by simp;omega) (.string dQ);simp only [Nat.zero_mul,iO] at hcell hfz hown3 dH);go_ret;exact ⟨some ⟨g,0,none⟩,cap2,by simp [eO],hown3,dH⟩
section
variable {a b:List Nd}
theorem GD:(aR a b).length=1+a.length+b.length:=by simp [aR];omega
end
theorem yL {x:List UInt8} {s:ByteArray} (h:x=s.data.toList):(⟨x.toArray⟩:ByteArray)=s:=by
 rw [h]
theorem ay.l5 {α:Type} {e size:Nat} {enc:α->List Value} {w:World} {base:Nat} {A:Option Addr} {cap:Nat} {l:List α} (h:ay e size enc w base A cap l):l.length<=cap:=by
 rcases h.2 with ⟨hv,hn⟩|⟨g,cap',cur,hv,_,_,hnc,_⟩
 ·rw [hn];exact cu _
 ·injection hv with _ _ hc
  rw [hc];exact hnc
theorem yM {x:Nd} {ks zs:List Nd} (h:Fo (manyN x) ks):bV (x::(ks++zs))=zs:=
 gB (ts:=x::ks) (by have:=h.cons Fo.zero;rwa [List.append_nil] at this)
structure Trees (n:Nat) (ks:List Nd) (sO:List (List Nd)):Prop where
 len:sO.length=n
 flat:sO.flatten=ks
 one:∀ts∈sO,Fo 1 ts
def bA:Nat->List Nd->List (List Nd)
 |0,_=>[]
 |n+1,xs=>xs.take (xs.length-(bV xs).length)::bA n (bV xs)
theorem E5:∀(n:Nat) (ks r:List Nd),Fo n ks->bA n (ks++r)=bA n ks/\Trees n ks (bA n ks)
 |0,ks,r,h=>by
  have:=h.fK;subst this
  exact ⟨rfl,rfl,rfl,fun ts hts=>by simp [bA] at hts⟩
 |n+1,ks,r,h=>by
  obtain ⟨ts,rs,rfl,h1,h2⟩:=h.first;obtain ⟨e1,e2⟩:=E5 n rs r h2;have hr1:bV (ts++(rs++r))=rs++r:=gB h1;have hr2:bV (ts++rs)=rs:=gB h1
  have s1:bA (n+1) (ts++rs++r)=ts::bA n rs:=by
   simp only [bA];rw [kV,hr1,e1]
   congr 1
   rw [lS,sP];exact uJ
  have s2:bA (n+1) (ts++rs)=ts::bA n rs:=by
   simp only [bA];rw [hr2,lS,sP]
   congr 1
   exact uJ
  refine ⟨by rw [s1,s2],?_⟩;rw [s2];refine ⟨by simp [e2.len],by simp [e2.flat],fun t ht=>?_⟩;rcases List.mem_cons.1 ht with rfl|ht
  ·exact h1
  ·exact e2.one t ht
theorem zY {n:Nat} {ks:List Nd} (h:Fo n ks):Trees n ks (bA n ks):=(E5 n ks [] h).2
theorem Trees.fo {n:Nat} {ks:List Nd} {sO:List (List Nd)} (h:Trees n ks sO):Fo n ks:=by
 obtain ⟨h1,h2,h3⟩:=h;subst h1 h2
 induction sO with
 |nil=>exact Fo.zero
 |cons t sO ih=>
  rw [yB,oG,Nat.add_comm];exact (h3 t (by simp)).append (ih fun ts hts=>h3 ts (by simp [hts]))
theorem Trees.uniq {n:Nat} {ks:List Nd} {sO:List (List Nd)} (h:Trees n ks sO):sO=bA n ks:=by
 obtain ⟨h1,h2,h3⟩:=h;subst h1 h2
 induction sO with
 |nil=>rfl
 |cons t sO ih=>
  rw [yB,oG];simp only [bA];rw [gB (h3 t (by simp)),lS,sP,uJ,<-ih fun ts hts=>h3 ts (by simp [hts])]
def nP (xs:List Nd):List Nd:=xs.take (xs.length-(bV xs).length)
theorem mG {ts:List Nd} (h:Fo 1 ts) (r:List Nd):nP (ts++r)=ts:=by
 unfold nP;rw [gB h,lS,sP,uJ]
theorem Pj:∀(xs:List Nd) (n:Nat) (ys:List Nd),skip xs n=some ys->ys.length+n<=xs.length+n
 |xs,0,ys,h=>by
  rw [iX] at h;injection h with h
  rw [h]
  omega
 |[],n+1,ys,h=>by rw [wu] at h;cases h
 |x::xs,n+1,ys,h=>by
  rw [jE] at h;have:=Pj xs (n+manyN x) ys h;simp;omega
theorem wD (x:Nd) (xs:List Nd):(bV (x::xs)).length<=xs.length:=by
 unfold bV
 cases h:skip (x::xs) 1 with
 |none=>simp
 |some ys=>
  rw [jE] at h;have:=Pj _ _ _ h;simp;omega
def tV:Nat->Nat->List Nd->List Nd->Option (List Nd)
 |0,_,_,_=>none
 |_+1,0,_,_=>some []
 |f+1,n+1,x::xt,y::yt=>
  if x.s≠y.s then none else
  if x.k=0\/y.k=0 then (tV f n (bV (x::xt)) (bV (y::yt))).map fun r=>(if y.k=0 then nP (x::xt) else nP (y::yt))++r
  else if x.k≠y.k\/x.n≠y.n then none
  else (tV f (manyN x+n) xt yt).map fun r=>x::r
 |_+1,_+1,_,_=>none
def met (n:Nat) (xs ys:List Nd):Option (List Nd):=tV (xs.length+1) n xs ys
theorem Bp:∀(f g n:Nat) (xs ys:List Nd),xs.length<f->xs.length<g->tV f n xs ys=tV g n xs ys
 |0,_,_,_,_,h,_=>absurd h (Nat.not_lt_zero _)
 |_+1,0,_,_,_,_,h=>absurd h (Nat.not_lt_zero _)
 |f+1,g+1,0,xs,ys,h1,h2=>by simp [tV]
 |f+1,g+1,n+1,[],ys,h1,h2=>by simp [tV]
 |f+1,g+1,n+1,x::xt,[],h1,h2=>by simp [tV]
 |f+1,g+1,n+1,x::xt,y::yt,h1,h2=>by
  have hr:=wD x xt;simp only [oG] at h1 h2;simp only [tV];rw [Bp f g n (bV (x::xt)) (bV (y::yt)) (by omega) (by omega),Bp f g (manyN x+n) xt yt (by omega) (by omega)]
theorem jw (xs ys:List Nd):met 0 xs ys=some []:=by unfold met;simp [tV]
theorem jy (n:Nat) (x y:Nd) (xt yt:List Nd):met (n+1) (x::xt) (y::yt)=
  if x.s≠y.s then none else
  if x.k=0\/y.k=0 then (met n (bV (x::xt)) (bV (y::yt))).map fun r=>(if y.k=0 then nP (x::xt) else nP (y::yt))++r
  else if x.k≠y.k\/x.n≠y.n then none
  else (met (manyN x+n) xt yt).map fun r=>x::r:=by
 have hr:=wD x xt;unfold met
 conv=>lhs;simp only [oG,tV]
 rw [Bp (xt.length+1) ((bV (x::xt)).length+1) n (bV (x::xt)) (bV (y::yt)) (by omega) (by omega)]
theorem yN:∀(N n m:Nat) (ps qs r s:List Nd),ps.length<=N->Fo n ps->Fo n qs->met (n+m) (ps++r) (qs++s)=(met n ps qs).bind fun a=>(met m r s).map fun b=>a++b
 |N,0,m,ps,qs,r,s,_,h1,h2=>by
  rw [h1.fK,h2.fK,jw]
  simp
 |0,n+1,m,ps,qs,r,s,hN,h1,_=>absurd h1.pos (by omega)
 |N+1,n+1,m,ps,qs,r,s,hN,h1,h2=>by
  match ps,qs,h1,h2,h1.pos,h2.pos with
  |x::pt,y::qt,h1,h2,_,_=>
   simp only [oG] at hN;rw [show n+1+m=(n+m)+1 by omega,uK,uK,jy,jy];by_cases hs:x.s≠y.s
   ·rw [if_pos hs,if_pos hs];rfl
   ·rw [if_neg hs,if_neg hs]
    by_cases hd:x.k=0\/y.k=0
    ·rw [if_pos hd,if_pos hd]
     obtain ⟨t1,p1,e1,f1,g1⟩:=h1.first;obtain ⟨t2,p2,e2,f2,g2⟩:=h2.first;have ht1:0<t1.length:=f1.pos;rw [<-uK,<-uK,e1,e2,kV,kV,gB f1,gB f1,gB f2,gB f2,mG f1,mG f1,mG f2,mG f2]
     have hl:p1.length<=N:=by
      have:=congrArg sI e1;simp at this;omega
     rw [yN N n m p1 p2 r s hl g1 g2]
     cases met n p1 p2<;>cases met m r s<;>simp
    ·rw [if_neg hd,if_neg hd]
     by_cases hk:x.k≠y.k\/x.n≠y.n
     ·rw [if_pos hk,if_pos hk];rfl
     ·rw [if_neg hk,if_neg hk]
      have hm:manyN y=manyN x:=by
       unfold manyN;rw [show y.k=x.k by omega,show y.n=x.n by omega]
      have e1:Fo (manyN x+n) pt:=by
       obtain ⟨ks,rs,e,f1,f2⟩:=h1.rA;rw [e];exact f1.append f2
      have e2:Fo (manyN x+n) qt:=by
       obtain ⟨ks,rs,e,f1,f2⟩:=h2.rA;rw [e,<-hm];exact f1.append f2
      rw [<-Nat.add_assoc,yN N (manyN x+n) m pt qt r s (by omega) e1 e2]
      cases met (manyN x+n) pt qt<;>cases met m r s<;>simp
def jR (a b:List Nd):Bool:=(met 1 a b).isSome
structure Fr (X:Nat->Prop) (w w':World):Prop where
 os:w'.os=w.os
 tape:w'.tape=w.tape
 output:w'.output=w.output
 size:w.heap.size<=w'.heap.size
 block:∀k,k<w.heap.size->¬X k->w'.heap[k]?=w.heap[k]?
section
variable {X Y:Nat->Prop} {w w' w2:World}
theorem Fr.refl (X:Nat->Prop) (w:World):Fr X w w:=⟨rfl,rfl,rfl,aK _,fun _ _ _=>rfl⟩
theorem Fr.trans (h:Fr X w w') (k:Fr X w' w2):Fr X w w2:=
 ⟨k.os.trans h.os,k.tape.trans h.tape,k.output.trans h.output,vV h.size k.size,fun i hi hx=>(k.block i (by have:=h.size;omega) hx).trans (h.block i hi hx)⟩
theorem Fr.mono (h:Fr X w w') (hxy:∀k,X k->Y k):Fr Y w w':=⟨h.os,h.tape,h.output,h.size,fun k hk hy=>h.block k hk fun hx=>hy (hxy k hx)⟩
theorem Fr.new (h:Fr X w w') (k:Fr Y w' w2) (hy:∀b,Y b->X b\/w.heap.size<=b):Fr X w w2:=
 ⟨k.os.trans h.os,k.tape.trans h.tape,k.output.trans h.output,vV h.size k.size,fun i hi hx=>(k.block i (by have:=h.size;omega) fun e=>by rcases hy i e with e|e<;>first|exact hx e|omega).trans (h.block i hi hx)⟩
theorem Fr.below (h:Below w.heap.size w w'):Fr X w w':=⟨h.os,h.tape,h.output,h.size,fun k hk _=>h.block k hk⟩
theorem Fr.grown {row:Option Nat} (h:w.grownBy w' row) (hX:∀k,row=some k->X k):Fr X w w':=
 ⟨h.os,h.tape,h.output,h.size,fun k hk hx=>h.block k hk fun e=>hx (hX k e.symm)⟩
theorem Fr.alloc (h:Fr X w w') (o:Obj):Fr X w (w'.alloc o):=h.trans (Fr.below ((aI _ _).alloc (aK _) o))
theorem Fr.drewN (h:Fr X w w') (n:Nat):Fr X w (w'.drewN n):=⟨h.os,h.tape,h.output,h.size,h.block⟩
theorem Fr.setCell (h:Fr X w w') {p:Addr} (hp:X p.block\/w.heap.size<=p.block) (u:Value):Fr X w (w'.setCell p u):=
 ⟨h.os,h.tape,h.output,by have:=h.size;simpa [World.setCell] using this,fun k hk hx=>by
  rw [Below.heap_setCell _ _ _ _ (by rintro rfl;rcases hp with e|e;exact hx e;omega)];exact h.block k hk hx⟩
theorem Fr.toBelow (h:Fr X w w') (hX:∀k,X k->w.heap.size<=k):Below w.heap.size w w':=
 ⟨h.os,h.tape,h.output,h.size,fun k hk=>h.block k hk fun e=>by have:=hX k e;omega⟩
end
open Go
section
variable {P:Program} {ops:Array Oper} {Q:Exit->Act->World->Prop} {md:yc} {S:World->Prop} {Z:List Nat}
def wpAnyL (P:Program) (md:yc) (ops:Array Oper) (Q:Exit->Act->World->Prop) (S:World->Prop) (Z:List Nat):Nat->Array Bool->Act->World->Prop
 |0,listed,a,w=>qF md ops listed=[]/\Q .normal a w
 |fuel+1,listed,a,w=>(qF md ops listed=[]->Q .normal a w)/\
  ∀i∈qF md ops listed,wpOp P ops Q i (fun a' w'=>((∀z∈Z,(listed.setIfInBounds i true).getD z true=false)->S w')/\wpAnyL P md ops Q S Z fuel (listed.setIfInBounds i true) a' w') a w
theorem E_:∀(fuel:Nat) (listed:Array Bool) (a:Act) (w:World),wpAnyL P md ops Q S Z fuel listed a w->wpAny P md ops Q fuel listed a w
 |0,_,_,_,h=>h
 |fuel+1,_,_,_,h=>⟨h.1,fun i hi=>wpOp_mono (fun _ _ h'=>E_ fuel _ _ _ h'.2) (h.2 i hi)⟩
theorem wpAnyL_first {i:Nat} {oi:Oper} {v:Value} {C:List Nat} (hi:ops[i]?=some oi) (hsel:∀(j:Nat) (o:Oper) cs b,ops[j]?=some o->o.op≠ .select cs b)
  (hQ:∀c a w,Q (.panic c) (a.put oi.dst v) w->Q (.panic c) a w) (hZ:∀z∈Z,z∈C) (hiC:i∉C)
  (hC:∀c∈C,∀oc,ops[c]?=some oc->∃e∈oc.after,sG md e=true/\(e.on=i\/e.on∈C)):
  ∀(fuel:Nat) (listed:Array Bool) (a:Act) (w:World),
   (∀j oj,ops[j]?=some oj->j≠i->listed.getD j true=false->(∀e∈oj.after,sG md e=true->e.on≠i)->oi.apart ops oj=true)->
   (∀c∈C,listed.getD c true=false)->i∈qF md ops listed->YieldsIf P ops S oi v a->S w->
   wpAnyL P md ops Q S Z fuel (listed.setIfInBounds i true) (a.put oi.dst v) w->wpAnyL P md ops Q S Z (fuel+1) listed a w:=by
 intro fuel
 induction fuel with
 |zero=>
  intro listed a w _ _ hr hy hS H;refine ⟨fun h=>(by rw [h] at hr;cases hr),fun j hj=>?_⟩;by_cases hji:j=i
  ·subst hji;exact hy.wpOp hi hS ⟨fun _=>hS,H⟩
  ·have:=ready_mono hj hji
   rw [H.1] at this
   cases this
 |succ fuel ih=>
  intro listed a w hfree hlc hr hy hS H;refine ⟨fun h=>(by rw [h] at hr;cases hr),fun j hj=>?_⟩;by_cases hji:j=i
  ·subst hji;exact hy.wpOp hi hS ⟨fun _=>hS,H⟩
  ·have h1:=H.2 j (ready_mono hj hji)
   obtain ⟨hjun,oj,hoj,hall⟩:=mem_ready.1 hj
   have off:∀k,listed.getD k true=false->listed.getD k false=true->False:=fun k h0 h1=>by
    rcases Nat.lt_or_ge k listed.size with h'|h'
    ·simp [h'] at h0 h1;rw [h0] at h1;cases h1
    ·simp [Array.getElem?_eq_none h'] at h1
   have hjC:j∉C:=fun hc=>by
    obtain ⟨e,he,hb,hon⟩:=hC j hc oj hoj;have h1:=hall e he hb;rcases hon with hon|hon
    ·rw [hon] at h1;exact off i (mem_ready.1 hr).1 h1
    ·exact off e.on (hlc _ hon) h1
   have hnot:∀e∈oj.after,sG md e=true->e.on≠i:=fun e he hb heq=>by
    have h1:=hall e he hb;rw [heq] at h1;exact off i (mem_ready.1 hr).1 h1
   have hzs:∀(l:Array Bool),(∀c∈C,l.getD c true=false)->∀k,k∉C->∀c∈C,(l.setIfInBounds k true).getD c true=false:=fun l hl k hk c hc=>by
    by_cases e:k=c
    ·exact absurd (by rw [e];exact hc) hk
    ·rw [getD_set_ne true e];exact hl c hc
   have h2:=wpOp_putIf hoj (hfree j oj hoj hji hjun hnot) (fun cs b=>hsel i oi cs b hi) (fun cs b=>hsel j oj cs b hoj) hQ hy h1
   have hfree':∀k ok,ops[k]?=some ok->k≠i->(listed.setIfInBounds j true).getD k true=false->
     (∀e∈ok.after,sG md e=true->e.on≠i)->oi.apart ops ok=true:=fun k ok hk hki hun hno=>by
    refine hfree k ok hk hki ?_ hno;by_cases hjk:j=k
    ·subst hjk;exact hjun
    ·rw [getD_set_ne true hjk] at hun;exact hun
   refine wpOp_mono (fun a' w' h3=>?_) h2;have hS':S w':=h3.2.1 fun z hz=>hzs _ (hzs _ hlc i hiC) j hjC z (hZ z hz);refine ⟨fun _=>hS',ih (listed.setIfInBounds j true) a' w' hfree' (hzs _ hlc j hjC) (ready_mono hr (Ne.symm hji)) h3.1 hS' ?_⟩;rw [Array.setIfInBounds_comm _ _ hji];exact h3.2.2
def ML (md:yc) (ops:Array Oper) (listed:Array Bool) (C Z:List Nat) (i:Nat):Bool:=
 Z.all (fun z=>C.contains z)&& !C.contains i&&C.all fun c=> !listed.getD c true&&match ops[c]? with
  |some oc=>oc.after.any fun e=>sG md e&&(e.on==i||C.contains e.on)
  |none=>true
theorem MN {i:Nat} {oi:Oper} {v:Value} {fuel:Nat} {listed:Array Bool} {a:Act} {w:World} (C:List Nat) (hi:ops[i]?=some oi)
  (hs:z_ ops=true) (hf:Ap md ops listed i=true) (hr:(qF md ops listed).contains i=true) (hc:ML md ops listed C Z i=true)
  (hQ:∀c a w,Q (.panic c) (a.put oi.dst v) w->Q (.panic c) a w) (hy:YieldsIf P ops S oi v a) (hS:S w)
  (h:wpAnyL P md ops Q S Z fuel (listed.setIfInBounds i true) (a.put oi.dst v) w):wpAnyL P md ops Q S Z (fuel+1) listed a w:=by
 unfold ML at hc;simp only [Bool.and_eq_true,qz,Bool.not_eq_true',List.contains_eq_mem,decide_eq_true_eq] at hc;obtain ⟨⟨h1,h2⟩,h3⟩:=hc;refine wpAnyL_first (C:=C) hi (Region.noSelect_spec hs) hQ h1 (by simpa using h2) (fun c hc oc hoc=>?_) fuel listed a w (Region.free_spec hi hf) (fun c hc=>(h3 c hc).1) (by simpa using hr) hy hS h;have:=(h3 c hc).2;rw [hoc] at this;simp only [Array.any_eq_true',Bool.and_eq_true,Bool.or_eq_true,beq_iff_eq,decide_eq_true_eq] at this;exact this
theorem yO {rs:List Nat} {fuel:Nat} {listed:Array Bool} {a:Act} {w:World} (hr:qF md ops listed=rs) (hne:rs≠[])
  (h:∀i∈rs,wpOp P ops Q i (fun a' w'=>((∀z∈Z,(listed.setIfInBounds i true).getD z true=false)->S w')/\wpAnyL P md ops Q S Z fuel (listed.setIfInBounds i true) a' w') a w):wpAnyL P md ops Q S Z (fuel+1) listed a w:=
 ⟨fun h0=>absurd (hr▸h0) hne,hr▸h⟩
theorem MO {id:Nat} {a:Act} {w:World} (Z:List Nat) (hm:P.follows .mixedOrders=true)
  (h:wpAnyL P .any ops Q S Z ops.size (Array.replicate ops.size false) a {w with drawn:=w.drawn+1}):(Code.region id ops true).wp P Q a w:=
 wp_region_any hm (E_ _ _ _ _ h)
theorem aM (i:Nat) (C:List Nat) (d:Option Tmp) {fuel:Nat} {listed:Array Bool} {a a2:Act} {w:World} {oi:Oper} {v:Value} (hi:ops[i]?=some oi) (hd:oi.dst=d)
  (h:wpAnyL P md ops Q S Z fuel (listed.setIfInBounds i true) a2 w) (hs:z_ ops=true:=by kernel_rfl) (hf:Ap md ops listed i=true:=by kernel_rfl) (hr:(qF md ops listed).contains i=true:=by kernel_rfl) (hc:ML md ops listed C Z i=true:=by kernel_rfl)
  (hw:sH oi (yielded ops a.tmps)=true:=by rfl) (hS:S w:=by assumption) (hy:∀w,S w->(execOp a.eval oi).run P w= .ok (.value v) w:=by (intro w hSw;(try rw [hSS] at hSw);(try dsimp only at hSw);go_simp;try with_reducible rfl))
  (ha:a.put d v=a2:=by ((try simp only [Act.put,List.setIfInBounds_toArray,List.set_cons_zero,List.set_cons_succ]);exact rfl))
  (hQ:∀c a w,Q (.panic c) (a.put d v) w->Q (.panic c) a w:=by exact fun _ _ _ h=>h):wpAnyL P md ops Q S Z (fuel+1) listed a w:=by
 subst hd ha;exact MN C hi hs hf hr hc hQ (.inl ⟨hw,hy⟩) hS h
theorem aA {fuel:Nat} {listed:Array Bool} {a a2:Act} {w:World} (h:wpAnyL P md ops Q S Z fuel listed a2 w) (ha:a=a2:=by ((try simp only [Act.put,List.setIfInBounds_toArray,List.set_cons_zero,List.set_cons_succ]);exact rfl)):wpAnyL P md ops Q S Z fuel listed a w:=by
 subst ha;exact h
theorem dO (i:Nat) {fuel:Nat} {listed:Array Bool} {a:Act} {w:World} {oi:Oper} (hi:ops[i]?=some oi) (hr:qF md ops listed=[i]) (hw:sH oi (yielded ops a.tmps)=true)
  (h:oi.wp P a w (fun a' w'=>((∀z∈Z,(listed.setIfInBounds i true).getD z true=false)->S w')/\wpAnyL P md ops Q S Z fuel (listed.setIfInBounds i true) a' w') Q):wpAnyL P md ops Q S Z (fuel+1) listed a w:=by
 refine yO hr (by simp) fun j hj=>?_;simp only [List.mem_singleton] at hj;subst hj;unfold wpOp;rw [hi];simp only [hw,if_true];exact .inl h
theorem aY (i:Nat) (d:Option Tmp) {fuel:Nat} {listed:Array Bool} {a:Act} {w:World} {oi:Oper} {f:FuncId} {args:Array Value} {post:Ending->World->Prop} (hi:ops[i]?=some oi) (hd:oi.dst=d) (hr:qF md ops listed=[i]) (hw:sH oi (yielded ops a.tmps)=true)
  (hop:(execOp a.eval oi).run P w= .ok (.enter f args) w) (hc:Calls P f args w post)
  (h:∀e w',post e w'->∃u,e= .returned u/\S w'/\wpAnyL P md ops Q S Z fuel (listed.setIfInBounds i true) (a.put d u) w'):wpAnyL P md ops Q S Z (fuel+1) listed a w:=by
 subst hd;refine dO i hi hr hw ?_;unfold Oper.wp;rw [hop];simp only [Oper.upon];refine hc.mono fun e w' he=>?_;obtain ⟨u,rfl,h1,h2⟩:=h e w' he;exact ⟨fun _=>h1,h2⟩
theorem aG {id:Nat} {a:Act} {w:World} (Z:List Nat) (hm:P.follows .mixedOrders=true) (hS:S w.drew)
  (h:S w.drew->wpAnyL P .any ops Q S Z ops.size (Array.replicate ops.size false) a w.drew):(Code.region id ops true).wp P Q a w:=MO Z hm (h hS)
theorem zL {listed:Array Bool} {w:World} (h:(Z.all fun z=> !listed.getD z true)=false):(∀z∈Z,listed.getD z true=false)->S w:=fun hz=>by
 have:(Z.all fun z=> !listed.getD z true)=true:=qz.2 fun z hz'=>by rw [hz z hz'];rfl
 rw [this] at h;cases h
theorem aX (i:Nat) (d:Option Tmp) {fuel:Nat} {listed:Array Bool} {a:Act} {w w':World} {oi:Oper} {v:Value} (hi:ops[i]?=some oi) (hd:oi.dst=d) (hr:qF md ops listed=[i]) (hw:sH oi (yielded ops a.tmps)=true)
  (hop:(execOp a.eval oi).run P w= .ok (.value v) w') (hz:(∀z∈Z,(listed.setIfInBounds i true).getD z true=false)->S w')
  (h:wpAnyL P md ops Q S Z fuel (listed.setIfInBounds i true) (a.put d v) w'):wpAnyL P md ops Q S Z (fuel+1) listed a w:=by
 subst hd;refine dO i hi hr hw ?_;unfold Oper.wp;rw [hop];exact ⟨hz,h⟩
theorem jl (i:Nat) (d:Option Tmp) {fuel:Nat} {listed:Array Bool} {a:Act} {w w':World} {oi:Oper} (hi:ops[i]?=some oi) (hd:oi.dst=d) (hr:qF md ops listed=[i]) (hw:sH oi (yielded ops a.tmps)=true)
  (hop:(execOp a.eval oi).run P w= .ok .skip w') (hz:(∀z∈Z,(listed.setIfInBounds i true).getD z true=false)->S w')
  (h:wpAnyL P md ops Q S Z fuel (listed.setIfInBounds i true) (a.put d undef) w'):wpAnyL P md ops Q S Z (fuel+1) listed a w:=by
 subst hd;refine dO i hi hr hw ?_;unfold Oper.wp;rw [hop];exact ⟨hz,h⟩
theorem bB {listed:Array Bool} {a:Act} {w:World} (hr:qF md ops listed=[]) (h:Q .normal a w):∀fuel,wpAnyL P md ops Q S Z fuel listed a w
 |0=>⟨hr,h⟩
 |_+1=>⟨fun _=>h,by rw [hr];simp⟩
end
theorem DU (w:World) (base n:Nat) (hn:n<=1000000) (hbase:base<=w.heap.size):
  ∃w',(Instr.makeSlice 50 (.int .i64 (n:Int)) (.int .i64 (n:Int))).run Tryz.prog w= .ok (.slice (some ⟨w.heap.size,0,none⟩) n n) w'/\eX w' base (some ⟨w.heap.size,0,none⟩) n (rT n 0)/\w.grownBy w' none:=by
 obtain ⟨i0,hi,hz0,hz1,hz2⟩:=info_parts YE;obtain ⟨w',h1,h2,h3⟩:=run_makeSlice_full (w:=w) base 50 3 i0 _ 1 Tryz.underlying50 hi hz0 hz1 .i64 .i64 n (by omega) (by rw [hz2];omega) (by unfold maxLen;omega) hbase;refine ⟨w',h1,?_,h3⟩;show w'.ownsRow base 3 1 (.slice (some ⟨w.heap.size,0,none⟩) (rT n (0:Int)).length n) (rT n (0:Int)).length ((rT n (0:Int)).flatMap encI);rw [List.length_replicate,ru,List.map_replicate]
 have e:(madeCells (Value.int .i64 0).cells (n*1)).toList=rT n (Value.int .i64 0):=by
  rw [Nat.mul_one];exact toList_madeCells_one _ _
 rw [<-e];exact h2
theorem tX {α:Type} (l:List α) (k:Nat) (x:α) (h:k<l.length):(l.set k x).take (k+1)=l.take k++[x]:=by
 rw [yj,List.take_set_of_le (aK _),List.getElem?_set_self h];rfl
theorem rM {w w':World} (h:w.grownBy w' none):Below w.heap.size w w':=
 (aI w.heap.size w).grown h (aK _) fun k hk=>by cases hk
theorem Bq (A:Option Addr) (c:Nat) (T ks rest:List Nd) (x:Nd) (i:Nat) (w:World) (ha:bJ w w.heap.size A T) (hl:T.length<=1000000000) (hx:T[i]?=some x) (hxo:dP x.k x.n=true) (hd:T.drop (i+1)=ks++rest) (hok:bC ks) (hf:Fo (manyN x) ks):
  Calls Tryz.prog 113 #[.slice A T.length c,.int .i64 (i:Int)] w fun e w'=>
   ∃A' cap',e= .returned (.slice A' (cB (aV T (manyN x) (i+1))).length cap')/\eX w' w.heap.size A' cap' (cB (aV T (manyN x) (i+1)))/\Below w.heap.size w w':=by
 have hi:=aP hx;obtain ⟨b1,o1,rfl,hb1,c10,c11,c12⟩:=ha.at_ hx;have Hm:=aB ((KI hxo).trans (kC hxo));have U0:=oZ hxo;have Hd:=aB hd;have n_:=aB hok;have Hf:=aB hf;have Hx:=aB hx;clear hd hok hf hx hxo;have h0':(0:Int)<=(i:Int):=by omega
 have h1':(i:Int)<(T.length:Int):=by omega
 have hd0:decide ((i:Int)<0)=false:=by simp
 have hd1:decide (T.length<=i)=false:=by simp;omega
 generalize hM:manyN x=M at*;go_enter Tryz.func113,Tryz.ntmps113;go_wp2_with (go_at_call 141;refine (KJ _ _ _ _).mono ?_;rintro e w1 ⟨rfl,hbx⟩;rw [Hm.out]);have hbel0:Below w.heap.size w w1:=hbx;obtain ⟨w2,hmk,hown2,KQ⟩:=DU w1 w.heap.size M (by omega) hbx.size;rw [hmk];have jk:=ah hbx (rM KQ);have z2:=jk.size;generalize hG:w1.heap.size=G at*;go_wp2_with fail
 go_loopw [6,26] (fun i6 k26 wr=>∃(k at_:Nat) (L:List Int) (ps:List Nd),i6= .int .i64 at_/\k26= .int .i64 k/\k<=M/\L.length=M/\at_<=T.length/\Hid (T.drop at_=ps++rest/\bC ps/\Fo (M-k) ps)/\
   eX wr w.heap.size (some ⟨G,0,none⟩) M L/\Below w.heap.size w wr/\Hid (L.take k++cB (aV T (M-k) at_)=cB (aV T M (i+1))))
  (fun _ k26 _=>M-(intOf k26).toNat)
 case atStart=>exact ⟨0,i+1,rT M 0,ks,rfl,rfl,cu _,by simp,hi,aB ⟨Hd.out,n_.out,Hf.out⟩,hown2,jk,aB (by simp)⟩
 case round=>
  clear hown2 jk z2 hmk KQ;obtain ⟨k,at_,L,ps,rfl,rfl,hkM,MP,adL,hps,hown,hbel,hgood⟩:=hrel;have zr:=hbel.size;by_cases hlt:k<M
  ·obtain ⟨d,hd'⟩:∃d,M-k=d+1:=⟨M-k-1,by omega⟩
   obtain ⟨p1,p2,p3⟩:=hps.out;rw [hd'] at p3;obtain ⟨ts,ps',rfl,hts,adP⟩:=p3.first;rw [kV] at p1;have Cw:=lC p1 hts.pos
   have hle:at_+ts.length<=T.length:=by
    have:=congrArg sI p1;rw [xX,lS] at this;omega
   have akt:=aB (show T.drop (at_+ts.length)=ps'++rest/\bC ps'/\Fo (M-(k+1)) ps' from ⟨iD p1,je p2,by rw [show M-(k+1)=d by omega];exact adP⟩);have uW:=aB (fun W h=>qK (some ⟨b1,o1,none⟩) c T ts (ps'++rest) at_ W h hl p1 (iK p2) hts)
   have dX:Hid ((L.set k (at_:Int)).take (k+1)++cB (aV T (M-(k+1)) (at_+ts.length))=cB (aV T M (i+1))):=aB (by
    rw [<-hgood.out,hd',eH Cw,iY p1 (iK p2) hts,show M-(k+1)=d by omega,tX _ _ _ (by omega)];simp [cB])
   clear hd' p1 p2 p3 hts adP hps hgood;obtain ⟨g,hg,hbg,Pk,⟨m,hm,hcell⟩,hfz,hown3,Gz⟩:=hown.O4 (j:=k) (by omega) (at_:Int);injection hg with hg
   injection hg with hg1 _ _
   subst hg1;have dH:=kY (p:=⟨G,k,none⟩) hbel hbg (.int .i64 (at_:Int));have hlen3:(L.set k (at_:Int)).length=M:=by simp [MP]
   clear hm;go_wp2_with (go_at_call 120;refine (uW.out _ ((ha.below dH).more dH.size)).mono ?_;rintro e w4 ⟨rfl,hb4⟩);have yH:=ay.below hown3 hb4 (aK _);go_roundw
   case rel=>exact ⟨k+1,at_+ts.length,L.set k (at_:Int),ps',rfl,by go_num,by omega,hlen3,hle,akt,yH,ah dH hb4,dX⟩
   case measure=>simp [intOf];omega
  ·have hkk:k=M:=by omega
   subst hkk
   have hout:L=cB (aV T k (i+1)):=by
    rw [<-hgood.out,Nat.sub_self,<-MP,wH];simp [aV,cB]
   clear hgood hps;go_wp2_with fail;go_ret;rw [<-hout];exact ⟨_,_,by rw [MP];rfl,hown,hbel⟩
end Go.Proofs.YtmjdhfbnmmdjiaaGreat
