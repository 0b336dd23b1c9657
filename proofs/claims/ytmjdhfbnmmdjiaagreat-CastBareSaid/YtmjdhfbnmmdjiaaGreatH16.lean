/- Laid together by a tool from the texts of this seat: RdH GvK ChT. Conditions: each theorem's own. -/
import Derived.Test.YtmjdhfbnmmdjiaaGreatH15
import Derived.Test.YtmjdhfbnmmdjiaaGreatH09
import Derived.Test.YtmjdhfbnmmdjiaaGreatH14
set_option maxHeartbeats 8000000
set_option maxRecDepth 100000
namespace Go.Proofs.YtmjdhfbnmmdjiaaGreat
open Go.Lib renaming hid->aB
open Go.RowKit.Below renaming refl->aI
open _root_.Nat renaming le_refl->aK,le_of_lt->aaq
open _root_.List renaming length_map->OX,mem_of_getElem?->O8,length_append->lS,getElem?_append_left->YX,getElem?_append_right->kg
open Go.World renaming block_lt_of_cell?->FD
open Go.RowKit
def rD (x:Nd):Bool:=decide (x.s.size<=100)
def om (xs:List Nd) (m:Int):Bool:=decide ((xs.length:Int)<=m)&&(xs.all rD&&iC xs)&&pW xs
theorem Ka {xs:List Nd} {m:Int} (h:om xs m=true):(xs.length:Int)<=m/\(∀x∈xs,x.s.size<=100)/\zV xs=true/\pW xs=true:=by
 unfold om at h;simp only [Bool.and_eq_true,decide_eq_true_eq,List.all_eq_true] at h;obtain ⟨⟨h1,h2,h3⟩,h4⟩:=h;exact ⟨h1,fun x hx=>by simpa [rD] using h2 x hx,by rw [<-right_eq];exact h3,h4⟩
theorem Qc (A:Option Addr) (c:Nat) (xs:List Nd) (m:Int) (w:World) (ha:bJ w w.heap.size A xs) (hl:xs.length<=9223372036854775807) (hs:∀x∈xs,x.s.size<=9223372036854775807):
  Calls Tryz.prog 14 #[.slice A xs.length c,.int .i64 m] w fun e w'=>e= .returned (.bool (om xs m))/\Below w.heap.size w w':=by
 have Hs:=aB hs;clear hs;by_cases h0:(xs.length:Int)<=m
 ·have h0':¬m<(xs.length:Int):=by omega
  have H0:=aB h0;clear h0;go_enter Tryz.func14,Tryz.ntmps14;go_wp2_with fail;go_loop [5] (fun i=>∃k:Nat,k<=xs.length/\i= .int .i64 k/\Hid (pV rD xs k=xs.all rD)) (fun i=>xs.length-(Lib.intOf i).toNat)
  case atStart=>exact ⟨0,Nat.zero_le _,rfl,aB rfl⟩
  case round=>
   clear h0';obtain ⟨k,hk,rfl,hgood⟩:=hrel;by_cases hp:k<xs.length
   ·obtain ⟨x,hx⟩:=aJ hp
    have hstep:=aB (q8 (p:=rD) hx);have hxs:=Hs.out x (O8 hx);obtain ⟨b1,o1,rfl,hb1,c10,c11,c12⟩:=ha.at_ hx;clear hx;by_cases yJ:x.s.size<=100
    ·have Gq:¬(100:Int)<(x.s.size:Int):=by omega
     have H:=aB yJ;clear yJ;go_wp2_with fail;go_round
     case rel=>exact ⟨k+1,hp,by go_num,aB (by rw [<-hgood.out,hstep.out];simp [rD,H.out])⟩
     case measure=>simp [Lib.intOf];omega
    ·have Gq:(100:Int)<(x.s.size:Int):=by omega
     have H:=aB yJ;clear yJ;go_wp2_with fail;go_ret
     exact ⟨aO (by
      have e:xs.all rD=false:=by rw [<-hgood.out,hstep.out];simp [rD,H.out]
      unfold om;rw [e];simp),aI _ _⟩
   ·have hend:=aB (sJ (p:=rD) hp)
    go_wp2_with fail;refine (EW A c xs _ ha hl Hs.out).mono ?_;rintro e w1 ⟨rfl,hb⟩;have B1:=aB hb;have T1:=aB ((ha.below hb).more hb.size);clear hb
    cases hr:iC xs with
    |false=>
     have HR:=aB hr;clear hr;go_wp2_with fail;go_ret
     exact ⟨aO (by unfold om;rw [HR.out];simp),B1.out⟩
    |true=>
     have HR:=aB hr;clear hr;go_wp2_with fail;refine (ER A c w1.heap.size xs w1 T1.out hl).mono ?_;rintro e w2 ⟨rfl,rfl⟩;go_wp2_with fail;go_ret
     exact ⟨aO (by
      have e:xs.all rD=true:=by rw [<-hgood.out,hend.out]
      unfold om;rw [e,HR.out,decide_eq_true H0.out];simp),B1.out⟩
 ·have h0':m<(xs.length:Int):=by omega
  have H0:=aB h0;clear h0;go_enter Tryz.func14,Tryz.ntmps14;go_wp2_with fail;go_ret;exact ⟨aO (by unfold om;rw [decide_eq_false (by have:=H0.out;omega)];rfl),aI _ _⟩
theorem aS.bnd {w:World} {B:Nat} {A:Option Addr} {l:List Bn} (h:mZ w B A l) {i:Nat} {b:Bn} (hn:l[i]?=some b):
  ∃g o,A=some ⟨g,o,none⟩/\g<B/\w.cell? ⟨g,o+i*2,none⟩=some (.string b.s)/\w.cell? ⟨g,o+i*2+1,none⟩=some (.slice b.A b.n b.c):=by
 obtain ⟨g,o,rfl,hb,hc⟩:=h (by rintro rfl;simp at hn);exact ⟨g,o,rfl,hb,hc i b hn 0 _ rfl,hc i b hn 1 _ rfl⟩
def ZQ (env:Env):Prop:=env.length<=20/\∀e∈env,om e.2 40=true
def Ig (env:Env):Prop:=env.length<=9223372036854775807/\∀e∈env,e.1.size<=9223372036854775807/\e.2.length<=9223372036854775807/\∀x∈e.2,x.s.size<=9223372036854775807
theorem WY (Y:Nat->Prop) (A:Option Addr) (c:Nat) (bs:List Bn) (env:Env) (w:World) (ha:mZ w w.heap.size A bs) (hen:dY w Y bs env) (hs:Ig env):
  Calls Tryz.prog 15 #[.slice A bs.length c] w (Shows (ZQ env) w):=by
 have hbl:bs.length<=9223372036854775807:=by have:=hen.1;have:=hs.1;omega
 have aqv:bs.length<=env.length:=by have:=hen.1;omega
 have HL:=aB hen.1;have HR:=aB ha;have H:=aB (And.intro hen hs);clear ha hen hs;go_enter Tryz.func15,Tryz.ntmps15;go_wp2_with fail;go_loopw [3] (fun o3 wr=>∃k:Nat,o3= .int .i64 k/\k<=bs.length/\k<=20/\Hid (Below w.heap.size w wr/\∀m e,m<k->env[m]?=some e->om e.2 40=true)) (fun o3 _=>bs.length-(Lib.intOf o3).toNat)
 case atStart=>exact ⟨0,rfl,by omega,by omega,aB ⟨aI _ _,fun m e hm=>by omega⟩⟩
 case round=>
  obtain ⟨k,rfl,hk,ak_,HI⟩:=hrel;by_cases hlt:k<bs.length
  rotate_left
  ·have hke:k=bs.length:=by omega
   have HQ:Hid (ZQ env):=aB ⟨by rw [<-HL.out,<-hke];exact ak_,kH fun m e hm=>HI.out.2 m e (by rw [hke,HL.out];exact hm)⟩;clear hke;go_wp2_with fail;go_ret;exact Shows.yes (fun _=>HQ.out) HI.out.1
  obtain ⟨b,hb⟩:=aJ hlt;obtain ⟨e0,he0⟩:=aJ (show k<env.length by rw [<-HL.out];exact hlt);obtain ⟨hbs,hbn,ZR⟩:=(H.out.1.fr (Fr.below HI.out.1:Fr Y w wr) fun q hq=>.inl hq).2 k b e0 hb he0;obtain ⟨g,o,rfl,hgl,c0,c1⟩:=aS.bnd (aS.below HR.out HI.out.1) hb;have hse:=H.out.2.2 e0 (O8 he0);have ZJ:=aB (Qc b.A b.c e0.2 40 wr ZR.ty.eY hse.2.1 hse.2.2);rw [<-hbn] at ZJ;have HE0:=aB he0;obtain ⟨s,hs2⟩:∃s,s=b.s:=⟨_,rfl⟩;rw [<-hs2] at c0;clear hb he0 hbs hbn ZR hse hs2;by_cases hk2:k=20
  ·have hkb:((k:Int)==20)=true:=by simp;omega
   clear hk2;go_wp2_with fail;go_ret;exact Shows.no HI.out.1
  have hkb:((k:Int)==20)=false:=by simp;omega
  by_cases hsz:s.size<=100
  rotate_left
  ·have K_:(100:Int)<(s.size:Int):=by omega
   clear hsz;go_wp2_with fail;go_ret;exact Shows.no HI.out.1
  have K_:¬(100:Int)<(s.size:Int):=by omega
  clear hsz;go_wp2_with fail;refine ZJ.out.mono ?_;rintro e w1 ⟨rfl,hb1⟩;have HB1:=aB (ah HI.out.1 hb1);clear hb1 c0 c1 K_
  cases hq:om e0.2 40
  ·go_wp2_with fail
   go_ret;exact Shows.no HB1.out
  ·have HQ:=aB hq
   clear hq;go_wp2_with fail;go_roundw
   case rel=>exact ⟨k+1,by go_num,by omega,by omega,aB ⟨HB1.out,fun m y hm hy2=>by
    rcases Nat.lt_or_ge m k with h|h
    ·exact HI.out.2 m y h hy2
    ·have:m=k:=by omega
     subst this;rw [HE0.out] at hy2;injection hy2 with hy2
     subst hy2;exact HQ.out⟩⟩
   case measure=>simp [Lib.intOf];omega
def vK:List Pt->Nat
 |[]=>0
 |x::xs=>x.T.length+x.U.length+vK xs
theorem Ih:∀(xs ys:List Pt),vK (xs++ys)=vK xs+vK ys
 |[],ys=>by simp [vK]
 |x::xs,ys=>by rw [List.cons_append,vK,vK,Ih xs ys];omega
structure gY (env:Env) (es:List Pt):Prop where
 few:Qa 40 es
 right:vg es
 env:ZQ env
 sum:vK es<=120
theorem xE (Y:Nat->Prop) (A EA:Option Addr) (c ec:Nat) (bs:List Bn) (env:Env) (es:List Pt) (w:World) (ha:mZ w w.heap.size A bs) (hen:dY w Y bs env) (hs:Ig env) (hx:kF w Y EA es) (hl:es.length<=9223372036854775807):
  Calls Tryz.prog 18 #[.slice A bs.length c,.slice EA es.length ec] w (Shows (gY env es) w):=by
 have HF:=aB (SC Y EA ec 40 es w hx hl (by omega));have ZT:=aB (fun v (hv:Below w.heap.size w v) (hf:Qa 40 es)=>M0 Y EA ec es v (hx.fr (Fr.below hv:Fr Y w v) fun q hq=>.inl hq) ⟨by have:=hf.1;omega,hf.2⟩);have Qb:=aB (fun v (hv:Below w.heap.size w v)=>WY Y A c bs env v ((aS.below ha hv).more hv.size) (hen.fr (Fr.below hv:Fr Y w v) fun q hq=>.inl hq) hs);have HX:=aB hx;clear ha hen hs hx;go_enter Tryz.func18,Tryz.ntmps18;go_wp2_with fail;refine HF.out.mono ?_;rintro e w1 ⟨b,rfl,hq,hb1⟩;have HQ:=aB hq;have HB1:=aB hb1;clear hq hb1
 cases b
 ·go_wp2_with fail
  go_ret;exact Shows.no HB1.out
 have U7:=HQ.out rfl;have HFe:=aB U7;have hle:=U7.1;clear U7;go_wp2_with fail;refine (ZT.out _ HB1.out HFe.out).mono ?_;rintro e w2 ⟨b,rfl,hq,hb2⟩;have uQ:=aB hq;have HB2:=aB (ah HB1.out hb2);clear hq hb2
 cases b
 ·go_wp2_with fail
  go_ret;exact Shows.no HB2.out
 have HRt:=aB (uQ.out rfl);go_wp2_with fail;refine (Qb.out _ HB2.out).mono ?_;rintro e w3 ⟨b,rfl,hq,hb3⟩;have HQ3:=aB hq;have HB3:=aB (ah HB2.out hb3);clear hq hb3
 cases b
 ·go_wp2_with fail
  go_ret;exact Shows.no HB3.out
 have HEq:=aB (HQ3.out rfl);go_wp2_with fail;go_loopw [5,6] (fun o5 o6 wr=>∃(k n:Nat),o5= .int .i64 n/\o6= .int .i64 k/\k<=es.length/\n<=k*120/\Hid (n=vK (es.take k))/\Hid (Below w.heap.size w wr)) (fun _ o6 _=>es.length-(Lib.intOf o6).toNat)
 case atStart=>exact ⟨0,0,rfl,rfl,by omega,by omega,aB rfl,HB3⟩
 case round=>
  obtain ⟨k,n,rfl,rfl,hk,hn,HS,HI⟩:=hrel;by_cases hlt:k<es.length
  rotate_left
  ·have HE:Hid (es.take k=es):=aB (List.take_of_length_le (by omega))
   by_cases ad7:n<=120
   ·have afN:(n:Int)<=120:=by omega
    have HG:Hid (gY env es):=aB ⟨HFe.out,HRt.out,HEq.out,by have:=HS.out;rw [HE.out] at this;omega⟩;clear ad7;go_wp2_with fail;go_ret;exact Shows.yes (fun _=>HG.out) HI.out
   ·have afN:¬(n:Int)<=120:=by omega
    clear ad7;go_wp2_with fail;go_ret;exact Shows.no HI.out
  obtain ⟨x,hx⟩:=aJ hlt;obtain ⟨eb,eo,rfl,hb,_,⟨TA,tc,UA,uc,_,_,c0,c1,c2,c3,c4,c5,c6,c7⟩,_⟩:=(HX.out.fr (Fr.below HI.out:Fr Y w wr) fun q hq=>.inl hq) k x hx;have hfx:=HFe.out.2 x (O8 hx);have ala:=hfx.T;have alb:=hfx.U;have ZU:=aB hx;obtain ⟨tn,htn⟩:∃tn,tn=x.T.length:=⟨_,rfl⟩;obtain ⟨un,hun⟩:∃un,un=x.U.length:=⟨_,rfl⟩;rw [<-htn] at c6 ala;rw [<-hun] at c7 alb;have pQ:=aB (And.intro htn hun);clear hx hfx htn hun c0 c1 c2 c3 c4 c5;go_wp2_with fail;go_quiet (fail);obtain ⟨wq,hwq⟩:∃wq,wq=wr.drewN nq:=⟨_,rfl⟩;rw [<-hwq];have HBq:Hid (Below w.heap.size w wq):=aB (by rw [hwq];exact below_drewN HI.out _);clear hwq c6 c7;go_wp2_with fail;go_roundw
  case rel=>exact ⟨k+1,n+tn+un,by go_num,by go_num,by omega,by omega,aB (by
   rw [List.take_add_one,ZU.out,Ih,<-HS.out];simp only [Option.toList,vK];rw [<-pQ.out.1,<-pQ.out.2];omega),HBq⟩
  case measure=>simp [Lib.intOf];omega
section
variable {w:World} {ops:Array Oper} {rest:List Oper} {o:Oper} {a:Act} {K:Act->World->Prop} {Q:Exit->Act->World->Prop}
theorem nL (hgd:o.guard=none) (s x:Operand)
  (ho:o.op= .call {callee:=.builtin .append,args:=#[s,x],argTypes:=#[71,71]})
  (base:Nat) {A:Option Addr} {cap m n:Nat} {l:List (Option Addr×Nat×Nat)} (hm:l.length=m) (hs:a.eval s= .slice A m cap) (hown:iA w base A cap l) {B:Nat} {A2:Option Addr} {c:Nat} {l2:List (Option Addr×Nat×Nat)} (hn:l2.length=n) (hx:a.eval x= .slice A2 n c) (hr:jV w B A2 l2)
  (hlen:m+n<=10000000) (hbase:base<=w.heap.size)
  (h:∀A' cap' w',iA w' base A' cap' (l++l2)->w.grownBy w' ((Value.slice A l.length cap).ownBlock)->wpList Tryz.prog ops Q rest (a.put o.dst (.slice A' (m+n) cap')) w'):wpList Tryz.prog ops Q (o::rest) a w:=by
 subst hm hn;exact Co hgd s x ho base hs hown hx hr hlen hbase fun A' cap' w' h1 h2 _=>h A' cap' w' h1 h2
theorem Qd (s x:Operand)
  (ho:o.op= .call {callee:=.builtin .append,args:=#[s,x],argTypes:=#[39,39]})
  (base:Nat) {A:Option Addr} {cap m n:Nat} {l:List ByteArray} (hm:l.length=m) (hs:a.eval s= .slice A m cap) (hown:dG w base A cap l) {B:Nat} {A2:Option Addr} {c:Nat} {l2:List ByteArray} (hn:l2.length=n) (hx:a.eval x= .slice A2 n c) (hr:p9 w B A2 l2)
  (hlen:m+n<=1000000000000) (hbase:base<=w.heap.size) (dst:Option Tmp) (hdst:o.dst=dst)
  (h:∀A' cap' w',dG w' base A' cap' (l++l2)->w.grownBy w' ((Value.slice A l.length cap).ownBlock)->K (a.put dst (.slice A' (m+n) cap')) w'):Oper.wp Tryz.prog o a w K Q:=by
 subst hm hn hdst;obtain ⟨i0,hi,hz0,hz1,hz2⟩:=info_parts GL;exact uV w jA DZ s x 39 ho base 9 i0 _ 16 Tryz.underlying39 hi hz0 hz1 hz2 rfl (by decide) hs hown hx hr (by unfold maxLen;omega) (by omega) hbase fun A' cap' w' h1 h2 _=>h A' cap' w' h1 h2
end
theorem M4 {nx:Nx} {es:List Pt} {env:Env} {m a:Nat} {fs:List fB} {R:Except (Nat×Int) (List fB×Nat)} (h:iG nx es env (m+1) a fs=some R):
  ∃x,es[a]?=some x/\((∃b,nx env a=some (.error b)/\R= .error b)\/∃t b,nx env a=some (.ok (t,b))/\iG nx es env m b (fs++[(x.lb,t)])=some R):=by
 unfold iG at h;split at h
 ·cases h
 ·rename_i x hx
  refine ⟨x,hx,?_⟩;split at h
  ·cases h
  ·rename_i b hb
   injection h with h
   exact .inl ⟨b,hb,h.symm⟩
  ·rename_i t b hb
   exact .inr ⟨t,b,hb,h⟩
structure SE (P:Nat) (es:List Pt) (env:Env) (nx:Nx) (p:Pt) (TA:Option Addr) (tc:Nat) (UA:Option Addr) (uc:Nat) (Y:Nat->Prop) (w:World) (n:Nat) (R:Except (Nat×Int) (List fB×Nat)) (k:Nat) (Yk:Nat->Prop) (a:Nat) (fs:List fB) (LA:Option Addr) (lc:Nat) (VA:Option Addr) (vc:Nat) (vs:List (Option Addr×Nat×Nat)) (wr:World):Prop where
 fr:Fr Y w wr
 yn:aj Y Yk w
 wk:bf P es env (.ok a) Yk wr
 pm:aZ wr Yk w.heap.size p TA tc UA uc
 lt:dG wr w.heap.size LA lc (fs.map (·.1))
 vt:iA wr w.heap.size VA vc vs
 vl:vs.length=fs.length
 sl:∀(i:Nat) (v:Option Addr×Nat×Nat) (f:fB),vs[i]?=some v->fs[i]?=some f->v.2.1=f.2.length/\aF wr Yk v.1 v.2.2 f.2
 gd:∀f∈fs,Gd f.2
 len:fs.length=k
 run:iG nx es env (n-k) a fs=some R
structure M5 (P:Nat) (es:List Pt) (env:Env) (p:Pt) (TA:Option Addr) (tc:Nat) (UA:Option Addr) (uc:Nat) (Y:Nat->Prop) (w:World) (x:Nat×Int) (Yk:Nat->Prop) (wr:World):Prop where
 fr:Fr Y w wr
 yn:aj Y Yk w
 wk:bf P es env (.error x) Yk wr
 pm:aZ wr Yk w.heap.size p TA tc UA uc
theorem aZ.bW {w w':World} {U:TypeId} {Y:Nat->Prop} {b:Nat} {p:Pt} {TA UA:Option Addr} {tc uc:Nat} (h:aZ w Y b p TA tc UA uc) (k:iF w w' U Y) (h1:U≠49) (h2:U≠33):aZ w' Y b p TA tc UA uc:=by
 have hb:b<w.heap.size:=(Array.getElem?_eq_some_iff.1 h.blk).1;exact ⟨(k.block b hb fun h5=>iQ.ne h5.1 ⟨_,_,h.blk⟩ h2 rfl).trans h.blk,h.off,h.T.bW k h1,h.U.bW k h1⟩
theorem ay.bW {α:Type} {U V size base:Nat} {enc:α->List Value} {w w':World} {A:Option Addr} {cap:Nat} {l:List α} (h:ay V size enc w base A cap l) {Y:Nat->Prop} (k:iF w w' U Y) (hV:U≠V):ay V size enc w' base A cap l:=
 ay.fr h k.fr fun _a ha h5=>iQ.ne h5.1 (ay.rO h ha) hV rfl
theorem WZ (P:Nat) (es:List Pt) (nx:Nx) (HN:Hid (nR P es nx)) (env:Env) (p:Pt) (aN a:Nat) (r:fF) (Y:Nat->Prop) (w:World) (TA UA:Option Addr) (tc uc:Nat) (h:bf P es env (.ok a) Y w) (hT:aF w Y TA tc p.T) (hU:aF w Y UA uc p.U) (hG:∀env a t b,nx env a=some (.ok (t,b))->Gd t) (hm:vH nx es env p a=some r):
  Calls Tryz.prog 73 #[pk P,pv p TA tc UA uc,.int .i64 aN] w (bI P es env Y r w):=by
 have vL:Hid (P<w.heap.size):=aB (h.lt P h.yP);obtain ⟨w1,hw1⟩:∃w1,w1=w.alloc (.cells #[.int .i64 p.k,.string p.lb,.string p.nm,.string p.bd,.int .i64 p.mn,.int .i64 p.num,.slice TA p.T.length tc,.slice UA p.U.length uc] 33):=⟨_,rfl⟩;have hpm:=aZ.new h.lt hT hU;have hb1:Below w.heap.size w w1:=by rw [hw1];exact au (aI _ _) _
 rw [<-hw1] at hpm;unfold vH at hm;split at hm
 ·rename_i hmn
  obtain ⟨n,hn⟩:∃n:Nat,p.mn=(n:Int):=⟨p.mn.toNat,by omega⟩;have Zk:n<=50:=by omega
  rw [show p.mn.toNat=n by omega] at hm
  obtain ⟨R,hR⟩:∃R,iG nx es env n a []=some R:=by
   cases h9:iG nx es env n a [] with
   |none=>rw [h9] at hm;cases hm
   |some R=>exact ⟨R,rfl⟩
  rw [hR] at hm;have k4:=hpm.cells.2.2.2.2.1;rw [hn] at k4;have HI0:Hid (SE P es env nx p TA tc UA uc Y w n R 0 Y a [] none 0 none 0 [] w1):=aB ⟨Fr.below hb1,aj.refl _ _,h.later hb1,hpm,ay.nil,ay.nil,rfl,fun i v f hv=>by simp at hv,fun f hf=>by simp at hf,rfl,hR⟩;have HR:=aB hm;have HD:=aB hG;clear h hT hU hm hG hpm hb1 hR hmn hn;unfold pk pv;go_enter Tryz.func73,Tryz.ntmps73;go_upto_region 1 with fail
  rw [<-hw1];clear hw1;go_upto_region 4 with fail
  clear k4;go_loopw [7,8,13] (fun s7 s8 s13 wr=>∃k:Nat,k<=n/\s13= .int .i64 k/\((∃(Yk:Nat->Prop) (ak:Nat) (fs:List fB) (LA:Option Addr) (lc:Nat) (VA:Option Addr) (vc:Nat) (vs:List (Option Addr×Nat×Nat)),s7= .slice LA k lc/\s8= .slice VA k vc/\Hid (SE P es env nx p TA tc UA uc Y w n R k Yk ak fs LA lc VA vc vs wr))\/(∃(x:Nat×Int) (Yk:Nat->Prop),R= .error x/\Hid (M5 P es env p TA tc UA uc Y w x Yk wr)))) (fun _ _ s13 _=>n-(Lib.intOf s13).toNat)
  case atStart=>exact ⟨0,Nat.zero_le _,rfl,.inl ⟨Y,a,[],none,0,none,0,[],rfl,rfl,HI0⟩⟩
  case round=>
   obtain ⟨k,hk,rfl,hmode⟩:=hrel;rcases hmode with ⟨Yk,ak,fs,LA,lc,VA,vc,vs,rfl,rfl,HI⟩|⟨x,Yk,Qe,HE⟩
   ·have oh:=aB (jg P es env _ _ _ HI.out.wk)
    simp only [qC] at oh;unfold pk at oh;by_cases hlt:k<n
    ·go_wp2_with fail
     refine oh.out.mono ?_;rintro e w2 ⟨rfl,hb2⟩;obtain ⟨x,hx,hst⟩:=M4 (m:=n-k-1) (by rw [show n-k-1+1=n-k by omega];exact HI.out.run);obtain ⟨a',p',e',⟨EA,ec,Ar,Au,bs,hm2⟩,ha,hp,he⟩:=HI.out.wk.later hb2;subst ha hp he;obtain ⟨eb,eo,eA,hel,_,⟨_,_,_,_,_,_,_,hlb,_⟩,_⟩:=hm2.ex _ _ hx;subst eA;obtain ⟨c0,c1,_,_,_⟩:=hm2.cells;have hal:=aP hx;have ZV:=hm2.el;have HX:=aB hst;have HI2:Hid (Fr Y w w2/\bf P es env (.ok a') Yk w2/\aZ w2 Yk w.heap.size p TA tc UA uc/\dG w2 w.heap.size LA lc (fs.map (·.1))/\iA w2 w.heap.size VA vc vs/\∀(i:Nat) (v:Option Addr×Nat×Nat) (f:fB),vs[i]?=some v->fs[i]?=some f->v.2.1=f.2.length/\aF w2 Yk v.1 v.2.2 f.2):=aB ⟨HI.out.fr.trans (Fr.below hb2),HI.out.wk.later hb2,HI.out.pm.later hb2,HI.out.lt.below hb2 (aK _),HI.out.vt.below hb2 (aK _),fun i v f hv hf=>⟨(HI.out.sl i v f hv hf).1,(HI.out.sl i v f hv hf).2.later hb2⟩⟩;clear hb2 hm2 hst hx;go_upto_region 7 with fail
     obtain ⟨SS,hSS⟩:∃SS:World->Prop,SS=fun v=>v.cell? ⟨P,0,none⟩=some (.slice (some ⟨eb,eo,none⟩) es.length ec)/\v.cell? ⟨P,1,none⟩=some (.int .i64 (a':Int))/\v.cell? ⟨eb,eo+a'*8+1,none⟩=some (.string x.lb):=⟨_,rfl⟩
     have HS:Hid (∀v,Below w2.heap.size w2 v->SS v):=aB fun v hv=>by
      rw [hSS];exact ⟨(hv.cell (FD _ _ c0)).trans c0,(hv.cell (FD _ _ c1)).trans c1,(hv.cell hel).trans hlb⟩
     obtain ⟨wd,hwd⟩:∃wd,wd=w2.drew:=⟨_,rfl⟩;have bM:Hid (Below w2.heap.size w2 wd):=aB (by rw [hwd];exact (aI _ _).drew);have hsd:SS wd:=HS.out _ bM.out;refine aG (S:=SS) [13] (by kernel_rfl) (by rw [<-hwd];exact hsd) (fun hHeld=>?_);rw [<-hwd] at hHeld ⊢;clear hwd c0 c1 hlb;refine aM 0 [13,14] (some 18) rfl rfl ?_;refine aM 1 [2,3,4,9,10,11,12,13,14] (some 19) rfl rfl ?_;refine aM 2 [3,4,9,10,11,12,13,14] (some 20) rfl rfl ?_;refine aM 3 [4,9,10,11,12,13,14] (some 21) rfl rfl ?_;refine aM 4 [9,10,11,12,13,14] (some 22) rfl rfl ?_;refine aM 5 [6,7,8,9,10,11,12,13,14] (some 23) rfl rfl ?_;refine aM 6 [7,8,9,10,11,12,13,14] (some 24) rfl rfl ?_;refine aM 7 [8,9,10,11,12,13,14] (some 25) rfl rfl ?_;refine aM 8 [9,10,11,12,13,14] (some 26) rfl rfl ?_;refine aM 9 [10,11,12,13,14] (some 27) rfl rfl ?_;refine aM 10 [11,12,13,14] (some 28) rfl rfl ?_;refine aM 11 [12,13,14] (some 29) rfl rfl ?_;refine aX 12 (some 30) (v:=?_) (w':=?_) rfl rfl (by kernel_rfl) (by rfl) ?_ (fun _=>?_) ?_
     rotate_left
     rotate_left
     ·(go_simp;first|with_reducible rfl|(constructor<;>with_reducible rfl))
     ·exact HS.out _ (au bM.out _)
     refine aA ?_;obtain ⟨we,j_⟩:∃we,we=wd.alloc (.cells #[.string x.lb] 9):=⟨_,rfl⟩;have jF:Hid (Below w2.heap.size w2 we):=aB (by rw [j_];exact au bM.out _);have HRe:Hid (p9 we (wd.heap.size+1) (some ⟨wd.heap.size,0,none⟩) [x.lb]):=aB (by rw [j_];exact l6 wd x.lb);rw [<-j_];clear j_;have xG:Hid ((fs.map (·.1)).length=k):=aB (by rw [OX];exact HI.out.len);have U8:k<=50:=by omega
     refine dO 13 rfl (by kernel_rfl) (by rfl) ?_;refine Qd (.tmp 18) (.tmp 30) (by rfl) w.heap.size (m:=k) (n:=1) xG.out (by rfl) (HI2.out.2.2.2.1.below jF.out (aK _)) (l2:=[x.lb]) rfl (by rfl) HRe.out (by omega) (Nat.le_trans HI2.out.1.size jF.out.size) (some 31) rfl ?_;intro y8 y9 w5 hown5 hg5;have xH:Hid (iF we w5 9 Yk):=aB (iF.grown (HI2.out.2.2.2.1.below jF.out (aK _)) rfl hg5 HI2.out.2.1.yP (aaq vL.out))
     have wF:Hid (Fr Y w w5/\bf P es env (.ok a') Yk w5/\aZ w5 Yk w.heap.size p TA tc UA uc/\dG w5 w.heap.size y8 y9 (fs.map (·.1)++[x.lb])/\iA w5 w.heap.size VA vc vs/\∀(i:Nat) (v:Option Addr×Nat×Nat) (f:fB),vs[i]?=some v->fs[i]?=some f->v.2.1=f.2.length/\aF w5 Yk v.1 v.2.2 f.2):=aB (by
      refine ⟨Fr.new (HI2.out.1.trans (Fr.below jF.out)) (Fr.grown hg5 fun q e=>e) (fun q e=>.inr ?_),(HI2.out.2.1.later jF.out).bW xH.out (by decide) (by decide) (by decide) (by decide),(HI2.out.2.2.1.later jF.out).bW xH.out (by decide) (by decide),hown5,(HI2.out.2.2.2.2.1.below jF.out (aK _)).bW xH.out (by decide),fun i v f hv hf=>⟨(HI2.out.2.2.2.2.2 i v f hv hf).1,((HI2.out.2.2.2.2.2 i v f hv hf).2.later jF.out).bW xH.out (by decide)⟩⟩;have:=(ay.block (HI2.out.2.2.2.1.below jF.out (aK _)) q (by rw [xG.out];rw [xG.out] at e;exact e)).1;exact this)
     clear hown5 hg5;refine ⟨zL (by kernel_rfl),?_⟩;refine aA ?_;refine aX 14 (some 7) rfl rfl (by kernel_rfl) (by rfl) (by go_simp;first|with_reducible rfl|(constructor<;>with_reducible rfl)) (zL (by kernel_rfl)) ?_;refine aA ?_;refine bB (by kernel_rfl) ?_ _;clear hHeld hsd;rcases HX.out with ⟨x2,h1,hr2⟩|⟨t,b,h1,hr2⟩
     ·have za:=aB (HN.out env (.ok a') (.error x2) Yk w5 h1 wF.out.2.1)
      unfold pk at za;have hvk:vs.length=k:=by rw [HI.out.vl,HI.out.len]
      have M6:=aB hvk;go_wp2_with fail;refine za.out.mono ?_;rintro e w6 ⟨Y6,gZ,j4,oq,rfl⟩;have H6:Hid (Fr Y w w6/\aj Y Y6 w/\bf P es env (.error x2) Y6 w6/\aZ w6 Y6 w.heap.size p TA tc UA uc/\iA w6 w.heap.size VA vc vs):=aB ⟨Fr.new wF.out.1 gZ HI.out.yn,aj.trans HI.out.yn j4 wF.out.1.size,oq,wF.out.2.2.1.fr gZ j4,ay.step wF.out.2.2.2.2.1 wF.out.2.1 gZ (by decide) (by decide)⟩;clear gZ j4 oq hvk;go_wp2_with (at_builtin;refine nL rfl (.tmp 32) (.tmp 35) rfl w.heap.size (m:=k) (n:=1) M6.out rfl (ay.alloc H6.out.2.2.2.2 _) (l2:=[(none,0,0)]) rfl rfl (oK w6 (none,0,0)) (by omega) (by have:=H6.out.1.size;simp;omega) ?_;intro uP xC w7 nQ tY);have ug:Hid (iF (w6.alloc (.cells #[.slice none 0 0] 28)) w7 28 Y6):=aB (iF.grown (ay.alloc H6.out.2.2.2.2 _) rfl tY H6.out.2.2.1.yP (aaq vL.out));have gI:Hid (Below w6.heap.size w6 (w6.alloc (.cells #[.slice none 0 0] 28))):=aB (au (aI _ _) _)
      have HE7:Hid (M5 P es env p TA tc UA uc Y w x2 Y6 w7):=aB (by
       refine ⟨Fr.new (H6.out.1.trans (Fr.below gI.out)) (Fr.grown tY fun q e=>e) (fun q e=>.inr (ay.block H6.out.2.2.2.2 q e).1),H6.out.2.1,(H6.out.2.2.1.later gI.out).bW ug.out (by decide) (by decide) (by decide) (by decide),(H6.out.2.2.2.1.later gI.out).bW ug.out (by decide) (by decide)⟩)
      clear nQ tY;go_wp2_with fail;go_roundw
      case rel=>exact ⟨k+1,by omega,by go_num,.inr ⟨x2,Y6,hr2,HE7⟩⟩
      case measure=>simp [Lib.intOf];omega
     ·have za:=aB (HN.out env (.ok a') (.ok (t,b)) Yk w5 h1 wF.out.2.1)
      unfold pk at za;have hvk:vs.length=k:=by rw [HI.out.vl,HI.out.len]
      have M6:=aB hvk;go_wp2_with fail;refine za.out.mono ?_;rintro e w6 ⟨Y6,gZ,j4,oq,A6,c6,rfl,CV⟩;have H6:Hid (Fr Y w w6/\aj Y Y6 w/\bf P es env (.ok b) Y6 w6/\aZ w6 Y6 w.heap.size p TA tc UA uc/\iA w6 w.heap.size VA vc vs/\dG w6 w.heap.size y8 y9 (fs.map (·.1)++[x.lb])/\aF w6 Y6 A6 c6 t/\∀(i:Nat) (v:Option Addr×Nat×Nat) (f:fB),vs[i]?=some v->fs[i]?=some f->v.2.1=f.2.length/\aF w6 Y6 v.1 v.2.2 f.2):=aB ⟨Fr.new wF.out.1 gZ HI.out.yn,aj.trans HI.out.yn j4 wF.out.1.size,oq,wF.out.2.2.1.fr gZ j4,ay.step wF.out.2.2.2.2.1 wF.out.2.1 gZ (by decide) (by decide),ay.step wF.out.2.2.2.1 wF.out.2.1 gZ (by decide) (by decide),CV,fun i v f hv hf=>⟨(wF.out.2.2.2.2.2 i v f hv hf).1,(wF.out.2.2.2.2.2 i v f hv hf).2.fr gZ j4⟩⟩;have SF:=aB (HD.out _ _ _ _ h1);have Qf:=aB hr2;clear gZ j4 oq hvk CV h1 hr2;go_wp2_with (at_builtin;refine nL rfl (.tmp 32) (.tmp 35) rfl w.heap.size (m:=k) (n:=1) M6.out rfl (ay.alloc H6.out.2.2.2.2.1 _) (l2:=[(A6,t.length,c6)]) rfl rfl (oK w6 (A6,t.length,c6)) (by omega) (by have:=H6.out.1.size;simp;omega) ?_;intro uP xC w7 nQ tY);have ug:Hid (iF (w6.alloc (.cells #[.slice A6 t.length c6] 28)) w7 28 Y6):=aB (iF.grown (ay.alloc H6.out.2.2.2.2.1 _) rfl tY H6.out.2.2.1.yP (aaq vL.out));have gI:Hid (Below w6.heap.size w6 (w6.alloc (.cells #[.slice A6 t.length c6] 28))):=aB (au (aI _ _) _)
      have Kc:Hid (SE P es env nx p TA tc UA uc Y w n R (k+1) Y6 b (fs++[(x.lb,t)]) y8 y9 uP xC (vs++[(A6,t.length,c6)]) w7):=aB (by
       refine ⟨Fr.new (H6.out.1.trans (Fr.below gI.out)) (Fr.grown tY fun q e=>e) (fun q e=>.inr (ay.block H6.out.2.2.2.2.1 q e).1),H6.out.2.1,(H6.out.2.2.1.later gI.out).bW ug.out (by decide) (by decide) (by decide) (by decide),(H6.out.2.2.2.1.later gI.out).bW ug.out (by decide) (by decide),?_,nQ,?_,?_,?_,?_,?_⟩
       ·rw [List.map_append]
        exact (H6.out.2.2.2.2.2.1.below gI.out (aK _)).bW ug.out (by decide)
       ·rw [lS,lS,HI.out.vl]
        rfl
       ·intro i v f hv hf
        rcases Nat.lt_or_ge i vs.length with hi|hi
        ·rw [YX hi] at hv
         rw [YX (by rw [<-HI.out.vl];exact hi)] at hf;exact ⟨(H6.out.2.2.2.2.2.2.2 i v f hv hf).1,((H6.out.2.2.2.2.2.2.2 i v f hv hf).2.later gI.out).bW ug.out (by decide)⟩
        ·rw [kg hi] at hv
         rw [kg (by rw [<-HI.out.vl];exact hi),<-HI.out.vl] at hf
         cases hj:i-vs.length with
         |zero=>
          rw [hj] at hv hf;simp at hv hf;subst hv hf
          exact ⟨rfl,(H6.out.2.2.2.2.2.2.1.later gI.out).bW ug.out (by decide)⟩
         |succ j=>rw [hj] at hv;simp at hv
       ·intro f hf
        rcases List.mem_append.1 hf with hf|hf
        ·exact HI.out.gd f hf
        ·simp at hf
         subst hf;exact SF.out
       ·rw [lS,HI.out.len]
        rfl
       ·rw [show n-(k+1)=n-k-1 by omega]
        exact Qf.out)
      clear nQ tY;go_wp2_with fail;go_roundw
      case rel=>exact ⟨k+1,by omega,by go_num,.inl ⟨Y6,b,fs++[(x.lb,t)],y8,y9,uP,xC,vs++[(A6,t.length,c6)],by go_num,by go_num,Kc⟩⟩
      case measure=>simp [Lib.intOf];omega
    ·have hkn:k=n:=by omega
     have yZ:Hid (R= .ok (fs,ak)):=aB (by
      have:=HI.out.run;rw [hkn,Nat.sub_self] at this;unfold iG at this;injection this with this
      exact this.symm)
     have uh:Hid (jZ 6 (fs.map (·.1)) fs.length=false/\(fs.map (·.1)).Nodup/\r= .ok (d_ 6 fs,ak)):=aB (by
      have:=HR.out;rw [yZ.out] at this;simp only at this;split at this
      ·rename_i h9
       injection this with this
       exact ⟨h9.1,h9.2,this.symm⟩
      ·cases this)
     have hfl:(fs.map (·.1)).length=k:=by rw [OX];exact HI.out.len
     have xG:=aB hfl;have Ke:Hid (vs.length=k):=aB (by rw [HI.out.vl,HI.out.len]);clear hkn hfl;go_wp2_with fail;refine oh.out.mono ?_;rintro e w2 ⟨rfl,hb2⟩;have HI2:Hid (Fr Y w w2/\bf P es env (.ok ak) Yk w2):=aB ⟨HI.out.fr.trans (Fr.below hb2),HI.out.wk.later hb2⟩
     have HX:=xq LA VA lc vc 6 (fs.map (·.1)) vs (fs.map (·.2)) w2 ((ay.read jA HI.out.lt).below hb2 |>.more hb2.size) ((ay.read jv HI.out.vt).below hb2 |>.more hb2.size) (by
      refine ⟨by rw [OX,HI.out.vl],fun i v xs hv hxs=>?_⟩;rw [List.getElem?_map,Option.map_eq_some_iff] at hxs;obtain ⟨f,hf,rfl⟩:=hxs;obtain ⟨e1,e2⟩:=HI.out.sl i v f hv hf;exact ⟨e1,(e2.later hb2).ty.eY⟩) (by
      intro xs hxs;obtain ⟨f,hf,rfl⟩:=List.mem_map.1 hxs;have g:=HI.out.gd f hf;exact ⟨fun h=>by have:=g.fo.pos;rw [h] at this;simp at this,g.len⟩) (by rw [OX];exact uh.out.1)
     rw [xG.out,Ke.out] at HX;have HX:=aB HX;clear hb2;go_wp2_with fail;refine HX.out.mono ?_;rintro e w3 ⟨hb3,hpost⟩
     have HP:Hid (∃A' cap',e= .returned (.tuple #[.slice A' (d_ 6 fs).length cap',.int .i64 0])/\dF w3 w2.heap.size A' cap' (d_ 6 fs)):=aB (by
      rcases hpost with ⟨h1,_⟩|⟨_,h1,_⟩|⟨_,os,A',cap',hp,ho,h1,h2⟩
      ·rw [OX,uh.out.1] at h1
       cases h1
      ·exact absurd uh.out.2.1 h1
      ·rw [D8 6 fs uh.out.2.1 os hp ho] at h1 h2
       exact ⟨A',cap',h1,h2⟩)
     clear hpost;obtain ⟨A',cap',hv,_⟩:=HP.out;subst hv
     have HQ:Hid (bI P es env Y r w (.returned (.slice A' (d_ 6 fs).length cap')) w3):=aB (by
      rw [uh.out.2.2];obtain ⟨A2,c2,e2,e3⟩:=HP.out;injection e2 with e2
      injection e2 with e2
      injection e2 with e2
      injection e2 with e2 _
      injection e2 with e4 _ e5
      subst e4 e5;exact ⟨Yk,HI2.out.1.trans (Fr.below hb3),HI.out.yn,HI2.out.2.later hb3,A',cap',rfl,aF.own e3 HI2.out.2.lt⟩)
     clear hb3;go_wp2_with fail;go_ret;exact HQ.out
   ·have oh:=aB (jg P es env _ _ _ HE.out.wk)
    simp only [qC] at oh;unfold pk at oh
    have HR2:Hid (r= .error x):=aB (by
     have:=HR.out;rw [Qe] at this;injection this with this
     exact this.symm)
    by_cases hlt:k<n
    ·go_wp2_with fail
     refine oh.out.mono ?_;rintro e w2 ⟨rfl,hb2⟩
     have HQ:Hid (bI P es env Y r w (.returned (.slice none 0 0)) w2):=aB (by
      rw [HR2.out];exact ⟨Yk,HE.out.fr.trans (Fr.below hb2),HE.out.yn,HE.out.wk.later hb2,_,_,_,rfl⟩)
     clear hb2 Qe;go_wp2_with fail;go_ret;exact HQ.out
    ·go_wp2_with fail
     refine oh.out.mono ?_;rintro e w2 ⟨rfl,hb2⟩
     have HQ:Hid (bI P es env Y r w (.returned (.slice none 0 0)) w2):=aB (by
      rw [HR2.out];exact ⟨Yk,HE.out.fr.trans (Fr.below hb2),HE.out.yn,HE.out.wk.later hb2,_,_,_,rfl⟩)
     clear hb2 Qe;go_wp2_with fail;go_ret;exact HQ.out
 ·cases hm
end Go.Proofs.YtmjdhfbnmmdjiaaGreat
