/- Laid together by a tool from the texts of this seat: GvK ChT ChRec. Conditions: each theorem's own. -/
import Derived.Test.YtmjdhfbnmmdjiaaGreatJ14
import Derived.Test.YtmjdhfbnmmdjiaaGreatJ09
import Derived.Test.YtmjdhfbnmmdjiaaGreatJ13
set_option maxHeartbeats 8000000
set_option maxRecDepth 100000
namespace Go.Proofs.YtmjdhfbnmmdjiaaGreat
open Go.Lib renaming hid->aD
open Go.RowKit.Below renaming refl->aF
open _root_.Nat renaming le_refl->aG,le_of_lt->aao
open Go.World renaming cell?->Ck,frozen?->EJ,size_alloc->Er,block_lt_of_cell?->Db
open _root_.List renaming length_map->Qx,length_append->jX,getElem?_append_left->aaf,getElem?_append_right->jd
open _root_.And renaming intro->Cj
open _root_.Array renaming getElem?_eq_some_iff->aaj
open Go.RowKit
def uH:List Pt->Nat
 |[]=>0
 |x::xs=>x.T.length+x.U.length+uH xs
theorem F7:∀(xs ys:List Pt),uH (xs++ys)=uH xs+uH ys
 |[],ys=>by simp [uH]
 |x::xs,ys=>by rw [List.cons_append,uH,uH,F7 xs ys];omega
structure ig (env:Env) (es:List Pt):Prop where
 few:Oo 40 es
 right:uo es
 env:XH env
 sum:uH es<=120
theorem K_ (Y:Nat->Prop) (A EA:Option Addr) (c ec:Nat) (bs:List Bn) (env:Env) (es:List Pt) (w:World) (ha:mK w w.heap.size A bs) (hen:dX w Y bs env) (hs:F6 env) (hx:jW w Y EA es) (hl:es.length<=9223372036854775807):
  Calls Tryz.prog 18 #[.slice A bs.length c,.slice EA es.length ec] w (Shows (ig env es) w):=by
 have HF:=aD (QH Y EA ec 40 es w hx hl (by omega));have XI:=aD (fun v (hv:Below w.heap.size w v) (hf:Oo 40 es)=>K8 Y EA ec es v (hx.fr (Fr.below hv:Fr Y w v) fun q hq=>.inl hq) ⟨by have:=hf.1;omega,hf.2⟩);have HEn:=aD (fun v (hv:Below w.heap.size w v)=>UZ Y A c bs env v ((bf.below ha hv).more hv.size) (hen.fr (Fr.below hv:Fr Y w v) fun q hq=>.inl hq) hs);have HX:=aD hx;clear ha hen hs hx;go_enter Tryz.func18,Tryz.ntmps18;go_wp2_with fail;refine HF.out.mono ?_;rintro e w1 ⟨b,rfl,hq,hb1⟩;have HQ:=aD hq;have HB1:=aD hb1;clear hq hb1
 cases b
 ·go_wp2_with fail
  go_ret;exact Shows.no HB1.out
 have XJ:=HQ.out rfl;have HFe:=aD XJ;have hle:=XJ.1;clear XJ;go_wp2_with fail;refine (XI.out _ HB1.out HFe.out).mono ?_;rintro e w2 ⟨b,rfl,hq,hb2⟩;have tQ:=aD hq;have HB2:=aD (au HB1.out hb2);clear hq hb2
 cases b
 ·go_wp2_with fail
  go_ret;exact Shows.no HB2.out
 have HRt:=aD (tQ.out rfl);go_wp2_with fail;refine (HEn.out _ HB2.out).mono ?_;rintro e w3 ⟨b,rfl,hq,hb3⟩;have HQ3:=aD hq;have HB3:=aD (au HB2.out hb3);clear hq hb3
 cases b
 ·go_wp2_with fail
  go_ret;exact Shows.no HB3.out
 have HEq:=aD (HQ3.out rfl);go_wp2_with fail;go_loopw [5,6] (fun o5 o6 wr=>∃(k n:Nat),o5= .int .i64 n/\o6= .int .i64 k/\k<=es.length/\n<=k*120/\Hid (n=uH (es.take k))/\Hid (Below w.heap.size w wr)) (fun _ o6 _=>es.length-(Lib.intOf o6).toNat)
 case atStart=>exact ⟨0,0,rfl,rfl,by omega,by omega,aD rfl,HB3⟩
 case round=>
  obtain ⟨k,n,rfl,rfl,hk,hn,HS,HI⟩:=hrel;by_cases hlt:k<es.length
  rotate_left
  ·have HE:Hid (es.take k=es):=aD (List.take_of_length_le (by omega))
   by_cases abU:n<=120
   ·have adD:(n:Int)<=120:=by omega
    have HG:Hid (ig env es):=aD ⟨HFe.out,HRt.out,HEq.out,by have:=HS.out;rw [HE.out] at this;omega⟩;clear abU;go_wp2_with fail;go_ret;exact Shows.yes (fun _=>HG.out) HI.out
   ·have adD:¬(n:Int)<=120:=by omega
    clear abU;go_wp2_with fail;go_ret;exact Shows.no HI.out
  obtain ⟨x,hx⟩:=aN hlt;obtain ⟨eb,eo,rfl,hb,_,⟨TA,tc,UA,uc,_,_,c0,c1,c2,c3,c4,c5,c6,c7⟩,_⟩:=(HX.out.fr (Fr.below HI.out:Fr Y w wr) fun q hq=>.inl hq) k x hx;have hfx:=HFe.out.2 x (List.mem_of_getElem? hx);have aiL:=hfx.T;have aiM:=hfx.U;have HXx:=aD hx;obtain ⟨tn,htn⟩:∃tn,tn=x.T.length:=⟨_,rfl⟩;obtain ⟨un,hun⟩:∃un,un=x.U.length:=⟨_,rfl⟩;rw [<-htn] at c6 aiL;rw [<-hun] at c7 aiM;have tO:=aD (Cj htn hun);clear hx hfx htn hun c0 c1 c2 c3 c4 c5;go_wp2_with fail;go_quiet (fail);obtain ⟨wq,hwq⟩:∃wq,wq=wr.drewN nq:=⟨_,rfl⟩;rw [<-hwq];have HBq:Hid (Below w.heap.size w wq):=aD (by rw [hwq];exact below_drewN HI.out _);clear hwq c6 c7;go_wp2_with fail;go_roundw
  case rel=>exact ⟨k+1,n+tn+un,by go_num,by go_num,by omega,by omega,aD (by
   rw [List.take_add_one,HXx.out,F7,<-HS.out];simp only [Option.toList,uH];rw [<-tO.out.1,<-tO.out.2];omega),HBq⟩
  case measure=>simp [Lib.intOf];omega
section
variable {w:World} {ops:Array Oper} {rest:List Oper} {o:Oper} {a:Act} {K:Act->World->Prop} {Q:Exit->Act->World->Prop}
theorem mW (hgd:o.guard=none) (s x:Operand)
  (ho:o.op= .call {callee:=.builtin .append,args:=#[s,x],argTypes:=#[71,71]})
  (base:Nat) {A:Option Addr} {cap m n:Nat} {l:List (Option Addr×Nat×Nat)} (hm:l.length=m) (hs:a.eval s= .slice A m cap) (hown:iH w base A cap l) {B:Nat} {A2:Option Addr} {c:Nat} {l2:List (Option Addr×Nat×Nat)} (hn:l2.length=n) (hx:a.eval x= .slice A2 n c) (hr:jU w B A2 l2)
  (hlen:m+n<=10000000) (hbase:base<=w.heap.size)
  (h:∀A' cap' w',iH w' base A' cap' (l++l2)->w.grownBy w' ((Value.slice A l.length cap).ownBlock)->wpList Tryz.prog ops Q rest (a.put o.dst (.slice A' (m+n) cap')) w'):wpList Tryz.prog ops Q (o::rest) a w:=by
 subst hm hn;exact KJ hgd s x ho base hs hown hx hr hlen hbase fun A' cap' w' h1 h2 _=>h A' cap' w' h1 h2
theorem Ot (s x:Operand)
  (ho:o.op= .call {callee:=.builtin .append,args:=#[s,x],argTypes:=#[39,39]})
  (base:Nat) {A:Option Addr} {cap m n:Nat} {l:List ByteArray} (hm:l.length=m) (hs:a.eval s= .slice A m cap) (hown:dN w base A cap l) {B:Nat} {A2:Option Addr} {c:Nat} {l2:List ByteArray} (hn:l2.length=n) (hx:a.eval x= .slice A2 n c) (hr:q9 w B A2 l2)
  (hlen:m+n<=1000000000000) (hbase:base<=w.heap.size) (dst:Option Tmp) (hdst:o.dst=dst)
  (h:∀A' cap' w',dN w' base A' cap' (l++l2)->w.grownBy w' ((Value.slice A l.length cap).ownBlock)->K (a.put dst (.slice A' (m+n) cap')) w'):Oper.wp Tryz.prog o a w K Q:=by
 subst hm hn hdst;obtain ⟨i0,hi,hz0,hz1,hz2⟩:=info_parts NQ;exact vP w j6 JH s x 39 ho base 9 i0 _ 16 Tryz.underlying39 hi hz0 hz1 hz2 rfl (by decide) hs hown hx hr (by unfold maxLen;omega) (by omega) hbase fun A' cap' w' h1 h2 _=>h A' cap' w' h1 h2
end
theorem La {nx:Nx} {es:List Pt} {env:Env} {m a:Nat} {fs:List eT} {R:Except (Nat×Int) (List eT×Nat)} (h:f_ nx es env (m+1) a fs=some R):
  ∃x,es[a]?=some x/\((∃b,nx env a=some (.error b)/\R= .error b)\/∃t b,nx env a=some (.ok (t,b))/\f_ nx es env m b (fs++[(x.lb,t)])=some R):=by
 unfold f_ at h;split at h
 ·cases h
 ·rename_i x hx
  refine ⟨x,hx,?_⟩;split at h
  ·cases h
  ·rename_i b hb
   injection h with h
   exact .inl ⟨b,hb,h.symm⟩
  ·rename_i t b hb
   exact .inr ⟨t,b,hb,h⟩
structure QI (P:Nat) (es:List Pt) (env:Env) (nx:Nx) (p:Pt) (TA:Option Addr) (tc:Nat) (UA:Option Addr) (uc:Nat) (Y:Nat->Prop) (w:World) (n:Nat) (R:Except (Nat×Int) (List eT×Nat)) (k:Nat) (Yk:Nat->Prop) (a:Nat) (fs:List eT) (LA:Option Addr) (lc:Nat) (VA:Option Addr) (vc:Nat) (vs:List (Option Addr×Nat×Nat)) (wr:World):Prop where
 fr:Fr Y w wr
 yn:ah Y Yk w
 wk:aM P es env (.ok a) Yk wr
 pm:aO wr Yk w.heap.size p TA tc UA uc
 lt:dN wr w.heap.size LA lc (fs.map (·.1))
 vt:iH wr w.heap.size VA vc vs
 vl:vs.length=fs.length
 sl:∀(i:Nat) (v:Option Addr×Nat×Nat) (f:eT),vs[i]?=some v->fs[i]?=some f->v.2.1=f.2.length/\aA wr Yk v.1 v.2.2 f.2
 gd:∀f∈fs,Gd f.2
 len:fs.length=k
 run:f_ nx es env (n-k) a fs=some R
structure Lc (P:Nat) (es:List Pt) (env:Env) (p:Pt) (TA:Option Addr) (tc:Nat) (UA:Option Addr) (uc:Nat) (Y:Nat->Prop) (w:World) (x:Nat×Int) (Yk:Nat->Prop) (wr:World):Prop where
 fr:Fr Y w wr
 yn:ah Y Yk w
 wk:aM P es env (.error x) Yk wr
 pm:aO wr Yk w.heap.size p TA tc UA uc
theorem aO.bW {w w':World} {U:TypeId} {Y:Nat->Prop} {b:Nat} {p:Pt} {TA UA:Option Addr} {tc uc:Nat} (h:aO w Y b p TA tc UA uc) (k:g_ w w' U Y) (h1:U≠49) (h2:U≠33):aO w' Y b p TA tc UA uc:=by
 have hb:b<w.heap.size:=(aaj.1 h.blk).1;exact ⟨(k.block b hb fun h5=>iE.ne h5.1 ⟨_,_,h.blk⟩ h2 rfl).trans h.blk,h.off,h.T.bW k h1,h.U.bW k h1⟩
theorem aB.bW {α:Type} {U V size base:Nat} {enc:α->List Value} {w w':World} {A:Option Addr} {cap:Nat} {l:List α} (h:aB V size enc w base A cap l) {Y:Nat->Prop} (k:g_ w w' U Y) (hV:U≠V):aB V size enc w' base A cap l:=
 aB.fr h k.fr fun _a ha h5=>iE.ne h5.1 (aB.qK h ha) hV rfl
theorem U0 (P:Nat) (es:List Pt) (nx:Nx) (HN:Hid (nC P es nx)) (env:Env) (p:Pt) (aK a:Nat) (r:fC) (Y:Nat->Prop) (w:World) (TA UA:Option Addr) (tc uc:Nat) (h:aM P es env (.ok a) Y w) (hT:aA w Y TA tc p.T) (hU:aA w Y UA uc p.U) (hG:∀env a t b,nx env a=some (.ok (t,b))->Gd t) (hm:sM nx es env p a=some r):
  Calls Tryz.prog 73 #[pk P,pv p TA tc UA uc,.int .i64 aK] w (aY P es env Y r w):=by
 have xW:Hid (P<w.heap.size):=aD (h.lt P h.yP);obtain ⟨w1,hw1⟩:∃w1,w1=w.alloc (.cells #[.int .i64 p.k,.string p.lb,.string p.nm,.string p.bd,.int .i64 p.mn,.int .i64 p.num,.slice TA p.T.length tc,.slice UA p.U.length uc] 33):=⟨_,rfl⟩;have hpm:=aO.new h.lt hT hU;have hb1:Below w.heap.size w w1:=by rw [hw1];exact aj (aF _ _) _
 rw [<-hw1] at hpm;unfold sM at hm;split at hm
 ·rename_i hmn
  obtain ⟨n,hn⟩:∃n:Nat,p.mn=(n:Int):=⟨p.mn.toNat,by omega⟩;have W_:n<=50:=by omega
  rw [show p.mn.toNat=n by omega] at hm
  obtain ⟨R,hR⟩:∃R,f_ nx es env n a []=some R:=by
   cases h9:f_ nx es env n a [] with
   |none=>rw [h9] at hm;cases hm
   |some R=>exact ⟨R,rfl⟩
  rw [hR] at hm;have k4:=hpm.cells.2.2.2.2.1;rw [hn] at k4;have HI0:Hid (QI P es env nx p TA tc UA uc Y w n R 0 Y a [] none 0 none 0 [] w1):=aD ⟨Fr.below hb1,ah.refl _ _,h.later hb1,hpm,aB.nil,aB.nil,rfl,fun i v f hv=>by simp at hv,fun f hf=>by simp at hf,rfl,hR⟩;have HR:=aD hm;have HD:=aD hG;clear h hT hU hm hG hpm hb1 hR hmn hn;unfold pk pv;go_enter Tryz.func73,Tryz.ntmps73;go_upto_region 1 with fail
  rw [<-hw1];clear hw1;go_upto_region 4 with fail
  clear k4;go_loopw [7,8,13] (fun s7 s8 s13 wr=>∃k:Nat,k<=n/\s13= .int .i64 k/\((∃(Yk:Nat->Prop) (ak:Nat) (fs:List eT) (LA:Option Addr) (lc:Nat) (VA:Option Addr) (vc:Nat) (vs:List (Option Addr×Nat×Nat)),s7= .slice LA k lc/\s8= .slice VA k vc/\Hid (QI P es env nx p TA tc UA uc Y w n R k Yk ak fs LA lc VA vc vs wr))\/(∃(x:Nat×Int) (Yk:Nat->Prop),R= .error x/\Hid (Lc P es env p TA tc UA uc Y w x Yk wr)))) (fun _ _ s13 _=>n-(Lib.intOf s13).toNat)
  case atStart=>exact ⟨0,Nat.zero_le _,rfl,.inl ⟨Y,a,[],none,0,none,0,[],rfl,rfl,HI0⟩⟩
  case round=>
   obtain ⟨k,hk,rfl,hmode⟩:=hrel;rcases hmode with ⟨Yk,ak,fs,LA,lc,VA,vc,vs,rfl,rfl,HI⟩|⟨x,Yk,Ou,HE⟩
   ·have nL:=aD (iZ P es env _ _ _ HI.out.wk)
    simp only [pz] at nL;unfold pk at nL;by_cases hlt:k<n
    ·go_wp2_with fail
     refine nL.out.mono ?_;rintro e w2 ⟨rfl,hb2⟩;obtain ⟨x,hx,hst⟩:=La (m:=n-k-1) (by rw [show n-k-1+1=n-k by omega];exact HI.out.run);obtain ⟨a',p',e',⟨EA,ec,zA,zB,bs,hm2⟩,ha,hp,he⟩:=HI.out.wk.later hb2;subst ha hp he;obtain ⟨eb,eo,eA,hel,_,⟨_,_,_,_,_,_,_,hlb,_⟩,_⟩:=hm2.ex _ _ hx;subst eA;obtain ⟨c0,c1,_,_,_⟩:=hm2.cells;have hal:=aU hx;have XK:=hm2.el;have HX:=aD hst;have HI2:Hid (Fr Y w w2/\aM P es env (.ok a') Yk w2/\aO w2 Yk w.heap.size p TA tc UA uc/\dN w2 w.heap.size LA lc (fs.map (·.1))/\iH w2 w.heap.size VA vc vs/\∀(i:Nat) (v:Option Addr×Nat×Nat) (f:eT),vs[i]?=some v->fs[i]?=some f->v.2.1=f.2.length/\aA w2 Yk v.1 v.2.2 f.2):=aD ⟨HI.out.fr.trans (Fr.below hb2),HI.out.wk.later hb2,HI.out.pm.later hb2,HI.out.lt.below hb2 (aG _),HI.out.vt.below hb2 (aG _),fun i v f hv hf=>⟨(HI.out.sl i v f hv hf).1,(HI.out.sl i v f hv hf).2.later hb2⟩⟩;clear hb2 hm2 hst hx;go_upto_region 7 with fail
     obtain ⟨SS,hSS⟩:∃SS:World->Prop,SS=fun v=>v.cell? ⟨P,0,none⟩=some (.slice (some ⟨eb,eo,none⟩) es.length ec)/\v.cell? ⟨P,1,none⟩=some (.int .i64 (a':Int))/\v.cell? ⟨eb,eo+a'*8+1,none⟩=some (.string x.lb):=⟨_,rfl⟩
     have HS:Hid (∀v,Below w2.heap.size w2 v->SS v):=aD fun v hv=>by
      rw [hSS];exact ⟨(hv.cell (Db _ _ c0)).trans c0,(hv.cell (Db _ _ c1)).trans c1,(hv.cell hel).trans hlb⟩
     obtain ⟨wd,hwd⟩:∃wd,wd=w2.drew:=⟨_,rfl⟩;have bM:Hid (Below w2.heap.size w2 wd):=aD (by rw [hwd];exact (aF _ _).drew);have hsd:SS wd:=HS.out _ bM.out;refine aI (S:=SS) [13] (by kernel_rfl) (by rw [<-hwd];exact hsd) (fun hHeld=>?_);rw [<-hwd] at hHeld ⊢;clear hwd c0 c1 hlb;refine aL 0 [13,14] (some 18) rfl rfl ?_;refine aL 1 [2,3,4,9,10,11,12,13,14] (some 19) rfl rfl ?_;refine aL 2 [3,4,9,10,11,12,13,14] (some 20) rfl rfl ?_;refine aL 3 [4,9,10,11,12,13,14] (some 21) rfl rfl ?_;refine aL 4 [9,10,11,12,13,14] (some 22) rfl rfl ?_;refine aL 5 [6,7,8,9,10,11,12,13,14] (some 23) rfl rfl ?_;refine aL 6 [7,8,9,10,11,12,13,14] (some 24) rfl rfl ?_;refine aL 7 [8,9,10,11,12,13,14] (some 25) rfl rfl ?_;refine aL 8 [9,10,11,12,13,14] (some 26) rfl rfl ?_;refine aL 9 [10,11,12,13,14] (some 27) rfl rfl ?_;refine aL 10 [11,12,13,14] (some 28) rfl rfl ?_;refine aL 11 [12,13,14] (some 29) rfl rfl ?_;refine bB 12 (some 30) (v:=?_) (w':=?_) rfl rfl (by kernel_rfl) (by rfl) ?_ (fun _=>?_) ?_
     rotate_left
     rotate_left
     ·(go_simp;first|with_reducible rfl|(constructor<;>with_reducible rfl))
     ·exact HS.out _ (aj bM.out _)
     refine aC ?_;obtain ⟨we,jV⟩:∃we,we=wd.alloc (.cells #[.string x.lb] 9):=⟨_,rfl⟩;have iP:Hid (Below w2.heap.size w2 we):=aD (by rw [jV];exact aj bM.out _);have HRe:Hid (q9 we (wd.heap.size+1) (some ⟨wd.heap.size,0,none⟩) [x.lb]):=aD (by rw [jV];exact mJ wd x.lb);rw [<-jV];clear jV;have wu:Hid ((fs.map (·.1)).length=k):=aD (by rw [Qx];exact HI.out.len);have SX:k<=50:=by omega
     refine dQ 13 rfl (by kernel_rfl) (by rfl) ?_;refine Ot (.tmp 18) (.tmp 30) (by rfl) w.heap.size (m:=k) (n:=1) wu.out (by rfl) (HI2.out.2.2.2.1.below iP.out (aG _)) (l2:=[x.lb]) rfl (by rfl) HRe.out (by omega) (Nat.le_trans HI2.out.1.size iP.out.size) (some 31) rfl ?_;intro xX xY w5 hown5 hg5;have wB:Hid (g_ we w5 9 Yk):=aD (g_.grown (HI2.out.2.2.2.1.below iP.out (aG _)) rfl hg5 HI2.out.2.1.yP (aao xW.out))
     have vg:Hid (Fr Y w w5/\aM P es env (.ok a') Yk w5/\aO w5 Yk w.heap.size p TA tc UA uc/\dN w5 w.heap.size xX xY (fs.map (·.1)++[x.lb])/\iH w5 w.heap.size VA vc vs/\∀(i:Nat) (v:Option Addr×Nat×Nat) (f:eT),vs[i]?=some v->fs[i]?=some f->v.2.1=f.2.length/\aA w5 Yk v.1 v.2.2 f.2):=aD (by
      refine ⟨Fr.new (HI2.out.1.trans (Fr.below iP.out)) (Fr.grown hg5 fun q e=>e) (fun q e=>.inr ?_),(HI2.out.2.1.later iP.out).bW wB.out (by decide) (by decide) (by decide) (by decide),(HI2.out.2.2.1.later iP.out).bW wB.out (by decide) (by decide),hown5,(HI2.out.2.2.2.2.1.below iP.out (aG _)).bW wB.out (by decide),fun i v f hv hf=>⟨(HI2.out.2.2.2.2.2 i v f hv hf).1,((HI2.out.2.2.2.2.2 i v f hv hf).2.later iP.out).bW wB.out (by decide)⟩⟩;have:=(aB.block (HI2.out.2.2.2.1.below iP.out (aG _)) q (by rw [wu.out];rw [wu.out] at e;exact e)).1;exact this)
     clear hown5 hg5;refine ⟨zL (by kernel_rfl),?_⟩;refine aC ?_;refine bB 14 (some 7) rfl rfl (by kernel_rfl) (by rfl) (by go_simp;first|with_reducible rfl|(constructor<;>with_reducible rfl)) (zL (by kernel_rfl)) ?_;refine aC ?_;refine bG (by kernel_rfl) ?_ _;clear hHeld hsd;rcases HX.out with ⟨x2,h1,hr2⟩|⟨t,b,h1,hr2⟩
     ·have CU:=aD (HN.out env (.ok a') (.error x2) Yk w5 h1 vg.out.2.1)
      unfold pk at CU;have hvk:vs.length=k:=by rw [HI.out.vl,HI.out.len]
      have Ld:=aD hvk;go_wp2_with fail;refine CU.out.mono ?_;rintro e w6 ⟨Y6,gM,jR,nN,rfl⟩;have H6:Hid (Fr Y w w6/\ah Y Y6 w/\aM P es env (.error x2) Y6 w6/\aO w6 Y6 w.heap.size p TA tc UA uc/\iH w6 w.heap.size VA vc vs):=aD ⟨Fr.new vg.out.1 gM HI.out.yn,ah.trans HI.out.yn jR vg.out.1.size,nN,vg.out.2.2.1.fr gM jR,aB.step vg.out.2.2.2.2.1 vg.out.2.1 gM (by decide) (by decide)⟩;clear gM jR nN hvk;go_wp2_with (at_builtin;refine mW rfl (.tmp 32) (.tmp 35) rfl w.heap.size (m:=k) (n:=1) Ld.out rfl (aB.alloc H6.out.2.2.2.2 _) (l2:=[(none,0,0)]) rfl rfl (pR w6 (none,0,0)) (by omega) (by have:=H6.out.1.size;simp;omega) ?_;intro tN vY w7 nu sI);have sN:Hid (g_ (w6.alloc (.cells #[.slice none 0 0] 28)) w7 28 Y6):=aD (g_.grown (aB.alloc H6.out.2.2.2.2 _) rfl sI H6.out.2.2.1.yP (aao xW.out));have iR:Hid (Below w6.heap.size w6 (w6.alloc (.cells #[.slice none 0 0] 28))):=aD (aj (aF _ _) _)
      have HE7:Hid (Lc P es env p TA tc UA uc Y w x2 Y6 w7):=aD (by
       refine ⟨Fr.new (H6.out.1.trans (Fr.below iR.out)) (Fr.grown sI fun q e=>e) (fun q e=>.inr (aB.block H6.out.2.2.2.2 q e).1),H6.out.2.1,(H6.out.2.2.1.later iR.out).bW sN.out (by decide) (by decide) (by decide) (by decide),(H6.out.2.2.2.1.later iR.out).bW sN.out (by decide) (by decide)⟩)
      clear nu sI;go_wp2_with fail;go_roundw
      case rel=>exact ⟨k+1,by omega,by go_num,.inr ⟨x2,Y6,hr2,HE7⟩⟩
      case measure=>simp [Lib.intOf];omega
     ·have CU:=aD (HN.out env (.ok a') (.ok (t,b)) Yk w5 h1 vg.out.2.1)
      unfold pk at CU;have hvk:vs.length=k:=by rw [HI.out.vl,HI.out.len]
      have Ld:=aD hvk;go_wp2_with fail;refine CU.out.mono ?_;rintro e w6 ⟨Y6,gM,jR,nN,A6,c6,rfl,Bt⟩;have H6:Hid (Fr Y w w6/\ah Y Y6 w/\aM P es env (.ok b) Y6 w6/\aO w6 Y6 w.heap.size p TA tc UA uc/\iH w6 w.heap.size VA vc vs/\dN w6 w.heap.size xX xY (fs.map (·.1)++[x.lb])/\aA w6 Y6 A6 c6 t/\∀(i:Nat) (v:Option Addr×Nat×Nat) (f:eT),vs[i]?=some v->fs[i]?=some f->v.2.1=f.2.length/\aA w6 Y6 v.1 v.2.2 f.2):=aD ⟨Fr.new vg.out.1 gM HI.out.yn,ah.trans HI.out.yn jR vg.out.1.size,nN,vg.out.2.2.1.fr gM jR,aB.step vg.out.2.2.2.2.1 vg.out.2.1 gM (by decide) (by decide),aB.step vg.out.2.2.2.1 vg.out.2.1 gM (by decide) (by decide),Bt,fun i v f hv hf=>⟨(vg.out.2.2.2.2.2 i v f hv hf).1,(vg.out.2.2.2.2.2 i v f hv hf).2.fr gM jR⟩⟩;have QJ:=aD (HD.out _ _ _ _ h1);have Ov:=aD hr2;clear gM jR nN hvk Bt h1 hr2;go_wp2_with (at_builtin;refine mW rfl (.tmp 32) (.tmp 35) rfl w.heap.size (m:=k) (n:=1) Ld.out rfl (aB.alloc H6.out.2.2.2.2.1 _) (l2:=[(A6,t.length,c6)]) rfl rfl (pR w6 (A6,t.length,c6)) (by omega) (by have:=H6.out.1.size;simp;omega) ?_;intro tN vY w7 nu sI);have sN:Hid (g_ (w6.alloc (.cells #[.slice A6 t.length c6] 28)) w7 28 Y6):=aD (g_.grown (aB.alloc H6.out.2.2.2.2.1 _) rfl sI H6.out.2.2.1.yP (aao xW.out));have iR:Hid (Below w6.heap.size w6 (w6.alloc (.cells #[.slice A6 t.length c6] 28))):=aD (aj (aF _ _) _)
      have I9:Hid (QI P es env nx p TA tc UA uc Y w n R (k+1) Y6 b (fs++[(x.lb,t)]) xX xY tN vY (vs++[(A6,t.length,c6)]) w7):=aD (by
       refine ⟨Fr.new (H6.out.1.trans (Fr.below iR.out)) (Fr.grown sI fun q e=>e) (fun q e=>.inr (aB.block H6.out.2.2.2.2.1 q e).1),H6.out.2.1,(H6.out.2.2.1.later iR.out).bW sN.out (by decide) (by decide) (by decide) (by decide),(H6.out.2.2.2.1.later iR.out).bW sN.out (by decide) (by decide),?_,nu,?_,?_,?_,?_,?_⟩
       ·rw [List.map_append]
        exact (H6.out.2.2.2.2.2.1.below iR.out (aG _)).bW sN.out (by decide)
       ·rw [jX,jX,HI.out.vl]
        rfl
       ·intro i v f hv hf
        rcases Nat.lt_or_ge i vs.length with hi|hi
        ·rw [aaf hi] at hv
         rw [aaf (by rw [<-HI.out.vl];exact hi)] at hf;exact ⟨(H6.out.2.2.2.2.2.2.2 i v f hv hf).1,((H6.out.2.2.2.2.2.2.2 i v f hv hf).2.later iR.out).bW sN.out (by decide)⟩
        ·rw [jd hi] at hv
         rw [jd (by rw [<-HI.out.vl];exact hi),<-HI.out.vl] at hf
         cases hj:i-vs.length with
         |zero=>
          rw [hj] at hv hf;simp at hv hf;subst hv hf
          exact ⟨rfl,(H6.out.2.2.2.2.2.2.1.later iR.out).bW sN.out (by decide)⟩
         |succ j=>rw [hj] at hv;simp at hv
       ·intro f hf
        rcases List.mem_append.1 hf with hf|hf
        ·exact HI.out.gd f hf
        ·simp at hf
         subst hf;exact QJ.out
       ·rw [jX,HI.out.len]
        rfl
       ·rw [show n-(k+1)=n-k-1 by omega]
        exact Ov.out)
      clear nu sI;go_wp2_with fail;go_roundw
      case rel=>exact ⟨k+1,by omega,by go_num,.inl ⟨Y6,b,fs++[(x.lb,t)],xX,xY,tN,vY,vs++[(A6,t.length,c6)],by go_num,by go_num,I9⟩⟩
      case measure=>simp [Lib.intOf];omega
    ·have hkn:k=n:=by omega
     have xV:Hid (R= .ok (fs,ak)):=aD (by
      have:=HI.out.run;rw [hkn,Nat.sub_self] at this;unfold f_ at this;injection this with this
      exact this.symm)
     have sO:Hid (jQ 6 (fs.map (·.1)) fs.length=false/\(fs.map (·.1)).Nodup/\r= .ok (eG 6 fs,ak)):=aD (by
      have:=HR.out;rw [xV.out] at this;simp only at this;split at this
      ·rename_i h9
       injection this with this
       exact ⟨h9.1,h9.2,this.symm⟩
      ·cases this)
     have hfl:(fs.map (·.1)).length=k:=by rw [Qx];exact HI.out.len
     have wu:=aD hfl;have I_:Hid (vs.length=k):=aD (by rw [HI.out.vl,HI.out.len]);clear hkn hfl;go_wp2_with fail;refine nL.out.mono ?_;rintro e w2 ⟨rfl,hb2⟩;have HI2:Hid (Fr Y w w2/\aM P es env (.ok ak) Yk w2):=aD ⟨HI.out.fr.trans (Fr.below hb2),HI.out.wk.later hb2⟩
     have HX:=vV LA VA lc vc 6 (fs.map (·.1)) vs (fs.map (·.2)) w2 ((aB.read j6 HI.out.lt).below hb2 |>.more hb2.size) ((aB.read jI HI.out.vt).below hb2 |>.more hb2.size) (by
      refine ⟨by rw [Qx,HI.out.vl],fun i v xs hv hxs=>?_⟩;rw [List.getElem?_map,Option.map_eq_some_iff] at hxs;obtain ⟨f,hf,rfl⟩:=hxs;obtain ⟨e1,e2⟩:=HI.out.sl i v f hv hf;exact ⟨e1,(e2.later hb2).ty.eY⟩) (by
      intro xs hxs;obtain ⟨f,hf,rfl⟩:=List.mem_map.1 hxs;have g:=HI.out.gd f hf;exact ⟨fun h=>by have:=g.fo.pos;rw [h] at this;simp at this,g.len⟩) (by rw [Qx];exact sO.out.1)
     rw [wu.out,I_.out] at HX;have HX:=aD HX;clear hb2;go_wp2_with fail;refine HX.out.mono ?_;rintro e w3 ⟨hb3,hpost⟩
     have HP:Hid (∃A' cap',e= .returned (.tuple #[.slice A' (eG 6 fs).length cap',.int .i64 0])/\dK w3 w2.heap.size A' cap' (eG 6 fs)):=aD (by
      rcases hpost with ⟨h1,_⟩|⟨_,h1,_⟩|⟨_,os,A',cap',hp,ho,h1,h2⟩
      ·rw [Qx,sO.out.1] at h1
       cases h1
      ·exact absurd sO.out.2.1 h1
      ·rw [CJ 6 fs sO.out.2.1 os hp ho] at h1 h2
       exact ⟨A',cap',h1,h2⟩)
     clear hpost;obtain ⟨A',cap',hv,_⟩:=HP.out;subst hv
     have HQ:Hid (aY P es env Y r w (.returned (.slice A' (eG 6 fs).length cap')) w3):=aD (by
      rw [sO.out.2.2];obtain ⟨A2,c2,e2,e3⟩:=HP.out;injection e2 with e2
      injection e2 with e2
      injection e2 with e2
      injection e2 with e2 _
      injection e2 with e4 _ e5
      subst e4 e5;exact ⟨Yk,HI2.out.1.trans (Fr.below hb3),HI.out.yn,HI2.out.2.later hb3,A',cap',rfl,aA.own e3 HI2.out.2.lt⟩)
     clear hb3;go_wp2_with fail;go_ret;exact HQ.out
   ·have nL:=aD (iZ P es env _ _ _ HE.out.wk)
    simp only [pz] at nL;unfold pk at nL
    have HR2:Hid (r= .error x):=aD (by
     have:=HR.out;rw [Ou] at this;injection this with this
     exact this.symm)
    by_cases hlt:k<n
    ·go_wp2_with fail
     refine nL.out.mono ?_;rintro e w2 ⟨rfl,hb2⟩
     have HQ:Hid (aY P es env Y r w (.returned (.slice none 0 0)) w2):=aD (by
      rw [HR2.out];exact ⟨Yk,HE.out.fr.trans (Fr.below hb2),HE.out.yn,HE.out.wk.later hb2,_,_,_,rfl⟩)
     clear hb2 Ou;go_wp2_with fail;go_ret;exact HQ.out
    ·go_wp2_with fail
     refine nL.out.mono ?_;rintro e w2 ⟨rfl,hb2⟩
     have HQ:Hid (aY P es env Y r w (.returned (.slice none 0 0)) w2):=aD (by
      rw [HR2.out];exact ⟨Yk,HE.out.fr.trans (Fr.below hb2),HE.out.yn,HE.out.wk.later hb2,_,_,_,rfl⟩)
     clear hb2 Ou;go_wp2_with fail;go_ret;exact HQ.out
 ·cases hm
structure CV (w:World) (Y:Nat->Prop) (f:Nat) (s:ByteArray) (A:Option Addr) (c:Nat) (t:List Nd):Prop where
 blk:w.heap[f]?=some (.cells #[.string s,.slice A t.length c] 36 (0,0))
 off:¬Y f
 ty:aA w Y A c t
theorem CV.fr {w w':World} {Y Y':Nat->Prop} {f c:Nat} {s:ByteArray} {A:Option Addr} {t:List Nd} (h:CV w Y f s A c t) (hf:Fr Y w w') (hy:ah Y Y' w):CV w' Y' f s A c t:=by
 have hb:f<w.heap.size:=(aaj.1 h.blk).1;refine ⟨(hf.block f hb h.off).trans h.blk,fun h2=>?_,h.ty.fr hf hy⟩;rcases hy f h2 with h3|h3
 ·exact h.off h3
 ·omega
theorem CV.later {w w':World} {Y:Nat->Prop} {f c:Nat} {s:ByteArray} {A:Option Addr} {t:List Nd} (h:CV w Y f s A c t) (hb:Below w.heap.size w w'):CV w' Y f s A c t:=h.fr (Fr.below hb) (ah.refl _ _)
theorem CV.cells {w:World} {Y:Nat->Prop} {f c:Nat} {s:ByteArray} {A:Option Addr} {t:List Nd} (h:CV w Y f s A c t):w.cell? ⟨f,0,none⟩=some (.string s)/\w.cell? ⟨f,1,none⟩=some (.slice A t.length c):=
 ⟨by simp [Ck,h.blk],by simp [Ck,h.blk]⟩
theorem F8 (w:World) (b c:Bn):mK (w.alloc (.cells #[.string b.s,.slice b.A b.n b.c,.string c.s,.slice c.A c.n c.c] 36)) (w.heap.size+1) (some ⟨w.heap.size,0,none⟩) [b,c]:=fun _=>by
 refine ⟨w.heap.size,0,rfl,by omega,fun i x hx j u hu=>?_⟩
 match i,hx with
 |0,hx=>
  simp at hx;subst hx
  match j,hu with
  |0,hu=>simp [pO] at hu;subst hu;simp
  |1,hu=>simp [pO] at hu;subst hu;simp
  |j+2,hu=>simp [pO] at hu
 |1,hx=>
  simp at hx;subst hx
  match j,hu with
  |0,hu=>simp [pO] at hu;subst hu;simp
  |1,hu=>simp [pO] at hu;subst hu;simp
  |j+2,hu=>simp [pO] at hu
 |i+2,hx=>simp at hx
theorem Ow {w:World} {Y:Nat->Prop} {f:Nat} {s:ByteArray} {A:Option Addr} {c:Nat} {t:List Nd} (hb:w.heap[f]?=some (.cells #[.string ⟨#[]⟩,.slice none 0 0] 36 (0,0))) (hY:¬Y f) (ht:aA w Y A c t) (hA:∀a,A=some a->a.block≠f\/t=[]):
  CV ((w.setCell ⟨f,0,none⟩ (.string s)).setCell ⟨f,1,none⟩ (.slice A t.length c)) Y f s A c t/\Fr (fun q=>q=f) w ((w.setCell ⟨f,0,none⟩ (.string s)).setCell ⟨f,1,none⟩ (.slice A t.length c)):=by
 have hf:Fr (fun q=>q=f) w ((w.setCell ⟨f,0,none⟩ (.string s)).setCell ⟨f,1,none⟩ (.slice A t.length c)):=(dY _ _ _ _).trans (dY _ _ _ _);refine ⟨⟨?_,hY,fun hne=>?_,ht.cap⟩,hf⟩
 ·rw [heap_set (heap_set hb 0 _) 1]
  rfl
 ·obtain ⟨b,o,e,h1,h2,h3,h4⟩:=ht.ty hne
  have hbf:b≠f:=by
   rcases hA _ e with h|h
   ·exact h
   ·exact absurd h hne
  have hbk:=hf.block b h1 hbf;exact ⟨b,o,e,Nat.lt_of_lt_of_le h1 hf.size,h2,h3.mono fun off=>by simp [Ck,hbk],h4.imp (kY hbk) fun h=>h⟩
theorem XL (P:Nat) (es:List Pt) (nx:Nx) (HN:Hid (nC P es nx)) (env:Env) (p:Pt) (aK a:Nat) (r:fC) (Y:Nat->Prop) (w:World) (TA UA:Option Addr) (tc uc:Nat) (h:aM P es env (.ok a) Y w) (hT:aA w Y TA tc p.T) (hU:aA w Y UA uc p.U) (gT:Gd p.T) (gU:Gd p.U) (hvl:env.length<=900000) (hG:∀env a t b,nx env a=some (.ok (t,b))->Gd t) (hm:FD nx env p aK a=some r):
  Calls Tryz.prog 69 #[pk P,pv p TA tc UA uc,.int .i64 aK] w (aY P es env Y r w):=by
 obtain ⟨w1,hw1⟩:∃w1,w1=w.alloc (.cells #[.int .i64 p.k,.string p.lb,.string p.nm,.string p.bd,.int .i64 p.mn,.int .i64 p.num,.slice TA p.T.length tc,.slice UA p.U.length uc] 33):=⟨_,rfl⟩;have hpm:=aO.new h.lt hT hU;have hb1:Below w.heap.size w w1:=by rw [hw1];exact aj (aF _ _) _
 rw [<-hw1] at hpm;have CQ:=aD hpm;have HB:=aD hb1;have H:=aD (h.later hb1);have HR:=aD (b_ hm);have HD:=aD (Cj gT (Cj gU (Cj hG hvl)));have HL:=aD h.lt;clear h hT hU hm hG hpm hb1;unfold pk pv;go_enter Tryz.func69,Tryz.ntmps69;go_upto_region 1 with fail
 rw [<-hw1];clear hw1;apply share
 case h=>
  intro HT;obtain ⟨SS,hSS⟩:∃SS:World->Prop,SS=fun v=>v.cell? ⟨w.heap.size,2,none⟩=some (.string p.nm)/\v.cell? ⟨w.heap.size,3,none⟩=some (.string p.bd)/\v.cell? ⟨w.heap.size,6,none⟩=some (.slice TA p.T.length tc)/\v.cell? ⟨w.heap.size,7,none⟩=some (.slice UA p.U.length uc):=⟨_,rfl⟩;have HS:Hid (∀v Y',aO v Y' w.heap.size p TA tc UA uc->SS v):=aD fun v Y' hv=>by rw [hSS];exact ⟨hv.cells.2.2.1,hv.cells.2.2.2.1,hv.cells.2.2.2.2.2.1,hv.cells.2.2.2.2.2.2⟩
  obtain ⟨wd,hwd⟩:∃wd,wd=w1.drew:=⟨_,rfl⟩;have bM:Hid (Below w1.heap.size w1 wd):=aD (by rw [hwd];exact (aF _ _).drew);have mI:=aD (CQ.out.later bM.out);have vZ:=aD (H.out.later bM.out);have rP:Hid (Fr Y w wd/\ah Y Y w):=aD ⟨Fr.below (au HB.out bM.out),ah.refl _ _⟩;have hsd:SS wd:=HS.out _ _ mI.out;refine aI (S:=SS) [9] (by kernel_rfl) (by rw [<-hwd];exact hsd) (fun hHeld=>?_);rw [<-hwd] at hHeld ⊢;clear hwd;refine aL 0 [1,7,9] (some 8) rfl rfl ?_;refine aL 1 [7,9] (some 9) rfl rfl ?_;refine aL 2 [3,6,7,9] (some 10) rfl rfl ?_;refine aL 3 [6,7,9] (some 11) rfl rfl ?_;refine aL 4 [5,6,7,9] (some 12) rfl rfl ?_;refine aL 5 [6,7,9] (some 13) rfl rfl ?_;have XM:=aD (fun v (hv:Below wd.heap.size wd v)=>oq TA UA tc uc p.T p.U v (mI.out.later hv).T.ty.eY (mI.out.later hv).U.ty.eY (by have:=HD.out.1.len;have:=HD.out.2.1.len;omega));refine oC 6 8 (by kernel_rfl) rfl rfl (by rfl) (by rfl) ?_ ?_
  ·refine oQ (some 14) rfl (by kernel_rfl) (XM.out wd (aF _ _)) ?_
   rintro e w2 ⟨A1,c1,rfl,hown,hb⟩;have lG:=aD (mI.out.later hb);have HB2:=aD hb;have HO:=aD hown;clear hown hb;refine ⟨_,rfl,fun _=>HS.out _ _ lG.out,?_⟩;refine aC ?_;refine aL 7 [9] (some 15) rfl rfl (hS:=HS.out _ _ lG.out) ?_;refine bB 8 (some 7) (v:=?_) (w':=?_) rfl rfl (by kernel_rfl) (by rfl) ?_ (fun _=>?_) ?_
   rotate_left
   rotate_left
   ·(go_simp;first|with_reducible rfl|(constructor<;>with_reducible rfl))
   ·exact HS.out _ _ (lG.out.later (aj (aF _ _) _))
   refine aC ?_;obtain ⟨w3,hw3⟩:∃w3,w3=w2.alloc (.cells #[.string ⟨#[]⟩,.slice none 0 0] 36):=⟨_,rfl⟩;have hb3:w3.heap[w2.heap.size]?=some (.cells #[.string ⟨#[]⟩,.slice none 0 0] 36 (0,0)):=by rw [hw3];exact heap_alloc_new _ _
   have HB3:Hid (Below w2.heap.size w2 w3):=aD (by rw [hw3];exact aj (aF _ _) _);rw [<-hw3];clear hw3;have g0:w3.cell? ⟨w2.heap.size,0,none⟩=some (.string ⟨#[]⟩):=by simp [Ck,hb3]
   have g1:w3.cell? ⟨w2.heap.size,1,none⟩=some (.slice none 0 0):=by simp [Ck,hb3]
   have f0:w3.frozen? ⟨w2.heap.size,0,none⟩=false:=by simp [EJ,hb3]
   have f1:w3.frozen? ⟨w2.heap.size,1,none⟩=false:=by simp [EJ,hb3]
   refine je 9 none (w':=?_) rfl rfl (by kernel_rfl) (by rfl) ?_ (zL (by kernel_rfl)) ?_
   rotate_left
   ·(go_simp;try with_reducible rfl)
   refine aC ?_;refine bG (by kernel_rfl) ?_ _
   have HQ:Hid (Fr Y w ((w3.setCell ⟨w2.heap.size,0,none⟩ (.string p.nm)).setCell ⟨w2.heap.size,1,none⟩ (.slice A1 (aW p.T p.U).length c1))/\aM P es env (.ok a) Y ((w3.setCell ⟨w2.heap.size,0,none⟩ (.string p.nm)).setCell ⟨w2.heap.size,1,none⟩ (.slice A1 (aW p.T p.U).length c1))/\aO ((w3.setCell ⟨w2.heap.size,0,none⟩ (.string p.nm)).setCell ⟨w2.heap.size,1,none⟩ (.slice A1 (aW p.T p.U).length c1)) Y w.heap.size p TA tc UA uc/\CV ((w3.setCell ⟨w2.heap.size,0,none⟩ (.string p.nm)).setCell ⟨w2.heap.size,1,none⟩ (.slice A1 (aW p.T p.U).length c1)) Y w2.heap.size p.nm A1 c1 (aW p.T p.U)):=aD (by
    have hY2:¬Y w2.heap.size:=fun h=>by have:=vZ.out.lt _ h;have:=HB2.out.size;omega
    have ht:aA w3 Y A1 c1 (aW p.T p.U):=(aA.own HO.out vZ.out.lt).later HB3.out;have hs:=Ow (s:=p.nm) hb3 hY2 ht (fun a ha=>.inl (by have:=(aB.lt HO.out a ha).2;omega));have hbd:=au HB2.out HB3.out;have hn:wd.heap.size<=w2.heap.size:=HB2.out.size;have hbb:=(Fr.toBelow (Fr.new (Fr.below hbd) hs.2 (fun b e=>.inr (by omega)):Fr (fun _=>False) wd _) fun k e=>e.elim);exact ⟨rP.out.1.trans (Fr.below hbb),vZ.out.later hbb,mI.out.later hbb,hs.1⟩)
   obtain ⟨w5,tK⟩:∃w5,w5=(w3.setCell ⟨w2.heap.size,0,none⟩ (.string p.nm)).setCell ⟨w2.heap.size,1,none⟩ (.slice A1 (aW p.T p.U).length c1):=⟨_,rfl⟩;rw [<-tK] at HQ ⊢;obtain ⟨ff,XO⟩:∃ff,ff=w2.heap.size:=⟨_,rfl⟩;rw [<-XO] at HQ ⊢;clear tK XO hb3 g0 g1 f0 f1 HO;revert HQ;revert w5 ff A1 c1;exact HT.out
  ·refine eZ (some 7) (v:=?_) (w':=?_) rfl ?_ ?_
   rotate_left
   rotate_left
   ·(go_simp;first|with_reducible rfl|(constructor<;>with_reducible rfl))
   refine ⟨fun _=>HS.out _ _ (mI.out.later (aj (aF _ _) _)),?_⟩;refine aC ?_;obtain ⟨w2,hw2⟩:∃w2,w2=wd.alloc (.cells #[.string ⟨#[]⟩,.slice none 0 0] 36):=⟨_,rfl⟩;have hb2:w2.heap[wd.heap.size]?=some (.cells #[.string ⟨#[]⟩,.slice none 0 0] 36 (0,0)):=by rw [hw2];exact heap_alloc_new _ _
   have HB2:Hid (Below wd.heap.size wd w2):=aD (by rw [hw2];exact aj (aF _ _) _);rw [<-hw2];clear hw2;refine bD 6 (some 14) rfl rfl (by kernel_rfl) (by rfl) (by kernel_rfl) (XM.out w2 HB2.out) ?_;rintro e w3 ⟨A1,c1,rfl,hown,hb⟩;have hlt2:wd.heap.size<w2.heap.size:=(aaj.1 hb2).1;have hb3:w3.heap[wd.heap.size]?=some (.cells #[.string ⟨#[]⟩,.slice none 0 0] 36 (0,0)):=(hb.block _ hlt2).trans hb2;have HB3:=aD hb;have lZ:=aD (mI.out.later (au HB2.out hb));have HO:=aD hown;clear hown hb;refine ⟨_,rfl,HS.out _ _ lZ.out,?_⟩;refine aC ?_;refine aL 7 [9] (some 15) rfl rfl (hS:=HS.out _ _ lZ.out) ?_;have g0:w3.cell? ⟨wd.heap.size,0,none⟩=some (.string ⟨#[]⟩):=by simp [Ck,hb3]
   have g1:w3.cell? ⟨wd.heap.size,1,none⟩=some (.slice none 0 0):=by simp [Ck,hb3]
   have f0:w3.frozen? ⟨wd.heap.size,0,none⟩=false:=by simp [EJ,hb3]
   have f1:w3.frozen? ⟨wd.heap.size,1,none⟩=false:=by simp [EJ,hb3]
   refine je 9 none (w':=?_) rfl rfl (by kernel_rfl) (by rfl) ?_ (zL (by kernel_rfl)) ?_
   rotate_left
   ·(go_simp;try with_reducible rfl)
   refine aC ?_;refine bG (by kernel_rfl) ?_ _
   have HQ:Hid (Fr Y w ((w3.setCell ⟨wd.heap.size,0,none⟩ (.string p.nm)).setCell ⟨wd.heap.size,1,none⟩ (.slice A1 (aW p.T p.U).length c1))/\aM P es env (.ok a) Y ((w3.setCell ⟨wd.heap.size,0,none⟩ (.string p.nm)).setCell ⟨wd.heap.size,1,none⟩ (.slice A1 (aW p.T p.U).length c1))/\aO ((w3.setCell ⟨wd.heap.size,0,none⟩ (.string p.nm)).setCell ⟨wd.heap.size,1,none⟩ (.slice A1 (aW p.T p.U).length c1)) Y w.heap.size p TA tc UA uc/\CV ((w3.setCell ⟨wd.heap.size,0,none⟩ (.string p.nm)).setCell ⟨wd.heap.size,1,none⟩ (.slice A1 (aW p.T p.U).length c1)) Y wd.heap.size p.nm A1 c1 (aW p.T p.U)):=aD (by
    have hY2:¬Y wd.heap.size:=fun h=>by have:=vZ.out.lt _ h;omega
    have ht:aA w3 Y A1 c1 (aW p.T p.U):=aA.own HO.out (fun q hq=>by have:=vZ.out.lt _ hq;omega);have hs:=Ow (s:=p.nm) hb3 hY2 ht (fun a ha=>.inl (by have:=(aB.lt HO.out a ha).1;omega));have hbd:=au HB2.out HB3.out;have hbb:=(Fr.toBelow (Fr.new (Fr.below hbd) hs.2 (fun b e=>.inr (by omega)):Fr (fun _=>False) wd _) fun k e=>e.elim);exact ⟨rP.out.1.trans (Fr.below hbb),vZ.out.later hbb,mI.out.later hbb,hs.1⟩)
   obtain ⟨w5,tK⟩:∃w5,w5=(w3.setCell ⟨wd.heap.size,0,none⟩ (.string p.nm)).setCell ⟨wd.heap.size,1,none⟩ (.slice A1 (aW p.T p.U).length c1):=⟨_,rfl⟩;rw [<-tK] at HQ ⊢;obtain ⟨ff,XO⟩:∃ff,ff=wd.heap.size:=⟨_,rfl⟩;rw [<-XO] at HQ ⊢;clear tK XO hb3 g0 g1 f0 f1 HO;revert HQ;revert w5 ff A1 c1;exact HT.out
 case t=>
  intro A1 c1 w5 ff HQ;have G:=HQ;clear HQ CQ HB H;go_upto_region 2 with fail
  obtain ⟨SS,hSS⟩:∃SS:World->Prop,SS=fun v=>v.cell? ⟨w.heap.size,2,none⟩=some (.string p.nm)/\v.cell? ⟨w.heap.size,3,none⟩=some (.string p.bd)/\v.cell? ⟨w.heap.size,6,none⟩=some (.slice TA p.T.length tc)/\v.cell? ⟨w.heap.size,7,none⟩=some (.slice UA p.U.length uc)/\v.cell? ⟨ff,0,none⟩=some (.string p.nm)/\v.cell? ⟨ff,1,none⟩=some (.slice A1 (aW p.T p.U).length c1):=⟨_,rfl⟩;have HS:Hid (∀v Y',aO v Y' w.heap.size p TA tc UA uc->CV v Y' ff p.nm A1 c1 (aW p.T p.U)->SS v):=aD fun v Y' hv hb=>by rw [hSS];exact ⟨hv.cells.2.2.1,hv.cells.2.2.2.1,hv.cells.2.2.2.2.2.1,hv.cells.2.2.2.2.2.2,hb.cells⟩
  obtain ⟨wd,hwd⟩:∃wd,wd=w5.drew:=⟨_,rfl⟩;have hBd:Below w5.heap.size w5 wd:=by rw [hwd];exact (aF _ _).drew
  have HBM:=aD (G.out.2.2.2.later hBd);have mI:=aD (G.out.2.2.1.later hBd);have vZ:=aD (G.out.2.1.later hBd);have rP:Hid (Fr Y w wd/\ah Y Y w):=aD ⟨G.out.1.trans (Fr.below hBd),ah.refl _ _⟩;have hsd:SS wd:=HS.out _ _ mI.out HBM.out;refine aI (S:=SS) [13] (by kernel_rfl) (by rw [<-hwd];exact hsd) (fun hHeld=>?_);rw [<-hwd] at hHeld ⊢;clear hwd hBd;refine aL 0 [13] (some 16) rfl rfl ?_;refine aL 1 [9,13] (some 17) rfl rfl ?_;refine aL 2 [8,9,13] (some 18) rfl rfl ?_;refine aL 3 [4,7,8,9,13] (some 19) rfl rfl ?_;refine aL 4 [7,8,9,13] (some 20) rfl rfl ?_;refine aL 5 [6,7,8,9,13] (some 21) rfl rfl ?_;refine aL 6 [7,8,9,13] (some 22) rfl rfl ?_;refine aL 7 [8,9,13] (some 23) rfl rfl ?_;refine aL 10 [11,13] (some 26) rfl rfl ?_;refine aL 11 [13] (some 27) rfl rfl ?_;refine aL 12 [13] (some 28) rfl rfl ?_;refine bB 8 (some 24) (v:=?_) (w':=?_) rfl rfl (by kernel_rfl) (by rfl) ?_ (fun _=>?_) ?_
  rotate_left
  rotate_left
  ·(go_simp;first|with_reducible rfl|(constructor<;>with_reducible rfl))
  ·exact HS.out _ _ (mI.out.later (aj (aF _ _) _)) (HBM.out.later (aj (aF _ _) _))
  refine aC ?_;obtain ⟨we,jV⟩:∃we,we=wd.alloc (.cells #[.string p.nm,.slice A1 (aW p.T p.U).length c1,.string p.bd,.slice TA p.T.length tc] 36):=⟨_,rfl⟩;have iP:Hid (Below wd.heap.size wd we):=aD (by rw [jV];exact aj (aF _ _) _);have HX:=aD (fun r1 (h1:nx (env++[(p.nm,aW p.T p.U),(p.bd,p.T)]) a=some r1)=>p9 P es nx HN env [(p.nm,aW p.T p.U),(p.bd,p.T)] (.ok a) r1 (some ⟨wd.heap.size,0,none⟩) 2 [⟨p.nm,A1,(aW p.T p.U).length,c1⟩,⟨p.bd,TA,p.T.length,tc⟩] Y we (vZ.out.later iP.out) (by rw [jV,Er];exact F8 wd ⟨p.nm,A1,(aW p.T p.U).length,c1⟩ ⟨p.bd,TA,p.T.length,tc⟩) (dX.app (dX.one (HBM.out.later iP.out).ty rfl) (dX.one (mI.out.later iP.out).T rfl)) (by simp) HD.out.2.2.2 h1);unfold pk at HX;have Ak:Hid (Fr Y w we/\aO we Y w.heap.size p TA tc UA uc/\CV we Y ff p.nm A1 c1 (aW p.T p.U)):=aD ⟨rP.out.1.trans (Fr.below iP.out),mI.out.later iP.out,HBM.out.later iP.out⟩;rw [<-jV];clear jV;rcases HR.out with ⟨x,h1,hr⟩|⟨t,b,h1,hr⟩
  ·refine bD 9 (some 25) rfl rfl (by kernel_rfl) (by rfl) (by kernel_rfl) (HX.out _ h1) ?_
   rintro e w2 ⟨Y2,hf2,hy2,hk2,rfl⟩;have lG:=aD (Ak.out.2.1.fr hf2 hy2);have HB2:=aD (Ak.out.2.2.fr hf2 hy2);refine ⟨_,rfl,HS.out _ _ lG.out HB2.out,?_⟩;refine aC ?_;have lH:Hid (Fr Y w w2/\ah Y Y2 w):=aD ⟨Fr.new Ak.out.1 hf2 (ah.refl _ _),ah.trans (ah.refl _ _) hy2 Ak.out.1.size⟩;have mh:=aD (bF P es env x (.slice none 0 0) (.slice UA p.U.length uc) aK Y2 w2 hk2);unfold pk at mh;refine bD 13 (some 29) rfl rfl (by kernel_rfl) (by rfl) (by kernel_rfl) mh.out ?_;rintro e w3 ⟨⟨v3,rfl⟩,hf3,hk3⟩;have lZ:=aD (lG.out.fr hf3 (ah.refl _ _));have HB3:=aD (HB2.out.fr hf3 (ah.refl _ _));refine ⟨_,rfl,HS.out _ _ lZ.out HB3.out,?_⟩;refine aC ?_;refine bG (by kernel_rfl) ?_ _;go_upto_region 3 with fail
   have xU:=aD (p9 P es nx HN env [(p.nm,aW p.T p.U)] (.error x) r (some ⟨w3.heap.size,0,none⟩) 1 [⟨p.nm,A1,(aW p.T p.U).length,c1⟩] Y2 (w3.alloc (.cells #[.string p.nm,.slice A1 (aW p.T p.U).length c1] 36)) (hk3.later (aj (aF _ _) _)) (by rw [Er];exact kJ w3 ⟨p.nm,A1,(aW p.T p.U).length,c1⟩) (dX.one (HB3.out.later (aj (aF _ _) _)).ty rfl) (by simp) HD.out.2.2.2 (by rw [hr];rfl));have FV:Hid (Fr Y w (w3.alloc (.cells #[.string p.nm,.slice A1 (aW p.T p.U).length c1] 36))/\ah Y Y2 w):=aD ⟨(Fr.new lH.out.1 hf3 lH.out.2).alloc _,lH.out.2⟩;obtain ⟨k0,k1⟩:=HB3.out.cells;unfold pk at xU;clear hf2 hy2 hk2 hf3 hk3 hHeld hsd h1 hr;go_wp2_with fail;refine xU.out.mono ?_;intro e w4 hp;have HQ:=aD (hp.to FV.out.1 FV.out.2);clear hp;obtain ⟨v9,uG⟩:=HQ.out.ret;subst uG;clear k0 k1;go_wp2_with fail;go_ret;exact HQ.out
  ·refine bD 9 (some 25) rfl rfl (by kernel_rfl) (by rfl) (by kernel_rfl) (HX.out _ h1) ?_
   rintro e w2 ⟨Y2,hf2,hy2,hk2,A2,c2,rfl,ht2⟩;have lG:=aD (Ak.out.2.1.fr hf2 hy2);have HB2:=aD (Ak.out.2.2.fr hf2 hy2);refine ⟨_,rfl,HS.out _ _ lG.out HB2.out,?_⟩;refine aC ?_;have lH:Hid (Fr Y w w2/\ah Y Y2 w):=aD ⟨Fr.new Ak.out.1 hf2 (ah.refl _ _),ah.trans (ah.refl _ _) hy2 Ak.out.1.size⟩;have mh:=aD (fQ P es env b A2 UA c2 uc t p.U aK Y2 w2 hk2 ht2.ty lG.out.U.ty (HD.out.2.2.1 _ _ _ _ h1) HD.out.2.1);unfold pk at mh;refine bD 13 (some 29) rfl rfl (by kernel_rfl) (by rfl) (by kernel_rfl) mh.out ?_;rintro e w3 ⟨⟨v3,rfl⟩,hf3,hk3⟩;have lZ:=aD (lG.out.fr hf3 (ah.refl _ _));have HB3:=aD (HB2.out.fr hf3 (ah.refl _ _));refine ⟨_,rfl,HS.out _ _ lZ.out HB3.out,?_⟩;refine aC ?_;refine bG (by kernel_rfl) ?_ _;go_upto_region 3 with fail
   have xU:=aD (p9 P es nx HN env [(p.nm,aW p.T p.U)] (fZ t p.U aK b) r (some ⟨w3.heap.size,0,none⟩) 1 [⟨p.nm,A1,(aW p.T p.U).length,c1⟩] Y2 (w3.alloc (.cells #[.string p.nm,.slice A1 (aW p.T p.U).length c1] 36)) (hk3.later (aj (aF _ _) _)) (by rw [Er];exact kJ w3 ⟨p.nm,A1,(aW p.T p.U).length,c1⟩) (dX.one (HB3.out.later (aj (aF _ _) _)).ty rfl) (by simp) HD.out.2.2.2 hr);have FV:Hid (Fr Y w (w3.alloc (.cells #[.string p.nm,.slice A1 (aW p.T p.U).length c1] 36))/\ah Y Y2 w):=aD ⟨(Fr.new lH.out.1 hf3 lH.out.2).alloc _,lH.out.2⟩;obtain ⟨k0,k1⟩:=HB3.out.cells;unfold pk at xU;clear hf2 hy2 hk2 hf3 hk3 hHeld hsd h1 hr ht2;go_wp2_with fail;refine xU.out.mono ?_;intro e w4 hp;have HQ:=aD (hp.to FV.out.1 FV.out.2);clear hp;obtain ⟨v9,uG⟩:=HQ.out.ret;subst uG;clear k0 k1;go_wp2_with fail;go_ret;exact HQ.out
end Go.Proofs.YtmjdhfbnmmdjiaaGreat
