/- Laid together by a tool from the texts of this seat: Rl13 RefN RefP RefQ Rm13 RegT Rn13 Ro13. Conditions: each theorem's own. -/
import Derived.Test.YtblfeokjlecgkaaV10
set_option maxHeartbeats 8000000
set_option maxRecDepth 100000
namespace Go.Proofs.Ytblfeokjlecgkaa
open _root_.ByteArray renaming empty->pR
open Go.Lib renaming hid->aC
open Go.RowKit.Below renaming refl->aT,heap_alloc->adM
open Go.World renaming cell?->adw,frozen?->ad6,cell?_of_block->adN
open _root_.And renaming intro->Gw
open Go.Value renaming slice->aO
open Go.Oper renaming wp->afc
open _root_.List renaming mem_of_getElem?->Yt,take_add_one->GZ,mem_singleton->aaW,getElem?_cons_zero->ad2,mem_append->JQ,mem_map->aaN,mem_iff_getElem->afd,getElem?_eq_getElem->jr,length_append->A_,take_of_length_le->CK,mem_cons->Gz,map_map->abL,length_filter_le->aaU
open _root_.Int renaming le_refl->aa1
open _root_.Nat renaming le_trans->zk,le_refl->bN
open _root_.Classical renaming byContradiction->aax
open _root_.Option renaming toList_some->afe
open Go.RowKit
attribute [local go_sem ↓] Go.wp_at_zero Go.wp_at_succ
theorem Mx (w:World) (q:QV):Et (w.alloc (.cells #[.int .i64 q.1,.slice q.2.1 q.2.2.1 q.2.2.2] 175)) (w.heap.size+1) (some ⟨w.heap.size,0,none⟩) [q]:=fun _=>by
 refine ⟨w.heap.size,0,rfl,by omega,fun i x hx j u hu=>?_⟩;have k1:=heap_alloc_new w (.cells #[.int .i64 q.1,.slice q.2.1 q.2.2.1 q.2.2.2] 175)
 match i,hx with
 |0,hx=>
  simp only [ad2,Option.some.injEq] at hx;subst hx
  match j,hu with
  |0,hu=>simp [BF] at hu;subst hu;simp only [adw];rw [k1];rfl
  |1,hu=>simp [BF] at hu;subst hu;simp only [adw];rw [k1];rfl
  |j+2,hu=>simp [BF] at hu
 |i+1,hx=>simp at hx
theorem adt {α:Type} {e size base:Nat} {enc:α->List Value} {w:World} {A:Option Addr} {cap:Nat} {l:List α} (h:aA e size enc w base A cap l):∀a,A=some a->a.off=0:=fun a ha=>by
 subst ha;rcases h.2 with ⟨hv,_⟩|⟨g,cap',cur,hv,_⟩
 ·cases hv
 ·cases hv;rfl
theorem adu {w:World} {o:Oper} {a:Act} {K:Act->World->Prop} {Q:Exit->Act->World->Prop} (s x:Operand)
  (ho:o.op= .call {callee:=.builtin .append,args:=#[s,x],argTypes:=#[27,27]})
  (base:Nat) {A:Option Addr} {cap:Nat} {l:List QV} (hs:a.eval s= .slice A l.length cap) (hown:O_ w base A cap l) {B:Nat} {A2:Option Addr} {c:Nat} {l2:List QV} (hx:a.eval x= .slice A2 l2.length c) (hr:Et w B A2 l2)
  (hlen:l.length+l2.length<=1000000000000) (hbase:base<=w.heap.size)
  (h:∀A' cap' w',O_ w' base A' cap' (l++l2)->w.grownBy w' ((aO A l.length cap).ownBlock)->
   ((aO A' (l.length+l2.length) cap').ownBlock=(aO A l.length cap).ownBlock\/(aO A' (l.length+l2.length) cap').ownBlock=some w.heap.size)->K (a.put o.dst (.slice A' (l.length+l2.length) cap')) w'):afc Try.prog o a w K Q:=by
 obtain ⟨i0,hi,hz0,hz1,hz2⟩:=info_parts acF;exact E5 w Ik O9 s x 27 ho base 175 i0 _ 32 Try.underlying27 hi hz0 hz1 hz2 rfl (by decide) hs hown hx hr (by unfold maxLen;omega) (by omega) hbase h
theorem UG (first next:Int) (Q:Option Addr) (cq:Nat) (vs:List QV) (L:Sorts) (β:Va) (xJ:Int->Int) (enc enc':Int->Ut) (ns:List Int) (n:Int) (U:Ut) (A:Option Addr) (c:Nat) (w:World)
  (h:Il L β xJ enc enc' ns n U first) (ha:aM w w.heap.size A (aB pR U)) (hM:lD vs Q enc ns w) (hc:(aB pR U).length<=c) (ho:¬bL n U):
  Calls Try.prog 95 #[bS first next Q vs.length cq,.int .i64 n,.slice A (aB pR U).length c] w (Im A first next Q vs.length cq enc' ns n U w):=by
 have HH:=aC (fun (v:World) (hb:Below w.heap.size w v)=>Ub A c (aB pR U) n v ((ha.below hb).more hb.size) (by have:=h.len;omega) h.nn);rw [show decide (n∈dG (aB pR U))=false from Bool.eq_false_iff.2 fun e=>ho ((Pb h.sh n pR).1 e)] at HH;have HO:=aC ho;have NI:=aC h;have HA:=aC (fun (v:World) (hb:Below w.heap.size w v)=>(ha.below hb).more hb.size);have HM:=aC (fun (v:World) (hb:Below w.heap.size w v)=>hM.step hb);clear ha ho h hM;go_enter Try.func95,Try.ntmps95;go_wp2_with fail;obtain ⟨wa,gF⟩:∃wa,wa=(w.alloc (.cells #[.int .i64 first,.int .i64 next,.slice Q vs.length cq] 29)).alloc (.cells #[.int .i64 0,.int .i64 0,.slice none 0 0] 29):=⟨_,rfl⟩;have hba:Below w.heap.size w wa:=by rw [gF];exact ak (ak (aT _ _) _) _
 have hza:wa.heap.size=w.heap.size+2:=by rw [gF];simp
 have h1a:wa.heap[w.heap.size]?=some (.cells #[.int .i64 first,.int .i64 next,.slice Q vs.length cq] 29 (0,0)):=by
  rw [gF];exact (adM _ _ w.heap.size (by simp)).trans (heap_alloc_new w _)
 have T_:wa.heap[w.heap.size+1]?=some (.cells #[.int .i64 0,.int .i64 0,.slice none 0 0] 29 (0,0)):=by
  rw [gF];have hz1:(w.alloc (.cells #[.int .i64 first,.int .i64 next,.slice Q vs.length cq] 29)).heap.size=w.heap.size+1:=by simp
  rw [<-hz1];exact heap_alloc_new _ _
 rw [<-gF];refine (HH.out wa hba).mono ?_;rintro e w2 ⟨rfl,hb⟩;have e1:=(hb.block w.heap.size (by omega)).trans h1a;have e2:=(hb.block (w.heap.size+1) (by omega)).trans T_;have hz2:w.heap.size+2<=w2.heap.size:=by rw [<-hza];exact hb.size
 have HB0:=aC (Gw e1 e2);have a0:w2.cell? ⟨w.heap.size,0,none⟩=some (.int .i64 first):=by simp [adw,e1]
 have a1:w2.cell? ⟨w.heap.size,1,none⟩=some (.int .i64 next):=by simp [adw,e1]
 have a2:w2.cell? ⟨w.heap.size,2,none⟩=some (.slice Q vs.length cq):=by simp [adw,e1]
 have b0:w2.cell? ⟨w.heap.size+1,0,none⟩=some (.int .i64 0):=by simp [adw,e2]
 have b1:w2.cell? ⟨w.heap.size+1,1,none⟩=some (.int .i64 0):=by simp [adw,e2]
 have b2:w2.cell? ⟨w.heap.size+1,2,none⟩=some (.slice none 0 0):=by simp [adw,e2]
 have b3:w2.frozen? ⟨w.heap.size+1,0,none⟩=false:=by simp [ad6,e2]
 have b4:w2.frozen? ⟨w.heap.size+1,1,none⟩=false:=by simp [ad6,e2]
 have b5:w2.frozen? ⟨w.heap.size+1,2,none⟩=false:=by simp [ad6,e2]
 have M:=aC (ah hba hb);clear e1 e2 h1a T_ hb hba hza gF HH;obtain ⟨P,hP⟩:∃P,P=aB pR U:=⟨_,rfl⟩;rw [<-hP];have HP:=aC hP;have hbc:Below w2.heap.size w2 ((w2.alloc (.cells #[.int .i64 n,.slice A P.length c] 175)).alloc (.cells #[.int .i64 0,.int .i64 0,.slice (some ⟨w2.heap.size,0,none⟩) 1 1] 29)):=ak (ak (aT _ _) _) _
 have f1:((w2.alloc (.cells #[.int .i64 n,.slice A P.length c] 175)).alloc (.cells #[.int .i64 0,.int .i64 0,.slice (some ⟨w2.heap.size,0,none⟩) 1 1] 29)).heap[w2.heap.size]?=some (.cells #[.int .i64 n,.slice A P.length c] 175 (0,0)):=
  (adM _ _ w2.heap.size (by simp)).trans (heap_alloc_new w2 _)
 have f2:((w2.alloc (.cells #[.int .i64 n,.slice A P.length c] 175)).alloc (.cells #[.int .i64 0,.int .i64 0,.slice (some ⟨w2.heap.size,0,none⟩) 1 1] 29)).heap[w2.heap.size+1]?=some (.cells #[.int .i64 0,.int .i64 0,.slice (some ⟨w2.heap.size,0,none⟩) 1 1] 29 (0,0)):=by
  have hz1:(w2.alloc (.cells #[.int .i64 n,.slice A P.length c] 175)).heap.size=w2.heap.size+1:=by simp
  rw [<-hz1];exact heap_alloc_new _ _
 have g0:((w2.alloc (.cells #[.int .i64 n,.slice A P.length c] 175)).alloc (.cells #[.int .i64 0,.int .i64 0,.slice (some ⟨w2.heap.size,0,none⟩) 1 1] 29)).cell? ⟨w.heap.size,0,none⟩=some (.int .i64 first):=(hbc.cell (p:=⟨w.heap.size,0,none⟩) (by show w.heap.size<w2.heap.size;omega)).trans a0;have g1:((w2.alloc (.cells #[.int .i64 n,.slice A P.length c] 175)).alloc (.cells #[.int .i64 0,.int .i64 0,.slice (some ⟨w2.heap.size,0,none⟩) 1 1] 29)).cell? ⟨w.heap.size,1,none⟩=some (.int .i64 next):=(hbc.cell (p:=⟨w.heap.size,1,none⟩) (by show w.heap.size<w2.heap.size;omega)).trans a1;have HE:=aC (Gw hbc (Gw f1 f2));have HR:=aC (Gw a0 (Gw a1 (Gw a2 (Gw b0 (Gw b1 (Gw b2 (Gw b3 (Gw b4 b5))))))));clear hP hbc f1 f2 a0 a1 a2 b0 b1 b2 b3 b4 b5;go_upto_region 5 with fail
 obtain ⟨wd,hwd⟩:∃wd,wd=((w2.alloc (.cells #[.int .i64 n,.slice A P.length c] 175)).alloc (.cells #[.int .i64 0,.int .i64 0,.slice (some ⟨w2.heap.size,0,none⟩) 1 1] 29)).alloc (.cells #[.int .i64 first,.int .i64 next,.slice none 0 0] 29):=⟨_,rfl⟩;rw [<-hwd];have hzd:wd.heap.size=w2.heap.size+3:=by rw [hwd];simp
 have hbd:Below w2.heap.size w2 wd:=by rw [hwd];exact ak HE.out.1 _
 have an0:0<w2.heap.size:=by omega
 have k1:wd.heap[w2.heap.size]?=some (.cells #[.int .i64 n,.slice A P.length c] 175 (0,0)):=by
  rw [hwd];exact (adM _ _ w2.heap.size (by simp;omega)).trans HE.out.2.1
 have k2:wd.heap[w2.heap.size+1]?=some (.cells #[.int .i64 0,.int .i64 0,.slice (some ⟨w2.heap.size,0,none⟩) 1 1] 29 (0,0)):=by
  rw [hwd];exact (adM _ _ (w2.heap.size+1) (by simp)).trans HE.out.2.2
 have k3:wd.heap[w2.heap.size+2]?=some (.cells #[.int .i64 first,.int .i64 next,.slice none 0 0] 29 (0,0)):=by
  rw [hwd];have hz1:((w2.alloc (.cells #[.int .i64 n,.slice A P.length c] 175)).alloc (.cells #[.int .i64 0,.int .i64 0,.slice (some ⟨w2.heap.size,0,none⟩) 1 1] 29)).heap.size=w2.heap.size+2:=by simp
  rw [<-hz1];exact heap_alloc_new _ _
 have k4:wd.heap[w.heap.size]?=w2.heap[w.heap.size]?:=hbd.block w.heap.size (by omega);have k5:wd.heap[w.heap.size+1]?=w2.heap[w.heap.size+1]?:=hbd.block (w.heap.size+1) (by omega);obtain ⟨wc,hwc⟩:∃wc,wc=((w2.alloc (.cells #[.int .i64 n,.slice A P.length c] 175)).alloc (.cells #[.int .i64 0,.int .i64 0,.slice (some ⟨w2.heap.size,0,none⟩) 1 1] 29)):=⟨_,rfl⟩;have hzc:wc.heap.size=w2.heap.size+2:=by rw [hwc];simp
 have hbc:Below w2.heap.size w2 wc:=by rw [hwc];exact HE.out.1
 have hcd:Below wc.heap.size wc wd:=by rw [hwd,<-hwc];exact ak (aT _ _) _
 have c1:wc.heap[w2.heap.size]?=some (.cells #[.int .i64 n,.slice A P.length c] 175 (0,0)):=by rw [hwc];exact HE.out.2.1
 have c2:wc.heap[w2.heap.size+1]?=some (.cells #[.int .i64 0,.int .i64 0,.slice (some ⟨w2.heap.size,0,none⟩) 1 1] 29 (0,0)):=by rw [hwc];exact HE.out.2.2
 have adv:lD [(n,(A,P.length,c))] (some ⟨w2.heap.size,0,none⟩) (jl L β xJ) [n] wc:=by
  refine ⟨fun _=>⟨w2.heap.size,0,rfl,by rw [hzc];omega,fun i x hx j u hu=>?_⟩,rfl,fun i v t hv ht=>?_⟩
  ·match i,hx with
   |0,hx=>
    simp only [ad2,Option.some.injEq] at hx;subst hx
    match j,hu with
    |0,hu=>simp [BF] at hu;subst hu;simp [adw,c1]
    |1,hu=>simp [BF] at hu;subst hu;simp [adw,c1]
    |j+2,hu=>simp [BF] at hu
   |i+1,hx=>simp at hx
  ·match i,hv with
   |0,hv=>
    simp only [ad2,Option.some.injEq,sV,List.map_cons] at hv ht;subst hv ht;rw [NI.out.eu,<-HP.out]
    exact ⟨rfl,rfl,by rw [HP.out];exact hc,by have h:=HA.out wc (ah M.out hbc);rw [<-HP.out] at h;exact h⟩
   |i+1,hv=>simp at hv
 have xg:Hid (∀v,Fr (fun k=>k=w2.heap.size+2) wd v->Below wc.heap.size wc v):=aC fun v hf=>
  ((Fr.below hcd).trans hf).toBelow fun k hk=>by rw [hzc];have hk:k=w2.heap.size+2:=hk;omega
 have HX:Hid (∀v,Below wc.heap.size wc v->lD vs Q enc ns v/\lD [(n,(A,P.length,c))] (some ⟨w2.heap.size,0,none⟩) (jl L β xJ) [n] v/\v.cell? ⟨w.heap.size,0,none⟩=some (.int .i64 first)/\v.cell? ⟨w.heap.size,1,none⟩=some (.int .i64 next)/\v.cell? ⟨w.heap.size,2,none⟩=some (.slice Q vs.length cq)/\
   v.cell? ⟨w2.heap.size+1,0,none⟩=some (.int .i64 0)/\v.cell? ⟨w2.heap.size+1,1,none⟩=some (.int .i64 0)/\v.cell? ⟨w2.heap.size+1,2,none⟩=some (.slice (some ⟨w2.heap.size,0,none⟩) 1 1)):=aC fun v hb=>by
  have hb2:Below w2.heap.size w2 v:=hbc.trans (hb.mono (by rw [hzc];omega));obtain ⟨a0,a1,a2,_⟩:=HR.out;have e2:=(hb.block (w2.heap.size+1) (by rw [hzc];omega)).trans c2
  exact ⟨HM.out v (ah M.out hb2),adv.step hb,(hb2.cell (p:=⟨w.heap.size,0,none⟩) (by show w.heap.size<w2.heap.size;omega)).trans a0,(hb2.cell (p:=⟨w.heap.size,1,none⟩) (by show w.heap.size<w2.heap.size;omega)).trans a1,(hb2.cell (p:=⟨w.heap.size,2,none⟩) (by show w.heap.size<w2.heap.size;omega)).trans a2,
   by simp [adw,e2],by simp [adw,e2],by simp [adw,e2]⟩
 have M0:Hid (Me (fun k=>k=w2.heap.size+2\/(k<w.heap.size/\∀a,A=some a->a.block≠k)) wd none 0 [] (sV enc' (ns.take 0)) wd/\wd.heap[w2.heap.size+2]?=some (.cells #[.int .i64 first,.int .i64 next,.slice none 0 0] 29 (0,0))/\Fr (fun k=>k=w2.heap.size+2) wd wd):=
  aC ⟨⟨aA.nil,⟨rfl,fun i v t hv=>(by simp at hv)⟩,fun v hv=>(by cases hv),fun v hv=>(by cases hv),fun v hv=>(by cases hv)⟩,k3,Fr.refl _ _⟩
 have Z4:vs.length=ns.length:=(HX.out wc (aT _ _)).1.len;have Hvn:=aC Z4;have hDd:w2.heap.size+2<wd.heap.size:=by omega
 have HWC:=aC (ah M.out hbc)
 have SB:Hid (∀v,Below wc.heap.size wc v->bD v w.heap.size first next Q vs.length cq/\bD v (w.heap.size+1) 0 0 none 0 0):=aC fun v hv=>by
  have hb2:Below w2.heap.size w2 v:=hbc.trans (hv.mono (by rw [hzc];omega));exact ⟨(hb2.block _ (by omega)).trans HB0.out.1,(hb2.block _ (by omega)).trans HB0.out.2⟩
 clear k1 k2 k3 k4 k5 hwd hwc c1 c2 adv hbd hcd hbc Z4;go_wp2_with fail;go_loopw [10] (fun s10 wr=>∃(i:Nat) (us:List QV) (Lo:Option Addr) (co:Nat),s10= .int .i64 i/\i<=vs.length/\us.length=i/\Hid (Me (fun k=>k=w2.heap.size+2\/(k<w.heap.size/\∀a,A=some a->a.block≠k)) wd Lo co us (sV enc' (ns.take i)) wr/\wr.heap[w2.heap.size+2]?=some (.cells #[.int .i64 first,.int .i64 next,.slice Lo us.length co] 29 (0,0))/\Fr (fun k=>k=w2.heap.size+2) wd wr)) (fun s10 _=>vs.length-(intOf s10).toNat)
 case atStart=>exact ⟨0,[],none,0,rfl,Nat.zero_le _,rfl,M0⟩
 case round=>
  clear M0;obtain ⟨i,us,Lo,co,rfl,hi,Yz,N⟩:=hrel;have DT:=aC Yz;have hus:us.length<=1000000:=by rw [Yz];have:=NI.out.cnt;have:=Hvn.out;omega
  have hib:i<=1000000:=by rw [<-Yz];exact hus
  clear Yz;obtain ⟨t1,t2,a0,a1,a2,o0,o1,o2⟩:=HX.out wr (xg.out wr N.out.2.2);have d0:wr.cell? ⟨w2.heap.size+2,0,none⟩=some (.int .i64 first):=by simp [adw,N.out.2.1]
  have d1:wr.cell? ⟨w2.heap.size+2,1,none⟩=some (.int .i64 next):=by simp [adw,N.out.2.1]
  have d2:wr.cell? ⟨w2.heap.size+2,2,none⟩=some (.slice Lo us.length co):=by simp [adw,N.out.2.1]
  have T1:=aC t1;have T2:=aC t2;clear t1 t2;by_cases hp:i<vs.length
  ·obtain ⟨j,hj⟩:=aD (show i<ns.length by rw [<-Hvn.out];exact hp)
   obtain ⟨v,hv⟩:=aD hp;obtain ⟨h1,h2,h3,h4⟩:=T1.out.t.2 i v (j,aB pR (enc j)) hv (LH hj);obtain ⟨bq,oq,rfl,zq,q0,q1⟩:=T1.out.r.at_ hv
   have zq0:bq<w.heap.size:=by
    obtain ⟨b,o,e,z,_⟩:=(HM.out w (aT _ _)).r.at_ hv
    cases e;exact z
   obtain ⟨vn,va,vl,vc⟩:=v;simp only at h1 h2 h3 h4 q0 q1;subst h1 h2;obtain ⟨kt,ej⟩:=NI.out.kn HO.out vn (Yt hj);obtain ⟨R,hR⟩:∃R,R=aB pR (enc' vn):=⟨_,rfl⟩
   have hI:Hid (∀v',Below wr.heap.size wr v'->Calls Try.prog 56 #[bS 0 0 (some ⟨w2.heap.size,0,none⟩) 1 1,.slice va (aB pR (enc vn)).length vc] v' (jP v' R)):=aC fun v' hb=>by
    rw [hR,ej];exact m_ 0 0 (some ⟨w2.heap.size,0,none⟩) 1 [(n,(A,P.length,c))] L β xJ [n] NI.out.one (by simp) _ (enc vn) pR va vc v' (bN _) (T2.out.step hb) ((h4.below hb).more hb.size) h3 kt
   have HJ:=aC hj;have HRd:=aC hR;obtain ⟨PL,hPL⟩:∃PL,PL=(aB pR (enc vn)).length:=⟨_,rfl⟩;rw [<-hPL] at hI q1;have hDw:w2.heap.size+2<wr.heap.size:=(Array.getElem?_eq_some_iff.1 N.out.2.1).1
   have S0:Hid (∀v,Below wr.heap.size wr v->v.cell? ⟨w2.heap.size+2,2,none⟩=some (.slice Lo us.length co)/\v.cell? ⟨w.heap.size,2,none⟩=some (.slice (some ⟨bq,oq,none⟩) vs.length cq)/\v.cell? ⟨bq,oq+i*2,none⟩=some (.int .i64 vn)/\v.cell? ⟨bq,oq+i*2+1,none⟩=some (.slice va PL vc)/\v.cell? ⟨w2.heap.size+1,0,none⟩=some (.int .i64 0)/\v.cell? ⟨w2.heap.size+1,1,none⟩=some (.int .i64 0)/\v.cell? ⟨w2.heap.size+1,2,none⟩=some (.slice (some ⟨w2.heap.size,0,none⟩) 1 1)):=aC fun v hb=>by
    obtain ⟨_,_,_,_,a25,o05,o15,o25⟩:=HX.out v (ah (xg.out wr N.out.2.2) hb);exact ⟨(hb.cell (p:=⟨w2.heap.size+2,2,none⟩) hDw).trans d2,a25,(hb.cell (p:=⟨bq,oq+i*2,none⟩) zq).trans q0,(hb.cell (p:=⟨bq,oq+i*2+1,none⟩) zq).trans q1,o05,o15,o25⟩
   have WE:Hid (∀(w5:World) (A5:Option Addr) (c5:Nat),Below wr.heap.size wr w5->wd.heap.size<=(w5.alloc (.cells #[.int .i64 vn,.slice A5 R.length c5] 175)).heap.size):=aC fun w5 A5 c5 hb=>by
    have h1:=N.out.2.2.size;have h2:=hb.size;simp;omega
   have akU:Hid (∀(w5:World) (A5:Option Addr) (c5:Nat),Below wr.heap.size wr w5->Hid (∀w7,(w5.alloc (.cells #[.int .i64 vn,.slice A5 R.length c5] 175)).grownBy w7 ((aO Lo us.length co).ownBlock)->Hid (w7.heap[w2.heap.size+2]?=wr.heap[w2.heap.size+2]?)/\w7.frozen? ⟨w2.heap.size+2,2,none⟩=false/\(w7.cell? ⟨w2.heap.size+2,2,none⟩=some (.slice Lo us.length co)/\w7.cell? ⟨w.heap.size,2,none⟩=some (.slice (some ⟨bq,oq,none⟩) vs.length cq)/\w7.cell? ⟨bq,oq+i*2,none⟩=some (.int .i64 vn)/\w7.cell? ⟨bq,oq+i*2+1,none⟩=some (.slice va PL vc)/\w7.cell? ⟨w2.heap.size+1,0,none⟩=some (.int .i64 0)/\w7.cell? ⟨w2.heap.size+1,1,none⟩=some (.int .i64 0)/\w7.cell? ⟨w2.heap.size+1,2,none⟩=some (.slice (some ⟨w2.heap.size,0,none⟩) 1 1)))):=aC fun w5 A5 c5 hb=>aC fun w7 hg=>by
    have key:∀k,k<wd.heap.size->w7.heap[k]?=wr.heap[k]?:=fun k hk=>by
     have h1:=N.out.2.2.size;have h2:=hb.size
     have e1:=(Fr.grown (X:=fun k=>(aO Lo us.length co).ownBlock=some k) hg fun k e=>e).block k (by simp;omega) fun e=>by
      obtain ⟨a,ha,hae⟩:=bA e;have:=(aA.lt N.out.1.own a ha).1;omega
     rw [e1];exact (adM _ _ k (by omega)).trans (hb.block k (by omega))
    obtain ⟨k1,k2,k3,k4,k5,k6,k7⟩:=S0.out wr (aT _ _);have kc:∀(b j:Nat),b<wd.heap.size->w7.cell? ⟨b,j,none⟩=wr.cell? ⟨b,j,none⟩:=fun b j hb=>adN (key b hb);exact ⟨aC (key _ (by omega)),by simp [ad6,key _ hDd,N.out.2.1],(kc _ _ (by omega)).trans k1,(kc _ _ (by omega)).trans k2,(kc _ _ (by omega)).trans k3,(kc _ _ (by omega)).trans k4,(kc _ _ (by omega)).trans k5,(kc _ _ (by omega)).trans k6,(kc _ _ (by omega)).trans k7⟩
   clear hj hv h3 h4 kt ej hR hPL;obtain ⟨SS,hSS⟩:∃SS:World->Prop,SS=fun v=>v.cell? ⟨w2.heap.size+2,2,none⟩=some (.slice Lo us.length co)/\v.cell? ⟨w.heap.size,2,none⟩=some (.slice (some ⟨bq,oq,none⟩) vs.length cq)/\v.cell? ⟨bq,oq+i*2,none⟩=some (.int .i64 vn)/\v.cell? ⟨bq,oq+i*2+1,none⟩=some (.slice va PL vc)/\v.cell? ⟨w2.heap.size+1,0,none⟩=some (.int .i64 0)/\v.cell? ⟨w2.heap.size+1,1,none⟩=some (.int .i64 0)/\v.cell? ⟨w2.heap.size+1,2,none⟩=some (.slice (some ⟨w2.heap.size,0,none⟩) 1 1):=⟨_,rfl⟩;have SS0:Hid (∀v,Below wr.heap.size wr v->SS v):=aC fun v hb=>by rw [hSS];exact S0.out v hb
   go_wp2_with fail;refine bO (S:=SS) [20] (by kernel_rfl) ?_ (fun hHeld=>?_)
   ·exact SS0.out _ (aT _ _).drew
   refine aR 0 [1,18,19,20] (some 33) rfl rfl ?_;refine aR 1 [18,19,20] (some 34) rfl rfl ?_;refine aR 2 [3,5,6,7,16,17,18,19,20] (some 35) rfl rfl ?_;refine aR 3 [5,6,7,16,17,18,19,20] (some 36) rfl rfl ?_;refine aR 4 [5,6,7,16,17,18,19,20] (some 37) rfl rfl ?_;refine aR 5 [6,7,16,17,18,19,20] (some 38) rfl rfl ?_;refine aR 6 [7,16,17,18,19,20] (some 39) rfl rfl ?_;refine aR 7 [16,17,18,19,20] (some 40) rfl rfl ?_;refine aR 8 [15,16,17,18,19,20] (some 41) rfl rfl ?_;refine aR 9 [10,12,13,14,15,16,17,18,19,20] (some 42) rfl rfl ?_;refine aR 10 [12,13,14,15,16,17,18,19,20] (some 43) rfl rfl ?_;refine aR 11 [12,13,14,15,16,17,18,19,20] (some 44) rfl rfl ?_;refine aR 12 [13,14,15,16,17,18,19,20] (some 45) rfl rfl ?_;refine aR 13 [14,15,16,17,18,19,20] (some 46) rfl rfl ?_;refine aR 14 [15,16,17,18,19,20] (some 47) rfl rfl ?_;refine sF 15 (some 48) rfl rfl (by kernel_rfl) (by rfl) (by go_simp) (hI.out _ (aT _ _).drew) ?_;rintro e w5 ⟨A5,c5,rfl,hown5,hb5⟩;have hw1:=aC (ah (aT _ wr).drew hb5);have agr:Hid (∀a,A5=some a->wr.heap.size<=a.block):=aC (fun a ha=>(aA.lt hown5 a ha).1);have Q5:=aC (N.out.1.step hw1.out);have X5:=aC hown5;have hz5:=WE.out w5 A5 c5 hw1.out;have HG7:=akU.out w5 A5 c5 hw1.out;clear hown5 hb5;have akV:=SS0.out _ hw1.out;refine ⟨.slice A5 R.length c5,rfl,akV,?_⟩;refine dN ?_;refine aR 16 [17,18,19,20] (some 49) rfl rfl ?_;refine aj3 17 (some 50) (v:=?_) (w':=?_) rfl rfl (by kernel_rfl) (by rfl) ?_ (fun _=>?_) ?_
   rotate_left
   rotate_left
   ·(go_simp;first|with_reducible rfl|(constructor<;>with_reducible rfl))
   ·exact SS0.out _ (ak hw1.out _)
   refine dN ?_;refine d9 18 rfl (by kernel_rfl) (by rfl) ?_;refine adu _ _ (by rfl) wd.heap.size (l:=us) (by rfl) (aA.alloc Q5.out.own _) (l2:=[(vn,(A5,R.length,c5))]) (A2:=some ⟨w5.heap.size,0,none⟩) (c:=1) (B:=w5.heap.size+1) (by rfl) (Mx w5 _) (by simp;omega) hz5 ?_;intro A7 c7 w7 oH vo Xf;obtain ⟨e7,x1,S7⟩:=HG7.out w7 vo;have H7:=aC (Gw oH (Gw vo Xf));clear oH vo Xf;have SS7:SS w7:=by rw [hSS];exact S7
   refine ⟨fun _=>SS7,?_⟩;refine dN ?_;refine aR 19 [20] (some 52) rfl rfl ?_;refine Cy 20 none (w':=?_) rfl rfl (by kernel_rfl) (by rfl) ?_ (zL (by kernel_rfl)) ?_
   rotate_left
   ·(go_simp;try with_reducible rfl)
   refine dN ?_;refine gJ (by kernel_rfl) ?_ _;go_wp2_with fail;go_roundw
   case rel=>
    obtain ⟨akW,vo,Xf⟩:=H7.out;have hba:Below w5.heap.size w5 (w5.alloc (.cells #[.int .i64 vn,.slice A5 R.length c5] 175)):=ak (aT _ _) _
    have a7:=(Q5.out.step hba).app (v:=(vn,(A5,R.length,c5))) (t:=(vn,R)) rfl rfl (aA.cZ X5.out) ((X5.out.g_.below hba).more hba.size) (fun a b ha hb e=>by
     have h1:=agr.out a ha;have h2:=(aA.lt N.out.1.own b hb).2;omega) (fun a ha e=>by
     have h1:=agr.out a ha;have h2:=N.out.2.2.size;have e:a.block=w2.heap.size+2\/(a.block<w.heap.size/\_):=e;rcases e with e|e
     ·omega
     ·have:=e.1
      omega) (fun a ha=>by
     have h1:=(aA.lt X5.out a ha).2;have h2:=hba.size;omega) akW vo Xf
    have e8:sV enc' (ns.take (i+1))=sV enc' (ns.take i)++[(vn,R)]:=by rw [GZ,HJ.out,HRd.out];exact LJ _ _ _
    have f7:Fr (fun k=>k=w2.heap.size+2) wd w7:=Fr.new ((N.out.2.2.trans (Fr.below hw1.out)).alloc _) (Fr.grown (X:=fun k=>(aO Lo us.length co).ownBlock=some k) vo fun k e=>e) fun b e=>.inr (by
     obtain ⟨a,ha,hae⟩:=bA e;have:=(aA.lt N.out.1.own a ha).1;omega)
    have h7:=heap_set (e7.out.trans N.out.2.1) 2 (.slice A7 (us.length+1) c7);have hil:i+1<=1000001:=by have:=DT.out;omega
    refine ⟨i+1,us++[(vn,(A5,R.length,c5))],A7,c7,?_,hp,?_,aC ⟨?_,?_,?_⟩⟩
    ·go_num
    ·simp [DT.out]
    ·rw [e8]
     exact a7.fr (Fr.setCell (X:=fun k=>k=w2.heap.size+2) (Fr.refl _ _) (.inl rfl) _) fun k hk=>⟨.inl hk,by rw [hk];exact hDd⟩
    ·rw [A_]
     exact h7
    ·exact f7.setCell (.inl rfl) _
   case measure=>have hil:i+1<=1000001:=(by have:=DT.out;omega);simp [intOf];omega
  ·obtain rfl:i=vs.length:=by omega
   have e1:ns.take vs.length=ns:=CK (by have:=Hvn.out;omega);rw [e1] at N;clear hp e1
   have HG9:Hid (∀w8,(wr.alloc (.cells #[.int .i64 n,.slice A P.length c] 175)).grownBy w8 ((aO Lo us.length co).ownBlock)->Hid (w8.heap[w2.heap.size+2]?=wr.heap[w2.heap.size+2]?)/\w8.frozen? ⟨w2.heap.size+2,2,none⟩=false/\w8.cell? ⟨w2.heap.size+2,2,none⟩=some (.slice Lo us.length co)):=aC fun w8 hg=>by
    have e8:w8.heap[w2.heap.size+2]?=wr.heap[w2.heap.size+2]?:=by
     have h1:=N.out.2.2.size
     have e1:=(Fr.grown (X:=fun k=>(aO Lo us.length co).ownBlock=some k) hg fun k e=>e).block (w2.heap.size+2) (by simp;omega) fun e=>by
      obtain ⟨a,ha,hae⟩:=bA e;have:=(aA.lt N.out.1.own a ha).1;omega
     rw [e1];exact adM _ _ _ (by omega)
    exact ⟨aC e8,by simp [ad6,e8,N.out.2.1],by simp [adw,e8,N.out.2.1]⟩
   have hzw:wd.heap.size<=wr.heap.size:=N.out.2.2.size;go_wp2_with (at_builtin;refine QB rfl (.tmp 54) (.tmp 58) rfl wd.heap.size (l:=us) rfl (aA.alloc N.out.1.own _) (l2:=[(n,(A,P.length,c))]) (A2:=some ⟨wr.heap.size,0,none⟩) (c:=1) (B:=wr.heap.size+1) rfl (Mx wr _) (by simp;omega) (by simp;omega) ?_;intro V2 gq w8 mK oO qp;obtain ⟨e8,x8,y8⟩:=HG9.out w8 oO;have H8:=aC (Gw mK (Gw oO qp));clear mK oO qp);obtain ⟨w9,hw9⟩:∃w9,w9=w8.setCell ⟨w2.heap.size+2,2,none⟩ (.slice V2 (us.length+1) gq):=⟨_,rfl⟩;have hba:Below wr.heap.size wr (wr.alloc (.cells #[.int .i64 n,.slice A P.length c] 175)):=ak (aT _ _) _
   have hAl:∀a,A=some a->a.block<w.heap.size:=fun a ha=>by
    have h1:=HA.out w (aT _ _);have hne:aB pR U≠[]:=zZ _ _;obtain ⟨b,o,e,hb,_⟩:=h1 hne;rw [ha] at e;injection e with e
    rw [e];exact hb
   have F9:Hid (lD (us++[(n,(A,P.length,c))]) V2 enc' (ns++[n]) w9/\((∀a,V2=some a->a.off=0)/\(∀a,V2=some a->w.heap.size<=a.block)/\∀v∈us++[(n,(A,P.length,c))],∀a,v.2.1=some a->w.heap.size<=a.block\/∃a',A=some a'/\a'.block=a.block)/\w9.heap[w2.heap.size+2]?=some (.cells #[.int .i64 first,.int .i64 next,.slice V2 (us.length+1) gq] 29 (0,0))/\Below wc.heap.size wc w9):=by
    obtain ⟨akY,oO,qp⟩:=H8.out;have hbw:Below w.heap.size w wr:=ah HWC.out (xg.out wr N.out.2.2)
    have a8:=(N.out.1.step hba).app (v:=(n,(A,P.length,c))) (t:=(n,P)) rfl rfl (by show P.length<=c;rw [HP.out];exact hc) (((by have:=HA.out wr hbw;rw [<-HP.out] at this;exact this:aM wr wr.heap.size A P).below hba).more hba.size) (fun a b ha hb e=>by
     have h1:=hAl a ha;have h2:=(aA.lt N.out.1.own b hb).1;omega) (fun a ha e=>by
     have h1:=hAl a ha;have e:a.block=w2.heap.size+2\/(a.block<w.heap.size/\∀a',A=some a'->a'.block≠a.block):=e;rcases e with e|e
     ·omega
     ·exact e.2 a ha rfl) (fun a ha=>by
     have h1:=hAl a ha;have h2:=hba.size;omega) akY oO qp
    have b8:=a8.fr (w':=w9) (by rw [hw9];exact Fr.setCell (X:=fun k=>k=w2.heap.size+2) (Fr.refl _ _) (.inl rfl) _) fun k hk=>⟨.inl hk,by rw [hk];exact hDd⟩
    have f8:Fr (fun k=>k=w2.heap.size+2) wd w8:=Fr.new (N.out.2.2.alloc _) (Fr.grown (X:=fun k=>(aO Lo us.length co).ownBlock=some k) oO fun k e=>e) fun b e=>.inr (by
     obtain ⟨a,ha,hae⟩:=bA e;have:=(aA.lt N.out.1.own a ha).1;omega)
    refine aC ⟨⟨aA.read Ik b8.own,?_⟩,⟨adt b8.own,fun a ha=>by have:=(aA.lt b8.own a ha).1;omega,fun v hv a ha=>?_⟩,?_,xg.out w9 (by rw [hw9];exact f8.setCell (.inl rfl) _)⟩
    ·rw [LJ,NI.out.self,<-HP.out]
     exact b8.tab
    ·have h1:=b8.lo v hv a ha
     by_cases hlt:a.block<w.heap.size
     ·refine .inr (aax fun hn=>h1 (.inr ⟨hlt,fun a' ha' e=>hn ⟨a',ha',e⟩⟩))
     ·exact .inl (by omega)
    ·rw [hw9]
     exact heap_set (e8.out.trans N.out.2.1) 2 _
   have akZ:=DT.out;rw [<-hw9];clear hw9 e8 x8 y8 HG9 H8 hba hAl;have hlt:(ns++[n]).length=us.length+1:=by have:=Hvn.out;simp;omega
   have Z8:=aC hlt;have HUL:=aC (show us.length=ns.length by have:=Hvn.out;omega)
   have HY:Hid (∀v,Below w9.heap.size w9 v->lD (us++[(n,(A,P.length,c))]) V2 enc' (ns++[n]) v/\bD v (w2.heap.size+2) first next V2 (us.length+1) gq/\bD v w.heap.size first next Q vs.length cq/\bD v (w.heap.size+1) 0 0 none 0 0/\Below w.heap.size w v):=aC fun v hv=>by
    have h1:bD w9 (w2.heap.size+2) first next V2 (us.length+1) gq:=F9.out.2.2.1;have h2:=ah F9.out.2.2.2 hv;exact ⟨F9.out.1.step hv,h1.later hv,(SB.out v h2).1,(SB.out v h2).2,ah HWC.out h2⟩
   obtain ⟨N2,hN2⟩:∃N2,N2=us.length+1:=⟨_,rfl⟩;rw [<-hN2] at HY Z8 ⊢;have HN2:=aC hN2;have apm:N2<=1000001:=by omega
   clear N T1 T2 akZ hlt hN2 DT hus;go_loopw [11] (fun s11 wr=>∃(i:Nat),s11= .int .i64 i/\i<=N2/\Hid (Below w9.heap.size w9 wr/\∀j∈(ns++[n]).take i,j<first->OP (enc' j))) (fun s11 _=>N2-(intOf s11).toNat)
   case atStart=>exact ⟨0,rfl,Nat.zero_le _,aC ⟨aT _ _,fun j hj=>by simp at hj⟩⟩
   case round=>
    obtain ⟨i,rfl,hi,B⟩:=hrel;obtain ⟨t1,t2,t3,t4,t5⟩:=HY.out wr B.out.1;obtain ⟨a0,a1,a2⟩:=t3.at_;obtain ⟨d0,d1,d2⟩:=t2.at_;obtain ⟨b0,b1,b2⟩:=t4.at_;obtain ⟨b3,b4,b5⟩:=t4.fz;have BW:=aC t5;have T1:=aC t1;clear t1 t2 t3 t4 t5;by_cases hp:i<N2
    ·obtain ⟨j,hj⟩:=aD (show i<(ns++[n]).length by rw [Z8.out];exact hp)
     obtain ⟨v,hv⟩:=aD (show i<(us++[(n,(A,P.length,c))]).length by have:=HN2.out;simp;omega);obtain ⟨h1,h2,h3,h4⟩:=T1.out.t.2 i v (j,aB pR (enc' j)) hv (LH hj);obtain ⟨bq,oq,rfl,zq,q0,q1⟩:=T1.out.r.at_ hv;have hmem:=Yt hj;have HJ:=aC hj;obtain ⟨vn,va,vl,vc⟩:=v;simp only at h1 h2 h3 h4 q0 q1;subst h1 h2;by_cases hjf:vn<first
     ·have hw:=NI.out.wf HO.out vn hmem hjf
      have hgl:=NI.out.gl HO.out vn hmem hjf
      have hlen:(aB pR (enc' vn)).length<=19000000000:=by
       rcases JQ.1 hmem with hm|hm
       ·obtain ⟨kt,ek⟩:=NI.out.kn HO.out vn hm
        rw [ek];exact kt.li
       ·simp only [aaW] at hm
        rw [hm,NI.out.self];have:=NI.out.len;omega
      have hgd:=(La _ hw pR).1
      have P_:(gM (aB pR (enc' vn))).length<=9223372036854775807:=by
       have:=R_ _ hgd.trw.fo;omega
      have YA:=aC (acg hw);obtain ⟨T,hT⟩:∃T,T=aB pR (enc' vn):=⟨_,rfl⟩;rw [<-hT] at h3 h4 q1 hgl hlen hgd P_ YA;have hTp:0<T.length:=by rw [hT];exact oV _ _
      have HG:Hid (∀v,Below wr.heap.size wr v->Calls Try.prog 29 #[.slice va T.length vc] v (jP v (gM T))):=aC fun v hb=>Ua va vc T v ((h4.below hb).more hb.size) hgd (by omega) h3;obtain ⟨rr,hrr⟩:∃rr,rr=kY (gM T):=⟨_,rfl⟩;rw [<-hrr] at YA
      have HR:Hid (∀(v:World) (A':Option Addr) (c':Nat),aM v v.heap.size A' (gM T)->Calls Try.prog 28 #[.slice A' (gM T).length c'] v fun e w'=>e= .returned (.bool rr)/\Below v.heap.size v w'):=aC fun v A' c' ht=>by
       have:=Bv A' c' (gM T) v ht P_ hgl;rw [right_eq,<-hrr] at this;exact this
      obtain ⟨LT,hLT⟩:∃LT,LT=T.length:=⟨_,rfl⟩;rw [<-hLT] at HG q1 hTp;obtain ⟨LG,hLG⟩:∃LG,LG=(gM T).length:=⟨_,rfl⟩
      have S0:Hid (∀v,Below wr.heap.size wr v->v.cell? ⟨w2.heap.size+2,2,none⟩=some (.slice (some ⟨bq,oq,none⟩) N2 gq)/\v.cell? ⟨w.heap.size,0,none⟩=some (.int .i64 first)/\v.cell? ⟨bq,oq+i*2,none⟩=some (.int .i64 vn)/\v.cell? ⟨bq,oq+i*2+1,none⟩=some (.slice va LT vc)):=aC fun v hb=>by
       obtain ⟨_,x2,x3,_,_⟩:=HY.out v (ah B.out.1 hb);exact ⟨x2.at_.2.2,x3.at_.1,(hb.cell (p:=⟨bq,oq+i*2,none⟩) zq).trans q0,(hb.cell (p:=⟨bq,oq+i*2+1,none⟩) zq).trans q1⟩
      clear h3 h4 hgl hlen hgd P_ hw hrr hT hLT hLG
      cases rr with
      |false=>
       go_wp2_with fail
       go_region_held3 (fun v=>v.cell? ⟨w2.heap.size+2,2,none⟩=some (.slice (some ⟨bq,oq,none⟩) N2 gq)/\v.cell? ⟨w.heap.size,0,none⟩=some (.int .i64 first)/\v.cell? ⟨bq,oq+i*2,none⟩=some (.int .i64 vn)/\v.cell? ⟨bq,oq+i*2+1,none⟩=some (.slice va LT vc))
        (first
         |exact S0.out _ (aT _ _).drew
         |exact S0.out _ hg1.out
         |exact S0.out _ hg2.out)
        (first
         |(go_at_call 29;(with_reducible refine (HG.out _ (aT _ _).drew).mono ?_);rintro e w5 ⟨A5,c5,rfl,hown5,hb5⟩;have hg1:=aC (ah (aT _ wr).drew hb5);have X5:=aC hown5.g_;clear hown5 hb5)
         |(go_at_call 28;(with_reducible refine (HR.out _ A5 c5 X5.out).mono ?_);rintro e w6 ⟨rfl,hb6⟩;have hg2:=aC (ah hg1.out hb6);clear hb6))
       all_goals
        obtain ⟨_,_,t3,t4,t5⟩:=HY.out w6 (ah B.out.1 hg2.out);obtain ⟨a0,a1,a2⟩:=t3.at_;obtain ⟨b0,b1,b2⟩:=t4.at_;obtain ⟨b3,b4,b5⟩:=t4.fz;have BW:=aC t5;clear t3 t4 t5;go_wp2_with fail
        exact bodyPost_ret (v:=.tuple #[bS first next Q vs.length cq,.int .i64 9]) (by simp [results,Try.results95,go_sem,b0,b1,b2]) rfl (.inl ⟨rfl,aY BW.out (Nat.le_succ _) _ _ _,.inr ⟨vn,Yt HJ.out,hjf,fun hf=>by have:=YA.out.2 hf;simp at this⟩⟩)
      |true=>
       go_wp2_with fail
       go_region_held3 (fun v=>v.cell? ⟨w2.heap.size+2,2,none⟩=some (.slice (some ⟨bq,oq,none⟩) N2 gq)/\v.cell? ⟨w.heap.size,0,none⟩=some (.int .i64 first)/\v.cell? ⟨bq,oq+i*2,none⟩=some (.int .i64 vn)/\v.cell? ⟨bq,oq+i*2+1,none⟩=some (.slice va LT vc))
        (first
         |exact S0.out _ (aT _ _).drew
         |exact S0.out _ hg1.out
         |exact S0.out _ hg2.out)
        (first
         |(go_at_call 29;(with_reducible refine (HG.out _ (aT _ _).drew).mono ?_);rintro e w5 ⟨A5,c5,rfl,hown5,hb5⟩;have hg1:=aC (ah (aT _ wr).drew hb5);have X5:=aC hown5.g_;clear hown5 hb5)
         |(go_at_call 28;(with_reducible refine (HR.out _ A5 c5 X5.out).mono ?_);rintro e w6 ⟨rfl,hb6⟩;have hg2:=aC (ah hg1.out hb6);clear hb6))
       all_goals
        go_wp2_with fail;go_roundw
        case rel=>
         refine ⟨i+1,by go_num,hp,aC ⟨?_,fun j' hj' hj0=>?_⟩⟩
         ·have:=hg2.out
          exact ah B.out.1 this
         ·rw [GZ,HJ.out] at hj'
          rcases JQ.1 hj' with h|h
          ·exact B.out.2 j' h hj0
          ·simp only [afe,aaW] at h
           rw [h];have:=YA.out;simp at this;exact this
        case measure=>simp [intOf];omega
     ·have apo:decide (vn<first)=false:=decide_eq_false hjf
      go_wp2_with fail;go_quiet (fail);go_wp2_with fail;go_roundw
      case rel=>
       refine ⟨i+1,by go_num,hp,aC ⟨ah B.out.1 (iA _ _),fun j' hj' hj0=>?_⟩⟩;rw [GZ,HJ.out] at hj';rcases JQ.1 hj' with h|h
       ·exact B.out.2 j' h hj0
       ·simp only [afe,aaW] at h
        exact absurd hj0 (by rw [h];omega)
      case measure=>simp [intOf];omega
    ·have hall:Hid (∀j∈ns++[n],j<first->OP (enc' j)):=aC (by
      have:=B.out.2
      rwa [CK (by rw [Z8.out];omega)] at this)
     obtain ⟨d0,d1,d2⟩:=(HY.out wr B.out.1).2.1.at_;go_wp2_with fail;have e2:(us++[(n,(A,P.length,c))]).length=N2:=by simp [HN2.out]
     have htz:fQ (fun _=>False) (us++[(n,(A,P.length,c))]) V2 enc' (ns++[n]) (dB wr (w.heap.size+1) first next V2 N2 gq):=
      fQ.past (X:=fun k=>k=w.heap.size+1) ⟨T1.out,F9.out.2.1.1,fun _ _ _ h=>h,fun _ _ _ _ h=>h⟩ (gY (X:=fun k=>k=w.heap.size+1) (Fr.refl _ _) (.inl rfl) _ _ _) fun k hk=>by rw [hk];exact eO.zero (HY.out wr B.out.1).2.2.2.1
     exact bodyPost_ret (v:=.tuple #[bS first next V2 N2 gq,.int .i64 0]) (by simp [results,Try.results95,go_sem,b0,b1,b2]) rfl (.inr ⟨_,V2,gq,by rw [e2],htz.m,aY BW.out (Nat.le_succ _) _ _ _,HO.out,hall.out,F9.out.2.1.1,F9.out.2.1.2.1,F9.out.2.1.2.2⟩)
theorem JH:∀{fs:Fl} {q:Lb×Ut} {m:Int},(∀p∈fs,gD p.2)->q∈(cK m fs).1->∃p∈fs,∃m',m<=m'/\q=(p.1,(aH m' p.2).1)
 |[],q,m,_,h=>by rw [dw] at h;simp at h
 |p::fs,q,m,hw,h=>by
  rw [b_] at h;rcases Gz.1 h with e|h
  ·exact ⟨p,by simp,m,aa1 _,e⟩
  ·obtain ⟨p',h1,m',h2,h3⟩:=JH (fun x hx=>hw x (List.mem_cons_of_mem _ hx)) h
   have:=(Ab (.inl (hw p (by simp))) m pR).2;exact ⟨p',by simp [h1],m',by omega,h3⟩
theorem YB:∀(t:Ut),gD t->∀m:Int,0<=m->gD (aH m t).1:=by
 refine Ut.ind fun k n fs tl ih h m hm=>?_;rw [bU] at h;obtain ⟨h,hc⟩:=h;rw [fF];by_cases hk:k=0
 ·rw [if_pos hk,bU]
  exact ⟨⟨List.nodup_nil,fun _=>⟨rfl,rfl⟩,fun e=>absurd rfl e,fun _=>hm,⟨by omega,by omega,fun e=>by omega,fun _ _=>⟨rfl,rfl⟩⟩,fun e=>(by cases e),fun p e=>(by cases e),fun e=>(by cases e),fun e=>by omega⟩,fun p hp=>by simp at hp⟩
 ·rw [if_neg hk,bU]
  refine ⟨⟨by rw [jg];exact h.nd,fun e=>?_,h.n0,h.n8,⟨h.sh.1,h.sh.2.1,fun e=>?_,fun a b=>?_⟩,fun e=>⟨OM (h.row e).1,by rw [jg];exact (h.row e).2⟩,h.tn,fun e=>by rw [Dx];exact h.len e,fun e=>by rw [Dx];exact h.un e⟩,fun p hp=>?_⟩
  ·obtain ⟨e1,e2⟩:=h.lf e
   rw [e1,dw];exact ⟨rfl,e2⟩
  ·obtain ⟨⟨x,y,e1⟩,e2⟩:=h.sh.2.2.1 e
   rw [e1,b_,b_,dw];exact ⟨⟨_,_,rfl⟩,e2⟩
  ·obtain ⟨e1,e2⟩:=h.sh.2.2.2 a b
   rw [e1,dw];exact ⟨rfl,e2⟩
  ·obtain ⟨q,hq,m',hm',rfl⟩:=JH hc hp
   exact ih q hq (hc q hq) m' (by omega)
theorem ady {t:Ut} (h:vR t) {m:Int} (hm:0<=m):vR (aH m t).1:=by
 rcases h with h|rfl
 ·exact .inl (YB t h m hm)
 ·right
  rw [fF,if_neg (by omega),dw]
theorem afl (v:Int):∀t,gD t->bL v t->0<=v:=by
 refine Ut.ind fun k n fs tl ih h o=>?_;rw [bU] at h;rw [nD] at o;rcases o with ⟨a,b⟩|o|⟨p,hp,o⟩
 ·rw [<-b];exact h.1.n8 (.inl a)
 ·exact h.1.tn v o
 ·exact ih p hp (h.2 p hp) o
theorem MB:∀t,gD t->j_ t:=by
 refine Ut.ind fun k n fs tl ih h=>?_;rw [bU] at h;rw [iV];exact ⟨h.1.sh,fun p hp=>ih p hp (h.2 p hp)⟩
theorem Gm {t:Ut} (h:vR t):j_ t:=by
 rcases h with h|rfl
 ·exact MB t h
 ·rw [iV]
  exact ⟨⟨by omega,by omega,fun e=>by omega,fun _ e=>by cases e⟩,fun p hp=>by simp at hp⟩
section
variable {U Lo:List Lb} {m0:Int} {X X':Int->Prop} {S S':Kn} {ns:List Int} {t:Ut}
theorem um (s s':Lb) (t:Ut):(aB s t).length=(aB s' t).length:=by
 rw [<-Yn s s' t]
 cases aB s' t<;>simp [afU]
theorem adz (h:KG U S) (n:Int):dQ S.L (dA S n)/\j_ (dA S n):=by
 unfold dA jl
 cases hl:S.L n with
 |none=>exact ⟨h.inv.wf.v n hl,h.sh.σ.v n hl⟩
 |some ls=>
  have hr:=Dz h hl;obtain ⟨k8,k0,k5,k1,k2⟩:=bJ hr;obtain ⟨o1,o2,o3⟩:=h.inv.wf.ok.t n ls hl;obtain ⟨q1,q2⟩:=h.inv.wf.t n ls hl;show dQ S.L (.mk (l6 S n) 0 (S.σ.t n).1 (S.σ.t n).2)/\j_ (.mk (l6 S n) 0 (S.σ.t n).1 (S.σ.t n).2);rw [bK,iV];refine ⟨⟨⟨o1.nodup,fun e=>?_,fun e=>absurd e k8,fun _=>fun _=>rfl,fun p hp=>?_⟩,q1⟩,⟨k1,k2,fun e=>absurd e k5,fun _ e=>?_⟩,h.sh.σ.t n ls hl⟩
  ·rcases e with e|e<;>omega
  ·obtain ⟨ls',a,_,b⟩:=q2 p hp
   exact ⟨ls',a,b⟩
  ·rw [hr] at e;cases e
theorem aaK {L:Sorts} {τ:Va} {kd:Int->Int} (h:Ac L τ kd ns) {t:Ut} (ok:dQ L t) (sh:j_ t) (s:Lb):(aB s (inst τ t)).length<=(aB s t).length*700000:=by
 refine Wx (by omega) (fun n hl s=>?_) (fun p ls hl=>?_) t ok sh s
 ·by_cases hn:n∈ns
  ·have:=h.len n hn
   unfold jl at this;rw [hl] at this;rw [um s pR];exact this
  ·rw [h.v n hn hl]
   show (aB s (.mk 8 n [] none)).length<=_;rw [bY,if_neg (by decide),gH];simp
 ·by_cases hn:p∈ns
  ·have h1:=h.len p hn
   have h2:=(h.wt p hn ls hl).2;unfold jl at h1;rw [hl] at h1;have h3:=iP pR (kd p) 0 (τ.t p).1 (τ.t p).2;rw [h2] at h3;have h1:(aB pR (.mk (kd p) 0 (τ.t p).1 (τ.t p).2)).length<=700000:=h1;have h4:jU true (τ.t p).1=jv (τ.t p).1:=by simp [jU]
   rw [h4] at h3;omega
  ·rw [h.t p hn ls hl]
   show (jv []).length+1<=_;rw [lT];simp
theorem YC (j:dL U Lo m0 X S) {n:Int} (h0:0<=n) (hm:n<S.m) (hl:S.L n=none):gD (dA S n):=by
 unfold dA jl;rw [hl];have:=Kh j.kg j.rw (j.kg.var hl h0 hm) (yY n)
 rwa [aW] at this
theorem afm {t:Ut} (h:vR t):∀x∈aB pR t,bZ x.k=true->0<=x.n:=by
 intro x hx hv;have ho:=(Qf x.n t (Gm h) pR).2 ⟨x,hx,hv,rfl⟩;rcases h with h|rfl
 ·exact afl x.n t h ho
 ·rw [uD] at hx
  simp only [aaW] at hx;subst hx;exact aa1 _
theorem Pp (hU:∀y∈U,y.size<=9223372036854775807) (j:dL U Lo m0 X S) (fit:fK m0 S) (num:fG S ns) (hm:S.m<=1000000) {v:Int} (hv:S.κ v=none) {β:Va} {xJ:Int->Int} {Y t':Ut} (one:Ac S.L β xJ [v]) (eu:jl S.L β xJ v=Y) (hY:vR Y) (len:(aB pR Y).length<=700000) (sh:j_ Y)
  (self:dA S' v=Y) (step:∀n,n≠v->dA S' n=inst β (dA S n)) (hκ:S'.κ=upd S.κ v t') (hm':S.m<=S'.m) (j':¬bL v Y->dL U Lo m0 X' S'):Il S.L β xJ (dA S) (dA S') ns v Y m0:=by
 have hb:=num.len j.kg.inv j.kg.nn;have hne:∀n∈ns,n≠v:=fun n hn e=>(num.iff n).1 hn (by rw [e];exact hv);have hk':∀n∈ns++[v],S'.κ n≠none:=fun n hn=>((num.snoc hv hκ).iff n).1 hn;refine ⟨one,eu,len,sh,afm hY,self,fun o n hn=>⟨?_,step n (hne n hn)⟩,fun o n hn hlt=>?_,fun o n hn hlt x hx=>?_,by have:=hb.1;omega⟩
 ·obtain ⟨n0,n1⟩:=hb.2 n hn
  obtain ⟨a,b⟩:=adz j.kg n;have hl:=OU j fit n0 n1 ((num.iff n).1 hn) pR;have hi:=aaK one a b pR;refine ⟨a,b,LC j n0 n1 ((num.iff n).1 hn),?_,by omega,zk hi ?_⟩
  ·rw [<-step n (hne n hn)]
   exact LC (j' o) n0 (by omega) (hk' n (List.mem_append_left _ hn))
  ·exact zk (Nat.mul_le_mul_right 700000 hl) (by omega)
 ·have hnn:=((num.snoc hv hκ).len (j' o).kg.inv (j' o).kg.nn).2 n hn
  exact YC (j' o) hnn.1 hnn.2 ((j' o).low n hlt)
 ·have hnn:=((num.snoc hv hκ).len (j' o).kg.inv (j' o).kg.nn).2 n hn
  have hl:=(j' o).low n hlt;have hw:=YC (j' o) hnn.1 hnn.2 hl;have tg:=((j' o).kg.var hl hnn.1 hnn.2).res (j' o).kg;rw [aW] at tg;have e:dA S' n=S'.σ.v n:=by unfold dA jl;rw [hl]
  rw [Ws _ hw] at hx;rw [e] at hx;rcases ae3 _ (ae4 _ tg.lb) _ x hx with e|e|e
  ·rw [e];decide
  ·rw [e];decide
  ·exact hU _ e
theorem DL (j:dL U Lo m0 X S) (num:fG S ns):fK m0 S↔∀n∈ns,n<m0->OP (dA S n):=by
 have e:∀n,n<m0->dA S n=S.σ.v n:=fun n hn=>by
  unfold dA jl;rw [j.low n hn]
 constructor
 ·intro h n hn hlt
  rw [e n hlt];exact h n ((num.len j.kg.inv j.kg.nn).2 n hn).1 hlt
 ·intro h n h0 hlt
  by_cases hn:n∈ns
  ·have:=h n hn hlt
   rw [e n hlt] at this;exact this
  ·have hk:S.κ n=none:=by
    cases e:S.κ n with
    |none=>rfl
    |some t=>exact absurd ((num.iff n).2 (by rw [e];simp)) hn
   rw [(j.kg.inv.unk n hk).1];unfold aS;simp [jL,lY,pI,qZ]
   try omega
theorem wV.ags {v:Int} (h:wV U Lo m0 X S v t) (fix:inst S.σ t=t):inst S.σ (aH S.m t).1=(aH S.m t).1:=by
 have vg:=mF h.j.kg.inv h.g.pend.1;rw [fix] at vg;have:=Cj h.j.kg.inv h.g.pend.1 vg;rw [fix] at this;exact (congrArg Prod.fst this).symm
theorem wV.bec {v:Int} (hU:∀y∈U,y.size<=9223372036854775807) (h:wV U Lo m0 X S v t) (fix:inst S.σ t=t) (hw:gD t) (len:(aB pR t).length<=700000) (hm:S.m<=1000000) (num:fG S ns):
  Il S.L (Va.id.iL v (aH S.m t).1) (l6 S) (dA S) (dA (S.eF v t)) ns v (aH S.m t).1 m0:=by
 have fU:=h.ags fix;have hw':=YB t hw S.m h.j.kg.nn.m;have hl:(aB pR (aH S.m t).1).length<=700000:=by rw [TI _ _ _ h.g.sh];exact len
 refine Pp (X':=X) (t':=(aH S.m t).1) hU h.j h.fit num hm h.hv (ach h.hl hw' hl _) ?_ (.inl hw') hl (MB _ hw') ?_ (fun n hn=>?_) rfl ?_ fun o=>(h.ok (by rw [fU];exact o)).2
 ·unfold jl
  rw [h.hl];show (if v=v then (aH S.m t).1 else aS v)=_;rw [if_pos rfl]
 ·rw [Ia h.j.kg.inv h.hv h.hl,fU]
 ·have:=TB h.j.kg.inv hn t
  rw [fU] at this;exact this
 ·have:=(Ab (.inl hw) S.m pR).2
  show S.m<=(aH S.m t).2;omega
theorem aaL (hU:∀y∈U,y.size<=9223372036854775807) (j:dL U Lo m0 X S) (fit:fK m0 S) (num:fG S ns) (hm:S.m<=1000000) {p k:Int} {ls:List Lb} {F:Fl} {r:Option Int} (hv:S.κ p=none) (hl:S.L p=some ls) (rf:iK S p ls (.mk k 0 F r)) (ri:jT (.mk k 0 F r)) (hk:av k=true) (hw:vR (inst S.σ (.mk k 0 F r)))
  (len:(aB pR (inst S.σ (.mk k 0 F r))).length<=700000) (j':¬bL p (inst S.σ (aH S.m (.mk k 0 F r)).1)->dL U Lo m0 X' (S.aV p (.mk k 0 F r))):
  aH S.m (inst S.σ (.mk k 0 F r))=(inst S.σ (aH S.m (.mk k 0 F r)).1,(aH S.m (.mk k 0 F r)).2)/\
   Il S.L (Va.id.jh p ((inst S.σ (aH S.m (.mk k 0 F r)).1).fs,(inst S.σ (aH S.m (.mk k 0 F r)).1).tl)) (fun _=>k) (dA S) (dA (S.aV p (.mk k 0 F r))) ns p (inst S.σ (aH S.m (.mk k 0 F r)).1) m0:=by
 have hs:=Cj j.kg.inv rf.ok ri;refine ⟨hs,?_⟩
 have hw':vR (inst S.σ (aH S.m (.mk k 0 F r)).1):=by
  have:=ady hw j.kg.nn.m;rw [hs] at this;exact this
 have hlen:(aB pR (inst S.σ (aH S.m (.mk k 0 F r)).1)).length<=700000:=by
  have:=TI (inst S.σ (.mk k 0 F r)) S.m pR (Gm hw);rw [hs] at this;rw [this];exact len
 have hmk:=iK.inst j.kg.inv rf
 have hm':S.m<=(aH S.m (.mk k 0 F r)).2:=by
  have:=(Ab hw S.m pR).2;rw [hs] at this;have this:S.m+_=(aH S.m (.mk k 0 F r)).2:=this;omega
 obtain ⟨Y,hY⟩:∃Y,Y=inst S.σ (aH S.m (.mk k 0 F r)).1:=⟨_,rfl⟩;obtain ⟨F',e,_⟩:=hmk;have eY:Y= .mk k 0 Y.fs Y.tl:=by rw [hY,e];rfl
 have hself:=Ib j.kg.inv hv hl rf;have hstep:∀n,n≠p->_:=fun n hn=>TD j.kg.inv hn (.mk k 0 F r);rw [<-hY] at hw' hlen hself j' ⊢;simp only [<-hY] at hstep;have hw2:=hw';have uX:=hlen;rw [eY] at hw2 uX;refine Pp (X':=X') (t':=(aH S.m (.mk k 0 F r)).1) hU j fit num hm hv (aci hl hw2 hk uX) ?_ hw' hlen (Gm hw') hself hstep rfl hm' j';unfold jl;rw [hl];show Ut.mk k 0 ((Va.id.jh p (Y.fs,Y.tl)).t p).1 ((Va.id.jh p (Y.fs,Y.tl)).t p).2=Y;have:(Va.id.jh p (Y.fs,Y.tl)).t p=(Y.fs,Y.tl):=by show (if p=p then (Y.fs,Y.tl) else _)=_;rw [if_pos rfl]
 rw [this];exact eY.symm
end
abbrev jo (F:Fl) (i:Nat):Lb:=(y7 F i).1
open Classical in
noncomputable def mg (x y:Fl) (D:List Lb) (n:Nat) (r:Option (Nat×Nat)):Nat->Option (Nat×Nat)
 |0=>r
 |m+1=>match mg x y D n r m with
  |some z=>some z
  |none=>if jo x n=jo y m/\jo x n∉D then some (n,m) else none
noncomputable def sM (x y:Fl) (D:List Lb):Nat->Option (Nat×Nat)
 |0=>none
 |n+1=>mg x y D n (sM x y D n) y.length
def uo (r:Option (Nat×Nat)):Int×Int:=match r with
 |none=>(-1, -1)
 |some z=>((z.1:Int),(z.2:Int))
theorem Ar {x y:Fl} {D:List Lb} {n m:Nat} {r:Option (Nat×Nat)} {z:Nat×Nat} (h:mg x y D n r m=some z):mg x y D n r (m+1)=some z:=by
 unfold mg;rw [h]
theorem ES {x y:Fl} {D:List Lb} {n m:Nat} {r:Option (Nat×Nat)} (h:mg x y D n r m=none) (h1:jo x n=jo y m) (h2:jo x n∉D):mg x y D n r (m+1)=some (n,m):=by
 unfold mg;rw [h];exact if_pos ⟨h1,h2⟩
theorem Pq {x y:Fl} {D:List Lb} {n m:Nat} {r:Option (Nat×Nat)} (h:mg x y D n r m=none) (h1:¬(jo x n=jo y m/\jo x n∉D)):mg x y D n r (m+1)=none:=by
 unfold mg;rw [h];exact if_neg h1
theorem JI {x y:Fl} {D:List Lb} {n:Nat} {r:Option (Nat×Nat)}:∀m,match mg x y D n r m with
  |none=>r=none/\∀k,k<m->¬(jo x n=jo y k/\jo x n∉D)
  |some z=>r=some z\/(z.1=n/\z.2<m/\jo x n=jo y z.2/\jo x n∉D)
 |0=>by
  show match r with|none=>_|some z=>_
  cases r with
  |none=>exact ⟨rfl,fun k hk=>by omega⟩
  |some z=>exact .inl rfl
 |m+1=>by
  have ih:=JI (x:=x) (y:=y) (D:=D) (n:=n) (r:=r) m
  cases h:mg x y D n r m with
  |some z=>
   rw [Ar h];rw [h] at ih;rcases ih with a|⟨a,b,c,d⟩
   ·exact .inl a
   ·exact .inr ⟨a,by omega,c,d⟩
  |none=>
   rw [h] at ih;by_cases hc:jo x n=jo y m/\jo x n∉D
   ·rw [ES h hc.1 hc.2]
    exact .inr ⟨rfl,Nat.lt_succ_self _,hc.1,hc.2⟩
   ·rw [Pq h hc]
    refine ⟨ih.1,fun k hk=>?_⟩;by_cases e:k=m
    ·subst e;exact hc
    ·exact ih.2 k (by omega)
theorem CQ {x y:Fl} {D:List Lb}:∀n,match sM x y D n with
  |none=>∀i,i<n->∀k,k<y.length->¬(jo x i=jo y k/\jo x i∉D)
  |some z=>z.1<n/\z.2<y.length/\jo x z.1=jo y z.2/\jo x z.1∉D
 |0=>fun i hi=>by omega
 |n+1=>by
  have ih:=CQ (x:=x) (y:=y) (D:=D) n;have h1:=JI (x:=x) (y:=y) (D:=D) (n:=n) (r:=sM x y D n) y.length;show match mg x y D n (sM x y D n) y.length with|none=>_|some z=>_
  cases h:mg x y D n (sM x y D n) y.length with
  |none=>
   rw [h] at h1;obtain ⟨e,h1⟩:=h1;rw [e] at ih;intro i hi k hk;by_cases e:i=n
   ·subst e;exact h1 k hk
   ·exact ih i (by omega) k hk
  |some z=>
   rw [h] at h1;rcases h1 with e|⟨a,b,c,d⟩
   ·rw [e] at ih
    exact ⟨by have:=ih.1;omega,ih.2⟩
   ·exact ⟨by omega,b,by rw [a];exact c,by rw [a];exact d⟩
theorem UH {x y:Fl} {D:List Lb} (h:sM x y D x.length=none):∀l,l∈ay x->l∈ay y->l∈D:=fun l hx hy=>by
 have hs:=CQ (x:=x) (y:=y) (D:=D) x.length;rw [h] at hs;obtain ⟨p,hp,rfl⟩:=aaN.1 hx;obtain ⟨q,hq,e⟩:=aaN.1 hy;obtain ⟨i,hi,Vs⟩:=afd.1 hp;obtain ⟨k,hk,hkq⟩:=afd.1 hq;have e1:jo x i=p.1:=by show (y7 x i).1=_;rw [uT (by rw [jr hi,Vs])]
 have e2:jo y k=q.1:=by show (y7 y k).1=_;rw [uT (by rw [jr hk,hkq])]
 have:=hs i hi k hk;rw [e1,e2] at this;exact aax fun hn=>this ⟨e.symm,hn⟩
theorem adA {k:Int} {F:Fl} {tl:Option Int} (hk:av k=true) (hF:dY F):(⟨k,pR,((F.length+(aP tl).length:Nat):Int)⟩::(jv (aZ F)++aP tl))=aB pR (.mk k 0 F tl):=by
 rw [<-Qr hF (List.Perm.refl _),bY,if_pos hk]
section
variable {U Lo:List Lb} {m0:Int} {X:Int->Prop} {S S' S0:Kn} {ns:List Int} {k:Int} {x y:Fl} {p q:Option Int} {p0 q0:Int} {a0 b0:Ut} {D:List Lb}
structure lH (U Lo:List Lb) (m0:Int) (X:Int->Prop) (S:Kn) (k:Int) (x:Fl) (p:Option Int) (y:Fl) (q:Option Int):Prop where
 r:kU U Lo m0 X S k x p y q
 pair:nN U m0 S (.mk k 0 x p) (.mk k 0 y q)
 rep:∀p0,p=some p0->Reach m0 S p0
 req:∀q0,q=some q0->Reach m0 S q0\/(kT m0 S (.mk k 0 x p)/\iO (.mk k 0 y q))
 mb:S.m+(S.un:Int)+2*(bG (au x y)+bG (au y x):Nat)<=1000000
theorem YD (h:S.κ p0=none) (h0:0<=p0) (hm:p0<S.m):1<=S.un:=by
 have:=KY (p:=fun i=>(S.κ (i:Int)).isNone) (q:=fun i=>if i=p0.toNat then false else (S.κ (i:Int)).isNone) (v:=p0.toNat) (by
  show (S.κ (p0.toNat:Int)).isNone=true;rw [show ((p0.toNat:Nat):Int)=p0 by omega,h];rfl) (by simp) (fun i hi=>by simp [hi]) (n:=S.m.toNat) (by omega)
 unfold Kn.un;omega
theorem Cm.aie (h:Cm U Lo m0 X S0 S a0 b0 D) {x:Fl} {p:Option Int} {y:Fl} {q:Option Int} (r:dK U S a0 x p) (r2:dK U S b0 y q) (hD:∀l,l∈ay x->l∈ay y->l∈D):lH U Lo m0 X S a0.k (aI (inst S.σ) x) p (aI (inst S.σ) y) q:=by
 obtain ⟨e1,e2,e3,_,_⟩:=h.ends r r2 hD;have hp:=h.pair;have eA:=r.is;have eB:=r2.is;rw [h.hab] at eB;rw [eA,eB] at hp;refine ⟨e1,hp,e2,e3,?_⟩;have i:=h.j.kg.inv
 have d1:bG (au (aI (inst S.σ) x) (aI (inst S.σ) y))=bG (au x y):=by
  rw [Dy];exact tZ fun c hc=>qQ i.wf.ok _ (r.el c (dU hc)).pend.1
 have d2:bG (au (aI (inst S.σ) y) (aI (inst S.σ) x))=bG (au y x):=by
  rw [Dy];exact tZ fun c hc=>qQ i.wf.ok _ (r2.el c (dU hc)).pend.1
 have f1:bG (au x y)<=qN D a0.fs:=by
  rw [<-iD r]
  exact Dp fun l hl=>by
   obtain ⟨_,_,_,g2,_⟩:=h.ri.dn l hl x p y q r r2;exact jJ g2
 have f2:bG (au y x)<=qN D b0.fs:=by
  rw [<-iD r2]
  exact Dp fun l hl=>by
   obtain ⟨_,_,g1,_,_⟩:=h.ri.dn l hl x p y q r r2;exact jJ g1
 rw [d1,d2];have h3:=h.ri.m;have h4:=h.h0.mb;omega
theorem lH.len (h:lH U Lo m0 X S k x p y q):x.length<=30/\y.length<=30:=by
 have h1:=h.r.rwa;have h2:=h.r.rwb;rw [mG] at h1 h2;exact ⟨(h1.1 h.r.hk).1,(h2.1 h.r.hk).1⟩
theorem JJ {α:Type} (f:α->Nat) (P:α->Bool):∀l:List α,((l.filter P).map f).sum<=(l.map f).sum
 |[]=>bN _
 |a::l=>by
  have:=JJ f P l;rw [List.filter_cons];split<;>simp<;>omega
theorem IL (x y:Fl) (f:Ut->Ut):(jv (aI f (au x y))).length<=(jv (aI f x)).length:=by
 rw [FQ,FQ];unfold au aI;rw [abL,abL];exact JJ _ _ x
theorem afn {F:Fl} {r:Option Int} (hk:av k=true) (hF:dY F) (hl:∀l∈ay F,bV k l=true) (h30:F.length<=30) (hc:∀c∈F,gD c.2) (hr:∀z,r=some z->0<=z) (hu:k=7->F≠[]\/r≠none):gD (.mk k 0 F r):=by
 obtain ⟨k8,k0,k5,k1,k2⟩:=bJ hk;have ht:(aP r).length<=1:=by cases r<;>simp [aP]
 rw [bU];refine ⟨⟨hF.nodup,fun e=>?_,fun _ _=>rfl,fun _=>aa1 _,⟨k1,k2,fun e=>absurd e k5,fun _ e=>?_⟩,fun _=>⟨hF,hl⟩,hr,fun _=>by omega,fun e=>?_⟩,hc⟩
 ·rcases e with e|e<;>omega
 ·rw [hk] at e;cases e
 ·rcases hu e with h1|h1
  ·have:=List.length_pos_iff.2 h1
   omega
  ·cases r with
   |none=>exact absurd rfl h1
   |some z=>simp [aP]
theorem lH.wfB (h:lH U Lo m0 X S k x p y q) {r:Option Int} (hr:∀z,r=some z->0<=z):vR (.mk k 0 (au y x) r):=Tx h.r.hk h.r.wf.2 x hr h.len.2
theorem lH.wfA (h:lH U Lo m0 X S k x p y q) {r:Option Int} (hr:∀z,r=some z->0<=z):vR (.mk k 0 (au x y) r):=Tx h.r.hk h.r.wf.1 y hr h.len.1
theorem UJ (x y:Fl):aI (fun t=>t) (au x y)=au x y:=by unfold aI;simp
theorem zw (hk:av k=true) (F:Fl) (r:Option Int):(aB pR (.mk k 0 F r)).length=1+(jv F).length+(aP r).length:=by
 rw [bY,if_pos hk];simp;omega
theorem IQ (r:Option Int):(aP r).length<=1:=by cases r<;>simp [aP]
theorem lH.adB (h:lH U Lo m0 X S k x p y q) (r:Option Int):(aB pR (.mk k 0 (au x y) r)).length<=600003/\∀c∈au x y,(aB c.1 c.2).length<=600003:=by
 have h1:=(h.pair.len h.r.fit pR).1;rw [zw h.r.hk] at h1 ⊢;have h2:=IL x y fun t=>t;rw [UJ] at h2;have e:aI (fun t=>t) x=x:=by unfold aI;simp
 rw [e] at h2;have:=IQ r;refine ⟨by omega,fun c hc=>?_⟩;have h3:=qj (r:=true) (dU hc);have h4:jU true x=jv x:=by simp [jU]
 rw [h4] at h3;rw [um c.1 pR];omega
theorem lH.agu (h:lH U Lo m0 X S k x p y q) (r:Option Int):(aB pR (.mk k 0 (au y x) r)).length<=600003/\∀c∈au y x,(aB c.1 c.2).length<=600003:=by
 have h1:=(h.pair.len h.r.fit pR).2;rw [zw h.r.hk] at h1 ⊢;have h2:=IL y x fun t=>t;rw [UJ] at h2;have e:aI (fun t=>t) y=y:=by unfold aI;simp
 rw [e] at h2;have:=IQ r;refine ⟨by omega,fun c hc=>?_⟩;have h3:=qj (r:=true) (dU hc);have h4:jU true y=jv y:=by simp [jU]
 rw [h4] at h3;rw [um c.1 pR];omega
theorem lH.Gn (h:lH U Lo m0 X S k x p y q):dY (au x y)/\(∀l∈ay (au x y),dz pR l=true)/\(au x y).length<=30:=by
 have hw:=h.r.wf.1;rw [bU] at hw;have e7:=hw.1.row h.r.hk;exact ⟨oF e7.1,fun l hl=>uz (e7.2 l (dP.1 hl).1),zk (aaU _ _) h.len.1⟩
theorem lH.UK (h:lH U Lo m0 X S k x p y q):dY (au y x)/\(∀l∈ay (au y x),dz pR l=true)/\(au y x).length<=30:=by
 have hw:=h.r.wf.2;rw [bU] at hw;have e7:=hw.1.row h.r.hk;exact ⟨oF e7.1,fun l hl=>uz (e7.2 l (dP.1 hl).1),zk (aaU _ _) h.len.2⟩
theorem lH.two (h:lH U Lo m0 X S k x (some p0) y (some q0)) (o1:¬bL p0 (inst (S1 S x y).σ (aH (S1 S x y).m (t1 S k x y)).1)) (hf:fK m0 (S2 S k x y p0)) {ls:List Lb} {q1:Int} (rf:iK (S2 S k x y p0) q1 ls (t2 S k x y)):
  dL U Lo m0 X (S2 S k x y p0)/\JV (S2 S k x y p0).L (S2 S k x y p0).σ pR (t2 S k x y)/\vR (inst (S2 S k x y p0).σ (t2 S k x y))/\(aB pR (inst (S2 S k x y p0).σ (t2 S k x y))).length<=700000/\(S2 S k x y p0).m<=1000000:=by
 obtain ⟨k8,k0,_⟩:=bJ h.r.hk;obtain ⟨j1,⟨SK,hl1,rf1⟩,_,_,_,h1⟩:=h.r.ab9 (h.rep p0 rfl);obtain ⟨j2,_⟩:=h1 o1;obtain ⟨hpm,xH,_⟩:=h.r.ra.of.tl p0 rfl;obtain ⟨_,_,hm2⟩:=zX h.r.j.kg h.r.ra h.r.rb h.r.hk rfl o1
 have hp0:0<=p0:=by
  have hw:=h.r.wf.1;rw [bU] at hw;exact hw.1.tn p0 rfl
 have hle:S.Le (S2 S k x y p0):=(Kn.qw h.r.j.kg.inv _).trans (Kn.vZ j1.kg.inv (show (S1 S x y).κ p0=none from xH) rf1);have hm0:=h.r.j.kg.nn.m
 have ht:(S2 S k x y p0).σ.tail (some S.m)=([],some S.m):=by
  refine (j2.kg.inv.unk S.m ?_).2;show upd (S1 S x y).κ p0 _ S.m=none;unfold upd;rw [if_neg (by omega)];exact h.r.j.kg.inv.free (aa1 _)
 obtain ⟨σ,hσ⟩:∃σ,σ=(S2 S k x y p0).σ:=⟨_,rfl⟩
 have e2:inst σ (t2 S k x y)= .mk k 0 (aZ (aI (inst σ) (au x y))) (some S.m):=by
  unfold t2;rw [aK,if_neg k8,hσ,ht];simp
 have vg:dY (aI (inst σ) (au x y)):=lX h.Gn.1;rw [<-Qr vg (List.Perm.refl _)] at e2;have hw:=h.r.wf.1;rw [bU] at hw;have hrw:=h.r.rwa;rw [mG] at hrw
 have hwi:gD (inst σ (t2 S k x y)):=by
  rw [e2];refine afn h.r.hk vg (fun l hl=>?_) (by unfold aI;rw [List.length_map];exact h.Gn.2.2) (fun c hc=>?_) (fun z hz=>by injection hz with hz;omega) (fun _=>.inr (by simp))
  ·rw [fJ] at hl
   exact (hw.1.row h.r.hk).2 l (dP.1 hl).1
  ·obtain ⟨c',hc',rfl⟩:=aaN.1 hc
   rw [hσ];exact Kh j2.kg j2.rw ((h.r.ra.el c' (dU hc')).later hle) (hrw.2 c' (dU hc'))
 have hp:=(h.pair.later h.r.gb h.r.j j2 hle).len hf pR
 have hl2:(aB pR (inst σ (t2 S k x y))).length<=700000:=by
  have e3:=hp.1;rw [aK,if_neg k8,zw h.r.hk,Ej (eT _),Ju,<-hσ] at e3;rw [e2,zw h.r.hk];have:=IL x y (inst σ);have:=IQ (some S.m);simp only [A_] at e3;omega
 have hu:=YD xH hp0 hpm;have hmb:=h.mb;have hlen:=(h.adB (some S.m)).1;rw [<-hσ];refine ⟨j2,⟨rf.ok,Gm (h.wfA fun z hz=>by injection hz with hz;omega),h.wfA fun z hz=>by injection hz with hz;omega,.inl hwi,?_,?_⟩,.inl hwi,hl2,by have hm2:(S2 S k x y p0).m=S.m+1+(bG (au y x):Nat):=hm2;rw [hm2];omega⟩
 ·show (aB pR (.mk k 0 (au x y) (some S.m))).length<=_
  omega
 ·omega
end
theorem CS (first next:Int) (Q:Option Addr) (cq:Nat) (vs:List QV) (L:Sorts) (β:Va) (xJ:Int->Int) (enc enc':Int->Ut) (ns:List Int) (n:Int) (U:Ut) (A:Option Addr) (c:Nat) (w:World)
  (h:Il L β xJ enc enc' ns n U first) (ha:aM w w.heap.size A (aB pR U)) (hM:lD vs Q enc ns w) (hc:(aB pR U).length<=c):
  Calls Try.prog 95 #[bS first next Q vs.length cq,.int .i64 n,.slice A (aB pR U).length c] w (Im A first next Q vs.length cq enc' ns n U w):=by
 by_cases ho:bL n U
 ·exact QC first next Q cq vs L β xJ enc enc' ns n U A c w h ha ho
 ·exact UG first next Q cq vs L β xJ enc enc' ns n U A c w h ha hM hc ho
def jG (Y:Nat->Prop) (U Lo:List Lb) (m0:Int) (X:Int->Prop) (S:Kn) (C:Va->Prop) (n:Nat) (f g:Int) (Q:Option Addr) (l:Nat) (er:Int) (w':World):Prop:=
 (er=9/\eX m0 S C)\/(er=0/\∃(S':Kn) (ns':List Int) (vs':List QV),f=m0/\g=S'.m/\l=vs'.length/\fQ Y vs' Q (dA S') ns' w'/\Done U S S' C n/\dL U Lo m0 X S'/\fK m0 S'/\fG S' ns')
def sW (Y:Nat->Prop) (U Lo:List Lb) (m0:Int) (X:Int->Prop) (S:Kn) (C:Va->Prop) (n:Nat) (w:World) (e:Ending) (w':World):Prop:=
 ∃(f g:Int) (Q:Option Addr) (l c:Nat) (er:Int),e= .returned (.tuple #[bS f g Q l c,.int .i64 er])/\Hid (Below w.heap.size w w'/\jG Y U Lo m0 X S C n f g Q l er w')
theorem jG.step {Y:Nat->Prop} {U Lo:List Lb} {m0:Int} {X:Int->Prop} {S:Kn} {C:Va->Prop} {n:Nat} {f g:Int} {Q:Option Addr} {l:Nat} {er:Int} {w w':World} (h:jG Y U Lo m0 X S C n f g Q l er w) (hb:Below w.heap.size w w'):jG Y U Lo m0 X S C n f g Q l er w':=
 h.imp id fun ⟨a,S',ns',vs',b1,b2,b3,b4,b5⟩=>⟨a,S',ns',vs',b1,b2,b3,b4.step hb,b5⟩
def sN (Y:Nat->Prop) (S:Kn) (m0:Int) (ns:List Int) (p:Int) (t:Ut) (f g:Int) (Q:Option Addr) (l:Nat) (er:Int) (w':World):Prop:=
 (er=9/\(bL p (inst S.σ (aH S.m t).1)\/(¬bL p (inst S.σ (aH S.m t).1)/\¬fK m0 (S.aV p t))))\/
  (er=0/\∃vs':List QV,f=m0/\g=(S.aV p t).m/\l=vs'.length/\fQ Y vs' Q (dA (S.aV p t)) (ns++[p]) w'/\¬bL p (inst S.σ (aH S.m t).1)/\fK m0 (S.aV p t)/\fG (S.aV p t) (ns++[p]))
theorem Q7 {S:Kn} {ls:List Lb} {n:Int} (h:n<S.m):dA (S.aQ ls) n=dA S n:=by
 unfold dA jl;show (match (if n=S.m then some ls else S.L n) with|none=>_|some _=>_)=_;rw [if_neg (by omega)];rfl
theorem lD.congr {vs:List QV} {Q:Option Addr} {enc enc':Int->Ut} {ns:List Int} {w:World} (h:lD vs Q enc ns w) (he:∀j∈ns,enc j=enc' j):lD vs Q enc' ns w:=⟨h.r,by rw [<-TK he];exact h.t⟩
theorem lD.aQ {vs:List QV} {Q:Option Addr} {S:Kn} {ns:List Int} {w:World} (h:lD vs Q (dA S) ns w) (i:S.Inv) (nn:S.Nn) (num:fG S ns) (ls:List Lb):lD vs Q (dA (S.aQ ls)) ns w:=h.congr fun _ hj=>(Q7 ((num.len i nn).2 _ hj).2).symm
theorem fG.aQ {S:Kn} {ns:List Int} (h:fG S ns) (ls:List Lb):fG (S.aQ ls) ns:=⟨h.nd,h.iff⟩
section
variable {Y:Nat->Prop} {U Lo:List Lb} {m0:Int} {X:Int->Prop} {S:Kn} {ns:List Int} {t:Ut} {vs:List QV} {Q:Option Addr} {cq:Nat} {A:Option Addr} {c:Nat} {w:World}
theorem Pt {v:Int} (hY:∀k,Y k->k<w.heap.size) (hAY:∀a,A=some a->¬Y a.block) (hU:∀y∈U,y.size<=9223372036854775807) (h:wV U Lo m0 X S v t) (fix:inst S.σ t=t) (hw:gD t) (len:(aB pR t).length<=700000) (hm:S.m<=1000000) (num:fG S ns) (hM:lD vs Q (dA S) ns w)
  (ha:aM w w.heap.size A (aB pR (aH S.m t).1)) (hc:(aB pR (aH S.m t).1).length<=c):
  Calls Try.prog 95 #[bS m0 (aH S.m t).2 Q vs.length cq,.int .i64 v,.slice A (aB pR (aH S.m t).1).length c] w (sW Y U Lo m0 X S (bF (aS v) t) (aJ t) w):=by
 have fU:=h.ags fix;refine (CS m0 (aH S.m t).2 Q cq vs S.L _ _ (dA S) (dA (S.eF v t)) ns v (aH S.m t).1 A c w (h.bec hU fix hw len hm num) ha hM hc).mono ?_;intro e w' hp;have num':fG (S.eF v t) (ns++[v]):=num.snoc h.hv (t:=(aH S.m t).1) rfl;rcases hp with ⟨rfl,hb,ho⟩|⟨vs',Q',cq',rfl,hM',hb,ho,hf,hz,hq,ht⟩
 ·refine ⟨_,_,_,_,_,_,rfl,aC ⟨hb,.inl ⟨rfl,?_⟩⟩⟩
  by_cases o:bL v (aH S.m t).1
  ·exact h.occ (by rw [fU];exact o)
  ·rcases ho with ho|⟨j,hj,hj0,hnf⟩
   ·exact absurd ho o
   ·exact h.big (by rw [fU];exact o) fun hf=>hnf ((DL (h.ok (by rw [fU];exact o)).2 num').1 hf j hj hj0)
 ·obtain ⟨d,j'⟩:=h.ok (by rw [fU];exact ho)
  exact ⟨_,_,_,_,_,_,rfl,aC ⟨hb,.inr ⟨rfl,S.eF v t,ns++[v],vs',rfl,rfl,rfl,⟨hM',hz,fun _ a ha hy=>by have h1:=hq a ha;have h2:=hY _ hy;omega,fun v hv a ha hy=>by
   rcases ht v hv a ha with h1|⟨a',ha',e⟩
   ·have h2:=hY _ hy
    omega
   ·exact hAY a' ha' (by rw [e];exact hy)⟩,d,j',(DL j' num').2 hf,num'⟩⟩⟩
theorem DN {X':Int->Prop} (hY:∀k,Y k->k<w.heap.size) (hAY:∀a,A=some a->¬Y a.block) (hU:∀y∈U,y.size<=9223372036854775807) (j:dL U Lo m0 X S) (fit:fK m0 S) (num:fG S ns) (hm:S.m<=1000000) {p k:Int} {ls:List Lb} {F:Fl} {r:Option Int} (hv:S.κ p=none) (hl:S.L p=some ls) (rf:iK S p ls (.mk k 0 F r)) (ri:jT (.mk k 0 F r)) (hk:av k=true) (hw:vR (inst S.σ (.mk k 0 F r)))
  (len:(aB pR (inst S.σ (.mk k 0 F r))).length<=700000) (j':¬bL p (inst S.σ (aH S.m (.mk k 0 F r)).1)->dL U Lo m0 X' (S.aV p (.mk k 0 F r))) {T:Ut} (hT:T=(aH S.m (inst S.σ (.mk k 0 F r))).1) (hM:lD vs Q (dA S) ns w)
  (ha:aM w w.heap.size A (aB pR T)) (hc:(aB pR T).length<=c):
  Calls Try.prog 95 #[bS m0 (S.aV p (.mk k 0 F r)).m Q vs.length cq,.int .i64 p,.slice A (aB pR T).length c] w fun e w'=>
   ∃(f g:Int) (Q:Option Addr) (l c:Nat) (er:Int),e= .returned (.tuple #[bS f g Q l c,.int .i64 er])/\Hid (Below w.heap.size w w'/\sN Y S m0 ns p (.mk k 0 F r) f g Q l er w'):=by
 obtain ⟨hs,hb⟩:=aaL (X':=X') hU j fit num hm hv hl rf ri hk hw len j';rw [hs] at hT;have hT:T=inst S.σ (aH S.m (.mk k 0 F r)).1:=hT;subst hT;refine (CS m0 (S.aV p (.mk k 0 F r)).m Q cq vs S.L _ _ (dA S) _ ns p _ A c w hb ha hM hc).mono ?_;intro e w' hp;have num':fG (S.aV p (.mk k 0 F r)) (ns++[p]):=num.snoc hv (t:=(aH S.m (.mk k 0 F r)).1) rfl;rcases hp with ⟨rfl,hb,ho⟩|⟨vs',Q',cq',rfl,hM',hb,ho,hf,hz,hq,ht⟩
 ·refine ⟨_,_,_,_,_,_,rfl,aC ⟨hb,.inl ⟨rfl,?_⟩⟩⟩
  by_cases o:bL p (inst S.σ (aH S.m (.mk k 0 F r)).1)
  ·exact .inl o
  ·rcases ho with ho|⟨n,hn,hn0,hnf⟩
   ·exact absurd ho o
   ·exact .inr ⟨o,fun hf=>hnf ((DL (j' o) num').1 hf n hn hn0)⟩
 ·exact ⟨_,_,_,_,_,_,rfl,aC ⟨hb,.inr ⟨rfl,vs',rfl,rfl,rfl,⟨hM',hz,fun _ a ha hy=>by have h1:=hq a ha;have h2:=hY _ hy;omega,fun v hv a ha hy=>by
   rcases ht v hv a ha with h1|⟨a',ha',e⟩
   ·have h2:=hY _ hy
    omega
   ·exact hAY a' ha' (by rw [e];exact hy)⟩,ho,(DL (j' ho) num').2 hf,num'⟩⟩⟩
end
open Go Go.RowKit
section
variable {P:Program} {ops:Array Oper} {Q:Exit->Act->World->Prop} {md:Region.Mode} {S:World->Prop} {Z:List Nat}
theorem vH (i j:Nat) {fuel:Nat} {listed:Array Bool} {a:Act} {w:World} {oi oj:Oper} (hr:Region.ready md ops listed=[i,j]) (hi:ops[i]?=some oi) (hj:ops[j]?=some oj) (hwi:Region.wanted oi (yielded ops a.tmps)=true) (hwj:Region.wanted oj (yielded ops a.tmps)=true)
  (h1:oi.wp P a w (fun a' w'=>((∀z∈Z,(listed.setIfInBounds i true).getD z true=false)->S w')/\wpAnyL P md ops Q S Z fuel (listed.setIfInBounds i true) a' w') Q)
  (h2:oj.wp P a w (fun a' w'=>((∀z∈Z,(listed.setIfInBounds j true).getD z true=false)->S w')/\wpAnyL P md ops Q S Z fuel (listed.setIfInBounds j true) a' w') Q):wpAnyL P md ops Q S Z (fuel+1) listed a w:=by
 refine JA hr (by simp) fun m hm=>?_;simp only [Gz,List.not_mem_nil,or_false] at hm;rcases hm with rfl|rfl
 ·unfold wpOp
  rw [hi];simp only [hwi,if_true];exact .inl h1
 ·unfold wpOp
  rw [hj];simp only [hwj,if_true];exact .inl h2
theorem dO (d:Option Tmp) {a:Act} {w:World} {oi:Oper} {K:Act->World->Prop} {f:FuncId} {args:Array Value} {post:Ending->World->Prop} (hd:oi.dst=d) (hop:(execOp a.eval oi).run P w= .ok (.enter f args) w) (hc:Calls P f args w post)
  (h:∀e w',post e w'->∃u,e= .returned u/\K (a.put d u) w'):oi.wp P a w K Q:=by
 subst hd;unfold afc;rw [hop];simp only [Oper.upon];refine hc.mono fun e w' he=>?_;obtain ⟨u,rfl,h1⟩:=h e w' he;exact h1
theorem adC (d:Option Tmp) {a:Act} {w w':World} {oi:Oper} {K:Act->World->Prop} {v:Value} (hd:oi.dst=d) (hop:(execOp a.eval oi).run P w= .ok (.value v) w') (h:K (a.put d v) w'):oi.wp P a w K Q:=by
 subst hd;unfold afc;rw [hop];exact h
theorem YE (d:Option Tmp) {a:Act} {w w':World} {oi:Oper} {K:Act->World->Prop} (hd:oi.dst=d) (hop:(execOp a.eval oi).run P w= .ok .skip w') (h:K (a.put d undef) w'):oi.wp P a w K Q:=by
 subst hd;unfold afc;rw [hop];exact h
theorem pq (d:Option Tmp) (b:Nat) {fuel:Nat} {listed:Array Bool} {a a2:Act} {w wa:World} {oi:Oper} {R:Prop} (hd:oi.dst=d) (hb:Below wa.heap.size wa w) (_hS:Hid (∀v,Below wa.heap.size wa v->S v))
  (h:∀w',Hid (Below wa.heap.size wa w')->bD w' b 0 0 none 0 0->Hid (Below w.heap.size w w')->wpAnyL P md ops Q S Z fuel listed a2 w')
  (he:w.heap.size=b:=by rfl)
  (hop:(execOp a.eval oi).run P w= .ok (.value (.pointer (some ⟨b,0,none⟩))) (w.alloc (.cells #[.int .i64 0,.int .i64 0,.slice none 0 0] 29)):=by go_simp)
  (ha:a.put d (.pointer (some ⟨b,0,none⟩))=a2:=by ((try simp only [Act.put,List.setIfInBounds_toArray,List.set_cons_zero,List.set_cons_succ]);exact rfl)):oi.wp P a w (fun a' w'=>(R->S w')/\wpAnyL P md ops Q S Z fuel listed a' w') Q:=by
 subst hd ha he;unfold afc;rw [hop];exact ⟨fun _=>_hS.out _ (ak hb _),h _ (aC (ak hb _)) (bD.new w 0 0 none 0 0) (aC (ak (aT _ _) _))⟩
theorem pz (d:Option Tmp) (f g:Int) (q:Option Addr) (l c:Nat) {fuel:Nat} {listed:Array Bool} {a a2:Act} {w wa:World} {b:Nat} {oi:Oper} {R:Prop} (hs:bD w b 0 0 none 0 0) (hd:oi.dst=d) (hb:Below wa.heap.size wa w) (hle:wa.heap.size<=b) (hS:Hid (∀v,Below wa.heap.size wa v->S v))
  (h:∀w',bD w' b f g q l c->Hid (Below wa.heap.size wa w')->Hid (Fr (fun k=>k=b) w w')->Hid (bD w b 0 0 none 0 0)->wpAnyL P md ops Q S Z fuel listed a2 w')
  (hop:(w.cell? ⟨b,0,none⟩=some (.int .i64 0)/\w.cell? ⟨b,1,none⟩=some (.int .i64 0)/\w.cell? ⟨b,2,none⟩=some (.slice none 0 0))->(w.frozen? ⟨b,0,none⟩=false/\w.frozen? ⟨b,1,none⟩=false/\w.frozen? ⟨b,2,none⟩=false)->(execOp a.eval oi).run P w= .ok .skip (dB w b f g q l c):=by (intro k1 k2;go_simp))
  (ha:a.put d undef=a2:=by ((try simp only [Act.put,List.setIfInBounds_toArray,List.set_cons_zero,List.set_cons_succ]);exact rfl)):oi.wp P a w (fun a' w'=>(R->S w')/\wpAnyL P md ops Q S Z fuel listed a' w') Q:=by
 subst hd ha;unfold afc;rw [hop hs.at_ hs.fz];have h1:Below wa.heap.size wa (dB w b f g q l c):=aY hb hle _ _ _;exact ⟨fun _=>hS.out _ h1,h _ (hs.dB _ _ _ _ _) (aC h1) (aC (gY (X:=fun k=>k=b) (Fr.refl _ _) (.inl rfl) _ _ _)) (aC hs)⟩
end
theorem nL {w:World} {A:Option Addr} {p0:Int} (h:aM w w.heap.size A (aP (some p0))):∃b o,A=some ⟨b,o,none⟩/\b<w.heap.size/\w.cell? ⟨b,o+2,none⟩=some (.int .i64 p0):=by
 obtain ⟨b,o,e,hb,_,_,h2⟩:=h.at_ (i:=0) (x:=⟨9,pR,p0⟩) rfl;exact ⟨b,o,e,hb,by simpa using h2⟩
theorem qW {x y:Fl} {n:Nat} (h:n=(au x y).length) (h0:¬0<n):au x y=[]:=List.eq_nil_of_length_eq_zero (by omega)
section
variable {Y:Nat->Prop} {U Lo:List Lb} {m0:Int} {X:Int->Prop} {S:Kn} {ns:List Int}
theorem sN.past {Z:Nat->Prop} {p:Int} {t:Ut} {f g:Int} {Q:Option Addr} {l:Nat} {er:Int} {w w':World} (h:sN Y S m0 ns p t f g Q l er w) (hf:Fr Z w w') (hY:∀k,Z k->eO w k):sN Y S m0 ns p t f g Q l er w':=
 h.imp id fun ⟨a,vs',b1,b2,b3,b4,b5⟩=>⟨a,vs',b1,b2,b3,b4.past hf hY,b5⟩
theorem jG.past {Z:Nat->Prop} {C:Va->Prop} {n:Nat} {f g:Int} {Q:Option Addr} {l:Nat} {er:Int} {w w':World} (h:jG Y U Lo m0 X S C n f g Q l er w) (hf:Fr Z w w') (hY:∀k,Z k->eO w k):jG Y U Lo m0 X S C n f g Q l er w':=
 h.imp id fun ⟨a,S',ns',vs',b1,b2,b3,b4,b5⟩=>⟨a,S',ns',vs',b1,b2,b3,b4.past hf hY,b5⟩
theorem row_step {k:Int} {F:Fl} {tl:Option Int} {V:Option Addr} {cv:Nat} {us:List (Option Addr×Nat×Nat)} (hk:av k=true) (hF:dY F) (hp:∀l∈ay F,dz pR l=true) (h30:F.length<=30) (hl:∀c∈F,(aB c.1 c.2).length<=600003)
  (v:World) (A:Option Addr) (c:Nat) (hV:sQ v V us F) (hA:aM v v.heap.size A (aP tl)):
  Calls Try.prog 100 #[.agg #[.int .i64 k,.string ⟨#[]⟩,.int .i64 0],.slice V us.length cv,.slice A (aP tl).length c] v (jP v (aB pR (.mk k 0 F tl))):=by
 have:=Ma ⟨k,pR,0⟩ F tl V A cv c us v hV hA hF.nodup hp (by omega) fun p hp=>by have:=hl p hp;omega
 rw [adA hk hF] at this;exact this
theorem qX {t:Ut} (hw:vR t) (hl:(aB pR t).length<=1000000) {m:Int} (h0:0<=m) (h1:m<=1000000) (f:Int) (Q:Option Addr) (nq cq:Nat) (v:World) (A:Option Addr) (c:Nat) (hA:aM v v.heap.size A (aB pR t)):
  Calls Try.prog 94 #[bS f m Q nq cq,.slice A (aB pR t).length c] v fun e w'=>∃A' c',e= .returned (.tuple #[bS f (aH m t).2 Q nq cq,.slice A' (aB pR (aH m t).1).length c'])/\fA w' v.heap.size A' c' (aB pR (aH m t).1)/\Below v.heap.size v w':=by
 have:=Qz f m Q nq cq A c (aB pR t) v hA hl h0 h1;obtain ⟨e1,e2⟩:=Ab hw m pR;rw [e1,e2] at this;exact this
theorem aM.Pv (w:World) (B:Nat) (A:Option Addr):aM w B A []:=fun h=>absurd rfl h
variable {k:Int} {x y:Fl} {p q:Option Int} {p0 q0:Int}
theorem UL {n:Nat} (hn:bG (au y x)<=n) (ho:bL p0 (inst S.σ (aH S.m (.mk k 0 (au y x) none)).1)->eX m0 S (bF (.mk k 0 x (some p0)) (.mk k 0 y none)))
  (hok:¬bL p0 (inst S.σ (aH S.m (.mk k 0 (au y x) none)).1)->Done U S (S.aV p0 (.mk k 0 (au y x) none)) (bF (.mk k 0 x (some p0)) (.mk k 0 y none)) (bG (au y x))/\dL U Lo m0 X (S.aV p0 (.mk k 0 (au y x) none))/\
   (¬fK m0 (S.aV p0 (.mk k 0 (au y x) none))->eX m0 S (bF (.mk k 0 x (some p0)) (.mk k 0 y none)))) {f g:Int} {Q:Option Addr} {l:Nat} {er:Int} {w:World} (h:sN Y S m0 ns p0 (.mk k 0 (au y x) none) f g Q l er w):
  jG Y U Lo m0 X S (bF (.mk k 0 x (some p0)) (.mk k 0 y none)) n f g Q l er w:=by
 rcases h with ⟨e,h⟩|⟨e,vs',a,b,c,d,o,ft,nm⟩
 ·refine .inl ⟨e,?_⟩
  rcases h with o|⟨o,nf⟩
  ·exact ho o
  ·exact (hok o).2.2 nf
 ·exact .inr ⟨e,_,_,vs',a,b,c,d,(hok o).1.more hn,(hok o).2.1,ft,nm⟩
theorem jG.symm {a b:Ut} {n:Nat} {f g:Int} {Q:Option Addr} {l:Nat} {er:Int} {w:World} (h:jG Y U Lo m0 X S (bF a b) n f g Q l er w):jG Y U Lo m0 X S (bF b a) n f g Q l er w:=
 h.imp (fun ⟨e,h⟩=>⟨e,Js h⟩) fun ⟨e,S',ns',vs',h1,h2,h3,h4,h5,h6⟩=>⟨e,S',ns',vs',h1,h2,h3,h4,h5.symm,h6⟩
end
structure Q_ (U Lo:List Lb) (m0:Int) (X:Int->Prop) (S:Kn) (a b:Ut):Prop where
 r:oW U Lo m0 X S a b
 wa:gD a
 wb:gD b
 la:(aB pR a).length<=700000
 lb:(aB pR b).length<=700000
def YF (Y:Nat->Prop) (U Lo:List Lb) (m0:Int) (X:Int->Prop) (S:Kn) (a b:Ut):Prop:=
 ∀(ns:List Int) (vs:List QV) (Q:Option Addr) (cq:Nat) (A B:Option Addr) (ca cb:Nat) (w:World),(∀k,Y k->k<w.heap.size)->fG S ns->fQ Y vs Q (dA S) ns w->aM w w.heap.size A (aB pR a)->(aB pR a).length<=ca->aM w w.heap.size B (aB pR b)->(aB pR b).length<=cb->
  Calls Try.prog 54 #[bS m0 S.m Q vs.length cq,.slice A (aB pR a).length ca,.slice B (aB pR b).length cb] w (sW Y U Lo m0 X S (bF a b) (aJ a+aJ b) w)
structure JK (S:Kn) (a t:Ut):Prop where
 ok:dQ S.L t
 wf:gD t
 len:(aB pR t).length<=700000
 ka:inst S.σ t=inst S.σ a
theorem JK.knT {S:Kn} {a t:Ut} (h:JK S a t) (hw:gD (inst S.σ a)) (hl:(aB pR (inst S.σ a)).length<=600002):JV S.L S.σ pR t:=by
 have:=h.len;exact ⟨h.ok,MB t h.wf,.inl h.wf,.inl (by rw [h.ka];exact hw),by omega,by rw [h.ka];omega⟩
theorem NJ {w:World} {ops:Array Oper} {rest:List Oper} {o:Oper} {a:Act} {K:Exit->Act->World->Prop} (hgd:o.guard=none) (s x:Operand)
  (ho:o.op= .call {callee:=.builtin .append,args:=#[s,x],argTypes:=#[95,95]})
  (base:Nat) {A:Option Addr} {cap:Nat} {l:List ByteArray} (hs:a.eval s= .slice A l.length cap) (hown:aA 9 1 nT w base A cap l) {B:Nat} {A2:Option Addr} {c:Nat} {l2:List ByteArray} (hx:a.eval x= .slice A2 l2.length c) (hr:aX 1 nT w B A2 l2)
  (hlen:l.length+l2.length<=1000000000000) (hbase:base<=w.heap.size)
  (h:∀A' cap' w',aA 9 1 nT w' base A' cap' (l++l2)->w.grownBy w' ((aO A l.length cap).ownBlock)->
   ((aO A' (l.length+l2.length) cap').ownBlock=(aO A l.length cap).ownBlock\/(aO A' (l.length+l2.length) cap').ownBlock=some w.heap.size)->wpList Try.prog ops K rest (a.put o.dst (.slice A' (l.length+l2.length) cap')) w'):wpList Try.prog ops K (o::rest) a w:=by
 obtain ⟨i0,hi,hz0,hz1,hz2⟩:=info_parts TN;exact nX w y9 OW hgd s x 95 ho base 9 i0 _ 16 Try.underlying95 hi hz0 hz1 hz2 rfl (by decide) hs hown hx hr (by unfold maxLen;omega) (by omega) hbase h
theorem YG {vs:List QV} {Q:Option Addr} {enc:Int->Ut} {ns:List Int} {w:World} (h:lD vs Q enc ns w) (v:QV) (hv:v∈vs) (a:Addr) (ha:v.2.1=some a):a.block<w.heap.size:=by
 obtain ⟨i,hi,hiv⟩:=afd.1 hv;obtain ⟨j,hj⟩:=aD (show i<ns.length by rw [<-h.len];exact hi);obtain ⟨_,_,_,ht⟩:=h.t.2 i v (j,aB pR (enc j)) (by rw [jr hi,hiv]) (LH hj);obtain ⟨b,o,e,hb,_⟩:=ht (zZ _ _);rw [ha] at e
 cases e;exact hb
theorem fQ.YH {X Y:Nat->Prop} {vs:List QV} {Q:Option Addr} {enc:Int->Ut} {ns:List Int} {w w':World} (h:fQ Y vs Q enc ns w) (hf:Fr X w w') (hX:∀k,X k->Y k):fQ Y vs Q enc ns w':=by
 refine ⟨⟨fun hne=>?_,h.m.t.1,fun i v t hv ht=>?_⟩,h.z,h.oq,h.ot⟩
 ·obtain ⟨g,o,e,hb,hr⟩:=h.m.r hne
  refine ⟨g,o,e,Nat.lt_of_lt_of_le hb hf.size,fun i x hx j u hu=>?_⟩;exact (adN (a:=⟨g,o+i*2+j,none⟩) (hf.block g hb fun hk=>h.oq hne _ e (hX _ hk))).trans (hr i x hx j u hu)
 ·obtain ⟨a,b,c,d⟩:=h.m.t.2 i v t hv ht
  exact ⟨a,b,c,(aM.frame d hf (bN _) fun _ x hx hy=>h.ot v (Yt hv) x hx (hX _ hy)).more hf.size⟩
theorem fQ.wider {Y Y':Nat->Prop} {vs:List QV} {Q:Option Addr} {enc:Int->Ut} {ns:List Int} {w:World} (h:fQ Y vs Q enc ns w) (hY:∀k,Y' k->Y k\/w.heap.size<=k):fQ Y' vs Q enc ns w:=by
 refine ⟨h.m,h.z,fun hne a ha hy=>?_,fun v hv a ha hy=>?_⟩
 ·rcases hY _ hy with hy|hy
  ·exact h.oq hne a ha hy
  ·obtain ⟨b,o,e,hlt,_⟩:=h.m.r hne
   rw [ha] at e
   cases e;simp only at hy;omega
 ·rcases hY _ hy with hy|hy
  ·exact h.ot v hv a ha hy
  ·have:=YG h.m v hv a ha
   omega
theorem MC (p:Lb×Ut) (hl:(aB p.1 p.2).length<=1000000) (A:Option Addr) (c:Nat) (v:World) (hA:aM v v.heap.size A (aB p.1 p.2)):Calls Try.prog 138 #[.slice A (aB p.1 p.2).length c] v (jP v (aB pR p.2)):=by
 obtain ⟨ks,n,e⟩:=Cu p.1 p.2;have h:=Sj A c ⟨p.2.k,p.1,n⟩ ks v (by rw [<-e];exact hA) (by rw [<-e];exact hl);rw [<-e,acf] at h;exact h
theorem jG.conv {Y:Nat->Prop} {U Lo:List Lb} {m0:Int} {X:Int->Prop} {S S0:Kn} {C C0:Va->Prop} {n n0:Nat} {f g:Int} {Q:Option Addr} {l:Nat} {er:Int} {w:World} (h:jG Y U Lo m0 X S C n f g Q l er w) (h1:eX m0 S C->eX m0 S0 C0) (h2:∀S',Done U S S' C n->Done U S0 S' C0 n0):jG Y U Lo m0 X S0 C0 n0 f g Q l er w:=
 h.imp (fun ⟨a,b⟩=>⟨a,h1 b⟩) fun ⟨a,S',ns',vs',b1,b2,b3,b4,b5,b6⟩=>⟨a,S',ns',vs',b1,b2,b3,b4,h2 S' b5,b6⟩
structure RwM (Y:Nat->Prop) (U Lo:List Lb) (m0:Int) (X:Int->Prop) (S0:Kn) (a0 b0:Ut) (w0:World) (base:Nat) (S:Kn) (E:List Lb) (ns:List Int) (vs:List QV) (Q:Option Addr) (cq:Nat) (A:Option Addr) (ta:Ut) (ca:Nat) (B:Option Addr) (tb:Ut) (cb:Nat) (DA:Option Addr) (dc:Nat) (w:World):Prop where
 i:Cm U Lo m0 X S0 S a0 b0 E.reverse
 num:fG S ns
 tab:fQ (fun k=>Y k\/(base<=k/\∃a,DA=some a/\a.block=k)) vs Q (dA S) ns w
 s:bD w w0.heap.size m0 S.m Q vs.length cq
 r:bD w (w0.heap.size+1) 0 0 none 0 0
 a:JK S a0 ta
 am:aM w w.heap.size A (aB pR ta)
 ac:(aB pR ta).length<=ca
 b:JK S b0 tb
 bm:aM w w.heap.size B (aB pR tb)
 bc:(aB pR tb).length<=cb
 e:aA 9 1 nT w base DA dc E
 aU:Below w0.heap.size w0 w
theorem Xn {l:Lb} {E:List Lb} {j:Nat} {e:Lb} (h:E[j]?=some e):jD l (E.take (j+1))=(jD l (E.take j)||decide (e=l)):=by
 unfold jD;rw [GZ,h];simp
theorem CU {F:Fl} {i:Nat} {p:Lb×Ut} (h:F[i]?=some p):jo F i=p.1:=by show (y7 F i).1=_;rw [uT h]
theorem aX.txt {w:World} {B:Nat} {A:Option Addr} {l:List ByteArray} (h:aX 1 nT w B A l) {i:Nat} {x:ByteArray} (hn:l[i]?=some x):∃b o,A=some ⟨b,o,none⟩/\b<B/\w.cell? ⟨b,o+i,none⟩=some (.string x):=by
 obtain ⟨b,o,e,hb,hr⟩:=h (by rintro rfl;simp at hn);have:=hr i x hn 0 (.string x) rfl;exact ⟨b,o,e,hb,by simpa using this⟩
theorem Au {x y:Fl} {D:List Lb} {n m:Nat} {r:Option (Nat×Nat)} (h:¬(jo x n=jo y m/\jo x n∉D)):mg x y D n r (m+1)=mg x y D n r m:=by
 cases e:mg x y D n r m with
 |none=>exact Pq e h
 |some z=>exact Ar e
end Go.Proofs.Ytblfeokjlecgkaa
