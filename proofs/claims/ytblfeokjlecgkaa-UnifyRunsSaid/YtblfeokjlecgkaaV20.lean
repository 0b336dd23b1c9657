/- Laid together by a tool from the texts of this seat: Rq13 Rr13 RefS UMay Rs13 UDo UMays UBes OpenA OpenTys OpenSt. Conditions: each theorem's own. -/
import Derived.Test.YtblfeokjlecgkaaV16
import Derived.Test.YtblfeokjlecgkaaV09
import Derived.Test.YtblfeokjlecgkaaV08
import Derived.Test.YtblfeokjlecgkaaV19
import Derived.Test.YtblfeokjlecgkaaV15
import Derived.Test.YtblfeokjlecgkaaV01
import Derived.Test.YtblfeokjlecgkaaRows
import Derived.ProofKit
import Derived.LaidMore
import Derived.OpenShut
import Derived.Stop.Joined
import Derived.Stop.LaidErr
import Derived.Deep.Slices
import Derived.Deep.Fields
import Derived.Test.YtblfeokjlecgkaaV02
import Derived.SliceStrings
set_option maxHeartbeats 8000000
set_option maxRecDepth 100000
namespace Go.Proofs.Ytblfeokjlecgkaa
open Go.Lib renaming hid->aC
open _root_.ByteArray renaming empty->pR
open Go.RowKit.Below renaming refl->aT,heap_alloc->adM
open _root_.And renaming intro->Gw
open _root_.List renaming range->adD,mem_map->aaN,mem_range->acN,getElem?_map->adg,getElem?_range->afq,mem_cons->Gz,not_mem_nil->abo
open Go.World renaming cell?->adw,size_alloc->ae9,cells?_some->afk,cell?_spot->afs,block_lt_of_cell?->ae5
open _root_.Nat renaming le_refl->bN,le_trans->zk,add_assoc->afi,eq_zero_or_pos->afr
open _root_.Array renaming getElem?_eq_some_iff->ade
open Go.Value renaming cells->afj,okWide->aft
open _root_.Classical renaming choose->afo,choose_spec->afp
open Go.RowKit
attribute [local go_sem ↓] Go.wp_at_zero Go.wp_at_succ
theorem U5 (first next:Int) (Q:Option Addr) (nq cq:Nat) (k:Int) (l:ByteArray) (m:Int) (A:Option Addr) (ca:Nat) (w:World) (ha:aM w w.heap.size A [⟨8,pR,m⟩]) (h0:0<=next) (h1:next<=1000000):
  Calls Try.prog 93 #[bS first next Q nq cq,.int .i64 k,.string l,.slice A 1 ca] w fun e w'=>∃A' c',e= .returned (.tuple #[bS first (next+1) Q nq cq,.slice A' 3 c'])/\aM w' w'.heap.size A' [⟨k,pR,2⟩,⟨8,l,m⟩,⟨9,pR,next⟩]/\3<=c'/\Below w.heap.size w w':=by
 obtain ⟨s1,s2,hwb,hwz⟩:=Ag w first next Q nq cq;obtain ⟨wa,gF⟩:∃wa,wa=(w.alloc (.cells #[.int .i64 first,.int .i64 next,.slice Q nq cq] 29)).alloc (.cells #[.int .i64 0,.int .i64 0,.slice none 0 0] 29):=⟨_,rfl⟩;rw [<-gF] at s1 s2 hwb hwz;have HB:=aC hwb;have HS:Hid (∀v,Below wa.heap.size wa v->bD v w.heap.size first next Q nq cq/\bD v (w.heap.size+1) 0 0 none 0 0):=aC fun v hv=>⟨s1.later hv,s2.later hv⟩;have HA:=aC (fun (v:World) (hv:Below wa.heap.size wa v)=>(ha.below (ah hwb hv)).more (ah hwb hv).size);have hown0:=aC (dV 48 3 iQ wa);have hb0:=aC (ak (aT wa.heap.size wa) (.cells #[] 48));clear s1 s2 hwb hwz ha;go_enter Try.func93,Try.ntmps93;go_upto_region 1 with fail
 rw [<-gF];clear gF;go_upto_region 3 with (at_builtin;refine eH rfl (.tmp 12) (.tmp 13) rfl wa.heap.size (l:=[]) rfl hown0.out (l2:=[⟨8,pR,m⟩]) rfl (HA.out _ hb0.out) (by simp) (by simp) ?_;intro A1 c1 w1 hown1 hg1 _;rw [List.nil_append] at hown1;have B1:=aC (eG hb0.out hg1 (fun k hk=>(aA.block hown0.out k hk).1));obtain ⟨g,rfl,hbg,hg,e1,e2,qm,Jf⟩:=aA.Sg hown1 (j:=0) (x:=⟨8,pR,m⟩) rfl l;have K4:=aC (Gw qm (Gw Jf hbg));clear hown1 hg1 qm Jf;simp only [Nat.zero_mul,Nat.zero_add] at e1 e2)
 obtain ⟨w2,hw2⟩:∃w2,w2=w1.setCell ⟨g,1,none⟩ (.string l):=⟨_,rfl⟩;rw [<-hw2]
 have O2:Hid (fA w2 wa.heap.size (some ⟨g,0,none⟩) c1 [⟨8,l,m⟩]/\Below wa.heap.size wa w2):=aC (by
  rw [hw2];exact ⟨K4.out.1,B1.out.grown K4.out.2.1 B1.out.size (fun q hq=>by cases hq;exact K4.out.2.2)⟩)
 clear hw2 hbg hg e1 e2;go_upto_region 4 with fail
 obtain ⟨w3,hw3⟩:∃w3,w3=w2.alloc (.cells #[.int .i64 k,.string ⟨#[]⟩,.int .i64 2] 48):=⟨_,rfl⟩;rw [<-hw3]
 have O3:Hid (fA w3 w2.heap.size (some ⟨w2.heap.size,0,none⟩) 1 [⟨k,pR,2⟩]/\Below wa.heap.size wa w3/\aM w3 w3.heap.size (some ⟨g,0,none⟩) [⟨8,l,m⟩]/\1<=c1):=aC (by
  have hb:Below w2.heap.size w2 w3:=by rw [hw3];exact ak (aT _ _) _
  exact ⟨by rw [hw3];exact rF w2 ⟨k,pR,2⟩,ah O2.out.2 hb,(O2.out.1.g_.below hb).more hb.size,aA.cZ O2.out.1⟩)
 have agL:w2.heap.size<=w3.heap.size:=by rw [hw3];simp
 have hz2:wa.heap.size<=w2.heap.size:=O2.out.2.size;clear hw3;go_upto_region 5 with (at_builtin;refine eH rfl (.tmp 22) (.tmp 23) rfl w2.heap.size (l:=[⟨k,pR,2⟩]) rfl O3.out.1 (l2:=[⟨8,l,m⟩]) rfl O3.out.2.2.1 (by simp) agL ?_;intro A5 c5 w5 hown5 hg5 _;have K5:=aC (Gw hown5 (Gw (eG O3.out.2.1 hg5 (fun k hk=>zk hz2 (aA.block O3.out.1 k hk).1)) hg5.size));clear hown5 hg5)
 obtain ⟨a0,a1,a2⟩:=(HS.out w5 K5.out.2.1).1.at_;have hz5:w2.heap.size<=w5.heap.size:=zk agL K5.out.2.2;go_upto_region 6 with (at_builtin;refine eH rfl (.tmp 25) (.tmp 29) rfl w2.heap.size (l:=[⟨k,pR,2⟩,⟨8,l,m⟩]) rfl (aA.alloc K5.out.1 _) (l2:=[⟨9,pR,next⟩]) rfl (gV w5 [⟨9,pR,next⟩] #[.int .i64 9,.string ⟨#[]⟩,.int .i64 next] rfl) (by simp) (by simp;omega) ?_;intro A6 c6 w6 hown6 hg6 _;have K6:=aC (Gw hown6 (eG (ak K5.out.2.1 _) hg6 (fun k hk=>zk hz2 (aA.block K5.out.1 k hk).1)));clear hown6 hg6)
 obtain ⟨a0,a1,a2⟩:=(HS.out w6 K6.out.2).1.at_;obtain ⟨_,a4,_⟩:=(HS.out w6 K6.out.2).1.fz;obtain ⟨r0,r1,r2⟩:=(HS.out w6 K6.out.2).2.at_;obtain ⟨r3,r4,r5⟩:=(HS.out w6 K6.out.2).2.fz;go_wp2_with fail;have hlt:=(HS.out wa (aT _ _)).2.lt
 have hfr:Fr (fun q=>q=w.heap.size\/q=w.heap.size+1) w6 (dB (w6.setCell ⟨w.heap.size,1,none⟩ (.int .i64 (next+1))) (w.heap.size+1) first (next+1) Q nq cq):=
  gY (X:=fun q=>q=w.heap.size\/q=w.heap.size+1) ((Fr.refl _ w6).setCell (p:=⟨w.heap.size,1,none⟩) (.inl (.inl rfl)) _) (.inl (.inr rfl)) _ _ _
 have hown:=aA.fr K6.out.1 hfr fun q hq=>by omega
 have hbel:Below w.heap.size w (dB (w6.setCell ⟨w.heap.size,1,none⟩ (.int .i64 (next+1))) (w.heap.size+1) first (next+1) Q nq cq):=
  aY (kD (ah HB.out K6.out.2) (p:=⟨w.heap.size,1,none⟩) (bN _) _) (Nat.le_succ _) _ _ _
 exact bodyPost_ret (v:=.tuple #[bS first (next+1) Q nq cq,.slice A6 3 c6]) (by simp [results,Try.results93,go_sem,r0,r1,r2]) rfl ⟨A6,c6,rfl,hown.g_,aA.cZ hown,hbel⟩
def J6 (w:World) (b:Nat) (A B:Option Addr) (xa ca xb cb:Nat) (l:ByteArray) (k n m:Int):Prop:=w.heap[b]?=some (.cells #[.slice A xa ca,.slice B xb cb,.string l,.int .i64 k,.int .i64 n,.int .i64 m] 36 (0,0))
theorem J6.at_ {w:World} {b:Nat} {A B:Option Addr} {xa ca xb cb:Nat} {l:ByteArray} {k n m:Int} (h:J6 w b A B xa ca xb cb l k n m):w.cell? ⟨b,0,none⟩=some (.slice A xa ca)/\w.cell? ⟨b,1,none⟩=some (.slice B xb cb)/\w.cell? ⟨b,2,none⟩=some (.string l)/\w.cell? ⟨b,3,none⟩=some (.int .i64 k)/\w.cell? ⟨b,4,none⟩=some (.int .i64 n)/\w.cell? ⟨b,5,none⟩=some (.int .i64 m):=by
 unfold J6 at h;exact ⟨by simp [adw,h],by simp [adw,h],by simp [adw,h],by simp [adw,h],by simp [adw,h],by simp [adw,h]⟩
theorem Rt (w:World) (f g:Int) (Q:Option Addr) (nq cq:Nat) (A B:Option Addr) (xa ca xb cb:Nat) (l:ByteArray) (k n m:Int):bD (((w.alloc (.cells #[.int .i64 f,.int .i64 g,.slice Q nq cq] 29)).alloc (.cells #[.slice A xa ca,.slice B xb cb,.string l,.int .i64 k,.int .i64 n,.int .i64 m] 36)).alloc (.cells #[.int .i64 0,.int .i64 0,.slice none 0 0] 29)) w.heap.size f g Q nq cq/\J6 (((w.alloc (.cells #[.int .i64 f,.int .i64 g,.slice Q nq cq] 29)).alloc (.cells #[.slice A xa ca,.slice B xb cb,.string l,.int .i64 k,.int .i64 n,.int .i64 m] 36)).alloc (.cells #[.int .i64 0,.int .i64 0,.slice none 0 0] 29)) (w.heap.size+1) A B xa ca xb cb l k n m/\bD (((w.alloc (.cells #[.int .i64 f,.int .i64 g,.slice Q nq cq] 29)).alloc (.cells #[.slice A xa ca,.slice B xb cb,.string l,.int .i64 k,.int .i64 n,.int .i64 m] 36)).alloc (.cells #[.int .i64 0,.int .i64 0,.slice none 0 0] 29)) (w.heap.size+2) 0 0 none 0 0/\
  Below w.heap.size w (((w.alloc (.cells #[.int .i64 f,.int .i64 g,.slice Q nq cq] 29)).alloc (.cells #[.slice A xa ca,.slice B xb cb,.string l,.int .i64 k,.int .i64 n,.int .i64 m] 36)).alloc (.cells #[.int .i64 0,.int .i64 0,.slice none 0 0] 29))/\(((w.alloc (.cells #[.int .i64 f,.int .i64 g,.slice Q nq cq] 29)).alloc (.cells #[.slice A xa ca,.slice B xb cb,.string l,.int .i64 k,.int .i64 n,.int .i64 m] 36)).alloc (.cells #[.int .i64 0,.int .i64 0,.slice none 0 0] 29)).heap.size=w.heap.size+3:=by
 have h1:(w.alloc (.cells #[.int .i64 f,.int .i64 g,.slice Q nq cq] 29)).heap.size=w.heap.size+1:=by simp
 have h2:((w.alloc (.cells #[.int .i64 f,.int .i64 g,.slice Q nq cq] 29)).alloc (.cells #[.slice A xa ca,.slice B xb cb,.string l,.int .i64 k,.int .i64 n,.int .i64 m] 36)).heap.size=w.heap.size+2:=by simp
 refine ⟨(adM _ _ w.heap.size (by simp;omega)).trans ((adM _ _ w.heap.size (by simp)).trans (heap_alloc_new w _)),(adM _ _ (w.heap.size+1) (by simp)).trans ?_,?_,ak (ak (ak (aT _ _) _) _) _,by simp⟩
 ·have:=heap_alloc_new (w.alloc (.cells #[.int .i64 f,.int .i64 g,.slice Q nq cq] 29)) (.cells #[.slice A xa ca,.slice B xb cb,.string l,.int .i64 k,.int .i64 n,.int .i64 m] 36)
  rwa [h1] at this
 ·have:=bD.new ((w.alloc (.cells #[.int .i64 f,.int .i64 g,.slice Q nq cq] 29)).alloc (.cells #[.slice A xa ca,.slice B xb cb,.string l,.int .i64 k,.int .i64 n,.int .i64 m] 36)) 0 0 none 0 0
  rwa [h2] at this
theorem ad_ (f g:Int) (Q:Option Addr) (nq cq:Nat) (A B:Option Addr) (xa ca xb cb:Nat) (l:ByteArray) (k n m:Int) (w:World) (hl:(l.toList==([]:List UInt8))=true):
  Calls Try.prog 53 #[bS f g Q nq cq,.agg #[.slice A xa ca,.slice B xb cb,.string l,.int .i64 k,.int .i64 n,.int .i64 m]] w fun e w'=>e= .returned (.tuple #[bS f g Q nq cq,.slice A xa ca,.slice B xb cb])/\Below w.heap.size w w':=by
 obtain ⟨s1,p1,s2,hwb,hwz⟩:=Rt w f g Q nq cq A B xa ca xb cb l k n m;obtain ⟨wa,gF⟩:∃wa,wa=((w.alloc (.cells #[.int .i64 f,.int .i64 g,.slice Q nq cq] 29)).alloc (.cells #[.slice A xa ca,.slice B xb cb,.string l,.int .i64 k,.int .i64 n,.int .i64 m] 36)).alloc (.cells #[.int .i64 0,.int .i64 0,.slice none 0 0] 29):=⟨_,rfl⟩;rw [<-gF] at s1 p1 s2 hwb hwz;have HB:=aC hwb;have HS:=aC (Gw s1 (Gw p1 s2));go_enter Try.func53,Try.ntmps53;go_upto_region 1 with fail
 rw [<-gF];obtain ⟨a0,a1,a2⟩:=s1.at_;obtain ⟨x0,x1,x2,x3,x4,x5⟩:=p1.at_;have s2:bD wa (w.heap.size+1+1) 0 0 none 0 0:=s2;have HS2:=aC s2;have k1:=s2.at_;have k2:=s2.fz;have hne:w.heap.size+2≠w.heap.size:=by omega
 clear s1 p1 s2 hwb hwz gF;go_upto_region 2 with fail
 obtain ⟨wd,hwd⟩:∃wd,wd=wa.drew:=⟨_,rfl⟩;have HD:Hid (bD wd w.heap.size f g Q nq cq/\J6 wd (w.heap.size+1) A B xa ca xb cb l k n m/\bD wd (w.heap.size+1+1) 0 0 none 0 0/\Below w.heap.size w wd):=aC (by rw [hwd];exact ⟨HS.out.1,HS.out.2.1,HS2.out,HB.out.drew⟩);have xJ:=HD.out.2.2.1.at_;have kd2:=HD.out.2.2.1.fz;obtain ⟨SS,hSS⟩:∃SS:World->Prop,SS=fun v=>v.cell? ⟨w.heap.size,0,none⟩=some (.int .i64 f)/\v.cell? ⟨w.heap.size,1,none⟩=some (.int .i64 g)/\v.cell? ⟨w.heap.size,2,none⟩=some (.slice Q nq cq)/\v.cell? ⟨w.heap.size+1,0,none⟩=some (.slice A xa ca)/\v.cell? ⟨w.heap.size+1,1,none⟩=some (.slice B xb cb):=⟨_,rfl⟩;have hfr:Fr (fun q=>q=w.heap.size+1+1) wd (dB wd (w.heap.size+1+1) f g Q nq cq):=gY (X:=fun q=>q=w.heap.size+1+1) (Fr.refl _ _) (.inl rfl) _ _ _
 have xL:SS (dB wd (w.heap.size+1+1) f g Q nq cq):=by
  rw [hSS];have s1:bD wd w.heap.size f g Q nq cq:=HD.out.1;have p1:J6 wd (w.heap.size+1) A B xa ca xb cb l k n m:=HD.out.2.1;obtain ⟨y0,y1,y2⟩:=(s1.fr hfr (by show ¬w.heap.size=w.heap.size+1+1;omega)).at_;have p2:J6 (dB wd (w.heap.size+1+1) f g Q nq cq) (w.heap.size+1) A B xa ca xb cb l k n m:=(hfr.block _ (ade.1 p1).1 (by show ¬w.heap.size+1=w.heap.size+1+1;omega)).trans p1;exact ⟨y0,y1,y2,p2.at_.1,p2.at_.2.1⟩
 refine bO (S:=SS) [] (by kernel_rfl) ?_ (fun hHeld=>?_)
 ·rw [hSS];exact ⟨a0,a1,a2,x0,x1⟩
 rw [<-hwd] at hHeld ⊢;clear hwd;refine aR 0 [] (some 12) rfl rfl ?_;refine aR 1 [] (some 13) rfl rfl ?_;refine aR 2 [] (some 14) rfl rfl ?_;refine aR 3 [] (some 15) rfl rfl ?_;refine aR 4 [] (some 16) rfl rfl ?_;refine Cy 5 none (w':=dB wd (w.heap.size+1+1) f g Q nq cq) rfl rfl (by kernel_rfl) (by rfl) (by go_simp) (fun _=>xL) ?_;refine dN ?_;refine aR 6 [] (some 5) rfl rfl ?_;refine aR 7 [] (some 6) rfl rfl ?_;refine gJ (by kernel_rfl) ?_ _;have s9:bD (dB wd (w.heap.size+1+1) f g Q nq cq) (w.heap.size+1+1) f g Q nq cq:=HD.out.2.2.1.dB _ _ _ _ _;have hbz:Below w.heap.size w (dB wd (w.heap.size+1+1) f g Q nq cq):=aY HD.out.2.2.2 (by omega) _ _ _;obtain ⟨wz,hwz⟩:∃wz,wz=dB wd (w.heap.size+1+1) f g Q nq cq:=⟨_,rfl⟩;rw [<-hwz] at s9 hbz ⊢;clear hwz hfr xL;obtain ⟨z0,z1,z2⟩:=s9.at_;go_wp2_with fail;exact bodyPost_ret (v:=.tuple #[bS f g Q nq cq,.slice A xa ca,.slice B xb cb]) (by simp [results,Try.results53,go_sem,z0,z1,z2]) rfl ⟨rfl,hbz⟩
theorem XF (f g:Int) (Q:Option Addr) (nq cq:Nat) (A B:Option Addr) (xa ca xb cb:Nat) (l:ByteArray) (k n m:Int) (w:World) (hl:(l.toList==([]:List UInt8))=false) (h0:0<=g) (h1:g<=1000000):
  Calls Try.prog 53 #[bS f g Q nq cq,.agg #[.slice A xa ca,.slice B xb cb,.string l,.int .i64 k,.int .i64 n,.int .i64 m]] w fun e w'=>∃(An A':Option Addr) (c':Nat),e= .returned (.tuple #[bS f (g+1) Q nq cq,.slice An 1 1,.slice A' 3 c'])/\aM w' w'.heap.size An [⟨8,pR,n⟩]/\aM w' w'.heap.size A' [⟨k,pR,2⟩,⟨8,l,m⟩,⟨9,pR,g⟩]/\3<=c'/\Below w.heap.size w w':=by
 obtain ⟨s1,p1,s2,hwb,hwz⟩:=Rt w f g Q nq cq A B xa ca xb cb l k n m;obtain ⟨wa,gF⟩:∃wa,wa=((w.alloc (.cells #[.int .i64 f,.int .i64 g,.slice Q nq cq] 29)).alloc (.cells #[.slice A xa ca,.slice B xb cb,.string l,.int .i64 k,.int .i64 n,.int .i64 m] 36)).alloc (.cells #[.int .i64 0,.int .i64 0,.slice none 0 0] 29):=⟨_,rfl⟩;rw [<-gF] at s1 p1 s2 hwb hwz;have HB:=aC hwb;have HS:=aC (Gw s1 (Gw p1 s2));go_enter Try.func53,Try.ntmps53;go_upto_region 1 with fail
 rw [<-gF];obtain ⟨a0,a1,a2⟩:=s1.at_;obtain ⟨x0,x1,x2,x3,x4,x5⟩:=p1.at_;have s2:bD wa (w.heap.size+1+1) 0 0 none 0 0:=s2;have HS2:=aC s2;have k1:=s2.at_;have k2:=s2.fz;have hne:w.heap.size+2≠w.heap.size:=by omega
 clear s1 p1 s2 hwb hwz gF;have HO:Hid (Calls Try.prog 93 #[bS f g Q nq cq,.int .i64 k,.string l,.slice (some ⟨wa.heap.size,0,none⟩) 1 1] (wa.alloc (.cells #[.int .i64 8,.string ⟨#[]⟩,.int .i64 m] 48)) fun e w'=>∃A' c',e= .returned (.tuple #[bS f (g+1) Q nq cq,.slice A' 3 c'])/\aM w' w'.heap.size A' [⟨k,pR,2⟩,⟨8,l,m⟩,⟨9,pR,g⟩]/\3<=c'/\Below (wa.alloc (.cells #[.int .i64 8,.string ⟨#[]⟩,.int .i64 m] 48)).heap.size (wa.alloc (.cells #[.int .i64 8,.string ⟨#[]⟩,.int .i64 m] 48)) w'):=aC (U5 f g Q nq cq k l m (some ⟨wa.heap.size,0,none⟩) 1 _ ((gV wa [⟨8,pR,m⟩] #[.int .i64 8,.string ⟨#[]⟩,.int .i64 m] rfl).more (by simp)) h0 h1);have hba:=ak (aT wa.heap.size wa) (.cells #[.int .i64 8,.string ⟨#[]⟩,.int .i64 m] 48);have HBA:=aC hba;have q1:bD (wa.alloc (.cells #[.int .i64 8,.string ⟨#[]⟩,.int .i64 m] 48)) w.heap.size f g Q nq cq:=HS.out.1.later hba;clear hba q1;go_wp2_with fail;refine HO.out.mono ?_;rintro e w2 ⟨A',c',rfl,ht,hc,hb⟩;have HB2:Hid (Below wa.heap.size wa w2):=aC (ah HBA.out hb);have HT:=aC (Gw ht hc);clear ht hc hb HO;go_upto_region 4 with fail
 obtain ⟨w3,hw3⟩:∃w3,w3=w2.alloc (.cells #[.int .i64 f,.int .i64 (g+1),.slice Q nq cq] 29):=⟨_,rfl⟩;rw [<-hw3];have Db:Below w2.heap.size w2 w3:=by rw [hw3];exact ak (aT _ _) _
 have s3:bD w3 w2.heap.size f (g+1) Q nq cq:=by rw [hw3];exact bD.new _ _ _ _ _ _
 have HB3:Hid (Below wa.heap.size wa w3):=aC (ah HB2.out Db);have HT3:Hid (aM w3 w3.heap.size A' [⟨k,pR,2⟩,⟨8,l,m⟩,⟨9,pR,g⟩]):=aC ((HT.out.1.below Db).more Db.size);have h23:wa.heap.size<=w2.heap.size:=HB2.out.size;have hS3:=aC s3;clear hw3 Db s3 a0 a1 a2 x0 x1 x2 x3 x4 x5 k1 k2;have hza:w.heap.size+1+1<wa.heap.size:=HS2.out.lt;have PZ:Hid (∀v,Below w3.heap.size w3 v->bD v w2.heap.size f (g+1) Q nq cq/\J6 v (w.heap.size+1) A B xa ca xb cb l k n m/\bD v (w.heap.size+1+1) 0 0 none 0 0):=aC fun v hv=>⟨hS3.out.later hv,((ah HB3.out hv).block _ (by omega)).trans HS.out.2.1,HS2.out.later (ah HB3.out hv)⟩;obtain ⟨SS,hSS⟩:∃SS:World->Prop,SS=fun v=>v.cell? ⟨w2.heap.size,0,none⟩=some (.int .i64 f)/\v.cell? ⟨w2.heap.size,1,none⟩=some (.int .i64 (g+1))/\v.cell? ⟨w2.heap.size,2,none⟩=some (.slice Q nq cq)/\v.cell? ⟨w.heap.size+1,4,none⟩=some (.int .i64 n):=⟨_,rfl⟩
 have bg:Hid (∀v,Below w3.heap.size w3 v->SS v):=aC fun v hv=>by
  rw [hSS];obtain ⟨y0,y1,y2⟩:=(PZ.out v hv).1.at_;exact ⟨y0,y1,y2,(PZ.out v hv).2.1.at_.2.2.2.2.1⟩
 refine bO (S:=SS) [] (by kernel_rfl) ?_ (fun hHeld=>?_)
 ·exact bg.out _ (aT _ _).drew
 obtain ⟨wd,hwd⟩:∃wd,wd=w3.drew:=⟨_,rfl⟩;have HD:Hid (Below w3.heap.size w3 wd):=aC (by rw [hwd];exact (aT _ _).drew);rw [<-hwd] at hHeld ⊢;clear hwd;refine aR 0 [] (some 30) rfl rfl ?_;refine aR 1 [] (some 31) rfl rfl ?_;refine aR 2 [] (some 32) rfl rfl ?_;refine aR 3 [] (some 33) rfl rfl ?_;refine aR 5 [] (some 35) rfl rfl ?_;refine vH 4 6 (by kernel_rfl) rfl rfl (by rfl) (by rfl) ?_ ?_
 ·refine adC (some 34) (v:=.slice (some ⟨wd.heap.size,0,none⟩) 1 1) (w':=wd.alloc (.cells #[.int .i64 8,.string ⟨#[]⟩,.int .i64 n] 48)) rfl (by go_simp) ?_
  obtain ⟨w5,mh⟩:∃w5,w5=wd.alloc (.cells #[.int .i64 8,.string ⟨#[]⟩,.int .i64 n] 48):=⟨_,rfl⟩;rw [<-mh];have rA:Hid (Below w3.heap.size w3 w5):=aC (by rw [mh];exact ak HD.out _);have HT5:Hid (aM w5 w5.heap.size (some ⟨wd.heap.size,0,none⟩) [⟨8,pR,n⟩]):=aC (by rw [mh];exact (gV wd [⟨8,pR,n⟩] #[.int .i64 8,.string ⟨#[]⟩,.int .i64 n] rfl).more (by simp));clear mh;have XA:=bg.out _ rA.out;refine ⟨fun _=>XA,?_⟩;refine dN ?_;have hfr:Fr (fun q=>q=w.heap.size+1+1) w5 (dB w5 (w.heap.size+1+1) f (g+1) Q nq cq):=gY (X:=fun q=>q=w.heap.size+1+1) (Fr.refl _ _) (.inl rfl) _ _ _;have hkz:∀q,q=w.heap.size+1+1->eO w5 q:=fun q hq=>by rw [hq];exact eO.zero (PZ.out w5 rA.out).2.2
  have NV:bD (dB w5 (w.heap.size+1+1) f (g+1) Q nq cq) w2.heap.size f (g+1) Q nq cq:=(PZ.out w5 rA.out).1.fr hfr (by show ¬w2.heap.size=w.heap.size+1+1;omega);have p2:J6 (dB w5 (w.heap.size+1+1) f (g+1) Q nq cq) (w.heap.size+1) A B xa ca xb cb l k n m:=(hfr.block _ (ade.1 (PZ.out w5 rA.out).2.1).1 (by show ¬w.heap.size+1=w.heap.size+1+1;omega)).trans (PZ.out w5 rA.out).2.1;have xL:SS (dB w5 (w.heap.size+1+1) f (g+1) Q nq cq):=by rw [hSS];exact ⟨NV.at_.1,NV.at_.2.1,NV.at_.2.2,p2.at_.2.2.2.2.1⟩
  have s9:bD (dB w5 (w.heap.size+1+1) f (g+1) Q nq cq) (w.heap.size+1+1) f (g+1) Q nq cq:=(PZ.out w5 rA.out).2.2.dB _ _ _ _ _;have hbz:Below w.heap.size w (dB w5 (w.heap.size+1+1) f (g+1) Q nq cq):=aY (ah (ah HB.out HB3.out) rA.out) (by omega) _ _ _;have t8:=aM.jw ((HT3.out.below rA.out).more rA.out.size) hfr hkz;have xJ:=(PZ.out w5 rA.out).2.2.at_;have kd2:=(PZ.out w5 rA.out).2.2.fz;have t9:=aM.jw HT5.out hfr hkz;refine d9 6 rfl (by kernel_rfl) (by rfl) ?_;refine YE none (w':=dB w5 (w.heap.size+1+1) f (g+1) Q nq cq) rfl (by go_simp) ?_;obtain ⟨wz,hwz⟩:∃wz,wz=dB w5 (w.heap.size+1+1) f (g+1) Q nq cq:=⟨_,rfl⟩;rw [<-hwz] at xL s9 hbz t8 t9 ⊢;clear hwz hfr NV p2;refine ⟨fun _=>xL,?_⟩;refine dN ?_;refine aR 7 [] (some 5) rfl rfl ?_;refine aR 8 [] (some 6) rfl rfl ?_;refine gJ (by kernel_rfl) ?_ _;obtain ⟨z0,z1,z2⟩:=s9.at_;clear xJ kd2;go_wp2_with fail;exact bodyPost_ret (v:=.tuple #[bS f (g+1) Q nq cq,.slice (some ⟨wd.heap.size,0,none⟩) 1 1,.slice A' 3 c']) (by simp [results,Try.results53,go_sem,z0,z1,z2]) rfl ⟨_,A',c',rfl,t9,t8,HT.out.2,hbz⟩
 ·have hfr:Fr (fun q=>q=w.heap.size+1+1) wd (dB wd (w.heap.size+1+1) f (g+1) Q nq cq):=gY (X:=fun q=>q=w.heap.size+1+1) (Fr.refl _ _) (.inl rfl) _ _ _
  have hkz:∀q,q=w.heap.size+1+1->eO wd q:=fun q hq=>by rw [hq];exact eO.zero (PZ.out wd HD.out).2.2
  have NV:bD (dB wd (w.heap.size+1+1) f (g+1) Q nq cq) w2.heap.size f (g+1) Q nq cq:=(PZ.out wd HD.out).1.fr hfr (by show ¬w2.heap.size=w.heap.size+1+1;omega);have p2:J6 (dB wd (w.heap.size+1+1) f (g+1) Q nq cq) (w.heap.size+1) A B xa ca xb cb l k n m:=(hfr.block _ (ade.1 (PZ.out wd HD.out).2.1).1 (by show ¬w.heap.size+1=w.heap.size+1+1;omega)).trans (PZ.out wd HD.out).2.1;have xL:SS (dB wd (w.heap.size+1+1) f (g+1) Q nq cq):=by rw [hSS];exact ⟨NV.at_.1,NV.at_.2.1,NV.at_.2.2,p2.at_.2.2.2.2.1⟩
  have s9:bD (dB wd (w.heap.size+1+1) f (g+1) Q nq cq) (w.heap.size+1+1) f (g+1) Q nq cq:=(PZ.out wd HD.out).2.2.dB _ _ _ _ _;have hbz:Below w.heap.size w (dB wd (w.heap.size+1+1) f (g+1) Q nq cq):=aY (ah (ah HB.out HB3.out) HD.out) (by omega) _ _ _;have t8:=aM.jw ((HT3.out.below HD.out).more HD.out.size) hfr hkz;have xJ:=(PZ.out wd HD.out).2.2.at_;have kd2:=(PZ.out wd HD.out).2.2.fz;refine YE none (w':=dB wd (w.heap.size+1+1) f (g+1) Q nq cq) rfl (by go_simp) ?_;obtain ⟨wq,hwq⟩:∃wq,wq=dB wd (w.heap.size+1+1) f (g+1) Q nq cq:=⟨_,rfl⟩;have hqs:Hid (J6 wq (w.heap.size+1) A B xa ca xb cb l k n m/\bD wq w2.heap.size f (g+1) Q nq cq):=aC (by rw [hwq];exact ⟨p2,NV⟩);rw [<-hwq] at xL s9 hbz t8 ⊢;clear hwq hfr NV p2 hkz;refine ⟨fun _=>xL,?_⟩;refine dN ?_;refine d9 4 rfl (by kernel_rfl) (by rfl) ?_;refine adC (some 34) (v:=.slice (some ⟨wq.heap.size,0,none⟩) 1 1) (w':=wq.alloc (.cells #[.int .i64 8,.string ⟨#[]⟩,.int .i64 n] 48)) rfl (by go_simp) ?_;obtain ⟨wz,hwz⟩:∃wz,wz=wq.alloc (.cells #[.int .i64 8,.string ⟨#[]⟩,.int .i64 n] 48):=⟨_,rfl⟩;have hbq:Below wq.heap.size wq wz:=by rw [hwz];exact ak (aT _ _) _
  have t9:aM wz wz.heap.size (some ⟨wq.heap.size,0,none⟩) [⟨8,pR,n⟩]:=by rw [hwz];exact (gV wq [⟨8,pR,n⟩] #[.int .i64 8,.string ⟨#[]⟩,.int .i64 n] rfl).more (by simp)
  have scw:SS wz:=by
   have h1:=hqs.out.2.later hbq;have h2:J6 wz (w.heap.size+1) A B xa ca xb cb l k n m:=(hbq.block _ (ade.1 hqs.out.1).1).trans hqs.out.1;rw [hSS];exact ⟨h1.at_.1,h1.at_.2.1,h1.at_.2.2,h2.at_.2.2.2.2.1⟩
  have s9:=s9.later hbq;have hbz:=ah hbz hbq;have t8:=(t8.below hbq).more hbq.size;rw [<-hwz];clear hwz hbq;refine ⟨fun _=>scw,?_⟩;refine dN ?_;refine aR 7 [] (some 5) rfl rfl ?_;refine aR 8 [] (some 6) rfl rfl ?_;refine gJ (by kernel_rfl) ?_ _;obtain ⟨z0,z1,z2⟩:=s9.at_;clear xJ kd2;go_wp2_with fail;exact bodyPost_ret (v:=.tuple #[bS f (g+1) Q nq cq,.slice (some ⟨wq.heap.size,0,none⟩) 1 1,.slice A' 3 c']) (by simp [results,Try.results53,go_sem,z0,z1,z2]) rfl ⟨_,A',c',rfl,t9,t8,HT.out.2,hbz⟩
theorem U6 {y:Int} (h1:0<=y):gD (aS y):=by
 unfold aS;rw [bU];exact ⟨⟨List.nodup_nil,fun _=>⟨rfl,rfl⟩,fun e=>absurd rfl e,fun _=>h1,⟨by omega,by omega,fun e=>absurd e (by decide),fun _ _=>⟨rfl,rfl⟩⟩,fun e=>(by cases e),fun p hp=>(by cases hp),fun e=>(by cases e),fun e=>absurd e (by decide)⟩,fun p hp=>by cases hp⟩
theorem aaX {k:Int} {l:Lb} {u q:Int} (g1:av k=true) (g2:bV k l=true) (g6:0<=u) (hq:0<=q):gD (fV k l u q):=by
 obtain ⟨k8,k0,k5,ka,kb⟩:=bJ g1;unfold fV;rw [bU];refine ⟨⟨by simp [ay],by omega,fun _=>fun _=>rfl,fun e=>(by omega),⟨ka,kb,fun e=>absurd e k5,fun _ e=>(by rw [g1] at e;cases e)⟩,fun _=>⟨by simp [dY],fun l' hl'=>?_⟩,fun p hp=>?_,fun _=>by simp [aP],fun _=>by simp;omega⟩,fun p hp=>?_⟩
 ·simp [ay] at hl';subst hl';exact g2
 ·injection hp with hp;omega
 ·simp only [Gz,abo,or_false] at hp;subst hp;exact U6 g6
theorem PD (k:Int) (l:Lb) (u q:Int) (hk:av k=true):aB pR (fV k l u q)=[⟨k,pR,2⟩,⟨8,l,u⟩,⟨9,pR,q⟩]:=by
 unfold fV aS;rw [bY,if_pos hk,fq,lT,bY,if_neg (by decide),gH];rfl
theorem U7 (n:Int):aB pR (aS n)=[⟨8,pR,n⟩]:=by
 unfold aS;rw [bY,if_neg (by decide),gH]
section
variable {U Lo:List Lb} {m0:Int} {S S':Kn} {l:List Stp} {x:Stp} {ns:List Int} {a b:Ut}
structure Gs (U:List Lb) (m0:Int) (ts:List Nd) (a:Ut):Prop where
 sm:r9 U m0 a
 era:jE a=dI ts
 fl:aB pR a=ts
theorem YK {ts:List Nd} (hg:ko ts) (hl:ts.length<=30) (ht:Told U m0 (dI ts)) (hs:(bB ts).s=pR):∃a,Gs U m0 ts a:=by
 obtain ⟨a,h1,h2,h3⟩:=aeA hg;rw [hs] at h3;refine ⟨a,⟨⟨h1,ZL a (by rw [h2];exact ht.lb),(ZK a).1 (by rw [h2];exact ht.no)⟩,fun s=>?_⟩,h2,h3⟩;rw [uy s pR,h3];exact hl
theorem Gs.dyn {ts:List Nd} (h:Gs U m0 ts a):aJ a=aJ (dI ts):=by rw [<-h.era,(OH a).2.2]
theorem iB.aiG (h:iB U Lo m0 l S ns) (_g:GoodS U m0 x) (_hx:x.l.size=0) (hl:l.length<=12) (h8:m0<=8) (hlo:Lo.length<=30) (ha:Gs U m0 x.a a) (hb:Gs U m0 x.b b):oW U Lo m0 (fun _=>False) S a b:=by
 have da:=Yl a pR;have db:=Yl b pR;have:=ha.sm.len pR;have:=hb.sm.len pR;have hm:=h.run.m;exact ⟨h.j,h.run.run.fit,hlo,ha.sm.tg h.j,hb.sm.tg h.j,.inl ⟨.inr ⟨_,ha.sm,rfl⟩,.inr ⟨_,hb.sm,rfl⟩⟩,by omega⟩
theorem YL (ha:Gs U m0 x.a a) (hb:Gs U m0 x.b b):bF a b=bF (dI x.a) (dI x.b):=by
 rw [<-ha.era,<-hb.era,abZ]
theorem iB.XG (h:iB U Lo m0 l S ns) (g:GoodS U m0 x) (hx:x.l.size=0) (ha:Gs U m0 x.a a) (hb:Gs U m0 x.b b) {ns':List Int} (d:Done U S S' (bF a b) (aJ a+aJ b)) (j':dL U Lo m0 (fun _=>False) S') (f':fK m0 S') (n':fG S' ns'):iB U Lo m0 (l++[x]) S' ns':=
 h.ZT g hx (by rwa [YL ha hb,ha.dyn,hb.dyn] at d) j' f' n'
end
theorem aea (x:Stp) (A B:Option Addr) (ca cb:Nat) (next:Int) (w:World) (hA:aM w w.heap.size A x.a) (hB:aM w w.heap.size B x.b) (hok:x.Ok):
  Calls Try.prog 52 #[stV x A ca B cb,.int .i64 next] w fun e w'=>e= .returned (.bool (rY next x))/\Below w.heap.size w w':=by
 have Cv:=aC (ak (aT w.heap.size w) (.cells #[.slice A x.a.length ca,.slice B x.b.length cb,.string x.l,.int .i64 x.k,.int .i64 x.n,.int .i64 x.m] 36))
 have HC:Hid (∀v,Below (w.alloc (.cells #[.slice A x.a.length ca,.slice B x.b.length cb,.string x.l,.int .i64 x.k,.int .i64 x.n,.int .i64 x.m] 36)).heap.size (w.alloc (.cells #[.slice A x.a.length ca,.slice B x.b.length cb,.string x.l,.int .i64 x.k,.int .i64 x.n,.int .i64 x.m] 36)) v->v.cell? ⟨w.heap.size,0,none⟩=some (.slice A x.a.length ca)/\v.cell? ⟨w.heap.size,1,none⟩=some (.slice B x.b.length cb)/\v.cell? ⟨w.heap.size,2,none⟩=some (.string x.l)/\v.cell? ⟨w.heap.size,3,none⟩=some (.int .i64 x.k)/\v.cell? ⟨w.heap.size,4,none⟩=some (.int .i64 x.n)/\v.cell? ⟨w.heap.size,5,none⟩=some (.int .i64 x.m)/\w.heap.size<v.heap.size):=aC fun v hv=>by
  have h:=(hv.block w.heap.size (by simp)).trans (heap_alloc_new w (.cells #[.slice A x.a.length ca,.slice B x.b.length cb,.string x.l,.int .i64 x.k,.int .i64 x.n,.int .i64 x.m] 36));refine ⟨?_,?_,?_,?_,?_,?_,(ade.1 h).1⟩<;>simp [adw,h]
 have HT:=aC fun W (hW:Below w.heap.size w W)=>O7 A ca x.a next W ((hA.below hW).more hW.size) hok.a.1 (fun y hy=>(hok.a.2 y hy).s1);have HT2:=aC fun W (hW:Below w.heap.size w W)=>O7 B cb x.b next W ((hB.below hW).more hW.size) hok.b.1 (fun y hy=>(hok.b.2 y hy).s1)
 have HR:Hid (∀W,Below w.heap.size w W->Calls Try.prog 28 #[.slice (some ⟨W.heap.size,0,none⟩) 2 2] (W.alloc (.cells #[.int .i64 x.k,.string pR,.int .i64 1,.int .i64 1,.string x.l,.int .i64 0] 48)) (fun e w'=>e= .returned (.bool (iR [⟨x.k,pR,1⟩,⟨1,x.l,0⟩]))/\Below w.heap.size w w'/\Below W.heap.size W w')):=aC fun W hW=>by
  have h0:=gV W [⟨x.k,pR,1⟩,⟨1,x.l,0⟩] #[.int .i64 x.k,.string pR,.int .i64 1,.int .i64 1,.string x.l,.int .i64 0] rfl;have hb:=ak hW (.cells #[.int .i64 x.k,.string pR,.int .i64 1,.int .i64 1,.string x.l,.int .i64 0] 48);refine (Bv (some ⟨W.heap.size,0,none⟩) 2 [⟨x.k,pR,1⟩,⟨1,x.l,0⟩] _ (h0.more (by simp)) (by simp) (fun y hy=>?_)).mono ?_
  ·simp only [Gz,abo,or_false] at hy
   rcases hy with rfl|rfl
   ·show pR.size<=_
    decide
   ·exact hok.l
  ·rintro e w' ⟨he,hb2⟩
   exact ⟨he,ah hb hb2,ah (ak (aT _ _) _) hb2⟩
 have hl:=hok.l;clear hA hB hok;go_enter Try.func52,Try.ntmps52
 cases hz:(x.l.toList==([]:List UInt8)) with
 |true=>
  have HZ:Hid (x.l.size=0):=aC (by simpa [fH] using (show x.l.toList.isEmpty=true by simpa using hz));have HZ2:(x.l.toList !=([]:List UInt8))=false:=by unfold bne;rw [hz];rfl
  have HM:Hid (rY next x=(u7 x.a next&&u7 x.b next)):=aC (by unfold rY;rw [if_neg (by rw [HZ.out];simp)]);go_wp2_with fail;refine (HT.out _ Cv.out).mono ?_;rintro e w1 ⟨rfl,hb⟩;have B1:=aC (ah Cv.out hb);obtain ⟨_,q1,_,_,_,_,qz⟩:=HC.out _ hb;clear hb
  cases ht:u7 x.a next with
  |false=>
   have Ht:=aC ht;clear ht;go_wp2_with fail;go_ret
   exact ⟨aN (by rw [HM.out,Ht.out];rfl),B1.out⟩
  |true=>
   have Ht:=aC ht;clear ht;go_wp2_with fail;refine (HT2.out _ B1.out).mono ?_;rintro e w2 ⟨rfl,hb⟩;go_wp2_with fail;go_ret
   exact ⟨aN (by rw [HM.out,Ht.out];rfl),ah B1.out hb⟩
 |false=>
  have HZ:Hid (x.l.size≠0):=aC (fun h=>by
   have:=fH x.l;rw [decide_eq_true h] at this;rw [List.isEmpty_iff.1 this] at hz
   cases hz)
  have HZ2:(x.l.toList !=([]:List UInt8))=true:=by unfold bne;rw [hz];rfl
  have HM:Hid (rY next x=(decide (x.l.size<=50)&&((x.k==6||x.k==7)&&(iR [⟨x.k,pR,1⟩,⟨1,x.l,0⟩]&&(decide (0<=x.n)&&decide (x.n<next)&&(decide (0<=x.m)&&decide (x.m<next))))))):=aC (by unfold rY;rw [if_pos HZ.out])
  have HR2:Hid (Calls Try.prog 28 #[.slice (some ⟨w.heap.size+1,0,none⟩) 2 2] ((w.alloc (.cells #[.slice A x.a.length ca,.slice B x.b.length cb,.string x.l,.int .i64 x.k,.int .i64 x.n,.int .i64 x.m] 36)).alloc (.cells #[.int .i64 x.k,.string ⟨#[]⟩,.int .i64 1,.int .i64 1,.string x.l,.int .i64 0] 48)) (fun e w'=>e= .returned (.bool (iR [⟨x.k,pR,1⟩,⟨1,x.l,0⟩]))/\Below w.heap.size w w'/\Below (w.alloc (.cells #[.slice A x.a.length ca,.slice B x.b.length cb,.string x.l,.int .i64 x.k,.int .i64 x.n,.int .i64 x.m] 36)).heap.size (w.alloc (.cells #[.slice A x.a.length ca,.slice B x.b.length cb,.string x.l,.int .i64 x.k,.int .i64 x.n,.int .i64 x.m] 36)) w')):=aC (by
   have h:=HR.out _ Cv.out;rw [show (w.alloc (.cells #[.slice A x.a.length ca,.slice B x.b.length cb,.string x.l,.int .i64 x.k,.int .i64 x.n,.int .i64 x.m] 36)).heap.size=w.heap.size+1 by simp] at h ⊢;exact h)
  clear HR;have HX:Hid (rY next x=(decide (x.l.size<=50)&&((x.k==6||x.k==7)&&(iR [⟨x.k,pR,1⟩,⟨1,x.l,0⟩]&&(decide (0<=x.n)&&decide (x.n<next)&&(decide (0<=x.m)&&decide (x.m<next))))))):=HM;by_cases h50:x.l.size<=50
  ·have hk:((x.k==6)=true)\/((x.k==6)=false/\(x.k==7)=true)\/((x.k==6)=false/\(x.k==7)=false):=by cases (x.k==6)<;>cases (x.k==7)<;>simp
   rcases hk with h6|⟨h6,h7⟩|⟨h6,h7⟩
   ·generalize hrr:iR [⟨x.k,pR,1⟩,⟨1,x.l,0⟩]=rr at*
    have HK:Hid (rY next x=(rr&&(decide (0<=x.n)&&decide (x.n<next)&&(decide (0<=x.m)&&decide (x.m<next))))):=aC (by rw [HX.out,decide_eq_true h50];rw [h6];simp);clear HX hrr
    cases rr with
    |false=>
     go_wp2_with fail
     with_reducible refine HR2.out.mono ?_
     rintro e w9 ⟨rfl,dM,jW⟩;obtain ⟨_,_,_,_,q4,q5,qz⟩:=HC.out _ jW;clear jW;go_wp2_with fail;go_ret
     exact ⟨aN (by rw [HK.out];rfl),dM⟩
    |true=>
     by_cases c1:0<=x.n
     ·by_cases c2:x.n<next
      ·by_cases c3:0<=x.m
       ·by_cases c4:x.m<next
        ·skip
         go_wp2_with fail
         with_reducible refine HR2.out.mono ?_
         rintro e w9 ⟨rfl,dM,jW⟩;obtain ⟨_,_,_,_,q4,q5,qz⟩:=HC.out _ jW;clear jW;go_wp2_with fail;go_ret;exact ⟨aN (by rw [HK.out,decide_eq_true (show 0<=x.n by omega),decide_eq_true (show x.n<next by omega),decide_eq_true (show 0<=x.m by omega),decide_eq_true (show x.m<next by omega)];rfl),dM⟩
        ·skip
         go_wp2_with fail
         with_reducible refine HR2.out.mono ?_
         rintro e w9 ⟨rfl,dM,jW⟩;obtain ⟨_,_,_,_,q4,q5,qz⟩:=HC.out _ jW;clear jW;go_wp2_with fail;go_ret;exact ⟨aN (by rw [HK.out,decide_eq_true (show 0<=x.n by omega),decide_eq_true (show x.n<next by omega),decide_eq_true (show 0<=x.m by omega),decide_eq_false (show ¬(x.m<next) by omega)];rfl),dM⟩
       ·skip
        go_wp2_with fail
        with_reducible refine HR2.out.mono ?_
        rintro e w9 ⟨rfl,dM,jW⟩;obtain ⟨_,_,_,_,q4,q5,qz⟩:=HC.out _ jW;clear jW;go_wp2_with fail;go_ret;exact ⟨aN (by rw [HK.out,decide_eq_true (show 0<=x.n by omega),decide_eq_true (show x.n<next by omega),decide_eq_false (show ¬(0<=x.m) by omega)];rfl),dM⟩
      ·skip
       go_wp2_with fail
       with_reducible refine HR2.out.mono ?_
       rintro e w9 ⟨rfl,dM,jW⟩;obtain ⟨_,_,_,_,q4,q5,qz⟩:=HC.out _ jW;clear jW;go_wp2_with fail;go_ret;exact ⟨aN (by rw [HK.out,decide_eq_true (show 0<=x.n by omega),decide_eq_false (show ¬(x.n<next) by omega)];rfl),dM⟩
     ·skip
      go_wp2_with fail
      with_reducible refine HR2.out.mono ?_
      rintro e w9 ⟨rfl,dM,jW⟩;obtain ⟨_,_,_,_,q4,q5,qz⟩:=HC.out _ jW;clear jW;go_wp2_with fail;go_ret;exact ⟨aN (by rw [HK.out,decide_eq_false (show ¬(0<=x.n) by omega)];rfl),dM⟩
   ·generalize hrr:iR [⟨x.k,pR,1⟩,⟨1,x.l,0⟩]=rr at*
    have HK:Hid (rY next x=(rr&&(decide (0<=x.n)&&decide (x.n<next)&&(decide (0<=x.m)&&decide (x.m<next))))):=aC (by rw [HX.out,decide_eq_true h50];rw [h6,h7];simp);clear HX hrr
    cases rr with
    |false=>
     go_wp2_with fail
     with_reducible refine HR2.out.mono ?_
     rintro e w9 ⟨rfl,dM,jW⟩;obtain ⟨_,_,_,_,q4,q5,qz⟩:=HC.out _ jW;clear jW;go_wp2_with fail;go_ret
     exact ⟨aN (by rw [HK.out];rfl),dM⟩
    |true=>
     by_cases c1:0<=x.n
     ·by_cases c2:x.n<next
      ·by_cases c3:0<=x.m
       ·by_cases c4:x.m<next
        ·skip
         go_wp2_with fail
         with_reducible refine HR2.out.mono ?_
         rintro e w9 ⟨rfl,dM,jW⟩;obtain ⟨_,_,_,_,q4,q5,qz⟩:=HC.out _ jW;clear jW;go_wp2_with fail;go_ret;exact ⟨aN (by rw [HK.out,decide_eq_true (show 0<=x.n by omega),decide_eq_true (show x.n<next by omega),decide_eq_true (show 0<=x.m by omega),decide_eq_true (show x.m<next by omega)];rfl),dM⟩
        ·skip
         go_wp2_with fail
         with_reducible refine HR2.out.mono ?_
         rintro e w9 ⟨rfl,dM,jW⟩;obtain ⟨_,_,_,_,q4,q5,qz⟩:=HC.out _ jW;clear jW;go_wp2_with fail;go_ret;exact ⟨aN (by rw [HK.out,decide_eq_true (show 0<=x.n by omega),decide_eq_true (show x.n<next by omega),decide_eq_true (show 0<=x.m by omega),decide_eq_false (show ¬(x.m<next) by omega)];rfl),dM⟩
       ·skip
        go_wp2_with fail
        with_reducible refine HR2.out.mono ?_
        rintro e w9 ⟨rfl,dM,jW⟩;obtain ⟨_,_,_,_,q4,q5,qz⟩:=HC.out _ jW;clear jW;go_wp2_with fail;go_ret;exact ⟨aN (by rw [HK.out,decide_eq_true (show 0<=x.n by omega),decide_eq_true (show x.n<next by omega),decide_eq_false (show ¬(0<=x.m) by omega)];rfl),dM⟩
      ·skip
       go_wp2_with fail
       with_reducible refine HR2.out.mono ?_
       rintro e w9 ⟨rfl,dM,jW⟩;obtain ⟨_,_,_,_,q4,q5,qz⟩:=HC.out _ jW;clear jW;go_wp2_with fail;go_ret;exact ⟨aN (by rw [HK.out,decide_eq_true (show 0<=x.n by omega),decide_eq_false (show ¬(x.n<next) by omega)];rfl),dM⟩
     ·skip
      go_wp2_with fail
      with_reducible refine HR2.out.mono ?_
      rintro e w9 ⟨rfl,dM,jW⟩;obtain ⟨_,_,_,_,q4,q5,qz⟩:=HC.out _ jW;clear jW;go_wp2_with fail;go_ret;exact ⟨aN (by rw [HK.out,decide_eq_false (show ¬(0<=x.n) by omega)];rfl),dM⟩
   ·go_wp2_with fail
    go_ret;exact ⟨aN (by rw [HX.out,h6,h7];simp),ak Cv.out _⟩
  ·go_wp2_with fail
   go_ret;exact ⟨aN (by rw [HX.out];simp [h50]),ak Cv.out _⟩
def J7 (Y:Nat->Prop) (U Lo:List Lb) (m0:Int) (ls:List Stp) (x:Stp) (S:Kn) (f g:Int) (Q:Option Addr) (l:Nat) (er:Int) (w':World):Prop:=
 (er=9/\eX m0 S x.cst.holds)\/(er=0/\∃(S':Kn) (ns':List Int) (vs':List QV),f=m0/\g=S'.m/\l=vs'.length/\fQ Y vs' Q (dA S') ns' w'/\iB U Lo m0 (ls++[x]) S' ns')
def DoR (Y:Nat->Prop) (U Lo:List Lb) (m0:Int) (ls:List Stp) (x:Stp) (S:Kn) (w:World) (e:Ending) (w':World):Prop:=
 ∃(f g:Int) (Q:Option Addr) (l c:Nat) (er:Int),e= .returned (.tuple #[bS f g Q l c,.int .i64 er])/\Hid (Below w.heap.size w w'/\J7 Y U Lo m0 ls x S f g Q l er w')
section
variable {Y:Nat->Prop} {U Lo:List Lb} {m0:Int} {ls:List Stp} {x:Stp} {S:Kn} {f g:Int} {Q:Option Addr} {l:Nat} {er:Int} {w w':World}
theorem J7.step (h:J7 Y U Lo m0 ls x S f g Q l er w) (hb:Below w.heap.size w w'):J7 Y U Lo m0 ls x S f g Q l er w':=h.imp id fun ⟨a,S',ns',vs',b1,b2,b3,b4,b5⟩=>⟨a,S',ns',vs',b1,b2,b3,b4.step hb,b5⟩
theorem J7.past {X:Nat->Prop} (h:J7 Y U Lo m0 ls x S f g Q l er w) (hf:Fr X w w') (hX:∀k,X k->eO w k):J7 Y U Lo m0 ls x S f g Q l er w':=h.imp id fun ⟨a,S',ns',vs',b1,b2,b3,b4,b5⟩=>⟨a,S',ns',vs',b1,b2,b3,b4.past hf hX,b5⟩
end
theorem jG.narrow {Y Y':Nat->Prop} {U Lo:List Lb} {m0:Int} {X:Int->Prop} {S:Kn} {C:Va->Prop} {n:Nat} {f g:Int} {Q:Option Addr} {l:Nat} {er:Int} {w w':World} (h:jG Y' U Lo m0 X S C n f g Q l er w) {Z:Nat->Prop} (hf:Fr Z w w') (hZ:∀k,Z k->Y' k) (hY:∀k,Y k->Y' k):jG Y U Lo m0 X S C n f g Q l er w':=
 h.imp id fun ⟨a,S',ns',vs',b1,b2,b3,b4,b5⟩=>⟨a,S',ns',vs',b1,b2,b3,(b4.YH hf hZ).wider fun k hk=>.inl (hY k hk),b5⟩
theorem fQ.aQ {Y:Nat->Prop} {vs:List QV} {Q:Option Addr} {S:Kn} {ns:List Int} {w:World} (h:fQ Y vs Q (dA S) ns w) (i:S.Inv) (nn:S.Nn) (num:fG S ns) (ls:List Lb):fQ Y vs Q (dA (S.aQ ls)) ns w:=⟨h.m.aQ i nn num ls,h.z,h.oq,h.ot⟩
theorem sW.to {Y:Nat->Prop} {U Lo:List Lb} {m0:Int} {X:Int->Prop} {S S0:Kn} {C:Va->Prop} {n:Nat} {w:World} {e:Ending} {w':World} {ls:List Stp} {x:Stp} (h:sW Y U Lo m0 X S C n w e w') (h1:eX m0 S C->eX m0 S0 x.cst.holds) (h2:∀S' ns',Done U S S' C n->dL U Lo m0 X S'->fK m0 S'->fG S' ns'->iB U Lo m0 (ls++[x]) S' ns'):DoR Y U Lo m0 ls x S0 w e w':=by
 obtain ⟨f,g,Q,l,c,er,he,H⟩:=h;refine ⟨f,g,Q,l,c,er,he,aC ⟨H.out.1,?_⟩⟩;rcases H.out.2 with ⟨a,b⟩|⟨a,S',ns',vs',b1,b2,b3,b4,b5,b6,b7,b8⟩
 ·exact .inl ⟨a,h1 b⟩
 ·exact .inr ⟨a,S',ns',vs',b1,b2,b3,b4,h2 S' ns' b5 b6 b7 b8⟩
theorem U8 {Y:Nat->Prop} {U Lo:List Lb} {m0:Int} {X:Int->Prop} {S:Kn} {a b:Ut} {ns:List Int} (hU:∀y∈U,y.size<=9223372036854775807) (ag:Q_ U Lo m0 X S a b) (num:fG S ns) (g0:Int) (Q:Option Addr) (cq:Nat) (vs:List QV) (A B:Option Addr) (xa ca xb cb:Nat) (l:ByteArray) (k n m:Int) (w:World) (hT:fQ Y vs Q (dA S) ns w) (hY:∀k,Y k->k<w.heap.size)
  (aeb:∀W,Below w.heap.size w W->Calls Try.prog 53 #[bS m0 g0 Q vs.length cq,.agg #[.slice A xa ca,.slice B xb cb,.string l,.int .i64 k,.int .i64 n,.int .i64 m]] W (fun e w'=>∃(A1:Option Addr) (c1:Nat) (A2:Option Addr) (c2:Nat),e= .returned (.tuple #[bS m0 S.m Q vs.length cq,.slice A1 (aB pR a).length c1,.slice A2 (aB pR b).length c2])/\
   aM w' w'.heap.size A1 (aB pR a)/\(aB pR a).length<=c1/\aM w' w'.heap.size A2 (aB pR b)/\(aB pR b).length<=c2/\Below W.heap.size W w')):
  Calls Try.prog 20 #[bS m0 g0 Q vs.length cq,.agg #[.slice A xa ca,.slice B xb cb,.string l,.int .i64 k,.int .i64 n,.int .i64 m]] w (sW Y U Lo m0 X S (bF a b) (aJ a+aJ b) w):=by
 obtain ⟨s1,p1,s2,hwb,hwz⟩:=Rt w m0 g0 Q vs.length cq A B xa ca xb cb l k n m;obtain ⟨wa,gF⟩:∃wa,wa=((w.alloc (.cells #[.int .i64 m0,.int .i64 g0,.slice Q vs.length cq] 29)).alloc (.cells #[.slice A xa ca,.slice B xb cb,.string l,.int .i64 k,.int .i64 n,.int .i64 m] 36)).alloc (.cells #[.int .i64 0,.int .i64 0,.slice none 0 0] 29):=⟨_,rfl⟩;rw [<-gF] at s1 p1 s2 hwb hwz;have HB:=aC hwb;have s2:bD wa (w.heap.size+1+1) 0 0 none 0 0:=s2;have HS:=aC s2;have HP:=aC (aeb wa hwb);have xq:=aC hY
 have HA:Hid (∀(W:World) (A1 A2:Option Addr) (c1 c2:Nat),Below wa.heap.size wa W->aM W W.heap.size A1 (aB pR a)->(aB pR a).length<=c1->aM W W.heap.size A2 (aB pR b)->(aB pR b).length<=c2->
   Calls Try.prog 54 #[bS m0 S.m Q vs.length cq,.slice A1 (aB pR a).length c1,.slice A2 (aB pR b).length c2] W (sW (fun k=>Y k\/k=w.heap.size+1+1) U Lo m0 X S (bF a b) (aJ a+aJ b) W)):=aC fun W A1 A2 c1 c2 hW t1 l1 t2 l2=>
  Rs hU _ _ S a b rfl rfl ag _ ns vs Q cq A1 A2 c1 c2 W (fun k hk=>by
   have h1:=hW.size;rcases hk with hk|rfl
   ·have:=hY k hk;omega
   ·omega) num (((hT.wider (fun k hk=>by
   rcases hk with hk|rfl
   ·exact .inl hk
   ·exact .inr (by omega))).step hwb).step hW) t1 l1 t2 l2
 obtain ⟨LA,Bf⟩:∃LA,LA=(aB pR a).length:=⟨_,rfl⟩;obtain ⟨LB,Bg⟩:∃LB,LB=(aB pR b).length:=⟨_,rfl⟩;rw [<-Bf,<-Bg] at HP HA;obtain ⟨Sm,Ay⟩:∃Sm,Sm=S.m:=⟨_,rfl⟩;rw [<-Ay] at HP HA;obtain ⟨nq,hnq⟩:∃nq,nq=vs.length:=⟨_,rfl⟩;rw [<-hnq] at s1 HP HA gF ⊢;clear aeb hT hY num ag hU Bf Bg Ay hnq;go_enter Try.func20,Try.ntmps20;go_upto_region 1 with fail
 rw [<-gF];obtain ⟨a0,a1,a2⟩:=s1.at_;obtain ⟨x0,x1,x2,x3,x4,x5⟩:=p1.at_;clear s1 p1 s2 hwb hwz gF;go_wp2_with fail;refine HP.out.mono ?_;rintro e w2 ⟨A1,c1,A2,c2,rfl,t1,l1,t2,l2,hb⟩;have HB2:=aC hb;have HT:=aC (Gw t1 (Gw l1 (Gw t2 l2)));clear t1 l1 t2 l2 hb HP a0 a1 a2 x0 x1 x2 x3 x4 x5;go_upto_region 2 with fail
 obtain ⟨w3,hw3⟩:∃w3,w3=w2.alloc (.cells #[.int .i64 m0,.int .i64 Sm,.slice Q nq cq] 29):=⟨_,rfl⟩;rw [<-hw3];have Db:Below w2.heap.size w2 w3:=by rw [hw3];exact ak (aT _ _) _
 have s3:bD w3 w2.heap.size m0 Sm Q nq cq:=by rw [hw3];exact bD.new _ _ _ _ _ _
 have HB3:Hid (Below wa.heap.size wa w3):=aC (ah HB2.out Db);have hag:=aC (HA.out w3 A1 A2 c1 c2 HB3.out ((HT.out.1.below Db).more Db.size) HT.out.2.1 ((HT.out.2.2.1.below Db).more Db.size) HT.out.2.2.2);obtain ⟨y0,y1,y2⟩:=s3.at_;clear hw3 Db s3 HA HT HB2;go_wp2_with fail;refine hag.out.mono ?_;rintro e w4 ⟨f,g,Q9,l9,c9,er,rfl,H9⟩;have Uw:Hid (Below wa.heap.size wa w4):=aC (ah HB3.out H9.out.1);have s4:=HS.out.later Uw.out;have k1:=s4.at_;have k2:=s4.fz;have hbz:Below w.heap.size w (dB w4 (w.heap.size+1+1) f g Q9 l9 c9):=aY (ah HB.out Uw.out) (by omega) _ _ _;have hfr:Fr (fun q=>q=w.heap.size+1+1) w4 (dB w4 (w.heap.size+1+1) f g Q9 l9 c9):=gY (X:=fun q=>q=w.heap.size+1+1) (Fr.refl _ _) (.inl rfl) _ _ _;have HZ:Hid (Below w.heap.size w (dB w4 (w.heap.size+1+1) f g Q9 l9 c9)/\jG Y U Lo m0 X S (bF a b) (aJ a+aJ b) f g Q9 l9 er (dB w4 (w.heap.size+1+1) f g Q9 l9 c9)):=aC ⟨hbz,jG.narrow H9.out.2 hfr (fun k hk=>.inr hk) (fun k hk=>.inl hk)⟩;have s9:bD (dB w4 (w.heap.size+1+1) f g Q9 l9 c9) (w.heap.size+1+1) f g Q9 l9 c9:=s4.dB _ _ _ _ _;have HS9:=aC s9;clear s4 hbz hfr H9 hag Uw HB3 s9 y0 y1 y2;go_wp2_with fail;obtain ⟨z0,z1,z2⟩:=HS9.out.at_;exact bodyPost_ret (v:=.tuple #[bS f g Q9 l9 c9,.int .i64 er]) (by simp [results,Try.results20,go_sem,z0,z1,z2]) rfl ⟨f,g,Q9,l9,c9,er,rfl,HZ⟩
theorem aaY {Y:Nat->Prop} {U Lo:List Lb} {m0:Int} {ls:List Stp} {x:Stp} {S:Kn} {ns:List Int} (hU:∀y∈U,y.size<=9223372036854775807) (hR:iB U Lo m0 ls S ns) (hg:GoodS U m0 x) (hl:ls.length<=12) (h8:m0<=8) (hlo:Lo.length<=30) (hL:x.l.size≠0->x.l∈Lo) (hrt:x.l.size=0->(bB x.a).s=pR/\(bB x.b).s=pR)
  (Q:Option Addr) (cq:Nat) (vs:List QV) (A B:Option Addr) (ca cb:Nat) (w:World) (hT:fQ Y vs Q (dA S) ns w) (hY:∀k,Y k->k<w.heap.size) (tA:aM w w.heap.size A x.a) (tB:aM w w.heap.size B x.b) (lA:x.a.length<=ca) (lB:x.b.length<=cb):
  Calls Try.prog 20 #[bS m0 S.m Q vs.length cq,.agg #[.slice A x.a.length ca,.slice B x.b.length cb,.string x.l,.int .i64 x.k,.int .i64 x.n,.int .i64 x.m]] w (DoR Y U Lo m0 ls x S w):=by
 have hm:=hR.run.m;have hm0:=hR.j.kg.nn.m
 cases hle:(x.l.toList==([]:List UInt8)) with
 |true=>
  have hx:x.l.size=0:=by simpa [fH] using (show x.l.toList.isEmpty=true by simpa using hle)
  obtain ⟨ga,gb,la,lb⟩:=hg.pair hx;have hc:=hg.c;unfold Stp.cst at hc;rw [if_pos hx] at hc;obtain ⟨a,ha⟩:=YK ga la hc.1 (hrt hx).1;obtain ⟨b,hb⟩:=YK gb lb hc.2 (hrt hx).2;have ag:=hR.aiG hg hx hl h8 hlo ha hb;have aw:Q_ U Lo m0 (fun _=>False) S a b:=⟨ag,ha.sm.told.wf,hb.sm.told.wf,zk (ha.sm.len _) (by omega),zk (hb.sm.len _) (by omega)⟩;refine (U8 hU aw hR.num S.m Q cq vs A B x.a.length ca x.b.length cb x.l x.k x.n x.m w hT hY fun W hW=>?_).mono ?_
  ·refine (ad_ m0 S.m Q vs.length cq A B x.a.length ca x.b.length cb x.l x.k x.n x.m W hle).mono ?_
   rintro e w' ⟨rfl,hb'⟩;have hz:=ah hW hb';rw [ha.fl,hb.fl];exact ⟨A,ca,B,cb,rfl,(tA.below hz).more hz.size,lA,(tB.below hz).more hz.size,lB,hb'⟩
  ·intro e w' h
   refine h.to (fun hn=>?_) fun S' ns' d j f n=>hR.XG hg hx ha hb d j f n;rw [ZU hx,<-YL ha hb]
   exact hn
 |false=>
  have hx:x.l.size≠0:=fun e=>by
   have:x.l.toList.isEmpty=true:=by simpa [fH] using e
   rw [show (x.l.toList==([]:List UInt8))=true by simpa using this] at hle
   cases hle
  have h3:=hR.opn hg hx hl h8 hlo (hL hx);obtain ⟨FP,ag,num⟩:=h3;obtain ⟨g1,g2,g3,g4,g5,g6,g7,g8⟩:=id FP
  have aw:Q_ U Lo m0 (fun n=>n=S.m) (S.aQ [x.l]) (aS x.n) (fV x.k x.l x.m S.m):=by
   refine ⟨ag,U6 g4,aaX g1 g2 g6 hm0,?_,?_⟩
   ·rw [U7];simp
   ·rw [PD _ _ _ _ g1];simp
  refine (U8 hU aw num S.m Q cq vs A B x.a.length ca x.b.length cb x.l x.k x.n x.m w (hT.aQ hR.j.kg.inv hR.j.kg.nn hR.num [x.l]) hY fun W hW=>?_).mono ?_
  ·refine (XF m0 S.m Q vs.length cq A B x.a.length ca x.b.length cb x.l x.k x.n x.m W hle hm0 (by omega)).mono ?_
   rintro e w' ⟨An,A',c',rfl,t1,t2,hc',hb'⟩;rw [U7,PD _ _ _ _ g1];exact ⟨An,1,A',c',rfl,t1,bN _,t2,hc',hb'⟩
  ·intro e w' h
   refine h.to (fun hn=>?_) fun S' ns' d j f n=>hR.acd hg hx d j f n;rw [Lu hx];exact Wz FP hR.j.kg hR.j.hm hn
theorem Ru (next:Int) (w:World):Calls Try.prog 18 #[.int .i64 next] w fun e w'=>e= .returned (bS next next none 0 0)/\Below w.heap.size w w':=by
 go_enter Try.func18,Try.ntmps18;go_wp2_with fail;obtain ⟨z0,z1,z2⟩:=(bD.new w next next none 0 0).at_;exact bodyPost_ret (v:=bS next next none 0 0) (by simp [results,Try.results18,go_sem,z0,z1,z2]) rfl ⟨rfl,ak (aT _ _) _⟩
def Km (U:List Lb) (s m m0:Nat) (l:List Stp) (x:Stp) (w:World) (e:Ending) (w':World):Prop:=
 ∃ok:Bool,e= .returned (.int .i64 (if ok=true then 0 else 9))/\Fr (SX s m) w w'/\(ok=false->Bad (m0:Int) (mM (l++[x])))/\(ok=true->∃S',oC U (m0:Int) (l++[x]) S'/\oI U s m m0 w' S')
theorem afD (U:List Lb) (s m m0:Nat) (l:List Stp) (x:Stp) (S:Kn) (w:World) (A B:Option Addr) (ca cb:Nat) (hR:oC U (m0:Int) l S) (hS:oI U s m m0 w S) (g:GoodS U (m0:Int) x) (hll:l.length<=100) (hm0:m0<=8)
  (hA:aM w w.heap.size A x.a) (hB:aM w w.heap.size B x.b):
  Calls Try.prog 19 #[pk s,stV x A ca B cb] w (Km U s m m0 l x w):=by
 have hbx:=ak (aT w.heap.size w) (.cells #[.slice A x.a.length ca,.slice B x.b.length cb,.string x.l,.int .i64 x.k,.int .i64 x.n,.int .i64 x.m] 36)
 cases hz:(x.l.toList==([]:List UInt8)) with
 |true=>
  have hz0:x.l.size=0:=by simpa [fH] using (show x.l.toList.isEmpty=true by simpa using hz)
  obtain ⟨g1,g2,g3,g4⟩:=g.pair hz0;have hc:=g.c;unfold Stp.cst at hc;rw [if_pos hz0] at hc;have t1:=hc.1.tg hS.hL hS.fm;have t2:=hc.2.tg hS.hL hS.fm;have d1:=qh g1;have d2:=qh g2;have hm:=hR.m;have hcall:=aC (yj U s m m0 S _ A B ca cb x.a x.b (hS.aU hbx) ((hA.below hbx).more hbx.size) ((hB.below hbx).more hbx.size) (by omega) (by omega) g1 g2 t1 t2 (by omega));have HR:=aC (Gw hR (Gw g (Gw hz0 hbx)));unfold pk at hcall ⊢;clear hR hS g hA hB g1 g2 g3 g4 hc t1 t2 d1 d2 hm hbx hz0;go_enter Try.func19,Try.ntmps19;go_wp2_with fail;refine hcall.out.mono ?_;clear hcall;rintro e w1 ⟨ok,rfl,hf,hno,hyes⟩;have H1:=aC (Gw hf (Gw hno hyes));clear hf hno hyes
  have hfin:Km U s m m0 l x w (.returned (.int .i64 (if ok=true then 0 else 9))) w1:=by
   refine ⟨ok,rfl,(Fr.below HR.out.2.2.2).trans H1.out.1,fun e=>?_,fun e=>?_⟩
   ·rcases H1.out.2.1 e with d|⟨S',d,hn⟩
    ·exact HR.out.1.ahh HR.out.2.1 HR.out.2.2.1 d
    ·exact (HR.out.1.pair HR.out.2.1 HR.out.2.2.1 d).2 hn
   ·obtain ⟨S',d,hfit,hS'⟩:=H1.out.2.2 e
    exact ⟨S',(HR.out.1.pair HR.out.2.1 HR.out.2.2.1 d).1 hfit,hS'⟩
  have HF:=aC hfin;clear hfin;generalize (if ok=true then (0:Int) else 9)=v at*;go_wp2_with fail;go_ret
  exact HF.out
 |false=>
  have hz0:x.l.size≠0:=fun h=>by
   have:=fH x.l;rw [decide_eq_true h] at this;rw [List.isEmpty_iff.1 this] at hz
   cases hz
  have hc:=g.c;unfold Stp.cst at hc;rw [if_neg hz0] at hc;obtain ⟨hkg,ht1,ht2⟩:=abW hc hR.run.kg hS.hL hS.fm;obtain ⟨c1,c2,c3,c4,c5,c6,c7⟩:=hc;have hm:=hR.m;have hmk:=hR.run.kg.nn.m;have hun:=zV hR.run.kg.inv hR.run.kg.nn [x.l]
  have aiI:Hid (∀W C cc,Below w.heap.size w W->aM W W.heap.size C [⟨8,pR,x.m⟩]->Calls Try.prog 37 #[.pointer (some ⟨s,0,none⟩),.int .i64 x.k,.string x.l,.slice C 1 cc] W (fun e w'=>∃A' c',e= .returned (.slice A' 3 c')/\fA w' W.heap.size A' c' (Cg x.k x.l ⟨8,pR,x.m⟩ S.m)/\Fr (SX s m) W w'/\oI U s m m0 w' (S.aQ [x.l]))):=aC fun W C cc hW hC=>by
   refine (Xm s m m0 S x.k x.l C cc ⟨8,pR,x.m⟩ W (hS.lg.aU hW) hC hmk (by omega)).mono ?_;rintro e w' ⟨A',c',he,h1,h2,h3⟩;refine ⟨A',c',he,h1,h2,⟨h3 _ rfl rfl,hkg,hS.hU,hS.f1,by show (m0:Int)<=S.m+1;have:=hS.fm;omega,fun n hn=>?_⟩⟩;show (if n=S.m then some [x.l] else S.L n)=none;rw [if_neg (by have:=hS.fm;omega)];exact hS.hL n hn
  have HAg:Hid (∀W C cc D cd,oI U s m m0 W (S.aQ [x.l])->aM W W.heap.size C [⟨8,pR,x.n⟩]->aM W W.heap.size D (Cg x.k x.l ⟨8,pR,x.m⟩ S.m)->Calls Try.prog 33 #[.pointer (some ⟨s,0,none⟩),.slice C 1 cc,.slice D 3 cd] W (Uz U s m m0 (S.aQ [x.l]) (aS x.n) (fV x.k x.l x.m S.m) W)):=aC fun W C cc D cd hW hC hD=>by
   obtain ⟨v1,v2⟩:=Yb c4;obtain ⟨o1,o2⟩:=abY (q:=S.m) c1 c2 c6 hmk;have d1:=qh v1;have d2:=qh o1
   have h:=yj U s m m0 (S.aQ [x.l]) W C D cc cd [⟨8,pR,x.n⟩] (Cg x.k x.l ⟨8,pR,x.m⟩ S.m) hW hC hD (by simp) (by simp [Cg]) v1 o1 (by rw [v2];exact ht1) (by rw [o2];exact ht2) (by
    have e1:(Cg x.k x.l ⟨8,pR,x.m⟩ S.m).length=3:=rfl;rw [e1] at d2;simp only [List.length_singleton] at d1;have e2:(S.aQ [x.l]).m=S.m+1:=rfl;omega)
   rw [v2,o2] at h;exact h
  have HR:=aC (Gw hR (Gw g (Gw hz0 hbx)));have hlt:=l7 hS.lg
  have Bc:Hid (∀v,Fr (SX s m) (w.alloc (.cells #[.slice A x.a.length ca,.slice B x.b.length cb,.string x.l,.int .i64 x.k,.int .i64 x.n,.int .i64 x.m] 36)) v->Hid (Fr (SX s m) (w.alloc (.cells #[.slice A x.a.length ca,.slice B x.b.length cb,.string x.l,.int .i64 x.k,.int .i64 x.n,.int .i64 x.m] 36)) v)/\v.cell? ⟨w.heap.size,2,none⟩=some (.string x.l)/\v.cell? ⟨w.heap.size,3,none⟩=some (.int .i64 x.k)/\v.cell? ⟨w.heap.size,4,none⟩=some (.int .i64 x.n)/\v.cell? ⟨w.heap.size,5,none⟩=some (.int .i64 x.m)):=aC fun v hv=>by
   have h:=(hv.block w.heap.size (by simp) (fun h=>by have:=hlt _ h;omega)).trans (heap_alloc_new w (.cells #[.slice A x.a.length ca,.slice B x.b.length cb,.string x.l,.int .i64 x.k,.int .i64 x.n,.int .i64 x.m] 36));refine ⟨aC hv,?_,?_,?_,?_⟩<;>simp [adw,h]
  have HL:=aC hlt;clear hlt;have hz0':((w.alloc (.cells #[.slice A x.a.length ca,.slice B x.b.length cb,.string x.l,.int .i64 x.k,.int .i64 x.n,.int .i64 x.m] 36))).heap.size=w.heap.size+1:=by simp
  have TM1:Hid (aM (((w.alloc (.cells #[.slice A x.a.length ca,.slice B x.b.length cb,.string x.l,.int .i64 x.k,.int .i64 x.n,.int .i64 x.m] 36)).alloc (.cells #[.int .i64 8,.string ⟨#[]⟩,.int .i64 x.n] 48)).alloc (.cells #[.int .i64 8,.string ⟨#[]⟩,.int .i64 x.m] 48)).drew (((w.alloc (.cells #[.slice A x.a.length ca,.slice B x.b.length cb,.string x.l,.int .i64 x.k,.int .i64 x.n,.int .i64 x.m] 36)).alloc (.cells #[.int .i64 8,.string ⟨#[]⟩,.int .i64 x.n] 48)).alloc (.cells #[.int .i64 8,.string ⟨#[]⟩,.int .i64 x.m] 48)).drew.heap.size (some ⟨w.heap.size+1+1,0,none⟩) [⟨8,pR,x.m⟩]):=aC (by
   have h:=gV ((w.alloc (.cells #[.slice A x.a.length ca,.slice B x.b.length cb,.string x.l,.int .i64 x.k,.int .i64 x.n,.int .i64 x.m] 36)).alloc (.cells #[.int .i64 8,.string ⟨#[]⟩,.int .i64 x.n] 48)) [⟨8,pR,x.m⟩] #[.int .i64 8,.string ⟨#[]⟩,.int .i64 x.m] rfl;simp only [ae9] at h;exact (h.more (by simp)).drew)
  have TN1:Hid (aM (((w.alloc (.cells #[.slice A x.a.length ca,.slice B x.b.length cb,.string x.l,.int .i64 x.k,.int .i64 x.n,.int .i64 x.m] 36)).alloc (.cells #[.int .i64 8,.string ⟨#[]⟩,.int .i64 x.n] 48)).alloc (.cells #[.int .i64 8,.string ⟨#[]⟩,.int .i64 x.m] 48)).drew (((w.alloc (.cells #[.slice A x.a.length ca,.slice B x.b.length cb,.string x.l,.int .i64 x.k,.int .i64 x.n,.int .i64 x.m] 36)).alloc (.cells #[.int .i64 8,.string ⟨#[]⟩,.int .i64 x.n] 48)).alloc (.cells #[.int .i64 8,.string ⟨#[]⟩,.int .i64 x.m] 48)).drew.heap.size (some ⟨w.heap.size+1,0,none⟩) [⟨8,pR,x.n⟩]):=aC (by
   have h:=gV (w.alloc (.cells #[.slice A x.a.length ca,.slice B x.b.length cb,.string x.l,.int .i64 x.k,.int .i64 x.n,.int .i64 x.m] 36)) [⟨8,pR,x.n⟩] #[.int .i64 8,.string ⟨#[]⟩,.int .i64 x.n] rfl;simp only [ae9] at h;exact ((h.below (ak (aT _ _) _ |>.mono (by simp))).more (by simp)).drew)
  have TN2:Hid (aM (((w.alloc (.cells #[.slice A x.a.length ca,.slice B x.b.length cb,.string x.l,.int .i64 x.k,.int .i64 x.n,.int .i64 x.m] 36)).alloc (.cells #[.int .i64 8,.string ⟨#[]⟩,.int .i64 x.m] 48)).alloc (.cells #[.int .i64 8,.string ⟨#[]⟩,.int .i64 x.n] 48)).drew (((w.alloc (.cells #[.slice A x.a.length ca,.slice B x.b.length cb,.string x.l,.int .i64 x.k,.int .i64 x.n,.int .i64 x.m] 36)).alloc (.cells #[.int .i64 8,.string ⟨#[]⟩,.int .i64 x.m] 48)).alloc (.cells #[.int .i64 8,.string ⟨#[]⟩,.int .i64 x.n] 48)).drew.heap.size (some ⟨w.heap.size+1+1,0,none⟩) [⟨8,pR,x.n⟩]):=aC (by
   have h:=gV ((w.alloc (.cells #[.slice A x.a.length ca,.slice B x.b.length cb,.string x.l,.int .i64 x.k,.int .i64 x.n,.int .i64 x.m] 36)).alloc (.cells #[.int .i64 8,.string ⟨#[]⟩,.int .i64 x.m] 48)) [⟨8,pR,x.n⟩] #[.int .i64 8,.string ⟨#[]⟩,.int .i64 x.n] rfl;simp only [ae9] at h;exact (h.more (by simp)).drew)
  have TM2:Hid (aM (((w.alloc (.cells #[.slice A x.a.length ca,.slice B x.b.length cb,.string x.l,.int .i64 x.k,.int .i64 x.n,.int .i64 x.m] 36)).alloc (.cells #[.int .i64 8,.string ⟨#[]⟩,.int .i64 x.m] 48)).alloc (.cells #[.int .i64 8,.string ⟨#[]⟩,.int .i64 x.n] 48)).drew (((w.alloc (.cells #[.slice A x.a.length ca,.slice B x.b.length cb,.string x.l,.int .i64 x.k,.int .i64 x.n,.int .i64 x.m] 36)).alloc (.cells #[.int .i64 8,.string ⟨#[]⟩,.int .i64 x.m] 48)).alloc (.cells #[.int .i64 8,.string ⟨#[]⟩,.int .i64 x.n] 48)).drew.heap.size (some ⟨w.heap.size+1,0,none⟩) [⟨8,pR,x.m⟩]):=aC (by
   have h:=gV (w.alloc (.cells #[.slice A x.a.length ca,.slice B x.b.length cb,.string x.l,.int .i64 x.k,.int .i64 x.n,.int .i64 x.m] 36)) [⟨8,pR,x.m⟩] #[.int .i64 8,.string ⟨#[]⟩,.int .i64 x.m] rfl;simp only [ae9] at h;exact ((h.below (ak (aT _ _) _ |>.mono (by simp))).more (by simp)).drew)
  have TM3:Hid (aM ((w.alloc (.cells #[.slice A x.a.length ca,.slice B x.b.length cb,.string x.l,.int .i64 x.k,.int .i64 x.n,.int .i64 x.m] 36)).alloc (.cells #[.int .i64 8,.string ⟨#[]⟩,.int .i64 x.m] 48)).drew ((w.alloc (.cells #[.slice A x.a.length ca,.slice B x.b.length cb,.string x.l,.int .i64 x.k,.int .i64 x.n,.int .i64 x.m] 36)).alloc (.cells #[.int .i64 8,.string ⟨#[]⟩,.int .i64 x.m] 48)).drew.heap.size (some ⟨w.heap.size+1,0,none⟩) [⟨8,pR,x.m⟩]):=aC (by
   have h:=gV (w.alloc (.cells #[.slice A x.a.length ca,.slice B x.b.length cb,.string x.l,.int .i64 x.k,.int .i64 x.n,.int .i64 x.m] 36)) [⟨8,pR,x.m⟩] #[.int .i64 8,.string ⟨#[]⟩,.int .i64 x.m] rfl;simp only [ae9] at h;exact (h.more (by simp)).drew)
  clear hz0';unfold pk;clear hR hS g hA hB hkg ht1 ht2 c1 c2 c3 c4 c5 c6 c7 hm hmk hun hbx hz0;go_enter Try.func19,Try.ntmps19;go_wp2_with fail
  go_region_held3 (fun v=>Hid (Fr (SX s m) (w.alloc (.cells #[.slice A x.a.length ca,.slice B x.b.length cb,.string x.l,.int .i64 x.k,.int .i64 x.n,.int .i64 x.m] 36)) v)/\v.cell? ⟨w.heap.size,2,none⟩=some (.string x.l)/\v.cell? ⟨w.heap.size,3,none⟩=some (.int .i64 x.k)/\v.cell? ⟨w.heap.size,4,none⟩=some (.int .i64 x.n)/\v.cell? ⟨w.heap.size,5,none⟩=some (.int .i64 x.m))
   (first
    |exact Bc.out _ (Fr.below (aT _ _).drew)
    |exact Bc.out _ (Fr.below (ak (aT _ _) _))
    |exact Bc.out _ (Fr.below (ak (aT _ _) _).drew)
    |exact Bc.out _ (Fr.below (ak (ak (aT _ _) _) _))
    |exact Bc.out _ (Fr.below (ak (ak (aT _ _) _) _).drew)
    |exact Bc.out _ F1.out
    |exact Bc.out _ H2.out.1
    |exact Bc.out _ (F1.out.trans (Fr.below (ak (aT _ _) _))))
   (first
    |(go_at_call 37;(with_reducible refine (aiI.out _ _ _ ?_ ?_).mono ?_);(first|exact (ak (ak HR.out.2.2.2 _) _).drew|exact (ak HR.out.2.2.2 _).drew);(first|exact TM1.out|exact TM2.out|exact TM3.out);rintro e w1 ⟨A',c',rfl,ho,hf,hg⟩;have F1:Hid (Fr (SX s m) (w.alloc (.cells #[.slice A x.a.length ca,.slice B x.b.length cb,.string x.l,.int .i64 x.k,.int .i64 x.n,.int .i64 x.m] 36)) w1):=aC (Fr.trans (Fr.below (X:=SX s m) (by first|exact (ak (ak (aT _ _) _) _).drew|exact (ak (aT _ _) _).drew)) hf);have O1:=aC (Gw ho (Gw hg hf));clear ho hf hg)
    |(go_at_call 33;(with_reducible refine (HAg.out _ _ _ _ _ ?_ ?_ ?_).mono ?_);(first|exact O1.out.2.1|exact O1.out.2.1.aU (ak (aT _ _) _));(first|exact (TN1.out.frame O1.out.2.2 (bN _) fun _ a ha e=>by injection ha with ha;subst ha;have:=HL.out _ e;simp at this;omega).more O1.out.2.2.size|exact (TN2.out.frame O1.out.2.2 (bN _) fun _ a ha e=>by injection ha with ha;subst ha;have:=HL.out _ e;simp at this;omega).more O1.out.2.2.size|exact (gV w1 [⟨8,pR,x.n⟩] #[.int .i64 8,.string ⟨#[]⟩,.int .i64 x.n] rfl).more (by simp));(first|exact aA.g_ O1.out.1|exact ((aA.g_ O1.out.1).below (ak (aT _ _) _)).more (by simp));rintro e w2 ⟨ok,rfl,hf2,hno,hyes⟩;have H2:=aC (Gw (F1.out.trans (by first|exact hf2|exact (Fr.below (ak (aT _ _) _)).trans hf2)) (Gw hno hyes));clear hf2 hno hyes;generalize hv:(if ok=true then (0:Int) else 9)=v;have HV:=aC hv;clear hv))
  all_goals
   have hfin:Km U s m m0 l x w (.returned (.int .i64 v)) w2:=by
    refine ⟨ok,by rw [HV.out],(Fr.below HR.out.2.2.2).trans H2.out.1,fun e=>?_,fun e=>?_⟩
    ·rcases H2.out.2.1 e with d|⟨S',d,hn⟩
     ·exact HR.out.1.ajA HR.out.2.1 HR.out.2.2.1 d
     ·exact (HR.out.1.opn HR.out.2.1 HR.out.2.2.1 d).2 hn
    ·obtain ⟨S',d,hfit,hS'⟩:=H2.out.2.2 e
     exact ⟨S',(HR.out.1.opn HR.out.2.1 HR.out.2.2.1 d).1 hfit,hS'⟩
   have HF:=aC hfin;clear hfin;go_wp2_with fail;go_ret;exact HF.out
theorem wW.at_ {w:World} {B:Nat} {A:Option Addr} {vs:List zf} {xs:List Stp} (hr:Ae w B A vs) (hs:wW w B vs xs) {i:Nat} {x:Stp} (hx:xs[i]?=some x):
  ∃(b o:Nat) (A1 B1:Option Addr) (ca cb:Nat),A=some ⟨b,o,none⟩/\b<B/\(w.cell? ⟨b,o+i*6,none⟩=some (.slice A1 x.a.length ca)/\w.cell? ⟨b,o+i*6+1,none⟩=some (.slice B1 x.b.length cb)/\w.cell? ⟨b,o+i*6+2,none⟩=some (.string x.l)/\
   w.cell? ⟨b,o+i*6+3,none⟩=some (.int .i64 x.k)/\w.cell? ⟨b,o+i*6+4,none⟩=some (.int .i64 x.n)/\w.cell? ⟨b,o+i*6+5,none⟩=some (.int .i64 x.m))/\aM w B A1 x.a/\aM w B B1 x.b:=by
 obtain ⟨v,hv⟩:=aD (l:=vs) (i:=i) (by rw [hs.1];exact bf hx);obtain ⟨b,o,hA,hb,c0,c1,c2,c3,c4,c5⟩:=aX.step hr hv;obtain ⟨e1,e2,e3,e4,e5,t1,_,e6,t2,_⟩:=hs.2 i v x hv hx;rw [e5] at c0;rw [e6] at c1;rw [e1] at c2;rw [e2] at c3;rw [e3] at c4;rw [e4] at c5;exact ⟨b,o,v.a.1,v.b.1,v.a.2.2,v.b.2.2,hA,hb,⟨c0,c1,c2,c3,c4,c5⟩,t1,t2⟩
theorem wW.later {w w':World} {A:Option Addr} {vs:List zf} {xs:List Stp} (hr:Ae w w.heap.size A vs) (hs:wW w w.heap.size vs xs) (hb:Below w.heap.size w w') {i:Nat} {x:Stp} (hx:xs[i]?=some x):
  ∃(b o:Nat) (A1 B1:Option Addr) (ca cb:Nat),A=some ⟨b,o,none⟩/\b<w'.heap.size/\(w'.cell? ⟨b,o+i*6,none⟩=some (.slice A1 x.a.length ca)/\w'.cell? ⟨b,o+i*6+1,none⟩=some (.slice B1 x.b.length cb)/\w'.cell? ⟨b,o+i*6+2,none⟩=some (.string x.l)/\
   w'.cell? ⟨b,o+i*6+3,none⟩=some (.int .i64 x.k)/\w'.cell? ⟨b,o+i*6+4,none⟩=some (.int .i64 x.n)/\w'.cell? ⟨b,o+i*6+5,none⟩=some (.int .i64 x.m))/\aM w' w.heap.size A1 x.a/\aM w' w.heap.size B1 x.b/\b<w.heap.size:=by
 obtain ⟨b,o,A1,B1,ca,cb,hA,hlt,hc,t1,t2⟩:=wW.at_ (hr.below hb) (hs.below hb) hx;exact ⟨b,o,A1,B1,ca,cb,hA,Nat.lt_of_lt_of_le hlt hb.size,hc,t1,t2,hlt⟩
theorem aaZ (next:Int) (A:Option Addr) (c:Nat) (vs:List zf) (xs:List Stp) (w:World) (hr:Ae w w.heap.size A vs) (hs:wW w w.heap.size vs xs) (hl:vs.length<=9223372036854775807) (hok:∀x∈xs,x.Ok):
  Calls Try.prog 15 #[.int .i64 next,.slice A vs.length c] w fun e w'=>e= .returned (.bool (z8 next xs))/\Below w.heap.size w w':=by
 have H:=aC (Gw hr hs);have HO:=aC hok;have hlx:=aC hs.1;clear hr hs hok;go_enter Try.func15,Try.ntmps15;by_cases c1:next<0
 ·go_wp2_with fail
  go_ret;exact ⟨aN (by unfold z8;rw [decide_eq_false (show ¬(0<=next) by omega)];rfl),aT _ _⟩
 ·by_cases c2:8<next
  ·go_wp2_with fail
   go_ret;exact ⟨aN (by unfold z8;rw [decide_eq_true (show 0<=next by omega),decide_eq_false (show ¬(next<=8) by omega)];rfl),aT _ _⟩
  ·by_cases c3:(12:Int)<(vs.length:Int)
   ·go_wp2_with fail
    go_ret;exact ⟨aN (by unfold z8;rw [decide_eq_false (show ¬(xs.length<=12) by have:=hlx.out;omega)];simp),aT _ _⟩
   ·have HM:Hid (z8 next xs=xs.all (rY next)):=aC (by unfold z8;rw [decide_eq_true (show 0<=next by omega),decide_eq_true (show next<=8 by omega),decide_eq_true (show xs.length<=12 by have:=hlx.out;omega)];rfl)
    have alM:vs.length<=12:=by omega
    go_wp2_with fail;go_loopw [5] (fun s5 wr=>∃i:Nat,s5= .int .i64 i/\i<=vs.length/\Hid (Below w.heap.size w wr/\(xs.take i).all (rY next)=true)) (fun s5 _=>vs.length-(intOf s5).toNat)
    case atStart=>exact ⟨0,rfl,Nat.zero_le _,aC ⟨aT _ _,by simp⟩⟩
    case round=>
     obtain ⟨i,rfl,hi,M⟩:=hrel;by_cases hp:i<vs.length
     ·obtain ⟨x,hx⟩:=aD (show i<xs.length by rw [<-hlx.out];exact hp)
      obtain ⟨b1,o1,A1,B1,ca,cb,rfl,hbz,⟨q0,q1,q2,q3,q4,q5⟩,t1,t2,_⟩:=wW.later H.out.1 H.out.2 M.out.1 hx;have hsz:=M.out.1.size;have hm:=aC (aea x A1 B1 ca cb next wr (t1.more hsz) (t2.more hsz) (HO.out x (List.mem_of_getElem? hx)));have Hx:=aC hx;clear hx t1 t2;go_wp2_with fail;refine hm.out.mono ?_;clear hm;rintro e w1 ⟨rfl,hb⟩;have Rv:=aC (ah M.out.1 hb);clear hb
      cases hmb:rY next x with
      |false=>
       have HB:=aC hmb;clear hmb;go_wp2_with fail;go_ret
       exact ⟨aN (by rw [HM.out,Qs Hx.out HB.out]),Rv.out⟩
      |true=>
       have HB:=aC hmb;clear hmb;go_wp2_with fail;go_roundw
       case rel=>exact ⟨i+1,by go_num,hp,aC ⟨Rv.out,Ii Hx.out M.out.2 HB.out⟩⟩
       case measure=>simp [intOf];omega
     ·have e1:xs.take i=xs:=List.take_of_length_le (by rw [<-hlx.out];omega)
      rw [e1] at M;go_wp2_with fail;go_ret;exact ⟨aN (by rw [HM.out,M.out.2]),M.out.1⟩
structure MS (w:World) (g:Nat):Prop where
 cell:∀(o:Nat) (v:Value),w.cell? ⟨g,o,none⟩=some v->(∀l,v≠ .string l)/\∀p,v≠ .pointer p
 blk:∀c0 c1 c2 c3 c4 t z,w.heap[g]?≠some (.cells #[c0,c1,c2,c3,c4] t z)
section
variable {X:Nat->Prop} {w:World} {g:Nat}
theorem dH.Gt {α:Type} {enc:α->List Value} {size:Nat} {A:Option Addr} {l:List α} (h:dH X size enc w A l) (he:∀x,∃u us,enc x=u::us/\((∃s,u= .string s)\/∃p,u= .pointer p)) (hg:MS w g):dH (fun k=>X k\/k=g) size enc w A l:=fun hl=>by
 obtain ⟨b,o,e,h1,h2,h3⟩:=h hl;refine ⟨b,o,e,fun hb=>?_,h2,h3⟩;rcases hb with hb|rfl
 ·exact h1 hb
 ·cases l with
  |nil=>exact hl rfl
  |cons x l=>
   obtain ⟨u,us,hx,hu⟩:=he x;have:=h3 0 x rfl 0 u (by rw [hx];rfl);obtain ⟨n1,n2⟩:=hg.cell _ _ this;rcases hu with ⟨s,rfl⟩|⟨p,rfl⟩
   ·exact n1 s rfl
   ·exact n2 p rfl
theorem cO.Gt {v:Value} {tl:Option Int} (h:cO X w v tl) (hg:MS w g):cO (fun k=>X k\/k=g) w v tl:=by
 cases tl with
 |none=>exact h
 |some q=>
  obtain ⟨b,e,h1,h2⟩:=h;refine ⟨b,e,fun hb=>?_,h2⟩;rcases hb with hb|rfl
  ·exact h1 hb
  ·exact hg.blk _ _ _ _ _ _ _ h2
theorem aF.Gt {b:Nat} {t:Ut} (h:aF X w b t) (hg:MS w g):aF (fun k=>X k\/k=g) w b t:=by
 induction h with
 |mk b k n fs tl A B ls bs ca cb tv hx hb hn hl hA hB hlen hk ht ih=>
  refine .mk b k n fs tl A B ls bs ca cb tv (fun h=>?_) hb hn hl (hA.Gt (fun x=>⟨_,_,rfl,.inl ⟨_,rfl⟩⟩) hg) (hB.Gt (fun x=>⟨_,_,rfl,.inr ⟨_,rfl⟩⟩) hg) hlen ih (ht.Gt hg);rcases h with h|rfl
  ·exact hx h
  ·exact hg.blk _ _ _ _ _ _ _ hb
theorem bH.Gt {s m:Nat} {first:Int} {S:Kn} (h:bH X s m first w S) (hg:MS w g):bH (fun k=>X k\/k=g) s m first w S:=by
 obtain ⟨a1,a2,a3,a4,l,a5,a6⟩:=h;refine ⟨a1,.inl a2,.inl a3,a4,l,a5,fun n=>?_⟩;have:=a6 n
 cases hk:S.κ n with
 |none=>rw [hk] at this;exact this
 |some t=>
  rw [hk] at this;obtain ⟨b,e,hn⟩:=this;exact ⟨b,e,hn.Gt hg⟩
end
theorem oI.beside {U:List Lb} {s m m0 s2 m2:Nat} {w w':World} {S:Kn} (h:oI U s m m0 w S) (h1:MS w s2) (h2:MS w m2) (hf:Fr (SX s2 m2) w w') (n1:s2≠s/\s2≠m) (n2:m2≠s/\m2≠m):oI U s m m0 w' S:=by
 refine ⟨?_,h.kg,h.hU,h.f1,h.fm,h.hL⟩;have hs:=(h.lg.Gt h1).Gt h2;refine (hs.fr hf fun k _ hk=>?_).more (.inl rfl) (.inr rfl) fun k _ hk=>.inl (.inl hk);rcases hk with rfl|rfl
 ·exact ⟨.inl (.inr rfl),n1.1,n1.2⟩
 ·exact ⟨.inr rfl,n2.1,n2.2⟩
theorem Rx {m0:Nat} {S:Kn} (hf:fK (m0:Int) S):∀xs∈lq [] (gU m0 S),xs.length<=1000000:=fun xs hx=>by
 obtain ⟨h1,_⟩:=WL (m:=20000) (l:=gU m0 S) (fun ys hy=>by
  obtain ⟨n,hn,rfl⟩:=aaN.1 hy;have hn:=acN.1 hn;have h2:=(hf n (by omega) (by omega)).1;have h3:=FJ _ h2 pR;exact ⟨by omega,zZ _ _⟩) [] xs hx
 omega
open Go.ChangeShapes Go.WideShapes Go.ChangeAt Go.WideMaps Go.WideElems Go.RowKit Go.Deep
theorem own:ownKnob Try.prog.godebug=none:=by kernel_rfl
theorem PE:laidOutB Try.prog=true:=by kernel_rfl
theorem MU:Try.prog.cellsOf 48=3:=by kernel_rfl
section
variable {H:Type} {enc:TypeId×Value->H} {W:World} {base:Nat} {d:DataW H} {p:List MemPlace} {v:Value}
theorem AB {n:Int} (h:(Lit.int .i64 n).wf=true): -9223372036854775808<=n/\n<=9223372036854775807:=by
 have e1:IntKind.i64.min= -9223372036854775808:=rfl;have e2:IntKind.i64.max=9223372036854775807:=rfl;simpa [Lit.wf,e1,e2] using h
theorem alN (hv:aft Try.prog W .any base 34 v) (h:DataW.Trod enc Try.prog W 0 (fun _=>true) true 34 v d p):
  ∃(A:Option Addr) (xs:List Nd) (c:Nat),v= .slice A xs.length c/\aM W W.heap.size A xs/\xs.length<=c/\xs.length<=9223372036854775807/\∀x∈xs,x.Ok:=by
 obtain ⟨a0,n0,c0,rfl⟩:=okWide_slice Try.underlying34 hv;obtain ⟨fuel,hf⟩:=h;rcases open_slice Try.underlying34 hf with ⟨hcs,_⟩|⟨a,len,cap,m,n,D,Pl,hcs,_,hl,hcm,hm,_,hel⟩
 ·simp [afj] at hcs
  obtain ⟨rfl,rfl,rfl⟩:=hcs;exact ⟨none,[],0,rfl,aM.nil,bN _,by simp,by simp⟩
 ·simp [afj] at hcs
  obtain ⟨rfl,rfl,rfl⟩:=hcs;simp only [if_true] at hm;subst hm
  have wU:∀i,i<n0->∃x:Nd,x.Ok/\W.cell? (a.add (i*3))=some (.int .i64 x.k)/\W.cell? (a.add (i*3+1))=some (.string x.s)/\W.cell? (a.add (i*3+2))=some (.int .i64 x.n):=fun i hi=>by
   obtain ⟨cs',hc,ht⟩:=hel i (by omega);rw [MU] at hc;obtain ⟨_,hlen,hat⟩:=afk hc
   match cs',hlen with
   |[v0,v1,v2],_=>
    obtain ⟨ys,n',_,_,_,_,yt⟩:=DataW.trod_struct Try.underlying48 ht;have h0:=yt 0 _ rfl;have h1:=yt 1 _ rfl;have h2:=yt 2 _ rfl;change DataW.trod enc Try.prog W 0 _ true n' 3 (([v0,v1,v2].drop 0).take (Try.prog.cellsOf 3))=_ at h0;change DataW.trod enc Try.prog W 0 _ true n' 9 (([v0,v1,v2].drop 1).take (Try.prog.cellsOf 9))=_ at h1;change DataW.trod enc Try.prog W 0 _ true n' 3 (([v0,v1,v2].drop 2).take (Try.prog.cellsOf 3))=_ at h2;rw [show Try.prog.cellsOf 3=1 by kernel_rfl] at h0 h2;rw [show Try.prog.cellsOf 9=1 by kernel_rfl] at h1
    have hne:∀j,j<3->∃y,ys[j]?=some y:=fun j hj=>by
     have:ys.length=3:=by assumption
     exact aD (by omega)
    obtain ⟨y0,e0⟩:=hne 0 (by omega);obtain ⟨y1,e1⟩:=hne 1 (by omega);obtain ⟨y2,e2⟩:=hne 2 (by omega);obtain ⟨k,hk,_,hkw⟩:=DataW.trod_int Try.underlying3 (h0.trans e0);obtain ⟨s,hs,_,hsw⟩:=DataW.trod_string Try.underlying9 (h1.trans e1);obtain ⟨nn,hnn,_,hnw⟩:=DataW.trod_int Try.underlying3 (h2.trans e2);simp at hk hs hnn;subst hk hs hnn;obtain ⟨k0,k1⟩:=AB hkw;obtain ⟨n0,n1⟩:=AB hnw;refine ⟨⟨k,s,nn⟩,⟨k0,k1,n0,n1,hsw⟩,?_,?_,?_⟩
    ·have:=hat 0 (by omega);rw [add_add] at this;simpa using this
    ·have:=hat 1 (by omega);rw [add_add] at this;simpa using this
    ·have:=hat 2 (by omega);rw [add_add] at this;simpa using this
  have hch:∃f:Nat->Nd,∀i,i<n0->(f i).Ok/\W.cell? (a.add (i*3))=some (.int .i64 (f i).k)/\W.cell? (a.add (i*3+1))=some (.string (f i).s)/\W.cell? (a.add (i*3+2))=some (.int .i64 (f i).n):=
   ⟨fun i=>if h:i<n0 then afo (wU i h) else default,fun i hi=>by
    simp only [dif_pos hi];exact afp (wU i hi)⟩
  obtain ⟨f,hf2⟩:=hch;have hxl:((adD n0).map f).length=n0:=by simp
  have hget:∀i x,((adD n0).map f)[i]?=some x->i<n0/\x=f i:=fun i x hx=>by
   have hi:i<n0:=by have:=bf hx;simpa using this
   rw [adg,afq hi] at hx;injection hx with hx
   exact ⟨hi,hx.symm⟩
  refine ⟨some a,(adD n0).map f,m,by rw [hxl],fun hne=>?_,by rw [hxl];exact hl,by rw [hxl];unfold maxLen at hcm;omega,fun x hx=>?_⟩
  ·have hn:0<n0:=by
    rcases afr n0 with h|h
    ·subst h;exact absurd rfl hne
    ·exact h
   obtain ⟨b,off,spot⟩:=a;have h0:=(hf2 0 hn).2.1;have hspot:spot=none:=by simpa [Addr.add] using afs h0
   subst hspot;simp only [add_plain] at hf2;refine ⟨b,off,rfl,?_,⟨fun i x hx=>?_,fun i x hx=>?_,fun i x hx=>?_⟩⟩
   ·exact ae5 W _ (hf2 0 hn).2.1
   ·obtain ⟨hi,rfl⟩:=hget i x hx;exact (hf2 i hi).2.1
   ·obtain ⟨hi,rfl⟩:=hget i x hx;have:=(hf2 i hi).2.2.1;rwa [<-afi] at this
   ·obtain ⟨hi,rfl⟩:=hget i x hx;have:=(hf2 i hi).2.2.2;rwa [<-afi] at this
  ·obtain ⟨i,hi,rfl⟩:=aaN.1 hx
   exact (hf2 i (acN.1 hi)).1
end
section
variable {H:Type} {enc:TypeId×Value->H} {W:World} {base:Nat} {d:DataW H} {p:List MemPlace} {v:Value} {fuel:Nat} {cs:List Value} {X:DataW H×List MemPlace}
theorem PG (hf:DataW.trod enc Try.prog W 0 (fun _=>true) true fuel 34 cs=some X):
  ∃(A:Option Addr) (xs:List Nd) (c:Nat),cs=[.slice A xs.length c]/\aM W W.heap.size A xs/\xs.length<=c/\xs.length<=9223372036854775807/\∀x∈xs,x.Ok:=by
 rcases open_slice Try.underlying34 hf with ⟨hcs,_⟩|⟨a,n0,cap,m,n,D,Pl,hcs,_,hl,hcm,hm,_,hel⟩
 ·exact ⟨none,[],0,hcs,aM.nil,bN _,by simp,by simp⟩
 ·simp only [if_true] at hm
  subst hm;subst hcs
  have wU:∀i,i<n0->∃x:Nd,x.Ok/\W.cell? (a.add (i*3))=some (.int .i64 x.k)/\W.cell? (a.add (i*3+1))=some (.string x.s)/\W.cell? (a.add (i*3+2))=some (.int .i64 x.n):=fun i hi=>by
   obtain ⟨cs',hc,ht⟩:=hel i (by omega);rw [MU] at hc;obtain ⟨_,hlen,hat⟩:=afk hc
   match cs',hlen with
   |[v0,v1,v2],_=>
    obtain ⟨ys,n',_,_,_,_,yt⟩:=DataW.trod_struct Try.underlying48 ht;have h0:=yt 0 _ rfl;have h1:=yt 1 _ rfl;have h2:=yt 2 _ rfl;change DataW.trod enc Try.prog W 0 _ true n' 3 (([v0,v1,v2].drop 0).take (Try.prog.cellsOf 3))=_ at h0;change DataW.trod enc Try.prog W 0 _ true n' 9 (([v0,v1,v2].drop 1).take (Try.prog.cellsOf 9))=_ at h1;change DataW.trod enc Try.prog W 0 _ true n' 3 (([v0,v1,v2].drop 2).take (Try.prog.cellsOf 3))=_ at h2;rw [show Try.prog.cellsOf 3=1 by kernel_rfl] at h0 h2;rw [show Try.prog.cellsOf 9=1 by kernel_rfl] at h1
    have hne:∀j,j<3->∃y,ys[j]?=some y:=fun j hj=>by
     have:ys.length=3:=by assumption
     exact aD (by omega)
    obtain ⟨y0,e0⟩:=hne 0 (by omega);obtain ⟨y1,e1⟩:=hne 1 (by omega);obtain ⟨y2,e2⟩:=hne 2 (by omega);obtain ⟨k,hk,_,hkw⟩:=DataW.trod_int Try.underlying3 (h0.trans e0);obtain ⟨s,hs,_,hsw⟩:=DataW.trod_string Try.underlying9 (h1.trans e1);obtain ⟨nn,hnn,_,hnw⟩:=DataW.trod_int Try.underlying3 (h2.trans e2);simp at hk hs hnn;subst hk hs hnn;obtain ⟨k0,k1⟩:=AB hkw;obtain ⟨n0,n1⟩:=AB hnw;refine ⟨⟨k,s,nn⟩,⟨k0,k1,n0,n1,hsw⟩,?_,?_,?_⟩
    ·have:=hat 0 (by omega);rw [add_add] at this;simpa using this
    ·have:=hat 1 (by omega);rw [add_add] at this;simpa using this
    ·have:=hat 2 (by omega);rw [add_add] at this;simpa using this
  have hch:∃f:Nat->Nd,∀i,i<n0->(f i).Ok/\W.cell? (a.add (i*3))=some (.int .i64 (f i).k)/\W.cell? (a.add (i*3+1))=some (.string (f i).s)/\W.cell? (a.add (i*3+2))=some (.int .i64 (f i).n):=
   ⟨fun i=>if h:i<n0 then afo (wU i h) else default,fun i hi=>by
    simp only [dif_pos hi];exact afp (wU i hi)⟩
  obtain ⟨f,hf2⟩:=hch;have hxl:((adD n0).map f).length=n0:=by simp
  have hget:∀i x,((adD n0).map f)[i]?=some x->i<n0/\x=f i:=fun i x hx=>by
   have hi:i<n0:=by have:=bf hx;simpa using this
   rw [adg,afq hi] at hx;injection hx with hx
   exact ⟨hi,hx.symm⟩
  refine ⟨some a,(adD n0).map f,m,by rw [hxl],fun hne=>?_,by rw [hxl];exact hl,by rw [hxl];unfold maxLen at hcm;omega,fun x hx=>?_⟩
  ·have hn:0<n0:=by
    rcases afr n0 with h|h
    ·subst h;exact absurd rfl hne
    ·exact h
   obtain ⟨b,off,spot⟩:=a;have h0:=(hf2 0 hn).2.1;have hspot:spot=none:=by simpa [Addr.add] using afs h0
   subst hspot;simp only [add_plain] at hf2;refine ⟨b,off,rfl,?_,⟨fun i x hx=>?_,fun i x hx=>?_,fun i x hx=>?_⟩⟩
   ·exact ae5 W _ (hf2 0 hn).2.1
   ·obtain ⟨hi,rfl⟩:=hget i x hx;exact (hf2 i hi).2.1
   ·obtain ⟨hi,rfl⟩:=hget i x hx;have:=(hf2 i hi).2.2.1;rwa [<-afi] at this
   ·obtain ⟨hi,rfl⟩:=hget i x hx;have:=(hf2 i hi).2.2.2;rwa [<-afi] at this
  ·obtain ⟨i,hi,rfl⟩:=aaN.1 hx
   exact (hf2 i (acN.1 hi)).1
end
section
variable {H:Type} {enc:TypeId×Value->H} {W:World} {base:Nat} {d:DataW H} {p:List MemPlace} {v:Value} {fuel:Nat} {cs:List Value} {X:DataW H×List MemPlace}
theorem aed:Try.prog.cellsOf 34=1:=by kernel_rfl
end
section
variable {H:Type} {enc:TypeId×Value->H} {W:World} {base:Nat} {d:DataW H} {p:List MemPlace} {v:Value} {fuel:Nat} {cs:List Value} {X:DataW H×List MemPlace}
theorem XH:Try.prog.cellsOf 36=6:=by kernel_rfl
theorem strCells:Try.prog.cellsOf 9=1:=by kernel_rfl
theorem intCells:Try.prog.cellsOf 3=1:=by kernel_rfl
theorem U9 (hf:DataW.trod enc Try.prog W 0 (fun _=>true) true fuel 36 cs=some X) (hl:cs.length=6):
  ∃(v:zf) (x:Stp),cs=LZ v/\L6 W W.heap.size v x/\x.Ok:=by
 match cs,hl with
 |[v0,v1,v2,v3,v4,v5],_=>
  obtain ⟨ys,n',_,_,_,hyl,yt⟩:=DataW.trod_struct Try.underlying36 hf;have h0:=yt 0 _ rfl;have h1:=yt 1 _ rfl;have h2:=yt 2 _ rfl;have h3:=yt 3 _ rfl;have h4:=yt 4 _ rfl;have h5:=yt 5 _ rfl;change DataW.trod enc Try.prog W 0 _ true n' 34 (([v0,v1,v2,v3,v4,v5].drop 0).take (Try.prog.cellsOf 34))=_ at h0;change DataW.trod enc Try.prog W 0 _ true n' 34 (([v0,v1,v2,v3,v4,v5].drop 1).take (Try.prog.cellsOf 34))=_ at h1;change DataW.trod enc Try.prog W 0 _ true n' 9 (([v0,v1,v2,v3,v4,v5].drop 2).take (Try.prog.cellsOf 9))=_ at h2;change DataW.trod enc Try.prog W 0 _ true n' 3 (([v0,v1,v2,v3,v4,v5].drop 3).take (Try.prog.cellsOf 3))=_ at h3;change DataW.trod enc Try.prog W 0 _ true n' 3 (([v0,v1,v2,v3,v4,v5].drop 4).take (Try.prog.cellsOf 3))=_ at h4;change DataW.trod enc Try.prog W 0 _ true n' 3 (([v0,v1,v2,v3,v4,v5].drop 5).take (Try.prog.cellsOf 3))=_ at h5;rw [aed] at h0 h1;rw [strCells] at h2;rw [intCells] at h3 h4 h5
  have hne:∀j,j<6->∃y,ys[j]?=some y:=fun j hj=>by
   have:ys.length=6:=hyl;exact aD (by omega)
  obtain ⟨y0,e0⟩:=hne 0 (by omega);obtain ⟨y1,e1⟩:=hne 1 (by omega);obtain ⟨y2,e2⟩:=hne 2 (by omega);obtain ⟨y3,e3⟩:=hne 3 (by omega);obtain ⟨y4,e4⟩:=hne 4 (by omega);obtain ⟨y5,e5⟩:=hne 5 (by omega);obtain ⟨A,a,ca,hA,tA,lA',sA,oA⟩:=PG (h0.trans e0);obtain ⟨B,b,cb,hB,tB,lB',sB,oB⟩:=PG (h1.trans e1);obtain ⟨s,hs,_,hsw⟩:=DataW.trod_string Try.underlying9 (h2.trans e2);obtain ⟨k,hk,_,hkw⟩:=DataW.trod_int Try.underlying3 (h3.trans e3);obtain ⟨n,hn,_,hnw⟩:=DataW.trod_int Try.underlying3 (h4.trans e4);obtain ⟨m,hm,_,hmw⟩:=DataW.trod_int Try.underlying3 (h5.trans e5);simp at hA hB hs hk hn hm;subst hA hB hs hk hn hm;exact ⟨⟨(A,a.length,ca),(B,b.length,cb),s,k,n,m⟩,⟨a,b,s,k,n,m⟩,rfl,⟨rfl,rfl,rfl,rfl,rfl,tA,lA',rfl,tB,lB'⟩,⟨⟨sA,oA⟩,⟨sB,oB⟩,hsw,AB hkw,AB hnw,AB hmw⟩⟩
theorem U_ (hv:aft Try.prog W .any base 22 v) (h:DataW.Trod enc Try.prog W 0 (fun _=>true) true 22 v d p):
  ∃(A:Option Addr) (vs:List zf) (xs:List Stp) (c:Nat),v= .slice A vs.length c/\Ae W W.heap.size A vs/\wW W W.heap.size vs xs/\vs.length<=c/\vs.length<=9223372036854775807/\∀x∈xs,x.Ok:=by
 obtain ⟨a0,n0,c0,rfl⟩:=okWide_slice Try.underlying22 hv;obtain ⟨fuel,hf⟩:=h;rcases open_slice Try.underlying22 hf with ⟨hcs,_⟩|⟨a,len,cap,m,n,D,Pl,hcs,_,hl,hcm,hm,_,hel⟩
 ·simp [afj] at hcs
  obtain ⟨rfl,rfl,rfl⟩:=hcs;exact ⟨none,[],[],0,rfl,aX.nil,⟨rfl,fun i v x hv=>by simp at hv⟩,bN _,by simp,by simp⟩
 ·simp [afj] at hcs
  obtain ⟨rfl,rfl,rfl⟩:=hcs;simp only [if_true] at hm;subst hm
  have hst:∀i,i<n0->∃q:zf×Stp,L6 W W.heap.size q.1 q.2/\q.2.Ok/\∀j u,(LZ q.1)[j]?=some u->W.cell? (a.add (i*6+j))=some u:=fun i hi=>by
   obtain ⟨cs',hc,ht⟩:=hel i (by omega);rw [XH] at hc;obtain ⟨_,hlen,hat⟩:=afk hc;obtain ⟨v,x,rfl,h1,h2⟩:=U9 ht (by simpa using hlen);refine ⟨(v,x),h1,h2,fun j u hu=>?_⟩;have hj:j<6:=by have:=bf hu;rwa [WJ] at this
   have:=hat j (by omega);rw [add_add] at this;rw [this];exact hu
  obtain ⟨f,hf2⟩:∃f:Nat->zf×Stp,∀i,i<n0->L6 W W.heap.size (f i).1 (f i).2/\(f i).2.Ok/\∀j u,(LZ (f i).1)[j]?=some u->W.cell? (a.add (i*6+j))=some u:=
   ⟨fun i=>if h:i<n0 then afo (hst i h) else default,fun i hi=>by
    simp only [dif_pos hi];exact afp (hst i hi)⟩
  have hget:∀{β:Type} (g:Nat->β) i x,((adD n0).map g)[i]?=some x->i<n0/\x=g i:=fun g i x hx=>by
   have hi:i<n0:=by have:=bf hx;simpa using this
   rw [adg,afq hi] at hx;injection hx with hx
   exact ⟨hi,hx.symm⟩
  have hlen:((adD n0).map fun i=>(f i).1).length=n0:=by simp
  refine ⟨some a,(adD n0).map fun i=>(f i).1,(adD n0).map fun i=>(f i).2,m,by rw [hlen],fun hne=>?_,⟨by simp,fun i v x hv hx=>?_⟩,by rw [hlen];exact hl,by rw [hlen];unfold maxLen at hcm;omega,fun x hx=>?_⟩
  ·have hn:0<n0:=by
    rcases afr n0 with h|h
    ·subst h;exact absurd rfl hne
    ·exact h
   obtain ⟨b,off,spot⟩:=a;have h0:=(hf2 0 hn).2.2 0 _ rfl;have hspot:spot=none:=by simpa [Addr.add] using afs h0
   subst hspot;simp only [add_plain] at hf2;refine ⟨b,off,rfl,ae5 W _ ((hf2 0 hn).2.2 0 _ rfl),fun i x hx j u hu=>?_⟩;obtain ⟨hi,rfl⟩:=hget _ i x hx;have:=(hf2 i hi).2.2 j u hu
   rwa [<-afi] at this
  ·obtain ⟨hi,rfl⟩:=hget _ i v hv
   obtain ⟨_,rfl⟩:=hget _ i x hx;exact (hf2 i hi).1
  ·obtain ⟨i,hi,rfl⟩:=aaN.1 hx
   exact (hf2 i (acN.1 hi)).2.1
end
end Go.Proofs.Ytblfeokjlecgkaa
