/- Laid together by a tool from the texts of this seat: UEndsD UAgree UEndsZ UAgr UKnown UAlive UAll Ru13. Conditions: each theorem's own. -/
import Derived.Test.YtblfeokjlecgkaaV14
import Derived.Test.YtblfeokjlecgkaaV13
import Derived.Test.YtblfeokjlecgkaaV09
import Derived.Test.YtblfeokjlecgkaaV02
import Derived.Test.YtblfeokjlecgkaaV10
import Derived.Test.YtblfeokjlecgkaaV07
set_option maxHeartbeats 8000000
set_option maxRecDepth 100000
namespace Go.Proofs.Ytblfeokjlecgkaa
open Go.Lib renaming hid->aC
open _root_.And renaming intro->Gw
open Go.RowKit.Below renaming refl->aT
open _root_.ByteArray renaming empty->pR
open _root_.Nat renaming le_refl->bN,lt_of_lt_of_le->vv,zero_le->h_,strongRecOn->afb
open Go.World renaming cell?->adw,cell?_of_block->adN,size_alloc->ae9
open _root_.Array renaming getElem?_eq_some_iff->ade
open _root_.List renaming mem_map->aaN,eq_nil_of_length_eq_zero->kZ,mem_of_getElem?->Yt,nil_append->RU,length_cons->Bl,length_nil->adb,take_of_length_le->CK,mem_range->acN
open Go.RowKit
attribute [local go_sem ↓] Go.wp_at_zero Go.wp_at_succ
section
variable {U:List Lb} {s m:Nat} {first:Int} {S:Kn} {a b:Ut} {x y:Fl} {p q:Option Int} {w:World} {UA VA:Option Addr} {ul vl:List (ByteArray×Nat)} {tp tq:Option Addr}
theorem cO.aU {X:Nat->Prop} {w w':World} {v:Value} {tl:Option Int} (h:cO X w v tl) (hb:Below w.heap.size w w'):cO X w' v tl:=h.fr (Fr.below (X:=fun _=>False) hb) fun _ _ e=>e.elim
theorem Q0 (cu cv:Nat) {p0:Int} (h:sH U s m first S a b x y (some p0) (some p0) w UA VA ul vl tp tq):sI U s m first S a b x y w UA VA cu cv ul vl tp tq:=by
 obtain ⟨bt,hbt,hbx,hbq⟩:=h.tp;obtain rfl:tp=some ⟨bt,0,none⟩:=by simpa [pk] using hbt
 obtain ⟨bu,hbu,Xi,Xj⟩:=h.tq;obtain rfl:tq=some ⟨bu,0,none⟩:=by simpa [pk] using hbu
 have tc1:w.cell? ⟨bt,1,none⟩=some (.int .i64 p0):=by simp [adw,hbq]
 have tc2:w.cell? ⟨bu,1,none⟩=some (.int .i64 p0):=by simp [adw,Xj]
 have zo:bt<w.heap.size:=(ade.1 hbq).1;have agp:bu<w.heap.size:=(ade.1 Xj).1;obtain ⟨l1,l2⟩:=h.lu;obtain ⟨u1,u2⟩:=h.un;have HH:=aC h;have HU:=aC (Gw u1 u2);clear h u1 u2 hbt hbq hbx hbu Xi Xj;have c0:(p0==p0)=true:=by simp
 unfold sI pk;by_cases e:ul.length+vl.length=0
 ·have c1:(((ul.length:Int)+(vl.length:Int))==0)=true:=by simp;omega
  have HE:=aC e;clear e;go_enter Try.func146,Try.ntmps146;go_wp2_with fail;go_quiet (fail);go_wp2_with fail;go_ret;have hh:=HH.out;exact fM.same (below_drewN (aT _ _) _) hh.lg (B_ hh.kg hh.ra hh.rb hh.hk hh.hab hh.sh (HU.out.1.1 (kZ (by have:=HE.out;omega))) (HU.out.2.1 (kZ (by have:=HE.out;omega))) _)
 ·have c1:(((ul.length:Int)+(vl.length:Int))==0)=false:=by simp;omega
  have HE:=aC e;clear e;go_enter Try.func146,Try.ntmps146;go_wp2_with fail;go_quiet (fail);go_wp2_with fail;go_ret;have hh:=HH.out;exact fM.no (below_drewN (aT _ _) _) (Ox hh.ra hh.rb hh.hk hh.hab fun e=>HE.out (by rw [HU.out.1.2 e.1,HU.out.2.2 e.2];rfl))
theorem adi (cu cv:Nat) {p0 q0:Int} (hpq:p0≠q0) (h:sH U s m first S a b x y (some p0) (some q0) w UA VA ul vl tp tq):sI U s m first S a b x y w UA VA cu cv ul vl tp tq:=by
 obtain ⟨bt,hbt,hbx,hbq⟩:=h.tp;obtain rfl:tp=some ⟨bt,0,none⟩:=by simpa [pk] using hbt
 obtain ⟨bu,hbu,Xi,Xj⟩:=h.tq;obtain rfl:tq=some ⟨bu,0,none⟩:=by simpa [pk] using hbu
 have t1c:w.cell? ⟨bt,1,none⟩=some (.int .i64 p0):=by simp [adw,hbq]
 have t2c:w.cell? ⟨bu,1,none⟩=some (.int .i64 q0):=by simp [adw,Xj]
 have zo:bt<w.heap.size:=(ade.1 hbq).1;have agp:bu<w.heap.size:=(ade.1 Xj).1;have TC:Hid (∀W,Fr (SX s m) w W->W.cell? ⟨bt,1,none⟩=some (.int .i64 p0)/\W.cell? ⟨bu,1,none⟩=some (.int .i64 q0)):=aC fun W hW=>⟨(adN (w:=w) (hW.block bt zo hbx)).trans t1c,(adN (w:=w) (hW.block bu agp Xi)).trans t2c⟩;obtain ⟨l1,l2⟩:=h.lu;have HH:=aC h;have HPQ:=aC hpq;have c0:(p0==q0)=false:=by simpa using hpq
 obtain ⟨k1,b1,d1⟩:=aay h.kg h.hU h.ra h.rb h.hk h.hab;have HB1:=aC (Gw k1 (Gw b1 d1));have hp1:Hid ((S1 S x y).κ p0=none):=aC (h.ra.of.tl p0 rfl).2.1
 have o8:Hid (∀W,Below w.heap.size w W->Calls Try.prog 70 #[.pointer (some ⟨s,0,none⟩),.int .i64 9] W fun e w'=>∃g,e= .returned (.pointer (some ⟨g,0,none⟩))/\bH (SX s m) s m first w' (S1 S x y)/\cO (SX s m) w' (.pointer (some ⟨g,0,none⟩)) (some S.m)/\Fr (SX s m) w w'):=aC fun W hW=>by
  have hm0:=HH.out.kg.nn.m;have hmb:=HH.out.mb;have hW2:=HH.out.lg.aU hW;refine (yg s m first S.m 9 W hW2.st (by omega) (by omega)).mono ?_;rintro e w' ⟨g,he,h1,h2,h3,h4⟩;refine ⟨g,he,hW2.fresh h3 h4 rfl rfl,⟨g,rfl,fun hx=>?_,h2⟩,(Fr.below hW).trans (h4.mono fun k e=>.inl e)⟩;have h5:=l7 hW2 g hx;omega
 clear h hpq hbt hbq hbx hbu Xi Xj k1 b1 d1 t1c t2c;have tc1:w.cell? ⟨bt,1,none⟩=some (.int .i64 p0):=(TC.out w (Fr.refl _ _)).1;have tc2:w.cell? ⟨bu,1,none⟩=some (.int .i64 q0):=(TC.out w (Fr.refl _ _)).2;unfold sI pk;have Xh:decide (0<ul.length)=true\/decide (0<ul.length)=false:=by cases decide (0<ul.length)<;>simp
 have gq:decide (0<vl.length)=true\/decide (0<vl.length)=false:=by cases decide (0<vl.length)<;>simp
 by_cases o1:bL p0 (inst (S1 S x y).σ (aH (S1 S x y).m (t1 S a.k x y)).1)
 ·have NH:=aC o1
  clear o1
  have HF1:Hid (∀(g:Nat) (W:World),cO (SX s m) W (.pointer (some ⟨g,0,none⟩)) (some S.m)->Fr (SX s m) w W->Calls Try.prog 179 #[.int .i64 a.k,.slice VA vl.length cv,.pointer (some ⟨g,0,none⟩)] W fun e w'=>∃g2,e= .returned (.pointer (some ⟨g2,0,none⟩))/\aF (SX s m) w' g2 (t1 S a.k x y)/\Below W.heap.size W w'):=aC fun g W ht hW=>by
   refine (wZ (SX s m) a.k VA cv vl (au y x) (.pointer (some ⟨g,0,none⟩)) (some S.m) W (fun k hk=>vv (l7 HH.out.lg k hk) hW.size) (HH.out.rv.fr hW fun k _ e=>e).read (by omega) (HH.out.cv.fr hW fun k _ e=>e) ht).mono ?_;rintro e w' ⟨g2,he,h1,h2⟩;exact ⟨g2,he,h1,h2⟩
  have HX1:Hid (∀(g:Nat) (W:World),aF (SX s m) W g (t1 S a.k x y)->bH (SX s m) s m first W (S1 S x y)->Fr (SX s m) w W->Calls Try.prog 111 #[.pointer (some ⟨s,0,none⟩),.int .i64 p0,.pointer (some ⟨g,0,none⟩)] W fun e w'=>e= .returned (.bool false)/\Fr (SX s m) w w'):=aC fun g W hg hS hW=>by
   refine (Ao U s m first (S1 S x y) p0 _ g W hS HB1.out.1 HH.out.hU hg HB1.out.2.1.small HB1.out.2.1.mm HB1.out.2.1.gs hp1.out (by rw [HB1.out.2.2];have:=HH.out.mb;have e:(S1 S x y).m=S.m+1:=rfl;omega) NH.out).mono ?_;rintro e w' ⟨he,hf⟩;exact ⟨he,hW.trans hf⟩
  rcases Xh with c2|c2
  all_goals
   rcases gq with c3|c3
   all_goals
    go_enter Try.func146,Try.ntmps146;go_wp2_with fail;go_quiet (fail);go_wp2_with fail;refine (o8.out _ ?_).mono ?_
    ·first|exact below_drewN (aT _ _) _|exact (below_drewN (aT _ _) _).drew
    rintro e w1 ⟨g,rfl,s1,Ux,f1⟩;have G1:=aC (Gw s1 (Gw Ux f1));clear s1 Ux f1;go_wp2_with fail;refine wp_region_held_drew (S:=fun v=>v.cell? ⟨bt,1,none⟩=some (.int .i64 p0)/\v.cell? ⟨bu,1,none⟩=some (.int .i64 q0)) (by kernel_rfl) ?_ (fun hHeld=>?_)
    ·exact TC.out _ (G1.out.2.2.trans (Fr.below (aT _ _).drew))
    refine takeA 0 (some 63) rfl rfl ?_;refine takeA 1 (some 64) rfl rfl ?_;refine takeA 2 (some 65) rfl rfl ?_;refine takeA 3 (some 66) rfl rfl ?_;refine takeA 4 (some 67) rfl rfl ?_;refine takeA 5 (some 68) rfl rfl ?_;refine takeA 6 (some 69) rfl rfl ?_;refine takeA 7 (some 70) rfl rfl ?_;refine takeA 8 (some 71) rfl rfl ?_;refine takeA 9 (some 72) rfl rfl ?_;refine takeA 10 (some 73) rfl rfl ?_;refine iF 11 (some 74) rfl rfl (by kernel_rfl) (by rfl) (by go_simp) (HF1.out g _ (G1.out.2.1.aU (aT _ _).drew) (G1.out.2.2.trans (Fr.below (aT _ _).drew))) ?_;rintro e w2 ⟨g2,rfl,n2,b2⟩;have N2:=aC (Gw n2 (Gw (ah (aT w1.heap.size w1).drew b2) (G1.out.2.2.trans (Fr.below (ah (aT w1.heap.size w1).drew b2)))));clear n2 b2;have Gh:=TC.out _ N2.out.2.2;refine ⟨.pointer (some ⟨g2,0,none⟩),rfl,Gh,?_⟩;refine dx ?_;refine iF 12 (some 75) rfl rfl (by kernel_rfl) (by rfl) (by go_simp) (HX1.out g2 _ N2.out.1 (G1.out.1.aU N2.out.2.1) N2.out.2.2) ?_;rintro e w3 ⟨rfl,f1⟩;have F1:=aC f1;clear f1;have Gi:=TC.out _ F1.out;refine ⟨.bool false,rfl,Gi,?_⟩;refine dx ?_;refine takeA 13 (some 76) rfl rfl ?_;refine takeA 14 (some 77) rfl rfl ?_;refine bn 15 (some 78) rfl rfl (by kernel_rfl) (by kernel_rfl) (by kernel_rfl) (fun _ _ _ h=>h) (by rfl) (by assumption) ?_;refine dx ?_;refine bn 16 (some 79) rfl rfl (by kernel_rfl) (by kernel_rfl) (by kernel_rfl) (fun _ _ _ h=>h) (by rfl) (by assumption) ?_;refine dx ?_
    refine bn 17 (some 80) rfl rfl (by kernel_rfl) (by kernel_rfl) (by kernel_rfl) (fun _ _ _ h=>h) (by rfl) (by assumption) ?_;refine dx ?_;refine bn 18 (some 81) rfl rfl (by kernel_rfl) (by kernel_rfl) (by kernel_rfl) (fun _ _ _ h=>h) (by rfl) (by assumption) ?_;refine dx ?_;refine bn 19 (some 82) rfl rfl (by kernel_rfl) (by kernel_rfl) (by kernel_rfl) (fun _ _ _ h=>h) (by rfl) (by assumption) ?_;refine dx ?_;refine bn 20 (some 83) rfl rfl (by kernel_rfl) (by kernel_rfl) (by kernel_rfl) (fun _ _ _ h=>h) (by rfl) (by assumption) ?_;refine dx ?_;refine bn 21 (some 84) rfl rfl (by kernel_rfl) (by kernel_rfl) (by kernel_rfl) (fun _ _ _ h=>h) (by rfl) (by assumption) ?_;refine dx ?_;refine bn 22 (some 85) rfl rfl (by kernel_rfl) (by kernel_rfl) (by kernel_rfl) (fun _ _ _ h=>h) (by rfl) (by assumption) ?_;refine dx ?_;refine bn 23 (some 86) rfl rfl (by kernel_rfl) (by kernel_rfl) (by kernel_rfl) (fun _ _ _ h=>h) (by rfl) (by assumption) ?_;refine dx ?_;refine bn 24 (some 87) rfl rfl (by kernel_rfl) (by kernel_rfl) (by kernel_rfl) (fun _ _ _ h=>h) (by rfl) (by assumption) ?_;refine dx ?_;refine bn 25 (some 88) rfl rfl (by kernel_rfl) (by kernel_rfl) (by kernel_rfl) (fun _ _ _ h=>h) (by rfl) (by assumption) ?_;refine dx ?_;refine bn 26 (some 89) rfl rfl (by kernel_rfl) (by kernel_rfl) (by kernel_rfl) (fun _ _ _ h=>h) (by rfl) (by assumption) ?_;refine dx ?_;refine bn 27 (some 90) rfl rfl (by kernel_rfl) (by kernel_rfl) (by kernel_rfl) (fun _ _ _ h=>h) (by rfl) (by assumption) ?_
    refine dx ?_;refine bn 28 (some 91) rfl rfl (by kernel_rfl) (by kernel_rfl) (by kernel_rfl) (fun _ _ _ h=>h) (by rfl) (by assumption) ?_;refine dx ?_;refine takeA 29 (some 92) rfl rfl ?_;refine takeA 30 (some 12) rfl rfl ?_;refine wpAnyH_done (by kernel_rfl) ?_ _;go_wp2_with fail;go_ret;have hh:=HH.out;exact ⟨false,rfl,F1.out,fun _=>Oz hh.kg hh.ra hh.rb hh.hk hh.hab NH.out,fun h=>by cases h⟩
 ·by_cases o2:bL q0 (inst (S2 S a.k x y p0).σ (aH (S2 S a.k x y p0).m (t2 S a.k x y)).1)
  ·have NH:=aC o1
   clear o1
   have HF1:Hid (∀(g:Nat) (W:World),cO (SX s m) W (.pointer (some ⟨g,0,none⟩)) (some S.m)->Fr (SX s m) w W->Calls Try.prog 179 #[.int .i64 a.k,.slice VA vl.length cv,.pointer (some ⟨g,0,none⟩)] W fun e w'=>∃g2,e= .returned (.pointer (some ⟨g2,0,none⟩))/\aF (SX s m) w' g2 (t1 S a.k x y)/\Below W.heap.size W w'):=aC fun g W ht hW=>by
    refine (wZ (SX s m) a.k VA cv vl (au y x) (.pointer (some ⟨g,0,none⟩)) (some S.m) W (fun k hk=>vv (l7 HH.out.lg k hk) hW.size) (HH.out.rv.fr hW fun k _ e=>e).read (by omega) (HH.out.cv.fr hW fun k _ e=>e) ht).mono ?_;rintro e w' ⟨g2,he,h1,h2⟩;exact ⟨g2,he,h1,h2⟩
   have HX1:Hid (∀(g:Nat) (W:World),aF (SX s m) W g (t1 S a.k x y)->bH (SX s m) s m first W (S1 S x y)->Fr (SX s m) w W->Calls Try.prog 111 #[.pointer (some ⟨s,0,none⟩),.int .i64 p0,.pointer (some ⟨g,0,none⟩)] W fun e w'=>e= .returned (.bool true)/\Fr (SX s m) w w'/\Fr (SX s m) W w'/\∀S':Kn,S'.κ=upd (S1 S x y).κ p0 (aH (S1 S x y).m (t1 S a.k x y)).1->S'.m=(aH (S1 S x y).m (t1 S a.k x y)).2->bH (SX s m) s m first w' S'):=aC fun g W hg hS hW=>by
    refine (uV U s m first (S1 S x y) p0 _ g W hS HB1.out.1 HH.out.hU hg HB1.out.2.1.small HB1.out.2.1.mm HB1.out.2.1.gs hp1.out (by rw [HB1.out.2.2];have:=HH.out.mb;have e:(S1 S x y).m=S.m+1:=rfl;omega) NH.out).mono ?_;rintro e w' ⟨he,hf,hr⟩;exact ⟨he,hW.trans hf,hf,hr⟩
   have HB2:=aC (Pj HH.out.kg HH.out.hU HH.out.ra HH.out.rb HH.out.hk HH.out.hab HPQ.out NH.out)
   have HF2:Hid (∀(g:Nat) (W:World),cO (SX s m) W (.pointer (some ⟨g,0,none⟩)) (some S.m)->Fr (SX s m) w W->Calls Try.prog 179 #[.int .i64 a.k,.slice UA ul.length cu,.pointer (some ⟨g,0,none⟩)] W fun e w'=>∃g2,e= .returned (.pointer (some ⟨g2,0,none⟩))/\aF (SX s m) w' g2 (t2 S a.k x y)/\Below W.heap.size W w'):=aC fun g W ht hW=>by
    refine (wZ (SX s m) a.k UA cu ul (au x y) (.pointer (some ⟨g,0,none⟩)) (some S.m) W (fun k hk=>vv (l7 HH.out.lg k hk) hW.size) (HH.out.ru.fr hW fun k _ e=>e).read (by omega) (HH.out.cu.fr hW fun k _ e=>e) ht).mono ?_;rintro e w' ⟨g2,he,h1,h2⟩;exact ⟨g2,he,h1,h2⟩
   have HO2:=aC o2;clear o2
   have SB:Hid (∀(g:Nat) (W:World),aF (SX s m) W g (t2 S a.k x y)->bH (SX s m) s m first W (S2 S a.k x y p0)->Fr (SX s m) w W->Calls Try.prog 111 #[.pointer (some ⟨s,0,none⟩),.int .i64 q0,.pointer (some ⟨g,0,none⟩)] W fun e w'=>e= .returned (.bool false)/\Fr (SX s m) w w'):=aC fun g W hg hS hW=>by
    refine (Ao U s m first (S2 S a.k x y p0) q0 _ g W hS HB2.out.1 HH.out.hU hg HB2.out.2.1.small HB2.out.2.1.mm HB2.out.2.1.gs HB2.out.2.2.2.1 (by rw [HB2.out.2.2.1,HB2.out.2.2.2.2];have:=HH.out.mb;omega) HO2.out).mono ?_;rintro e w' ⟨he,hf⟩;exact ⟨he,hW.trans hf⟩
   rcases Xh with c2|c2
   all_goals
    rcases gq with c3|c3
    all_goals
     go_enter Try.func146,Try.ntmps146;go_wp2_with fail;go_quiet (fail);go_wp2_with fail;refine (o8.out _ ?_).mono ?_
     ·first|exact below_drewN (aT _ _) _|exact (below_drewN (aT _ _) _).drew
     rintro e w1 ⟨g,rfl,s1,Ux,f1⟩;have G1:=aC (Gw s1 (Gw Ux f1));clear s1 Ux f1;go_wp2_with fail;refine wp_region_held_drew (S:=fun v=>v.cell? ⟨bt,1,none⟩=some (.int .i64 p0)/\v.cell? ⟨bu,1,none⟩=some (.int .i64 q0)) (by kernel_rfl) ?_ (fun hHeld=>?_)
     ·exact TC.out _ (G1.out.2.2.trans (Fr.below (aT _ _).drew))
     refine takeA 0 (some 63) rfl rfl ?_;refine takeA 1 (some 64) rfl rfl ?_;refine takeA 2 (some 65) rfl rfl ?_;refine takeA 3 (some 66) rfl rfl ?_;refine takeA 4 (some 67) rfl rfl ?_;refine takeA 5 (some 68) rfl rfl ?_;refine takeA 6 (some 69) rfl rfl ?_;refine takeA 7 (some 70) rfl rfl ?_;refine takeA 8 (some 71) rfl rfl ?_;refine takeA 9 (some 72) rfl rfl ?_;refine takeA 10 (some 73) rfl rfl ?_;refine iF 11 (some 74) rfl rfl (by kernel_rfl) (by rfl) (by go_simp) (HF1.out g _ (G1.out.2.1.aU (aT _ _).drew) (G1.out.2.2.trans (Fr.below (aT _ _).drew))) ?_;rintro e w2 ⟨g2,rfl,n2,b2⟩;have N2:=aC (Gw n2 (Gw (ah (aT w1.heap.size w1).drew b2) (G1.out.2.2.trans (Fr.below (ah (aT w1.heap.size w1).drew b2)))));clear n2 b2;have Gh:=TC.out _ N2.out.2.2;refine ⟨.pointer (some ⟨g2,0,none⟩),rfl,Gh,?_⟩;refine dx ?_;refine iF 12 (some 75) rfl rfl (by kernel_rfl) (by rfl) (by go_simp) (HX1.out g2 _ N2.out.1 (G1.out.1.aU N2.out.2.1) N2.out.2.2) ?_;rintro e w3 ⟨rfl,f1,f3,f2⟩;have F1:=aC (Gw f1 (f2 (S2 S a.k x y p0) rfl rfl));have T3:=aC ((G1.out.2.1.aU N2.out.2.1).fr f3 fun _ _ e=>e);clear f1 f2 f3;have Gi:=TC.out _ F1.out.1;refine ⟨.bool true,rfl,Gi,?_⟩;refine dx ?_;refine takeA 13 (some 76) rfl rfl ?_;refine takeA 14 (some 77) rfl rfl ?_;refine takeA 15 (some 78) rfl rfl ?_;refine takeA 16 (some 79) rfl rfl ?_;refine takeA 17 (some 80) rfl rfl ?_;refine takeA 18 (some 81) rfl rfl ?_;refine takeA 19 (some 82) rfl rfl ?_;refine takeA 20 (some 83) rfl rfl ?_;refine takeA 21 (some 84) rfl rfl ?_
     refine takeA 22 (some 85) rfl rfl ?_;refine takeA 23 (some 86) rfl rfl ?_;refine takeA 24 (some 87) rfl rfl ?_;refine takeA 25 (some 88) rfl rfl ?_;refine iF 26 (some 89) rfl rfl (by kernel_rfl) (by rfl) (by go_simp) (HF2.out g _ (T3.out) F1.out.1) ?_;rintro e w4 ⟨g4,rfl,n4,b4⟩;have N4:=aC (Gw n4 (Gw b4 (F1.out.1.trans (Fr.below b4))));clear n4 b4;have Mt:=TC.out _ N4.out.2.2;refine ⟨.pointer (some ⟨g4,0,none⟩),rfl,Mt,?_⟩;refine dx ?_;refine iF 27 (some 90) rfl rfl (by kernel_rfl) (by rfl) (by go_simp) (SB.out g4 _ N4.out.1 (F1.out.2.aU N4.out.2.1) N4.out.2.2) ?_;rintro e w5 ⟨rfl,f1⟩;have F2:=aC f1;clear f1;have Mw:=TC.out _ F2.out;refine ⟨.bool false,rfl,Mw,?_⟩;refine dx ?_;refine takeA 28 (some 91) rfl rfl ?_;refine takeA 29 (some 92) rfl rfl ?_;refine takeA 30 (some 12) rfl rfl ?_;refine wpAnyH_done (by kernel_rfl) ?_ _;go_wp2_with fail;go_ret;have hh:=HH.out;exact ⟨false,rfl,F2.out,fun _=>OA hh.kg hh.ra hh.rb hh.hk hh.hab HPQ.out NH.out HO2.out,fun h=>by cases h⟩
  ·have NH:=aC o1
   clear o1
   have HF1:Hid (∀(g:Nat) (W:World),cO (SX s m) W (.pointer (some ⟨g,0,none⟩)) (some S.m)->Fr (SX s m) w W->Calls Try.prog 179 #[.int .i64 a.k,.slice VA vl.length cv,.pointer (some ⟨g,0,none⟩)] W fun e w'=>∃g2,e= .returned (.pointer (some ⟨g2,0,none⟩))/\aF (SX s m) w' g2 (t1 S a.k x y)/\Below W.heap.size W w'):=aC fun g W ht hW=>by
    refine (wZ (SX s m) a.k VA cv vl (au y x) (.pointer (some ⟨g,0,none⟩)) (some S.m) W (fun k hk=>vv (l7 HH.out.lg k hk) hW.size) (HH.out.rv.fr hW fun k _ e=>e).read (by omega) (HH.out.cv.fr hW fun k _ e=>e) ht).mono ?_;rintro e w' ⟨g2,he,h1,h2⟩;exact ⟨g2,he,h1,h2⟩
   have HX1:Hid (∀(g:Nat) (W:World),aF (SX s m) W g (t1 S a.k x y)->bH (SX s m) s m first W (S1 S x y)->Fr (SX s m) w W->Calls Try.prog 111 #[.pointer (some ⟨s,0,none⟩),.int .i64 p0,.pointer (some ⟨g,0,none⟩)] W fun e w'=>e= .returned (.bool true)/\Fr (SX s m) w w'/\Fr (SX s m) W w'/\∀S':Kn,S'.κ=upd (S1 S x y).κ p0 (aH (S1 S x y).m (t1 S a.k x y)).1->S'.m=(aH (S1 S x y).m (t1 S a.k x y)).2->bH (SX s m) s m first w' S'):=aC fun g W hg hS hW=>by
    refine (uV U s m first (S1 S x y) p0 _ g W hS HB1.out.1 HH.out.hU hg HB1.out.2.1.small HB1.out.2.1.mm HB1.out.2.1.gs hp1.out (by rw [HB1.out.2.2];have:=HH.out.mb;have e:(S1 S x y).m=S.m+1:=rfl;omega) NH.out).mono ?_;rintro e w' ⟨he,hf,hr⟩;exact ⟨he,hW.trans hf,hf,hr⟩
   have HB2:=aC (Pj HH.out.kg HH.out.hU HH.out.ra HH.out.rb HH.out.hk HH.out.hab HPQ.out NH.out)
   have HF2:Hid (∀(g:Nat) (W:World),cO (SX s m) W (.pointer (some ⟨g,0,none⟩)) (some S.m)->Fr (SX s m) w W->Calls Try.prog 179 #[.int .i64 a.k,.slice UA ul.length cu,.pointer (some ⟨g,0,none⟩)] W fun e w'=>∃g2,e= .returned (.pointer (some ⟨g2,0,none⟩))/\aF (SX s m) w' g2 (t2 S a.k x y)/\Below W.heap.size W w'):=aC fun g W ht hW=>by
    refine (wZ (SX s m) a.k UA cu ul (au x y) (.pointer (some ⟨g,0,none⟩)) (some S.m) W (fun k hk=>vv (l7 HH.out.lg k hk) hW.size) (HH.out.ru.fr hW fun k _ e=>e).read (by omega) (HH.out.cu.fr hW fun k _ e=>e) ht).mono ?_;rintro e w' ⟨g2,he,h1,h2⟩;exact ⟨g2,he,h1,h2⟩
   have HO2:=aC o2;clear o2
   have SB:Hid (∀(g:Nat) (W:World),aF (SX s m) W g (t2 S a.k x y)->bH (SX s m) s m first W (S2 S a.k x y p0)->Fr (SX s m) w W->Calls Try.prog 111 #[.pointer (some ⟨s,0,none⟩),.int .i64 q0,.pointer (some ⟨g,0,none⟩)] W fun e w'=>e= .returned (.bool true)/\Fr (SX s m) w w'/\Fr (SX s m) W w'/\∀S':Kn,S'.κ=upd (S2 S a.k x y p0).κ q0 (aH (S2 S a.k x y p0).m (t2 S a.k x y)).1->S'.m=(aH (S2 S a.k x y p0).m (t2 S a.k x y)).2->bH (SX s m) s m first w' S'):=aC fun g W hg hS hW=>by
    refine (uV U s m first (S2 S a.k x y p0) q0 _ g W hS HB2.out.1 HH.out.hU hg HB2.out.2.1.small HB2.out.2.1.mm HB2.out.2.1.gs HB2.out.2.2.2.1 (by rw [HB2.out.2.2.1,HB2.out.2.2.2.2];have:=HH.out.mb;omega) HO2.out).mono ?_;rintro e w' ⟨he,hf,hr⟩;exact ⟨he,hW.trans hf,hf,hr⟩
   rcases Xh with c2|c2
   all_goals
    rcases gq with c3|c3
    all_goals
     go_enter Try.func146,Try.ntmps146;go_wp2_with fail;go_quiet (fail);go_wp2_with fail;refine (o8.out _ ?_).mono ?_
     ·first|exact below_drewN (aT _ _) _|exact (below_drewN (aT _ _) _).drew
     rintro e w1 ⟨g,rfl,s1,Ux,f1⟩;have G1:=aC (Gw s1 (Gw Ux f1));clear s1 Ux f1;go_wp2_with fail;refine wp_region_held_drew (S:=fun v=>v.cell? ⟨bt,1,none⟩=some (.int .i64 p0)/\v.cell? ⟨bu,1,none⟩=some (.int .i64 q0)) (by kernel_rfl) ?_ (fun hHeld=>?_)
     ·exact TC.out _ (G1.out.2.2.trans (Fr.below (aT _ _).drew))
     refine takeA 0 (some 63) rfl rfl ?_;refine takeA 1 (some 64) rfl rfl ?_;refine takeA 2 (some 65) rfl rfl ?_;refine takeA 3 (some 66) rfl rfl ?_;refine takeA 4 (some 67) rfl rfl ?_;refine takeA 5 (some 68) rfl rfl ?_;refine takeA 6 (some 69) rfl rfl ?_;refine takeA 7 (some 70) rfl rfl ?_;refine takeA 8 (some 71) rfl rfl ?_;refine takeA 9 (some 72) rfl rfl ?_;refine takeA 10 (some 73) rfl rfl ?_;refine iF 11 (some 74) rfl rfl (by kernel_rfl) (by rfl) (by go_simp) (HF1.out g _ (G1.out.2.1.aU (aT _ _).drew) (G1.out.2.2.trans (Fr.below (aT _ _).drew))) ?_;rintro e w2 ⟨g2,rfl,n2,b2⟩;have N2:=aC (Gw n2 (Gw (ah (aT w1.heap.size w1).drew b2) (G1.out.2.2.trans (Fr.below (ah (aT w1.heap.size w1).drew b2)))));clear n2 b2;have Gh:=TC.out _ N2.out.2.2;refine ⟨.pointer (some ⟨g2,0,none⟩),rfl,Gh,?_⟩;refine dx ?_;refine iF 12 (some 75) rfl rfl (by kernel_rfl) (by rfl) (by go_simp) (HX1.out g2 _ N2.out.1 (G1.out.1.aU N2.out.2.1) N2.out.2.2) ?_;rintro e w3 ⟨rfl,f1,f3,f2⟩;have F1:=aC (Gw f1 (f2 (S2 S a.k x y p0) rfl rfl));have T3:=aC ((G1.out.2.1.aU N2.out.2.1).fr f3 fun _ _ e=>e);clear f1 f2 f3;have Gi:=TC.out _ F1.out.1;refine ⟨.bool true,rfl,Gi,?_⟩;refine dx ?_;refine takeA 13 (some 76) rfl rfl ?_;refine takeA 14 (some 77) rfl rfl ?_;refine takeA 15 (some 78) rfl rfl ?_;refine takeA 16 (some 79) rfl rfl ?_;refine takeA 17 (some 80) rfl rfl ?_;refine takeA 18 (some 81) rfl rfl ?_;refine takeA 19 (some 82) rfl rfl ?_;refine takeA 20 (some 83) rfl rfl ?_;refine takeA 21 (some 84) rfl rfl ?_
     refine takeA 22 (some 85) rfl rfl ?_;refine takeA 23 (some 86) rfl rfl ?_;refine takeA 24 (some 87) rfl rfl ?_;refine takeA 25 (some 88) rfl rfl ?_;refine iF 26 (some 89) rfl rfl (by kernel_rfl) (by rfl) (by go_simp) (HF2.out g _ (T3.out) F1.out.1) ?_;rintro e w4 ⟨g4,rfl,n4,b4⟩;have N4:=aC (Gw n4 (Gw b4 (F1.out.1.trans (Fr.below b4))));clear n4 b4;have Mt:=TC.out _ N4.out.2.2;refine ⟨.pointer (some ⟨g4,0,none⟩),rfl,Mt,?_⟩;refine dx ?_;refine iF 27 (some 90) rfl rfl (by kernel_rfl) (by rfl) (by go_simp) (SB.out g4 _ N4.out.1 (F1.out.2.aU N4.out.2.1) N4.out.2.2) ?_;rintro e w5 ⟨rfl,f1,f3,f2⟩;have F2:=aC (Gw f1 f2);clear f1 f2 f3;have Mw:=TC.out _ F2.out.1;refine ⟨.bool true,rfl,Mw,?_⟩;refine dx ?_;refine takeA 28 (some 91) rfl rfl ?_;refine takeA 29 (some 92) rfl rfl ?_;refine takeA 30 (some 12) rfl rfl ?_;refine wpAnyH_done (by kernel_rfl) ?_ _;go_wp2_with fail;go_ret;have hh:=HH.out;exact ⟨true,rfl,F2.out.1,fun h=>(by cases h),fun _=>⟨_,(Oy hh.kg hh.ra hh.rb hh.hk hh.hab HPQ.out hh.sh hh.pa hh.pb NH.out HO2.out),F2.out.2 _ rfl rfl⟩⟩
end
theorem TG.adn {U:List Lb} {S:Kn} {t:Ut} (g:TG U S t) (h8:t.k=8):t=aS t.n/\S.L t.n=none/\0<=t.n/\t.n<S.m:=by
 obtain ⟨k,n,fs,tl⟩:=t;obtain ⟨e,hl⟩:=jK g.pend.1 h8;have h1:=g.nn;have h2:=g.pend.2;rw [lS] at h1;rw [iJ] at h2;exact ⟨e,hl,h1.1 (.inl h8),h2.1 h8⟩
section
variable {U:List Lb} {s m:Nat} {first:Int} {S:Kn} {a b:Ut} {ba bb:Nat} {w:World}
theorem Ap (hS:bH (SX s m) s m first w S) (hK:KG U S) (hU:U.length<=100000) {v:Int} (hv:S.κ v=none) (hl:S.L v=none) (h0:0<=v) (pW:v<S.m) (hb:aF (SX s m) w bb b) (g:TG U S b) (k0:b.k≠0) (h8:b.k=8->S.κ b.n=none/\b.n≠v)
  (hm:S.m+(aJ b:Nat)<=4611686018427387904):
  Calls Try.prog 111 #[.pointer (some ⟨s,0,none⟩),.int .i64 v,.pointer (some ⟨bb,0,none⟩)] w (fM U S (aS v) b (aJ b) s m first w):=by
 obtain ⟨hmm,gs⟩:=g.aH hK;refine (Am U s m first S v b bb w hS hK hU hb (g.small hU) hmm (.inl gs) hv hm).mono ?_;rintro e w' ⟨r,rfl,h1,h2,h3⟩;refine ⟨r,rfl,h1,fun e=>S9 hK hl pW g k0 h8 (h2 e),fun e=>?_⟩;obtain ⟨o,h4⟩:=h3 e;exact ⟨S.eF v b,Ow hK hv hl h0 pW g h8 o,h4 _ rfl rfl⟩
theorem fM.symm {n:Nat} {e:Ending} {w':World} (h:fM U S a b n s m first w e w'):fM U S b a n s m first w e w':=by
 obtain ⟨r,h1,h2,h3,h4⟩:=h
 exact ⟨r,h1,h2,fun e=>(h3 e).symm,fun e=>by
  obtain ⟨S',h5,h6⟩:=h4 e;exact ⟨S',h5.symm,h6⟩⟩
theorem fM.looked {a' b':Ut} {n:Nat} {w0 w1:World} {e:Ending} {w':World} (h:fM U S a' b' n s m first w1 e w') (hb:Below w0.heap.size w0 w1) (hn:n<=aJ a+aJ b) (pa:jd S a) (pb:jd S b) (pa':jd S a') (pb':jd S b') (ea:wP S a a') (eb:wP S b b'):fM U S a b (aJ a+aJ b) s m first w0 e w':=by
 obtain ⟨r,h1,h2,h3,h4⟩:=h
 exact ⟨r,h1,(Fr.below hb).trans h2,fun e=>(h3 e).eqv ea eb,fun e=>by
  obtain ⟨S',h5,h6⟩:=h4 e;exact ⟨S',(h5.eqv pa' pa pb' pb ea eb).more hn,h6⟩⟩
end
theorem DJ.looked {S S':Kn} {a b a' b' c d:Ut} (h:DJ S a' b' S' c d) (ha:aJ a'<=aJ a) (hb:aJ b'<=aJ b) (ia:inst S.σ a=inst S.σ a') (ib:inst S.σ b=inst S.σ b'):DJ S a b S' c d:=by
 rcases h with h|⟨h1,h2⟩
 ·exact .inl (by omega)
 ·rw [<-ia,<-ib] at h2
  by_cases e:S'.un+(aJ c+aJ d)=S.un+(aJ a+aJ b)
  ·exact .inr ⟨e,h2⟩
  ·exact .inl (by omega)
theorem agree_step (hE:Gg) (U:List Lb) (s m:Nat) (first:Int) (S:Kn) (a b:Ut) (ba bb:Nat) (w:World) (h:Uu U s m first S a b ba bb w)
  (ih:∀(S':Kn) (c d:Ut) (bc bd:Nat) (w':World),DJ S a b S' c d->Uu U s m first S' c d bc bd w'->AV U s m first S' c d bc bd w'):AV U s m first S a b ba bb w:=by
 obtain ⟨a',la⟩:=qL h.kg.rk a;obtain ⟨b',lb⟩:=qL h.kg.rk b;obtain ⟨ta',ea,ia⟩:=la.good h.kg h.ta;obtain ⟨tb',eb,ib⟩:=lb.good h.kg h.tb;have da:=la.dyn h.kg h.ta;have db:=lb.dyn h.kg h.tb;have HE:=aC hE;have HH:=aC h;have HI:=aC ih;have hA:=aC (za (SX s m) s m first w S h.lg h.kg.rk ba a a' h.na la);have hB:=aC fun W (hW:Below w.heap.size w W)=>za (SX s m) s m first W S (h.lg.aU hW) h.kg.rk bb b b' (h.nb.aU hW) lb;have L:=aC (Gw (Gw ta' (Gw ea (Gw ia (Gw da la.end_)))) (Gw tb' (Gw eb (Gw ib (Gw db lb.end_)))));clear hE h ih ta' ea ia tb' eb ib da db la lb;unfold pk at hA hB
 have FIN:Hid (∀(W:World) (n:Nat) (e:Ending) (w':World),Below w.heap.size w W->n<=aJ a'+aJ b'->fM U S a' b' n s m first W e w'->fM U S a b (aJ a+aJ b) s m first w e w'):=aC fun W n e w' hW hn hp=>
  hp.looked hW (by have:=L.out.1.2.2.2.1;have:=L.out.2.2.2.2.1;omega) HH.out.ta.pend HH.out.tb.pend L.out.1.1.pend L.out.2.1.pend L.out.1.2.1 L.out.2.2.1
 unfold AV pk;go_enter Try.func68,Try.ntmps68;go_wp2_with fail;refine hA.out.mono ?_;rintro e w1 ⟨ca,rfl,na,b1⟩;have H1:=aC (Gw na b1);clear na b1 hA
 try unfold pk
 go_wp2_with fail;refine (hB.out w1 H1.out.2).mono ?_;rintro e w2 ⟨cb,rfl,nb,b2⟩;have H2:=aC (Gw (H1.out.1.aU b2) (Gw nb (ah H1.out.2 b2)));clear nb b2 hB H1;obtain ⟨x0,x1⟩:=H2.out.1.cells;obtain ⟨y0,y1⟩:=H2.out.2.1.cells
 try unfold pk
 cases ka:(a'.k==0) with
 |true=>
  have KA:Hid (a'.k=0):=aC (by simpa using ka);go_wp2_with fail;go_quiet (fail);go_wp2_with fail;go_ret
  exact FIN.out w2 _ _ _ H2.out.2.2 (bN _) (fM.same (below_drewN (aT _ _) _) (HH.out.lg.aU H2.out.2.2) (Done.none HH.out.kg (zU HH.out.kg.inv KA.out) _))
 |false=>
 cases kb:(b'.k==0) with
 |true=>
  have KB:Hid (b'.k=0):=aC (by simpa using kb);go_wp2_with fail;go_quiet (fail);go_wp2_with fail;go_ret
  exact FIN.out w2 _ _ _ H2.out.2.2 (bN _) (fM.same (below_drewN (aT _ _) _) (HH.out.lg.aU H2.out.2.2) (Done.none HH.out.kg ((zU HH.out.kg.inv KB.out).symm) _))
 |false=>
 have KA:Hid (a'.k≠0):=aC (by simpa using ka);have KB:Hid (b'.k≠0):=aC (by simpa using kb)
 cases va:(a'.k==8) with
 |true=>
  have VA:=aC (L.out.1.1.adn (by simpa using va));have VU:Hid (S.κ a'.n=none):=aC (L.out.1.2.2.2.2 (by simpa using va))
  cases vb:(b'.k==8) with
  |true=>
   have VB:=aC (L.out.2.1.adn (by simpa using vb))
   cases nn:(a'.n==b'.n) with
   |true=>
    have EQ:Hid (a'=b'):=aC (by rw [VA.out.1,VB.out.1];congr 1;simpa using nn);go_wp2_with fail;go_quiet (fail);go_wp2_with fail;go_ret
    exact FIN.out w2 _ _ _ H2.out.2.2 (bN _) (fM.same (below_drewN (aT _ _) _) (HH.out.lg.aU H2.out.2.2) (Done.none HH.out.kg (EQ.out▸Jo HH.out.kg.inv a') _))
   |false=>
    have Uy:Hid (∀W,Below w2.heap.size w2 W->Calls Try.prog 111 #[.pointer (some ⟨s,0,none⟩),.int .i64 a'.n,.pointer (some ⟨cb,0,none⟩)] W (fM U S a' b' (aJ b') s m first W)):=aC fun W hW=>by
     have:=Ap (bb:=cb) (b:=b') (HH.out.lg.aU (ah H2.out.2.2 hW)) HH.out.kg HH.out.hU VU.out VA.out.2.1 VA.out.2.2.1 VA.out.2.2.2 (H2.out.2.1.aU hW) L.out.2.1 KB.out (fun h=>⟨L.out.2.2.2.2.2 h,fun e=>by simp [e] at nn⟩) (by have:=HH.out.mb;have:=L.out.2.2.2.2.1;omega);rw [<-VA.out.1] at this;exact this
    go_wp2_with fail;go_quiet (fail);go_wp2_with fail;refine (Uy.out _ ?_).mono ?_
    ·first|exact below_drewN (aT _ _) _|exact (below_drewN (aT _ _) _).drew
    rintro e w3 ⟨r,rfl,hp⟩;have HP:=aC hp;clear hp;go_wp2_with fail;go_ret
    exact FIN.out _ _ _ _ (ah H2.out.2.2 (below_drewN (aT _ _) _)) (by omega) ⟨r,rfl,HP.out⟩
  |false=>
   have Uy:Hid (∀W,Below w2.heap.size w2 W->Calls Try.prog 111 #[.pointer (some ⟨s,0,none⟩),.int .i64 a'.n,.pointer (some ⟨cb,0,none⟩)] W (fM U S a' b' (aJ b') s m first W)):=aC fun W hW=>by
    have:=Ap (bb:=cb) (b:=b') (HH.out.lg.aU (ah H2.out.2.2 hW)) HH.out.kg HH.out.hU VU.out VA.out.2.1 VA.out.2.2.1 VA.out.2.2.2 (H2.out.2.1.aU hW) L.out.2.1 KB.out (fun h=>by rw [h] at vb;cases vb) (by have:=HH.out.mb;have:=L.out.2.2.2.2.1;omega);rw [<-VA.out.1] at this;exact this
   go_wp2_with fail;go_quiet (fail);go_wp2_with fail;refine (Uy.out _ ?_).mono ?_
   ·first|exact below_drewN (aT _ _) _|exact (below_drewN (aT _ _) _).drew
   rintro e w3 ⟨r,rfl,hp⟩;have HP:=aC hp;clear hp;go_wp2_with fail;go_ret
   exact FIN.out _ _ _ _ (ah H2.out.2.2 (below_drewN (aT _ _) _)) (by omega) ⟨r,rfl,HP.out⟩
 |false=>
  cases vb:(b'.k==8) with
  |true=>
   have VB:=aC (L.out.2.1.adn (by simpa using vb));have VU:Hid (S.κ b'.n=none):=aC (L.out.2.2.2.2.2 (by simpa using vb))
   have Uy:Hid (∀W,Below w2.heap.size w2 W->Calls Try.prog 111 #[.pointer (some ⟨s,0,none⟩),.int .i64 b'.n,.pointer (some ⟨ca,0,none⟩)] W (fM U S a' b' (aJ a') s m first W)):=aC fun W hW=>by
    have:=Ap (bb:=ca) (b:=a') (HH.out.lg.aU (ah H2.out.2.2 hW)) HH.out.kg HH.out.hU VU.out VB.out.2.1 VB.out.2.2.1 VB.out.2.2.2 (H2.out.1.aU hW) L.out.1.1 KA.out (fun h=>by rw [h] at va;cases va) (by have:=HH.out.mb;have:=L.out.1.2.2.2.1;omega);rw [<-VB.out.1] at this;exact this.mono fun e w' h=>h.symm
   go_wp2_with fail;go_quiet (fail);go_wp2_with fail;refine (Uy.out _ ?_).mono ?_
   ·first|exact below_drewN (aT _ _) _|exact (below_drewN (aT _ _) _).drew
   rintro e w3 ⟨r,rfl,hp⟩;have HP:=aC hp;clear hp;go_wp2_with fail;go_ret
   exact FIN.out _ _ _ _ (ah H2.out.2.2 (below_drewN (aT _ _) _)) (by omega) ⟨r,rfl,HP.out⟩
  |false=>
  have VA:Hid (a'.k≠8):=aC (by simpa using va);have VB:Hid (b'.k≠8):=aC (by simpa using vb)
  cases kk:(a'.k==b'.k) with
  |false=>
   have kk':(a'.k !=b'.k)=true:=by simp [bne,kk]
   have KK:Hid (a'.k≠b'.k):=aC (by simpa using kk);go_wp2_with fail;go_quiet (fail);go_wp2_with fail;go_quiet (fail);go_wp2_with fail;go_ret
   exact FIN.out w2 _ _ _ H2.out.2.2 (bN _) (fM.no ((below_drewN (aT _ _) _).trans (below_drewN (aT _ _) _)) (Fx KK.out KA.out VA.out KB.out VB.out))
  |true=>
   have kk':(a'.k !=b'.k)=false:=by simp [bne,kk]
   have KK:Hid (a'.k=b'.k):=aC (by simpa using kk);have ado:Hid (∀(S':Kn) (c d:Ut) (bc bd:Nat) (w':World),DJ S a' b' S' c d->Uu U s m first S' c d bc bd w'->AV U s m first S' c d bc bd w'):=aC fun S' c d bc bd w' h1 h2=>HI.out S' c d bc bd w' (h1.looked L.out.1.2.2.2.1 L.out.2.2.2.2.1 L.out.1.2.2.1 L.out.2.2.2.1) h2;go_wp2_with fail;go_quiet (fail);go_wp2_with fail;go_quiet (fail);go_wp2_with fail;refine (yc a'.k _).mono ?_;rintro e w3 ⟨rfl,hw3⟩
   have B3:Hid (Below w2.heap.size w2 w3):=aC (by
    rw [<-hw3];exact below_drewN (aT _ _) _)
   have AG:Hid (Uu U s m first S a' b' ca cb w3):=aC ⟨HH.out.lg.aU (ah H2.out.2.2 B3.out),HH.out.kg,HH.out.hU,H2.out.1.aU B3.out,H2.out.2.1.aU B3.out,L.out.1.1,L.out.2.1,by
    have h1:=HH.out.mb;have h2:=L.out.1.2.2.2.1;have h3:=L.out.2.2.2.2.1;omega⟩
   clear hw3 x0 x1 y0 y1 ka kb va vb kk kk'
   cases hr:av a'.k with
   |true=>
    have HR:=aC hr;have adp:=aC (aaz HE.out U s m first S a' b' ca cb w3 AG.out HR.out KK.out.symm ado.out);unfold pk at adp;go_wp2_with fail;refine adp.out.mono ?_;rintro e w4 ⟨r,rfl,hp⟩;have HP:=aC hp;clear hp;go_wp2_with fail;go_ret
    exact FIN.out _ _ _ _ (ah H2.out.2.2 B3.out) (bN _) ⟨r,rfl,HP.out⟩
   |false=>
    have LK:Hid (Like a' b'):=aC ⟨KK.out.symm,KA.out,VA.out,hr⟩;have hlen:=LK.out.len L.out.1.1 L.out.2.1;obtain ⟨ka,na,fa,la⟩:=a';obtain ⟨kb,nb,fb,lb⟩:=b';obtain ⟨A1,B1,SK,bs1,ca1,cb1,t1a,p1,p2,p3,p4,p5,p6,p7,p8,p9⟩:=AG.out.na.parts;obtain ⟨A2,B2,kG,Ak,JR,Ct,t2a,q1,q2,q3,q4,q5,q6,q7,q8,q9⟩:=AG.out.nb.parts;have x3:w3.cell? ⟨ca,3,none⟩=some (.slice B1 bs1.length cb1):=by simp [adw,p1]
    have y3:Hid (∀W,Fr (SX s m) w3 W->W.cell? ⟨cb,3,none⟩=some (.slice B2 Ak.length Ct)):=aC fun W hW=>(adN (w:=w3) (hW.block cb (ade.1 q1).1 q9)).trans (by simp [adw,q1]);have hfl:Hid (fa.length=fb.length):=aC hlen;have P1:=aC (Gw p5 (Gw p6 p7));have P2:=aC (Gw q5 (Gw q6 q7))
    have hbb:bs1.length=Ak.length:=by
     have:fa.length=fb.length:=hlen;omega
    have apj:bs1.length<=100002:=by
     have h1:=L.out.1.1.J9;have h2:=HH.out.hU;have h3:fa.length<=U.length+2:=h1;omega
    clear hlen p1 p2 p3 p4 p5 p6 p7 p8 p9 q1 q2 q3 q4 q5 q6 q7 q8 q9;go_wp2_with fail;go_loopw [104] (fun adq wr=>∃(i:Nat) (S':Kn),adq= .int .i64 i/\i<=bs1.length/\Hid (qC U S S' (.mk ka na fa la) (.mk kb nb fb lb) i/\bH (SX s m) s m first wr S'/\Fr (SX s m) w3 wr)) (fun adq _=>bs1.length-(intOf adq).toNat)
    case atStart=>exact ⟨0,S,rfl,h_ _,aC ⟨.start HH.out.kg _ _,AG.out.lg,Fr.refl _ _⟩⟩
    case round=>
     obtain ⟨i,S',rfl,hi,M⟩:=hrel;by_cases hp:i<bs1.length
     ·obtain ⟨c,hc⟩:=aD hp
      obtain ⟨d,hd⟩:=aD (l:=Ak) (i:=i) (by omega);obtain ⟨pc,hpc⟩:=aD (l:=fa) (i:=i) (by have:=P1.out.2.1;omega);obtain ⟨pd,CJ⟩:=aD (l:=fb) (i:=i) (by have:=P2.out.2.1;omega);have nc:=P1.out.2.2 i pc c hpc hc;have nd:=P2.out.2.2 i pd d CJ hd;obtain ⟨bb1,oo1,rfl,z1,z2,z3⟩:=P1.out.1.Iw hc;obtain ⟨bb2,oo2,rfl,z4,z5,z6⟩:=P2.out.1.Iw hd;have g1:=(adN (w:=w3) (M.out.2.2.block bb1 z2 z1)).trans z3;have g2:=(adN (w:=w3) (M.out.2.2.block bb2 z5 z4)).trans z6;have g3:=y3.out wr M.out.2.2;have G:=aC (Gw hpc (Gw CJ (Gw nc nd)));have hless:=M.out.1.less LK.out L.out.1.1 L.out.2.1 (show (Ut.mk ka na fa la).fs[i]?=some pc from hpc) (show (Ut.mk kb nb fb lb).fs[i]?=some pd from CJ)
      have Xa:Hid (AV U s m first S' pc.2 pd.2 c d wr):=aC (ado.out S' pc.2 pd.2 c d wr (by
       rcases hless with h|⟨h,rfl,h3⟩
       ·exact .inl h
       ·exact .inr ⟨h,h3⟩) ⟨M.out.2.1,M.out.1.kg,HH.out.hU,nc.fr M.out.2.2 fun _ _ e=>e,nd.fr M.out.2.2 fun _ _ e=>e,(M.out.1.tg L.out.1.1).child (Yt hpc),(M.out.1.tg L.out.2.1).child (Yt CJ),by
        have h1:=M.out.1.m;have h2:=AG.out.mb;have h3:=qO (show (Ut.mk ka na fa la).fs[i]?=some pc from hpc);have h4:=qO (show (Ut.mk kb nb fb lb).fs[i]?=some pd from CJ);omega⟩)
      unfold AV pk at Xa;clear hc hd hpc CJ nc nd z1 z2 z3 z4 z5 z6 hless;go_wp2_with fail;refine Xa.out.mono ?_;clear Xa;rintro e w6 ⟨r,rfl,f6,d6,s6⟩
      cases r with
      |false=>
       have F6:=aC (Gw f6 (d6 rfl));clear f6 d6 s6;go_wp2_with fail;go_ret
       exact FIN.out w3 _ _ _ (ah H2.out.2.2 B3.out) (bN _) ⟨false,rfl,M.out.2.2.trans F6.out.1,fun _=>M.out.1.fail LK.out L.out.1.1 L.out.2.1 G.out.1 G.out.2.1 F6.out.2,fun h=>by cases h⟩
      |true=>
       obtain ⟨S2,hd6,hs6⟩:=s6 rfl;have F6:=aC (Gw f6 (Gw (M.out.1.next LK.out L.out.1.1 L.out.2.1 G.out.1 G.out.2.1 hd6) hs6));clear f6 d6 s6 hd6 hs6;go_wp2_with fail;go_roundw
       case rel=>exact ⟨i+1,S2,by go_num,hp,aC ⟨F6.out.2.1,F6.out.2.2,M.out.2.2.trans F6.out.1⟩⟩
       case measure=>simp [intOf];omega
     ·go_wp2_with fail
      go_ret;exact FIN.out w3 _ _ _ (ah H2.out.2.2 B3.out) (bN _) ⟨true,rfl,M.out.2.2,fun h=>(by cases h),fun _=>⟨S',M.out.1.stop LK.out L.out.1.1 L.out.2.1 (by have:=P1.out.2.1;show fa.length<=i;omega),M.out.2.1⟩⟩
theorem Xk (hE:Gg) (U:List Lb) (s m:Nat) (first:Int):∀(x y:Nat) (S:Kn) (a b:Ut) (ba bb:Nat) (w:World),S.un+(aJ a+aJ b)=x->gL (inst S.σ a)+gL (inst S.σ b)=y->Uu U s m first S a b ba bb w->AV U s m first S a b ba bb w:=by
 intro x
 induction x using afb with
 |_ x ihx=>
  intro y
  induction y using afb with
  |_ y ihy=>
   intro S a b ba bb w hx hy h;refine agree_step hE U s m first S a b ba bb w h fun S' c d bc bd w' hl h'=>?_;rcases hl with hl|⟨h1,h2⟩
   ·exact ihx _ (by omega) _ S' c d bc bd w' rfl rfl h'
   ·exact ihy _ (by omega) S' c d bc bd w' (by omega) rfl h'
theorem aaI:Gg:=by
 intro U s m first S a b x y p q w UA VA cu cv ul vl tp tq h
 cases p with
 |none=>
  cases q with
  |none=>exact ac7 cu cv h
  |some q0=>exact adh cu cv h
 |some p0=>
  cases q with
  |none=>exact adf cu cv h
  |some q0=>
   by_cases e:p0=q0
   ·subst e;exact Q0 cu cv h
   ·exact adi cu cv e h
theorem Xl (U:List Lb) (s m:Nat) (first:Int) (S:Kn) (a b:Ut) (ba bb:Nat) (w:World) (h:Uu U s m first S a b ba bb w):AV U s m first S a b ba bb w:=
 Xk aaI U s m first _ _ S a b ba bb w rfl rfl h
structure oI (U:List Lb) (s m:Nat) (first:Nat) (w:World) (S:Kn):Prop where
 lg:bH (SX s m) s m (first:Int) w S
 kg:KG U S
 hU:U.length<=100000
 f1:first<=1000000
 fm:(first:Int)<=S.m
 hL:∀n:Int,n<(first:Int)->S.L n=none
theorem oI.aU {U:List Lb} {s m first:Nat} {w w':World} {S:Kn} (h:oI U s m first w S) (hb:Below w.heap.size w w'):oI U s m first w' S:=⟨h.lg.aU hb,h.kg,h.hU,h.f1,h.fm,h.hL⟩
def Uz (U:List Lb) (s m:Nat) (first:Nat) (S:Kn) (a b:Ut) (w:World) (e:Ending) (w':World):Prop:=
 ∃ok:Bool,e= .returned (.int .i64 (if ok=true then 0 else 9))/\Fr (SX s m) w w'/\(ok=false->pX S a b\/∃S',Done U S S' (bF a b) (aJ a+aJ b)/\¬fK (first:Int) S')/\
  (ok=true->∃S',Done U S S' (bF a b) (aJ a+aJ b)/\fK (first:Int) S'/\oI U s m first w' S')
theorem yj (U:List Lb) (s m:Nat) (first:Nat) (S:Kn) (w:World) (A B:Option Addr) (ca cb:Nat) (a b:List Nd) (hS:oI U s m first w S) (hA:aM w w.heap.size A a) (hB:aM w w.heap.size B b) (la:a.length<=1000000) (lb:b.length<=1000000)
  (ga:ko a) (gb:ko b) (ta:TG U S (dI a)) (tb:TG U S (dI b)) (mb:S.m+(S.un:Int)+2*(aJ (dI a)+aJ (dI b):Nat)<=2305843009213693952):
  Calls Try.prog 33 #[pk s,.slice A a.length ca,.slice B b.length cb] w (Uz U s m first S (dI a) (dI b) w):=by
 have hlt:=l7 hS.lg;have h1:=aC (Ig _ a (bN _) (.inl ga) (SX s m) a [] 0 A ca w hA la (by simp) hlt);have h2:=aC (fun w1 (hb1:Below w.heap.size w w1)=>Ig _ b (bN _) (.inl gb) (SX s m) b [] 0 B cb w1 ((hB.below hb1).more hb1.size) lb (by simp) (fun k hk=>vv (hlt k hk) hb1.size));have HS:=aC hS;have HG:=aC (Gw ga (Gw gb (Gw ta (Gw tb mb))));clear hS hA hB ga gb ta tb mb hlt;unfold pk;go_enter Try.func33,Try.ntmps33;go_wp2_with fail;refine h1.out.mono ?_;rintro e w1 ⟨g1,rfl,t1,b1,_⟩;have T1:=aC (Gw (t1.1 HG.out.1) b1);clear t1 b1 h1;unfold pk;go_wp2_with fail;refine (h2.out w1 T1.out.2).mono ?_;rintro e w2 ⟨g2,rfl,t2,b2,_⟩;have T2:=aC (Gw (t2.1 HG.out.2.1) b2);clear t2 b2 h2;have h3:=Xl U s m first S (dI a) (dI b) g1 g2 w2 ⟨(HS.out.lg.aU T1.out.2).aU T2.out.2,HS.out.kg,HS.out.hU,T1.out.1.aU T2.out.2,T2.out.1,HG.out.2.2.1,HG.out.2.2.2.1,HG.out.2.2.2.2⟩;unfold AV pk at h3;unfold pk;go_wp2_with fail;refine h3.mono ?_;clear h3;rintro e w3 ⟨r,rfl,f3,hno,hyes⟩;have F3:=aC ((Fr.below (X:=SX s m) (ah T1.out.2 T2.out.2)).trans f3)
 cases r with
 |false=>
  have HNO:=aC (hno rfl);clear hno hyes f3;go_wp2_with fail;go_ret
  exact ⟨false,rfl,F3.out,fun _=>.inl HNO.out,fun h=>by cases h⟩
 |true=>
  obtain ⟨S',d,adr⟩:=hyes rfl;have D:=aC (Gw d adr);have hm':(first:Int)<=S'.m:=Int.le_trans HS.out.fm d.st.le.m;have hL':∀n:Int,n<(first:Int)->S'.L n=none:=fun n hn=>by rw [d.st.le.L n (by have:=HS.out.fm;omega)];exact HS.out.hL n hn
  have HM:=aC (Gw hm' hL');have h4:=aC (Xg U s m first S' w3 adr d.kg HS.out.hU HS.out.f1 hm' hL');unfold pk at h4;clear hno hyes f3 d adr hm' hL';go_wp2_with fail;refine h4.out.mono ?_;clear h4;rintro e w4 ⟨r2,rfl,hiff,hb4⟩;have B4:=aC (Gw hiff hb4);have F4:=aC (F3.out.trans (Fr.below hb4));clear hiff hb4
  cases r2 with
  |false=>
   go_wp2_with fail;go_ret
   exact ⟨false,rfl,F4.out,fun _=>.inr ⟨S',D.out.1,fun h=>by have:=B4.out.1.2 h;cases this⟩,fun h=>by cases h⟩
  |true=>
   go_wp2_with fail;go_ret;exact ⟨true,rfl,F4.out,fun h=>(by cases h),fun _=>⟨S',D.out.1,B4.out.1.1 (by first|rfl|trivial),⟨D.out.2.aU B4.out.2,D.out.1.kg,HS.out.hU,HS.out.f1,HM.out.1,HM.out.2⟩⟩⟩
theorem aM.off {w:World} {B s m:Nat} {first next:Int} {A:Option Addr} {xs:List Nd} (h:aM w B A xs) (hs:w.heap[s]?=some (iU first next m)) (hne:xs≠[]):∀a,A=some a->a.block≠s:=by
 rintro a ha e
 cases xs with
 |nil=>exact hne rfl
 |cons x xs=>
  obtain ⟨b1,o1,rfl,_,_,c1,_⟩:=h.at_ (i:=0) (x:=x) rfl;injection ha with ha
  subst ha;have e:b1=s:=e;subst e;simp only [adw,hs,iU] at c1
  match ho:o1+0*3+1,c1 with
  |0,c1=>simp at c1
  |1,c1=>simp at c1
  |2,c1=>simp at c1
  |n+3,c1=>simp at c1
theorem aaJ (U:List Lb) (S:Kn) (s m:Nat) (first:Int) (hK:KG U S) (hU:U.length<=100000) (t:Ut) (g:Nat) (W:World) (l:Lb) (hS:bH (SX s m) s m first W S) (hn:aF (SX s m) W g t) (gt:TG U S t) (hl:(aB l (inst S.σ t)).length<=1000000000):
  Calls Try.prog 57 #[pk s,.slice none 0 0,.string l,pk g] W (jP W (aB l (inst S.σ t))):=by
 have hlt:=l7 hS
 have hm:∀k,k<W.heap.size->TX W.heap.size s m k->SX s m k:=fun k hk h=>by
  rcases h with h|h
  ·exact h
  ·omega
 have h:=aaG U S s m first W.heap.size hK hU _ t (bN _) g W none 0 [] l ⟨⟨hlt s (.inl rfl),hlt m (.inr rfl)⟩,bN _,hS.more (.inl (.inl rfl)) (.inl (.inr rfl)) hm,aA.nil⟩ (hn.more hm) gt (by simpa using hl);refine h.mono ?_;rintro e w' ⟨A',c',rfl,ho,gr⟩;rw [RU] at ho ⊢;exact ⟨A',c',rfl,ho,gr.fr.toBelow fun k ⟨a,ha,_⟩=>by cases ha⟩
theorem JG (U:List Lb) (s m:Nat) (first:Nat) (S:Kn) (w:World) (A:Option Addr) (ca:Nat) (a:List Nd) (hS:oI U s m first w S) (hA:aM w w.heap.size A a) (la:a.length<=1000000) (ga:ko a) (ta:TG U S (dI a)) (hl:(aB (bB a).s (inst S.σ (dI a))).length<=1000000000):
  Calls Try.prog 24 #[pk s,.slice A a.length ca] w (jP w (aB (bB a).s (inst S.σ (dI a)))):=by
 have hlt:=l7 hS.lg
 have HT:Hid (∀W,Below w.heap.size w W->Calls Try.prog 58 #[.slice A a.length ca,.int .i64 0] W (fun e w'=>∃g,e= .returned (.pointer (some ⟨g,0,none⟩))/\aF (SX s m) w' g (dI a)/\Below w.heap.size w w')):=aC fun W hW=>by
  refine (Ig _ a (bN _) (.inl ga) (SX s m) a [] 0 A ca W ((hA.below hW).more hW.size) la (by simp) (fun k hk=>vv (hlt k hk) hW.size)).mono ?_;rintro e w' ⟨g,he,h1,h2,_⟩;exact ⟨g,he,h1.1 ga,ah hW h2⟩
 have HTL:Hid (∀W g,aF (SX s m) W g (dI a)/\Below w.heap.size w W->Calls Try.prog 57 #[.pointer (some ⟨s,0,none⟩),.slice none 0 0,.string (bB a).s,.pointer (some ⟨g,0,none⟩)] W (jP w (aB (bB a).s (inst S.σ (dI a))))):=aC fun W g hW=>by
  refine (aaJ U S s m first hS.kg hS.hU (dI a) g W (bB a).s (hS.lg.aU hW.2) hW.1 ta hl).mono ?_;rintro e w' ⟨A',c',he,h1,h2⟩;exact ⟨A',c',he,h1.lower hW.2.size,ah hW.2 h2⟩
 have hx:a[0]?=some (bB a):=by
  have:=ga.ne
  cases a with
  |nil=>exact absurd rfl this
  |cons x xs=>rfl
 have hpos:0<a.length:=bf hx;obtain ⟨b1,o1,rfl,hb1,c10,c11,c12⟩:=hA.at_ hx;simp only [Nat.zero_mul,Nat.add_zero] at c10 c11 c12;clear hS hA ga ta hl hx hlt;unfold pk;go_enter Try.func24,Try.ntmps24;go_wp2_with fail
 go_region_law
  (first
   |(go_simp;(with_reducible refine (HT.out _ ?_).mono ?_);(first|exact aT _ _|exact (aT _ _).drew);rintro e w1 ⟨g,rfl,n1,b1'⟩;have T1:=aC (Gw n1 b1');have d11:=(b1'.cell (p:=⟨b1,o1+1,none⟩) hb1).trans c11;have hbw:=vv hb1 b1'.size;clear n1 b1';dsimp only)
   |(go_simp;(with_reducible refine (HTL.out _ _ ?_).mono ?_);(first|exact T1.out|exact ⟨T1.out.1.aU (aT _ _).drew,T1.out.2.drew⟩);rintro e w2 ⟨A',c',rfl,o2,b2⟩;have T2:=aC (Gw o2 b2);clear o2 b2;dsimp only))
 all_goals
  go_wp2_with fail;go_ret;exact ⟨A',c',rfl,T2.out.1,T2.out.2⟩
theorem aiT (s m:Nat) (first:Int) (S:Kn) (w:World) (hS:bH (SX s m) s m first w S) (h0:0<=S.m) (h1:S.m+1<=9223372036854775807):
  Calls Try.prog 34 #[pk s] w fun e w'=>∃A' c',e= .returned (.slice A' 1 c')/\fA w' w.heap.size A' c' [⟨8,pR,S.m⟩]/\Fr (SX s m) w w'/\∀S':Kn,S'.κ=S.κ->S'.m=S.m+1->bH (SX s m) s m first w' S':=by
 have hf:=aC (yg s m first S.m 8 w hS.st (by omega) h1);have HS:=aC hS;clear hS;unfold pk at hf ⊢;go_enter Try.func34,Try.ntmps34;go_wp2_with fail;refine hf.out.mono ?_;clear hf;rintro e w1 ⟨b,rfl,hb,hb2,hs,hfr⟩;have c1:w1.cell? ⟨b,1,none⟩=some (.int .i64 S.m):=by simp [adw,hb2,wu]
 have zb:b<w1.heap.size:=(ade.1 hb2).1;have G:=aC (Gw hs hfr);clear hs hfr hb2;go_wp2_with fail;go_ret;refine ⟨_,_,rfl,(rF w1 ⟨8,pR,S.m⟩).lower G.out.2.size,((G.out.2.mono fun k e=>.inl e).alloc _),fun S' hκ hm=>(HS.out.fresh G.out.1 G.out.2 hκ hm).aU (ak (aT _ _) _)⟩
theorem Xm (s m:Nat) (first:Int) (S:Kn) (k:Int) (l:Lb) (A:Option Addr) (ca:Nat) (x:Nd) (w:World) (hS:bH (SX s m) s m first w S) (hA:aM w w.heap.size A [x]) (h0:0<=S.m) (h1:S.m+1<=9223372036854775807):
  Calls Try.prog 37 #[pk s,.int .i64 k,.string l,.slice A 1 ca] w fun e w'=>∃A' c',e= .returned (.slice A' 3 c')/\fA w' w.heap.size A' c' (Cg k l x S.m)/\Fr (SX s m) w w'/\∀S':Kn,S'.κ=S.κ->S'.m=S.m+1->bH (SX s m) s m first w' S':=by
 have hs0:=l7 hS;have hbw:=ak (aT w.heap.size w) (.cells #[.int .i64 k,.string pR,.int .i64 2] 48);have hSW:=hS.aU hbw;have hf:=aC (yg s m first S.m 9 _ hSW.st (by omega) h1);have T1:=aC (BD w ⟨k,pR,2⟩);have HS:=aC (Gw hSW (Gw hbw (Gw hA hs0)));have Bc:Hid (w.heap[s]?=some (iU first S.m m)):=aC hS.st;clear hS hSW hA hbw hs0;unfold pk at hf ⊢;go_enter Try.func37,Try.ntmps37;go_wp2_with fail;refine hf.out.mono ?_;clear hf;rintro e w1 ⟨b,rfl,hb,hb2,hs,hfr⟩;have c1:w1.cell? ⟨b,1,none⟩=some (.int .i64 S.m):=by simp [adw,hb2,wu]
 have zb:b<w1.heap.size:=(ade.1 hb2).1;have G:=aC (Gw hs hfr);clear hs hfr hb2;have HA1:Hid (aM w1 (w.heap.size+1) A [x]):=aC ((((HS.out.2.2.1.below HS.out.2.1).frame (Fr.mono G.out.2 fun k e=>e) (by simp) fun _ a ha e=>HS.out.2.2.1.off Bc.out (by simp) a ha e)).more (by omega))
 have HK1:Hid (aM w1 (w.heap.size+1) (some ⟨w.heap.size,0,none⟩) [⟨k,pR,2⟩]):=aC (T1.out.frame G.out.2 (by simp) fun _ a ha e=>by
  injection ha with ha
  subst ha;have e:w.heap.size=s:=e;have:=HS.out.2.2.2 s (.inl rfl);omega)
 have hz:=G.out.2.size;simp only [ae9] at hz;go_wp2_with fail;have R6:=R7 (w1.alloc (.cells #[.int .i64 9,.string ⟨#[]⟩,.int .i64 S.m] 48)) (some ⟨w.heap.size,0,none⟩,1,1) (A,1,ca) (some ⟨w1.heap.size,0,none⟩,1,1);rw [ae9] at R6;have hb0:=ak (ak (aT w1.heap.size w1) (.cells #[.int .i64 9,.string ⟨#[]⟩,.int .i64 S.m] 48)) (.cells #[.slice (some ⟨w.heap.size,0,none⟩) 1 1,.slice A 1 ca,.slice (some ⟨w1.heap.size,0,none⟩) 1 1] 34);have hnew:=((BD w1 ⟨9,pR,S.m⟩).alloc (by simp) (.cells #[.slice (some ⟨w.heap.size,0,none⟩) 1 1,.slice A 1 ca,.slice (some ⟨w1.heap.size,0,none⟩) 1 1] 34));obtain ⟨W,hW⟩:∃W,W=(w1.alloc (.cells #[.int .i64 9,.string ⟨#[]⟩,.int .i64 S.m] 48)).alloc (.cells #[.slice (some ⟨w.heap.size,0,none⟩) 1 1,.slice A 1 ca,.slice (some ⟨w1.heap.size,0,none⟩) 1 1] 34):=⟨_,rfl⟩;have hWs:W.heap.size=w1.heap.size+2:=by rw [hW];simp
 replace R6:sZ W W.heap.size (some ⟨w1.heap.size+1,0,none⟩) [(some ⟨w.heap.size,0,none⟩,1,1),(A,1,ca),(some ⟨w1.heap.size,0,none⟩,1,1)]:=by rw [hWs,hW];exact R6
 replace hb0:Below w1.heap.size w1 W:=by rw [hW];exact hb0
 replace hnew:aM W (w1.heap.size+1) (some ⟨w1.heap.size,0,none⟩) [⟨9,pR,S.m⟩]:=by rw [hW];exact hnew
 have h:=R5 (some ⟨w1.heap.size+1,0,none⟩) 3 [(some ⟨w.heap.size,0,none⟩,1,1),(A,1,ca),(some ⟨w1.heap.size,0,none⟩,1,1)] [[⟨k,pR,2⟩],[x],[⟨9,pR,S.m⟩]] W R6 ⟨rfl,fun i v xs hv hx=>by
  match i,hv,hx with
  |0,hv,hx=>
   simp at hv hx;subst hv hx
   exact ⟨rfl,(HK1.out.below (hb0.mono hz)).more (by omega)⟩
  |1,hv,hx=>simp at hv hx;subst hv hx;exact ⟨rfl,(HA1.out.below (hb0.mono hz)).more (by omega)⟩
  |2,hv,hx=>simp at hv hx;subst hv hx;exact ⟨rfl,hnew.more (by omega)⟩
  |i+3,hv,hx=>simp at hv⟩ (by simp) (by simp)
 rw [<-hW];refine h.mono ?_;clear h;rintro e w5 ⟨A',cap',rfl,hown,hbel⟩;have hfl:[[(⟨k,pR,2⟩:Nd)],[x],[⟨9,pR,S.m⟩]].flatten=[⟨k,pR,2⟩,x,⟨9,pR,S.m⟩]:=by simp
 rw [hfl] at hown;obtain ⟨g,rfl,hbg,hgz,cg,fg,hown2,hgg⟩:=aA.ai9 hown (j:=1) (x:=x) rfl l;have Z:=aC (Gw hown2 (Gw hgg (Gw (hb0.trans (hbel.mono hb0.size)) hbg)));have hz2:=hb0.size;clear hown hown2 hgg hbel R6 hnew hb0;simp only [List.flatten_cons,List.flatten_nil,List.cons_append,RU,List.append_nil,Bl,adb];go_wp2_with fail;go_ret;have hbs:Below w1.heap.size w1 (w5.setCell ⟨g,4,none⟩ (.string l)):=Z.out.2.2.1.setCell (p:=⟨g,4,none⟩) (Nat.le_trans hz2 Z.out.2.2.2) _;refine ⟨_,_,rfl,Z.out.1.lower (by omega),?_,fun S' hκ hm=>(HS.out.1.fresh G.out.1 G.out.2 hκ hm).aU hbs⟩;exact ((Fr.below HS.out.2.1).trans (G.out.2.mono fun k e=>.inl e)).trans (Fr.below hbs)
theorem ads {w:World} {s m:Nat} {n:Int} (hne:s≠m) (hs:w.heap[s]?=some (iU n n m)) (hm:jV ik w m []):bH (SX s m) s m n w (Kn.zero n):=
 ⟨hne,.inl rfl,.inr rfl,hs,[],hm,fun k=>FR k⟩
theorem Po {U:List Lb} {w:World} {s m:Nat} {n:Nat} (hU:U.length<=100000) (hn:n<=1000000) (hne:s≠m) (hs:w.heap[s]?=some (iU (n:Int) (n:Int) m)) (hm:jV ik w m []):oI U s m n w (Kn.zero (n:Int)):=
 ⟨ads hne hs hm,FI U (by omega),hU,hn,Int.le_refl _,fun _ _=>rfl⟩
theorem Q6 {w0 w w':World} {s m:Nat} (hs:w0.heap.size<=s) (hm:w0.heap.size<=m) (hb:Below w0.heap.size w0 w) (hf:Fr (SX s m) w w'):Below w0.heap.size w0 w':=
 ((Fr.below (X:=SX s m) hb).trans hf).toBelow fun k hk=>by
  rcases hk with rfl|rfl
  ·exact hs
  ·exact hm
theorem Aq (w:World):
  Calls Try.prog 16 #[] w fun e w'=>e= .returned (.bool true)/\Below w.heap.size w w':=by
 have hnew:=aC (TL 1 w);go_enter Try.func16,Try.ntmps16;go_wp2_with fail;refine hnew.out.mono ?_;clear hnew;rintro e w1 ⟨s,m,rfl,hs,hm,hne,hst,hmap,hb1⟩;have hg:oI mE s m 1 w1 (Kn.zero 1):=Po (n:=1) (by simp [mE]) (by omega) hne hst hmap;have HG:=aC hg;have HB:=aC (Gw hs (Gw hm hb1));clear hs hm hne hst hmap hb1 hg
 have HA:Hid (Calls Try.prog 33 #[pk s,.slice (some ⟨w1.heap.size,0,none⟩) 3 3,.slice (some ⟨w1.heap.size+1,0,none⟩) 3 3]
   ((w1.alloc (.cells #[.int .i64 5,.string ⟨#[]⟩,.int .i64 0,.int .i64 8,.string ⟨#[]⟩,.int .i64 0,.int .i64 0,.string ⟨#[]⟩,.int .i64 0] 48)).alloc (.cells #[.int .i64 5,.string ⟨#[]⟩,.int .i64 0,.int .i64 1,.string ⟨#[]⟩,.int .i64 0,.int .i64 2,.string ⟨#[]⟩,.int .i64 0] 48))
   (fun e w'=>e= .returned (.int .i64 0)/\Below w.heap.size w w'/\∃S',oI mE s m 1 w' S'/\S'.σ.v 0=oz/\S'.m+(S'.un:Int)<=100)):=aC (by
  have hb:=ak (ak (aT w1.heap.size w1) (.cells #[.int .i64 5,.string ⟨#[]⟩,.int .i64 0,.int .i64 8,.string ⟨#[]⟩,.int .i64 0,.int .i64 0,.string ⟨#[]⟩,.int .i64 0] 48)) (.cells #[.int .i64 5,.string ⟨#[]⟩,.int .i64 0,.int .i64 1,.string ⟨#[]⟩,.int .i64 0,.int .i64 2,.string ⟨#[]⟩,.int .i64 0] 48);have t1:=gV w1 rW #[.int .i64 5,.string ⟨#[]⟩,.int .i64 0,.int .i64 8,.string ⟨#[]⟩,.int .i64 0,.int .i64 0,.string ⟨#[]⟩,.int .i64 0] rfl;have t2:=gV (w1.alloc (.cells #[.int .i64 5,.string ⟨#[]⟩,.int .i64 0,.int .i64 8,.string ⟨#[]⟩,.int .i64 0,.int .i64 0,.string ⟨#[]⟩,.int .i64 0] 48)) rX #[.int .i64 5,.string ⟨#[]⟩,.int .i64 0,.int .i64 1,.string ⟨#[]⟩,.int .i64 0,.int .i64 2,.string ⟨#[]⟩,.int .i64 0] rfl;simp only [ae9] at t2;have ta:=(lV.1).tg (S:=Kn.zero 1) HG.out.hL HG.out.fm;have tb:=(lV.2.1).tg (S:=Kn.zero 1) HG.out.hL HG.out.fm;refine (yj mE s m 1 (Kn.zero 1) _ _ _ 3 3 rW rX (HG.out.aU hb) ((t1.below (ak (aT _ _) _ |>.mono (by simp))).more (by simp)) (t2.more (by simp)) (by simp [rW]) (by simp [rX]) jN.1 jN.2.1 ta tb ?_).mono ?_
  ·have h1:aJ (dI rW)<=3:=qh jN.1
   have h2:aJ (dI rX)<=3:=qh jN.2.1;have h3:=Ld (m0:=1) (by omega);show (1:Int)+_+_<=_;omega
  ·rintro e w' ⟨ok,rfl,hf,hno,hyes⟩
   have hrun:=Run.start mE (m0:=1) (by omega);have hlow:=OE lV.1 lV.2.1
   cases ok with
   |false=>
    exfalso;rcases hno rfl with d|⟨S',d,hnf⟩
    ·exact Jq (hrun.dis d hlow)
    ·exact Jq (hrun.big d.st hlow hnf)
   |true=>
    obtain ⟨S',d,_,hS'⟩:=hyes rfl;refine ⟨rfl,Q6 HB.out.1 HB.out.2.1 (ah HB.out.2.2 hb) hf,S',hS',Ql (S:=Kn.zero 1) rfl (by show (0:Int)<1;omega) d.st,?_⟩;have h1:aJ (dI rW)<=3:=qh jN.1;have h2:aJ (dI rX)<=3:=qh jN.2.1;have h3:=Ld (m0:=1) (by omega);have h4:=d.m;have h5:(Kn.zero 1).m=1:=rfl;omega)
 unfold pk at HA;go_wp2_with fail;refine HA.out.mono ?_;clear HA;rintro e w2 ⟨rfl,hb2,S',hg2,hv,hm2⟩;have G2:=aC (Gw hb2 (Gw hg2 (Gw hv hm2)));clear hb2 hg2 hv hm2
 have HK:Hid (Calls Try.prog 24 #[pk s,.slice (some ⟨w2.heap.size,0,none⟩) 1 1] (w2.alloc (.cells #[.int .i64 8,.string ⟨#[]⟩,.int .i64 0] 48)) (fun e w'=>∃A' c',e= .returned (.slice A' 1 c')/\fA w' w2.heap.size A' c' [⟨1,pR,0⟩]/\Below w2.heap.size w2 w')):=aC (by
  have hb:=ak (aT w2.heap.size w2) (.cells #[.int .i64 8,.string ⟨#[]⟩,.int .i64 0] 48);have t1:=gV w2 [fI 8 0] #[.int .i64 8,.string ⟨#[]⟩,.int .i64 0] rfl
  have hfl:aB pR (inst S'.σ (dI [fI 8 0]))=[⟨1,pR,0⟩]:=by
   rw [tX.2.2.1,aW,G2.out.2.2.1];unfold oz;rw [bY,if_neg (by decide),gH]
  have hk:=JG mE s m 1 S' _ (some ⟨w2.heap.size,0,none⟩) 1 [fI 8 0] (G2.out.2.1.aU hb) (t1.more (by simp)) (by simp) jN.2.2.1 ((lV.2.2.1).tg G2.out.2.1.hL G2.out.2.1.fm) (by
   show (aB pR _).length<=_;rw [hfl];simp)
  refine hk.mono ?_;rintro e w' ⟨A',c',rfl,h1,h2⟩;have akO:aB (bB [fI 8 0]).s (inst S'.σ (dI [fI 8 0]))=[⟨1,pR,0⟩]:=hfl;rw [akO] at h1 ⊢;exact ⟨A',c',rfl,h1.lower hb.size,ah hb h2⟩)
 unfold pk at HK;go_wp2_with fail;refine HK.out.mono ?_;clear HK;rintro e w3 ⟨A',c',rfl,ho3,hb3⟩;obtain ⟨b1,o1,rfl,hz1,c10,_,_⟩:=(aA.g_ ho3).at_ (i:=0) (x:=⟨1,pR,0⟩) rfl;simp only [Nat.zero_mul,Nat.add_zero] at c10;have G3:=aC (Gw (ah G2.out.1 hb3) (G2.out.2.1.aU hb3));clear ho3 hb3
 have HN:Hid (Calls Try.prog 33 #[pk s,.slice (some ⟨w3.heap.size,0,none⟩) 1 1,.slice (some ⟨w3.heap.size+1,0,none⟩) 1 1]
   ((w3.alloc (.cells #[.int .i64 8,.string ⟨#[]⟩,.int .i64 0] 48)).alloc (.cells #[.int .i64 4,.string ⟨#[]⟩,.int .i64 0] 48))
   (fun e w'=>e= .returned (.int .i64 9)/\Below w.heap.size w w')):=aC (by
  have hb:=ak (ak (aT w3.heap.size w3) (.cells #[.int .i64 8,.string ⟨#[]⟩,.int .i64 0] 48)) (.cells #[.int .i64 4,.string ⟨#[]⟩,.int .i64 0] 48);have t1:=gV w3 [fI 8 0] #[.int .i64 8,.string ⟨#[]⟩,.int .i64 0] rfl;have t2:=gV (w3.alloc (.cells #[.int .i64 8,.string ⟨#[]⟩,.int .i64 0] 48)) [fI 4 0] #[.int .i64 4,.string ⟨#[]⟩,.int .i64 0] rfl;simp only [ae9] at t2;have ta:=(lV.2.2.1).tg G3.out.2.hL G3.out.2.fm;have tb:=(lV.2.2.2).tg G3.out.2.hL G3.out.2.fm;refine (yj mE s m 1 S' _ _ _ 1 1 [fI 8 0] [fI 4 0] (G3.out.2.aU hb) ((t1.below (ak (aT _ _) _ |>.mono (by simp))).more (by simp)) (t2.more (by simp)) (by simp) (by simp) jN.2.2.1 jN.2.2.2 ta tb ?_).mono ?_
  ·have h1:=qh jN.2.2.1
   have h2:=qh jN.2.2.2;have h3:=G2.out.2.2.2;simp only [Bl,adb] at h1 h2;omega
  ·rintro e w' ⟨ok,rfl,hf,hno,hyes⟩
   cases ok with
   |false=>exact ⟨rfl,Q6 HB.out.1 HB.out.2.1 (ah G3.out.1 hb) hf⟩
   |true=>
    exfalso;obtain ⟨S2,d,_,_⟩:=hyes rfl;exact ZH G3.out.2.kg.inv (G3.out.2.hL 0 (by decide)) G2.out.2.2.1 d.st)
 unfold pk at HN;go_wp2_with fail;refine HN.out.mono ?_;clear HN;rintro e w4 ⟨rfl,hb4⟩;go_wp2_with fail;go_ret;exact ⟨rfl,hb4⟩
theorem Gj {m0 k:Nat} {S:Kn} (h:k<m0):(gU m0 S).take (k+1)=(gU m0 S).take k++[aB pR (S.σ.v (k:Int))]:=by
 unfold gU;rw [List.take_add_one]
 congr 1
 rw [List.getElem?_map,List.getElem?_range h];rfl
theorem CP (m0:Nat) (S:Kn):(gU m0 S).length=m0:=by unfold gU;simp
def Gl (aG:List (List Nd)) (w:World) (e:Ending) (w':World):Prop:=
 ∃(V:Option Addr) (cv:Nat) (vs:List (Option Addr×Nat×Nat)),e= .returned (.slice V vs.length cv)/\afV V vs aG w'/\Below w.heap.size w w'
theorem UC (U:List Lb) (s m m0:Nat) (S:Kn) (w:World) (hS:oI U s m m0 w S) (hf:fK (m0:Int) S) (hm0:m0<=8):
  Calls Try.prog 22 #[pk s,.int .i64 (m0:Int)] w (Gl (lq [] (gU m0 S)) w):=by
 have HS:=aC hS;have HF:=aC hf
 have hlen:∀k:Nat,k<m0->∀l,(aB l (S.σ.v (k:Int))).length<=20000:=fun k hk l=>by
  have h1:=(hf k (by omega) (by omega)).1;have h2:=FJ _ h1 l;omega
 have UD:=aC hlen
 have hKn:Hid (∀(k:Nat) (W:World),k<m0->Below w.heap.size w W->Calls Try.prog 24 #[.pointer (some ⟨s,0,none⟩),.slice (some ⟨W.heap.size,0,none⟩) 1 1] (W.alloc (.cells #[.int .i64 8,.string ⟨#[]⟩,.int .i64 (k:Int)] 48)) (fun e w'=>∃A' c',e= .returned (.slice A' (aB pR (S.σ.v (k:Int))).length c')/\fA w' W.heap.size A' c' (aB pR (S.σ.v (k:Int)))/\Below W.heap.size W w')):=aC fun k W hk hW=>by
  have hb:=ak (aT W.heap.size W) (.cells #[.int .i64 8,.string ⟨#[]⟩,.int .i64 (k:Int)] 48);have t1:=gV W [⟨8,pR,(k:Int)⟩] #[.int .i64 8,.string ⟨#[]⟩,.int .i64 (k:Int)] rfl;obtain ⟨v1,v2⟩:=Yb (u:=(k:Int)) (by omega);have ht:=hS.kg.var (hS.hL k (by omega)) (by omega) (by have:=hS.fm;omega)
  have hk2:=JG U s m m0 S _ (some ⟨W.heap.size,0,none⟩) 1 [⟨8,pR,(k:Int)⟩] ((hS.aU hW).aU hb) (t1.more (by simp)) (by simp) v1 (by rw [v2];exact ht) (by
   rw [v2,aW];have:=hlen k hk (bB [(⟨8,pR,(k:Int)⟩:Nd)]).s;omega)
  rw [v2,aW] at hk2;refine hk2.mono ?_;rintro e w' ⟨A',c',rfl,h1,h2⟩;exact ⟨A',c',rfl,h1.lower hb.size,ah hb h2⟩
 clear hS hf hlen;unfold pk;go_enter Try.func22,Try.ntmps22;go_wp2_with fail;go_loopw [5,6] (fun s5 s6 wr=>∃(k:Nat) (Vm:Option Addr) (cm:Nat) (vm:List (Option Addr×Nat×Nat)),s5= .slice Vm vm.length cm/\s6= .int .i64 k/\k<=m0/\Hid (vm.length=k)/\Hid (mo w Vm cm vm ((gU m0 S).take k) none 0 [] wr)) (fun _ s6 _=>m0-(intOf s6).toNat)
 case atStart=>exact ⟨0,some ⟨w.heap.size,0,none⟩,0,[],rfl,rfl,h_ _,aC rfl,aC (mo.start w _ 0 (dV 34 1 encS w) (ak (aT _ _) _))⟩
 case round=>
  obtain ⟨k,Vm,cm,vm,rfl,rfl,hk,hvk,M⟩:=hrel;by_cases hp:k<m0
  ·have hcall:=aC (hKn.out k wr hp M.out.aU)
   have hvl:vm.length<=100:=by have:=hvk.out;omega
   go_wp2_with fail;refine hcall.out.mono ?_;clear hcall;rintro e w4 ⟨A',c',rfl,ho,hb⟩;have hlx:=UD.out k hp pR;obtain ⟨xs,hxs⟩:∃xs,xs=aB pR (S.σ.v (k:Int)):=⟨_,rfl⟩;rw [<-hxs] at ho hlx ⊢;have HX:=aC hxs;have M2:=aC (M.out.fresh ho hb);clear ho hb hxs;go_wp2_with (at_builtin;refine mV rfl (.tmp 13) (.tmp 19) rfl w.heap.size (l:=vm) rfl (aA.alloc M2.out.row _) (l2:=[(A',xs.length,c')]) rfl (tu _ (A',xs.length,c')) (by simp;omega) (by have:=M2.out.aU.size;simp;omega) ?_;intro V2 gq w8 mK oO qp;have M3:=aC ((M2.out.alloc _).app mK oO qp);clear mK oO qp);go_roundw
   case rel=>exact ⟨k+1,V2,gq,vm++[(A',xs.length,c')],by simp,by go_num,hp,aC (by simp [hvk.out]),aC (by rw [Gj hp,<-HX.out];exact M3.out)⟩
   case measure=>simp [intOf];omega
  ·have e1:(gU m0 S).take k=gU m0 S:=CK (by rw [CP];omega)
   rw [e1] at M;have hvl:vm.length<=100:=by have:=hvk.out;omega
   have hcan:=aC (Jj Vm cm vm (gU m0 S) wr (aA.read jq M.out.row) M.out.wK (fun xs hx=>by
     obtain ⟨n,_,rfl⟩:=aaN.1 hx;exact zZ _ _) hvl (fun xs hx=>by
     obtain ⟨n,hn,rfl⟩:=aaN.1 hx;have:=UD.out n (acN.1 hn) pR;omega))
   clear e1;go_wp2_with fail;refine hcan.out.mono ?_;clear hcan;rintro e w5 ⟨V,cv,vs,rfl,hrow,UE,hb⟩;have G:=aC (Gw (aA.read jq hrow) (Gw UE (ah M.out.aU hb)));clear hrow UE hb;go_wp2_with fail;go_ret;exact ⟨V,cv,vs,rfl,⟨G.out.1,G.out.2.1⟩,G.out.2.2⟩
theorem UF {U Lo:List Lb} {m0:Nat} {X:Int->Prop} {S:Kn} {ns:List Int} (j:dL U Lo (m0:Int) X S) (hf:fK (m0:Int) S) (num:fG S ns) (next:Int) (Q:Option Addr) (cq:Nat) (vs:List QV) (w0:World) (hl:vs.length<=1000000) (hM:lD vs Q (dA S) ns w0) (hm0:m0<=8):
  Calls Try.prog 23 #[bS (m0:Int) next Q vs.length cq] w0 (Gl (lq [] (gU m0 S)) w0):=by
 have HF:=aC hf
 have hlen:∀k:Nat,k<m0->∀l,(aB l (S.σ.v (k:Int))).length<=20000:=fun k hk l=>by
  have h1:=(hf k (by omega) (by omega)).1;have h2:=FJ _ h1 l;omega
 have UD:=aC hlen;obtain ⟨w,hw⟩:∃w,w=w0.alloc (.cells #[.int .i64 (m0:Int),.int .i64 next,.slice Q vs.length cq] 29):=⟨_,rfl⟩;have hb0:Below w0.heap.size w0 w:=by rw [hw];exact ak (aT _ _) _
 have hs0:bD w w0.heap.size (m0:Int) next Q vs.length cq:=by rw [hw];exact bD.new _ _ _ _ _ _
 have hM1:=hM.step hb0;have HB0:=aC hb0;have Bc:Hid (∀v,Below w.heap.size w v->v.cell? ⟨w0.heap.size,0,none⟩=some (.int .i64 (m0:Int))/\v.cell? ⟨w0.heap.size,1,none⟩=some (.int .i64 next)/\v.cell? ⟨w0.heap.size,2,none⟩=some (.slice Q vs.length cq)):=aC fun v hv=>(hs0.later hv).at_;have hT:=Cq j hf num
 have hKn:Hid (∀(k:Nat) (W:World),k<m0->Below w.heap.size w W->Calls Try.prog 56 #[bS (m0:Int) next Q vs.length cq,.slice (some ⟨W.heap.size,0,none⟩) 1 1] (W.alloc (.cells #[.int .i64 8,.string ⟨#[]⟩,.int .i64 (k:Int)] 48)) (fun e w'=>∃A' c',e= .returned (.slice A' (aB pR (S.σ.v (k:Int))).length c')/\fA w' W.heap.size A' c' (aB pR (S.σ.v (k:Int)))/\Below W.heap.size W w')):=aC fun k W hk hW=>by
  have hb:=ak (aT W.heap.size W) (.cells #[.int .i64 8,.string ⟨#[]⟩,.int .i64 (k:Int)] 48);have t1:=gV W [⟨8,pR,(k:Int)⟩] #[.int .i64 8,.string ⟨#[]⟩,.int .i64 (k:Int)] rfl
  have e1:aB pR (aS (k:Int))=[⟨8,pR,(k:Int)⟩]:=by
   show aB pR (.mk 8 (k:Int) [] none)=_;rw [bY,if_neg (by decide),gH]
  have hk2:=L_ (m0:Int) next Q cq vs S.L S.σ (l6 S) ns hT hl (k:Int) pR (some ⟨W.heap.size,0,none⟩) 1 _ ((hM1.step hW).step hb) (by rw [e1];exact t1.more (by simp)) (j.low k (by omega));rw [e1] at hk2;refine hk2.mono ?_;rintro e w' ⟨A',c',rfl,h1,h2⟩;exact ⟨A',c',rfl,h1.lower hb.size,ah hb h2⟩
 clear hf hlen hM hM1 hT hb0 hs0 num j;go_enter Try.func23,Try.ntmps23;go_wp2_with fail;rw [<-hw];obtain ⟨u0,u1,u2⟩:=Bc.out w (aT _ _);go_loopw [3,4] (fun s5 s6 wr=>∃(k:Nat) (Vm:Option Addr) (cm:Nat) (vm:List (Option Addr×Nat×Nat)),s5= .slice Vm vm.length cm/\s6= .int .i64 k/\k<=m0/\Hid (vm.length=k)/\Hid (mo w Vm cm vm ((gU m0 S).take k) none 0 [] wr)) (fun _ s6 _=>m0-(intOf s6).toNat)
 case atStart=>exact ⟨0,some ⟨w.heap.size,0,none⟩,0,[],by rw [hw];simp,rfl,h_ _,aC rfl,aC (mo.start w _ 0 (dV 34 1 encS w) (ak (aT _ _) _))⟩
 case round=>
  obtain ⟨k,Vm,cm,vm,rfl,rfl,hk,hvk,M⟩:=hrel;obtain ⟨u0,u1,u2⟩:=Bc.out wr M.out.aU;by_cases hp:k<m0
  ·have hcall:=aC (hKn.out k wr hp M.out.aU)
   have hvl:vm.length<=100:=by have:=hvk.out;omega
   go_wp2_with fail;refine hcall.out.mono ?_;clear hcall;rintro e w4 ⟨A',c',rfl,ho,hb⟩;have hlx:=UD.out k hp pR;obtain ⟨xs,hxs⟩:∃xs,xs=aB pR (S.σ.v (k:Int)):=⟨_,rfl⟩;rw [<-hxs] at ho hlx ⊢;have HX:=aC hxs;have M2:=aC (M.out.fresh ho hb);clear ho hb hxs;go_wp2_with (at_builtin;refine mV rfl (.tmp 12) (.tmp 18) rfl w.heap.size (l:=vm) rfl (aA.alloc M2.out.row _) (l2:=[(A',xs.length,c')]) rfl (tu _ (A',xs.length,c')) (by simp;omega) (by have:=M2.out.aU.size;simp;omega) ?_;intro V2 gq w8 mK oO qp;have M3:=aC ((M2.out.alloc _).app mK oO qp);clear mK oO qp);go_roundw
   case rel=>exact ⟨k+1,V2,gq,vm++[(A',xs.length,c')],by simp,by go_num,hp,aC (by simp [hvk.out]),aC (by rw [Gj hp,<-HX.out];exact M3.out)⟩
   case measure=>simp [intOf];omega
  ·have e1:(gU m0 S).take k=gU m0 S:=CK (by rw [CP];omega)
   rw [e1] at M;have hvl:vm.length<=100:=by have:=hvk.out;omega
   have hcan:=aC (Jj Vm cm vm (gU m0 S) wr (aA.read jq M.out.row) M.out.wK (fun xs hx=>by
     obtain ⟨n,_,rfl⟩:=aaN.1 hx;exact zZ _ _) hvl (fun xs hx=>by
     obtain ⟨n,hn,rfl⟩:=aaN.1 hx;have:=UD.out n (acN.1 hn) pR;omega))
   clear e1;go_wp2_with fail;refine hcan.out.mono ?_;clear hcan;rintro e w5 ⟨V,cv,vs,rfl,hrow,UE,hb⟩;have G:=aC (Gw (aA.read jq hrow) (Gw UE (ah M.out.aU hb)));clear hrow UE hb;go_wp2_with fail;go_ret;exact ⟨V,cv,vs,rfl,⟨G.out.1,G.out.2.1⟩,ah HB0.out G.out.2.2⟩
end Go.Proofs.Ytblfeokjlecgkaa
