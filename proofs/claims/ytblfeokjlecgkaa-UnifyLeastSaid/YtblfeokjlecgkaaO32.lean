/- Laid together by a tool from the texts of this seat: UDo RowS UAll UMays OpenA OpenTys OpenSt. Conditions: each theorem's own. -/
import Derived.Test.YtblfeokjlecgkaaO31
import Derived.Test.YtblfeokjlecgkaaO10
import Derived.Test.YtblfeokjlecgkaaO08
import Derived.Test.YtblfeokjlecgkaaO15
import Derived.Test.YtblfeokjlecgkaaO01
import Derived.Test.YtblfeokjlecgkaaRows
import Derived.ProofKit
import Derived.LaidMore
import Derived.OpenShut
import Derived.Stop.Joined
import Derived.Stop.LaidErr
import Derived.Deep.Slices
import Derived.Deep.Fields
import Derived.Test.YtblfeokjlecgkaaO04
import Derived.SliceStrings
import Derived.Test.YtblfeokjlecgkaaO14
/- The laws' steps, walked: do. -/
namespace Go.Proofs.Ytblfeokjlecgkaa
open Go.RowKit

/-- What 'do' answers. -/
def DoPost (U : List Lb) (s m m0 : Nat) (l : List Stp) (x : Stp) (w : World) (e : Ending) (w' : World) : Prop :=
  ∃ ok : Bool, e = .returned (.int .i64 (if ok = true then 0 else 9)) ∧ Fr (SX s m) w w' ∧ (ok = false → Bad (m0 : Int) (allC (l ++ [x]))) ∧ (ok = true → ∃ S', RunB U (m0 : Int) (l ++ [x]) S' ∧ SolG U s m m0 w' S')

set_option maxRecDepth 100000 in
set_option maxHeartbeats 8000000 in
theorem do_any (U : List Lb) (s m m0 : Nat) (l : List Stp) (x : Stp) (S : Kn) (w : World) (A B : Option Addr) (ca cb : Nat) (hR : RunB U (m0 : Int) l S) (hS : SolG U s m m0 w S) (g : GoodS U (m0 : Int) x) (hll : l.length ≤ 100) (hm0 : m0 ≤ 8)
    (hA : TyA w w.heap.size A x.a) (hB : TyA w w.heap.size B x.b) :
    Calls Try.prog 19 #[pk s, stV x A ca B cb] w (DoPost U s m m0 l x w) := by
  have hbx := ext_alloc (Below.refl w.heap.size w) (.cells #[.slice A x.a.length ca, .slice B x.b.length cb, .string x.l, .int .i64 x.k, .int .i64 x.n, .int .i64 x.m] 36)
  cases hz : (x.l.toList == ([] : List UInt8)) with
  | true =>
    have hz0 : x.l.size = 0 := by simpa [isEmpty_size] using (show x.l.toList.isEmpty = true by simpa using hz)
    obtain ⟨g1, g2, g3, g4⟩ := g.pair hz0
    have hc := g.c
    unfold Stp.cst at hc
    rw [if_pos hz0] at hc
    have t1 := hc.1.tg hS.hL hS.fm
    have t2 := hc.2.tg hS.hL hS.fm
    have d1 := dyn_of g1
    have d2 := dyn_of g2
    have hm := hR.m
    have hcall := Lib.hid (uAgree_any U s m m0 S _ A B ca cb x.a x.b (hS.bel hbx) ((hA.below hbx).more hbx.size) ((hB.below hbx).more hbx.size) (by omega) (by omega) g1 g2 t1 t2 (by omega))
    have HR := Lib.hid (And.intro hR (And.intro g (And.intro hz0 hbx)))
    unfold pk at hcall ⊢
    clear hR hS g hA hB g1 g2 g3 g4 hc t1 t2 d1 d2 hm hbx hz0
    go_enter Try.func19, Try.ntmps19
    go_wp2_with fail
    refine hcall.out.mono ?_
    clear hcall
    rintro e w1 ⟨ok, rfl, hf, hno, hyes⟩
    have H1 := Lib.hid (And.intro hf (And.intro hno hyes))
    clear hf hno hyes
    have hfin : DoPost U s m m0 l x w (.returned (.int .i64 (if ok = true then 0 else 9))) w1 := by
      refine ⟨ok, rfl, (Fr.below HR.out.2.2.2).trans H1.out.1, fun e => ?_, fun e => ?_⟩
      · rcases H1.out.2.1 e with d | ⟨S', d, hn⟩
        · exact HR.out.1.pairD HR.out.2.1 HR.out.2.2.1 d
        · exact (HR.out.1.pair HR.out.2.1 HR.out.2.2.1 d).2 hn
      · obtain ⟨S', d, hfit, hS'⟩ := H1.out.2.2 e
        exact ⟨S', (HR.out.1.pair HR.out.2.1 HR.out.2.2.1 d).1 hfit, hS'⟩
    have HF := Lib.hid hfin
    clear hfin
    generalize (if ok = true then (0 : Int) else 9) = v at *
    go_wp2_with fail
    go_ret
    exact HF.out
  | false =>
    have hz0 : x.l.size ≠ 0 := fun h => by
      have := isEmpty_size x.l
      rw [decide_eq_true h] at this
      rw [List.isEmpty_iff.1 this] at hz
      cases hz
    have hc := g.c
    unfold Stp.cst at hc
    rw [if_neg hz0] at hc
    obtain ⟨hkg, ht1, ht2⟩ := open_tg hc hR.run.kg hS.hL hS.fm
    obtain ⟨c1, c2, c3, c4, c5, c6, c7⟩ := hc
    have hm := hR.m
    have hmk := hR.run.kg.nn.m
    have hun := un_freshT hR.run.kg.inv hR.run.kg.nn [x.l]
    have HOpen : Hid (∀ W C cc, Below w.heap.size w W → TyA W W.heap.size C [⟨8, ByteArray.empty, x.m⟩] → Calls Try.prog 37 #[.pointer (some ⟨s, 0, none⟩), .int .i64 x.k, .string x.l, .slice C 1 cc] W (fun e w' => ∃ A' c', e = .returned (.slice A' 3 c') ∧ OwnN w' W.heap.size A' c' (openL x.k x.l ⟨8, ByteArray.empty, x.m⟩ S.m) ∧ Fr (SX s m) W w' ∧ SolG U s m m0 w' (S.freshT [x.l]))) := Lib.hid fun W C cc hW hC => by
      refine (uOpen_any s m m0 S x.k x.l C cc ⟨8, ByteArray.empty, x.m⟩ W (hS.sol.bel hW) hC hmk (by omega)).mono ?_
      rintro e w' ⟨A', c', he, h1, h2, h3⟩
      refine ⟨A', c', he, h1, h2, ⟨h3 _ rfl rfl, hkg, hS.hU, hS.f1, by show (m0 : Int) ≤ S.m + 1; have := hS.fm; omega, fun n hn => ?_⟩⟩
      show (if n = S.m then some [x.l] else S.L n) = none
      rw [if_neg (by have := hS.fm; omega)]
      exact hS.hL n hn
    have HAg : Hid (∀ W C cc D cd, SolG U s m m0 W (S.freshT [x.l]) → TyA W W.heap.size C [⟨8, ByteArray.empty, x.n⟩] → TyA W W.heap.size D (openL x.k x.l ⟨8, ByteArray.empty, x.m⟩ S.m) → Calls Try.prog 33 #[.pointer (some ⟨s, 0, none⟩), .slice C 1 cc, .slice D 3 cd] W (AgrPost U s m m0 (S.freshT [x.l]) (varT x.n) (openT x.k x.l x.m S.m) W)) := Lib.hid fun W C cc D cd hW hC hD => by
      obtain ⟨v1, v2⟩ := var_gd c4
      obtain ⟨o1, o2⟩ := open_gd (q := S.m) c1 c2 c6 hmk
      have d1 := dyn_of v1
      have d2 := dyn_of o1
      have h := uAgree_any U s m m0 (S.freshT [x.l]) W C D cc cd [⟨8, ByteArray.empty, x.n⟩] (openL x.k x.l ⟨8, ByteArray.empty, x.m⟩ S.m) hW hC hD (by simp) (by simp [openL]) v1 o1 (by rw [v2]; exact ht1) (by rw [o2]; exact ht2) (by
        have e1 : (openL x.k x.l ⟨8, ByteArray.empty, x.m⟩ S.m).length = 3 := rfl
        rw [e1] at d2
        simp only [List.length_singleton] at d1
        have e2 : (S.freshT [x.l]).m = S.m + 1 := rfl
        omega)
      rw [v2, o2] at h
      exact h
    have HR := Lib.hid (And.intro hR (And.intro g (And.intro hz0 hbx)))
    have hlt := SX_lt hS.sol
    have HS0 : Hid (∀ v, Fr (SX s m) (w.alloc (.cells #[.slice A x.a.length ca, .slice B x.b.length cb, .string x.l, .int .i64 x.k, .int .i64 x.n, .int .i64 x.m] 36)) v → Hid (Fr (SX s m) (w.alloc (.cells #[.slice A x.a.length ca, .slice B x.b.length cb, .string x.l, .int .i64 x.k, .int .i64 x.n, .int .i64 x.m] 36)) v) ∧ v.cell? ⟨w.heap.size, 2, none⟩ = some (.string x.l) ∧ v.cell? ⟨w.heap.size, 3, none⟩ = some (.int .i64 x.k) ∧ v.cell? ⟨w.heap.size, 4, none⟩ = some (.int .i64 x.n) ∧ v.cell? ⟨w.heap.size, 5, none⟩ = some (.int .i64 x.m)) := Lib.hid fun v hv => by
      have h := (hv.block w.heap.size (by simp) (fun h => by have := hlt _ h; omega)).trans (heap_alloc_new w (.cells #[.slice A x.a.length ca, .slice B x.b.length cb, .string x.l, .int .i64 x.k, .int .i64 x.n, .int .i64 x.m] 36))
      refine ⟨Lib.hid hv, ?_, ?_, ?_, ?_⟩ <;> simp [World.cell?, h]
    have HL := Lib.hid hlt
    clear hlt
    have hz0' : ((w.alloc (.cells #[.slice A x.a.length ca, .slice B x.b.length cb, .string x.l, .int .i64 x.k, .int .i64 x.n, .int .i64 x.m] 36))).heap.size = w.heap.size + 1 := by simp
    have TM1 : Hid (TyA (((w.alloc (.cells #[.slice A x.a.length ca, .slice B x.b.length cb, .string x.l, .int .i64 x.k, .int .i64 x.n, .int .i64 x.m] 36)).alloc (.cells #[.int .i64 8, .string ⟨#[]⟩, .int .i64 x.n] 48)).alloc (.cells #[.int .i64 8, .string ⟨#[]⟩, .int .i64 x.m] 48)).drew (((w.alloc (.cells #[.slice A x.a.length ca, .slice B x.b.length cb, .string x.l, .int .i64 x.k, .int .i64 x.n, .int .i64 x.m] 36)).alloc (.cells #[.int .i64 8, .string ⟨#[]⟩, .int .i64 x.n] 48)).alloc (.cells #[.int .i64 8, .string ⟨#[]⟩, .int .i64 x.m] 48)).drew.heap.size (some ⟨w.heap.size + 1 + 1, 0, none⟩) [⟨8, ByteArray.empty, x.m⟩]) := Lib.hid (by
      have h := tyA_newL ((w.alloc (.cells #[.slice A x.a.length ca, .slice B x.b.length cb, .string x.l, .int .i64 x.k, .int .i64 x.n, .int .i64 x.m] 36)).alloc (.cells #[.int .i64 8, .string ⟨#[]⟩, .int .i64 x.n] 48)) [⟨8, ByteArray.empty, x.m⟩] #[.int .i64 8, .string ⟨#[]⟩, .int .i64 x.m] rfl
      simp only [World.size_alloc] at h
      exact (h.more (by simp)).drew)
    have TN1 : Hid (TyA (((w.alloc (.cells #[.slice A x.a.length ca, .slice B x.b.length cb, .string x.l, .int .i64 x.k, .int .i64 x.n, .int .i64 x.m] 36)).alloc (.cells #[.int .i64 8, .string ⟨#[]⟩, .int .i64 x.n] 48)).alloc (.cells #[.int .i64 8, .string ⟨#[]⟩, .int .i64 x.m] 48)).drew (((w.alloc (.cells #[.slice A x.a.length ca, .slice B x.b.length cb, .string x.l, .int .i64 x.k, .int .i64 x.n, .int .i64 x.m] 36)).alloc (.cells #[.int .i64 8, .string ⟨#[]⟩, .int .i64 x.n] 48)).alloc (.cells #[.int .i64 8, .string ⟨#[]⟩, .int .i64 x.m] 48)).drew.heap.size (some ⟨w.heap.size + 1, 0, none⟩) [⟨8, ByteArray.empty, x.n⟩]) := Lib.hid (by
      have h := tyA_newL (w.alloc (.cells #[.slice A x.a.length ca, .slice B x.b.length cb, .string x.l, .int .i64 x.k, .int .i64 x.n, .int .i64 x.m] 36)) [⟨8, ByteArray.empty, x.n⟩] #[.int .i64 8, .string ⟨#[]⟩, .int .i64 x.n] rfl
      simp only [World.size_alloc] at h
      exact ((h.below (ext_alloc (Below.refl _ _) _ |>.mono (by simp))).more (by simp)).drew)
    have TN2 : Hid (TyA (((w.alloc (.cells #[.slice A x.a.length ca, .slice B x.b.length cb, .string x.l, .int .i64 x.k, .int .i64 x.n, .int .i64 x.m] 36)).alloc (.cells #[.int .i64 8, .string ⟨#[]⟩, .int .i64 x.m] 48)).alloc (.cells #[.int .i64 8, .string ⟨#[]⟩, .int .i64 x.n] 48)).drew (((w.alloc (.cells #[.slice A x.a.length ca, .slice B x.b.length cb, .string x.l, .int .i64 x.k, .int .i64 x.n, .int .i64 x.m] 36)).alloc (.cells #[.int .i64 8, .string ⟨#[]⟩, .int .i64 x.m] 48)).alloc (.cells #[.int .i64 8, .string ⟨#[]⟩, .int .i64 x.n] 48)).drew.heap.size (some ⟨w.heap.size + 1 + 1, 0, none⟩) [⟨8, ByteArray.empty, x.n⟩]) := Lib.hid (by
      have h := tyA_newL ((w.alloc (.cells #[.slice A x.a.length ca, .slice B x.b.length cb, .string x.l, .int .i64 x.k, .int .i64 x.n, .int .i64 x.m] 36)).alloc (.cells #[.int .i64 8, .string ⟨#[]⟩, .int .i64 x.m] 48)) [⟨8, ByteArray.empty, x.n⟩] #[.int .i64 8, .string ⟨#[]⟩, .int .i64 x.n] rfl
      simp only [World.size_alloc] at h
      exact (h.more (by simp)).drew)
    have TM2 : Hid (TyA (((w.alloc (.cells #[.slice A x.a.length ca, .slice B x.b.length cb, .string x.l, .int .i64 x.k, .int .i64 x.n, .int .i64 x.m] 36)).alloc (.cells #[.int .i64 8, .string ⟨#[]⟩, .int .i64 x.m] 48)).alloc (.cells #[.int .i64 8, .string ⟨#[]⟩, .int .i64 x.n] 48)).drew (((w.alloc (.cells #[.slice A x.a.length ca, .slice B x.b.length cb, .string x.l, .int .i64 x.k, .int .i64 x.n, .int .i64 x.m] 36)).alloc (.cells #[.int .i64 8, .string ⟨#[]⟩, .int .i64 x.m] 48)).alloc (.cells #[.int .i64 8, .string ⟨#[]⟩, .int .i64 x.n] 48)).drew.heap.size (some ⟨w.heap.size + 1, 0, none⟩) [⟨8, ByteArray.empty, x.m⟩]) := Lib.hid (by
      have h := tyA_newL (w.alloc (.cells #[.slice A x.a.length ca, .slice B x.b.length cb, .string x.l, .int .i64 x.k, .int .i64 x.n, .int .i64 x.m] 36)) [⟨8, ByteArray.empty, x.m⟩] #[.int .i64 8, .string ⟨#[]⟩, .int .i64 x.m] rfl
      simp only [World.size_alloc] at h
      exact ((h.below (ext_alloc (Below.refl _ _) _ |>.mono (by simp))).more (by simp)).drew)
    have TM3 : Hid (TyA ((w.alloc (.cells #[.slice A x.a.length ca, .slice B x.b.length cb, .string x.l, .int .i64 x.k, .int .i64 x.n, .int .i64 x.m] 36)).alloc (.cells #[.int .i64 8, .string ⟨#[]⟩, .int .i64 x.m] 48)).drew ((w.alloc (.cells #[.slice A x.a.length ca, .slice B x.b.length cb, .string x.l, .int .i64 x.k, .int .i64 x.n, .int .i64 x.m] 36)).alloc (.cells #[.int .i64 8, .string ⟨#[]⟩, .int .i64 x.m] 48)).drew.heap.size (some ⟨w.heap.size + 1, 0, none⟩) [⟨8, ByteArray.empty, x.m⟩]) := Lib.hid (by
      have h := tyA_newL (w.alloc (.cells #[.slice A x.a.length ca, .slice B x.b.length cb, .string x.l, .int .i64 x.k, .int .i64 x.n, .int .i64 x.m] 36)) [⟨8, ByteArray.empty, x.m⟩] #[.int .i64 8, .string ⟨#[]⟩, .int .i64 x.m] rfl
      simp only [World.size_alloc] at h
      exact (h.more (by simp)).drew)
    clear hz0'
    unfold pk
    clear hR hS g hA hB hkg ht1 ht2 c1 c2 c3 c4 c5 c6 c7 hm hmk hun hbx hz0
    go_enter Try.func19, Try.ntmps19
    go_wp2_with fail
    go_region_held3 (fun v => Hid (Fr (SX s m) (w.alloc (.cells #[.slice A x.a.length ca, .slice B x.b.length cb, .string x.l, .int .i64 x.k, .int .i64 x.n, .int .i64 x.m] 36)) v) ∧ v.cell? ⟨w.heap.size, 2, none⟩ = some (.string x.l) ∧ v.cell? ⟨w.heap.size, 3, none⟩ = some (.int .i64 x.k) ∧ v.cell? ⟨w.heap.size, 4, none⟩ = some (.int .i64 x.n) ∧ v.cell? ⟨w.heap.size, 5, none⟩ = some (.int .i64 x.m))
      (first
        | exact HS0.out _ (Fr.below (Below.refl _ _).drew)
        | exact HS0.out _ (Fr.below (ext_alloc (Below.refl _ _) _))
        | exact HS0.out _ (Fr.below (ext_alloc (Below.refl _ _) _).drew)
        | exact HS0.out _ (Fr.below (ext_alloc (ext_alloc (Below.refl _ _) _) _))
        | exact HS0.out _ (Fr.below (ext_alloc (ext_alloc (Below.refl _ _) _) _).drew)
        | exact HS0.out _ F1.out
        | exact HS0.out _ H2.out.1
        | exact HS0.out _ (F1.out.trans (Fr.below (ext_alloc (Below.refl _ _) _))))
      (first
        | (go_at_call 37; (with_reducible refine (HOpen.out _ _ _ ?_ ?_).mono ?_); (first | exact (ext_alloc (ext_alloc HR.out.2.2.2 _) _).drew | exact (ext_alloc HR.out.2.2.2 _).drew); (first | exact TM1.out | exact TM2.out | exact TM3.out); rintro e w1 ⟨A', c', rfl, ho, hf, hg⟩; have F1 : Hid (Fr (SX s m) (w.alloc (.cells #[.slice A x.a.length ca, .slice B x.b.length cb, .string x.l, .int .i64 x.k, .int .i64 x.n, .int .i64 x.m] 36)) w1) := Lib.hid (Fr.trans (Fr.below (X := SX s m) (by first | exact (ext_alloc (ext_alloc (Below.refl _ _) _) _).drew | exact (ext_alloc (Below.refl _ _) _).drew)) hf); have O1 := Lib.hid (And.intro ho (And.intro hg hf)); clear ho hf hg)
        | (go_at_call 33; (with_reducible refine (HAg.out _ _ _ _ _ ?_ ?_ ?_).mono ?_); (first | exact O1.out.2.1 | exact O1.out.2.1.bel (ext_alloc (Below.refl _ _) _)); (first | exact (TN1.out.frame O1.out.2.2 (Nat.le_refl _) fun _ a ha e => by injection ha with ha; subst ha; have := HL.out _ e; simp at this; omega).more O1.out.2.2.size | exact (TN2.out.frame O1.out.2.2 (Nat.le_refl _) fun _ a ha e => by injection ha with ha; subst ha; have := HL.out _ e; simp at this; omega).more O1.out.2.2.size | exact (tyA_newL w1 [⟨8, ByteArray.empty, x.n⟩] #[.int .i64 8, .string ⟨#[]⟩, .int .i64 x.n] rfl).more (by simp)); (first | exact OwnL.tyA O1.out.1 | exact ((OwnL.tyA O1.out.1).below (ext_alloc (Below.refl _ _) _)).more (by simp)); rintro e w2 ⟨ok, rfl, hf2, hno, hyes⟩; have H2 := Lib.hid (And.intro (F1.out.trans (by first | exact hf2 | exact (Fr.below (ext_alloc (Below.refl _ _) _)).trans hf2)) (And.intro hno hyes)); clear hf2 hno hyes; generalize hv : (if ok = true then (0 : Int) else 9) = v; have HV := Lib.hid hv; clear hv))
    all_goals
      have hfin : DoPost U s m m0 l x w (.returned (.int .i64 v)) w2 := by
        refine ⟨ok, by rw [HV.out], (Fr.below HR.out.2.2.2).trans H2.out.1, fun e => ?_, fun e => ?_⟩
        · rcases H2.out.2.1 e with d | ⟨S', d, hn⟩
          · exact HR.out.1.opnD HR.out.2.1 HR.out.2.2.1 d
          · exact (HR.out.1.opn HR.out.2.1 HR.out.2.2.1 d).2 hn
        · obtain ⟨S', d, hfit, hS'⟩ := H2.out.2.2 e
          exact ⟨S', (HR.out.1.opn HR.out.2.1 HR.out.2.2.1 d).1 hfit, hS'⟩
      have HF := Lib.hid hfin
      clear hfin
      go_wp2_with fail
      go_ret
      exact HF.out
end Go.Proofs.Ytblfeokjlecgkaa

/- Rows of types, as they lie; what may be asked of few types; the canon's numbers are ints. -/
namespace Go.Proofs.Ytblfeokjlecgkaa
open Go.RowKit

theorem Sls.moreB {w w' : World} {vs : List (Option Addr × Nat × Nat)} {tss : List (List Nd)} {B : Nat} (h : Sls w B vs tss) (hb : Below B w w') (hB : B ≤ w'.heap.size) : Sls w' w'.heap.size vs tss := ⟨h.1, fun i v xs hv hx => ⟨(h.2 i v xs hv hx).1, ((h.2 i v xs hv hx).2.below hb).more hB⟩⟩

theorem keep_sls (vs : List (Option Addr × Nat × Nat)) (tss : List (List Nd)) : Keep fun w => Sls w w.heap.size vs tss := fun _ _ h hb => h.moreB hb hb.size

/-- A row of types, as it lies. -/
def RowS (V : Option Addr) (vs : List (Option Addr × Nat × Nat)) (tss : List (List Nd)) (w : World) : Prop := ReadS w w.heap.size V vs ∧ Sls w w.heap.size vs tss
theorem keep_rowS (V : Option Addr) (vs : List (Option Addr × Nat × Nat)) (tss : List (List Nd)) : Keep (RowS V vs tss) := (keep_read _ _ _ _).and (keep_sls _ _)

theorem canT_lens {m : Nat} {l : List (List Nd)} (h : ∀ xs ∈ l, xs.length ≤ m ∧ xs ≠ []) : ∀ had, ∀ t ∈ canT had l, t.length ≤ m ∧ t ≠ [] := by
  induction l with
  | nil => intro had t ht; simp [canT] at ht
  | cons x l ih =>
    intro had t ht
    rcases List.mem_cons.1 ht with rfl | ht
    · obtain ⟨h1, h2⟩ := h x (by simp)
      refine ⟨by rw [canL_len]; exact h1, fun e => h2 ?_⟩
      have := congrArg List.length e
      rw [canL_len] at this
      exact List.eq_nil_of_length_eq_zero this
    · exact ih (fun z hz => h z (by simp [hz])) (seenL had x) t ht
end Go.Proofs.Ytblfeokjlecgkaa

/- The laws' canon of all that is known, walked. -/
namespace Go.Proofs.Ytblfeokjlecgkaa
open Go.RowKit

theorem knownL_take {m0 k : Nat} {S : Kn} (h : k < m0) : (knownL m0 S).take (k + 1) = (knownL m0 S).take k ++ [flT ByteArray.empty (S.σ.v (k : Int))] := by
  unfold knownL
  rw [List.take_add_one]
  congr 1
  rw [List.getElem?_map, List.getElem?_range h]
  rfl
theorem knownL_len (m0 : Nat) (S : Kn) : (knownL m0 S).length = m0 := by unfold knownL; simp
/-- What a law's 'all' answers. -/
def AllPost (tss : List (List Nd)) (w : World) (e : Ending) (w' : World) : Prop :=
  ∃ (V : Option Addr) (cv : Nat) (vs : List (Option Addr × Nat × Nat)), e = .returned (.slice V vs.length cv) ∧ RowS V vs tss w' ∧ Below w.heap.size w w'

set_option maxRecDepth 100000 in
set_option maxHeartbeats 8000000 in
theorem lawAll_any (U : List Lb) (s m m0 : Nat) (S : Kn) (w : World) (hS : SolG U s m m0 w S) (hf : fitK (m0 : Int) S) (hm0 : m0 ≤ 8) :
    Calls Try.prog 22 #[pk s, .int .i64 (m0 : Int)] w (AllPost (canT [] (knownL m0 S)) w) := by
  have HS := Lib.hid hS
  have HF := Lib.hid hf
  have hlen : ∀ k : Nat, k < m0 → ∀ l, (flT l (S.σ.v (k : Int))).length ≤ 20000 := fun k hk l => by
    have h1 := (hf k (by omega) (by omega)).1
    have h2 := fl_len _ h1 l
    omega
  have HLN := Lib.hid hlen
  have hKn : Hid (∀ (k : Nat) (W : World), k < m0 → Below w.heap.size w W → Calls Try.prog 24 #[.pointer (some ⟨s, 0, none⟩), .slice (some ⟨W.heap.size, 0, none⟩) 1 1] (W.alloc (.cells #[.int .i64 8, .string ⟨#[]⟩, .int .i64 (k : Int)] 48)) (fun e w' => ∃ A' c', e = .returned (.slice A' (flT ByteArray.empty (S.σ.v (k : Int))).length c') ∧ OwnN w' W.heap.size A' c' (flT ByteArray.empty (S.σ.v (k : Int))) ∧ Below W.heap.size W w')) := Lib.hid fun k W hk hW => by
    have hb := ext_alloc (Below.refl W.heap.size W) (.cells #[.int .i64 8, .string ⟨#[]⟩, .int .i64 (k : Int)] 48)
    have t1 := tyA_newL W [⟨8, ByteArray.empty, (k : Int)⟩] #[.int .i64 8, .string ⟨#[]⟩, .int .i64 (k : Int)] rfl
    obtain ⟨v1, v2⟩ := var_gd (u := (k : Int)) (by omega)
    have ht := hS.kg.var (hS.hL k (by omega)) (by omega) (by have := hS.fm; omega)
    have hk2 := uKnown_any U s m m0 S _ (some ⟨W.heap.size, 0, none⟩) 1 [⟨8, ByteArray.empty, (k : Int)⟩] ((hS.bel hW).bel hb) (t1.more (by simp)) (by simp) v1 (by rw [v2]; exact ht) (by
      rw [v2, inst_var]
      have := hlen k hk (headNd [(⟨8, ByteArray.empty, (k : Int)⟩ : Nd)]).s
      omega)
    rw [v2, inst_var] at hk2
    refine hk2.mono ?_
    rintro e w' ⟨A', c', rfl, h1, h2⟩
    exact ⟨A', c', rfl, h1.lower hb.size, ext_trans hb h2⟩
  clear hS hf hlen
  unfold pk
  go_enter Try.func22, Try.ntmps22
  go_wp2_with fail
  go_loopw [5, 6] (fun s5 s6 wr => ∃ (k : Nat) (Vm : Option Addr) (cm : Nat) (vm : List (Option Addr × Nat × Nat)), s5 = .slice Vm vm.length cm ∧ s6 = .int .i64 k ∧ k ≤ m0 ∧ Hid (vm.length = k) ∧ Hid (RowM w Vm cm vm ((knownL m0 S).take k) none 0 [] wr)) (fun _ s6 _ => m0 - (intOf s6).toNat)
  case atStart => exact ⟨0, some ⟨w.heap.size, 0, none⟩, 0, [], rfl, rfl, Nat.zero_le _, Lib.hid rfl, Lib.hid (RowM.start w _ 0 (own_empty 34 1 encS w) (ext_alloc (Below.refl _ _) _))⟩
  case round =>
    obtain ⟨k, Vm, cm, vm, rfl, rfl, hk, hvk, M⟩ := hrel
    by_cases hp : k < m0
    · have hcall := Lib.hid (hKn.out k wr hp M.out.bel)
      have hvl : vm.length ≤ 100 := by have := hvk.out; omega
      go_wp2_with fail
      refine hcall.out.mono ?_
      clear hcall
      rintro e w4 ⟨A', c', rfl, ho, hb⟩
      have hlx := HLN.out k hp ByteArray.empty
      obtain ⟨xs, hxs⟩ : ∃ xs, xs = flT ByteArray.empty (S.σ.v (k : Int)) := ⟨_, rfl⟩
      rw [← hxs] at ho hlx ⊢
      have HX := Lib.hid hxs
      have M2 := Lib.hid (M.out.fresh ho hb)
      clear ho hb hxs
      go_wp2_with (at_builtin; refine wpList_appS rfl (.tmp 13) (.tmp 19) rfl w.heap.size (l := vm) rfl (OwnL.alloc M2.out.row _) (l2 := [(A', xs.length, c')]) rfl (readS_new _ (A', xs.length, c')) (by simp; omega) (by have := M2.out.bel.size; simp; omega) ?_; intro V2 cv2 w8 hown8 hg8 hA8; have M3 := Lib.hid ((M2.out.alloc _).app hown8 hg8 hA8); clear hown8 hg8 hA8)
      go_roundw
      case rel => exact ⟨k + 1, V2, cv2, vm ++ [(A', xs.length, c')], by simp, by go_num, hp, Lib.hid (by simp [hvk.out]), Lib.hid (by rw [knownL_take hp, ← HX.out]; exact M3.out)⟩
      case measure => simp [intOf]; omega
    · have e1 : (knownL m0 S).take k = knownL m0 S := List.take_of_length_le (by rw [knownL_len]; omega)
      rw [e1] at M
      have hvl : vm.length ≤ 100 := by have := hvk.out; omega
      have hcan := Lib.hid (rCanon_any Vm cm vm (knownL m0 S) wr (OwnL.read encS_len M.out.row) M.out.sls (fun xs hx => by
          obtain ⟨n, _, rfl⟩ := List.mem_map.1 hx
          exact fl_ne _ _) hvl (fun xs hx => by
          obtain ⟨n, hn, rfl⟩ := List.mem_map.1 hx
          have := HLN.out n (List.mem_range.1 hn) ByteArray.empty
          omega))
      clear e1
      go_wp2_with fail
      refine hcan.out.mono ?_
      clear hcan
      rintro e w5 ⟨V, cv, vs, rfl, hrow, hsls, hb⟩
      have G := Lib.hid (And.intro (OwnL.read encS_len hrow) (And.intro hsls (ext_trans M.out.bel hb)))
      clear hrow hsls hb
      go_wp2_with fail
      go_ret
      exact ⟨V, cv, vs, rfl, ⟨G.out.1, G.out.2.1⟩, G.out.2.2⟩
end Go.Proofs.Ytblfeokjlecgkaa

/- A law's steps: which may be told, and what stands beside another solver. -/
namespace Go.Proofs.Ytblfeokjlecgkaa
open Go.RowKit

/-- A step of a row of steps, in memory. -/
theorem Stps.at_ {w : World} {B : Nat} {A : Option Addr} {vs : List StV} {xs : List Stp} (hr : ReadSt w B A vs) (hs : Stps w B vs xs) {i : Nat} {x : Stp} (hx : xs[i]? = some x) :
    ∃ (b o : Nat) (A1 B1 : Option Addr) (ca cb : Nat), A = some ⟨b, o, none⟩ ∧ b < B ∧ (w.cell? ⟨b, o + i * 6, none⟩ = some (.slice A1 x.a.length ca) ∧ w.cell? ⟨b, o + i * 6 + 1, none⟩ = some (.slice B1 x.b.length cb) ∧ w.cell? ⟨b, o + i * 6 + 2, none⟩ = some (.string x.l) ∧
      w.cell? ⟨b, o + i * 6 + 3, none⟩ = some (.int .i64 x.k) ∧ w.cell? ⟨b, o + i * 6 + 4, none⟩ = some (.int .i64 x.n) ∧ w.cell? ⟨b, o + i * 6 + 5, none⟩ = some (.int .i64 x.m)) ∧ TyA w B A1 x.a ∧ TyA w B B1 x.b := by
  obtain ⟨v, hv⟩ := getq_ex (l := vs) (i := i) (by rw [hs.1]; exact getq_lt hx)
  obtain ⟨b, o, hA, hb, c0, c1, c2, c3, c4, c5⟩ := ReadL.step hr hv
  obtain ⟨e1, e2, e3, e4, e5, t1, _, e6, t2, _⟩ := hs.2 i v x hv hx
  rw [e5] at c0
  rw [e6] at c1
  rw [e1] at c2
  rw [e2] at c3
  rw [e3] at c4
  rw [e4] at c5
  exact ⟨b, o, v.a.1, v.b.1, v.a.2.2, v.b.2.2, hA, hb, ⟨c0, c1, c2, c3, c4, c5⟩, t1, t2⟩
/-- Steps as they were handed in, later. -/
theorem Stps.later {w w' : World} {A : Option Addr} {vs : List StV} {xs : List Stp} (hr : ReadSt w w.heap.size A vs) (hs : Stps w w.heap.size vs xs) (hb : Below w.heap.size w w') {i : Nat} {x : Stp} (hx : xs[i]? = some x) :
    ∃ (b o : Nat) (A1 B1 : Option Addr) (ca cb : Nat), A = some ⟨b, o, none⟩ ∧ b < w'.heap.size ∧ (w'.cell? ⟨b, o + i * 6, none⟩ = some (.slice A1 x.a.length ca) ∧ w'.cell? ⟨b, o + i * 6 + 1, none⟩ = some (.slice B1 x.b.length cb) ∧ w'.cell? ⟨b, o + i * 6 + 2, none⟩ = some (.string x.l) ∧
      w'.cell? ⟨b, o + i * 6 + 3, none⟩ = some (.int .i64 x.k) ∧ w'.cell? ⟨b, o + i * 6 + 4, none⟩ = some (.int .i64 x.n) ∧ w'.cell? ⟨b, o + i * 6 + 5, none⟩ = some (.int .i64 x.m)) ∧ TyA w' w.heap.size A1 x.a ∧ TyA w' w.heap.size B1 x.b ∧ b < w.heap.size := by
  obtain ⟨b, o, A1, B1, ca, cb, hA, hlt, hc, t1, t2⟩ := Stps.at_ (hr.below hb) (hs.below hb) hx
  exact ⟨b, o, A1, B1, ca, cb, hA, Nat.lt_of_lt_of_le hlt hb.size, hc, t1, t2, hlt⟩

set_option maxRecDepth 100000 in
set_option maxHeartbeats 4000000 in
theorem mays_any (next : Int) (A : Option Addr) (c : Nat) (vs : List StV) (xs : List Stp) (w : World) (hr : ReadSt w w.heap.size A vs) (hs : Stps w w.heap.size vs xs) (hl : vs.length ≤ 9223372036854775807) (hok : ∀ x ∈ xs, x.Ok) :
    Calls Try.prog 15 #[.int .i64 next, .slice A vs.length c] w fun e w' => e = .returned (.bool (maysB next xs)) ∧ Below w.heap.size w w' := by
  have H := Lib.hid (And.intro hr hs)
  have HO := Lib.hid hok
  have hlx := Lib.hid hs.1
  clear hr hs hok
  go_enter Try.func15, Try.ntmps15
  by_cases c1 : next < 0
  · go_wp2_with fail
    go_ret
    exact ⟨ret_bool (by unfold maysB; rw [decide_eq_false (show ¬ (0 ≤ next) by omega)]; rfl), Below.refl _ _⟩
  · by_cases c2 : 8 < next
    · go_wp2_with fail
      go_ret
      exact ⟨ret_bool (by unfold maysB; rw [decide_eq_true (show 0 ≤ next by omega), decide_eq_false (show ¬ (next ≤ 8) by omega)]; rfl), Below.refl _ _⟩
    · by_cases c3 : (12 : Int) < (vs.length : Int)
      · go_wp2_with fail
        go_ret
        exact ⟨ret_bool (by unfold maysB; rw [decide_eq_false (show ¬ (xs.length ≤ 12) by have := hlx.out; omega)]; simp), Below.refl _ _⟩
      · have HM : Hid (maysB next xs = xs.all (mayB next)) := Lib.hid (by unfold maysB; rw [decide_eq_true (show 0 ≤ next by omega), decide_eq_true (show next ≤ 8 by omega), decide_eq_true (show xs.length ≤ 12 by have := hlx.out; omega)]; rfl)
        have hv12 : vs.length ≤ 12 := by omega
        go_wp2_with fail
        go_loopw [5] (fun s5 wr => ∃ i : Nat, s5 = .int .i64 i ∧ i ≤ vs.length ∧ Hid (Below w.heap.size w wr ∧ (xs.take i).all (mayB next) = true)) (fun s5 _ => vs.length - (intOf s5).toNat)
        case atStart => exact ⟨0, rfl, Nat.zero_le _, Lib.hid ⟨Below.refl _ _, by simp⟩⟩
        case round =>
          obtain ⟨i, rfl, hi, M⟩ := hrel
          by_cases hp : i < vs.length
          · obtain ⟨x, hx⟩ := getq_ex (show i < xs.length by rw [← hlx.out]; exact hp)
            obtain ⟨b1, o1, A1, B1, ca, cb, rfl, hbz, ⟨q0, q1, q2, q3, q4, q5⟩, t1, t2, _⟩ := Stps.later H.out.1 H.out.2 M.out.1 hx
            have hsz := M.out.1.size
            have hm := Lib.hid (may_any x A1 B1 ca cb next wr (t1.more hsz) (t2.more hsz) (HO.out x (List.mem_of_getElem? hx)))
            have Hx := Lib.hid hx
            clear hx t1 t2
            go_wp2_with fail
            refine hm.out.mono ?_
            clear hm
            rintro e w1 ⟨rfl, hb⟩
            have B1' := Lib.hid (ext_trans M.out.1 hb)
            clear hb
            cases hmb : mayB next x with
            | false =>
              have HB := Lib.hid hmb
              clear hmb
              go_wp2_with fail
              go_ret
              exact ⟨ret_bool (by rw [HM.out, all_no Hx.out HB.out]), B1'.out⟩
            | true =>
              have HB := Lib.hid hmb
              clear hmb
              go_wp2_with fail
              go_roundw
              case rel => exact ⟨i + 1, by go_num, hp, Lib.hid ⟨B1'.out, all_snoc Hx.out M.out.2 HB.out⟩⟩
              case measure => simp [intOf]; omega
          · have e1 : xs.take i = xs := List.take_of_length_le (by rw [← hlx.out]; omega)
            rw [e1] at M
            go_wp2_with fail
            go_ret
            exact ⟨ret_bool (by rw [HM.out, M.out.2]), M.out.1⟩

/-! ### What stands beside another solver -/
/-- A block in which no text and no pointer lies, and no node. -/
structure OffG (w : World) (g : Nat) : Prop where
  cell : ∀ (o : Nat) (v : Value), w.cell? ⟨g, o, none⟩ = some v → (∀ l, v ≠ .string l) ∧ ∀ p, v ≠ .pointer p
  blk : ∀ c0 c1 c2 c3 c4 t z, w.heap[g]? ≠ some (.cells #[c0, c1, c2, c3, c4] t z)
theorem solver_off {w : World} {s m : Nat} {f n : Int} (h : w.heap[s]? = some (solverOf f n m)) : OffG w s := by
  refine ⟨fun o v hv => ?_, fun c0 c1 c2 c3 c4 t z e => ?_⟩
  · simp only [World.cell?, h, solverOf] at hv
    match o, hv with
    | 0, hv => simp at hv; subst hv; exact ⟨fun l e => (by cases e), fun p e => by cases e⟩
    | 1, hv => simp at hv; subst hv; exact ⟨fun l e => (by cases e), fun p e => by cases e⟩
    | 2, hv => simp at hv; subst hv; exact ⟨fun l e => (by cases e), fun p e => by cases e⟩
    | o + 3, hv => simp at hv
  · rw [h] at e
    unfold solverOf at e
    injection e with e
    injection e with e _ _
    have := congrArg Array.size e
    simp at this
theorem map_off {κ : Type} {kf : κ → Value} {w : World} {b : Nat} {l : List (κ × Value)} (h : KMap kf w b l) : OffG w b := by
  obtain ⟨es, ck, hm, _⟩ := h
  refine ⟨fun o v hv => ?_, fun c0 c1 c2 c3 c4 t z e => ?_⟩
  · have : w.cell? ⟨b, o, none⟩ = none := by simp [World.cell?, hm]
    rw [this] at hv
    cases hv
  · rw [hm] at e
    cases e
section
variable {X : Nat → Prop} {w : World} {g : Nat}
theorem Lies.offG {α : Type} {enc : α → List Value} {size : Nat} {A : Option Addr} {l : List α} (h : Lies X size enc w A l) (he : ∀ x, ∃ u us, enc x = u :: us ∧ ((∃ s, u = .string s) ∨ ∃ p, u = .pointer p)) (hg : OffG w g) : Lies (fun k => X k ∨ k = g) size enc w A l := fun hl => by
  obtain ⟨b, o, e, h1, h2, h3⟩ := h hl
  refine ⟨b, o, e, fun hb => ?_, h2, h3⟩
  rcases hb with hb | rfl
  · exact h1 hb
  · cases l with
    | nil => exact hl rfl
    | cons x l =>
      obtain ⟨u, us, hx, hu⟩ := he x
      have := h3 0 x rfl 0 u (by rw [hx]; rfl)
      obtain ⟨n1, n2⟩ := hg.cell _ _ this
      rcases hu with ⟨s, rfl⟩ | ⟨p, rfl⟩
      · exact n1 s rfl
      · exact n2 p rfl
theorem TailAt.offG {v : Value} {tl : Option Int} (h : TailAt X w v tl) (hg : OffG w g) : TailAt (fun k => X k ∨ k = g) w v tl := by
  cases tl with
  | none => exact h
  | some q =>
    obtain ⟨b, e, h1, h2⟩ := h
    refine ⟨b, e, fun hb => ?_, h2⟩
    rcases hb with hb | rfl
    · exact h1 hb
    · exact hg.blk _ _ _ _ _ _ _ h2
theorem NodeAt.offG {b : Nat} {t : Ut} (h : NodeAt X w b t) (hg : OffG w g) : NodeAt (fun k => X k ∨ k = g) w b t := by
  induction h with
  | mk b k n fs tl A B ls bs ca cb tv hx hb hn hl hA hB hlen hk ht ih =>
    refine .mk b k n fs tl A B ls bs ca cb tv (fun h => ?_) hb hn hl (hA.offG (fun x => ⟨_, _, rfl, .inl ⟨_, rfl⟩⟩) hg) (hB.offG (fun x => ⟨_, _, rfl, .inr ⟨_, rfl⟩⟩) hg) hlen ih (ht.offG hg)
    rcases h with h | rfl
    · exact hx h
    · exact hg.blk _ _ _ _ _ _ _ hb
theorem SolAt.offG {s m : Nat} {first : Int} {S : Kn} (h : SolAt X s m first w S) (hg : OffG w g) : SolAt (fun k => X k ∨ k = g) s m first w S := by
  obtain ⟨a1, a2, a3, a4, l, a5, a6⟩ := h
  refine ⟨a1, .inl a2, .inl a3, a4, l, a5, fun n => ?_⟩
  have := a6 n
  cases hk : S.κ n with
  | none => rw [hk] at this; exact this
  | some t =>
    rw [hk] at this
    obtain ⟨b, e, hn⟩ := this
    exact ⟨b, e, hn.offG hg⟩
end
/-- A solver stands while another one is written. -/
theorem SolG.beside {U : List Lb} {s m m0 s2 m2 : Nat} {w w' : World} {S : Kn} (h : SolG U s m m0 w S) (h1 : OffG w s2) (h2 : OffG w m2) (hf : Fr (SX s2 m2) w w') (n1 : s2 ≠ s ∧ s2 ≠ m) (n2 : m2 ≠ s ∧ m2 ≠ m) : SolG U s m m0 w' S := by
  refine ⟨?_, h.kg, h.hU, h.f1, h.fm, h.hL⟩
  have hs := (h.sol.offG h1).offG h2
  refine (hs.fr hf fun k _ hk => ?_).more (.inl rfl) (.inr rfl) fun k _ hk => .inl (.inl hk)
  rcases hk with rfl | rfl
  · exact ⟨.inl (.inr rfl), n1.1, n1.2⟩
  · exact ⟨.inr rfl, n2.1, n2.2⟩
end Go.Proofs.Ytblfeokjlecgkaa

/- From a row's arguments to what the walks ask. -/
namespace Go.Proofs.Ytblfeokjlecgkaa
open Go.ChangeShapes Go.WideShapes Go.ChangeAt Go.WideMaps Go.WideElems Go.RowKit Go.Deep

theorem own : ownKnob Try.prog.godebug = none := by kernel_rfl
theorem laidOutT : laidOutB Try.prog = true := by kernel_rfl
theorem nodeCells : Try.prog.cellsOf 48 = 3 := by kernel_rfl

section
variable {H : Type} {enc : TypeId × Value → H} {W : World} {base : Nat} {d : DataW H} {p : List MemPlace} {v : Value}

theorem int_ok {n : Int} (h : (Lit.int .i64 n).wf = true) : -9223372036854775808 ≤ n ∧ n ≤ 9223372036854775807 := by
  have e1 : IntKind.i64.min = -9223372036854775808 := rfl
  have e2 : IntKind.i64.max = 9223372036854775807 := rfl
  simpa [Lit.wf, e1, e2] using h

end

end Go.Proofs.Ytblfeokjlecgkaa

/- Pairs among a row's arguments. -/
namespace Go.Proofs.Ytblfeokjlecgkaa
open Go.ChangeShapes Go.WideShapes Go.ChangeAt Go.WideMaps Go.WideElems Go.RowKit Go.Deep
section
variable {H : Type} {enc : TypeId × Value → H} {W : World} {base : Nat} {d : DataW H} {p : List MemPlace} {v : Value} {fuel : Nat} {cs : List Value} {X : DataW H × List MemPlace}

theorem open_ty0 (hf : DataW.trod enc Try.prog W 0 (fun _ => true) true fuel 34 cs = some X) :
    ∃ (A : Option Addr) (xs : List Nd) (c : Nat), cs = [.slice A xs.length c] ∧ TyA W W.heap.size A xs ∧ xs.length ≤ c ∧ xs.length ≤ 9223372036854775807 ∧ ∀ x ∈ xs, x.Ok := by
  rcases open_slice Try.underlying34 hf with ⟨hcs, _⟩ | ⟨a, n0, cap, m, n, D, Pl, hcs, _, hl, hcm, hm, _, hel⟩
  · exact ⟨none, [], 0, hcs, TyA.nil, Nat.le_refl _, by simp, by simp⟩
  · simp only [if_true] at hm
    subst hm
    subst hcs
    have hnode : ∀ i, i < n0 → ∃ x : Nd, x.Ok ∧ W.cell? (a.add (i * 3)) = some (.int .i64 x.k) ∧ W.cell? (a.add (i * 3 + 1)) = some (.string x.s) ∧ W.cell? (a.add (i * 3 + 2)) = some (.int .i64 x.n) := fun i hi => by
      obtain ⟨cs', hc, ht⟩ := hel i (by omega)
      rw [nodeCells] at hc
      obtain ⟨_, hlen, hat⟩ := World.cells?_some hc
      match cs', hlen with
      | [v0, v1, v2], _ =>
        obtain ⟨ys, n', _, _, _, _, hfld⟩ := DataW.trod_struct Try.underlying48 ht
        have h0 := hfld 0 _ rfl
        have h1 := hfld 1 _ rfl
        have h2 := hfld 2 _ rfl
        change DataW.trod enc Try.prog W 0 _ true n' 3 (([v0, v1, v2].drop 0).take (Try.prog.cellsOf 3)) = _ at h0
        change DataW.trod enc Try.prog W 0 _ true n' 9 (([v0, v1, v2].drop 1).take (Try.prog.cellsOf 9)) = _ at h1
        change DataW.trod enc Try.prog W 0 _ true n' 3 (([v0, v1, v2].drop 2).take (Try.prog.cellsOf 3)) = _ at h2
        rw [show Try.prog.cellsOf 3 = 1 by kernel_rfl] at h0 h2
        rw [show Try.prog.cellsOf 9 = 1 by kernel_rfl] at h1
        have hne : ∀ j, j < 3 → ∃ y, ys[j]? = some y := fun j hj => by
          have : ys.length = 3 := by assumption
          exact getq_ex (by omega)
        obtain ⟨y0, e0⟩ := hne 0 (by omega)
        obtain ⟨y1, e1⟩ := hne 1 (by omega)
        obtain ⟨y2, e2⟩ := hne 2 (by omega)
        obtain ⟨k, hk, _, hkw⟩ := DataW.trod_int Try.underlying3 (h0.trans e0)
        obtain ⟨s, hs, _, hsw⟩ := DataW.trod_string Try.underlying9 (h1.trans e1)
        obtain ⟨nn, hnn, _, hnw⟩ := DataW.trod_int Try.underlying3 (h2.trans e2)
        simp at hk hs hnn
        subst hk hs hnn
        obtain ⟨k0, k1⟩ := int_ok hkw
        obtain ⟨n0, n1⟩ := int_ok hnw
        refine ⟨⟨k, s, nn⟩, ⟨k0, k1, n0, n1, hsw⟩, ?_, ?_, ?_⟩
        · have := hat 0 (by omega); rw [add_add] at this; simpa using this
        · have := hat 1 (by omega); rw [add_add] at this; simpa using this
        · have := hat 2 (by omega); rw [add_add] at this; simpa using this
    have hch : ∃ f : Nat → Nd, ∀ i, i < n0 → (f i).Ok ∧ W.cell? (a.add (i * 3)) = some (.int .i64 (f i).k) ∧ W.cell? (a.add (i * 3 + 1)) = some (.string (f i).s) ∧ W.cell? (a.add (i * 3 + 2)) = some (.int .i64 (f i).n) :=
      ⟨fun i => if h : i < n0 then Classical.choose (hnode i h) else default, fun i hi => by
        simp only [dif_pos hi]
        exact Classical.choose_spec (hnode i hi)⟩
    obtain ⟨f, hf2⟩ := hch
    have hxl : ((List.range n0).map f).length = n0 := by simp
    have hget : ∀ i x, ((List.range n0).map f)[i]? = some x → i < n0 ∧ x = f i := fun i x hx => by
      have hi : i < n0 := by have := getq_lt hx; simpa using this
      rw [List.getElem?_map, List.getElem?_range hi] at hx
      injection hx with hx
      exact ⟨hi, hx.symm⟩
    refine ⟨some a, (List.range n0).map f, m, by rw [hxl], fun hne => ?_, by rw [hxl]; exact hl, by rw [hxl]; unfold maxLen at hcm; omega, fun x hx => ?_⟩
    · have hn : 0 < n0 := by
        rcases Nat.eq_zero_or_pos n0 with h | h
        · subst h; exact absurd rfl hne
        · exact h
      obtain ⟨b, off, spot⟩ := a
      have h0 := (hf2 0 hn).2.1
      have hspot : spot = none := by simpa [Addr.add] using World.cell?_spot h0
      subst hspot
      simp only [add_plain] at hf2
      refine ⟨b, off, rfl, ?_, ⟨fun i x hx => ?_, fun i x hx => ?_, fun i x hx => ?_⟩⟩
      · exact World.block_lt_of_cell? W _ (hf2 0 hn).2.1
      · obtain ⟨hi, rfl⟩ := hget i x hx; exact (hf2 i hi).2.1
      · obtain ⟨hi, rfl⟩ := hget i x hx; have := (hf2 i hi).2.2.1; rwa [← Nat.add_assoc] at this
      · obtain ⟨hi, rfl⟩ := hget i x hx; have := (hf2 i hi).2.2.2; rwa [← Nat.add_assoc] at this
    · obtain ⟨i, hi, rfl⟩ := List.mem_map.1 hx
      exact (hf2 i (List.mem_range.1 hi)).1

end
end Go.Proofs.Ytblfeokjlecgkaa

/- A row of types among the arguments. -/
namespace Go.Proofs.Ytblfeokjlecgkaa
open Go.ChangeShapes Go.WideShapes Go.ChangeAt Go.WideMaps Go.WideElems Go.RowKit Go.Deep
section
variable {H : Type} {enc : TypeId × Value → H} {W : World} {base : Nat} {d : DataW H} {p : List MemPlace} {v : Value} {fuel : Nat} {cs : List Value} {X : DataW H × List MemPlace}

theorem tyCells : Try.prog.cellsOf 34 = 1 := by kernel_rfl

end
end Go.Proofs.Ytblfeokjlecgkaa

/- A row of steps among the arguments. -/
namespace Go.Proofs.Ytblfeokjlecgkaa
open Go.ChangeShapes Go.WideShapes Go.ChangeAt Go.WideMaps Go.WideElems Go.RowKit Go.Deep
section
variable {H : Type} {enc : TypeId × Value → H} {W : World} {base : Nat} {d : DataW H} {p : List MemPlace} {v : Value} {fuel : Nat} {cs : List Value} {X : DataW H × List MemPlace}
theorem stepCells : Try.prog.cellsOf 36 = 6 := by kernel_rfl
theorem strCells : Try.prog.cellsOf 9 = 1 := by kernel_rfl
theorem intCells : Try.prog.cellsOf 3 = 1 := by kernel_rfl

theorem open_step0 (hf : DataW.trod enc Try.prog W 0 (fun _ => true) true fuel 36 cs = some X) (hl : cs.length = 6) :
    ∃ (v : StV) (x : Stp), cs = encSt v ∧ StAt W W.heap.size v x ∧ x.Ok := by
  match cs, hl with
  | [v0, v1, v2, v3, v4, v5], _ =>
    obtain ⟨ys, n', _, _, _, hyl, hfld⟩ := DataW.trod_struct Try.underlying36 hf
    have h0 := hfld 0 _ rfl
    have h1 := hfld 1 _ rfl
    have h2 := hfld 2 _ rfl
    have h3 := hfld 3 _ rfl
    have h4 := hfld 4 _ rfl
    have h5 := hfld 5 _ rfl
    change DataW.trod enc Try.prog W 0 _ true n' 34 (([v0, v1, v2, v3, v4, v5].drop 0).take (Try.prog.cellsOf 34)) = _ at h0
    change DataW.trod enc Try.prog W 0 _ true n' 34 (([v0, v1, v2, v3, v4, v5].drop 1).take (Try.prog.cellsOf 34)) = _ at h1
    change DataW.trod enc Try.prog W 0 _ true n' 9 (([v0, v1, v2, v3, v4, v5].drop 2).take (Try.prog.cellsOf 9)) = _ at h2
    change DataW.trod enc Try.prog W 0 _ true n' 3 (([v0, v1, v2, v3, v4, v5].drop 3).take (Try.prog.cellsOf 3)) = _ at h3
    change DataW.trod enc Try.prog W 0 _ true n' 3 (([v0, v1, v2, v3, v4, v5].drop 4).take (Try.prog.cellsOf 3)) = _ at h4
    change DataW.trod enc Try.prog W 0 _ true n' 3 (([v0, v1, v2, v3, v4, v5].drop 5).take (Try.prog.cellsOf 3)) = _ at h5
    rw [tyCells] at h0 h1
    rw [strCells] at h2
    rw [intCells] at h3 h4 h5
    have hne : ∀ j, j < 6 → ∃ y, ys[j]? = some y := fun j hj => by
      have : ys.length = 6 := hyl
      exact getq_ex (by omega)
    obtain ⟨y0, e0⟩ := hne 0 (by omega)
    obtain ⟨y1, e1⟩ := hne 1 (by omega)
    obtain ⟨y2, e2⟩ := hne 2 (by omega)
    obtain ⟨y3, e3⟩ := hne 3 (by omega)
    obtain ⟨y4, e4⟩ := hne 4 (by omega)
    obtain ⟨y5, e5⟩ := hne 5 (by omega)
    obtain ⟨A, a, ca, hA, tA, lA', sA, oA⟩ := open_ty0 (h0.trans e0)
    obtain ⟨B, b, cb, hB, tB, lB', sB, oB⟩ := open_ty0 (h1.trans e1)
    obtain ⟨s, hs, _, hsw⟩ := DataW.trod_string Try.underlying9 (h2.trans e2)
    obtain ⟨k, hk, _, hkw⟩ := DataW.trod_int Try.underlying3 (h3.trans e3)
    obtain ⟨n, hn, _, hnw⟩ := DataW.trod_int Try.underlying3 (h4.trans e4)
    obtain ⟨m, hm, _, hmw⟩ := DataW.trod_int Try.underlying3 (h5.trans e5)
    simp at hA hB hs hk hn hm
    subst hA hB hs hk hn hm
    exact ⟨⟨(A, a.length, ca), (B, b.length, cb), s, k, n, m⟩, ⟨a, b, s, k, n, m⟩, rfl, ⟨rfl, rfl, rfl, rfl, rfl, tA, lA', rfl, tB, lB'⟩, ⟨⟨sA, oA⟩, ⟨sB, oB⟩, hsw, int_ok hkw, int_ok hnw, int_ok hmw⟩⟩

set_option maxRecDepth 100000 in
theorem open_steps (hv : Value.okWide Try.prog W .any base 22 v) (h : DataW.Trod enc Try.prog W 0 (fun _ => true) true 22 v d p) :
    ∃ (A : Option Addr) (vs : List StV) (xs : List Stp) (c : Nat), v = .slice A vs.length c ∧ ReadSt W W.heap.size A vs ∧ Stps W W.heap.size vs xs ∧ vs.length ≤ c ∧ vs.length ≤ 9223372036854775807 ∧ ∀ x ∈ xs, x.Ok := by
  obtain ⟨a0, n0, c0, rfl⟩ := okWide_slice Try.underlying22 hv
  obtain ⟨fuel, hf⟩ := h
  rcases open_slice Try.underlying22 hf with ⟨hcs, _⟩ | ⟨a, len, cap, m, n, D, Pl, hcs, _, hl, hcm, hm, _, hel⟩
  · simp [Value.cells] at hcs
    obtain ⟨rfl, rfl, rfl⟩ := hcs
    exact ⟨none, [], [], 0, rfl, ReadL.nil, ⟨rfl, fun i v x hv => by simp at hv⟩, Nat.le_refl _, by simp, by simp⟩
  · simp [Value.cells] at hcs
    obtain ⟨rfl, rfl, rfl⟩ := hcs
    simp only [if_true] at hm
    subst hm
    have hst : ∀ i, i < n0 → ∃ q : StV × Stp, StAt W W.heap.size q.1 q.2 ∧ q.2.Ok ∧ ∀ j u, (encSt q.1)[j]? = some u → W.cell? (a.add (i * 6 + j)) = some u := fun i hi => by
      obtain ⟨cs', hc, ht⟩ := hel i (by omega)
      rw [stepCells] at hc
      obtain ⟨_, hlen, hat⟩ := World.cells?_some hc
      obtain ⟨v, x, rfl, h1, h2⟩ := open_step0 ht (by simpa using hlen)
      refine ⟨(v, x), h1, h2, fun j u hu => ?_⟩
      have hj : j < 6 := by have := getq_lt hu; rwa [encSt_len] at this
      have := hat j (by omega)
      rw [add_add] at this
      rw [this]
      exact hu
    obtain ⟨f, hf2⟩ : ∃ f : Nat → StV × Stp, ∀ i, i < n0 → StAt W W.heap.size (f i).1 (f i).2 ∧ (f i).2.Ok ∧ ∀ j u, (encSt (f i).1)[j]? = some u → W.cell? (a.add (i * 6 + j)) = some u :=
      ⟨fun i => if h : i < n0 then Classical.choose (hst i h) else default, fun i hi => by
        simp only [dif_pos hi]
        exact Classical.choose_spec (hst i hi)⟩
    have hget : ∀ {β : Type} (g : Nat → β) i x, ((List.range n0).map g)[i]? = some x → i < n0 ∧ x = g i := fun g i x hx => by
      have hi : i < n0 := by have := getq_lt hx; simpa using this
      rw [List.getElem?_map, List.getElem?_range hi] at hx
      injection hx with hx
      exact ⟨hi, hx.symm⟩
    have hlen : ((List.range n0).map fun i => (f i).1).length = n0 := by simp
    refine ⟨some a, (List.range n0).map fun i => (f i).1, (List.range n0).map fun i => (f i).2, m, by rw [hlen], fun hne => ?_, ⟨by simp, fun i v x hv hx => ?_⟩, by rw [hlen]; exact hl, by rw [hlen]; unfold maxLen at hcm; omega, fun x hx => ?_⟩
    · have hn : 0 < n0 := by
        rcases Nat.eq_zero_or_pos n0 with h | h
        · subst h; exact absurd rfl hne
        · exact h
      obtain ⟨b, off, spot⟩ := a
      have h0 := (hf2 0 hn).2.2 0 _ rfl
      have hspot : spot = none := by simpa [Addr.add] using World.cell?_spot h0
      subst hspot
      simp only [add_plain] at hf2
      refine ⟨b, off, rfl, World.block_lt_of_cell? W _ ((hf2 0 hn).2.2 0 _ rfl), fun i x hx j u hu => ?_⟩
      obtain ⟨hi, rfl⟩ := hget _ i x hx
      have := (hf2 i hi).2.2 j u hu
      rwa [← Nat.add_assoc] at this
    · obtain ⟨hi, rfl⟩ := hget _ i v hv
      obtain ⟨_, rfl⟩ := hget _ i x hx
      exact (hf2 i hi).1
    · obtain ⟨i, hi, rfl⟩ := List.mem_map.1 hx
      exact (hf2 i (List.mem_range.1 hi)).2.1
end
end Go.Proofs.Ytblfeokjlecgkaa
