/- Laid together by a tool from the texts of this seat: UHolds OpenTys. Conditions: each theorem's own. -/
import Derived.Test.YtblfeokjlecgkaaL02
import Derived.Test.YtblfeokjlecgkaaL01
import Derived.SliceStrings
/- The law's holds, walked. -/
namespace Go.Proofs.Ytblfeokjlecgkaa
open Go.RowKit

set_option maxRecDepth 100000 in
set_option maxHeartbeats 8000000 in
theorem holds_any (types : List (List Nd)) (V : Option Addr) (cv : Nat) (vs : List (Option Addr × Nat × Nat)) (x : Stp) (A B : Option Addr) (ca cb : Nat) (U : List Lb) (w : World) (hA : TyA w w.heap.size A x.a) (hB : TyA w w.heap.size B x.b)
    (hV : ReadS w w.heap.size V vs) (hS : Sls w w.heap.size vs types) (hcap : ∀ (i : Nat) (v : Option Addr × Nat × Nat), vs[i]? = some v → v.2.1 ≤ v.2.2) (T : TypesOk types) (g : GoodS U (types.length : Int) x)
    (ta : x.l.size = 0 → PutIn types x.a ∧ ∀ y ∈ x.a, toldN types.length y = true) (tb : x.l.size = 0 → PutIn types x.b ∧ ∀ y ∈ x.b, toldN types.length y = true) (hv : vs.length ≤ 1000) :
    Calls Try.prog 32 #[stV x A ca B cb, .slice V vs.length cv] w fun e w' => e = .returned (.bool (holdsB types x)) ∧ Below w.heap.size w w' := by
  have hbx := Lib.hid (ext_alloc (Below.refl w.heap.size w) (.cells #[.slice A x.a.length ca, .slice B x.b.length cb, .string x.l, .int .i64 x.k, .int .i64 x.n, .int .i64 x.m] 36))
  cases hz : (x.l.toList == ([] : List UInt8)) with
  | true =>
    have hz0 : x.l.size = 0 := by simpa [isEmpty_size] using (show x.l.toList.isEmpty = true by simpa using hz)
    obtain ⟨g1, g2, l1, l2⟩ := g.pair hz0
    have HH : Hid (holdsB types x = agG (putTs types x.a).length (putTs types x.a) (putTs types x.b)) := Lib.hid (if_pos hz0)
    obtain ⟨p1, u1⟩ := ta hz0
    obtain ⟨p2, u2⟩ := tb hz0
    have n1 := p1.len x.a.length (Nat.le_refl _)
    have n2 := p2.len x.b.length (Nat.le_refl _)
    rw [List.take_length] at n1 n2
    obtain ⟨G1, -⟩ := put_gd T.gd g1 u1
    obtain ⟨G2, -⟩ := put_gd T.gd g2 u2
    have HPA : Hid (∀ v, Hid (Below w.heap.size w v) → Calls Try.prog 66 #[.slice A x.a.length ca, .slice V vs.length cv] v (fun e w' => ∃ A' c', e = .returned (.slice A' (putTs types x.a).length c') ∧ Hid (TyA w' w'.heap.size A' (putTs types x.a) ∧ (putTs types x.a).length ≤ c') ∧ Hid (Below w.heap.size w w') ∧ Hid (Below v.heap.size v w'))) := Lib.hid fun v hb => by
      refine (put_any A V ca cv x.a vs types v ((hA.below hb.out).more hb.out.size) ((hV.below hb.out).more hb.out.size) (sls_more (sls_below hS hb.out) hb.out.size) (by omega) p1 hv).mono ?_
      rintro e w' ⟨A', c', he, h1, h2⟩
      exact ⟨A', c', he, Lib.hid ⟨OwnL.tyA h1, OwnL.le_cap h1⟩, Lib.hid (ext_trans hb.out h2), Lib.hid h2⟩
    have HPB : Hid (∀ v, Hid (Below w.heap.size w v) → Calls Try.prog 66 #[.slice B x.b.length cb, .slice V vs.length cv] v (fun e w' => ∃ A' c', e = .returned (.slice A' (putTs types x.b).length c') ∧ Hid (TyA w' w'.heap.size A' (putTs types x.b) ∧ (putTs types x.b).length ≤ c') ∧ Hid (Below w.heap.size w w') ∧ Hid (Below v.heap.size v w'))) := Lib.hid fun v hb => by
      refine (put_any B V cb cv x.b vs types v ((hB.below hb.out).more hb.out.size) ((hV.below hb.out).more hb.out.size) (sls_more (sls_below hS hb.out) hb.out.size) (by omega) p2 hv).mono ?_
      rintro e w' ⟨A', c', he, h1, h2⟩
      exact ⟨A', c', he, Lib.hid ⟨OwnL.tyA h1, OwnL.le_cap h1⟩, Lib.hid (ext_trans hb.out h2), Lib.hid h2⟩
    obtain ⟨pa, hpa⟩ : ∃ pa, pa = putTs types x.a := ⟨_, rfl⟩
    obtain ⟨pb, hpb⟩ : ∃ pb, pb = putTs types x.b := ⟨_, rfl⟩
    rw [← hpa] at HPA HH n1 G1
    rw [← hpb] at HPB HH n2 G2
    have HAG : Hid (∀ v A' B' c' d', Hid (TyA v v.heap.size A' pa ∧ pa.length ≤ c') → Hid (TyA v v.heap.size B' pb ∧ pb.length ≤ d') → Hid (Below w.heap.size w v) → Calls Try.prog 26 #[.slice A' pa.length c', .slice B' pb.length d'] v (fun e w' => e = .returned (.bool (agG pa.length pa pb)) ∧ Hid (Below w.heap.size w w') ∧ Hid (Below v.heap.size v w'))) := Lib.hid fun v A' B' c' d' h1 h2 hb => by
      refine (rAgree_any pa.length A' B' c' d' pa pb v (Nat.le_refl _) h1.out.1 h2.out.1 G1.trw G2.trw (by omega) (by omega) h1.out.2 h2.out.2).mono ?_
      rintro e w' ⟨he, h⟩
      exact ⟨he, Lib.hid (ext_trans hb.out h), Lib.hid h⟩
    have HKK : Hid (∀ v, Hid (Below (w.alloc (.cells #[.slice A x.a.length ca, .slice B x.b.length cb, .string x.l, .int .i64 x.k, .int .i64 x.n, .int .i64 x.m] 36)).heap.size (w.alloc (.cells #[.slice A x.a.length ca, .slice B x.b.length cb, .string x.l, .int .i64 x.k, .int .i64 x.n, .int .i64 x.m] 36)) v) → v.cell? ⟨w.heap.size, 0, none⟩ = some (.slice A x.a.length ca) ∧ v.cell? ⟨w.heap.size, 1, none⟩ = some (.slice B x.b.length cb)) := Lib.hid fun v hb => by
      have h := (hb.out.block w.heap.size (by simp)).trans (heap_alloc_new w (.cells #[.slice A x.a.length ca, .slice B x.b.length cb, .string x.l, .int .i64 x.k, .int .i64 x.n, .int .i64 x.m] 36))
      constructor <;> simp [World.cell?, h]
    clear hA hB hV hS hcap T g ta tb hz0 g1 g2 p1 u1 p2 u2 G1 G2 hpa hpb n1 n2
    go_enter Try.func32, Try.ntmps32
    go_wp2_with fail
    go_region_held3 (fun v => v.cell? ⟨w.heap.size, 0, none⟩ = some (.slice A x.a.length ca) ∧ v.cell? ⟨w.heap.size, 1, none⟩ = some (.slice B x.b.length cb))
      (first
        | exact HKK.out _ (Lib.hid (Below.refl _ _).drew)
        | exact HKK.out _ (Lib.hid (Below.refl _ _))
        | exact HKK.out _ k1
        | exact HKK.out _ k2
        | exact HKK.out _ k3)
      (first
        | (go_at_call 26; (with_reducible refine (HAG.out _ _ _ _ _ y1 x2 f2).mono ?_); rintro e v3 ⟨rfl, f3, z3⟩; have k3 := Lib.hid (ext_trans k2.out z3.out))
        | (go_at_call 66; (with_reducible refine (HPB.out _ f1).mono ?_); rintro e v2 ⟨A2, c2, rfl, x2, f2, z2⟩; have y1 := Lib.hid (And.intro ((x1.out.1.below z2.out).more z2.out.size) x1.out.2); have k2 := Lib.hid (ext_trans k1.out z2.out))
        | (go_at_call 66; (with_reducible refine (HPA.out _ (Lib.hid (ext_trans hbx.out (Below.refl _ _).drew))).mono ?_); rintro e v1 ⟨A1, c1, rfl, x1, f1, z1⟩; have k1 := Lib.hid (ext_trans (Below.refl _ _).drew z1.out)))
    all_goals
      go_wp2_with fail
      go_ret
      exact ⟨ret_bool HH.out.symm, f3.out⟩
  | false =>
    have hz0 : x.l.size ≠ 0 := fun h => by
      have := isEmpty_size x.l
      rw [decide_eq_true h] at this
      rw [List.isEmpty_iff.1 this] at hz
      cases hz
    have hc := g.c
    have e0 : x.cst = .opn x.k x.l x.n x.m := if_neg hz0
    rw [e0] at hc
    obtain ⟨c1, c2, c3, c4, c5, c6, c7⟩ := hc
    obtain ⟨jn, hjn⟩ : ∃ jn : Nat, x.n = (jn : Int) := ⟨x.n.toNat, by omega⟩
    obtain ⟨jm, hjm⟩ : ∃ jm : Nat, x.m = (jm : Int) := ⟨x.m.toNat, by omega⟩
    have hjnt : jn < types.length := by omega
    have hjmt : jm < types.length := by omega
    obtain ⟨Tn, hTn⟩ := getq_ex hjnt
    obtain ⟨Tm, hTm⟩ := getq_ex hjmt
    have hjnv : jn < vs.length := by rw [hS.1]; exact hjnt
    have hjmv : jm < vs.length := by rw [hS.1]; exact hjmt
    obtain ⟨vn, hvn⟩ := getq_ex hjnv
    obtain ⟨vm, hvm⟩ := getq_ex hjmv
    obtain ⟨hln, htn⟩ := hS.2 jn vn Tn hvn hTn
    obtain ⟨hlm, htm⟩ := hS.2 jm vm Tm hvm hTm
    have hcn := hcap jn vn hvn
    rw [hln] at hcn
    have HH : Hid (holdsB types x = ((((headNd Tn).k == x.k) && (fieldL Tn x.l).isSome) && sameB (bareN ((fieldL Tn x.l).getD [])) Tm)) := Lib.hid (by
      unfold holdsB
      rw [if_neg hz0, hjn, hjm, Int.toNat_natCast, Int.toNat_natCast, hTn, hTm]
      rfl)
    have gn := T.gd Tn (List.mem_of_getElem? hTn)
    have ln30 := T.ln Tn (List.mem_of_getElem? hTn)
    have lm30 := T.ln Tm (List.mem_of_getElem? hTm)
    have hx0 : Tn[0]? = some (headNd Tn) := by
      have := gn.ne
      cases Tn with
      | nil => exact absurd rfl this
      | cons x xs => rfl
    have hk0 : (headNd Tn).k ≠ 0 := T.st Tn (List.mem_of_getElem? hTn) _ (List.mem_of_getElem? hx0)
    obtain ⟨An, ln, cn⟩ := vn
    obtain ⟨Am, lm, cm⟩ := vm
    simp only at hln hlm htn htm hcn
    subst hln hlm
    obtain ⟨bT, oT, rfl, zT, d0, _, _⟩ := htn.at_ hx0
    simp only [Nat.zero_mul, Nat.add_zero] at d0
    obtain ⟨bV, oV, rfl, zV, dV⟩ := hV.slice hvn
    obtain ⟨bV', oV', eV, _, dV2⟩ := hV.slice hvm
    injection eV with eV
    injection eV with eV1 eV2 _
    subst eV1 eV2
    have hposT : 0 < Tn.length := getq_lt hx0
    have HFD : Hid (∀ v, Below w.heap.size w v → Calls Try.prog 38 #[.slice (some ⟨bT, oT, none⟩) Tn.length cn, .string x.l] v (FieldPost (fieldL Tn x.l) v)) := Lib.hid fun v hb => field_any _ cn Tn x.l v ((htn.below hb).more hb.size) gn.trw (by omega) hcn hk0
    have HC : Hid (∀ v, Below (w.alloc (.cells #[.slice A x.a.length ca, .slice B x.b.length cb, .string x.l, .int .i64 x.k, .int .i64 x.n, .int .i64 x.m] 36)).heap.size (w.alloc (.cells #[.slice A x.a.length ca, .slice B x.b.length cb, .string x.l, .int .i64 x.k, .int .i64 x.n, .int .i64 x.m] 36)) v → v.cell? ⟨w.heap.size, 2, none⟩ = some (.string x.l) ∧ v.cell? ⟨w.heap.size, 3, none⟩ = some (.int .i64 x.k) ∧ v.cell? ⟨w.heap.size, 4, none⟩ = some (.int .i64 (jn : Int)) ∧ v.cell? ⟨w.heap.size, 5, none⟩ = some (.int .i64 (jm : Int)) ∧ v.cell? ⟨bV, oV + jn, none⟩ = some (.slice (some ⟨bT, oT, none⟩) Tn.length cn) ∧ v.cell? ⟨bV, oV + jm, none⟩ = some (.slice Am Tm.length cm) ∧ v.cell? ⟨bT, oT, none⟩ = some (.int .i64 (headNd Tn).k) ∧ w.heap.size < v.heap.size ∧ bV < v.heap.size ∧ bT < v.heap.size) := Lib.hid fun v hb => by
      have h := (hb.block w.heap.size (by simp)).trans (heap_alloc_new w (.cells #[.slice A x.a.length ca, .slice B x.b.length cb, .string x.l, .int .i64 x.k, .int .i64 x.n, .int .i64 x.m] 36))
      have hW := ext_trans hbx.out hb
      have hsz := (Array.getElem?_eq_some_iff.1 h).1
      refine ⟨?_, ?_, ?_, ?_, (hW.cell (p := ⟨bV, oV + jn, none⟩) zV).trans dV, (hW.cell (p := ⟨bV, oV + jm, none⟩) zV).trans dV2, (hW.cell (p := ⟨bT, oT, none⟩) zT).trans d0, hsz, by omega, by omega⟩ <;> simp [World.cell?, h, hjn, hjm]
    have HTM := Lib.hid htm
    have HSM : Hid (∀ v Z cz z, Below w.heap.size w v → TyA v v.heap.size Z (bareN z) → (bareN z).length ≤ 1000 → Calls Try.prog 67 #[.slice Z (bareN z).length cz, .slice Am Tm.length cm] v (fun e w' => e = .returned (.bool (sameB (bareN z) Tm)) ∧ Below w.heap.size w w' ∧ Below v.heap.size v w')) := Lib.hid fun v Z cz z hb hZ hz => by
      refine (rSame_any Z Am cz cm (bareN z) Tm v hZ ((HTM.out.below hb).more hb.size) (by omega)).mono ?_
      rintro e w' ⟨he, h⟩
      exact ⟨he, ext_trans hb h, h⟩
    have HZL : Hid (∀ z, fieldL Tn x.l = some z → (bareN z).length ≤ 1000) := Lib.hid fun z hz => by
      rw [bareN_length]
      have hr : (headNd Tn).k ≠ 5 := by
        intro e
        unfold fieldL at hz
        rw [if_pos e] at hz
        cases hz
      unfold fieldL at hz
      rw [if_neg hr] at hz
      have := kidsL_len (List.mem_of_find?_eq_some hz)
      omega
    clear hA hB hV hS hcap T g ta tb hz0 e0 c1 c2 c3 c4 c5 c6 c7 hjn hjm hTn hTm hvn hvm htm htn gn hk0 hx0 d0 dV dV2 hcn
    go_enter Try.func32, Try.ntmps32
    have HCK : Hid (∀ v, Hid (Below (w.alloc (.cells #[.slice A x.a.length ca, .slice B x.b.length cb, .string x.l, .int .i64 x.k, .int .i64 x.n, .int .i64 x.m] 36)).heap.size (w.alloc (.cells #[.slice A x.a.length ca, .slice B x.b.length cb, .string x.l, .int .i64 x.k, .int .i64 x.n, .int .i64 x.m] 36)) v) → v.cell? ⟨w.heap.size, 2, none⟩ = some (.string x.l) ∧ v.cell? ⟨w.heap.size, 4, none⟩ = some (.int .i64 (jn : Int)) ∧ v.cell? ⟨bV, oV + jn, none⟩ = some (.slice (some ⟨bT, oT, none⟩) Tn.length cn)) := Lib.hid fun v hb => by
      obtain ⟨q2, q3, q4, q5, q6, q7, q8, qz, qv, qt⟩ := HC.out v hb.out
      exact ⟨q2, q4, q6⟩
    obtain ⟨kt, hkt⟩ : ∃ kt, kt = (headNd Tn).k := ⟨_, rfl⟩
    rw [← hkt] at HC HH
    clear hkt
    obtain ⟨q2, q3, q4, q5, q6, q7, q8, qz, qv, qt⟩ := HC.out _ (Below.refl _ _)
    cases hf : fieldL Tn x.l with
    | none =>
      rw [hf] at HFD HH
      have HF := Lib.hid hf
      clear hf q3 q5 q7 q8
      go_wp2_with fail
      go_region_held3 (fun v => v.cell? ⟨w.heap.size, 2, none⟩ = some (.string x.l) ∧ v.cell? ⟨w.heap.size, 4, none⟩ = some (.int .i64 (jn : Int)) ∧ v.cell? ⟨bV, oV + jn, none⟩ = some (.slice (some ⟨bT, oT, none⟩) Tn.length cn))
        (first
          | exact HCK.out _ (Lib.hid (Below.refl _ _).drew)
          | exact HCK.out _ (Lib.hid (Below.refl _ _))
          | exact HCK.out _ k1)
        (first
          | (go_at_call 38; (with_reducible refine (HFD.out _ (ext_trans hbx.out (Below.refl _ _).drew)).mono ?_); rintro e v1 ⟨hb1, rfl⟩; have k1 := Lib.hid (ext_trans (Below.refl _ _).drew hb1); have f1 := Lib.hid (ext_trans hbx.out k1.out)))
      all_goals
        clear HFD q2 q4 q6 qz qv qt
        obtain ⟨q2, q3, q4, q5, q6, q7, q8, qz, qv, qt⟩ := HC.out v1 k1.out
        cases hkb : (kt == x.k)
        all_goals
          have HKB := Lib.hid hkb
          go_wp2_with fail
          go_quiet (fail)
          go_wp2_with fail
          go_ret
          exact ⟨ret_bool (by rw [HH.out, HKB.out]; rfl), ext_trans f1.out (bel_drewN v1 _)⟩
    | some z =>
      rw [hf] at HFD HH
      have HF := Lib.hid hf
      clear hf q3 q5 q7 q8
      go_wp2_with fail
      go_region_held3 (fun v => v.cell? ⟨w.heap.size, 2, none⟩ = some (.string x.l) ∧ v.cell? ⟨w.heap.size, 4, none⟩ = some (.int .i64 (jn : Int)) ∧ v.cell? ⟨bV, oV + jn, none⟩ = some (.slice (some ⟨bT, oT, none⟩) Tn.length cn))
        (first
          | exact HCK.out _ (Lib.hid (Below.refl _ _).drew)
          | exact HCK.out _ (Lib.hid (Below.refl _ _))
          | exact HCK.out _ k1)
        (first
          | (go_at_call 38; (with_reducible refine (HFD.out _ (ext_trans hbx.out (Below.refl _ _).drew)).mono ?_); rintro e v1 ⟨hb1, Z1, cz1, rfl, tz1, -⟩; have k1 := Lib.hid (ext_trans (Below.refl _ _).drew hb1); have f1 := Lib.hid (ext_trans hbx.out k1.out)))
      all_goals
        have TZ := Lib.hid tz1
        clear HFD q2 q4 q6 qz qv qt tz1
        obtain ⟨q2, q3, q4, q5, q6, q7, q8, qz, qv, qt⟩ := HC.out v1 k1.out
        have hzl := HZL.out z HF.out
        cases hkb : (kt == x.k)
        · have HKB := Lib.hid hkb
          go_wp2_with fail
          go_quiet (fail)
          go_wp2_with fail
          go_ret
          exact ⟨ret_bool (by rw [HH.out, HKB.out]; rfl), ext_trans f1.out (bel_drewN v1 _)⟩
        · have HKB := Lib.hid hkb
          have HSM2 := Lib.hid (HSM.out v1.drew Z1 cz1 z (f1.out.drew) (TZ.out.drew) hzl)
          have HCL : Hid (∀ v, Hid (Below v1.heap.size v1 v) → v.cell? ⟨w.heap.size, 3, none⟩ = some (.int .i64 x.k) ∧ v.cell? ⟨w.heap.size, 4, none⟩ = some (.int .i64 (jn : Int)) ∧ v.cell? ⟨w.heap.size, 5, none⟩ = some (.int .i64 (jm : Int)) ∧ v.cell? ⟨bV, oV + jn, none⟩ = some (.slice (some ⟨bT, oT, none⟩) Tn.length cn) ∧ v.cell? ⟨bV, oV + jm, none⟩ = some (.slice Am Tm.length cm) ∧ v.cell? ⟨bT, oT, none⟩ = some (.int .i64 kt)) := Lib.hid fun v hb => by
            obtain ⟨q2, q3, q4, q5, q6, q7, q8, qz, qv, qt⟩ := HC.out v (ext_trans k1.out hb.out)
            exact ⟨q3, q4, q5, q6, q7, q8⟩
          go_wp2_with fail
          go_region_held3 (fun v => v.cell? ⟨w.heap.size, 3, none⟩ = some (.int .i64 x.k) ∧ v.cell? ⟨w.heap.size, 4, none⟩ = some (.int .i64 (jn : Int)) ∧ v.cell? ⟨w.heap.size, 5, none⟩ = some (.int .i64 (jm : Int)) ∧ v.cell? ⟨bV, oV + jn, none⟩ = some (.slice (some ⟨bT, oT, none⟩) Tn.length cn) ∧ v.cell? ⟨bV, oV + jm, none⟩ = some (.slice Am Tm.length cm) ∧ v.cell? ⟨bT, oT, none⟩ = some (.int .i64 kt))
            (first
              | exact HCL.out _ (Lib.hid (Below.refl _ _).drew)
              | exact HCL.out _ (Lib.hid (Below.refl _ _))
              | exact HCL.out _ k2)
            (first
              | (go_at_call 67; (with_reducible refine HSM2.out.mono ?_); rintro e v2 ⟨rfl, f2, g2⟩; have k2 := Lib.hid (ext_trans (Below.refl _ _).drew g2); have F2 := Lib.hid f2; clear f2 g2))
          all_goals
            go_wp2_with fail
            go_ret
            exact ⟨ret_bool (by rw [HH.out, HKB.out]; rfl), F2.out⟩
end Go.Proofs.Ytblfeokjlecgkaa

/- A row of types among the arguments. -/
namespace Go.Proofs.Ytblfeokjlecgkaa
open Go.ChangeShapes Go.WideShapes Go.ChangeAt Go.WideMaps Go.WideElems Go.RowKit Go.Deep
section
variable {H : Type} {enc : TypeId × Value → H} {W : World} {base : Nat} {d : DataW H} {p : List MemPlace} {v : Value} {fuel : Nat} {cs : List Value} {X : DataW H × List MemPlace}

theorem open_tys0 (hf : DataW.trod enc Try.prog W 0 (fun _ => true) true fuel 40 cs = some X) :
    ∃ (V : Option Addr) (vs : List (Option Addr × Nat × Nat)) (xss : List (List Nd)) (c : Nat), cs = [.slice V vs.length c] ∧ ReadS W W.heap.size V vs ∧ Sls W W.heap.size vs xss ∧ vs.length ≤ c ∧ vs.length ≤ 9223372036854775807 ∧
      (∀ xs ∈ xss, xs.length ≤ 9223372036854775807 ∧ ∀ x ∈ xs, x.Ok) ∧ (∀ (i : Nat) (v : Option Addr × Nat × Nat), vs[i]? = some v → v.2.1 ≤ v.2.2) := by
  rcases open_slice1 Try.underlying40 tyCells hf with ⟨hcs, _⟩ | ⟨a, len, cap, m, n, U, D, Pl, hcs, _, hl, hcm, hm, _, hel⟩
  · exact ⟨none, [], [], 0, hcs, ReadL.nil, ⟨rfl, fun i v xs hv => by simp at hv⟩, Nat.le_refl _, by simp, by simp, by simp⟩
  · simp only [if_true] at hm
    subst hm
    have hty : ∀ i, i < len → ∃ q : (Option Addr × Nat × Nat) × List Nd, U i = .slice q.1.1 q.1.2.1 q.1.2.2 ∧ q.1.2.1 = q.2.length ∧ TyA W W.heap.size q.1.1 q.2 ∧ q.2.length ≤ q.1.2.2 ∧ q.2.length ≤ 9223372036854775807 ∧ ∀ x ∈ q.2, x.Ok := fun i hi => by
      obtain ⟨A, xs, c, h1, h2, h3, h4, h5⟩ := open_ty0 (hel i (by omega)).2
      exact ⟨((A, xs.length, c), xs), by simpa using h1, rfl, h2, h3, h4, h5⟩
    obtain ⟨f, hf2⟩ : ∃ f : Nat → (Option Addr × Nat × Nat) × List Nd, ∀ i, i < len → U i = .slice (f i).1.1 (f i).1.2.1 (f i).1.2.2 ∧ (f i).1.2.1 = (f i).2.length ∧ TyA W W.heap.size (f i).1.1 (f i).2 ∧ (f i).2.length ≤ (f i).1.2.2 ∧ (f i).2.length ≤ 9223372036854775807 ∧ ∀ x ∈ (f i).2, x.Ok :=
      ⟨fun i => if h : i < len then Classical.choose (hty i h) else ((none, 0, 0), []), fun i hi => by
        simp only [dif_pos hi]
        exact Classical.choose_spec (hty i hi)⟩
    have hget : ∀ {β : Type} (g : Nat → β) i x, ((List.range len).map g)[i]? = some x → i < len ∧ x = g i := fun g i x hx => by
      have hi : i < len := by have := getq_lt hx; simpa using this
      rw [List.getElem?_map, List.getElem?_range hi] at hx
      injection hx with hx
      exact ⟨hi, hx.symm⟩
    have hlen : ((List.range len).map fun i => (f i).1).length = len := by simp
    refine ⟨some a, (List.range len).map fun i => (f i).1, (List.range len).map fun i => (f i).2, m, by rw [hlen]; exact hcs, fun hne => ?_, ⟨by simp, fun i v xs hv hx => ?_⟩, by rw [hlen]; exact hl, by rw [hlen]; unfold maxLen at hcm; omega, fun xs hx => ?_, fun i v hv => ?_⟩
    · have hn : 0 < len := by
        rcases Nat.eq_zero_or_pos len with h | h
        · subst h; exact absurd rfl hne
        · exact h
      have h0 := (hel 0 (by omega)).1
      obtain ⟨b, off, spot⟩ := a
      have hspot : spot = none := by simpa [Addr.add] using World.cell?_spot h0
      subst hspot
      simp only [add_plain] at hel
      refine ⟨b, off, rfl, World.block_lt_of_cell? W _ (hel 0 (by omega)).1, fun i x hx j u hu => ?_⟩
      obtain ⟨hi, rfl⟩ := hget _ i x hx
      have hj : j = 0 := by have := getq_lt hu; rw [encS_len] at this; omega
      subst hj
      simp [encS] at hu
      subst hu
      rw [Nat.mul_one, Nat.add_zero, (hel i (by omega)).1, (hf2 i hi).1]
    · obtain ⟨hi, rfl⟩ := hget _ i v hv
      obtain ⟨_, rfl⟩ := hget _ i xs hx
      exact ⟨(hf2 i hi).2.1, (hf2 i hi).2.2.1⟩
    · obtain ⟨i, hi, rfl⟩ := List.mem_map.1 hx
      have := hf2 i (List.mem_range.1 hi)
      exact ⟨this.2.2.2.2.1, this.2.2.2.2.2⟩
    · obtain ⟨hi, rfl⟩ := hget _ i v hv
      have := hf2 i hi
      show (f i).1.2.1 ≤ _
      rw [this.2.1]
      exact this.2.2.2.1


set_option maxRecDepth 100000 in
theorem open_tys (hv : Value.okWide Try.prog W .any base 40 v) (h : DataW.Trod enc Try.prog W 0 (fun _ => true) true 40 v d p) :
    ∃ (V : Option Addr) (vs : List (Option Addr × Nat × Nat)) (xss : List (List Nd)) (c : Nat), v = .slice V vs.length c ∧ ReadS W W.heap.size V vs ∧ Sls W W.heap.size vs xss ∧ vs.length ≤ c ∧ vs.length ≤ 9223372036854775807 ∧
      (∀ xs ∈ xss, xs.length ≤ 9223372036854775807 ∧ ∀ x ∈ xs, x.Ok) ∧ (∀ (i : Nat) (v : Option Addr × Nat × Nat), vs[i]? = some v → v.2.1 ≤ v.2.2) := by
  obtain ⟨a0, n0, c0, rfl⟩ := okWide_slice Try.underlying40 hv
  obtain ⟨fuel, hf⟩ := h
  obtain ⟨V, vs, xss, c, hcs, h1⟩ := open_tys0 hf
  simp only [Value.cells, List.cons.injEq, and_true] at hcs
  exact ⟨V, vs, xss, c, hcs, h1⟩
end
end Go.Proofs.Ytblfeokjlecgkaa
