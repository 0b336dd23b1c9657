/- UnifyOpens, walked. -/
import Derived.Test.YtblfeokjlecgkaaQ02
namespace Go.Proofs.Ytblfeokjlecgkaa
open Go.RowKit

/-- 'Var', on a good solver. -/
theorem var_c {U : List Lb} {s m m0 : Nat} {S : Kn} {W : World} (h : SolG U s m m0 W S) (h1 : S.m + 1 ≤ 100000) :
    Calls Try.prog 34 #[pk s] W fun e w' => ∃ A' c', e = .returned (.slice A' 1 c') ∧ TyA w' w'.heap.size A' [⟨8, ByteArray.empty, S.m⟩] ∧ Fr (SX s m) W w' ∧ SolG U s m m0 w' (S.up (S.m + 1)) := by
  refine (uVar_any s m m0 S W h.sol h.kg.nn.m (by omega)).mono ?_
  rintro e w' ⟨A', c', he, ho, hf, hs⟩
  exact ⟨A', c', he, OwnL.tyA ho, hf, ⟨hs _ rfl rfl, h.kg.up (by omega), h.hU, h.f1, by show (m0 : Int) ≤ S.m + 1; have := h.fm; omega, h.hL⟩⟩
/-- 'Open', on a good solver. -/
theorem open_c {U : List Lb} {s m m0 : Nat} {S : Kn} {W : World} {k : Int} {l : Lb} {v u : Int} {C : Option Addr} {cc : Nat} (h : SolG U s m m0 W S) (og : OpnOk U S k l v u) (hC : TyA W W.heap.size C [⟨8, ByteArray.empty, u⟩]) (h1 : S.m + 1 ≤ 100000) :
    Calls Try.prog 37 #[pk s, .int .i64 k, .string l, .slice C 1 cc] W fun e w' => ∃ A' c', e = .returned (.slice A' 3 c') ∧ TyA w' w'.heap.size A' (openL k l ⟨8, ByteArray.empty, u⟩ S.m) ∧ Fr (SX s m) W w' ∧ SolG U s m m0 w' (S.freshT [l]) := by
  refine (uOpen_any s m m0 S k l C cc ⟨8, ByteArray.empty, u⟩ W h.sol hC h.kg.nn.m (by omega)).mono ?_
  rintro e w' ⟨A', c', he, ho, hf, hs⟩
  refine ⟨A', c', he, OwnL.tyA ho, hf, ⟨hs _ rfl rfl, (openG_tg og h.kg).1, h.hU, h.f1, by show (m0 : Int) ≤ S.m + 1; have := h.fm; omega, fun n hn => ?_⟩⟩
  show (if n = S.m then some [l] else S.L n) = none
  rw [if_neg (by have := h.fm; omega)]
  exact h.hL n hn
/-- 'Agree', of a Var and an open row. -/
theorem agr_c {U : List Lb} {s m m0 : Nat} {S : Kn} {W : World} {k : Int} {l : Lb} {v u : Int} {C D : Option Addr} {cc cd : Nat} (h : SolG U s m m0 W (S.freshT [l])) (hk : KG U S) (og : OpnOk U S k l v u) (hC : TyA W W.heap.size C [⟨8, ByteArray.empty, v⟩]) (hD : TyA W W.heap.size D (openL k l ⟨8, ByteArray.empty, u⟩ S.m)) (h1 : S.m + (S.un : Int) ≤ 100000) :
    Calls Try.prog 33 #[pk s, .slice C 1 cc, .slice D 3 cd] W (AgrPost U s m m0 (S.freshT [l]) (varT v) (openT k l u S.m) W) := by
  obtain ⟨_, ht1, ht2⟩ := openG_tg og hk
  obtain ⟨c1, c2, c3, c4, c5, c6, c7⟩ := og
  have hmk := hk.nn.m
  have hun := un_freshT hk.inv hk.nn [l]
  obtain ⟨v1, v2⟩ := var_gd c4
  obtain ⟨o1, o2⟩ := open_gd (q := S.m) c1 c2 c6 hmk
  have d1 := dyn_of v1
  have d2 := dyn_of o1
  have h := uAgree_any U s m m0 (S.freshT [l]) W C D cc cd [⟨8, ByteArray.empty, v⟩] (openL k l ⟨8, ByteArray.empty, u⟩ S.m) h hC hD (by simp) (by simp [openL]) v1 o1 (by rw [v2]; exact ht1) (by rw [o2]; exact ht2) (by
    have e1 : (openL k l ⟨8, ByteArray.empty, u⟩ S.m).length = 3 := rfl
    rw [e1] at d2
    simp only [List.length_singleton] at d1
    have e2 : (S.freshT [l]).m = S.m + 1 := rfl
    omega)
  rw [v2, o2] at h
  exact h

set_option maxRecDepth 100000 in
set_option maxHeartbeats 8000000 in
theorem unifyOpens_law (k : Int) (l0 l1 : Lb) (P : Option Addr) (cp : Nat) (t : List Nd) (W : World) (hl0 : l0.size ≤ 9223372036854775807) (hl1 : l1.size ≤ 9223372036854775807)
    (hP : TyA W W.heap.size P t) (hP1 : t.length ≤ cp) (hP2 : t.length ≤ 9223372036854775807) (hP3 : ∀ x ∈ t, x.Ok) :
    Calls Try.prog 9 #[.int .i64 k, .agg #[.string l0, .string l1], .slice P t.length cp] W fun e w' => e = .returned (.bool true) ∧ Below W.heap.size W w' := by
  have hbx := Lib.hid (ext_alloc (Below.refl W.heap.size W) (.cells #[.string l0, .string l1] 59))
  have HC : Hid (∀ v, Below (W.alloc (.cells #[.string l0, .string l1] 59)).heap.size (W.alloc (.cells #[.string l0, .string l1] 59)) v → v.cell? ⟨W.heap.size, 0, none⟩ = some (.string l0) ∧ v.cell? ⟨W.heap.size, 1, none⟩ = some (.string l1) ∧ W.heap.size < v.heap.size) := Lib.hid fun v hv => by
    have h := (hv.block W.heap.size (by simp)).trans (heap_alloc_new W (.cells #[.string l0, .string l1] 59))
    refine ⟨?_, ?_, (Array.getElem?_eq_some_iff.1 h).1⟩ <;> simp [World.cell?, h]
  have HP := Lib.hid (And.intro hP (And.intro hP1 (And.intro hP2 hP3)))
  have hp := Lib.hid (plain07_any P cp t 30 _ ((hP.below hbx.out).more hbx.out.size) hP2 fun y hy => (hP3 y hy).s1)
  have HAL : Hid (∀ v, Below W.heap.size W v → Calls Try.prog 16 #[] v fun e w' => e = .returned (.bool true) ∧ Below W.heap.size W w') := Lib.hid fun v hv => (alive13_any v).mono fun e w' h => ⟨h.1, ext_trans hv h.2⟩
  clear hP hP1 hP3
  go_enter Try.func9, Try.ntmps9
  have hk : ((k != 6) = true ∧ (k != 7) = true) ∨ (((k != 6) = false ∨ ((k != 6) = true ∧ (k != 7) = false)) ∧ isRowB k = true) := by
    unfold isRowB
    rw [bne, bne]
    cases (k == 6) <;> cases (k == 7) <;> simp
  rcases hk with ⟨h6, h7⟩ | ⟨h67, hr⟩
  · go_wp2_with fail
    refine (HAL.out _ hbx.out).mono ?_
    rintro e w2 ⟨rfl, hb⟩
    go_wp2_with fail
    go_ret
    exact ⟨rfl, hb⟩
  have HR := Lib.hid hr
  clear hr
  by_cases z0 : l0.size ≤ 50
  case neg =>
    rcases h67 with h6 | ⟨h6, h7⟩ <;>
    · go_wp2_with fail
      refine (HAL.out _ hbx.out).mono ?_
      rintro e w2 ⟨rfl, hb⟩
      go_wp2_with fail
      go_ret
      exact ⟨rfl, hb⟩
  by_cases z1 : l1.size ≤ 50
  case neg =>
    rcases h67 with h6 | ⟨h6, h7⟩ <;>
    · go_wp2_with fail
      refine (HAL.out _ hbx.out).mono ?_
      rintro e w2 ⟨rfl, hb⟩
      go_wp2_with fail
      go_ret
      exact ⟨rfl, hb⟩
  rcases h67 with h6 | ⟨h6, h7⟩
  all_goals
    go_wp2_with fail
    refine hp.out.mono ?_
    clear hp
    rintro e w1 ⟨rfl, hb1⟩
    have B1 := Lib.hid (And.intro hb1 (ext_trans hbx.out hb1))
    clear hb1
    cases hpa : plain07B t 30 with
    | false =>
      clear hpa
      go_wp2_with fail
      refine (HAL.out _ B1.out.2).mono ?_
      rintro e w2 ⟨rfl, hb⟩
      go_wp2_with fail
      go_ret
      exact ⟨rfl, hb⟩
    | true =>
      have HPA := Lib.hid (plain07_parts hpa)
      clear hpa
      have hst := Lib.hid (rStatic_any P cp w1.heap.size t w1 ((HP.out.1.below B1.out.2).more B1.out.2.size) HP.out.2.2.1)
      go_wp2_with fail
      refine hst.out.mono ?_
      clear hst
      rintro e w2 ⟨rfl, rfl⟩
      cases hsb : staticB t with
      | false =>
        clear hsb
        go_wp2_with fail
        refine (HAL.out _ B1.out.2).mono ?_
        rintro e w2 ⟨rfl, hb⟩
        go_wp2_with fail
        go_ret
        exact ⟨rfl, hb⟩
      | true =>
        have HSB : Hid (∀ x ∈ t, x.k ≠ 0) := Lib.hid (by
          unfold staticB at hsb
          rw [List.all_eq_true] at hsb
          intro x hx e
          have := hsb x hx
          rw [e] at this
          cases this)
        clear hsb
        have HRT : Hid (∀ (W2 : World) (l : Lb), Below W.heap.size W W2 → l.size ≤ 50 → Calls Try.prog 28 #[.slice (some ⟨W2.heap.size, 0, none⟩) 2 2] (W2.alloc (.cells #[.int .i64 k, .string ⟨#[]⟩, .int .i64 1, .int .i64 1, .string l, .int .i64 0] 48)) (fun e w' => e = .returned (.bool (rRightB [⟨k, ByteArray.empty, 1⟩, ⟨1, l, 0⟩])) ∧ Below W2.heap.size W2 w')) := Lib.hid fun W2 l hW hls => by
          have h0 := tyA_newL W2 [⟨k, ByteArray.empty, 1⟩, ⟨1, l, 0⟩] #[.int .i64 k, .string ⟨#[]⟩, .int .i64 1, .int .i64 1, .string l, .int .i64 0] rfl
          refine (rRight_any (some ⟨W2.heap.size, 0, none⟩) 2 [⟨k, ByteArray.empty, 1⟩, ⟨1, l, 0⟩] _ (h0.more (by simp)) (by simp) (fun y hy => ?_)).mono ?_
          · simp only [List.mem_cons, List.not_mem_nil, or_false] at hy
            rcases hy with rfl | rfl
            · show ByteArray.empty.size ≤ _
              simp
            · show l.size ≤ _
              omega
          · rintro e w' ⟨he, hb⟩
            exact ⟨he, ext_trans (ext_alloc (Below.refl _ _) _) hb⟩
        go_wp2_with fail
        go_loopw [7] (fun s7 wr => Hid (Below (W.alloc (.cells #[.string l0, .string l1] 59)).heap.size (W.alloc (.cells #[.string l0, .string l1] 59)) wr) ∧ (s7 = .int .i64 0 ∨ (s7 = .int .i64 1 ∧ Hid (rRightB [⟨k, ByteArray.empty, 1⟩, ⟨1, l0, 0⟩] = true)) ∨ (s7 = .int .i64 2 ∧ Hid (rRightB [⟨k, ByteArray.empty, 1⟩, ⟨1, l0, 0⟩] = true ∧ rRightB [⟨k, ByteArray.empty, 1⟩, ⟨1, l1, 0⟩] = true)))) (fun s7 _ => 2 - (intOf s7).toNat)
        case atStart => exact ⟨Lib.hid B1.out.1, .inl rfl⟩
        case round =>
          obtain ⟨M, hcase⟩ := hrel
          obtain ⟨q0, q1, qz⟩ := HC.out _ M.out
          rcases hcase with rfl | ⟨rfl, H0⟩ | ⟨rfl, H01⟩
          · go_wp2_with fail
            refine (HRT.out wr l0 (ext_trans hbx.out M.out) z0).mono ?_
            rintro e wa ⟨rfl, hba⟩
            have Ba := Lib.hid (ext_trans M.out hba)
            cases hrr : rRightB [⟨k, ByteArray.empty, 1⟩, ⟨1, l0, 0⟩] with
            | false =>
              clear hrr
              go_wp2_with fail
              refine (HAL.out _ (ext_trans hbx.out Ba.out)).mono ?_
              rintro e w2 ⟨rfl, hb⟩
              go_wp2_with fail
              go_ret
              exact ⟨rfl, hb⟩
            | true =>
              have HRR := Lib.hid hrr
              clear hrr
              go_wp2_with fail
              go_roundw
              case rel => exact ⟨Ba, .inr (.inl ⟨rfl, HRR⟩)⟩
              case measure => simp [intOf]
          · go_wp2_with fail
            refine (HRT.out wr l1 (ext_trans hbx.out M.out) z1).mono ?_
            rintro e wa ⟨rfl, hba⟩
            have Ba := Lib.hid (ext_trans M.out hba)
            cases hrr : rRightB [⟨k, ByteArray.empty, 1⟩, ⟨1, l1, 0⟩] with
            | false =>
              clear hrr
              go_wp2_with fail
              refine (HAL.out _ (ext_trans hbx.out Ba.out)).mono ?_
              rintro e w2 ⟨rfl, hb⟩
              go_wp2_with fail
              go_ret
              exact ⟨rfl, hb⟩
            | true =>
              have HRR := Lib.hid hrr
              clear hrr
              go_wp2_with fail
              go_roundw
              case rel => exact ⟨Ba, .inr (.inr ⟨rfl, Lib.hid ⟨H0.out, HRR.out⟩⟩)⟩
              case measure => simp [intOf]
          · have HL : Hid (rowLabelB k l0 = true ∧ rowLabelB k l1 = true) := Lib.hid ⟨row_label HR.out H01.out.1, row_label HR.out H01.out.2⟩
            clear q0 q1 qz H01
            obtain ⟨U, hUd⟩ : ∃ U, U = (lA :: lB :: l0 :: l1 :: t.map Nd.s) := ⟨_, rfl⟩
            have hU2 : U.length ≤ 100000 := by
              have h1 := HPA.out.1
              rw [hUd]
              simp only [List.length_cons, List.length_map]
              omega
            have HUA : Hid (lA ∈ U ∧ lB ∈ U ∧ l0 ∈ U ∧ l1 ∈ U) := Lib.hid ⟨by rw [hUd]; simp, by rw [hUd]; simp, by rw [hUd]; simp, by rw [hUd]; simp⟩
            have HTD : Hid (Told U 0 (utT t)) := Lib.hid (plain_told HUA.out.1 HUA.out.2.1 (fun x hx => by rw [hUd]; simp only [List.mem_cons]; exact .inr (.inr (.inr (.inr (List.mem_map.2 ⟨x, hx, rfl⟩))))) HPA.out.2.1 HPA.out.2.2)
            have HGT := Lib.hid (gd_of HPA.out.2.1)
            have hl30 : t.length ≤ 30 := by have := HPA.out.1; omega
            clear hUd
            go_wp2_with fail
            refine (new_any 1 wr).mono ?_
            rintro e w4 ⟨s, m, rfl, y1, y2, y3, hst, hmap, hb4⟩
            have hg0 : SolG U s m 1 w4 (Kn.zero 1) := solG_new hU2 (by omega) y3 hst hmap
            have HS0 := Lib.hid hg0
            have HFR : Hid (∀ v, Fr (SX s m) w4 v → Below (W.alloc (.cells #[.string l0, .string l1] 59)).heap.size (W.alloc (.cells #[.string l0, .string l1] 59)) v) := Lib.hid fun v hf => by
              have h1 := M.out.size
              exact fr_new (by omega) (by omega) (ext_trans M.out hb4) hf
            clear y1 y2 y3 hst hmap hb4 hg0
            have HW5 : Hid (Below w4.heap.size w4 (w4.alloc (.cells #[.int .i64 8, .string ⟨#[]⟩, .int .i64 0] 48))) := Lib.hid (ext_alloc (Below.refl _ _) _)
            have HTV0 : Hid (TyA (w4.alloc (.cells #[.int .i64 8, .string ⟨#[]⟩, .int .i64 0] 48)) (w4.alloc (.cells #[.int .i64 8, .string ⟨#[]⟩, .int .i64 0] 48)).heap.size (some ⟨w4.heap.size, 0, none⟩) [⟨8, ByteArray.empty, 0⟩]) := Lib.hid ((tyA_newL w4 [⟨8, ByteArray.empty, 0⟩] #[.int .i64 8, .string ⟨#[]⟩, .int .i64 0] rfl).more (by simp))
            unfold pk
            go_wp2_with fail
            generalize hW5 : w4.alloc (.cells #[.int .i64 8, .string ⟨#[]⟩, .int .i64 0] 48) = w5 at *
            clear hW5
            have HS5 : Hid (SolG U s m 1 w5 (Kn.zero 1)) := Lib.hid (HS0.out.bel HW5.out)
            have F5 : Hid (∀ v, Fr (SX s m) w5 v → Below (W.alloc (.cells #[.string l0, .string l1] 59)).heap.size (W.alloc (.cells #[.string l0, .string l1] 59)) v) := Lib.hid fun v hf => HFR.out v ((Fr.below HW5.out).trans hf)
            have HK : Hid (∀ v, Fr (SX s m) w5 v → Hid (Fr (SX s m) w5 v) ∧ v.cell? ⟨W.heap.size, 0, none⟩ = some (.string l0) ∧ v.cell? ⟨W.heap.size, 1, none⟩ = some (.string l1)) := Lib.hid fun v hv => by
              obtain ⟨a, b, _⟩ := HC.out v (F5.out v hv)
              exact ⟨Lib.hid hv, a, b⟩
            have HTV : Hid (∀ v, Fr (SX s m) w5 v → TyA v v.heap.size (some ⟨w4.heap.size, 0, none⟩) [⟨8, ByteArray.empty, 0⟩]) := Lib.hid fun v hv => (HTV0.out.past HS5.out.offR hv (Nat.le_refl _)).more hv.size
            have og := op0_ok HR.out HL.out.1 HUA.out.2.2.1
            have HV1 : Hid (∀ v, SolG U s m 1 v (Kn.zero 1) → Fr (SX s m) w5 v → Calls Try.prog 34 #[.pointer (some ⟨s, 0, none⟩)] v (fun e w' => ∃ A' c', e = .returned (.slice A' 1 c') ∧ Hid (TyA w' w'.heap.size A' [⟨8, ByteArray.empty, 1⟩] ∧ SolG U s m 1 w' opS0) ∧ Fr (SX s m) w5 w')) := Lib.hid fun v hs hf => by
              refine (var_c hs (by show (1 : Int) + 1 ≤ _; omega)).mono ?_
              rintro e w' ⟨A', c', he, h1, h2, h3⟩
              exact ⟨A', c', he, Lib.hid ⟨h1, h3⟩, hf.trans h2⟩
            have HO1 : Hid (∀ v A c, Hid (TyA v v.heap.size A [⟨8, ByteArray.empty, 1⟩] ∧ SolG U s m 1 v opS0) → Fr (SX s m) w5 v → Calls Try.prog 37 #[.pointer (some ⟨s, 0, none⟩), .int .i64 k, .string l0, .slice A 1 c] v (fun e w' => ∃ A' c', e = .returned (.slice A' 3 c') ∧ Hid (TyA w' w'.heap.size A' (openL k l0 ⟨8, ByteArray.empty, 1⟩ 2) ∧ SolG U s m 1 w' (opS0.freshT [l0])) ∧ Fr (SX s m) w5 w')) := Lib.hid fun v A c hs hf => by
              refine (open_c hs.out.2 og hs.out.1 (by show (2 : Int) + 1 ≤ _; omega)).mono ?_
              rintro e w' ⟨A', c', he, h1, h2, h3⟩
              exact ⟨A', c', he, Lib.hid ⟨h1, h3⟩, hf.trans h2⟩
            have HA1 : Hid (∀ v A c, Hid (TyA v v.heap.size A (openL k l0 ⟨8, ByteArray.empty, 1⟩ 2) ∧ SolG U s m 1 v (opS0.freshT [l0])) → Fr (SX s m) w5 v → Calls Try.prog 33 #[.pointer (some ⟨s, 0, none⟩), .slice (some ⟨w4.heap.size, 0, none⟩) 1 1, .slice A 3 c] v (fun e w' => e = .returned (.int .i64 0) ∧ Fr (SX s m) w5 w' ∧ ∃ S1, Hid (Op1 U k l0 S1 ∧ SolG U s m 1 w' S1))) := Lib.hid fun v A c hs hf => by
              refine (agr_c hs.out.2 (opS0_kg U) og (HTV.out v hf) hs.out.1 (by have := opS0_un; show (2 : Int) + _ ≤ _; omega)).mono ?_
              intro e w' h
              obtain ⟨he, h1, S1, h2, h3⟩ := op1_of HR.out HL.out.1 HUA.out.2.2.1 h
              exact ⟨he, hf.trans h1, S1, Lib.hid ⟨h2, h3⟩⟩
            have HV2 : Hid (∀ v S1, Hid (Op1 U k l0 S1 ∧ SolG U s m 1 v S1) → Fr (SX s m) w5 v → Calls Try.prog 34 #[.pointer (some ⟨s, 0, none⟩)] v (fun e w' => ∃ A' c', e = .returned (.slice A' 1 c') ∧ Hid (TyA w' w'.heap.size A' [⟨8, ByteArray.empty, S1.m⟩] ∧ Op1 U k l0 S1 ∧ SolG U s m 1 w' (S1.up (S1.m + 1))) ∧ Fr (SX s m) w5 w')) := Lib.hid fun v S1 hs hf => by
              refine (var_c hs.out.2 (by have := hs.out.1.m; omega)).mono ?_
              rintro e w' ⟨A', c', he, h1, h2, h3⟩
              exact ⟨A', c', he, Lib.hid ⟨h1, hs.out.1, h3⟩, hf.trans h2⟩
            have HO2 : Hid (∀ v S1 A c, Hid (TyA v v.heap.size A [⟨8, ByteArray.empty, S1.m⟩] ∧ Op1 U k l0 S1 ∧ SolG U s m 1 v (S1.up (S1.m + 1))) → Fr (SX s m) w5 v → Calls Try.prog 37 #[.pointer (some ⟨s, 0, none⟩), .int .i64 k, .string l1, .slice A 1 c] v (fun e w' => ∃ A' c', e = .returned (.slice A' 3 c') ∧ Hid (TyA w' w'.heap.size A' (openL k l1 ⟨8, ByteArray.empty, S1.m⟩ (S1.m + 1)) ∧ Op1 U k l0 S1 ∧ SolG U s m 1 w' ((S1.up (S1.m + 1)).freshT [l1])) ∧ Fr (SX s m) w5 w')) := Lib.hid fun v S1 A c hs hf => by
              refine (open_c hs.out.2.2 (hs.out.2.1.ok HR.out HL.out.2 HUA.out.2.2.2) hs.out.1 (by have := hs.out.2.1.m; show S1.m + 1 + 1 ≤ _; omega)).mono ?_
              rintro e w' ⟨A', c', he, h1, h2, h3⟩
              exact ⟨A', c', he, Lib.hid ⟨h1, hs.out.2.1, h3⟩, hf.trans h2⟩
            have HA2 : Hid (∀ v S1 A c, Hid (TyA v v.heap.size A (openL k l1 ⟨8, ByteArray.empty, S1.m⟩ (S1.m + 1)) ∧ Op1 U k l0 S1 ∧ SolG U s m 1 v ((S1.up (S1.m + 1)).freshT [l1])) → Fr (SX s m) w5 v → Calls Try.prog 33 #[.pointer (some ⟨s, 0, none⟩), .slice (some ⟨w4.heap.size, 0, none⟩) 1 1, .slice A 3 c] v (fun e w' => e = .returned (.int .i64 0) ∧ Fr (SX s m) w5 w' ∧ ∃ S1 S2, Hid (Op1 U k l0 S1 ∧ Op2 U k l1 S1 S2 ∧ SolG U s m 1 w' S2))) := Lib.hid fun v S1 A c hs hf => by
              refine (agr_c hs.out.2.2 (hs.out.2.1.kg.up (by omega)) (hs.out.2.1.ok HR.out HL.out.2 HUA.out.2.2.2) (HTV.out v hf) hs.out.1 (by
                have h1 := hs.out.2.1.m
                have h2 := un_up hs.out.2.1.kg.inv (by have := hs.out.2.1.ge; omega)
                show S1.m + 1 + _ ≤ _
                omega)).mono ?_
              intro e w' h
              obtain ⟨he, h1, S2, h2, h3⟩ := op2_of hs.out.2.1 HR.out HL.out.2 HUA.out.2.2.2 h
              exact ⟨he, hf.trans h1, S1, S2, Lib.hid ⟨hs.out.2.1, h2, h3⟩⟩
            clear og
            go_region_held3 (fun v => Hid (Fr (SX s m) w5 v) ∧ v.cell? ⟨W.heap.size, 0, none⟩ = some (.string l0) ∧ v.cell? ⟨W.heap.size, 1, none⟩ = some (.string l1))
              (first
                | exact HK.out _ (Fr.below (Below.refl _ _).drew)
                | exact HK.out _ (Fr.refl _ _)
                | exact HK.out _ f1.out
                | exact HK.out _ f2.out
                | exact HK.out _ f3.out
                | exact HK.out _ f4.out
                | exact HK.out _ f5.out
                | exact HK.out _ f6.out)
              (first
                | (go_at_call 33; (with_reducible refine (HA2.out _ _ _ _ x5 f5.out).mono ?_); rintro e v6 ⟨rfl, g6, S1', S2', x6⟩; have f6 := Lib.hid g6; clear g6)
                | (go_at_call 37; (with_reducible refine (HO2.out _ _ _ _ x4 f4.out).mono ?_); rintro e v5 ⟨A5, c5, rfl, x5, g5⟩; have f5 := Lib.hid g5; clear g5)
                | (go_at_call 34; (with_reducible refine (HV2.out _ _ x3 f3.out).mono ?_); rintro e v4 ⟨A4, c4, rfl, x4, g4⟩; have f4 := Lib.hid g4; clear g4)
                | (go_at_call 33; (with_reducible refine (HA1.out _ _ _ x2 f2.out).mono ?_); rintro e v3 ⟨rfl, g3, S1, x3⟩; have f3 := Lib.hid g3; clear g3)
                | (go_at_call 37; (with_reducible refine (HO1.out _ _ _ x1 f1.out).mono ?_); rintro e v2 ⟨A2, c2, rfl, x2, g2⟩; have f2 := Lib.hid g2; clear g2)
                | (go_at_call 34; (with_reducible refine (HV1.out _ ?_ ?_).mono ?_); (first | exact HS5.out.bel (Below.refl _ _).drew | exact HS5.out); (first | exact Fr.below (Below.refl _ _).drew | exact Fr.refl _ _); rintro e v1 ⟨A1, c1, rfl, x1, g1⟩; have f1 := Lib.hid g1; clear g1))
            all_goals
              clear HV1 HO1 HA1 HV2 HO2 HA2
              obtain ⟨cs, q, e1, e2, e3⟩ := op2_known x6.out.1 x6.out.2.1 HR.out
              have HKN : Hid (∀ n, cs.length + 2 = n → Calls Try.prog 24 #[.pointer (some ⟨s, 0, none⟩), .slice (some ⟨w4.heap.size, 0, none⟩) 1 1] v6 (fun e w' => ∃ A' c', e = .returned (.slice A' n c') ∧ Hid (TyA w' w'.heap.size A' (⟨k, ByteArray.empty, (cs.length + 1 : Nat)⟩ :: (cs ++ [⟨9, ByteArray.empty, q⟩]))) ∧ Hid (Below v6.heap.size v6 w'))) := Lib.hid fun n hn => by
                obtain ⟨g1, g2⟩ := var_gd (u := 0) (by omega)
                have hlen : (flT ByteArray.empty (S2'.σ.v 0)).length = n := by
                  rw [e1]
                  simp only [List.length_cons, List.length_append, List.length_nil]
                  omega
                have hcs : cs.length ≤ 2 := by rw [e2]; split <;> omega
                have hk2 := uKnown_any U s m 1 S2' v6 (some ⟨w4.heap.size, 0, none⟩) 1 [⟨8, ByteArray.empty, 0⟩] x6.out.2.2 (HTV.out v6 f6.out) (by simp) g1 (by rw [g2]; exact x6.out.2.1.kg.var (x6.out.2.1.L 0 (by omega)) (by omega) (by have := x6.out.2.1.ge; omega)) (by
                  rw [g2, inst_var]
                  show (flT ByteArray.empty (S2'.σ.v 0)).length ≤ _
                  omega)
                rw [g2, inst_var] at hk2
                refine hk2.mono ?_
                rintro e w' ⟨A', c', rfl, h1, h2⟩
                have h3 : OwnN w' v6.heap.size A' c' (flT ByteArray.empty (S2'.σ.v 0)) := h1
                have h4 := OwnL.tyA h3
                rw [e1] at h4
                refine ⟨A', c', ?_, Lib.hid h4, Lib.hid h2⟩
                show Ending.returned (.slice A' (flT ByteArray.empty (S2'.σ.v 0)).length c') = _
                rw [hlen]
              have HST : Hid (staticB (⟨k, ByteArray.empty, (cs.length + 1 : Nat)⟩ :: (cs ++ [⟨9, ByteArray.empty, q⟩])) = true) := Lib.hid (by rw [← e1]; exact e3)
              have HCS := Lib.hid e2
              have HB6 : Hid (Below W.heap.size W v6) := Lib.hid (ext_trans hbx.out (F5.out _ f6.out))
              have HKF : Hid ((l0.toList == l1.toList) = false → cs.length + 2 = 4) := Lib.hid fun hE => by
                rw [e2, if_neg]
                intro e
                rw [e] at hE
                simp at hE
              have HKT : Hid ((l0.toList == l1.toList) = true → cs.length + 2 = 3) := Lib.hid fun hE => by
                rw [e2, if_pos]
                have h2 := eq_of_beq hE
                rw [ByteArray.toList_eq, ByteArray.toList_eq] at h2
                exact ByteArray.ext (Array.toList_inj.1 h2)
              clear e1 e2 e3
              have HFD : Hid (∀ (v : World) (l : Lb), Below W.heap.size W v → Calls Try.prog 38 #[.slice P t.length cp, .string l] v (fun e w' => ∃ (Z : Option Addr) (n c : Nat) (x : Int), e = .returned (.tuple #[.slice Z n c, .int .i64 x]) ∧ Hid ((x == 0) = (fieldL t l).isSome) ∧ Hid (Below v.heap.size v w'))) := Lib.hid fun v l hv => by
                have h0 : (headNd t).k ≠ 0 := HSB.out _ (by
                  have := HGT.out.1.ne
                  cases t with
                  | nil => exact absurd rfl this
                  | cons x xs => exact List.mem_cons_self ..)
                refine (field_any P cp t l v ((HP.out.1.below hv).more hv.size) HGT.out.1.trw (by omega) HP.out.2.1 h0).mono ?_
                rintro e w' ⟨hb, h⟩
                cases hf : fieldL t l with
                | none =>
                  rw [hf] at h
                  exact ⟨none, 0, 0, 9, h, Lib.hid rfl, Lib.hid hb⟩
                | some z =>
                  rw [hf] at h
                  obtain ⟨A, c, h1, _, _⟩ := h
                  exact ⟨A, _, c, 0, h1, Lib.hid rfl, Lib.hid hb⟩
              cases hE : (l0.toList == l1.toList)
              all_goals
                have HE := Lib.hid hE
                go_wp2_with fail
                first
                  | refine (HKN.out 4 (HKF.out hE)).mono ?_
                  | refine (HKN.out 3 (HKT.out hE)).mono ?_
                rintro e w7 ⟨A7, c7, rfl, t7, b7⟩
                obtain ⟨q0, q1, qz⟩ := HC.out w7 (F5.out _ (f6.out.trans (Fr.below b7.out)))
                have T7 := Lib.hid t7.out
                have hcl : Hid (cs.length = 1 ∨ cs.length = 2) := Lib.hid (by have := HCS.out; split at this <;> omega)
                obtain ⟨b1, o1, rfl, zb, r0, r1, r2⟩ := T7.out.at_ (i := 0) (x := ⟨k, ByteArray.empty, (cs.length + 1 : Nat)⟩) rfl
                simp only [Nat.zero_mul, Nat.add_zero] at r0 r1 r2
                clear r1
                first
                  | (replace r2 : w7.cell? ⟨b1, o1 + 2, none⟩ = some (.int .i64 3) := r2.trans (by have := HKF.out HE.out; show some (Value.int .i64 ((cs.length + 1 : Nat) : Int)) = _; rw [show cs.length = 2 by omega]; rfl)
                     obtain ⟨b3, o3, y3, _, x0, _, _⟩ := T7.out.at_ (i := 3) (x := ⟨9, ByteArray.empty, q⟩) (by have := HKF.out HE.out; show (cs ++ [_])[2]? = _; rw [List.getElem?_append_right (by omega), show cs.length = 2 by omega]; rfl))
                  | (replace r2 : w7.cell? ⟨b1, o1 + 2, none⟩ = some (.int .i64 2) := r2.trans (by have := HKT.out HE.out; show some (Value.int .i64 ((cs.length + 1 : Nat) : Int)) = _; rw [show cs.length = 1 by omega]; rfl)
                     obtain ⟨b3, o3, y3, _, x0, _, _⟩ := T7.out.at_ (i := 2) (x := ⟨9, ByteArray.empty, q⟩) (by have := HKT.out HE.out; show (cs ++ [_])[1]? = _; rw [List.getElem?_append_right (by omega), show cs.length = 1 by omega]; rfl))
                injection y3 with y3
                injection y3 with y3 y4 _
                subst y3 y4
                simp only [Nat.reduceMul] at x0
                go_wp2_with fail
                clear hE r0 r2 x0 zb q0 q1 qz
                have hst := rStatic_any (some ⟨b1, o1, none⟩) c7 w7.heap.size _ w7 T7.out (by
                  have := hcl.out
                  simp only [List.length_cons, List.length_append, List.length_nil]
                  omega)
                rw [HST.out] at hst
                first
                  | rw [show (⟨k, ByteArray.empty, (cs.length + 1 : Nat)⟩ :: (cs ++ [(⟨9, ByteArray.empty, q⟩ : Nd)])).length = 4 by have := HKF.out HE.out; simp only [List.length_cons, List.length_append, List.length_nil]; omega] at hst
                  | rw [show (⟨k, ByteArray.empty, (cs.length + 1 : Nat)⟩ :: (cs ++ [(⟨9, ByteArray.empty, q⟩ : Nd)])).length = 3 by have := HKT.out HE.out; simp only [List.length_cons, List.length_append, List.length_nil]; omega] at hst
                have HST2 := Lib.hid hst
                clear hst
                refine HST2.out.mono ?_
                clear HST2
                rintro e w8 ⟨rfl, rfl⟩
                have F7 := Lib.hid (f6.out.trans (Fr.below b7.out))
                obtain ⟨q0, q1, qz⟩ := HC.out w7 (F5.out _ F7.out)
                go_wp2_with fail
                refine (HFD.out w7 l0 (ext_trans hbx.out (F5.out _ F7.out))).mono ?_
                rintro e w8 ⟨Z8, n8, d8, x8, rfl, H8, B8⟩
                have F8 := Lib.hid (F7.out.trans (Fr.below B8.out))
                clear q0 q1 qz
                obtain ⟨q0, q1, qz⟩ := HC.out w8 (F5.out _ F8.out)
                go_wp2_with fail
                refine (HFD.out w8 l1 (ext_trans hbx.out (F5.out _ F8.out))).mono ?_
                rintro e w9 ⟨Z9, n9, d9, x9, rfl, H9, B9⟩
                have F9 := Lib.hid (F8.out.trans (Fr.below B9.out))
                clear q0 q1 qz
                have HFB : Hid (fitsB t k l0 l1 = ((((headNd t).k == k) && (x8 == 0)) && (x9 == 0))) := Lib.hid (by
                  rw [H8.out, H9.out]
                  unfold fitsB
                  congr 2)
                have HPW : Hid (TyA w9 w9.heap.size P t) := Lib.hid (by
                  have hbW := ext_trans hbx.out (F5.out _ F9.out)
                  exact (HP.out.1.below hbW).more hbW.size)
                have hx0 : t[0]? = some (headNd t) := by
                  have := HGT.out.1.ne
                  cases t with
                  | nil => exact absurd rfl this
                  | cons x xs => rfl
                have hpos : 0 < t.length := getq_lt hx0
                obtain ⟨bp, op, e0, zp, p0, _, _⟩ := HPW.out.at_ hx0
                have HPE := Lib.hid e0
                subst e0
                simp only [Nat.zero_mul, Nat.add_zero] at p0
                clear hx0 HPW
                generalize hkt : (headNd t).k = kt at *
                clear hkt
                go_upto_region 20 with fail
                go_cut [16] from 145 to 158 (fun s16 wx => s16 = .bool (fitsB t k l0 l1) ∧ wx = w9)
                case first =>
                  cases b1 : (kt == k)
                  · have HB1 := Lib.hid b1
                    go_wp2_with fail
                    go_meet
                    exact ⟨by rw [HFB.out, HB1.out]; rfl, rfl⟩
                  · have HB1 := Lib.hid b1
                    cases b2 : (x8 == 0)
                    · have HB2 := Lib.hid b2
                      go_wp2_with fail
                      go_meet
                      exact ⟨by rw [HFB.out, HB1.out, HB2.out]; rfl, rfl⟩
                    · have HB2 := Lib.hid b2
                      cases b3 : (x9 == 0)
                      all_goals
                        have HB3 := Lib.hid b3
                        go_wp2_with fail
                        go_meet
                        exact ⟨by rw [HFB.out, HB1.out, HB2.out, HB3.out]; rfl, rfl⟩
                case rest =>
                  obtain ⟨rfl, hw⟩ := hcut
                  subst hw
                  clear p0 zp
                  have HW9 := Lib.hid (ext_trans hbx.out (F5.out _ F9.out))
                  obtain ⟨g1, g2⟩ := var_gd (u := 0) (by omega)
                  have hS9 := ((x6.out.2.2.bel b7.out).bel B8.out).bel B9.out
                  have hab : S2'.m + (S2'.un : Int) + 2 * (dynT (utT [(⟨8, ByteArray.empty, 0⟩ : Nd)]) + dynT (utT t) : Nat) ≤ 2305843009213693952 := by
                    have d1 := dyn_of g1
                    have d2 := dyn_of HGT.out.1
                    have := x6.out.2.1.m
                    have e1 : ([(⟨8, ByteArray.empty, 0⟩ : Nd)]).length = 1 := rfl
                    omega
                  have hagr : Calls Try.prog 33 #[pk s, .slice (some ⟨w4.heap.size, 0, none⟩) 1 1, .slice (some ⟨bp, op, none⟩) t.length cp] wc (AgrPost U s m 1 S2' (varT 0) (utT t) wc) := by
                    have h := uAgree_any U s m 1 S2' wc (some ⟨w4.heap.size, 0, none⟩) (some ⟨bp, op, none⟩) 1 cp [⟨8, ByteArray.empty, 0⟩] t hS9 (HTV.out _ F9.out) ((HP.out.1.below HW9.out).more HW9.out.size) (by simp) (by omega) g1 HGT.out.1 (by rw [g2]; exact x6.out.2.1.kg.var (x6.out.2.1.L 0 (by omega)) (by omega) (by have := x6.out.2.1.ge; omega)) ((HTD.out.mono (m' := (1 : Int)) (by omega)).tg (fun n hn => x6.out.2.1.L n hn) (by have := x6.out.2.1.ge; omega)) hab
                    rw [g2] at h
                    exact h
                  have HA3 : Hid (Calls Try.prog 33 #[.pointer (some ⟨s, 0, none⟩), .slice (some ⟨w4.heap.size, 0, none⟩) 1 1, .slice (some ⟨bp, op, none⟩) t.length cp] wc (fun e w' => e = .returned (.int .i64 (if fitsB t k l0 l1 = true then 0 else 9)) ∧ Fr (SX s m) wc w' ∧ (fitsB t k l0 l1 = true → ∃ S3, SolG U s m 1 w' S3 ∧ S3.σ.v 0 = utT t))) := Lib.hid (hagr.mono fun e w' h => op3_of x6.out.1 x6.out.2.1 HR.out (rowLabel_ne HL.out.1) (rowLabel_ne HL.out.2) HGT.out.1 HTD.out (static_of HGT.out.1 HSB.out) (by omega) h)
                  clear g1 g2 hS9 hab hagr
                  generalize hfb : fitsB t k l0 l1 = fb at *
                  clear hfb HFB
                  go_wp2_with fail
                  refine HA3.out.mono ?_
                  clear HA3
                  rintro e w10 ⟨rfl, g10, y10⟩
                  have F10 := Lib.hid (F9.out.trans g10)
                  have Y10 := Lib.hid y10
                  clear g10 y10
                  cases fb with
                  | false =>
                    go_wp2_with fail
                    refine (HAL.out _ (ext_trans hbx.out (F5.out _ F10.out))).mono ?_
                    rintro e w11 ⟨rfl, hb11⟩
                    go_wp2_with fail
                    go_ret
                    exact ⟨rfl, hb11⟩
                  | true =>
                    obtain ⟨S3, hS3, hk3⟩ := Y10.out rfl
                    have X3 := Lib.hid (And.intro hS3 hk3)
                    clear hS3 hk3
                    go_wp2_with fail
                    refine (alive13_any _).mono ?_
                    rintro e w11 ⟨rfl, hb11⟩
                    have F11 := Lib.hid (F10.out.trans (Fr.below hb11))
                    have hkn : Hid (Calls Try.prog 24 #[.pointer (some ⟨s, 0, none⟩), .slice (some ⟨w4.heap.size, 0, none⟩) 1 1] w11 (RetN w11 t)) := Lib.hid (by
                      obtain ⟨g1, g2⟩ := var_gd (u := 0) (by omega)
                      have hflt : flT ByteArray.empty (utT t) = t := fl_plain HGT.out.1 HSB.out HGT.out.2.1
                      have hS11 := X3.out.1.bel hb11
                      have hk2 := uKnown_any U s m 1 S3 w11 (some ⟨w4.heap.size, 0, none⟩) 1 [⟨8, ByteArray.empty, 0⟩] hS11 (HTV.out _ F11.out) (by simp) g1 (by rw [g2]; exact hS11.kg.var (hS11.hL 0 (by omega)) (by omega) (by have := hS11.fm; omega)) (by
                        rw [g2, inst_var, X3.out.2]
                        show (flT ByteArray.empty (utT t)).length ≤ _
                        rw [hflt]
                        omega)
                      rw [g2, inst_var, X3.out.2] at hk2
                      have e1 : flT (headNd [(⟨8, ByteArray.empty, 0⟩ : Nd)]).s (utT t) = t := hflt
                      rw [e1] at hk2
                      exact hk2)
                    clear hb11
                    go_wp2_with fail
                    refine hkn.out.mono ?_
                    clear hkn
                    rintro e w12 ⟨A12, c12, rfl, o12, hb12⟩
                    have F12 := Lib.hid (F11.out.trans (Fr.below hb12))
                    have HW12 := Lib.hid (ext_trans hbx.out (F5.out _ F12.out))
                    have ho := Lib.hid (one_any A12 (some ⟨bp, op, none⟩) c12 cp w12.heap.size W.heap.size t t w12 (OwnL.tyA o12) (HP.out.1.below HW12.out) (by omega))
                    rw [decide_eq_true rfl] at ho
                    clear o12 hb12
                    go_wp2_with fail
                    refine ho.out.mono ?_
                    clear ho
                    rintro e w13 ⟨rfl, q13, rfl⟩
                    go_wp2_with fail
                    go_ret
                    exact ⟨rfl, ext_trans HW12.out (bel_drewN w12 q13)⟩
end Go.Proofs.Ytblfeokjlecgkaa
