/- UnifyAgrees, walked. -/
import Derived.Test.YtblfeokjlecgkaaG04
namespace Go.Proofs.Ytblfeokjlecgkaa
open Go.RowKit

set_option maxRecDepth 100000 in
set_option maxHeartbeats 8000000 in
theorem unifyAgrees_law (next : Int) (A : Option Addr) (c : Nat) (vs : List StV) (xs : List Stp) (W : World) (hr : ReadSt W W.heap.size A vs) (hs : Stps W W.heap.size vs xs) (hl : vs.length ≤ 9223372036854775807) (hok : ∀ x ∈ xs, x.Ok) :
    Calls Try.prog 4 #[.int .i64 next, .slice A vs.length c] W fun e w' => e = .returned (.bool true) ∧ Below W.heap.size W w' := by
  have hm := Lib.hid (mays_any next A c vs xs W hr hs hl hok)
  have H := Lib.hid (And.intro hr hs)
  have hlx := Lib.hid hs.1
  have HSZ := Lib.hid (labsM_size hok)
  clear hr hs hok
  go_enter Try.func4, Try.ntmps4
  go_wp2_with fail
  refine hm.out.mono ?_
  clear hm
  rintro e w1 ⟨rfl, hb1⟩
  have B2 := Lib.hid hb1
  clear hb1
  cases hmb : maysB next xs with
  | false =>
    clear hmb
    go_wp2_with fail
    refine (alive13_any _).mono ?_
    rintro e w2 ⟨rfl, hb⟩
    go_wp2_with fail
    go_ret
    exact ⟨rfl, ext_trans B2.out hb⟩
  | true =>
    have HMB := Lib.hid hmb
    clear hmb
    obtain ⟨h0, h8, hlen, hU, _, _⟩ := mays_parts HMB.out
    obtain ⟨m0, rfl⟩ : ∃ m0 : Nat, next = (m0 : Int) := ⟨next.toNat, by omega⟩
    have hm8 : m0 ≤ 8 := by omega
    have hv12 : vs.length ≤ 12 := by have := hlx.out; omega
    obtain ⟨U, hUd⟩ : ∃ U, U = labsM xs := ⟨_, rfl⟩
    have hU2 : U.length ≤ 100000 := by
      rw [hUd]
      omega
    have HG : Hid (∀ x ∈ xs, GoodS U (m0 : Int) x) := Lib.hid (mays_good (fun y hy => by rw [hUd]; exact hy) HMB.out)
    have HUS : Hid (∀ y ∈ U, y.size ≤ 9223372036854775807) := Lib.hid (by rw [hUd]; exact HSZ.out)
    clear h0 h8 hlen hU hUd hl
    go_wp2_with fail
    refine (new_any (m0 : Int) w1).mono ?_
    rintro e w4 ⟨s, m, rfl, z1, z2, z3, hst, hmap, hb4⟩
    have hg0 : SolG U s m m0 w4 (Kn.zero (m0 : Int)) := solG_new hU2 (by omega) z3 hst hmap
    have HS0 := Lib.hid hg0
    have HLO : Hid (W.heap.size ≤ s ∧ W.heap.size ≤ m ∧ Below W.heap.size W w4) := Lib.hid (by
      have h1 := B2.out.size
      exact ⟨by omega, by omega, ext_trans B2.out hb4⟩)
    clear z1 z2 z3 hst hmap hb4 hg0
    have HFR : Hid (∀ wr, Fr (SX s m) w4 wr → Below W.heap.size W wr) := Lib.hid fun wr hf => fr_new HLO.out.1 HLO.out.2.1 HLO.out.2.2 hf
    unfold pk
    go_wp2_with fail
    go_loopw [6] (fun s6 wr => ∃ i : Nat, s6 = .int .i64 i ∧ i ≤ vs.length ∧ Hid (ToldI U s m m0 xs i wr) ∧ Hid (Fr (SX s m) w4 wr)) (fun s6 _ => vs.length - (intOf s6).toNat)
    case atStart => exact ⟨0, rfl, Nat.zero_le _, Lib.hid ⟨_, by rw [List.take_zero]; exact RunB.start U (by omega), HS0.out⟩, Lib.hid (Fr.refl _ _)⟩
    case round =>
      obtain ⟨i, rfl, hi, HI, HF⟩ := hrel
      have HBr := Lib.hid (HFR.out wr HF.out)
      by_cases hp : i < vs.length
      · obtain ⟨x, hx⟩ := getq_ex (show i < xs.length by rw [← hlx.out]; exact hp)
        obtain ⟨b1, o1, A1, B1', ca, cb, rfl, hbz, ⟨q0, q1, q2, q3, q4, q5⟩, t1, t2, _⟩ := Stps.later H.out.1 H.out.2 HBr.out hx
        have hsz := HBr.out.size
        have hdo : Hid (Calls Try.prog 19 #[pk s, stV x A1 ca B1' cb] wr (DoPost U s m m0 (xs.take i) x wr)) := Lib.hid (by
          obtain ⟨S, hR, hS⟩ := HI.out
          exact do_any U s m m0 (xs.take i) x S wr A1 B1' ca cb hR hS (HG.out x (List.mem_of_getElem? hx)) (by rw [List.length_take]; have := hlx.out; omega) hm8 (t1.more hsz) (t2.more hsz))
        have Hx := Lib.hid hx
        unfold pk at hdo
        clear hx t1 t2
        go_wp2_with fail
        refine hdo.out.mono ?_
        clear hdo
        intro e w5 hpost
        obtain ⟨v, rfl, hv, hf5, ho5, _⟩ := ToldI.next Hx.out hpost
        have G5 := Lib.hid (And.intro ho5 (HF.out.trans hf5))
        clear hpost hf5 ho5
        rcases hv with rfl | rfl
        · go_wp2_with fail
          go_roundw
          case rel => exact ⟨i + 1, by go_num, hp, Lib.hid (G5.out.1 (by first | rfl | trivial)), Lib.hid G5.out.2⟩
          case measure => simp [intOf]; omega
        · go_wp2_with fail
          refine (alive13_any _).mono ?_
          rintro e w6 ⟨rfl, hb⟩
          go_wp2_with fail
          go_ret
          exact ⟨rfl, ext_trans (HFR.out _ G5.out.2) hb⟩
      · obtain ⟨S, hR, hS⟩ : ∃ S, RunB U (m0 : Int) xs S ∧ SolG U s m m0 wr S := by
          obtain ⟨S, hR, hS⟩ := HI.out
          rw [List.take_of_length_le (by rw [← hlx.out]; omega)] at hR
          exact ⟨S, hR, hS⟩
        have G := Lib.hid (And.intro hR hS)
        clear hR hS HI
        generalize wr = wz at *
        go_wp2_with fail
        go_loopw [8] (fun s8 wr => ∃ i : Nat, s8 = .int .i64 i ∧ i ≤ vs.length ∧ Hid (Below wz.heap.size wz wr)) (fun s8 _ => vs.length - (intOf s8).toNat)
        case atStart => exact ⟨0, rfl, Nat.zero_le _, Lib.hid (Below.refl _ _)⟩
        case round =>
          obtain ⟨i2, rfl, hi2, M⟩ := hrel
          have HBr2 := Lib.hid (ext_trans HBr.out M.out)
          by_cases hp2 : i2 < vs.length
          · obtain ⟨x, hx⟩ := getq_ex (show i2 < xs.length by rw [← hlx.out]; exact hp2)
            obtain ⟨b1, o1, A1, B1', ca, cb, rfl, hbz, ⟨q0, q1, q2, q3, q4, q5⟩, t1, t2, _⟩ := Stps.later H.out.1 H.out.2 HBr2.out hx
            have Hx := Lib.hid hx
            have HTT := Lib.hid (And.intro (t1.more HBr2.out.size) (t2.more HBr2.out.size))
            clear hx t1 t2
            cases hz : (x.l.toList == ([] : List UInt8)) with
            | false =>
              have HZ2 : (x.l.toList != ([] : List UInt8)) = true := by unfold bne; rw [hz]; rfl
              go_wp2_with fail
              go_roundw
              case rel => exact ⟨i2 + 1, by go_num, hp2, M⟩
              case measure => simp [intOf]; omega
            | true =>
              have HZ2 : (x.l.toList != ([] : List UInt8)) = false := by unfold bne; rw [hz]; rfl
              have HZ : Hid (x.l.size = 0) := Lib.hid (by simpa [isEmpty_size] using (show x.l.toList.isEmpty = true by simpa using hz))
              have hPK := pair_known G.out.1 HG.out (by have := hlx.out; omega) (List.mem_of_getElem? Hx.out) HZ.out
              have hA1 := known_len G.out.1 hPK.2.2.2.1 hPK.2.2.2.2.2.2.2.1 hPK.2.2.2.2.2.1 (headNd x.a).s
              have hB1 := known_len G.out.1 hPK.2.2.2.2.1 hPK.2.2.2.2.2.2.2.2 hPK.2.2.2.2.2.2.1 (headNd x.b).s
              have HPK := Lib.hid hPK
              have HKA : Hid (∀ v, Hid (Below wr.heap.size wr v) → Calls Try.prog 24 #[.pointer (some ⟨s, 0, none⟩), .slice A1 x.a.length ca] v (fun e w' => ∃ A' c', e = .returned (.slice A' (flT (headNd x.a).s (inst S.σ (utT x.a))).length c') ∧ Hid (TyA w' w'.heap.size A' (flT (headNd x.a).s (inst S.σ (utT x.a)))) ∧ Hid (Below wr.heap.size wr w'))) := Lib.hid fun v hv => by
                refine (uKnown_any U s m m0 S v A1 ca x.a ((G.out.2.bel M.out).bel hv.out) ((HTT.out.1.below hv.out).more hv.out.size) (by have := HPK.out.2.2.2.2.2.1; omega) HPK.out.2.2.2.1 (HPK.out.2.2.2.2.2.2.2.1.tg G.out.2.hL G.out.2.fm) (by omega)).mono ?_
                rintro e w' ⟨A', c', rfl, h1, h2⟩
                exact ⟨A', c', rfl, Lib.hid (OwnL.tyA h1), Lib.hid (ext_trans hv.out h2)⟩
              have HKB : Hid (∀ v, Hid (Below wr.heap.size wr v) → Calls Try.prog 24 #[.pointer (some ⟨s, 0, none⟩), .slice B1' x.b.length cb] v (fun e w' => ∃ A' c', e = .returned (.slice A' (flT (headNd x.b).s (inst S.σ (utT x.b))).length c') ∧ Hid (TyA w' w'.heap.size A' (flT (headNd x.b).s (inst S.σ (utT x.b)))) ∧ Hid (Below wr.heap.size wr w') ∧ Hid (Below v.heap.size v w'))) := Lib.hid fun v hv => by
                refine (uKnown_any U s m m0 S v B1' cb x.b ((G.out.2.bel M.out).bel hv.out) ((HTT.out.2.below hv.out).more hv.out.size) (by have := HPK.out.2.2.2.2.2.2.1; omega) HPK.out.2.2.2.2.1 (HPK.out.2.2.2.2.2.2.2.2.tg G.out.2.hL G.out.2.fm) (by omega)).mono ?_
                rintro e w' ⟨A', c', rfl, h1, h2⟩
                exact ⟨A', c', rfl, Lib.hid (OwnL.tyA h1), Lib.hid (ext_trans hv.out h2), Lib.hid h2⟩
              have HKK : Hid (∀ v, Hid (Below wr.heap.size wr v) → Hid (Below wr.heap.size wr v) ∧ v.cell? ⟨b1, o1 + i2 * 6, none⟩ = some (.slice A1 x.a.length ca) ∧ v.cell? ⟨b1, o1 + i2 * 6 + 1, none⟩ = some (.slice B1' x.b.length cb)) := Lib.hid fun v hv => ⟨hv, (hv.out.cell (p := ⟨b1, o1 + i2 * 6, none⟩) hbz).trans q0, (hv.out.cell (p := ⟨b1, o1 + i2 * 6 + 1, none⟩) hbz).trans q1⟩
              generalize hka : flT (headNd x.a).s (inst S.σ (utT x.a)) = ka at *
              generalize hkb : flT (headNd x.b).s (inst S.σ (utT x.b)) = kb at *
              have HKAB := Lib.hid (And.intro hka hkb)
              clear hka hkb hPK
              go_wp2_with fail
              go_region_held3 (fun v => Hid (Below wr.heap.size wr v) ∧ v.cell? ⟨b1, o1 + i2 * 6, none⟩ = some (.slice A1 x.a.length ca) ∧ v.cell? ⟨b1, o1 + i2 * 6 + 1, none⟩ = some (.slice B1' x.b.length cb))
                (first
                  | exact HKK.out _ (Lib.hid (Below.refl _ _).drew)
                  | exact HKK.out _ (Lib.hid (Below.refl _ _))
                  | exact HKK.out _ f1
                  | exact HKK.out _ f2)
                (first
                  | (go_at_call 24; (with_reducible refine (HKB.out _ f1).mono ?_); rintro e v2 ⟨A7, c7, rfl, x2, f2, f3⟩)
                  | (go_at_call 24; (with_reducible refine (HKA.out _ (Lib.hid (Below.refl _ _).drew)).mono ?_); rintro e v1 ⟨A6, c6, rfl, x1, f1⟩))
              all_goals
                clear HKA HKB HKK
                have TA2 := Lib.hid ((x1.out.below f3.out).more f3.out.size)
                have HL1 := Lib.hid (loose_any A6 c6 ka v2 TA2.out (by omega))
                have ka1 : 0 < ka.length := by
                  have := (wf_fl _ HPK.out.1 (headNd x.a).s).1.ne
                  rw [HKAB.out.1] at this
                  exact List.length_pos_iff.2 this
                have kb1 : 0 < kb.length := by
                  have := (wf_fl _ HPK.out.2.1 (headNd x.b).s).1.ne
                  rw [HKAB.out.2] at this
                  exact List.length_pos_iff.2 this
                have kan : ka ≠ [] := List.length_pos_iff.1 ka1
                have kbn : kb ≠ [] := List.length_pos_iff.1 kb1
                have kaz : ((ka.length : Int) == 0) = false := by rw [beq_eq_false_iff_ne]; omega
                have kbz : ((kb.length : Int) == 0) = false := by rw [beq_eq_false_iff_ne]; omega
                go_wp2_with fail
                refine HL1.out.mono ?_
                clear HL1
                rintro e v3 ⟨hb3, hcase⟩
                have HB3 := Lib.hid (ext_trans f2.out hb3)
                have TB3 := Lib.hid ((x2.out.below hb3).more hb3.size)
                clear hb3
                have HL2 := Lib.hid (loose_any A7 c7 kb v3 TB3.out (by omega))
                rcases hcase with ⟨rfl, -⟩ | ⟨A8, c8, he, ta8, hc8, na⟩
                · go_wp2_with fail
                  refine HL2.out.mono ?_
                  clear HL2
                  rintro e v4 ⟨hb4, hcase2⟩
                  have HB4 := Lib.hid (ext_trans HB3.out hb4)
                  clear hb4
                  rcases hcase2 with ⟨rfl, -⟩ | ⟨A9, c9, he2, -, -, -⟩
                  · go_wp2_with fail
                    go_roundw
                    case rel => exact ⟨i2 + 1, by go_num, hp2, Lib.hid (ext_trans M.out HB4.out)⟩
                    case measure => simp [intOf]; omega
                  · rw [decide_eq_true kb1] at he2
                    subst he2
                    go_wp2_with fail
                    go_roundw
                    case rel => exact ⟨i2 + 1, by go_num, hp2, Lib.hid (ext_trans M.out HB4.out)⟩
                    case measure => simp [intOf]; omega
                · rw [decide_eq_true ka1] at he
                  subst he
                  have TA8 := Lib.hid (And.intro ta8 (And.intro hc8 na))
                  clear ta8 hc8 na
                  go_wp2_with fail
                  refine HL2.out.mono ?_
                  clear HL2
                  rintro e v4 ⟨hb4, hcase2⟩
                  have HB4 := Lib.hid (ext_trans HB3.out hb4)
                  have TA9 := Lib.hid ((TA8.out.1.below hb4).more hb4.size)
                  clear hb4
                  rcases hcase2 with ⟨rfl, -⟩ | ⟨A9, c9, he2, tb9, hc9, nb⟩
                  · go_wp2_with fail
                    go_roundw
                    case rel => exact ⟨i2 + 1, by go_num, hp2, Lib.hid (ext_trans M.out HB4.out)⟩
                    case measure => simp [intOf]; omega
                  · rw [decide_eq_true kb1] at he2
                    subst he2
                    have TB9 := Lib.hid (And.intro tb9 (And.intro hc9 nb))
                    clear tb9 hc9 nb
                    by_cases h5 : (ka.length : Int) + kb.length < 5000
                    · have hag := rAgree_any (ka.map looseN).length A8 A9 c8 c9 (ka.map looseN) (kb.map looseN) v4 (Nat.le_refl _) TA9.out TB9.out.1 (by rw [← HKAB.out.1]; exact loose_gd HPK.out.1 _) (by rw [← HKAB.out.2]; exact loose_gd HPK.out.2.1 _) (by rw [List.length_map]; omega) (by rw [List.length_map]; omega) (by rw [List.length_map]; exact TA8.out.2.1) (by rw [List.length_map]; exact TB9.out.2.1)
                      have hla : agG (ka.map looseN).length (ka.map looseN) (kb.map looseN) = true := by
                        have h := loose_agree HPK.out.1 HPK.out.2.1 HPK.out.2.2.1 (s := (headNd x.a).s) (s' := (headNd x.b).s) (by rw [HKAB.out.1]; exact TA8.out.2.2) (by rw [HKAB.out.2]; exact TB9.out.2.2)
                        rw [HKAB.out.1, HKAB.out.2] at h
                        exact h
                      rw [hla, List.length_map, List.length_map] at hag
                      have HAG := Lib.hid hag
                      clear hag hla
                      go_wp2_with fail
                      refine HAG.out.mono ?_
                      clear HAG
                      rintro e v5 ⟨rfl, hb5⟩
                      have HB5 := Lib.hid (ext_trans HB4.out hb5)
                      clear hb5
                      go_wp2_with fail
                      go_roundw
                      case rel => exact ⟨i2 + 1, by go_num, hp2, Lib.hid (ext_trans M.out HB5.out)⟩
                      case measure => simp [intOf]; omega
                    · go_wp2_with fail
                      go_roundw
                      case rel => exact ⟨i2 + 1, by go_num, hp2, Lib.hid (ext_trans M.out HB4.out)⟩
                      case measure => simp [intOf]; omega
          · have HS2 := Lib.hid (G.out.2.bel M.out)
            go_wp2_with fail
            generalize wr = wy at *
            go_loopw [15] (fun s15 wr => ∃ n : Nat, s15 = .int .i64 n ∧ n ≤ m0 ∧ Hid (Below wy.heap.size wy wr)) (fun s15 _ => m0 - (intOf s15).toNat)
            case atStart => exact ⟨0, rfl, Nat.zero_le _, Lib.hid (Below.refl _ _)⟩
            case round =>
              obtain ⟨n, rfl, hn, N⟩ := hrel
              by_cases hpn : n < m0
              · have HKN := Lib.hid (known_of G.out.1 HG.out (by have := hlx.out; omega) HUS.out (n := (n : Int)) (by omega) (by omega))
                have hbN := ext_alloc (Below.refl wr.heap.size wr) (.cells #[.int .i64 8, .string ⟨#[]⟩, .int .i64 (n : Int)] 48)
                obtain ⟨v1, v2⟩ := var_gd (u := (n : Int)) (by omega)
                have hkn : Hid (Calls Try.prog 24 #[.pointer (some ⟨s, 0, none⟩), .slice (some ⟨wr.heap.size, 0, none⟩) 1 1] (wr.alloc (.cells #[.int .i64 8, .string ⟨#[]⟩, .int .i64 (n : Int)] 48)) (fun e w' => ∃ A' c', e = .returned (.slice A' (flT ByteArray.empty (S.σ.v (n : Int))).length c') ∧ OwnN w' wr.heap.size A' c' (flT ByteArray.empty (S.σ.v (n : Int))) ∧ Below wr.heap.size wr w')) := Lib.hid (by
                  have hk2 := uKnown_any U s m m0 S _ (some ⟨wr.heap.size, 0, none⟩) 1 [⟨8, ByteArray.empty, (n : Int)⟩] ((HS2.out.bel N.out).bel hbN) ((tyA_newL wr [⟨8, ByteArray.empty, (n : Int)⟩] #[.int .i64 8, .string ⟨#[]⟩, .int .i64 (n : Int)] rfl).more (by simp)) (by simp) v1 (by rw [v2]; exact HS2.out.kg.var (HS2.out.hL n (by omega)) (by omega) (by have := HS2.out.fm; omega)) (by
                    rw [v2, inst_var]
                    show (flT ByteArray.empty (S.σ.v (n : Int))).length ≤ _
                    have := HKN.out.len
                    omega)
                  rw [v2, inst_var] at hk2
                  refine hk2.mono ?_
                  rintro e w' ⟨A', c', rfl, h1, h2⟩
                  exact ⟨A', c', rfl, h1.lower hbN.size, ext_trans hbN h2⟩)
                clear v1 v2 hbN
                obtain ⟨kn, hkn0⟩ : ∃ kn, kn = flT ByteArray.empty (S.σ.v (n : Int)) := ⟨_, rfl⟩
                have HK0 := Lib.hid hkn0
                rw [← hkn0] at hkn
                clear hkn0
                have hkl : kn.length ≤ 20000 := by rw [HK0.out]; exact HKN.out.len
                have knn : kn ≠ [] := by rw [HK0.out]; exact HKN.out.gd.ne
                have knz : ((kn.length : Int) == 0) = false := by
                  have := List.length_pos_iff.2 knn
                  rw [beq_eq_false_iff_ne]; omega
                go_wp2_with fail
                refine hkn.out.mono ?_
                clear hkn
                rintro e w8 ⟨A8, c8, rfl, ho8, hb8⟩
                have T8 := Lib.hid (And.intro (OwnL.tyA ho8) (And.intro (ext_trans N.out hb8) (OwnL.le_cap ho8)))
                clear ho8 hb8
                have hst := rStatic_any A8 c8 w8.heap.size kn w8 T8.out.1 (by omega)
                rw [show staticB kn = true by rw [HK0.out]; exact HKN.out.st] at hst
                have HST := Lib.hid hst
                clear hst
                go_wp2_with fail
                refine HST.out.mono ?_
                clear HST
                rintro e w9 ⟨rfl, rfl⟩
                have hgr := Lib.hid (rGround_gd A8 c8 kn w8 T8.out.1 (by rw [HK0.out]; exact HKN.out.gd) (by omega) T8.out.2.2)
                go_wp2_with fail
                refine hgr.out.mono ?_
                clear hgr
                rintro e w10 ⟨A10, c10, rfl, ho10, hb10⟩
                have T10 := Lib.hid (And.intro (OwnL.tyA ho10) (And.intro (ext_trans T8.out.2.1 hb10) ((T8.out.1.below hb10).more hb10.size)))
                clear ho10 hb10
                have hgl : (grdT kn).length ≤ 9223372036854775807 := by
                  have := HKN.out.gr
                  rw [← HK0.out] at this
                  unfold rRightB at this
                  simp only [Bool.and_eq_true, decide_eq_true_eq] at this
                  omega
                have hri := rRight_any A10 c10 (grdT kn) w10 T10.out.1 hgl (by rw [HK0.out]; exact HKN.out.gl)
                rw [show rRightB (grdT kn) = true by rw [HK0.out]; exact HKN.out.gr] at hri
                have HRI := Lib.hid hri
                clear hri
                go_wp2_with fail
                refine HRI.out.mono ?_
                clear HRI
                rintro e w11 ⟨rfl, hb11⟩
                have T11 := Lib.hid (And.intro (ext_trans T10.out.2.1 hb11) ((T10.out.2.2.below hb11).more hb11.size))
                clear hb11
                have hk3 : Hid (Calls Try.prog 24 #[.pointer (some ⟨s, 0, none⟩), .slice A8 kn.length c8] w11 (RetN w11 kn)) := Lib.hid (by
                  have hin : flT (headNd kn).s (inst S.σ (utT kn)) = kn := by
                    rw [HK0.out, HKN.out.hd, HKN.out.ut, HKN.out.self]
                  have h := uKnown_any U s m m0 S w11 A8 c8 kn (HS2.out.bel T11.out.1) T11.out.2 (by omega) (by rw [HK0.out]; exact HKN.out.gd) (by rw [HK0.out, HKN.out.ut]; exact HKN.out.tg) (by rw [hin]; omega)
                  rw [hin] at h
                  exact h)
                go_wp2_with fail
                refine hk3.out.mono ?_
                clear hk3
                rintro e w12 ⟨A12, c12, rfl, ho12, hb12⟩
                have T12 := Lib.hid (And.intro (ext_trans T11.out.1 hb12) ((T11.out.2.below hb12).more hb12.size))
                have hon := one_any A12 A8 c12 c8 w12.heap.size w12.heap.size kn kn w12 (OwnL.tyA ho12) T12.out.2 (by omega)
                rw [decide_eq_true rfl] at hon
                have HON := Lib.hid hon
                clear hon ho12 hb12
                go_wp2_with fail
                refine HON.out.mono ?_
                clear HON
                rintro e w13 ⟨rfl, q13, rfl⟩
                go_wp2_with fail
                go_roundw
                case rel => exact ⟨n + 1, by go_num, hpn, Lib.hid (ext_trans T12.out.1 (bel_drewN w12 q13))⟩
                case measure => simp [intOf]; omega
              · have HF3 := Lib.hid (HF.out.trans ((Fr.below M.out).trans (Fr.below N.out)))
                have HS3 := Lib.hid (HS2.out.bel N.out)
                go_wp2_with fail
                go_loopw [17] (fun s17 wr => ∃ j : Nat, s17 = .int .i64 j ∧ j ≤ vs.length ∧ Hid (∃ S', RunB U (m0 : Int) (xs ++ xs.take j) S' ∧ SolG U s m m0 wr S') ∧ Hid (Fr (SX s m) w4 wr)) (fun s17 _ => vs.length - (intOf s17).toNat)
                case atStart => exact ⟨0, rfl, Nat.zero_le _, Lib.hid ⟨S, by rw [List.take_zero, List.append_nil]; exact G.out.1, HS3.out⟩, HF3⟩
                case round =>
                  obtain ⟨j, rfl, hj, J, JF⟩ := hrel
                  have HBj := Lib.hid (HFR.out _ JF.out)
                  by_cases hpj : j < vs.length
                  · obtain ⟨x, hx⟩ := getq_ex (show j < xs.length by rw [← hlx.out]; exact hpj)
                    obtain ⟨b1, o1, A1, B1', ca, cb, rfl, hbz, ⟨q0, q1, q2, q3, q4, q5⟩, t1, t2, _⟩ := Stps.later H.out.1 H.out.2 HBj.out hx
                    have hsz := HBj.out.size
                    obtain ⟨wv, hwv⟩ : ∃ wv, wv = wr := ⟨_, rfl⟩
                    have hdo : Hid (Calls Try.prog 19 #[pk s, stV x A1 ca B1' cb] wr (fun e w' => e = .returned (.int .i64 0) ∧ Hid (∃ S', RunB U (m0 : Int) (xs ++ xs.take (j + 1)) S' ∧ SolG U s m m0 w' S') ∧ Hid (Fr (SX s m) w4 w'))) := Lib.hid (by
                      obtain ⟨S', hR', hS'⟩ := J.out
                      refine (do_any U s m m0 (xs ++ xs.take j) x S' wr A1 B1' ca cb hR' hS' (HG.out x (List.mem_of_getElem? hx)) (by rw [List.length_append, List.length_take]; have := hlx.out; omega) hm8 (t1.more hsz) (t2.more hsz)).mono ?_
                      rintro e w' ⟨ok, rfl, hf, hno, hyes⟩
                      cases ok with
                      | false => exact absurd (hno rfl) (again_ok G.out.1 hx)
                      | true => exact ⟨rfl, Lib.hid (by rw [take_again hx]; exact hyes rfl), Lib.hid (JF.out.trans hf)⟩)
                    unfold pk at hdo
                    clear hx t1 t2 hwv
                    go_wp2_with fail
                    refine hdo.out.mono ?_
                    clear hdo
                    rintro e w5 ⟨rfl, J5, F5⟩
                    go_wp2_with fail
                    go_roundw
                    case rel => exact ⟨j + 1, by go_num, hpj, J5, F5⟩
                    case measure => simp [intOf]; omega
                  · go_wp2_with fail
                    refine (alive13_any _).mono ?_
                    rintro e w6 ⟨rfl, hb⟩
                    go_wp2_with fail
                    go_ret
                    exact ⟨rfl, ext_trans HBj.out hb⟩
end Go.Proofs.Ytblfeokjlecgkaa
