/- UnifyFresh, walked. -/
import Derived.Test.YtblfeokjlecgkaaF01
namespace Go.Proofs.Ytblfeokjlecgkaa
open Go.RowKit

theorem TG.arr {U : List Lb} {S : Kn} {a b : Ut} (hA : lA ∈ U) (hB : lB ∈ U) (ha : TG U S a) (hb : TG U S b) : TG U S (arrT a b) := by
  unfold arrT
  refine ⟨⟨?_, ?_⟩, ?_, ?_, ?_, ?_⟩
  · rw [okT_mk]
    refine ⟨⟨by simp [labsF, lA_ne_lB], fun e => by simp at e, fun e => absurd e (by decide), fun _ => rfl, fun p hp => by cases hp⟩, fun p hp => ?_⟩
    simp only [List.mem_cons, List.not_mem_nil, or_false] at hp
    rcases hp with rfl | rfl
    · exact ha.pend.1
    · exact hb.pend.1
  · rw [bdT_mk]
    refine ⟨fun e => absurd e (by decide), fun p hp => (by cases hp), fun p hp => ?_⟩
    simp only [List.mem_cons, List.not_mem_nil, or_false] at hp
    rcases hp with rfl | rfl
    · exact ha.pend.2
    · exact hb.pend.2
  · rw [fuT_mk]
    refine ⟨fun q ls hq => (by cases hq), fun p hp => ?_⟩
    simp only [List.mem_cons, List.not_mem_nil, or_false] at hp
    rcases hp with rfl | rfl
    · exact ha.fu
    · exact hb.fu
  · rw [shT_mk]
    refine ⟨⟨by decide, by decide, fun _ => ⟨⟨a, b, rfl⟩, rfl⟩, fun e => absurd rfl e⟩, fun p hp => ?_⟩
    simp only [List.mem_cons, List.not_mem_nil, or_false] at hp
    rcases hp with rfl | rfl
    · exact ha.sh
    · exact hb.sh
  · rw [nnT_mk]
    refine ⟨fun e => absurd e (by decide), fun p hp => (by cases hp), fun p hp => ?_⟩
    simp only [List.mem_cons, List.not_mem_nil, or_false] at hp
    rcases hp with rfl | rfl
    · exact ha.nn
    · exact hb.nn
  · rw [labT_mk]
    refine ⟨fun l hl => ?_, fun p hp => ?_⟩
    · simp only [labsF, List.map_cons, List.map_nil, List.mem_cons, List.not_mem_nil, or_false] at hl
      refine ⟨by rcases hl with rfl | rfl; exact hA; exact hB, fun e => by cases e⟩
    · simp only [List.mem_cons, List.not_mem_nil, or_false] at hp
      rcases hp with rfl | rfl
      · exact ha.lb
      · exact hb.lb
theorem un_up2 {S : Kn} (h : S.Inv) (hm : 0 ≤ S.m) : (S.up (S.m + 2)).un ≤ S.un + 2 := by
  show cnt (fun i => (S.κ (i : Int)).isNone) (S.m + 2).toNat ≤ cnt (fun i => (S.κ (i : Int)).isNone) S.m.toNat + 2
  rw [show (S.m + 2).toNat = S.m.toNat + 2 by omega, cnt_more fun i h1 h2 => by rw [h.free (show S.m ≤ (i : Int) by omega)]; rfl]
  exact Nat.le_refl _
/-- What the law shows of its fresh variables. -/
theorem fresh_all {U : List Lb} {m0 : Int} {C : Va → Prop} {S S' : Kn} {t : List Nd} (h : Run U m0 C S) (ht : Told U 0 (utT t)) (hs : stT (utT t)) (d : Step (S.up (S.m + 2)) S' (CoI (arrT (varT S.m) (varT (S.m + 1))) (arrT (utT t) (varT S.m)))) : S'.σ.v S.m = utT t ∧ S'.σ.v (S.m + 1) = utT t :=
  fresh_known (S := S.up (S.m + 2)) (h.kg.inv.new _ (Int.le_refl _)) (h.kg.inv.new _ (by omega)) (by show S.m < S.m + 2; omega) (by show S.m + 1 < S.m + 2; omega) ht hs d

set_option maxRecDepth 100000 in
set_option maxHeartbeats 8000000 in
theorem unifyFresh_law (next : Int) (A : Option Addr) (c : Nat) (vs : List StV) (xs : List Stp) (P : Option Addr) (cp : Nat) (t : List Nd) (W : World) (hr : ReadSt W W.heap.size A vs) (hs : Stps W W.heap.size vs xs) (hl : vs.length ≤ 9223372036854775807) (hok : ∀ x ∈ xs, x.Ok)
    (hP : TyA W W.heap.size P t) (hP1 : t.length ≤ cp) (hP2 : t.length ≤ 9223372036854775807) (hP3 : ∀ x ∈ t, x.Ok) :
    Calls Try.prog 8 #[.int .i64 next, .slice A vs.length c, .slice P t.length cp] W fun e w' => e = .returned (.bool true) ∧ Below W.heap.size W w' := by
  have hm := Lib.hid (mays_any next A c vs xs W hr hs hl hok)
  have H := Lib.hid (And.intro hr hs)
  have HP := Lib.hid (And.intro hP (And.intro hP1 (And.intro hP2 hP3)))
  have hlx := Lib.hid hs.1
  clear hr hs hok hP hP1 hP2 hP3
  go_enter Try.func8, Try.ntmps8
  go_wp2_with fail
  refine hm.out.mono ?_
  clear hm
  rintro e w1 ⟨rfl, hb1⟩
  have B1 := Lib.hid hb1
  clear hb1
  cases hmb : maysB next xs with
  | false =>
    clear hmb
    go_wp2_with fail
    refine (alive13_any _).mono ?_
    rintro e w2 ⟨rfl, hb⟩
    go_wp2_with fail
    go_ret
    exact ⟨rfl, ext_trans B1.out hb⟩
  | true =>
    have HMB := Lib.hid hmb
    clear hmb
    have hp := Lib.hid (plain07_any P cp t 30 w1 ((HP.out.1.below B1.out).more B1.out.size) HP.out.2.2.1 fun y hy => (HP.out.2.2.2 y hy).s1)
    go_wp2_with fail
    refine hp.out.mono ?_
    clear hp
    rintro e w2 ⟨rfl, hb2⟩
    have B2 := Lib.hid (ext_trans B1.out hb2)
    clear hb2
    cases hpa : plain07B t 30 with
    | false =>
      clear hpa
      go_wp2_with fail
      refine (alive13_any _).mono ?_
      rintro e w3 ⟨rfl, hb⟩
      go_wp2_with fail
      go_ret
      exact ⟨rfl, ext_trans B2.out hb⟩
    | true =>
      have HPA := Lib.hid (plain07_parts hpa)
      clear hpa
      have hst := Lib.hid (rStatic_any P cp w2.heap.size t w2 ((HP.out.1.below B2.out).more B2.out.size) HP.out.2.2.1)
      go_wp2_with fail
      refine hst.out.mono ?_
      clear hst
      rintro e w3 ⟨rfl, rfl⟩
      cases hsb : staticB t with
      | false =>
        clear hsb
        go_wp2_with fail
        refine (alive13_any _).mono ?_
        rintro e w4 ⟨rfl, hb⟩
        go_wp2_with fail
        go_ret
        exact ⟨rfl, ext_trans B2.out hb⟩
      | true =>
        have HSB : Hid (∀ x ∈ t, x.k ≠ 0) := Lib.hid (by
          unfold staticB at hsb
          rw [List.all_eq_true] at hsb
          intro x hx e
          have := hsb x hx
          rw [e] at this
          cases this)
        clear hsb
        obtain ⟨h0, h8, hlen, hU, _, _⟩ := mays_parts HMB.out
        obtain ⟨m0, rfl⟩ : ∃ m0 : Nat, next = (m0 : Int) := ⟨next.toNat, by omega⟩
        have hm8 : m0 ≤ 8 := by omega
        have hv12 : vs.length ≤ 12 := by have := hlx.out; omega
        obtain ⟨U, hUd⟩ : ∃ U, U = labsM xs ++ t.map Nd.s := ⟨_, rfl⟩
        have hU2 : U.length ≤ 100000 := by
          have h1 := HPA.out.1
          rw [hUd, List.length_append, List.length_map]
          omega
        have HG : Hid (∀ x ∈ xs, GoodS U (m0 : Int) x) := Lib.hid (mays_good (fun y hy => by rw [hUd]; exact List.mem_append_left _ hy) HMB.out)
        have HUA : Hid (lA ∈ U ∧ lB ∈ U) := Lib.hid ⟨by rw [hUd]; simp [labsM], by rw [hUd]; simp [labsM]⟩
        have HTD : Hid (Told U 0 (utT t)) := Lib.hid (plain_told HUA.out.1 HUA.out.2 (fun x hx => by rw [hUd]; exact List.mem_append_right _ (List.mem_map.2 ⟨x, hx, rfl⟩)) HPA.out.2.1 HPA.out.2.2)
        have HGT := Lib.hid (gd_of HPA.out.2.1)
        have hl30 : t.length ≤ 30 := by have := HPA.out.1; omega
        clear h0 h8 hlen hU hUd hl
        go_wp2_with fail
        refine (new_any (m0 : Int) w2).mono ?_
        rintro e w4 ⟨s, m, rfl, z1, z2, z3, hst, hmap, hb4⟩
        have hg0 : SolG U s m m0 w4 (Kn.zero (m0 : Int)) := solG_new hU2 (by omega) z3 hst hmap
        have HS0 := Lib.hid hg0
        have HLO : Hid (W.heap.size ≤ s ∧ W.heap.size ≤ m ∧ Below W.heap.size W w4) := Lib.hid (by
          have h1 := B2.out.size
          exact ⟨by omega, by omega, ext_trans B2.out hb4⟩)
        clear z1 z2 z3 hst hmap hb4 hg0
        have HFR : Hid (∀ wr, Fr (SX s m) w4 wr → Below W.heap.size W wr) := Lib.hid fun wr hf => fr_new HLO.out.1 HLO.out.2.1 HLO.out.2.2 hf
        unfold pk
        go_wp2_with fail
        go_loopw [8] (fun s8 wr => ∃ i : Nat, s8 = .int .i64 i ∧ i ≤ vs.length ∧ Hid (ToldI U s m m0 xs i wr) ∧ Hid (Fr (SX s m) w4 wr)) (fun s8 _ => vs.length - (intOf s8).toNat)
        case atStart => exact ⟨0, rfl, Nat.zero_le _, Lib.hid ⟨_, by rw [List.take_zero]; exact RunB.start U (by omega), HS0.out⟩, Lib.hid (Fr.refl _ _)⟩
        case round =>
          obtain ⟨i, rfl, hi, HI, HF⟩ := hrel
          have HBr := Lib.hid (HFR.out wr HF.out)
          by_cases hp : i < vs.length
          · obtain ⟨x, hx⟩ := getq_ex (show i < xs.length by rw [← hlx.out]; exact hp)
            obtain ⟨b1, o1, A1, B1', ca, cb, rfl, hbz, ⟨q0, q1, q2, q3, q4, q5⟩, t1, t2, _⟩ := Stps.later H.out.1 H.out.2 HBr.out hx
            have hsz := HBr.out.size
            have hdo : Hid (Calls Try.prog 19 #[pk s, stV x A1 ca B1' cb] wr (DoPost U s m m0 (xs.take i) x wr)) := Lib.hid (by
              obtain ⟨S, hR, hS⟩ := HI.out
              exact do_any U s m m0 (xs.take i) x S wr A1 B1' ca cb hR hS (HG.out x (List.mem_of_getElem? hx)) (by rw [List.length_take]; have := hlx.out; omega) hm8 (t1.more hsz) (t2.more hsz))
            have Hx := Lib.hid hx
            unfold pk at hdo
            clear hx t1 t2
            go_wp2_with fail
            refine hdo.out.mono ?_
            clear hdo
            intro e w5 hpost
            obtain ⟨v, rfl, hv, hf5, ho5, _⟩ := ToldI.next Hx.out hpost
            have G5 := Lib.hid (And.intro ho5 (HF.out.trans hf5))
            clear hpost hf5 ho5
            rcases hv with rfl | rfl
            · go_wp2_with fail
              go_roundw
              case rel => exact ⟨i + 1, by go_num, hp, Lib.hid (G5.out.1 (by first | rfl | trivial)), Lib.hid G5.out.2⟩
              case measure => simp [intOf]; omega
            · go_wp2_with fail
              refine (alive13_any _).mono ?_
              rintro e w6 ⟨rfl, hb⟩
              go_wp2_with fail
              go_ret
              exact ⟨rfl, ext_trans (HFR.out _ G5.out.2) hb⟩
          · obtain ⟨S, hR, hS⟩ : ∃ S, RunB U (m0 : Int) xs S ∧ SolG U s m m0 wr S := by
              obtain ⟨S, hR, hS⟩ := HI.out
              rw [List.take_of_length_le (by rw [← hlx.out]; omega)] at hR
              exact ⟨S, hR, hS⟩
            have hmb2 : S.m + (S.un : Int) ≤ 100000 := by have := hR.m; have := hlx.out; omega
            have hm00 := hR.run.kg.nn.m
            have hmm := hS.fm
            have G := Lib.hid (And.intro hR hS)
            have hva := Lib.hid (uVar_any s m m0 S wr hS.sol hm00 (by omega))
            clear hR hS HI
            unfold pk at hva
            go_wp2_with fail
            refine hva.out.mono ?_
            clear hva
            rintro e w5 ⟨Aa, ca, rfl, oa, fa, sa⟩
            have VA := Lib.hid (And.intro oa (And.intro fa (sa (S.up (S.m + 1)) rfl rfl)))
            clear oa fa sa
            have hvb := Lib.hid (uVar_any s m m0 (S.up (S.m + 1)) w5 VA.out.2.2 (by show 0 ≤ S.m + 1; omega) (by show S.m + 1 + 1 ≤ _; omega))
            unfold pk at hvb
            go_wp2_with fail
            refine hvb.out.mono ?_
            clear hvb
            rintro e w6 ⟨Ab, cb, rfl, ob, fb, sb⟩
            have hsol2 := sb (S.up (S.m + 2)) rfl (by show S.m + 2 = S.m + 1 + 1; omega)
            have hob : OwnN w6 w5.heap.size Ab cb [⟨8, ByteArray.empty, S.m + 1⟩] := ob
            have hS2 : SolG U s m m0 w6 (S.up (S.m + 2)) := ⟨hsol2, G.out.1.run.kg.up (by omega), hU2, by omega, by show (m0 : Int) ≤ S.m + 2; omega, fun n hn => G.out.2.hL n hn⟩
            have hoff5 : ∀ k, SX s m k → OffR w5 k := by
              rintro k (rfl | rfl)
              · exact solver_offR VA.out.2.2.st
              · obtain ⟨_, _, _, _, l, h5, _⟩ := VA.out.2.2
                exact map_offR h5
            have VB := Lib.hid (And.intro (((OwnL.tyA VA.out.1).past hoff5 fb (Nat.le_refl _)).more fb.size) (And.intro (OwnL.tyA hob) (And.intro hS2 ((HF.out.trans VA.out.2.1).trans fb))))
            have HU : Hid ((S.up (S.m + 2)).un ≤ S.un + 2) := Lib.hid (un_up2 G.out.1.run.kg.inv hm00)
            clear ob fb sb hsol2 hob hS2 hoff5
            obtain ⟨ba, oa, rfl, za, a0, a1, a2⟩ := VB.out.1.at_ (i := 0) (x := ⟨8, ByteArray.empty, S.m⟩) rfl
            obtain ⟨bb, ob, rfl, zb, b0, b1, b2⟩ := VB.out.2.1.at_ (i := 0) (x := ⟨8, ByteArray.empty, S.m + 1⟩) rfl
            simp only [Nat.zero_mul, Nat.add_zero] at a0 a2 b0 b2
            clear a1 b1
            have hlt1 : ¬ (S.m < (m0 : Int)) := by omega
            have hlt2 : ¬ (S.m + 1 < (m0 : Int)) := by omega
            have hne1 : (S.m == S.m + 1) = false := by rw [beq_eq_false_iff_ne]; omega
            go_wp2_with fail
            go_quiet (fail)
            clear hne1 hlt1 hlt2
            have D6 := Lib.hid (bel_drewN w6 nq)
            generalize hW6 : w6.drewN nq = v6 at *
            have VC := Lib.hid (And.intro ((VB.out.1.below D6.out).more D6.out.size) (And.intro ((VB.out.2.1.below D6.out).more D6.out.size) (And.intro (VB.out.2.2.1.bel D6.out) (VB.out.2.2.2.trans (Fr.below D6.out)))))
            clear hW6 a0 a2 b0 b2 za zb D6
            go_wp2_with fail
            go_loopw [11] (fun s11 wr => ∃ n : Nat, s11 = .int .i64 n ∧ n ≤ m0 ∧ Hid (Below v6.heap.size v6 wr)) (fun s11 _ => m0 - (intOf s11).toNat)
            case atStart => exact ⟨0, rfl, Nat.zero_le _, Lib.hid (Below.refl _ _)⟩
            case round =>
              obtain ⟨n, rfl, hn, M⟩ := hrel
              by_cases hpn : n < m0
              · have hT1 := (VC.out.1.below M.out).more M.out.size
                have hT2 := (VC.out.2.1.below M.out).more M.out.size
                have hbN := ext_alloc (Below.refl wr.heap.size wr) (.cells #[.int .i64 8, .string ⟨#[]⟩, .int .i64 (n : Int)] 48)
                obtain ⟨v1, v2⟩ := var_gd (u := (n : Int)) (by omega)
                have hkn : Hid (Calls Try.prog 24 #[.pointer (some ⟨s, 0, none⟩), .slice (some ⟨wr.heap.size, 0, none⟩) 1 1] (wr.alloc (.cells #[.int .i64 8, .string ⟨#[]⟩, .int .i64 (n : Int)] 48)) (fun e w' => ∃ A' c', e = .returned (.slice A' (flT ByteArray.empty (S.σ.v (n : Int))).length c') ∧ OwnN w' wr.heap.size A' c' (flT ByteArray.empty (S.σ.v (n : Int))) ∧ Below wr.heap.size wr w')) := Lib.hid (by
                  have hfl := (G.out.1.run.fit n (by omega) (by omega)).1
                  have h3 := fl_len _ hfl ByteArray.empty
                  have hk2 := uKnown_any U s m m0 (S.up (S.m + 2)) _ (some ⟨wr.heap.size, 0, none⟩) 1 [⟨8, ByteArray.empty, (n : Int)⟩] ((VC.out.2.2.1.bel M.out).bel hbN) ((tyA_newL wr [⟨8, ByteArray.empty, (n : Int)⟩] #[.int .i64 8, .string ⟨#[]⟩, .int .i64 (n : Int)] rfl).more (by simp)) (by simp) v1 (by rw [v2]; exact VC.out.2.2.1.kg.var (VC.out.2.2.1.hL n (by omega)) (by omega) (by have := VC.out.2.2.1.fm; omega)) (by
                    rw [v2, inst_var]
                    show (flT ByteArray.empty (S.σ.v (n : Int))).length ≤ _
                    omega)
                  rw [v2, inst_var] at hk2
                  refine hk2.mono ?_
                  rintro e w' ⟨A', c', rfl, h1, h2⟩
                  exact ⟨A', c', rfl, h1.lower hbN.size, ext_trans hbN h2⟩)
                have HT := Lib.hid (And.intro hT1 hT2)
                clear v1 v2 hT1 hT2 hbN
                go_wp2_with fail
                refine hkn.out.mono ?_
                clear hkn
                rintro e w8 ⟨A', c', rfl, ho8, hb8⟩
                obtain ⟨kn, hkn0⟩ : ∃ kn, kn = flT ByteArray.empty (S.σ.v (n : Int)) := ⟨_, rfl⟩
                rw [← hkn0] at ho8 ⊢
                have hha := known_has G.out.1.run (n := (n : Int)) (by omega) (by omega) (Int.le_refl _)
                have hhb := (known_has G.out.1.run (n := (n : Int)) (by omega) (by omega) (show S.m ≤ S.m + 1 by omega)).1
                rw [← hkn0] at hha hhb
                have hknl : kn.length ≤ 1000000 := by
                  have hfl := (G.out.1.run.fit n (by omega) (by omega)).1
                  have h3 := fl_len _ hfl ByteArray.empty
                  rw [hkn0]; omega
                have HH := Lib.hid (And.intro hha.1 (And.intro hhb hha.2))
                have T8 := Lib.hid (And.intro (OwnL.tyA ho8) (And.intro ((HT.out.1.below hb8).more hb8.size) (And.intro ((HT.out.2.below hb8).more hb8.size) (ext_trans M.out hb8))))
                clear hkn0 hha hhb ho8 hb8
                obtain ⟨b1, o1, e1, z1, _, _, a2⟩ := T8.out.2.1.at_ (i := 0) (x := ⟨8, ByteArray.empty, S.m⟩) rfl
                injection e1 with e1
                injection e1 with e1 e2 _
                subst e1 e2
                simp only [Nat.zero_mul, Nat.add_zero] at a2
                have hc1 := Lib.hid (has_any A' c' kn S.m w8 T8.out.1 hknl HH.out.2.2)
                go_wp2_with fail
                refine hc1.out.mono ?_
                clear hc1
                rw [HH.out.1]
                rintro e w9 ⟨rfl, hb9⟩
                have T9 := Lib.hid (And.intro ((T8.out.1.below hb9).more hb9.size) (And.intro ((T8.out.2.2.1.below hb9).more hb9.size) (ext_trans T8.out.2.2.2 hb9)))
                clear hb9 a2 z1
                obtain ⟨b1, o1, e1, z1, _, _, b2⟩ := T9.out.2.1.at_ (i := 0) (x := ⟨8, ByteArray.empty, S.m + 1⟩) rfl
                injection e1 with e1
                injection e1 with e1 e2 _
                subst e1 e2
                simp only [Nat.zero_mul, Nat.add_zero] at b2
                have hc2 := Lib.hid (has_any A' c' kn (S.m + 1) w9 T9.out.1 hknl HH.out.2.2)
                go_wp2_with fail
                refine hc2.out.mono ?_
                clear hc2
                rw [HH.out.2.1]
                rintro e w10 ⟨rfl, hb10⟩
                have T10 := Lib.hid (ext_trans T9.out.2.2 hb10)
                clear hb10 b2 z1
                go_wp2_with fail
                go_roundw
                case rel => exact ⟨n + 1, by go_num, hpn, T10⟩
                case measure => simp [intOf]; omega
              · have hT1 := (VC.out.1.below M.out).more M.out.size
                have hT2 := (VC.out.2.1.below M.out).more M.out.size
                have E := Lib.hid (And.intro hT1 (And.intro hT2 (And.intro (VC.out.2.2.1.bel M.out) (VC.out.2.2.2.trans (Fr.below M.out)))))
                have har := Lib.hid (rArrow_any (some ⟨ba, oa, none⟩) (some ⟨bb, ob, none⟩) ca cb [⟨8, ByteArray.empty, S.m⟩] [⟨8, ByteArray.empty, S.m + 1⟩] wr hT1 hT2 (by simp))
                clear hT1 hT2
                go_wp2_with fail
                refine har.out.mono ?_
                clear har
                rintro e w8 ⟨A8, c8, rfl, o8, hb8⟩
                have HF8 := Lib.hid (E.out.2.2.2.trans (Fr.below hb8))
                have E8 := Lib.hid (And.intro (OwnL.tyA o8) (And.intro ((E.out.1.below hb8).more hb8.size) (And.intro ((E.out.2.1.below hb8).more hb8.size) (E.out.2.2.1.bel hb8))))
                have hbW := HFR.out w8 HF8.out
                have har := Lib.hid (rArrow_any P (some ⟨ba, oa, none⟩) cp ca t [⟨8, ByteArray.empty, S.m⟩] w8 ((HP.out.1.below hbW).more hbW.size) E8.out.2.1 (by simp; omega))
                clear o8 hb8 hbW
                go_wp2_with fail
                refine har.out.mono ?_
                clear har
                rintro e w9 ⟨A9, c9, rfl, o9, hb9⟩
                have HF9 := Lib.hid (HF8.out.trans (Fr.below hb9))
                have E9 := Lib.hid (And.intro ((E8.out.1.below hb9).more hb9.size) (And.intro (OwnL.tyA o9) (And.intro ((E8.out.2.1.below hb9).more hb9.size) (And.intro ((E8.out.2.2.1.below hb9).more hb9.size) (E8.out.2.2.2.bel hb9)))))
                clear o9 hb9
                obtain ⟨v1, u1⟩ := var_gd (u := S.m) hm00
                obtain ⟨v2, u2⟩ := var_gd (u := S.m + 1) (by omega)
                obtain ⟨ga1, ua1⟩ := arrow_gd v1 v2 rfl rfl
                obtain ⟨ga2, ua2⟩ := arrow_gd HGT.out.1 v1 HGT.out.2.1 rfl
                obtain ⟨ga3, ua3⟩ := arrow_gd v2 v1 rfl rfl
                rw [u1, u2] at ua1
                rw [u1] at ua2
                rw [u1, u2] at ua3
                have hL2 : ∀ k : Int, S.m ≤ k → (S.up (S.m + 2)).L k = none := fun k hk => G.out.1.run.kg.inv.new k hk
                have tA : TG U (S.up (S.m + 2)) (varT S.m) := E9.out.2.2.2.2.kg.var (hL2 _ (Int.le_refl _)) hm00 (by show S.m < S.m + 2; omega)
                have tB : TG U (S.up (S.m + 2)) (varT (S.m + 1)) := E9.out.2.2.2.2.kg.var (hL2 _ (by omega)) (by omega) (by show S.m + 1 < S.m + 2; omega)
                have tT : TG U (S.up (S.m + 2)) (utT t) := (HTD.out.mono (m' := (m0 : Int)) (by omega)).tg E9.out.2.2.2.2.hL E9.out.2.2.2.2.fm
                have hst2 : stT (utT t) := static_of HGT.out.1 HSB.out
                have TT := Lib.hid (And.intro tA (And.intro tB (And.intro hst2 (And.intro v1 (And.intro v2 (And.intro ga3 (And.intro ua3 (And.intro u1 u2))))))))
                have hagr := Lib.hid (uAgree_any U s m m0 (S.up (S.m + 2)) w9 A8 A9 c8 c9 (arrowN [⟨8, ByteArray.empty, S.m⟩] [⟨8, ByteArray.empty, S.m + 1⟩]) (arrowN t [⟨8, ByteArray.empty, S.m⟩]) E9.out.2.2.2.2 E9.out.1 E9.out.2.1 (by simp [arrowN]) (by simp [arrowN]; omega) ga1 ga2 (by rw [ua1]; exact TG.arr HUA.out.1 HUA.out.2 tA tB) (by rw [ua2]; exact TG.arr HUA.out.1 HUA.out.2 tT tA) (by
                  have h1 := dyn_of ga1
                  have h2 := dyn_of ga2
                  have h3 := HU.out
                  have h4 : (S.up (S.m + 2)).m = S.m + 2 := rfl
                  have h5 : (arrowN [(⟨8, ByteArray.empty, S.m⟩ : Nd)] [⟨8, ByteArray.empty, S.m + 1⟩]).length = 3 := rfl
                  have h6 : (arrowN t [(⟨8, ByteArray.empty, S.m⟩ : Nd)]).length = t.length + 2 := by simp [arrowN]
                  omega))
                rw [ua1, ua2] at hagr
                unfold pk at hagr
                clear v1 u1 v2 u2 ga1 ua1 ga2 ua2 ga3 ua3 hL2 tA tB tT hst2
                go_wp2_with fail
                refine hagr.out.mono ?_
                clear hagr
                rintro e w10 ⟨ok, rfl, hf10, hno, hyes⟩
                obtain ⟨τ, τ1, τ2, τ3⟩ := fresh_ok G.out.1.run HTD.out TT.out.2.2.1
                cases ok with
                | false =>
                  exfalso
                  rcases hno rfl with d | ⟨S', d, hn⟩
                  · exact d τ τ1 τ2
                  · exact hn (step_fit (by show (m0 : Int) ≤ S.m + 2; omega) E9.out.2.2.2.2.hL d.st τ1 τ2 τ3)
                | true =>
                  obtain ⟨S', d, hfit, hS'⟩ := hyes rfl
                  obtain ⟨kA, kB⟩ := fresh_all G.out.1.run HTD.out TT.out.2.2.1 d.st
                  have hflt : flT ByteArray.empty (utT t) = t := fl_plain HGT.out.1 HSB.out HGT.out.2.1
                  have X := Lib.hid (And.intro kA (And.intro kB (And.intro (TT.out.1.later d.st.le) (And.intro (TT.out.2.1.later d.st.le) hflt))))
                  have E10 := Lib.hid (And.intro (E9.out.2.2.1.past E9.out.2.2.2.2.offR hf10 (Nat.le_refl _) |>.more hf10.size) (And.intro (E9.out.2.2.2.1.past E9.out.2.2.2.2.offR hf10 (Nat.le_refl _) |>.more hf10.size) (And.intro hS' (HF9.out.trans hf10))))
                  have HK : Hid (∀ (W2 : World) (Z : Option Addr) (cz : Nat) (n : Int), Below w10.heap.size w10 W2 → TyA W2 W2.heap.size Z [⟨8, ByteArray.empty, n⟩] → (n = S.m ∨ n = S.m + 1) → Calls Try.prog 24 #[.pointer (some ⟨s, 0, none⟩), .slice Z 1 cz] W2 (RetN W2 t)) := Lib.hid fun W2 Z cz n hW2 hZ hn => by
                    have hv : GdT [(⟨8, ByteArray.empty, n⟩ : Nd)] ∧ utT [(⟨8, ByteArray.empty, n⟩ : Nd)] = varT n := var_gd (by omega)
                    have hin : flT ByteArray.empty (inst S'.σ (utT [(⟨8, ByteArray.empty, n⟩ : Nd)])) = t := by
                      rw [hv.2, inst_var]
                      rcases hn with rfl | rfl
                      · rw [kA]; exact hflt
                      · rw [kB]; exact hflt
                    have hk := uKnown_any U s m m0 S' W2 Z cz [⟨8, ByteArray.empty, n⟩] (hS'.bel hW2) hZ (by simp) hv.1 (by
                      rw [hv.2]
                      rcases hn with rfl | rfl
                      · exact X.out.2.2.1
                      · exact X.out.2.2.2.1) (by
                      show (flT ByteArray.empty _).length ≤ _
                      rw [hin]; omega)
                    have e1 : flT (headNd [(⟨8, ByteArray.empty, n⟩ : Nd)]).s (inst S'.σ (utT [(⟨8, ByteArray.empty, n⟩ : Nd)])) = t := hin
                    rw [e1] at hk
                    exact hk
                  have HK2 : Hid (∀ (W2 : World) (Z : Option Addr) (cz : Nat), Below w10.heap.size w10 W2 → TyA W2 W2.heap.size Z (arrowN [⟨8, ByteArray.empty, S.m + 1⟩] [⟨8, ByteArray.empty, S.m⟩]) → Calls Try.prog 24 #[.pointer (some ⟨s, 0, none⟩), .slice Z (arrowN [(⟨8, ByteArray.empty, S.m + 1⟩ : Nd)] [⟨8, ByteArray.empty, S.m⟩]).length cz] W2 (RetN W2 (arrowN t t))) := Lib.hid fun W2 Z cz hW2 hZ => by
                    have hin : flT ByteArray.empty (inst S'.σ (utT (arrowN [(⟨8, ByteArray.empty, S.m + 1⟩ : Nd)] [⟨8, ByteArray.empty, S.m⟩]))) = arrowN t t := by
                      rw [TT.out.2.2.2.2.2.2.1, inst_arr, inst_var, inst_var, kA, kB, fl_arr, hflt]
                      rfl
                    have hk := uKnown_any U s m m0 S' W2 Z cz (arrowN [⟨8, ByteArray.empty, S.m + 1⟩] [⟨8, ByteArray.empty, S.m⟩]) (hS'.bel hW2) hZ (by simp [arrowN]) TT.out.2.2.2.2.2.1 (by
                      rw [TT.out.2.2.2.2.2.2.1]
                      exact TG.arr HUA.out.1 HUA.out.2 X.out.2.2.2.1 X.out.2.2.1) (by
                      show (flT ByteArray.empty _).length ≤ _
                      rw [hin]; simp [arrowN]; omega)
                    have e1 : flT (headNd (arrowN [(⟨8, ByteArray.empty, S.m + 1⟩ : Nd)] [⟨8, ByteArray.empty, S.m⟩])).s (inst S'.σ (utT (arrowN [(⟨8, ByteArray.empty, S.m + 1⟩ : Nd)] [⟨8, ByteArray.empty, S.m⟩]))) = arrowN t t := hin
                    rw [e1] at hk
                    exact hk
                  have HBW : Hid (∀ W2, Below w10.heap.size w10 W2 → Below W.heap.size W W2) := Lib.hid fun W2 hW2 => ext_trans (HFR.out w10 E10.out.2.2.2) hW2
                  clear hno hyes hf10 d hfit hS' kA kB hflt τ1 τ2 τ3
                  go_wp2_with fail
                  refine (alive13_any _).mono ?_
                  rintro e w11 ⟨rfl, hb11⟩
                  have Q11 := Lib.hid hb11
                  clear hb11
                  have hk1 := Lib.hid (HK.out w11 (some ⟨ba, oa, none⟩) ca S.m Q11.out ((E10.out.1.below Q11.out).more Q11.out.size) (.inl rfl))
                  go_wp2_with fail
                  refine hk1.out.mono ?_
                  clear hk1
                  rintro e w12 ⟨A12, c12, rfl, o12, hb12⟩
                  have Q12 := Lib.hid (And.intro (ext_trans Q11.out hb12) (OwnL.tyA o12))
                  clear o12 hb12
                  have ho := Lib.hid (one_any A12 P c12 cp w12.heap.size W.heap.size t t w12 Q12.out.2 (HP.out.1.below (HBW.out _ Q12.out.1)) (by omega))
                  rw [decide_eq_true rfl] at ho
                  go_wp2_with fail
                  refine ho.out.mono ?_
                  clear ho
                  rintro e w13 ⟨rfl, q13, rfl⟩
                  have Q13 := Lib.hid (ext_trans Q12.out.1 (bel_drewN w12 q13))
                  generalize w12.drewN q13 = w13 at *
                  clear Q12
                  have hk1 := Lib.hid (HK.out w13 (some ⟨bb, ob, none⟩) cb (S.m + 1) Q13.out ((E10.out.2.1.below Q13.out).more Q13.out.size) (.inr rfl))
                  go_wp2_with fail
                  refine hk1.out.mono ?_
                  clear hk1
                  rintro e w14 ⟨A14, c14, rfl, o14, hb14⟩
                  have Q14 := Lib.hid (And.intro (ext_trans Q13.out hb14) (OwnL.tyA o14))
                  clear o14 hb14
                  have ho := Lib.hid (one_any A14 P c14 cp w14.heap.size W.heap.size t t w14 Q14.out.2 (HP.out.1.below (HBW.out _ Q14.out.1)) (by omega))
                  rw [decide_eq_true rfl] at ho
                  go_wp2_with fail
                  refine ho.out.mono ?_
                  clear ho
                  rintro e w15 ⟨rfl, q15, rfl⟩
                  have Q15 := Lib.hid (ext_trans Q14.out.1 (bel_drewN w14 q15))
                  generalize w14.drewN q15 = w15 at *
                  clear Q14
                  have har := Lib.hid (rArrow_any (some ⟨bb, ob, none⟩) (some ⟨ba, oa, none⟩) cb ca [⟨8, ByteArray.empty, S.m + 1⟩] [⟨8, ByteArray.empty, S.m⟩] w15 ((E10.out.2.1.below Q15.out).more Q15.out.size) ((E10.out.1.below Q15.out).more Q15.out.size) (by simp))
                  go_wp2_with fail
                  refine har.out.mono ?_
                  clear har
                  rintro e w16 ⟨A16, c16, rfl, o16, hb16⟩
                  have Q16 := Lib.hid (ext_trans Q15.out hb16)
                  have hk2 := Lib.hid (HK2.out w16 A16 c16 Q16.out (OwnL.tyA o16))
                  clear o16 hb16
                  go_wp2_with fail
                  refine hk2.out.mono ?_
                  clear hk2
                  rintro e w17 ⟨A17, c17, rfl, o17, hb17⟩
                  have Q17 := Lib.hid (And.intro (ext_trans Q16.out hb17) (OwnL.tyA o17))
                  clear o17 hb17
                  have hbW := HBW.out _ Q17.out.1
                  have har := Lib.hid (rArrow_any P P cp cp t t w17 ((HP.out.1.below hbW).more hbW.size) ((HP.out.1.below hbW).more hbW.size) (by omega))
                  clear hbW
                  go_wp2_with fail
                  refine har.out.mono ?_
                  clear har
                  rintro e w18 ⟨A18, c18, rfl, o18, hb18⟩
                  have Q18 := Lib.hid (ext_trans Q17.out.1 hb18)
                  have hlen : (arrowN t t).length ≤ 9223372036854775807 := by simp [arrowN]; omega
                  have ho := Lib.hid (one_any A17 A18 c17 c18 w18.heap.size w18.heap.size (arrowN t t) (arrowN t t) w18 ((Q17.out.2.below hb18).more hb18.size) (OwnL.tyA o18) hlen)
                  rw [decide_eq_true rfl] at ho
                  clear o18 hb18 hlen
                  go_wp2_with fail
                  refine ho.out.mono ?_
                  clear ho
                  rintro e w19 ⟨rfl, q19, rfl⟩
                  go_wp2_with fail
                  go_ret
                  exact ⟨rfl, HBW.out _ (ext_trans Q18.out (bel_drewN w18 q19))⟩
end Go.Proofs.Ytblfeokjlecgkaa
