/- UnifyPlain, walked. -/
import Derived.Test.YtblfeokjlecgkaaP01
import Derived.Test.YtblfeokjlecgkaaP02
namespace Go.Proofs.Ytblfeokjlecgkaa
open Go.RowKit

set_option maxRecDepth 100000 in
set_option maxHeartbeats 8000000 in
theorem unifyPlain_law (next : Int) (A : Option Addr) (c : Nat) (vs : List StV) (xs : List Stp) (P Q : Option Addr) (cp cq : Nat) (a b : List Nd) (W : World) (hr : ReadSt W W.heap.size A vs) (hs : Stps W W.heap.size vs xs) (hl : vs.length ≤ 9223372036854775807) (hok : ∀ x ∈ xs, x.Ok)
    (ha : TyA W W.heap.size P a ∧ a.length ≤ cp ∧ a.length ≤ 9223372036854775807 ∧ ∀ x ∈ a, x.Ok) (hb : TyA W W.heap.size Q b ∧ b.length ≤ cq ∧ b.length ≤ 9223372036854775807 ∧ ∀ x ∈ b, x.Ok) :
    Calls Try.prog 7 #[.int .i64 next, .slice A vs.length c, .agg #[.slice P a.length cp, .slice Q b.length cq]] W fun e w' => e = .returned (.bool true) ∧ Below W.heap.size W w' := by
  have hbx := Lib.hid (ext_alloc (Below.refl W.heap.size W) (.cells #[.slice P a.length cp, .slice Q b.length cq] 54))
  have HC : Hid (∀ v, Below (W.alloc (.cells #[.slice P a.length cp, .slice Q b.length cq] 54)).heap.size (W.alloc (.cells #[.slice P a.length cp, .slice Q b.length cq] 54)) v → v.cell? ⟨W.heap.size, 0, none⟩ = some (.slice P a.length cp) ∧ v.cell? ⟨W.heap.size, 1, none⟩ = some (.slice Q b.length cq) ∧ W.heap.size < v.heap.size) := Lib.hid fun v hv => by
    have h := (hv.block W.heap.size (by simp)).trans (heap_alloc_new W (.cells #[.slice P a.length cp, .slice Q b.length cq] 54))
    refine ⟨?_, ?_, (Array.getElem?_eq_some_iff.1 h).1⟩ <;> simp [World.cell?, h]
  have hm := Lib.hid (mays_any next A c vs xs _ ((hr.below hbx.out).more hbx.out.size) ((hs.below hbx.out).more hbx.out.size) hl hok)
  have H := Lib.hid (And.intro hr hs)
  have HP := Lib.hid (And.intro ha hb)
  have hlx := Lib.hid hs.1
  clear hr hs hok ha hb
  go_enter Try.func7, Try.ntmps7
  go_wp2_with fail
  refine hm.out.mono ?_
  clear hm
  rintro e w1 ⟨rfl, hb1⟩
  have B1 := Lib.hid (And.intro hb1 (ext_trans hbx.out hb1))
  clear hb1
  cases hmb : maysB next xs with
  | false =>
    clear hmb
    go_wp2_with fail
    refine (alive13_any _).mono ?_
    rintro e w2 ⟨rfl, hb⟩
    go_wp2_with fail
    go_ret
    exact ⟨rfl, ext_trans B1.out.2 hb⟩
  | true =>
    have HMB := Lib.hid hmb
    clear hmb
    obtain ⟨q0, q1, qz⟩ := HC.out _ B1.out.1
    have hp := Lib.hid (plain07_any P cp a 40 w1 ((HP.out.1.1.below B1.out.2).more B1.out.2.size) HP.out.1.2.2.1 fun y hy => (HP.out.1.2.2.2 y hy).s1)
    go_wp2_with fail
    refine hp.out.mono ?_
    clear hp
    rintro e w2 ⟨rfl, hb2⟩
    have B2 := Lib.hid (And.intro (ext_trans B1.out.1 hb2) (ext_trans B1.out.2 hb2))
    clear hb2 q0 q1 qz
    cases hpa : plain07B a 40 with
    | false =>
      clear hpa
      go_wp2_with fail
      refine (alive13_any _).mono ?_
      rintro e w3 ⟨rfl, hb⟩
      go_wp2_with fail
      go_ret
      exact ⟨rfl, ext_trans B2.out.2 hb⟩
    | true =>
      have HPA := Lib.hid (plain07_parts hpa)
      clear hpa
      obtain ⟨q0, q1, qz⟩ := HC.out _ B2.out.1
      have hp := Lib.hid (plain07_any Q cq b 40 w2 ((HP.out.2.1.below B2.out.2).more B2.out.2.size) HP.out.2.2.2.1 fun y hy => (HP.out.2.2.2.2 y hy).s1)
      go_wp2_with fail
      refine hp.out.mono ?_
      clear hp
      rintro e w3 ⟨rfl, hb3⟩
      have B3 := Lib.hid (And.intro (ext_trans B2.out.1 hb3) (ext_trans B2.out.2 hb3))
      clear hb3 q0 q1 qz
      cases hpb : plain07B b 40 with
      | false =>
        clear hpb
        go_wp2_with fail
        refine (alive13_any _).mono ?_
        rintro e w4 ⟨rfl, hb⟩
        go_wp2_with fail
        go_ret
        exact ⟨rfl, ext_trans B3.out.2 hb⟩
      | true =>
        have HPB := Lib.hid (plain07_parts hpb)
        clear hpb
        obtain ⟨h0, h8, hlen, hU, _, _⟩ := mays_parts HMB.out
        obtain ⟨m0, rfl⟩ : ∃ m0 : Nat, next = (m0 : Int) := ⟨next.toNat, by omega⟩
        have hm8 : m0 ≤ 8 := by omega
        have hv12 : vs.length ≤ 12 := by have := hlx.out; omega
        obtain ⟨U, hUd⟩ : ∃ U, U = labsM xs ++ (a.map Nd.s ++ b.map Nd.s) := ⟨_, rfl⟩
        have hU2 : U.length ≤ 100000 := by
          have h1 := HPA.out.1
          have h2 := HPB.out.1
          rw [hUd, List.length_append, List.length_append, List.length_map, List.length_map]
          omega
        have HG : Hid (∀ x ∈ xs, GoodS U (m0 : Int) x) := Lib.hid (mays_good (fun y hy => by rw [hUd]; exact List.mem_append_left _ hy) HMB.out)
        have HTD : Hid (Told U 0 (utT a) ∧ Told U 0 (utT b)) := Lib.hid ⟨plain_told (by rw [hUd]; simp [labsM]) (by rw [hUd]; simp [labsM]) (fun x hx => by rw [hUd]; exact List.mem_append_right _ (List.mem_append_left _ (List.mem_map.2 ⟨x, hx, rfl⟩))) HPA.out.2.1 HPA.out.2.2,
          plain_told (by rw [hUd]; simp [labsM]) (by rw [hUd]; simp [labsM]) (fun x hx => by rw [hUd]; exact List.mem_append_right _ (List.mem_append_right _ (List.mem_map.2 ⟨x, hx, rfl⟩))) HPB.out.2.1 HPB.out.2.2⟩
        clear h0 h8 hlen hU hUd hl
        go_wp2_with fail
        refine (new_any (m0 : Int) w3).mono ?_
        rintro e w4 ⟨s, m, rfl, z1, z2, z3, hst, hmap, hb4⟩
        have hg0 : SolG U s m m0 w4 (Kn.zero (m0 : Int)) := solG_new hU2 (by omega) z3 hst hmap
        have HS0 := Lib.hid hg0
        have HLO : Hid (W.heap.size + 1 ≤ s ∧ W.heap.size + 1 ≤ m ∧ Below W.heap.size W w4 ∧ Below (W.alloc (.cells #[.slice P a.length cp, .slice Q b.length cq] 54)).heap.size (W.alloc (.cells #[.slice P a.length cp, .slice Q b.length cq] 54)) w4) := Lib.hid (by
          have h1 := B3.out.1.size
          simp only [World.size_alloc] at h1
          exact ⟨by omega, by omega, ext_trans B3.out.2 hb4, ext_trans B3.out.1 hb4⟩)
        clear z1 z2 z3 hst hmap hb4 hg0
        have HFR : Hid (∀ wr, Fr (SX s m) w4 wr → Below W.heap.size W wr ∧ wr.cell? ⟨W.heap.size, 0, none⟩ = some (.slice P a.length cp) ∧ wr.cell? ⟨W.heap.size, 1, none⟩ = some (.slice Q b.length cq) ∧ W.heap.size < wr.heap.size) := Lib.hid fun wr hf => by
          have hb := fr_new (w0 := W.alloc (.cells #[.slice P a.length cp, .slice Q b.length cq] 54)) (by simp; exact HLO.out.1) (by simp; exact HLO.out.2.1) HLO.out.2.2.2 hf
          exact ⟨ext_trans hbx.out hb, HC.out _ hb⟩
        unfold pk
        go_wp2_with fail
        go_loopw [8] (fun s8 wr => ∃ i : Nat, s8 = .int .i64 i ∧ i ≤ vs.length ∧ Hid (ToldI U s m m0 xs i wr) ∧ Hid (Fr (SX s m) w4 wr)) (fun s8 _ => vs.length - (intOf s8).toNat)
        case atStart => exact ⟨0, rfl, Nat.zero_le _, Lib.hid ⟨_, by rw [List.take_zero]; exact RunB.start U (by omega), HS0.out⟩, Lib.hid (Fr.refl _ _)⟩
        case round =>
          obtain ⟨i, rfl, hi, HI, HF⟩ := hrel
          have HBr := Lib.hid (HFR.out wr HF.out)
          by_cases hp : i < vs.length
          · obtain ⟨x, hx⟩ := getq_ex (show i < xs.length by rw [← hlx.out]; exact hp)
            obtain ⟨b1, o1, A1, B1', ca, cb, rfl, hbz, ⟨q0, q1, q2, q3, q4, q5⟩, t1, t2, _⟩ := Stps.later H.out.1 H.out.2 HBr.out.1 hx
            have hsz := HBr.out.1.size
            have hdo : Hid (Calls Try.prog 19 #[pk s, stV x A1 ca B1' cb] wr (DoPost U s m m0 (xs.take i) x wr)) := Lib.hid (by
              obtain ⟨S, hR, hS⟩ := HI.out
              exact do_any U s m m0 (xs.take i) x S wr A1 B1' ca cb hR hS (HG.out x (List.mem_of_getElem? hx)) (by rw [List.length_take]; have := hlx.out; omega) hm8 (t1.more hsz) (t2.more hsz))
            have Hx := Lib.hid hx
            unfold pk at hdo
            clear hx t1 t2
            go_wp2_with fail
            refine hdo.out.mono ?_
            clear hdo
            intro e w5 hpost
            obtain ⟨v, rfl, hv, hf5, ho5, _⟩ := ToldI.next Hx.out hpost
            have G5 := Lib.hid (And.intro ho5 (HF.out.trans hf5))
            clear hpost hf5 ho5
            rcases hv with rfl | rfl
            · go_wp2_with fail
              go_roundw
              case rel => exact ⟨i + 1, by go_num, hp, Lib.hid (G5.out.1 (by first | rfl | trivial)), Lib.hid G5.out.2⟩
              case measure => simp [intOf]; omega
            · go_wp2_with fail
              refine (alive13_any _).mono ?_
              rintro e w6 ⟨rfl, hb⟩
              go_wp2_with fail
              go_ret
              exact ⟨rfl, ext_trans (HFR.out _ G5.out.2).1 hb⟩
          · obtain ⟨S, hR, hS⟩ : ∃ S, RunB U (m0 : Int) xs S ∧ SolG U s m m0 wr S := by
              obtain ⟨S, hR, hS⟩ := HI.out
              rw [List.take_of_length_le (by rw [← hlx.out]; omega)] at hR
              exact ⟨S, hR, hS⟩
            have G := Lib.hid (And.intro hR hS)
            have ha1 := Lib.hid (lawAll_any U s m m0 S wr hS hR.run.fit hm8)
            clear hR hS HI
            unfold pk at ha1
            go_wp2_with fail
            refine ha1.out.mono ?_
            clear ha1
            rintro e w7 ⟨V1, c1, v1, rfl, r1, hb7⟩
            have B7 := Lib.hid (And.intro r1 (And.intro hb7 (And.intro (G.out.2.bel hb7) (HF.out.trans (Fr.below hb7)))))
            obtain ⟨_, q0, q1, qz⟩ := HFR.out w7 B7.out.2.2.2
            have hbW := Lib.hid (HFR.out w7 B7.out.2.2.2).1
            have hagr := Lib.hid (uAgree_any U s m m0 S w7 P Q cp cq a b B7.out.2.2.1 ((HP.out.1.1.below hbW.out).more hbW.out.size) ((HP.out.2.1.below hbW.out).more hbW.out.size) (by have := HPA.out.1; omega) (by have := HPB.out.1; omega) (gd_of HPA.out.2.1).1 (gd_of HPB.out.2.1).1 ((HTD.out.1.mono (m' := (m0 : Int)) (by omega)).tg B7.out.2.2.1.hL B7.out.2.2.1.fm) ((HTD.out.2.mono (m' := (m0 : Int)) (by omega)).tg B7.out.2.2.1.hL B7.out.2.2.1.fm) (by
              have h1 := G.out.1.m
              have h2 := dyn_of (gd_of HPA.out.2.1).1
              have h3 := dyn_of (gd_of HPB.out.2.1).1
              have h4 := HPA.out.1
              have h5 := HPB.out.1
              have h6 := hlx.out
              omega))
            unfold pk at hagr
            clear r1 hb7
            go_wp2_with fail
            refine hagr.out.mono ?_
            clear hagr
            rintro e w8 ⟨ok, rfl, hf8, hno, hyes⟩
            have HOK : Hid (agG a.length a b = ok) := Lib.hid (by
              have hag := agG_told HPA.out.2.1 HPB.out.2.1 HPA.out.2.2 HPB.out.2.2
              cases ok with
              | true =>
                obtain ⟨S', d, _⟩ := hyes rfl
                exact hag.2 (plain_good d.st HTD.out.1 HTD.out.2)
              | false =>
                have hlow := pair_low (HTD.out.1.mono (m' := (m0 : Int)) (by omega)) (HTD.out.2.mono (m' := (m0 : Int)) (by omega))
                have hbad : Bad (m0 : Int) fun τ => allC xs τ ∧ CoI (utT a) (utT b) τ := by
                  rcases hno rfl with d | ⟨S', d, hn⟩
                  · exact G.out.1.run.dis d hlow
                  · exact G.out.1.run.big d.st hlow hn
                have := plain_bad G.out.1.run HTD.out.1 HTD.out.2 hbad
                cases hq : agG a.length a b with
                | false => rfl
                | true => exact absurd (hag.1 hq) this)
            have G8 := Lib.hid (And.intro (B7.out.2.2.2.trans hf8) (And.intro (B7.out.1.past B7.out.2.2.1.offR hf8) hyes))
            clear hno hyes hf8 q0 q1 qz hbW
            obtain ⟨_, q0, q1, qz⟩ := HFR.out w8 G8.out.1
            have hbW := Lib.hid (HFR.out w8 G8.out.1).1
            have hra := Lib.hid (rAgree_any a.length P Q cp cq a b w8 (Nat.le_refl _) ((HP.out.1.1.below hbW.out).more hbW.out.size) ((HP.out.2.1.below hbW.out).more hbW.out.size) (gd_of HPA.out.2.1).1.trw (gd_of HPB.out.2.1).1.trw (by have := HPA.out.1; omega) (by have := HPB.out.1; omega) HP.out.1.2.1 HP.out.2.2.1)
            rw [HOK.out] at hra
            cases ok with
            | false =>
              go_wp2_with fail
              refine hra.out.mono ?_
              rintro e w9 ⟨rfl, hb9⟩
              go_wp2_with fail
              refine (alive13_any _).mono ?_
              rintro e w10 ⟨rfl, hb10⟩
              go_wp2_with fail
              go_ret
              exact ⟨rfl, ext_trans (ext_trans hbW.out hb9) hb10⟩
            | true =>
              obtain ⟨S', d, hfit, hS'⟩ := G8.out.2.2 rfl
              have HK : Hid (canT [] (knownL m0 S') = canT [] (knownL m0 S)) := Lib.hid (plain_same G.out.1.run d.st HTD.out.1 HTD.out.2)
              have G9 := Lib.hid (And.intro hS' hfit)
              clear d hfit hS'
              go_wp2_with fail
              refine hra.out.mono ?_
              clear hra
              rintro e w9 ⟨rfl, hb9⟩
              have C9 := Lib.hid hb9
              clear hb9
              go_wp2_with fail
              refine (alive13_any _).mono ?_
              rintro e w10 ⟨rfl, hb10⟩
              have C10 := Lib.hid (ext_trans C9.out hb10)
              clear hb10
              have ha2 := Lib.hid (lawAll_any U s m m0 S' w10 (G9.out.1.bel C10.out) G9.out.2 hm8)
              unfold pk at ha2
              go_wp2_with fail
              refine ha2.out.mono ?_
              clear ha2
              rintro e w11 ⟨V2, c2, v2, rfl, r2, hb11⟩
              have B11 := Lib.hid (And.intro r2 (And.intro (keep_rowS V1 v1 _ _ _ G8.out.2.1 (ext_trans C10.out hb11)) (ext_trans (ext_trans hbW.out C10.out) hb11)))
              clear r2 hb11
              have ht := Lib.hid (types_any V2 V1 c2 c1 v2 v1 _ _ w11 B11.out.1.1 B11.out.2.1.1 B11.out.1.2 B11.out.2.1.2 (by
                have h1 := B11.out.1.2.1
                rw [h1, canT_len, knownL_len]
                omega) (known_short G9.out.2))
              rw [HK.out, decide_eq_true rfl] at ht
              go_wp2_with fail
              refine ht.out.mono ?_
              clear ht
              rintro e w12 ⟨rfl, q, rfl⟩
              go_wp2_with fail
              go_ret
              exact ⟨rfl, ext_trans B11.out.2.2 (bel_drewN _ _)⟩
end Go.Proofs.Ytblfeokjlecgkaa
