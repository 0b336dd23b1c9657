/- TreadSites, walked. -/
import Derived.Test.YtblfeokjlecgkaaT15
import Derived.Test.YtblfeokjlecgkaaT05
namespace Go.Proofs.Ytblfeokjlecgkaa
open Go.RowKit

attribute [local go_sem ↓] Go.wp_at_zero Go.wp_at_succ

theorem read_or {p : Nat} {r : RRes} {w w' : World} {e : Ending} {M : Nat} (hn : NamR M r) (h : ReadPost p r w e w') :
    Below w.heap.size w w' ∧ ((∃ q x : Int, 0 < x ∧ x < 100 ∧ e = .returned (.tuple #[.slice none 0 0, .int .i64 0, .slice none 0 0, .int .i64 q, .int .i64 x])) ∨
      ∃ (t : List Nd) (st : RS) (B : Option Addr) (cb : Nat) (SA : Option Addr) (sc : Nat), r = .ok t st ∧ rightB t = true ∧ e = .returned (.tuple #[.slice B t.length cb, .int .i64 st.pos, .slice SA st.si.length sc, .int .i64 0, .int .i64 0]) ∧ TyA w' w'.heap.size B t ∧ OwnSi w' w.heap.size SA sc st.si) := by
  cases r with
  | bad q x => exact ⟨h.1, .inl ⟨q, x, hn.1, hn.2, h.2⟩⟩
  | ok t st =>
    rcases h.2 with ⟨h1, B, cb, SA, sc, h2, h3, h4⟩ | ⟨h1, x, h2, h3, h4⟩
    · exact ⟨h.1, .inr ⟨t, st, B, cb, SA, sc, rfl, h1, h2, h3, h4⟩⟩
    · exact ⟨h.1, .inl ⟨p, x, h2, h3, h4⟩⟩

theorem tyA_cells4 {w : World} {B b1 o1 : Nat} {xs : List Nd} (h : TyA w B (some ⟨b1, o1, none⟩) xs) {i : Nat} {x : Nd} (hx : xs[i]? = some x) :
    b1 < B ∧ w.cell? ⟨b1, o1 + i * 3, none⟩ = some (.int .i64 x.k) ∧ w.cell? ⟨b1, o1 + i * 3 + 1, none⟩ = some (.string x.s) ∧ w.cell? ⟨b1, o1 + i * 3 + 2, none⟩ = some (.int .i64 x.n) := by
  obtain ⟨b, o, e, h1, h2, h3, h4⟩ := h.at_ hx
  injection e with e
  injection e with e1 e2
  subst e1 e2
  exact ⟨h1, h2, h3, h4⟩
theorem wrap64_two {k : Nat} (h : k < 100000) : wrap64 ((k : Int) + 1 + 1) = ((k + 1 + 1 : Nat) : Int) := by unfold wrap64; omega
theorem si_at {w : World} {b : Nat} {p e : Int} {m : Bool} (h : w.heap[b]? = some (.cells #[.int .i64 p, .int .i64 e, .bool m] 71 (0, 0))) : w.cell? ⟨b, 0, none⟩ = some (.int .i64 p) ∧ w.cell? ⟨b, 1, none⟩ = some (.int .i64 e) ∧ w.cell? ⟨b, 2, none⟩ = some (.bool m) := ⟨by simp [World.cell?, h], by simp [World.cell?, h], by simp [World.cell?, h]⟩

set_option maxRecDepth 100000 in
set_option maxHeartbeats 8000000 in
theorem treadSites_law (s : ByteArray) (x1 x2 : Int) (W : World) (hs : s.size ≤ 9223372036854775807) :
    Calls Try.prog 10 #[.string s, .int .i64 x1, .int .i64 x2] W fun e w' => e = .returned (.bool true) ∧ Below W.heap.size W w' := by
  by_cases g1 : 3000 < s.size
  · have h1 : (s.size : Int) > 3000 := by omega
    clear g1 hs
    go_enter Try.func10, Try.ntmps10
    go_wp2_with fail
    refine (alive4_any _).mono ?_
    rintro e w1 ⟨rfl, hb⟩
    go_wp2_with fail
    go_ret
    exact ⟨rfl, hb⟩
  have h1 : ¬ (s.size : Int) > 3000 := by omega
  by_cases h2 : x1 < 1
  · clear g1 hs
    go_enter Try.func10, Try.ntmps10
    go_wp2_with fail
    refine (alive4_any _).mono ?_
    rintro e w1 ⟨rfl, hb⟩
    go_wp2_with fail
    go_ret
    exact ⟨rfl, hb⟩
  by_cases h3 : x2 < 1
  · clear g1 hs
    go_enter Try.func10, Try.ntmps10
    go_wp2_with fail
    refine (alive4_any _).mono ?_
    rintro e w1 ⟨rfl, hb⟩
    go_wp2_with fail
    go_ret
    exact ⟨rfl, hb⟩
  by_cases h4 : x1 > 1000000
  · clear g1 hs
    go_enter Try.func10, Try.ntmps10
    go_wp2_with fail
    refine (alive4_any _).mono ?_
    rintro e w1 ⟨rfl, hb⟩
    go_wp2_with fail
    go_ret
    exact ⟨rfl, hb⟩
  have HT := Lib.hid (tokens_any s W (by omega))
  have HS := Lib.hid (show s.size ≤ 3000 by omega)
  have HX := Lib.hid (show 1 ≤ x1 ∧ x1 ≤ 1000000 ∧ 1 ≤ x2 by omega)
  clear g1 hs
  go_enter Try.func10, Try.ntmps10
  go_wp2_with fail
  refine HT.out.mono ?_
  clear HT
  rintro e w1 (⟨A, c, l, rfl, hlen, htk, hown, hb1⟩ | ⟨⟨p, rfl⟩, hb1, _⟩)
  · obtain ⟨n, hn⟩ : ∃ n, n = l.length + 1 := ⟨_, rfl⟩
    rw [← hn]
    have HTK := Lib.hid htk
    have HNL := Lib.hid hn
    have HLN := Lib.hid hlen
    have HB1 := Lib.hid hb1
    obtain ⟨r, hr⟩ : ∃ r, r = wholeF (l ++ [endT s]) x1 (leftN x2) ⟨0, []⟩ := ⟨_, rfl⟩
    have HRR := Lib.hid hr
    have HNM : Hid (NamR s.size r) := Lib.hid (by rw [hr]; exact wholeF_nam (lab_toks htk) _ _)
    have HC : Hid (Calls Try.prog 41 #[.slice A n c, .int .i64 0, .int .i64 x1, .int .i64 x2] w1 (ReadPost 0 r w1)) := Lib.hid (by
      have h := Read_any (c := c) (p := 0) (M := s.size) (s0 := x1) (lv := x2) (OwnL.read encK4_len hown) (by rw [List.length_append, List.length_singleton]; omega) (Nat.zero_le _) HX.out.1 HX.out.2.1 HX.out.2.2 (lab_toks htk) (by have := HS.out; omega)
      rw [List.length_append, List.length_singleton, ← hn, ← hr] at h
      exact h)
    clear htk hn hlen hb1 hown hr
    go_wp2_with fail
    refine HC.out.mono ?_
    clear HC
    intro e w2 h
    obtain ⟨hb2, h | h⟩ := read_or HNM.out h
    · obtain ⟨q, x, hx0, hx1, rfl⟩ := h
      have HB2 := Lib.hid (ext_trans HB1.out hb2)
      have hx : (x == 0) = false := by rw [beq_eq_false_iff_ne]; omega
      clear hx0 hx1 hb2 h
      go_wp2_with fail
      refine (alive4_any _).mono ?_
      rintro e w3 ⟨rfl, hb⟩
      go_wp2_with fail
      go_ret
      exact ⟨rfl, ext_trans HB2.out hb⟩
    · obtain ⟨t, st, B, cb, SA, sc, hre, hrt, rfl, ht, ho⟩ := h
      have HB2 := Lib.hid (ext_trans HB1.out hb2)
      rw [hre] at HRR
      obtain ⟨q1, q2, hok, hpm⟩ := read_sites HTK.out HRR.out.symm
      have HOK := Lib.hid (And.intro hok hpm)
      have HT2 := Lib.hid (And.intro ht ho)
      have hq1 : ¬ ((st.pos : Int) < 1) := by omega
      have HNL2 := HNL.out
      have hq2 : ¬ ((st.pos : Int) ≥ (n : Int)) := by omega
      have HRG : Hid (Calls Try.prog 28 #[.slice B t.length cb] w2 fun e w' => e = .returned (.bool true) ∧ Below w2.heap.size w2 w') := Lib.hid (by
        have hg : GoodR (l ++ [endT s]) ⟨0, []⟩ (.ok t st) := by rw [HRR.out]; exact wholeF_good _ _ _ _ (Nat.zero_le _)
        have h1 := hg.le
        have h2 := hg.top
        have h3 := HLN.out
        have h4 := HS.out
        rw [List.length_append, List.length_singleton] at h2
        have h := rRight_any B cb t w2 ht (by omega) fun x hx => by
          have h5 : NamR s.size (.ok t st) := by rw [← hre]; exact HNM.out
          have := h5 x hx
          omega
        rw [right_eq, hrt] at h
        exact h)
      clear hre hrt q1 q2 hok hpm ht ho hb2 HNL2 h
      go_wp2_with fail
      refine HRG.out.mono ?_
      clear HRG
      rintro e w3 ⟨rfl, hb3⟩
      have HB3 := Lib.hid (ext_trans HB2.out hb3)
      have HT3 : Hid (TyA w3 w3.heap.size B t ∧ ReadL 3 encSi w3 w3.heap.size SA st.si) := Lib.hid ⟨(HT2.out.1.below hb3).more hb3.size, (ReadL.below (OwnL.read encSi_len HT2.out.2) hb3).more hb3.size⟩
      clear hb3
      obtain ⟨m, hm⟩ : ∃ m, m = st.si := ⟨_, rfl⟩
      rw [← hm] at HOK HT3
      have HML : Hid (m.length ≤ 3001) := Lib.hid (by
        have hg : GoodR (l ++ [endT s]) ⟨0, []⟩ (.ok t st) := by rw [HRR.out]; exact wholeF_good _ _ _ _ (Nat.zero_le _)
        obtain ⟨m', h5, h6⟩ := hg.si
        have h2 := hg.top
        rw [List.length_append, List.length_singleton] at h2
        have h3 := HLN.out
        have h4 := HS.out
        rw [hm, h5]
        simp only [List.nil_append]
        dsimp only at h6
        omega)
      have HTL : Hid (t.length ≤ 3001) := Lib.hid (by
        have hg : GoodR (l ++ [endT s]) ⟨0, []⟩ (.ok t st) := by rw [HRR.out]; exact wholeF_good _ _ _ _ (Nat.zero_le _)
        have h1 := hg.le
        have h2 := hg.top
        rw [List.length_append, List.length_singleton] at h2
        have h3 := HLN.out
        have h4 := HS.out
        dsimp only at h1
        omega)
      have hd1 : decide ((st.pos : Int) < 1) = false := decide_eq_false (by omega)
      have hd2 : decide (n ≤ st.pos) = false := decide_eq_false (by omega)
      go_upto_region 13 with fail
      rw [← hm]
      try simp only [hd1, hd2, Bool.or_false]
      clear hd1 hd2 hq1 hq2
      clear hm HRR HNM HT2
      go_loopw [16, 17] (fun s16 _ wr => ∃ i : Nat, s16 = .int .i64 i ∧ i ≤ m.length ∧ Hid (Below w3.heap.size w3 wr)) (fun s16 _ _ => m.length - (intOf s16).toNat)
      case atStart => exact ⟨0, rfl, Nat.zero_le _, Lib.hid (Below.refl _ _)⟩
      case round =>
        obtain ⟨i, rfl, hi, HBr⟩ := hrel
        by_cases hl : i < m.length
        · obtain ⟨p, hp⟩ := getq_ex hl
          obtain ⟨hp2, hk, h63⟩ := HOK.out.1.1 p (List.mem_of_getElem? hp)
          obtain ⟨b, o, rfl, hlt, hc⟩ := HT3.out.2 (fun e => by rw [e] at hp; simp at hp)
          have HC : Hid (∀ w', Below w3.heap.size w3 w' → w'.cell? ⟨b, o + i * 3, none⟩ = some (.int .i64 p.1) ∧ w'.cell? ⟨b, o + i * 3 + 1, none⟩ = some (.int .i64 p.2) ∧ w'.cell? ⟨b, o + i * 3 + 2, none⟩ = some (.bool false)) := Lib.hid fun w' hw =>
            ⟨(hw.cell (p := ⟨b, _, none⟩) hlt).trans (hc i p hp 0 _ rfl), (hw.cell (p := ⟨b, _, none⟩) hlt).trans (hc i p hp 1 _ rfl), (hw.cell (p := ⟨b, _, none⟩) hlt).trans (hc i p hp 2 _ rfl)⟩
          obtain ⟨c0, c1, c2⟩ := HC.out wr HBr.out
          obtain ⟨w4, hw4⟩ : ∃ w4, w4 = wr.alloc (.cells #[.int .i64 p.1, .int .i64 p.2, .bool false] 71) := ⟨_, rfl⟩
          have HB4 : Hid (Below w3.heap.size w3 w4) := Lib.hid (by rw [hw4]; exact ext_alloc HBr.out _)
          have e0 : ∀ j, (w4.drewN j).heap[wr.heap.size]? = some (.cells #[.int .i64 p.1, .int .i64 p.2, .bool false] 71 (0, 0)) := fun j => by rw [hw4]; exact heap_alloc_new wr _
          have d0 : ∀ j, (w4.drewN j).cell? ⟨wr.heap.size, 0, none⟩ = some (.int .i64 p.1) := fun j => (si_at (e0 j)).1
          have d1 : ∀ j, (w4.drewN j).cell? ⟨wr.heap.size, 1, none⟩ = some (.int .i64 p.2) := fun j => (si_at (e0 j)).2.1
          have d2 : ∀ j, (w4.drewN j).cell? ⟨wr.heap.size, 2, none⟩ = some (.bool false) := fun j => (si_at (e0 j)).2.2
          clear e0
          obtain ⟨a, q⟩ := p
          dsimp only at hp2 hk h63 c0 c1 c2 d0 d1 d2 hw4
          subst hp2
          have ea : ((a + 1 : Nat) : Int) = (a : Int) + 1 := by omega
          rw [ea] at c1 hw4
          have d1' : ∀ j, (w4.drewN j).cell? ⟨wr.heap.size, 1, none⟩ = some (.int .i64 ((a : Int) + 1)) := fun j => by rw [← ea]; exact d1 j
          clear d1 ea
          have hw : IntKind.i64.wrap ((a : Int) + 1) = (a : Int) + 1 := IntWalk.i64_in _ (by have := HS.out; omega)
          have hwi : IntKind.i64.wrap ((i : Int) + 1) = ((i + 1 : Nat) : Int) := IntWalk.i64_in _ (by have := HML.out; omega)
          have h5 : ¬ ((a : Int) < 0) := by omega
          have h6 : ¬ ((a : Int) + 1 > (s.size : Int)) := by omega
          have h63n : ((s[a]'hk).toNat : Int) = 63 := by rw [h63]; rfl
          cases i with
          | zero =>
            clear hc hp HC
            rw [Nat.zero_mul, Nat.add_zero] at c0 c1 c2
            go_upto_region 16 with fail
            rw [← hw4]
            clear hw4 c0 c1 c2
            go_quiet (fail)
            obtain ⟨w5, hw5⟩ : ∃ w5, w5 = w4.drewN nq := ⟨_, rfl⟩
            rw [← hw5]
            have HB5 : Hid (Below w3.heap.size w3 w5) := Lib.hid (by rw [hw5]; exact below_drewN HB4.out _)
            clear hw5
            go_wp2_with fail
            go_roundw
            case rel => exact ⟨0 + 1, rfl, hl, HB5⟩
            case measure => simp [intOf]; omega
          | succ k =>
            obtain ⟨p, hp'⟩ := getq_ex (show k < m.length by omega)
            have hlt2 : (p.1 : Int) < (a : Int) := by
              obtain ⟨i1, e1⟩ := List.getElem?_eq_some_iff.1 hp
              obtain ⟨i2, e2⟩ := List.getElem?_eq_some_iff.1 hp'
              have := (List.pairwise_iff_getElem.1 HOK.out.1.2) k (k + 1) i2 i1 (Nat.lt_succ_self _)
              rw [e1, e2] at this
              dsimp only at this
              omega
            have hge : ¬ ((p.1 : Int) ≥ (a : Int)) := by omega
            have p0 : ∀ j, (w4.drewN j).cell? ⟨b, o + k * 3, none⟩ = some (.int .i64 p.1) := fun j => ((below_drewN HB4.out j).cell (p := ⟨b, _, none⟩) hlt).trans (hc k p hp' 0 _ rfl)
            have hwk : IntKind.i64.wrap (k : Int) = (k : Int) := IntWalk.i64_in _ (by have := HML.out; omega)
            have hk1 : (k : Int) + 1 > 0 := by omega
            have hkm : k < m.length := by omega
            clear hc hp HC hp' hlt2
            go_upto_region 16 with fail
            rw [← hw4]
            clear hw4 c0 c1 c2
            go_quiet (fail)
            obtain ⟨w5, hw5⟩ : ∃ w5, w5 = w4.drewN nq := ⟨_, rfl⟩
            rw [← hw5]
            have HB5 : Hid (Below w3.heap.size w3 w5) := Lib.hid (by rw [hw5]; exact below_drewN HB4.out _)
            clear hw5
            go_wp2_with fail
            go_roundw
            case rel => exact ⟨(k + 1) + 1, by rw [show wrap64 ((k : Int) + 1 + 1) = ((k + 1 + 1 : Nat) : Int) from wrap64_two (by have := HML.out; omega)], hl, HB5⟩
            case measure =>
              rw [show wrap64 ((k : Int) + 1 + 1) = ((k + 1 + 1 : Nat) : Int) from wrap64_two (by have := HML.out; omega)]
              simp [intOf]
              omega
        · obtain ⟨w6, hw6⟩ : ∃ w6, w6 = wr := ⟨_, rfl⟩
          rw [← hw6] at HBr
          go_upto_region 19 with fail
          rw [← hw6]
          clear hw6
          go_loopw [15, 18, 19] (fun s15 s18 _ wr => ∃ i : Nat, s15 = .int .i64 (dqsC t i) ∧ s18 = .int .i64 i ∧ i ≤ t.length ∧ Hid (Below w3.heap.size w3 wr)) (fun _ s18 _ _ => t.length - (intOf s18).toNat)
          case atStart => exact ⟨0, rfl, rfl, Nat.zero_le _, HBr⟩
          case round =>
            clear hl hi
            obtain ⟨i, rfl, rfl, hi, HBr⟩ := hrel
            by_cases hl : i < t.length
            · obtain ⟨x, hx⟩ := getq_ex hl
              obtain ⟨b1, o1, rfl, hlt, _, _, _⟩ := HT3.out.1.at_ hx
              have HCt : Hid (∀ w', Below w3.heap.size w3 w' → ∀ (k : Nat) (y : Nd), t[k]? = some y → w'.cell? ⟨b1, o1 + k * 3, none⟩ = some (.int .i64 y.k) ∧ w'.cell? ⟨b1, o1 + k * 3 + 2, none⟩ = some (.int .i64 y.n)) := Lib.hid fun w' hw k y hy => by
                obtain ⟨_, h1, _, h2⟩ := tyA_cells4 (HT3.out.1.below hw) hy
                exact ⟨h1, h2⟩
              have HX0 := Lib.hid hx
              have hwi : IntKind.i64.wrap ((i : Int) + 1) = ((i + 1 : Nat) : Int) := IntWalk.i64_in _ (by have := HTL.out; omega)
              obtain ⟨e1, e2, e3⟩ := HCt.out wr HBr.out i x hx |>.imp_right fun h => And.intro h trivial
              cases hk : (x.k == 0) with
              | true =>
                have hn := dyn_in HOK.out.2 (List.mem_of_getElem? hx) hk
                have hn1 : ¬ x.n < x1 := by omega
                have hwx : IntKind.i64.wrap (x1 + (m.length : Int)) = x1 + (m.length : Int) := IntWalk.i64_in _ (by have := HML.out; have := HX.out; omega)
                have hn2 : ¬ x.n ≥ x1 + (m.length : Int) := by omega
                have hwc : IntKind.i64.wrap ((dqsC t i : Int) + 1) = ((dqsC t i + 1 : Nat) : Int) := IntWalk.i64_in _ (by have := dqsC_le t i; have := HTL.out; omega)
                clear hn hx hlt
                go_upto_region 26 with fail
                clear e1 e2 e3
                go_loopw [19] (fun s19 wr => ∃ j : Nat, s19 = .int .i64 j ∧ j ≤ i ∧ Hid (Below w3.heap.size w3 wr)) (fun s19 _ => i - (intOf s19).toNat)
                case atStart => exact ⟨0, rfl, Nat.zero_le _, HBr⟩
                case round =>
                  obtain ⟨j, rfl, hj, HBj⟩ := hrel
                  by_cases hji : j < i
                  · obtain ⟨y, hy⟩ := getq_ex (show j < t.length by omega)
                    have hwj : IntKind.i64.wrap ((j : Int) + 1) = ((j + 1 : Nat) : Int) := IntWalk.i64_in _ (by have := HTL.out; omega)
                    have hjt : j < t.length := by omega
                    obtain ⟨ws, hws⟩ : ∃ ws, ws = wr := ⟨_, rfl⟩
                    rw [← hws] at HBj ⊢
                    clear hws
                    have c0 : ∀ q, (ws.drewN q).cell? ⟨b1, o1 + i * 3, none⟩ = some (.int .i64 x.k) := fun q => (HCt.out _ (below_drewN HBj.out q) i x HX0.out).1
                    have c2 : ∀ q, (ws.drewN q).cell? ⟨b1, o1 + i * 3 + 2, none⟩ = some (.int .i64 x.n) := fun q => (HCt.out _ (below_drewN HBj.out q) i x HX0.out).2
                    have d0 : ∀ q, (ws.drewN q).cell? ⟨b1, o1 + j * 3, none⟩ = some (.int .i64 y.k) := fun q => (HCt.out _ (below_drewN HBj.out q) j y hy).1
                    have d2 : ∀ q, (ws.drewN q).cell? ⟨b1, o1 + j * 3 + 2, none⟩ = some (.int .i64 y.n) := fun q => (HCt.out _ (below_drewN HBj.out q) j y hy).2
                    cases hyk : (y.k == 0) with
                    | false =>
                      clear hy
                      go_upto_region 28 with fail
                      go_quiet (fail)
                      obtain ⟨w5, hw5⟩ : ∃ w5, w5 = ws.drewN nq := ⟨_, rfl⟩
                      rw [← hw5]
                      have HB5 : Hid (Below w3.heap.size w3 w5) := Lib.hid (by rw [hw5]; exact below_drewN HBj.out _)
                      clear hw5 c0 c2 d0 d2
                      go_wp2_with fail
                      go_roundw
                      case rel => exact ⟨j + 1, rfl, hji, HB5⟩
                      case measure => simp [intOf]; omega
                    | true =>
                      have hyn : (y.n == x.n) = false := by
                        rw [beq_eq_false_iff_ne]
                        exact dyn_two HOK.out.2 hy HX0.out hji hyk hk
                      clear hy
                      go_upto_region 28 with fail
                      go_quiet (fail)
                      obtain ⟨w5, hw5⟩ : ∃ w5, w5 = ws.drewN nq := ⟨_, rfl⟩
                      rw [← hw5]
                      have HB5 : Hid (Below w3.heap.size w3 w5) := Lib.hid (by rw [hw5]; exact below_drewN HBj.out _)
                      clear hw5 c0 c2 d0 d2
                      go_wp2_with fail
                      go_roundw
                      case rel => exact ⟨j + 1, rfl, hji, HB5⟩
                      case measure => simp [intOf]; omega
                  · go_wp2_with fail
                    go_roundw
                    case rel => exact ⟨i + 1, by rw [dqsC_succ HX0.out, hk]; rfl, rfl, hl, HBj⟩
                    case measure => simp [intOf]; omega
              | false =>
                clear hx hlt
                go_upto_region 26 with fail
                clear e1 e2 e3
                go_loopw [19] (fun s19 wr => ∃ j : Nat, s19 = .int .i64 j ∧ j ≤ i ∧ Hid (Below w3.heap.size w3 wr)) (fun s19 _ => i - (intOf s19).toNat)
                case atStart => exact ⟨0, rfl, Nat.zero_le _, HBr⟩
                case round =>
                  obtain ⟨j, rfl, hj, HBj⟩ := hrel
                  by_cases hji : j < i
                  · obtain ⟨y, hy⟩ := getq_ex (show j < t.length by omega)
                    have hwj : IntKind.i64.wrap ((j : Int) + 1) = ((j + 1 : Nat) : Int) := IntWalk.i64_in _ (by have := HTL.out; omega)
                    have hjt : j < t.length := by omega
                    obtain ⟨ws, hws⟩ : ∃ ws, ws = wr := ⟨_, rfl⟩
                    rw [← hws] at HBj ⊢
                    clear hws
                    have c0 : ∀ q, (ws.drewN q).cell? ⟨b1, o1 + i * 3, none⟩ = some (.int .i64 x.k) := fun q => (HCt.out _ (below_drewN HBj.out q) i x HX0.out).1
                    have c2 : ∀ q, (ws.drewN q).cell? ⟨b1, o1 + i * 3 + 2, none⟩ = some (.int .i64 x.n) := fun q => (HCt.out _ (below_drewN HBj.out q) i x HX0.out).2
                    have d0 : ∀ q, (ws.drewN q).cell? ⟨b1, o1 + j * 3, none⟩ = some (.int .i64 y.k) := fun q => (HCt.out _ (below_drewN HBj.out q) j y hy).1
                    have d2 : ∀ q, (ws.drewN q).cell? ⟨b1, o1 + j * 3 + 2, none⟩ = some (.int .i64 y.n) := fun q => (HCt.out _ (below_drewN HBj.out q) j y hy).2
                    · clear hy
                      go_upto_region 28 with fail
                      go_quiet (fail)
                      obtain ⟨w5, hw5⟩ : ∃ w5, w5 = ws.drewN nq := ⟨_, rfl⟩
                      rw [← hw5]
                      have HB5 : Hid (Below w3.heap.size w3 w5) := Lib.hid (by rw [hw5]; exact below_drewN HBj.out _)
                      clear hw5 c0 c2 d0 d2
                      go_wp2_with fail
                      go_roundw
                      case rel => exact ⟨j + 1, rfl, hji, HB5⟩
                      case measure => simp [intOf]; omega
                  · go_wp2_with fail
                    go_roundw
                    case rel => exact ⟨i + 1, by rw [dqsC_succ HX0.out, hk]; rfl, rfl, hl, HBj⟩
                    case measure => simp [intOf]; omega
            · obtain rfl : i = t.length := Nat.le_antisymm hi (Nat.le_of_not_lt hl)
              have hc := dqsC_all HOK.out.2
              rw [hc]
              have HBz := HBr
              clear hl hi hc
              obtain ⟨ws, hws⟩ : ∃ ws, ws = wr := ⟨_, rfl⟩
              rw [← hws] at HBz
              go_upto_region 30 with fail
              rw [← hws]
              clear hws
              go_wp2_with fail
              refine (alive4_any _).mono ?_
              rintro e w7 ⟨rfl, hb⟩
              go_wp2_with fail
              go_ret
              exact ⟨rfl, ext_trans (ext_trans HB3.out HBz.out) hb⟩
  · have HB1 := Lib.hid hb1
    clear hb1
    go_wp2_with fail
    refine (alive4_any _).mono ?_
    rintro e w2 ⟨rfl, hb⟩
    go_wp2_with fail
    go_ret
    exact ⟨rfl, ext_trans HB1.out hb⟩
end Go.Proofs.Ytblfeokjlecgkaa
