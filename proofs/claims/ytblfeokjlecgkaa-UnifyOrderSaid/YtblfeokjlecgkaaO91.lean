/- UnifyOrder, walked. -/
import Derived.Test.YtblfeokjlecgkaaO32
import Derived.Deep.CutBlock
namespace Go.Proofs.Ytblfeokjlecgkaa
open Go.RowKit

/-- Steps told so far: a good state, or they can't be. -/
def OrdI (U : List Lb) (s m m0 : Nat) (l : List Stp) (i : Nat) (v : Int) (wr : World) : Prop :=
  (v = 0 ∧ ∃ S, RunB U (m0 : Int) (l.take i) S ∧ SolG U s m m0 wr S) ∨ (v = 9 ∧ Bad (m0 : Int) (allC (l.take i)))
theorem allC_take {l : List Stp} {i : Nat} {τ : Va} (h : allC l τ) : allC (l.take i) τ := fun x hx => h x (List.mem_of_mem_take hx)
theorem take_snoc {l : List Stp} {i : Nat} {x : Stp} (h : l[i]? = some x) : l.take i ++ [x] = l.take (i + 1) := by
  rw [List.take_add_one, h]; rfl
theorem OrdI.next {U : List Lb} {s m m0 : Nat} {l : List Stp} {i : Nat} {x : Stp} {w : World} {e : Ending} {w' : World} (hx : l[i]? = some x) (h : DoPost U s m m0 (l.take i) x w e w') : ∃ v : Int, e = .returned (.int .i64 v) ∧ (v = 0 ∨ v = 9) ∧ Fr (SX s m) w w' ∧ OrdI U s m m0 l (i + 1) v w' := by
  obtain ⟨ok, rfl, hf, hno, hyes⟩ := h
  rw [take_snoc hx] at hno hyes
  cases ok with
  | false => exact ⟨9, rfl, .inr rfl, hf, .inr ⟨rfl, hno rfl⟩⟩
  | true => exact ⟨0, rfl, .inl rfl, hf, .inl ⟨rfl, hyes rfl⟩⟩
/-- The steps the other way round. -/
def revS (l : List Stp) : List Stp := l.reverse.map Stp.swap
theorem revS_len (l : List Stp) : (revS l).length = l.length := by unfold revS; simp
theorem revS_get {l : List Stp} {j k : Nat} {x : Stp} (h : l[k]? = some x) (hk : k + 1 + j = l.length) : (revS l)[j]? = some x.swap := by
  unfold revS
  rw [List.getElem?_map, List.getElem?_reverse (by omega), show l.length - 1 - j = k by omega, h]
  rfl
theorem revS_good {U : List Lb} {m0 : Int} {l : List Stp} (h : ∀ x ∈ l, GoodS U m0 x) : ∀ x ∈ revS l, GoodS U m0 x := fun x hx => by
  obtain ⟨y, hy, rfl⟩ := List.mem_map.1 hx
  exact (h y (List.mem_reverse.1 hy)).swap
/-- Both orders can be, or neither. -/
theorem order_same {U : List Lb} {s m s2 m2 m0 : Nat} {l : List Stp} {i j : Nat} {v1 v2 : Int} {w w' : World} (hg : ∀ x ∈ l, GoodS U (m0 : Int) x) (h1 : OrdI U s m m0 l i v1 w) (h2 : OrdI U s2 m2 m0 (revS l) j v2 w') (hi : v1 = 0 → i = l.length) (hj : v2 = 0 → j = l.length) : v1 = v2 := by
  have key : ∀ τ, allC (revS l) τ ↔ allC l τ := fun τ => allC_swap l τ
  rcases h1 with ⟨rfl, S, hR, _⟩ | ⟨rfl, hb⟩
  · rcases h2 with ⟨rfl, _⟩ | ⟨rfl, hb2⟩
    · rfl
    · exfalso
      rw [hi rfl, List.take_length] at hR
      exact hR.run.not_bad (allC_low fun x hx => revS_good hg x (List.mem_of_mem_take hx)) (fun τ hτ => allC_take ((key τ).2 hτ)) hb2
  · rcases h2 with ⟨rfl, S, hR, _⟩ | ⟨rfl, _⟩
    · exfalso
      rw [hj rfl, List.take_of_length_le (by rw [revS_len]; exact Nat.le_refl _)] at hR
      exact hR.run.not_bad (allC_low fun x hx => hg x (List.mem_of_mem_take hx)) (fun τ hτ => allC_take ((key τ).1 hτ)) hb
    · rfl

set_option maxRecDepth 100000 in
set_option maxHeartbeats 8000000 in
theorem unifyOrder_law (next : Int) (A : Option Addr) (c : Nat) (vs : List StV) (xs : List Stp) (W : World) (hr : ReadSt W W.heap.size A vs) (hs : Stps W W.heap.size vs xs) (hl : vs.length ≤ 9223372036854775807) (hok : ∀ x ∈ xs, x.Ok) :
    Calls Try.prog 6 #[.int .i64 next, .slice A vs.length c] W fun e w' => e = .returned (.bool true) ∧ Below W.heap.size W w' := by
  have hm := Lib.hid (mays_any next A c vs xs W hr hs hl hok)
  have H := Lib.hid (And.intro hr hs)
  have hlx := Lib.hid hs.1
  clear hr hs hok
  go_enter Try.func6, Try.ntmps6
  go_wp2_with fail
  refine hm.out.mono ?_
  clear hm
  rintro e w1 ⟨rfl, hb⟩
  have B1 := Lib.hid hb
  clear hb
  cases hmb : maysB next xs with
  | false =>
    clear hmb
    go_wp2_with fail
    refine (alive13_any _).mono ?_
    rintro e w2 ⟨rfl, hb⟩
    go_wp2_with fail
    go_ret
    exact ⟨rfl, ext_trans B1.out hb⟩
  | true =>
    obtain ⟨h0, h8, hlen, hU, _, hg⟩ := mays_parts hmb
    obtain ⟨m0, rfl⟩ : ∃ m0 : Nat, next = (m0 : Int) := ⟨next.toNat, by omega⟩
    have HG := Lib.hid hg
    have hm8 : m0 ≤ 8 := by omega
    have hv12 : vs.length ≤ 12 := by have := hlx.out; omega
    obtain ⟨U, hUd⟩ : ∃ U, U = labsM xs := ⟨_, rfl⟩
    rw [← hUd] at HG hU
    clear hmb hg h0 h8 hUd hl
    go_wp2_with fail
    refine (new_any (m0 : Int) w1).mono ?_
    rintro e w2 ⟨s, m, rfl, z1, z2, z3, hst, hmap, hb⟩
    have N1 := Lib.hid (And.intro z1 (And.intro z2 (And.intro z3 (And.intro hst (And.intro hmap hb)))))
    clear z1 z2 z3 hst hmap hb
    unfold pk
    go_wp2_with fail
    refine (new_any (m0 : Int) w2).mono ?_
    rintro e w3 ⟨s2, m2, rfl, z1, z2, z3, hst, hmap, hb⟩
    have hsl : s < w2.heap.size := (Array.getElem?_eq_some_iff.1 N1.out.2.2.2.1).1
    have hml : m < w2.heap.size := N1.out.2.2.2.2.1.lt
    have hg1 : SolG U s m m0 w3 (Kn.zero (m0 : Int)) := (solG_new (by omega) (by omega) N1.out.2.2.1 N1.out.2.2.2.1 N1.out.2.2.2.2.1).bel hb
    have N2 := Lib.hid (And.intro z1 (And.intro z2 (And.intro z3 (And.intro hst hmap))))
    have HS1 := Lib.hid hg1
    have HB3 : Hid (Below W.heap.size W w3) := Lib.hid (ext_trans (ext_trans B1.out N1.out.2.2.2.2.2) hb)
    have HNE : Hid ((s2 ≠ s ∧ s2 ≠ m) ∧ (m2 ≠ s ∧ m2 ≠ m)) := Lib.hid ⟨⟨by omega, by omega⟩, ⟨by omega, by omega⟩⟩
    have HLO : Hid (W.heap.size ≤ s ∧ W.heap.size ≤ m ∧ W.heap.size ≤ s2 ∧ W.heap.size ≤ m2) := Lib.hid (by
      have h1 := B1.out.size
      have h2 := N1.out.1
      have h3 := N1.out.2.1
      have h4 := N1.out.2.2.2.2.2.size
      omega)
    clear z1 z2 z3 hst hmap hb hsl hml hg1
    unfold pk
    go_upto_block 0 with fail
    go_cut [7] (fun s7 wx => ∃ (i : Nat) (v : Int), s7 = .int .i64 v ∧ (v = 0 ∨ v = 9) ∧ Hid (OrdI U s m m0 xs i v wx) ∧ Hid (Fr (SX s m) w3 wx) ∧ Hid (v = 0 → i = xs.length))
    case first => as_aux_lemma =>
      go_wp2_with fail
      go_loopw [7, 9] (fun s7 s9 wr => ∃ (i : Nat) (v : Int), s7 = .int .i64 v ∧ s9 = .int .i64 i ∧ i ≤ vs.length ∧ (v = 0 ∨ v = 9) ∧ Hid (OrdI U s m m0 xs i v wr) ∧ Hid (Fr (SX s m) w3 wr)) (fun _ s9 _ => vs.length - (intOf s9).toNat)
      case atStart => exact ⟨0, 0, rfl, rfl, Nat.zero_le _, .inl rfl, Lib.hid (.inl ⟨rfl, _, by rw [List.take_zero]; exact RunB.start U (by omega), HS1.out⟩), Lib.hid (Fr.refl _ _)⟩
      case round =>
        obtain ⟨i, v, rfl, rfl, hi, hv, HI, HF⟩ := hrel
        have HBr : Hid (Below W.heap.size W wr) := Lib.hid (fr_new HLO.out.1 HLO.out.2.1 HB3.out HF.out)
        by_cases hp : i < vs.length ∧ v = 0
        · obtain ⟨hp, rfl⟩ := hp
          obtain ⟨x, hx⟩ := getq_ex (show i < xs.length by rw [← hlx.out]; exact hp)
          obtain ⟨b1, o1, A1, B1', ca, cb, rfl, hbz, ⟨q0, q1, q2, q3, q4, q5⟩, t1, t2, _⟩ := Stps.later H.out.1 H.out.2 HBr.out hx
          have hsz := HBr.out.size
          have hdo : Hid (Calls Try.prog 19 #[pk s, stV x A1 ca B1' cb] wr (DoPost U s m m0 (xs.take i) x wr)) := Lib.hid (by
            rcases HI.out with ⟨_, S, hR, hS⟩ | ⟨h, _⟩
            · exact do_any U s m m0 (xs.take i) x S wr A1 B1' ca cb hR hS (HG.out x (List.mem_of_getElem? hx)) (by rw [List.length_take]; have := hlx.out; omega) hm8 (t1.more hsz) (t2.more hsz)
            · exact absurd h (by decide))
          have Hx := Lib.hid hx
          unfold pk at hdo
          clear hx t1 t2
          go_wp2_with fail
          refine hdo.out.mono ?_
          clear hdo
          intro e w5 hpost
          obtain ⟨v, rfl, hv, hf5, ho5⟩ := OrdI.next Hx.out hpost
          have G5 := Lib.hid (And.intro ho5 (HF.out.trans hf5))
          clear hpost hf5 ho5
          go_wp2_with fail
          go_roundw
          case rel => exact ⟨i + 1, v, rfl, by go_num, hp, hv, Lib.hid G5.out.1, Lib.hid G5.out.2⟩
          case measure => simp [intOf]; omega
        · have hend : Hid (v = 0 → i = xs.length) := Lib.hid (fun e => by have := hlx.out; omega)
          have hcase : ¬ (i < vs.length) ∨ (i < vs.length ∧ v = 9) := by
            by_cases h : i < vs.length
            · exact .inr ⟨h, by rcases hv with e | e; exact absurd ⟨h, e⟩ hp; exact e⟩
            · exact .inl h
          have HI1 := Lib.hid HI.out
          have HF1 := Lib.hid HF.out
          clear HI HF hp
          rcases hcase with h1 | ⟨h1, rfl⟩
          · go_wp2_with fail
            go_meet
            exact ⟨i, v, rfl, hv, HI1, HF1, hend⟩
          · go_wp2_with fail
            go_meet
            exact ⟨i, 9, rfl, .inr rfl, HI1, HF1, hend⟩
    case rest =>
      obtain ⟨i1, v1, rfl, hv1, HI1, HF1, hend1⟩ := hcut
      have HB4 : Hid (Below W.heap.size W wc) := Lib.hid (fr_new HLO.out.1 HLO.out.2.1 HB3.out HF1.out)
      have hn2 : Hid (SolG U s2 m2 m0 wc (Kn.zero (m0 : Int)) ∧ OffG wc s2 ∧ OffG wc m2) := Lib.hid (by
        have e1 := HF1.out.block s2 (Array.getElem?_eq_some_iff.1 N2.out.2.2.2.1).1 fun h => by rcases h with h | h; exact HNE.out.1.1 h; exact HNE.out.1.2 h
        have e2 := HF1.out.block m2 N2.out.2.2.2.2.lt fun h => by rcases h with h | h; exact HNE.out.2.1 h; exact HNE.out.2.2 h
        have k1 := e1.trans N2.out.2.2.2.1
        have k2 := N2.out.2.2.2.2.later e2
        exact ⟨solG_new (by omega) (by omega) N2.out.2.2.1 k1 k2, solver_off k1, map_off k2⟩)
      go_upto_block 2 with fail
      go_cut [8] (fun s8 wx => ∃ (j : Nat) (v : Int), s8 = .int .i64 v ∧ (v = 0 ∨ v = 9) ∧ Hid (OrdI U s2 m2 m0 (revS xs) j v wx) ∧ Hid (Fr (SX s2 m2) wc wx) ∧ Hid (v = 0 → j = xs.length))
      case first => as_aux_lemma =>
        clear hv1
        go_wp2_with fail
        go_loopw [8, 10, 11] (fun s8 s10 _ wr => ∃ (j : Nat) (kk v : Int), s8 = .int .i64 v ∧ s10 = .int .i64 kk ∧ kk = (vs.length : Int) - 1 - j ∧ j ≤ vs.length ∧ (v = 0 ∨ v = 9) ∧ Hid (OrdI U s2 m2 m0 (revS xs) j v wr) ∧ Hid (Fr (SX s2 m2) wc wr)) (fun _ s10 _ _ => (intOf s10 + 1).toNat)
        case atStart => exact ⟨0, (vs.length : Int) - 1, 0, rfl, rfl, by omega, Nat.zero_le _, .inl rfl, Lib.hid (.inl ⟨rfl, _, by rw [List.take_zero]; exact RunB.start U (by omega), hn2.out.1⟩), Lib.hid (Fr.refl _ _)⟩
        case round =>
          obtain ⟨j, kk, v, rfl, rfl, hkk, hj, hv, HI, HF⟩ := hrel
          have HBr : Hid (Below W.heap.size W wr) := Lib.hid (fr_new HLO.out.2.2.1 HLO.out.2.2.2 HB4.out HF.out)
          by_cases hp : j < vs.length ∧ v = 0
          · obtain ⟨hp, rfl⟩ := hp
            obtain ⟨k, rfl⟩ : ∃ k : Nat, kk = (k : Int) := ⟨kk.toNat, by omega⟩
            have hkj : k + 1 + j = xs.length := by have := hlx.out; omega
            have hkl : k < vs.length := by have := hlx.out; omega
            obtain ⟨x, hx⟩ := getq_ex (l := xs) (i := k) (by omega)
            obtain ⟨b1, o1, A1, B1', ca, cb, rfl, hbz, ⟨q0, q1, q2, q3, q4, q5⟩, t1, t2, _⟩ := Stps.later H.out.1 H.out.2 HBr.out hx
            have hsz := HBr.out.size
            have hrx := revS_get hx hkj
            have hdo : Hid (∀ W', Below wr.heap.size wr W' → Calls Try.prog 19 #[pk s2, stV x.swap B1' cb A1 ca] W' (DoPost U s2 m2 m0 ((revS xs).take j) x.swap W')) := Lib.hid (fun W' hW' => by
              rcases HI.out with ⟨_, S, hR, hS⟩ | ⟨h, _⟩
              · exact do_any U s2 m2 m0 ((revS xs).take j) x.swap S W' B1' A1 cb ca hR (hS.bel hW') (HG.out x (List.mem_of_getElem? hx)).swap (by rw [List.length_take, revS_len]; have := hlx.out; omega) hm8 ((t2.more hsz).below hW' |>.more hW'.size) ((t1.more hsz).below hW' |>.more hW'.size)
              · exact absurd h (by decide))
            have Hx := Lib.hid hrx
            unfold pk stV Stp.swap at hdo
            simp only at hdo
            have Hkk := Lib.hid (And.intro hkk hkj)
            clear hx t1 t2 hrx hkk hkj
            go_wp2_with fail
            refine (hdo.out _ (ext_alloc (Below.refl _ _) _)).mono ?_
            clear hdo
            intro e w5 hpost
            obtain ⟨v, rfl, hv, hf5, ho5⟩ := OrdI.next Hx.out hpost
            have G5 := Lib.hid (And.intro ho5 ((HF.out.trans (Fr.below (ext_alloc (Below.refl _ _) _))).trans hf5))
            clear hpost hf5 ho5
            go_wp2_with fail
            go_roundw
            case rel => exact ⟨j + 1, (k : Int) - 1, v, rfl, by first | rfl | go_num, by have := Hkk.out.1; omega, hp, hv, Lib.hid G5.out.1, Lib.hid G5.out.2⟩
            case measure => first | (simp [intOf]; done) | (simp [intOf]; omega)
          · have hend : Hid (v = 0 → j = xs.length) := Lib.hid (fun e => by have := hlx.out; omega)
            have hcase : kk < 0 ∨ (0 ≤ kk ∧ v = 9) := by
              by_cases h : j < vs.length
              · exact .inr ⟨by omega, by rcases hv with e | e; exact absurd ⟨h, e⟩ hp; exact e⟩
              · exact .inl (by omega)
            have HI1 := Lib.hid HI.out
            have HF1 := Lib.hid HF.out
            clear HI HF hp hkk
            rcases hcase with h1 | ⟨h1, rfl⟩
            · go_wp2_with fail
              go_meet
              exact ⟨j, v, rfl, hv, HI1, HF1, hend⟩
            · go_wp2_with fail
              go_meet
              exact ⟨j, 9, rfl, .inr rfl, HI1, HF1, hend⟩
      case rest =>
        obtain ⟨j2, v2, rfl, hv2, HI2, HF2, hend2⟩ := hcut
        have hsame : v1 = v2 := order_same HG.out HI1.out HI2.out hend1.out hend2.out
        subst hsame
        have HB6 : Hid (Below W.heap.size W wc) := Lib.hid (fr_new HLO.out.2.2.1 HLO.out.2.2.2 HB4.out HF2.out)
        clear hv2
        rcases hv1 with rfl | rfl
        · obtain ⟨S1, hR1, hS1⟩ : ∃ S, RunB U (m0 : Int) xs S ∧ SolG U s m m0 wc S := by
            rcases HI1.out with ⟨_, S, hR, hS⟩ | ⟨h, _⟩
            · rw [hend1.out rfl, List.take_length] at hR
              exact ⟨S, hR, hS.beside hn2.out.2.1 hn2.out.2.2 HF2.out HNE.out.1 HNE.out.2⟩
            · exact absurd h (by decide)
          obtain ⟨S2, hR2, hS2⟩ : ∃ S, RunB U (m0 : Int) (revS xs) S ∧ SolG U s2 m2 m0 wc S := by
            rcases HI2.out with ⟨_, S, hR, hS⟩ | ⟨h, _⟩
            · rw [hend2.out rfl, List.take_of_length_le (by rw [revS_len]; exact Nat.le_refl _)] at hR
              exact ⟨S, hR, hS⟩
            · exact absurd h (by decide)
          have HK : Hid (canT [] (knownL m0 S2) = canT [] (knownL m0 S1)) := Lib.hid (known_canon hR1.run.most hR2.run.most hR1.run.kg.sh hR1.run.low fun τ => (allC_swap xs τ).symm)
          have G := Lib.hid (And.intro hS1 (And.intro hR1.run.fit (And.intro hS2 hR2.run.fit)))
          clear hR1 hR2 hS1 hS2 HI1 HI2
          go_wp2_with fail
          refine (alive13_any _).mono ?_
          rintro e w6 ⟨rfl, hb6⟩
          have B6 := Lib.hid hb6
          clear hb6
          have ha1 := Lib.hid (lawAll_any U s m m0 S1 w6 (G.out.1.bel B6.out) G.out.2.1 hm8)
          unfold pk at ha1
          go_wp2_with fail
          refine ha1.out.mono ?_
          clear ha1
          rintro e w7 ⟨V1, c1, v1, rfl, r1, hb7⟩
          have B7 := Lib.hid (And.intro r1 hb7)
          clear r1 hb7
          have ha2 := Lib.hid (lawAll_any U s2 m2 m0 S2 w7 ((G.out.2.2.1.bel B6.out).bel B7.out.2) G.out.2.2.2 hm8)
          unfold pk at ha2
          go_wp2_with fail
          refine ha2.out.mono ?_
          clear ha2
          rintro e w8 ⟨V2, c2, v2, rfl, r2, hb8⟩
          have B8 := Lib.hid (And.intro r2 (And.intro (keep_rowS V1 v1 _ _ _ B7.out.1 hb8) (ext_trans (ext_trans B6.out B7.out.2) hb8)))
          clear r2 hb8
          have ht := Lib.hid (types_any V1 V2 c1 c2 v1 v2 _ _ w8 B8.out.2.1.1 B8.out.1.1 B8.out.2.1.2 B8.out.1.2 (by
            have h1 := B8.out.2.1.2.1
            rw [h1, canT_len, knownL_len]
            omega) (fun xs hx => by
            obtain ⟨h1, _⟩ := canT_lens (m := 20000) (l := knownL m0 S1) (fun ys hy => by
              obtain ⟨n, hn, rfl⟩ := List.mem_map.1 hy
              have hn := List.mem_range.1 hn
              have h2 := (G.out.2.1 n (by omega) (by omega)).1
              have h3 := fl_len _ h2 ByteArray.empty
              exact ⟨by omega, fl_ne _ _⟩) [] xs hx
            omega))
          rw [HK.out, decide_eq_true rfl] at ht
          go_wp2_with fail
          refine ht.out.mono ?_
          clear ht
          rintro e w9 ⟨rfl, q, rfl⟩
          go_wp2_with fail
          go_ret
          exact ⟨rfl, ((Fr.below (X := fun _ => False) (ext_trans HB6.out B8.out.2.2)).drewN q).toBelow fun _ e => e.elim⟩
        · clear HI1 HI2
          go_wp2_with fail
          refine (alive13_any _).mono ?_
          rintro e w6 ⟨rfl, hb6⟩
          go_wp2_with fail
          go_ret
          exact ⟨rfl, ext_trans HB6.out hb6⟩
end Go.Proofs.Ytblfeokjlecgkaa
