/- UnifyLeast, walked. -/
import Derived.Test.YtblfeokjlecgkaaL03
import Derived.Test.YtblfeokjlecgkaaL01
import Derived.Test.YtblfeokjlecgkaaL02
namespace Go.Proofs.Ytblfeokjlecgkaa
open Go.RowKit

/-- What a solver knows that was told so many variables' types. -/
structure LeastI (U : List Lb) (s m m0 : Nat) (types : List (List Nd)) (i : Nat) (S : Kn) (w : World) : Prop where
  sol : SolG U s m m0 w S
  has : ∃ τ, S.Sat τ ∧ ∀ n : Int, 0 ≤ n → n < (m0 : Int) → τ.v n = (putVa types).v n
  m : S.m + (S.un : Int) ≤ 20000 + 200 * (i : Int)
  all : ∀ τ, S.Sat τ → ∀ (j : Nat) (T : List Nd), j < i → types[j]? = some T → τ.v (j : Int) = utT T
theorem LeastI.start {U : List Lb} {s m m0 : Nat} {types : List (List Nd)} {l : List Stp} {S : Kn} {w : World} (T : TypesOk types) (h : RunB U (m0 : Int) l S) (hS : SolG U s m m0 w S) (hc : allC l (putVa types)) (hl : l.length ≤ 12) (hm : m0 ≤ 8) : LeastI U s m m0 types 0 S w := by
  obtain ⟨τ, h1, h2⟩ := h.run.most.gen (putVa types) (putVa_st T) hc
  exact ⟨hS, ⟨τ, h1, fun n _ hn => (h2 n hn).symm⟩, by have := h.m; omega, fun τ _ j T hj => by omega⟩
theorem LeastI.next {U : List Lb} {s m m0 : Nat} {types : List (List Nd)} {i : Nat} {S : Kn} {w w' : World} {e : Ending} {T : List Nd} (TO : TypesOk types) (h : LeastI U s m m0 types i S w) (hT : types[i]? = some T) (hi : i < m0) (ht : Told U 0 (utT T)) (hm8 : i ≤ 8)
    (hp : AgrPost U s m m0 S (varT (i : Int)) (utT T) w e w') : e = .returned (.int .i64 0) ∧ Fr (SX s m) w w' ∧ ∃ S', LeastI U s m m0 types (i + 1) S' w' := by
  obtain ⟨ok, rfl, hf, hno, hyes⟩ := hp
  obtain ⟨τ, t1, t2⟩ := h.has
  have hst : stT (utT T) := static_of (TO.gd T (List.mem_of_getElem? hT)) (TO.st T (List.mem_of_getElem? hT))
  have hri := wf_ri _ ht.wf
  have hinst : ∀ τ : Va, inst τ (utT T) = utT T := fun τ => plain_inst τ _ ht.wf ht.no
  have hvi : τ.v (i : Int) = utT T := by rw [t2 i (by omega) (by omega)]; exact putVa_at (by omega) (by rw [Int.toNat_natCast]; exact hT)
  have hco : CoI (varT (i : Int)) (utT T) τ := by
    unfold CoI
    rw [inst_var, hinst, hvi]
    exact Co.refl _
  have hfm := h.sol.fm
  cases ok with
  | false =>
    exfalso
    rcases hno rfl with d | ⟨S', d, hn⟩
    · exact d τ t1 hco
    · exact hn (step_fit hfm h.sol.hL d.st t1 hco fun n h0 hn => by rw [t2 n h0 hn]; exact putVa_fit TO n)
  | true =>
    obtain ⟨S', d, hfit, hS'⟩ := hyes rfl
    obtain ⟨τ', u1, u2⟩ := d.st.gen τ t1 hco
    refine ⟨rfl, hf, S', hS', ⟨τ', u1, fun n h0 hn => by rw [← (u2 n (by omega)).1, t2 n h0 hn]⟩, ?_, fun σ hσ j Tj hj hTj => ?_⟩
    · have h1 := d.m
      have h2 := h.m
      have h3 := dyn_of (TO.gd T (List.mem_of_getElem? hT))
      have h4 := TO.ln T (List.mem_of_getElem? hT)
      have h5 : dynT (varT (i : Int)) = 0 := by unfold varT; rw [dynT_mk, dynF_nil]; rfl
      rw [h5] at h1
      push_cast
      omega
    · by_cases e : j = i
      · subst e
        rw [hT] at hTj
        injection hTj with hTj
        subst hTj
        have hc := d.st.co σ hσ
        unfold CoI at hc
        rw [inst_var, hinst] at hc
        have o := hσ.1.v (j : Int) (hS'.hL _ (by omega))
        exact hc.eq o.1 hst o.2 hri
      · obtain ⟨σ1, s1, s2⟩ := d.st.le.sat σ hσ
        rw [← h.all σ1 s1 j Tj (by omega) hTj]
        exact (s2 (j : Int) (by omega)).1
theorem LeastI.bel {U : List Lb} {s m m0 : Nat} {types : List (List Nd)} {i : Nat} {S : Kn} {w w' : World} (h : LeastI U s m m0 types i S w) (hb : Below w.heap.size w w') : LeastI U s m m0 types i S w' := ⟨h.sol.bel hb, h.has, h.m, h.all⟩
/-- A type that a variable may have. -/
def typeOk (T : List Nd) : Prop := T.length ≤ 30 ∧ rightB T = true ∧ (∀ x ∈ T, plN x = true) ∧ ∀ x ∈ T, x.k ≠ 0
theorem typesOk_of {types : List (List Nd)} (h : ∀ T ∈ types, typeOk T) : TypesOk types :=
  ⟨fun T hT => (gd_of (h T hT).2.1).1, fun T hT => (h T hT).2.2.1, fun T hT => (h T hT).2.2.2, fun T hT => (h T hT).1⟩
theorem putIn_of {types : List (List Nd)} (TO : TypesOk types) {t : List Nd} (g : GdT t) (hU : ∀ x ∈ t, toldN types.length x = true) : PutIn types t := by
  refine ⟨fun x hx h8 => ?_, fun T hT => (TO.gd T hT).ne, TO.ln⟩
  have h1 := hU x hx
  have h2 := g.okAll x hx
  unfold okNode at h2
  rw [if_pos (.inr (.inl h8))] at h2
  have h3 := of_decide_eq_true h2
  unfold toldN at h1
  simp only [Bool.and_eq_true, Bool.not_eq_true', h8, beq_self_eq_true, Bool.true_and, decide_eq_false_iff_not] at h1
  omega
set_option maxRecDepth 100000 in
set_option maxHeartbeats 8000000 in
theorem unifyLeast_law (V : Option Addr) (cv : Nat) (vs : List (Option Addr × Nat × Nat)) (types : List (List Nd)) (A : Option Addr) (c : Nat) (us : List StV) (xs : List Stp) (W : World) (hV : ReadS W W.heap.size V vs) (hS : Sls W W.heap.size vs types) (hvl : vs.length ≤ 9223372036854775807)
    (hto : ∀ T ∈ types, T.length ≤ 9223372036854775807 ∧ ∀ x ∈ T, x.Ok) (hcap : ∀ (i : Nat) (v : Option Addr × Nat × Nat), vs[i]? = some v → v.2.1 ≤ v.2.2) (hr : ReadSt W W.heap.size A us) (hs : Stps W W.heap.size us xs) (hl : us.length ≤ 9223372036854775807) (hok : ∀ x ∈ xs, x.Ok) :
    Calls Try.prog 5 #[.slice V vs.length cv, .slice A us.length c] W fun e w' => e = .returned (.bool true) ∧ Below W.heap.size W w' := by
  have hm := Lib.hid (mays_any (vs.length : Int) A c us xs W hr hs hl hok)
  have H := Lib.hid (And.intro hr hs)
  have HV := Lib.hid (And.intro hV (And.intro hS (And.intro hto hcap)))
  have hlx := Lib.hid hs.1
  have hvt := Lib.hid hS.1
  clear hr hs hok hV hS hto hcap
  go_enter Try.func5, Try.ntmps5
  go_wp2_with fail
  refine hm.out.mono ?_
  clear hm
  rintro e w1 ⟨rfl, hb1⟩
  have B2 := Lib.hid hb1
  clear hb1
  cases hmb : maysB (vs.length : Int) xs with
  | false =>
    clear hmb
    go_wp2_with fail
    refine (alive13_any _).mono ?_
    rintro e w2 ⟨rfl, hb⟩
    go_wp2_with fail
    go_ret
    exact ⟨rfl, ext_trans B2.out hb⟩
  | true =>
    have HMB := Lib.hid hmb
    clear hmb
    obtain ⟨h0, h8, hlen, hU, _, _⟩ := mays_parts HMB.out
    have hm8 : vs.length ≤ 8 := by omega
    have hv12 : us.length ≤ 12 := by have := hlx.out; omega
    have HLM := Lib.hid hU
    clear h0 h8 hlen hU hl
    go_wp2_with fail
    go_loopw [6] (fun s6 wr => ∃ i : Nat, s6 = .int .i64 i ∧ i ≤ vs.length ∧ Hid (Below W.heap.size W wr) ∧ Hid (∀ T ∈ types.take i, typeOk T)) (fun s6 _ => vs.length - (intOf s6).toNat)
    case atStart => exact ⟨0, rfl, Nat.zero_le _, B2, Lib.hid (by simp)⟩
    case round =>
      clear B2
      obtain ⟨i, rfl, hi, M, HT⟩ := hrel
      by_cases hp : i < vs.length
      · obtain ⟨T, hT⟩ := getq_ex (show i < types.length by rw [← hvt.out]; exact hp)
        obtain ⟨v, hv⟩ := getq_ex hp
        obtain ⟨hlv, htv⟩ := HV.out.2.1.2 i v T hv hT
        obtain ⟨bV, oV, rfl, zV, dV⟩ := HV.out.1.slice hv
        obtain ⟨Av, ln, cn⟩ := v
        simp only at hlv htv
        subst hlv
        have HTo := Lib.hid (HV.out.2.2.1 T (List.mem_of_getElem? hT))
        have htl := HTo.out.1
        have dV1 := (M.out.cell (p := ⟨bV, oV + i, none⟩) zV).trans dV
        have zV1 : bV < wr.heap.size := by have := M.out.size; omega
        have hpl := Lib.hid (plain07_any Av cn T 30 wr ((htv.below M.out).more M.out.size) htl fun y hy => (HTo.out.2 y hy).s1)
        have HTV := Lib.hid htv
        have HdV := Lib.hid dV
        have HTT := Lib.hid hT
        clear hT hv htv dV
        go_wp2_with fail
        refine hpl.out.mono ?_
        clear hpl
        rintro e w2 ⟨rfl, hb2⟩
        have B3 := Lib.hid (ext_trans M.out hb2)
        clear dV1 zV1 hb2
        have dV1 := (B3.out.cell (p := ⟨bV, oV + i, none⟩) zV).trans HdV.out
        have zV1 : bV < w2.heap.size := by have := B3.out.size; omega
        cases hpa : plain07B T 30 with
        | false =>
          clear hpa
          go_wp2_with fail
          refine (alive13_any _).mono ?_
          rintro e w3 ⟨rfl, hb⟩
          go_wp2_with fail
          go_ret
          exact ⟨rfl, ext_trans B3.out hb⟩
        | true =>
          have HPA := Lib.hid (plain07_parts hpa)
          clear hpa
          have hst := Lib.hid (rStatic_any Av cn w2.heap.size T w2 ((HTV.out.below B3.out).more B3.out.size) htl)
          go_wp2_with fail
          refine hst.out.mono ?_
          clear hst
          rintro e w3 ⟨rfl, rfl⟩
          cases hsb : staticB T with
          | false =>
            clear hsb
            go_wp2_with fail
            refine (alive13_any _).mono ?_
            rintro e w3 ⟨rfl, hb⟩
            go_wp2_with fail
            go_ret
            exact ⟨rfl, ext_trans B3.out hb⟩
          | true =>
            have HSB : Hid (∀ x ∈ T, x.k ≠ 0) := Lib.hid (by
              unfold staticB at hsb
              rw [List.all_eq_true] at hsb
              intro x hx e
              have := hsb x hx
              rw [e] at this
              cases this)
            clear hsb
            go_wp2_with fail
            go_roundw
            case rel => exact ⟨i + 1, by go_num, hp, B3, Lib.hid (by
              intro T' hT'
              rw [List.take_add_one, HTT.out] at hT'
              rcases List.mem_append.1 hT' with h | h
              · exact HT.out T' h
              · simp at h
                rw [h]
                exact ⟨by have := HPA.out.1; omega, HPA.out.2.1, HPA.out.2.2, HSB.out⟩)⟩
            case measure => simp [intOf]; omega
      · have HTY : Hid (∀ T ∈ types, typeOk T) := Lib.hid (by
          have h := HT.out
          rwa [List.take_of_length_le (by rw [← hvt.out]; omega)] at h)
        have TO := Lib.hid (typesOk_of HTY.out)
        clear HT
        obtain ⟨m0, hm0⟩ : ∃ m0 : Nat, m0 = vs.length := ⟨_, rfl⟩
        obtain ⟨U, hUd⟩ : ∃ U, U = labsM xs ++ types.flatten.map Nd.s := ⟨_, rfl⟩
        have hU2 : U.length ≤ 100000 := by
          have h1 := HLM.out
          have h2 : types.flatten.length ≤ types.length * 30 := by
            rw [List.length_flatten]
            have : ∀ l : List (List Nd), (∀ T ∈ l, T.length ≤ 30) → (l.map List.length).sum ≤ l.length * 30 := by
              intro l
              induction l with
              | nil => intro _; simp
              | cons T l ih =>
                intro h
                have a := h T (by simp)
                have b := ih fun T' hT' => h T' (by simp [hT'])
                simp only [List.map_cons, List.sum_cons, List.length_cons]
                omega
            exact this types TO.out.ln
          have h3 := hvt.out
          rw [hUd, List.length_append, List.length_map]
          omega
        have HG : Hid (∀ x ∈ xs, GoodS U (types.length : Int) x) := Lib.hid (by rw [← hvt.out]; exact mays_good (fun y hy => by rw [hUd]; exact List.mem_append_left _ hy) HMB.out)
        have HML : Hid (∀ x ∈ xs, mayB (types.length : Int) x = true) := Lib.hid (by rw [← hvt.out]; exact (mays_parts HMB.out).2.2.2.2.1)
        have HTD : Hid (∀ T ∈ types, Told U 0 (utT T)) := Lib.hid fun T hT => plain_told (by rw [hUd]; simp [labsM]) (by rw [hUd]; simp [labsM]) (fun x hx => by rw [hUd]; exact List.mem_append_right _ (List.mem_map.2 ⟨x, List.mem_flatten.2 ⟨T, hT, hx⟩, rfl⟩)) (HTY.out T hT).2.1 (HTY.out T hT).2.2.1
        clear hUd
        go_wp2_with fail
        refine (new_any (vs.length : Int) wr).mono ?_
        rintro e w4 ⟨s, m, rfl, z1, z2, z3, hst, hmap, hb4⟩
        have hg0 : SolG U s m vs.length w4 (Kn.zero (vs.length : Int)) := solG_new hU2 (by omega) z3 hst hmap
        have HS0 := Lib.hid hg0
        have HLO : Hid (W.heap.size ≤ s ∧ W.heap.size ≤ m ∧ Below W.heap.size W w4) := Lib.hid (by
          have h1 := M.out.size
          exact ⟨by omega, by omega, ext_trans M.out hb4⟩)
        clear z1 z2 z3 hst hmap hb4 hg0 hm0 m0
        have HFR : Hid (∀ wr, Fr (SX s m) w4 wr → Below W.heap.size W wr) := Lib.hid fun wr hf => fr_new HLO.out.1 HLO.out.2.1 HLO.out.2.2 hf
        clear HLO
        unfold pk
        go_wp2_with fail
        generalize wr = wq at *
        clear M
        go_loopw [8] (fun s8 wr => ∃ j : Nat, s8 = .int .i64 j ∧ j ≤ us.length ∧ Hid (∃ S, RunB U (vs.length : Int) (xs.take j) S ∧ SolG U s m vs.length wr S) ∧ Hid (Fr (SX s m) w4 wr) ∧ Hid (∀ x ∈ xs.take j, x.cst.holds (putVa types))) (fun s8 _ => us.length - (intOf s8).toNat)
        case atStart => exact ⟨0, rfl, Nat.zero_le _, Lib.hid ⟨_, by rw [List.take_zero]; exact RunB.start U (by omega), HS0.out⟩, Lib.hid (Fr.refl _ _), Lib.hid (by simp)⟩
        case round =>
          obtain ⟨j, rfl, hj, J, JF, JH⟩ := hrel
          have HBj := Lib.hid (HFR.out _ JF.out)
          by_cases hpj : j < us.length
          · obtain ⟨x, hx⟩ := getq_ex (show j < xs.length by rw [← hlx.out]; exact hpj)
            obtain ⟨b1, o1, A1, B1', ca, cb, rfl, hbz, ⟨q0, q1, q2, q3, q4, q5⟩, t1, t2, zz⟩ := Stps.later H.out.1 H.out.2 HBj.out hx
            have hsz := HBj.out.size
            have hmx := HML.out x (List.mem_of_getElem? hx)
            have hgx := HG.out x (List.mem_of_getElem? hx)
            have hho : Hid (Calls Try.prog 32 #[stV x A1 ca B1' cb, .slice V vs.length cv] wr (fun e w' => e = .returned (.bool (holdsB types x)) ∧ Below wr.heap.size wr w')) := Lib.hid (holds_any types V cv vs x A1 B1' ca cb U wr (t1.more hsz) (t2.more hsz) ((HV.out.1.below HBj.out).more hsz) (sls_more (sls_below HV.out.2.1 HBj.out) hsz) HV.out.2.2.2 TO.out hgx
              (fun hz => ⟨putIn_of TO.out (hgx.pair hz).1 (may_len hmx hz).2.2.2.2.1, (may_len hmx hz).2.2.2.2.1⟩) (fun hz => ⟨putIn_of TO.out (hgx.pair hz).2.1 (may_len hmx hz).2.2.2.2.2, (may_len hmx hz).2.2.2.2.2⟩) (by omega))
            have Hx := Lib.hid (And.intro hx (And.intro hmx hgx))
            have HQ := Lib.hid (And.intro q0 (And.intro q1 (And.intro q2 (And.intro q3 (And.intro q4 q5)))))
            have HT12 := Lib.hid (And.intro (t1.more hsz) (t2.more hsz))
            clear hx hmx hgx t1 t2
            go_wp2_with fail
            refine hho.out.mono ?_
            clear hho
            rintro e w5 ⟨rfl, hb5⟩
            have B5 := Lib.hid hb5
            clear hb5 q0 q1 q2 q3 q4 q5
            cases hh : holdsB types x with
            | false =>
              clear hh
              go_wp2_with fail
              refine (alive13_any _).mono ?_
              rintro e w6 ⟨rfl, hb⟩
              go_wp2_with fail
              go_ret
              exact ⟨rfl, ext_trans (ext_trans HBj.out B5.out) hb⟩
            | true =>
              have HH := Lib.hid hh
              clear hh
              have hdo : Hid (Calls Try.prog 19 #[pk s, stV x A1 ca B1' cb] w5 (fun e w' => e = .returned (.int .i64 0) ∧ Hid (∃ S', RunB U (vs.length : Int) (xs.take (j + 1)) S' ∧ SolG U s m vs.length w' S') ∧ Hid (Fr (SX s m) w4 w') ∧ Hid (∀ x ∈ xs.take (j + 1), x.cst.holds (putVa types)))) := Lib.hid (by
                obtain ⟨S', hR', hS'⟩ := J.out
                have hall : ∀ y ∈ xs.take j ++ [x], y.cst.holds (putVa types) := fun y hy => by
                  rcases List.mem_append.1 hy with hy | hy
                  · exact JH.out y hy
                  · rw [List.mem_singleton.1 hy]
                    exact holds_of TO.out Hx.out.2.2 (fun hz => (may_len Hx.out.2.1 hz).2.2.2.2.1) (fun hz => (may_len Hx.out.2.1 hz).2.2.2.2.2) HH.out
                have hgood : ∀ y ∈ xs.take j ++ [x], GoodS U (vs.length : Int) y := fun y hy => by
                  rw [hvt.out]
                  rcases List.mem_append.1 hy with hy | hy
                  · exact HG.out y (List.mem_of_mem_take hy)
                  · rw [List.mem_singleton.1 hy]; exact Hx.out.2.2
                have hte : xs.take (j + 1) = xs.take j ++ [x] := by rw [List.take_add_one, Hx.out.1]; rfl
                refine (do_any U s m vs.length (xs.take j) x S' w5 A1 B1' ca cb hR' (hS'.bel B5.out) (hgood x (by simp)) (by rw [List.length_take]; have := hlx.out; omega) hm8 ((HT12.out.1.below B5.out).more B5.out.size) ((HT12.out.2.below B5.out).more B5.out.size)).mono ?_
                rintro e w' ⟨ok, rfl, hf, hno, hyes⟩
                cases ok with
                | false => exact absurd (hno rfl) (not_bad (allC_low hgood) (fun n _ => putVa_st TO.out n) hall (fun n _ _ => putVa_fit TO.out n))
                | true => exact ⟨rfl, Lib.hid (by rw [hte]; exact hyes rfl), Lib.hid ((JF.out.trans (Fr.below B5.out)).trans hf), Lib.hid (by rw [hte]; exact hall)⟩)
              have q0 := (B5.out.cell (p := ⟨b1, o1 + j * 6, none⟩) hbz).trans HQ.out.1
              have q1 := (B5.out.cell (p := ⟨b1, o1 + j * 6 + 1, none⟩) hbz).trans HQ.out.2.1
              have q2 := (B5.out.cell (p := ⟨b1, o1 + j * 6 + 2, none⟩) hbz).trans HQ.out.2.2.1
              have q3 := (B5.out.cell (p := ⟨b1, o1 + j * 6 + 3, none⟩) hbz).trans HQ.out.2.2.2.1
              have q4 := (B5.out.cell (p := ⟨b1, o1 + j * 6 + 4, none⟩) hbz).trans HQ.out.2.2.2.2.1
              have q5 := (B5.out.cell (p := ⟨b1, o1 + j * 6 + 5, none⟩) hbz).trans HQ.out.2.2.2.2.2
              have hbz5 : b1 < w5.heap.size := Nat.lt_of_lt_of_le hbz B5.out.size
              unfold pk at hdo
              go_wp2_with fail
              refine hdo.out.mono ?_
              clear hdo
              rintro e w6 ⟨rfl, J6, F6, H6⟩
              go_wp2_with fail
              go_roundw
              case rel => exact ⟨j + 1, by go_num, hpj, J6, F6, H6⟩
              case measure => simp [intOf]; omega
          · have L0 : Hid (∃ S, LeastI U s m vs.length types 0 S wr) := Lib.hid (by
              obtain ⟨S, hR, hS⟩ := J.out
              have h := JH.out
              rw [List.take_of_length_le (by rw [← hlx.out]; omega)] at hR h
              exact ⟨S, LeastI.start TO.out hR hS h (by rw [← hlx.out]; exact hv12) hm8⟩)
            clear J JH
            go_wp2_with fail
            generalize wr = wy at *
            go_loopw [9] (fun s9 wr => ∃ n : Nat, s9 = .int .i64 n ∧ n ≤ vs.length ∧ Hid (∃ S, LeastI U s m vs.length types n S wr) ∧ Hid (Fr (SX s m) w4 wr)) (fun s9 _ => vs.length - (intOf s9).toNat)
            case atStart => exact ⟨0, rfl, Nat.zero_le _, L0, JF⟩
            case round =>
              clear L0 JF HBj
              obtain ⟨n, rfl, hn, L, LF⟩ := hrel
              have HBn := Lib.hid (HFR.out _ LF.out)
              by_cases hpn : n < vs.length
              · obtain ⟨T, hT⟩ := getq_ex (show n < types.length by rw [← hvt.out]; exact hpn)
                obtain ⟨v, hv⟩ := getq_ex hpn
                obtain ⟨hlv, htv⟩ := HV.out.2.1.2 n v T hv hT
                obtain ⟨bV, oV, rfl, zV, dV⟩ := HV.out.1.slice hv
                obtain ⟨Av, ln, cn⟩ := v
                simp only at hlv htv
                subst hlv
                have dV1 := (HBn.out.cell (p := ⟨bV, oV + n, none⟩) zV).trans dV
                have zV1 : bV < wr.heap.size := by have := HBn.out.size; omega
                have hTm := List.mem_of_getElem? hT
                have hlT := TO.out.ln T hTm
                have hag : Hid (Calls Try.prog 33 #[.pointer (some ⟨s, 0, none⟩), .slice (some ⟨wr.heap.size, 0, none⟩) 1 1, .slice Av T.length cn] (wr.alloc (.cells #[.int .i64 8, .string ⟨#[]⟩, .int .i64 (n : Int)] 48)) (fun e w' => e = .returned (.int .i64 0) ∧ Hid (Fr (SX s m) w4 w') ∧ Hid (∃ S', LeastI U s m vs.length types (n + 1) S' w'))) := Lib.hid (by
                  obtain ⟨S, hL⟩ := L.out
                  have hbN := ext_alloc (Below.refl wr.heap.size wr) (.cells #[.int .i64 8, .string ⟨#[]⟩, .int .i64 (n : Int)] 48)
                  obtain ⟨v1, v2⟩ := var_gd (u := (n : Int)) (by omega)
                  have d1 := dyn_of v1
                  have d2 := dyn_of (TO.out.gd T hTm)
                  have hfm := hL.sol.fm
                  have hmm := hL.m
                  have hW := ext_trans HBn.out hbN
                  have h := uAgree_any U s m vs.length S (wr.alloc (.cells #[.int .i64 8, .string ⟨#[]⟩, .int .i64 (n : Int)] 48)) (some ⟨wr.heap.size, 0, none⟩) Av 1 cn [⟨8, ByteArray.empty, (n : Int)⟩] T (hL.sol.bel hbN) ((tyA_newL wr [⟨8, ByteArray.empty, (n : Int)⟩] #[.int .i64 8, .string ⟨#[]⟩, .int .i64 (n : Int)] rfl).more (by simp)) ((htv.below hW).more hW.size) (by simp) (by omega) v1 (TO.out.gd T hTm) (by rw [v2]; exact hL.sol.kg.var (hL.sol.hL n (by omega)) (by omega) (by omega)) (((HTD.out T hTm).mono (m' := (vs.length : Int)) (by omega)).tg hL.sol.hL hL.sol.fm) (by
                    have e1 : ([(⟨8, ByteArray.empty, (n : Int)⟩ : Nd)]).length = 1 := rfl
                    omega)
                  rw [v2] at h
                  refine h.mono fun e w' hp => ?_
                  obtain ⟨he, hf, hS'⟩ := (hL.bel hbN).next TO.out hT hpn (HTD.out T hTm) (by omega) hp
                  exact ⟨he, Lib.hid ((LF.out.trans (Fr.below hbN)).trans hf), Lib.hid hS'⟩)
                clear hT hv htv dV
                go_wp2_with fail
                refine hag.out.mono ?_
                clear hag
                rintro e w6 ⟨rfl, F6, L6⟩
                go_wp2_with fail
                go_roundw
                case rel => exact ⟨n + 1, by go_num, hpn, L6, F6⟩
                case measure => simp [intOf]; omega
              · obtain ⟨S, hL⟩ : ∃ S, LeastI U s m vs.length types n S wr := L.out
                have HKV : Hid (∀ (q : Nat) (T : List Nd), q < vs.length → types[q]? = some T → S.σ.v (q : Int) = utT T) := Lib.hid fun q T hq hT => hL.all S.σ hL.sol.kg.inv.sat q T (by omega) hT
                have HSOL := Lib.hid hL.sol
                clear hL L
                go_wp2_with fail
                generalize wr = wx at *
                go_loopw [10] (fun s10 wr => ∃ q : Nat, s10 = .int .i64 q ∧ q ≤ vs.length ∧ Hid (Below wx.heap.size wx wr)) (fun s10 _ => vs.length - (intOf s10).toNat)
                case atStart => exact ⟨0, rfl, Nat.zero_le _, Lib.hid (Below.refl _ _)⟩
                case round =>
                  obtain ⟨q, rfl, hq, N⟩ := hrel
                  have HBq := Lib.hid (ext_trans HBn.out N.out)
                  by_cases hpq : q < vs.length
                  · obtain ⟨T, hT⟩ := getq_ex (show q < types.length by rw [← hvt.out]; exact hpq)
                    obtain ⟨v, hv⟩ := getq_ex hpq
                    obtain ⟨hlv, htv⟩ := HV.out.2.1.2 q v T hv hT
                    obtain ⟨bV, oV, rfl, zV, dV⟩ := HV.out.1.slice hv
                    obtain ⟨Av, ln, cn⟩ := v
                    simp only at hlv htv
                    subst hlv
                    have dV1 := (HBq.out.cell (p := ⟨bV, oV + q, none⟩) zV).trans dV
                    have zV1 : bV < wr.heap.size := by have := HBq.out.size; omega
                    have hTm := List.mem_of_getElem? hT
                    have hlT := TO.out.ln T hTm
                    have HKN : Hid (∀ v, Hid (Below wr.heap.size wr v ∧ TyA v v.heap.size (some ⟨wr.heap.size, 0, none⟩) [⟨8, ByteArray.empty, (q : Int)⟩]) → Calls Try.prog 24 #[.pointer (some ⟨s, 0, none⟩), .slice (some ⟨wr.heap.size, 0, none⟩) 1 1] v (fun e w' => ∃ A' c', e = .returned (.slice A' T.length c') ∧ Hid (TyA w' w'.heap.size A' T) ∧ Hid (Below wr.heap.size wr w'))) := Lib.hid fun v hv => by
                      obtain ⟨v1, v2⟩ := var_gd (u := (q : Int)) (by omega)
                      have hflt : flT ByteArray.empty (utT T) = T := fl_plain (TO.out.gd T hTm) (TO.out.st T hTm) (gd_of (HTY.out T hTm).2.1).2.1
                      have hSv := (HSOL.out.bel N.out).bel hv.out.1
                      have hfm := hSv.fm
                      have h := uKnown_any U s m vs.length S v (some ⟨wr.heap.size, 0, none⟩) 1 [⟨8, ByteArray.empty, (q : Int)⟩] hSv hv.out.2 (by simp) v1 (by rw [v2]; exact hSv.kg.var (hSv.hL q (by omega)) (by omega) (by omega)) (by
                        rw [v2, inst_var, HKV.out q T hpq hT]
                        show (flT ByteArray.empty (utT T)).length ≤ _
                        rw [hflt]
                        omega)
                      rw [v2, inst_var, HKV.out q T hpq hT] at h
                      have e1 : flT (headNd [(⟨8, ByteArray.empty, (q : Int)⟩ : Nd)]).s (utT T) = T := hflt
                      rw [e1] at h
                      refine h.mono ?_
                      rintro e w' ⟨A', c', rfl, h1, h2⟩
                      exact ⟨A', c', rfl, Lib.hid (OwnL.tyA h1), Lib.hid (ext_trans hv.out.1 h2)⟩
                    have HON : Hid (∀ v A' c', Hid (TyA v v.heap.size A' T) → Hid (Below wr.heap.size wr v) → Calls Try.prog 30 #[.slice A' T.length c', .slice Av T.length cn] v (fun e w' => e = .returned (.bool true) ∧ Hid (Below wr.heap.size wr w'))) := Lib.hid fun v A' c' h1 hb => by
                      have h := one_any A' Av c' cn v.heap.size W.heap.size T T v h1.out (htv.below (ext_trans HBq.out hb.out)) (by omega)
                      rw [decide_eq_true rfl] at h
                      refine h.mono ?_
                      rintro e w' ⟨he, k, rfl⟩
                      exact ⟨he, Lib.hid (ext_trans hb.out (bel_drewN v k))⟩
                    have HCK : Hid (∀ v, Hid (Below wr.heap.size wr v) → v.cell? ⟨bV, oV + q, none⟩ = some (.slice Av T.length cn)) := Lib.hid fun v hb => (hb.out.cell (p := ⟨bV, oV + q, none⟩) zV1).trans dV1
                    have TN1 : Hid (Below wr.heap.size wr (wr.alloc (.cells #[.int .i64 8, .string ⟨#[]⟩, .int .i64 (q : Int)] 48)).drew ∧ TyA (wr.alloc (.cells #[.int .i64 8, .string ⟨#[]⟩, .int .i64 (q : Int)] 48)).drew (wr.alloc (.cells #[.int .i64 8, .string ⟨#[]⟩, .int .i64 (q : Int)] 48)).drew.heap.size (some ⟨wr.heap.size, 0, none⟩) [⟨8, ByteArray.empty, (q : Int)⟩]) := Lib.hid ⟨(ext_alloc (Below.refl _ _) _).drew, ((tyA_newL wr [⟨8, ByteArray.empty, (q : Int)⟩] #[.int .i64 8, .string ⟨#[]⟩, .int .i64 (q : Int)] rfl).more (by simp)).drew⟩
                    clear hT hv htv dV
                    go_wp2_with fail
                    go_region_held3 (fun v => v.cell? ⟨bV, oV + q, none⟩ = some (.slice Av T.length cn))
                      (first
                        | exact HCK.out _ (Lib.hid (Below.refl _ _).drew)
                        | exact HCK.out _ (Lib.hid (Below.refl _ _))
                        | exact HCK.out _ (Lib.hid (ext_alloc (Below.refl _ _) _))
                        | exact HCK.out _ (Lib.hid (ext_alloc (Below.refl _ _) _).drew)
                        | exact HCK.out _ k1
                        | exact HCK.out _ k2)
                      (first
                        | (go_at_call 30; (with_reducible refine (HON.out _ _ _ x1 k1).mono ?_); rintro e v2 ⟨rfl, k2⟩)
                        | (go_at_call 24; (with_reducible refine (HKN.out _ TN1).mono ?_); rintro e v1 ⟨A1, c1, rfl, x1, k1⟩))
                    all_goals
                      go_wp2_with fail
                      go_roundw
                      case rel => exact ⟨q + 1, by go_num, hpq, Lib.hid (ext_trans N.out k2.out)⟩
                      case measure => simp [intOf]; omega
                  · go_wp2_with fail
                    refine (alive13_any _).mono ?_
                    rintro e w6 ⟨rfl, hb⟩
                    go_wp2_with fail
                    go_ret
                    exact ⟨rfl, ext_trans HBq.out hb⟩
end Go.Proofs.Ytblfeokjlecgkaa
