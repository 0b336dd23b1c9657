/- Put's put closure, walked. -/
import Derived.Test.YtblfeokjlecgkaaGreatPutRow
namespace Go.Proofs.YtblfeokjlecgkaaGreat
open Go.RowKit

/-- The boxes of Put, with those of its two functions. -/
structure PEnv2 (w : World) (n : Int) (U : Option Addr) (uc : Nat) (u : List Nd) (gn gb gu gp gr : Nat) (k t m : Bool) : Prop where
  env : PEnv w n U uc u gn gb gu k t m
  cp : w.cell? ⟨gp, 0, none⟩ = some (.func (.func 35) #[] #[.pointer (some ⟨gn, 0, none⟩), .pointer (some ⟨gu, 0, none⟩), .pointer (some ⟨gp, 0, none⟩), .pointer (some ⟨gr, 0, none⟩)])
  cr : w.cell? ⟨gr, 0, none⟩ = some (.func (.func 31) #[] #[.pointer (some ⟨gn, 0, none⟩), .pointer (some ⟨gb, 0, none⟩), .pointer (some ⟨gu, 0, none⟩)])
  lp : gp < w.heap.size
  lr : gr < w.heap.size
  np : gp ≠ gb
  nr : gr ≠ gb

theorem PEnv2.grown {w w' : World} {n : Int} {U : Option Addr} {uc : Nat} {u : List Nd} {gn gb gu gp gr : Nat} {k t m k' t' m' : Bool} (h : PEnv2 w n U uc u gn gb gu gp gr k t m) (hg : w.grownBy w' (some gb)) (he : PEnv w' n U uc u gn gb gu k' t' m') : PEnv2 w' n U uc u gn gb gu gp gr k' t' m' :=
  ⟨he, (World.cell?_of_block (w := w) (a := ⟨gp, 0, none⟩) (hg.block gp h.lp (fun e => h.np (by injection e)))).trans h.cp, (World.cell?_of_block (w := w) (a := ⟨gr, 0, none⟩) (hg.block gr h.lr (fun e => h.nr (by injection e)))).trans h.cr,
    Nat.lt_of_lt_of_le h.lp hg.size, Nat.lt_of_lt_of_le h.lr hg.size, h.np, h.nr⟩

theorem PEnv2.below {w w' : World} {n : Int} {U : Option Addr} {uc : Nat} {u : List Nd} {gn gb gu gp gr : Nat} {k t m : Bool} (h : PEnv2 w n U uc u gn gb gu gp gr k t m) (hb : Below w.heap.size w w') : PEnv2 w' n U uc u gn gb gu gp gr k t m :=
  h.grown (below_grown hb _) (h.env.calls hb)

/-- What a put answers. -/
def PutPost (w : World) (n : Int) (U : Option Addr) (uc : Nat) (u : List Nd) (utss : List (List Nd)) (gn gb gu : Nat) (k t m : Bool) (N : Nat) (ts : List Nd) (e : Ending) (w' : World) : Prop :=
  ∃ (A' : Option Addr) (c' : Nat) (out : List Nd) (k' t' m' : Bool), e = .returned (.slice A' out.length c') ∧ PG n u utss N ts out k' t' m' ∧ OwnN w' w.heap.size A' c' out ∧ w.grownBy w' (some gb) ∧ PEnv w' n U uc u gn gb gu (k || k') (t || t') (m || m')

/-- While the children are put. -/
structure PLoop (w0 w1 : World) (n : Int) (U : Option Addr) (uc : Nat) (u : List Nd) (utss : List (List Nd)) (gn gb gu gp gr : Nat) (k t m : Bool) (N B : Nat) (V : Option Addr) (cv : Nat) (vs : List (Option Addr × Nat × Nat)) (tss : List (List Nd)) (i : Nat)
    (nvs : List (Option Addr × Nat × Nat)) (outs : List (List Nd)) (k' t' m' : Bool) (w : World) : Prop where
  env : PEnv2 w n U uc u gn gb gu gp gr (k || k') (t || t') (m || m')
  grew : w0.grownBy w (some gb)
  low : Below B w1 w
  sz : w1.heap.size ≤ w.heap.size
  own : OwnS w w0.heap.size V cv (nvs ++ vs.drop i)
  len : nvs.length = i
  s : Sls w w.heap.size nvs outs
  off : AllOff gb nvs
  offV : ∀ q ∈ nvs, Off V q.1
  pgs : PGs n u utss N (tss.take i) outs k' t' m'

theorem PEnv2.far {w w' : World} {n : Int} {U : Option Addr} {uc : Nat} {u : List Nd} {gn gb gu gp gr : Nat} {k t m k0 t0 m0 : Bool} {w0 : World} (h : PEnv2 w n U uc u gn gb gu gp gr k t m) (h0 : PEnv2 w0 n U uc u gn gb gu gp gr k0 t0 m0) (hb : Below w0.heap.size w w') : PEnv2 w' n U uc u gn gb gu gp gr k t m :=
  ⟨h.env.below hb h0.env.ln h0.env.lb h0.env.lu, (hb.cell (p := ⟨gp, 0, none⟩) h0.lp).trans h.cp, (hb.cell (p := ⟨gr, 0, none⟩) h0.lr).trans h.cr, Nat.lt_of_lt_of_le h.lp hb.size, Nat.lt_of_lt_of_le h.lr hb.size, h.np, h.nr⟩

section
variable {w0 w1 w w5 : World} {n : Int} {U : Option Addr} {uc : Nat} {u : List Nd} {utss : List (List Nd)} {gn gb gu gp gr : Nat} {k t m : Bool} {N B : Nat} {V : Option Addr} {cv : Nat} {vs : List (Option Addr × Nat × Nat)} {tss : List (List Nd)} {i : Nat}
  {nvs : List (Option Addr × Nat × Nat)} {outs : List (List Nd)} {k' t' m' k2 t2 m2 : Bool}

theorem PLoop.step (P : PLoop w0 w1 n U uc u utss gn gb gu gp gr k t m N B V cv vs tss i nvs outs k' t' m' w) {k0 t0 m0 : Bool} (h0 : PEnv2 w0 n U uc u gn gb gu gp gr k0 t0 m0) (hB : B ≤ gb) (hi : i < vs.length) {ts out : List Nd} {A6 : Option Addr} {c6 : Nat} (hts : tss[i]? = some ts)
    (hpg : PG n u utss N ts out k2 t2 m2) (hown : OwnN w5 w.heap.size A6 c6 out) (hg : w.grownBy w5 (some gb)) (henv : PEnv w5 n U uc u gn gb gu ((k || k') || k2) ((t || t') || t2) ((m || m') || m2)) {g : Nat} (hV : V = some ⟨g, 0, none⟩) :
    g < w.heap.size ∧ w5.frozen? ⟨g, i, none⟩ = false ∧ (∃ z, w5.cell? ⟨g, i, none⟩ = some z) ∧
    PLoop w0 w1 n U uc u utss gn gb gu gp gr k t m N B V cv vs tss (i + 1) (nvs ++ [(A6, out.length, c6)]) (outs ++ [out]) (k' || k2) (t' || t2) (m' || m2) (w5.setCell ⟨g, i, none⟩ (.slice A6 out.length c6)) := by
  subst hV
  have hlb := h0.env.lb
  have hblk := OwnL.lt P.own _ rfl
  have own5 := kept_grown1 P.own hg hlb
  have hil : i < (nvs ++ vs.drop i).length := by rw [List.length_append, List.length_drop, P.len]; omega
  obtain ⟨g', e', hbg, hgw, ⟨z, _, cz⟩, fz, own6, hg6⟩ := OwnL.setS own5 hil (A6, out.length, c6)
  injection e' with e'
  injection e' with e' _ _
  subst e'
  have hgw' : g < w.heap.size := hblk.2
  refine ⟨hgw', fz, ⟨_, cz⟩, ?_⟩
  have hset : (nvs ++ vs.drop i).set i (A6, out.length, c6) = (nvs ++ [(A6, out.length, c6)]) ++ vs.drop (i + 1) := by
    have hl := P.len
    rw [List.set_append_right _ _ (by omega), hl, Nat.sub_self, List.drop_eq_getElem_cons hi, List.set_cons_zero, List.append_assoc]
    rfl
  rw [hset] at own6
  have hbg0 : w0.heap.size ≤ g := hbg
  have hz5 := hg.size
  have hBw : B ≤ w.heap.size := by have := P.grew.size; omega
  refine ⟨?_, ?_, ?_, ?_, own6, by rw [List.length_append, P.len]; rfl, ?_, ?_, ?_, ?_⟩
  · have := (P.env.grown hg henv).far h0 ((Below.refl w0.heap.size w5).setCell (p := ⟨g, i, none⟩) hbg0 (.slice A6 out.length c6))
    simpa [Bool.or_assoc] using this
  · exact only_setCell (P.grew.trans hg) (.inr hbg0) _
  · exact (P.low.trans (below_of_only hg hB hBw)).setCell (by show B ≤ g; omega) _
  · have := P.sz
    simp [World.setCell]
    omega
  · have S5 := sls_more (sls_grown P.s (Nat.le_refl _) hg P.off) hz5
    have Sn : Sls w5 w5.heap.size [(A6, out.length, c6)] [out] := ⟨rfl, fun j v xs hv hx => by
      match j, hv, hx with
      | 0, hv, hx => simp at hv hx; subst hv hx; exact ⟨rfl, OwnL.tyA hown⟩
      | j + 1, hv, hx => simp at hv⟩
    have hoff : AllOff g (nvs ++ [(A6, out.length, c6)]) := fun q hq => by
      rcases List.mem_append.1 hq with hq | hq
      · exact P.offV q hq
      · simp at hq; subst hq; exact off_own hown hgw'
    exact sls_more (sls_grown (sls_append S5 Sn) (Nat.le_refl _) hg6 hoff) hg6.size
  · exact P.off.app fun q hq => by simp at hq; subst hq; exact off_own hown (Nat.lt_of_lt_of_le hlb P.grew.size)
  · intro q hq
    rcases List.mem_append.1 hq with hq | hq
    · exact P.offV q hq
    · simp at hq; subst hq; exact off_own hown hgw'
  · have e : tss.take (i + 1) = tss.take i ++ [ts] := by rw [List.take_add_one, hts]; rfl
    rw [e]
    exact P.pgs.snoc hpg
end

set_option maxRecDepth 100000 in
set_option maxHeartbeats 8000000 in
theorem putC_any (n : Int) (U : Option Addr) (uc : Nat) (u : List Nd) (utss : List (List Nd)) (gn gb gu gp gr B : Nat) (huo : UOk uc u utss) (hBg : B ≤ gb) (N : Nat) : ∀ (A : Option Addr) (c : Nat) (ts : List Nd) (k t m : Bool) (w : World), ts.length ≤ N → Fo 1 ts → okAll ts → TyA w B A ts → TyA w B U u →
    ts.length ≤ c → ts.length * (u.length + 1) ≤ 800000 → PEnv2 w n U uc u gn gb gu gp gr k t m →
    Calls Tryz.prog 35 #[.slice A ts.length c, .pointer (some ⟨gn, 0, none⟩), .pointer (some ⟨gu, 0, none⟩), .pointer (some ⟨gp, 0, none⟩), .pointer (some ⟨gr, 0, none⟩)] w (PutPost w n U uc u utss gn gb gu k t m N ts) := by
  induction N with
  | zero =>
    intro A c ts k t m w h0 hf
    have := hf.pos
    omega
  | succ N ih =>
    have Ih := Lib.hid ih
    clear ih
    intro A c ts k t m w hN hf hok ha hu hc hsz henv
    match ts, hf with
    | [], hf => cases hf
    | x :: ks0, hf =>
      obtain ⟨ks, rs, hks0, hks, hrs⟩ := hf.uncons
      have := hrs.of_zero
      subst this
      rw [List.append_nil] at hks0
      subst hks0
      obtain ⟨tss, ht⟩ : ∃ tss, Trees (manyN x) ks0 tss := ⟨_, trees_of hks⟩
      have hxo : okNode x.k x.n = true := hok x (by simp)
      have hoks : okAll ks0 := fun y hy => hok y (by simp [hy])
      have hlU : ks0.length * (u.length + 1) + (u.length + 1) ≤ 800000 := by simpa [Nat.add_mul] using hsz
      have hlk : ks0.length ≤ 800000 := by
        have : ks0.length * 1 ≤ ks0.length * (u.length + 1) := Nat.mul_le_mul_left _ (by omega)
        omega
      obtain ⟨b1, o1, rfl, hb1, c10, c11, c12⟩ := ha.at_ (i := 0) (x := x) rfl
      simp only [Nat.zero_mul, Nat.add_zero] at c10 c11 c12
      have hBw : B ≤ w.heap.size := Nat.le_trans hBg (Nat.le_of_lt henv.env.lb)
      have hkc := Lib.hid (fun q => tkids_any (some ⟨b1, o1, none⟩) c B (x :: ks0) ks0 x tss (w.drewN q) (ha.drewN q) hBw (by simp; omega) hc rfl hxo hoks ht)
      have hcn := henv.env.cn
      have hx0 : 0 < (x :: ks0).length := by simp
      have Henv := Lib.hid henv
      have Hu := Lib.hid hu
      have Ha := Lib.hid ha
      have Ht := Lib.hid ht
      have Hok := Lib.hid (And.intro hxo hoks)
      have H1 := Lib.hid (And.intro c10 (And.intro c11 c12))
      have hc1 : ks0.length + 1 ≤ c := by simpa using hc
      have hN1 : ks0.length ≤ N := by simp at hN; omega
      have hbw : b1 < w.heap.size := by omega
      obtain ⟨hv, hhv⟩ : ∃ hv, hv = ((x.k == 8) && (x.n == n)) := ⟨_, rfl⟩
      have Hv := Lib.hid hhv
      clear hf hok hks hrs ht hxo hoks hN hc hsz henv ha hu hhv
      generalize hL : (x :: ks0).length = L at *
      have HL := Lib.hid hL
      clear hL
      go_enter Tryz.func35, Tryz.ntmps35
      go_upto_region 1 with fail
      go_cut [23] (fun s23 wx => s23 = .bool hv ∧ ∃ q, wx = w.drewN q)
      case first =>
        cases h8 : (x.k == 8)
        · have H8 := Lib.hid h8
          go_quiet (fail)
          go_wp2_with fail
          go_meet
          exact ⟨by rw [Hv.out, H8.out]; rfl, _, rfl⟩
        · have H8 := Lib.hid h8
          cases hn : (x.n == n)
          all_goals
            have Hn := Lib.hid hn
            go_quiet (fail)
            go_wp2_with fail
            go_meet
            exact ⟨by rw [Hv.out, H8.out, Hn.out]; rfl, _, rfl⟩
      case rest =>
        obtain ⟨rfl, q, rfl⟩ := hcut
        clear hcn
        cases hv
        · have hvn : Hid (¬ (x.k = 8 ∧ x.n = n)) := Lib.hid (by
            rintro ⟨h8, hn⟩
            have := Hv.out
            simp [h8, hn] at this)
          clear Hv
          go_wp2_with fail
          refine (hkc.out q).mono ?_
          rintro e w1 ⟨V, cv, vs, rfl, hown, hvl, hS, hcap, hb⟩
          have hb1 := ext_trans (ext_drewN (Below.refl _ w) q) hb
          have hv50 : vs.length ≤ 50 := by rw [hvl]; exact manyN_le Hok.out.1
          have hvt : vs.length = tss.length := hS.1
          have P : Hid (PLoop w w1 n U uc u utss gn gb gu gp gr k t m N B V cv vs tss 0 [] [] false false false w1) := Lib.hid ⟨by simpa using Henv.out.below hb1, below_grown hb1 _, Below.refl _ _, Nat.le_refl _, by simpa using OwnL.lower hown (ext_drewN (Below.refl _ w) q).size, rfl, ⟨rfl, fun i v ts hv => by simp at hv⟩, fun q hq => by simp at hq, fun q hq => by simp at hq, by rw [List.take_zero]; exact PGs.nil _ _ _ _⟩
          have HS := Lib.hid (And.intro hS (And.intro hcap (And.intro hvt hb1)))
          have hcv := OwnL.le_cap hown
          clear hkc hown hvl hS hcap hb hvt hb1
          go_wp2_with fail
          go_loopw [38] (fun s38 wr => ∃ (i : Nat) (nvs : List (Option Addr × Nat × Nat)) (outs : List (List Nd)) (k' t' m' : Bool), s38 = .int .i64 i ∧ i ≤ vs.length ∧ Hid (PLoop w w1 n U uc u utss gn gb gu gp gr k t m N B V cv vs tss i nvs outs k' t' m' wr))
            (fun s38 _ => vs.length - (intOf s38).toNat)
          case atStart => exact ⟨0, [], [], false, false, false, rfl, Nat.zero_le _, P⟩
          case round =>
            clear P
            obtain ⟨i, nvs, outs, k', t', m', rfl, hi, P⟩ := hrel
            by_cases hlt : i < vs.length
            · obtain ⟨v, hvi⟩ := getq_ex hlt
              obtain ⟨ts, hts⟩ := getq_ex (show i < tss.length by rw [← HS.out.2.2.1]; exact hlt)
              have hget : (nvs ++ vs.drop i)[i]? = some v := by
                rw [List.getElem?_append_right (by rw [P.out.len]; exact Nat.le_refl _), P.out.len, Nat.sub_self, List.getElem?_drop]
                simpa using hvi
              obtain ⟨g, rfl, hbg, hgw, ⟨z, hz, cz⟩, _, _, _⟩ := OwnL.setS P.out.own (getq_lt hget) v
              rw [hget] at hz
              injection hz with hz
              subst hz
              obtain ⟨e1, e2⟩ := (sls_below HS.out.1 P.out.low).2 i v ts hvi hts
              have hcap := HS.out.2.1 v (List.mem_of_getElem? hvi)
              rw [e1] at cz hcap
              have hmt := List.mem_of_getElem? hts
              have hlt2 : ts.length ≤ ks0.length := by
                have := List.Sublist.length_le (List.sublist_flatten_of_mem hmt)
                rwa [Ht.out.flat] at this
              have hI := Lib.hid (Ih.out v.1 v.2.2 ts (k || k') (t || t') (m || m') wr (by omega) (Ht.out.one ts hmt) (fun y hy => Hok.out.2 y (by rw [← Ht.out.flat]; exact List.mem_flatten.2 ⟨ts, hmt, hy⟩)) e2 (Hu.out.only P.out.grew hBg hBw) hcap (by
                have : ts.length * (u.length + 1) ≤ ks0.length * (u.length + 1) := Nat.mul_le_mul_right _ hlt2
                omega) P.out.env)
              have hcp := P.out.env.cp
              have hts' := Lib.hid hts
              clear hvi hts hget e1 e2 hcap hmt hlt2
              go_wp2_with fail
              refine hI.out.mono ?_
              rintro e w5 ⟨A6, c6, out, k2, t2, m2, rfl, hpg, hown6, hg6, henv6⟩
              obtain ⟨hgw2, fz, ⟨z2, cz2⟩, P2⟩ := P.out.step Henv.out hBg hlt hts'.out hpg hown6 hg6 henv6 rfl
              have hgw5 := Nat.lt_of_lt_of_le hgw2 hg6.size
              have HP := Lib.hid P2
              clear P2 hpg hown6 hg6 henv6 hI hcp cz
              go_wp2_with fail
              go_roundw
              case rel => exact ⟨i + 1, _, _, _, _, _, by go_num, hlt, HP⟩
              case measure => simp [intOf]; omega
            · have hil : i = vs.length := by omega
              have hnl : nvs.length = vs.length := by rw [P.out.len, hil]
              have hdr : nvs ++ vs.drop i = nvs := by rw [hil, List.drop_length, List.append_nil]
              have hown := P.out.own
              rw [hdr] at hown
              have hpgs := P.out.pgs
              rw [show tss.take i = tss by rw [hil, HS.out.2.2.1, List.take_length]] at hpgs
              have hlow := P.out.low
              have hgr := P.out.grew
              have hgw := Nat.lt_of_lt_of_le Henv.out.env.lb hgr.size
              have hwr := hgr.size
              obtain ⟨_, _, hq1, _, c10, c11, c12⟩ := (Ha.out.only hgr hBg hBw).at_ (i := 0) (x := x) rfl
              simp only [Option.some.injEq, Addr.mk.injEq, and_true] at hq1
              obtain ⟨rfl, rfl⟩ := hq1
              simp only [Nat.zero_mul, Nat.add_zero] at c10 c11 c12
              have hbwr : b1 < wr.heap.size := by omega
              have hfl : outs.flatten.length ≤ ks0.length * (u.length + 1) := by
                have := hpgs.len
                rwa [Ht.out.flat] at this
              have K := Lib.hid (And.intro P.out.env (And.intro hown (And.intro P.out.s (And.intro P.out.off (And.intro hpgs (And.intro hnl hgr))))))
              have C := Lib.hid (And.intro c10 (And.intro c11 c12))
              clear P hnl hdr hown hpgs hlow hil
              go_wp2_with fail
              refine (tIsRow_any _ _ _ _).mono ?_
              rintro e w4 ⟨rfl, hb4⟩
              have hz4 := hb4.size
              have d10 := (hb4.cell (p := ⟨b1, o1, none⟩) hbwr).trans C.out.1
              have d11 := (hb4.cell (p := ⟨b1, o1 + 1, none⟩) hbwr).trans C.out.2.1
              have d12 := (hb4.cell (p := ⟨b1, o1 + 2, none⟩) hbwr).trans C.out.2.2
              have K4 := Lib.hid (And.intro (K.out.1.below hb4) (And.intro (OwnL.below K.out.2.1 hb4 (Nat.le_refl _)) (And.intro (sls_more (sls_below K.out.2.2.1 hb4) hb4.size) (K.out.2.2.2.2.2.2.trans (below_grown hb4 _)))))
              clear c10 c11 c12 hb4 C
              have hcr := K4.out.1.cr
              have hTy : Hid (TyA w4 B (some ⟨b1, o1, none⟩) (x :: ks0)) := Lib.hid (Ha.out.only K4.out.2.2.2 hBg hBw)
              have hb1w : b1 < w4.heap.size := by omega
              have hoff : Hid (Off (some ⟨gb, 0, none⟩) V) := Lib.hid (off_own K4.out.2.1 Henv.out.env.lb)
              cases hr : isRowB x.k
              · have HR := Lib.hid hr
                clear d10 d11 d12 hcr
                have hc0 := Lib.hid (fun v (hb : Below w4.heap.size w4 v) => by
                  have h := concat_any V cv nvs outs v ((ReadL.below (OwnL.read encS_len K4.out.2.1) hb).more hb.size) (sls_more (sls_below K4.out.2.2.1 hb) hb.size) (by rw [K.out.2.2.2.2.2.1]; omega) (by omega)
                  rw [K.out.2.2.2.2.2.1] at h
                  exact h)
                have Hfl := Lib.hid hfl
                generalize hF : outs.flatten = F at *
                have HF := Lib.hid hF
                clear hF hfl
                go_wp2_with fail
                have hc11 : 1 ≤ c := by omega
                have hc12 : (1 : Int) ≤ (c : Int) := by omega
                go_region_held3 (fun v => Hid (Below w4.heap.size w4 v))
                  (first
                    | exact Lib.hid (Below.refl _ _).drew
                    | exact hw1
                    | exact Lib.hid (ext_alloc hw1.out _)
                    | exact hw2)
                  (first
                    | (go_at_call 34; (with_reducible refine (hc0.out _ (Below.refl _ _).drew).mono ?_); rintro e w5 ⟨A5, c5, rfl, hown5, hb5⟩; have hw1 := Lib.hid (ext_trans (Below.refl _ w4).drew hb5); have hP := Lib.hid (OwnL.tyA hown5); clear hown5 hb5)
                    | (go_at_call 34; (with_reducible refine (concat2_any (some ⟨b1, o1, none⟩) A5 1 F.length c c5 [x] F w5 (((((hTy.out.part (i := 0) (ts := [x]) (rest := ks0) rfl)).below (hw1.out.mono (by omega))).more (by have := hw1.out.size; omega))) hP.out rfl rfl (by have := Hfl.out; simp; omega)).mono ?_); rintro e w6 ⟨A6, c6, rfl, hown6, hb6⟩; have hw2 := Lib.hid (ext_trans hw1.out hb6); have hQ := Lib.hid (OwnL.lower hown6 hw1.out.size); clear hown6 hb6))
                all_goals
                  go_wp2_with fail
                  go_ret
                  unfold PutPost
                  refine ⟨A6, c6, x :: F, k', t', m', rfl, ?_, OwnL.lower hQ.out (by omega), K4.out.2.2.2.trans (below_grown hw2.out _), K4.out.1.env.calls hw2.out⟩
                  rw [← HF.out, ← Ht.out.flat]
                  exact PG.node hvn.out HR.out (by rw [Ht.out.flat]; exact Ht.out) K.out.2.2.2.2.1
              · have HR := Lib.hid hr
                have hrow : Hid (∀ _ : Unit, _) := Lib.hid fun (_ : Unit) => row_any (some ⟨b1, o1, none⟩) c B (x :: ks0) x n U uc u gn gb gu (k || k') (t || t') (m || m') V cv nvs outs utss w4 hTy.out rfl hBg K4.out.1.env (Hu.out.only K4.out.2.2.2 hBg hBw) huo (OwnL.read encS_len K4.out.2.1) K4.out.2.2.1 K.out.2.2.2.2.1.ne hoff.out K.out.2.2.2.1 (by rw [K.out.2.2.2.2.2.1]; exact hcv) (by rw [K.out.2.2.2.2.2.1]; omega) (by
                  have := huo.few.2.1
                  have := huo.len
                  omega)
                have hrow2 := hrow.out ()
                rw [K.out.2.2.2.2.2.1, HL.out] at hrow2
                have HW := Lib.hid hrow2
                clear hrow hrow2 d10 d11 d12 hfl
                go_wp2_with fail
                refine HW.out.mono ?_
                rintro e w6 ⟨A6, c6, out, rfl, hto, hown6, hg6, henv6⟩
                have Z := Lib.hid (And.intro hto (And.intro hown6 (And.intro hg6 henv6)))
                clear hto hown6 hg6 henv6 HW hcr
                go_wp2_with fail
                go_ret
                unfold PutPost
                refine ⟨A6, c6, out, k' || rowK n (headNd u).k x.k outs, t' || rowT n (headNd u).k x.k utss outs, m' || rowM n utss outs, rfl, ?_, OwnL.lower Z.out.2.1 (by omega), K4.out.2.2.2.trans Z.out.2.2.1, ?_⟩
                · rw [← Ht.out.flat]
                  exact PG.row hvn.out HR.out (by rw [Ht.out.flat]; exact Ht.out) K.out.2.2.2.2.1 huo.few.2.1 Z.out.1
                · have := Z.out.2.2.2
                  simpa only [Bool.or_assoc] using this
        · have hvt : Hid (x.k = 8 ∧ x.n = n) := Lib.hid (by simpa using Hv.out)
          have hcu := Henv.out.env.cu
          have hul := huo.len
          obtain ⟨y, uks, hue, _⟩ := huo.ex
          have hune : u ≠ [] := by rw [hue]; simp
          have hgu := Henv.out.env.lu
          have hlen : (nameN x.s u).length = u.length := by rw [hue]; rfl
          have hcl := Lib.hid (clone_any U uc u (w.drewN q) ((Hu.out.drewN q).more hBw) hune (by omega))
          have Hue := Lib.hid (And.intro hue (And.intro hune hlen))
          clear hue hune hlen Hv hkc
          go_wp2_with fail
          refine hcl.out.mono ?_
          rintro e w1 ⟨A1, c1, rfl, hown, hb⟩
          have hb1 := ext_trans (ext_drewN (Below.refl _ w) q) hb
          obtain ⟨g, rfl, hbg, hgw, cs, fs, hown2, hg2⟩ := OwnL.setN hown (j := 0) (x := y) (by rw [Hue.out.1]; rfl) x.s
          simp only [Nat.zero_mul, Nat.zero_add] at cs fs hown2 hg2
          have hset : u.set 0 (y.name x.s) = nameN x.s u := by rw [Hue.out.1]; rfl
          rw [hset] at hown2
          have c11 := (hb1.cell (p := ⟨b1, o1 + 1, none⟩) hbw).trans H1.out.2.1
          have hbw1 : b1 < w1.heap.size := by have := hb1.size; omega
          have hul0 : 0 < u.length := by rw [Hue.out.1]; simp
          have hbg' : w.heap.size ≤ g := hbg
          have hb2 := Lib.hid (And.intro hown2 (ext_set hb1 (p := ⟨g, 1, none⟩) hbg' (.string x.s)))
          clear hown hb hown2 hg2 hset hb1 hcl hcu
          go_wp2_with fail
          go_ret
          unfold PutPost
          refine ⟨_, c1, nameN x.s u, false, false, false, by rw [Hue.out.2.2]; rfl, PG.var hvt.out.1 hvt.out.2 Hue.out.2.1, OwnL.lower hb2.out.1 (Nat.le_refl _), below_grown hb2.out.2 _, ?_⟩
          have := Henv.out.env.calls hb2.out.2
          simpa using this
end Go.Proofs.YtblfeokjlecgkaaGreat
