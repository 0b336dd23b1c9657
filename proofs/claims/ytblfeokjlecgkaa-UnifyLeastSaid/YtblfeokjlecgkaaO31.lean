/- Laid together by a tool from the texts of this seat: UAgree UEndsZ UAgr UKnown UniV UniW UniX UAlive. Conditions: each theorem's own. -/
import Derived.Test.YtblfeokjlecgkaaO23
import Derived.Test.YtblfeokjlecgkaaO28
import Derived.Test.YtblfeokjlecgkaaO29
import Derived.Test.YtblfeokjlecgkaaO30
import Derived.Test.YtblfeokjlecgkaaO26
import Derived.Test.YtblfeokjlecgkaaO27
import Derived.Test.YtblfeokjlecgkaaO25
import Derived.Test.YtblfeokjlecgkaaO04
import Derived.Test.YtblfeokjlecgkaaO14
/- unify.agree, walked. -/
namespace Go.Proofs.Ytblfeokjlecgkaa
open Go.RowKit

attribute [local go_sem ↓] Go.wp_at_zero Go.wp_at_succ

theorem TG.var8 {U : List Lb} {S : Kn} {t : Ut} (g : TG U S t) (h8 : t.k = 8) : t = varT t.n ∧ S.L t.n = none ∧ 0 ≤ t.n ∧ t.n < S.m := by
  obtain ⟨k, n, fs, tl⟩ := t
  obtain ⟨e, hl⟩ := okT_shape g.pend.1 h8
  have h1 := g.nn
  have h2 := g.pend.2
  rw [nnT_mk] at h1
  rw [bdT_mk] at h2
  exact ⟨e, hl, h1.1 h8, h2.1 h8⟩

section
variable {U : List Lb} {s m : Nat} {first : Int} {S : Kn} {a b : Ut} {ba bb : Nat} {w : World}

/-- 'becomes' at a Var and a good tree. -/
theorem becomes_var (hS : SolAt (SX s m) s m first w S) (hK : KG U S) (hU : U.length ≤ 100000) {v : Int} (hv : S.κ v = none) (hl : S.L v = none) (h0 : 0 ≤ v) (hvm : v < S.m) (hb : NodeAt (SX s m) w bb b) (g : TG U S b) (k0 : b.k ≠ 0) (h8 : b.k = 8 → S.κ b.n = none ∧ b.n ≠ v)
    (hm : S.m + (dynT b : Nat) ≤ 4611686018427387904) :
    Calls Try.prog 111 #[.pointer (some ⟨s, 0, none⟩), .int .i64 v, .pointer (some ⟨bb, 0, none⟩)] w (AgPost U S (varT v) b (dynT b) s m first w) := by
  obtain ⟨hmm, gs⟩ := g.stc hK
  refine (becomes_any U s m first S v b bb w hS hK hU hb (g.small hU) hmm (.inl gs) hv hm).mono ?_
  rintro e w' ⟨r, rfl, h1, h2, h3⟩
  refine ⟨r, rfl, h1, fun e => dis_var hK hl hvm g k0 h8 (h2 e), fun e => ?_⟩
  obtain ⟨o, h4⟩ := h3 e
  exact ⟨S.bindV v b, done_var hK hv hl h0 hvm g h8 o, h4 _ rfl rfl⟩

theorem AgPost.symm {n : Nat} {e : Ending} {w' : World} (h : AgPost U S a b n s m first w e w') : AgPost U S b a n s m first w e w' := by
  obtain ⟨r, h1, h2, h3, h4⟩ := h
  exact ⟨r, h1, h2, fun e => (h3 e).symm, fun e => by
    obtain ⟨S', h5, h6⟩ := h4 e
    exact ⟨S', h5.symm, h6⟩⟩

/-- What was asked of the trees as they are looked at. -/
theorem AgPost.looked {a' b' : Ut} {n : Nat} {w0 w1 : World} {e : Ending} {w' : World} (h : AgPost U S a' b' n s m first w1 e w') (hb : Below w0.heap.size w0 w1) (hn : n ≤ dynT a + dynT b) (pa : Pend S a) (pb : Pend S b) (pa' : Pend S a') (pb' : Pend S b') (ea : Eqv S a a') (eb : Eqv S b b') : AgPost U S a b (dynT a + dynT b) s m first w0 e w' := by
  obtain ⟨r, h1, h2, h3, h4⟩ := h
  exact ⟨r, h1, (Fr.below hb).trans h2, fun e => (h3 e).eqv ea eb, fun e => by
    obtain ⟨S', h5, h6⟩ := h4 e
    exact ⟨S', (h5.eqv pa' pa pb' pb ea eb).more hn, h6⟩⟩
end

theorem AgLess.looked {S S' : Kn} {a b a' b' c d : Ut} (h : AgLess S a' b' S' c d) (ha : dynT a' ≤ dynT a) (hb : dynT b' ≤ dynT b) (ia : inst S.σ a = inst S.σ a') (ib : inst S.σ b = inst S.σ b') : AgLess S a b S' c d := by
  rcases h with h | ⟨h1, h2⟩
  · exact .inl (by omega)
  · rw [← ia, ← ib] at h2
    by_cases e : S'.un + (dynT c + dynT d) = S.un + (dynT a + dynT b)
    · exact .inr ⟨e, h2⟩
    · exact .inl (by omega)

set_option maxRecDepth 100000 in
set_option maxHeartbeats 8000000 in
theorem agree_step (hE : EndsAll) (U : List Lb) (s m : Nat) (first : Int) (S : Kn) (a b : Ut) (ba bb : Nat) (w : World) (h : AgH U s m first S a b ba bb w)
    (ih : ∀ (S' : Kn) (c d : Ut) (bc bd : Nat) (w' : World), AgLess S a b S' c d → AgH U s m first S' c d bc bd w' → AgAt U s m first S' c d bc bd w') : AgAt U s m first S a b ba bb w := by
  obtain ⟨a', la⟩ := looks_ex h.kg.rk a
  obtain ⟨b', lb⟩ := looks_ex h.kg.rk b
  obtain ⟨ta', ea, ia⟩ := la.good h.kg h.ta
  obtain ⟨tb', eb, ib⟩ := lb.good h.kg h.tb
  have da := la.dyn h.kg h.ta
  have db := lb.dyn h.kg h.tb
  have HE := Lib.hid hE
  have HH := Lib.hid h
  have HI := Lib.hid ih
  have hA := Lib.hid (look_any (SX s m) s m first w S h.sol h.kg.rk ba a a' h.na la)
  have hB := Lib.hid fun W (hW : Below w.heap.size w W) => look_any (SX s m) s m first W S (h.sol.bel hW) h.kg.rk bb b b' (h.nb.bel hW) lb
  have L := Lib.hid (And.intro (And.intro ta' (And.intro ea (And.intro ia (And.intro da la.end_)))) (And.intro tb' (And.intro eb (And.intro ib (And.intro db lb.end_)))))
  clear hE h ih ta' ea ia tb' eb ib da db la lb
  unfold pk at hA hB
  -- what is to be shown, of the trees as they are looked at
  have FIN : Hid (∀ (W : World) (n : Nat) (e : Ending) (w' : World), Below w.heap.size w W → n ≤ dynT a' + dynT b' → AgPost U S a' b' n s m first W e w' → AgPost U S a b (dynT a + dynT b) s m first w e w') := Lib.hid fun W n e w' hW hn hp =>
    hp.looked hW (by have := L.out.1.2.2.2.1; have := L.out.2.2.2.2.1; omega) HH.out.ta.pend HH.out.tb.pend L.out.1.1.pend L.out.2.1.pend L.out.1.2.1 L.out.2.2.1
  unfold AgAt pk
  go_enter Try.func68, Try.ntmps68
  go_wp2_with fail
  refine hA.out.mono ?_
  rintro e w1 ⟨ca, rfl, na, b1⟩
  have H1 := Lib.hid (And.intro na b1)
  clear na b1 hA
  try unfold pk
  go_wp2_with fail
  refine (hB.out w1 H1.out.2).mono ?_
  rintro e w2 ⟨cb, rfl, nb, b2⟩
  have H2 := Lib.hid (And.intro (H1.out.1.bel b2) (And.intro nb (ext_trans H1.out.2 b2)))
  clear nb b2 hB H1
  obtain ⟨x0, x1⟩ := H2.out.1.cells
  obtain ⟨y0, y1⟩ := H2.out.2.1.cells
  try unfold pk
  -- the kinds
  cases ka : (a'.k == 0) with
  | true =>
    have KA : Hid (a'.k = 0) := Lib.hid (by simpa using ka)
    go_wp2_with fail
    go_quiet (fail)
    go_wp2_with fail
    go_ret
    exact FIN.out w2 _ _ _ H2.out.2.2 (Nat.le_refl _) (AgPost.same (below_drewN (Below.refl _ _) _) (HH.out.sol.bel H2.out.2.2) (Done.none HH.out.kg (agree_dyn HH.out.kg.inv KA.out) _))
  | false =>
  cases kb : (b'.k == 0) with
  | true =>
    have KB : Hid (b'.k = 0) := Lib.hid (by simpa using kb)
    go_wp2_with fail
    go_quiet (fail)
    go_wp2_with fail
    go_ret
    exact FIN.out w2 _ _ _ H2.out.2.2 (Nat.le_refl _) (AgPost.same (below_drewN (Below.refl _ _) _) (HH.out.sol.bel H2.out.2.2) (Done.none HH.out.kg ((agree_dyn HH.out.kg.inv KB.out).symm) _))
  | false =>
  have KA : Hid (a'.k ≠ 0) := Lib.hid (by simpa using ka)
  have KB : Hid (b'.k ≠ 0) := Lib.hid (by simpa using kb)
  cases va : (a'.k == 8) with
  | true =>
    have VA := Lib.hid (L.out.1.1.var8 (by simpa using va))
    have VU : Hid (S.κ a'.n = none) := Lib.hid (L.out.1.2.2.2.2 (by simpa using va))
    cases vb : (b'.k == 8) with
    | true =>
      have VB := Lib.hid (L.out.2.1.var8 (by simpa using vb))
      cases nn : (a'.n == b'.n) with
      | true =>
        have EQ : Hid (a' = b') := Lib.hid (by rw [VA.out.1, VB.out.1]; congr 1; simpa using nn)
        go_wp2_with fail
        go_quiet (fail)
        go_wp2_with fail
        go_ret
        exact FIN.out w2 _ _ _ H2.out.2.2 (Nat.le_refl _) (AgPost.same (below_drewN (Below.refl _ _) _) (HH.out.sol.bel H2.out.2.2) (Done.none HH.out.kg (EQ.out ▸ agree_self HH.out.kg.inv a') _))
      | false =>
        have hbec : Hid (∀ W, Below w2.heap.size w2 W → Calls Try.prog 111 #[.pointer (some ⟨s, 0, none⟩), .int .i64 a'.n, .pointer (some ⟨cb, 0, none⟩)] W (AgPost U S a' b' (dynT b') s m first W)) := Lib.hid fun W hW => by
          have := becomes_var (bb := cb) (b := b') (HH.out.sol.bel (ext_trans H2.out.2.2 hW)) HH.out.kg HH.out.hU VU.out VA.out.2.1 VA.out.2.2.1 VA.out.2.2.2 (H2.out.2.1.bel hW) L.out.2.1 KB.out (fun h => ⟨L.out.2.2.2.2.2 h, fun e => by simp [e] at nn⟩) (by have := HH.out.mb; have := L.out.2.2.2.2.1; omega)
          rw [← VA.out.1] at this
          exact this
        go_wp2_with fail
        go_quiet (fail)
        go_wp2_with fail
        refine (hbec.out _ ?_).mono ?_
        · first | exact below_drewN (Below.refl _ _) _ | exact (below_drewN (Below.refl _ _) _).drew
        rintro e w3 ⟨r, rfl, hp⟩
        have HP := Lib.hid hp
        clear hp
        go_wp2_with fail
        go_ret
        exact FIN.out _ _ _ _ (ext_trans H2.out.2.2 (below_drewN (Below.refl _ _) _)) (by omega) ⟨r, rfl, HP.out⟩
    | false =>
      have hbec : Hid (∀ W, Below w2.heap.size w2 W → Calls Try.prog 111 #[.pointer (some ⟨s, 0, none⟩), .int .i64 a'.n, .pointer (some ⟨cb, 0, none⟩)] W (AgPost U S a' b' (dynT b') s m first W)) := Lib.hid fun W hW => by
        have := becomes_var (bb := cb) (b := b') (HH.out.sol.bel (ext_trans H2.out.2.2 hW)) HH.out.kg HH.out.hU VU.out VA.out.2.1 VA.out.2.2.1 VA.out.2.2.2 (H2.out.2.1.bel hW) L.out.2.1 KB.out (fun h => by rw [h] at vb; cases vb) (by have := HH.out.mb; have := L.out.2.2.2.2.1; omega)
        rw [← VA.out.1] at this
        exact this
      go_wp2_with fail
      go_quiet (fail)
      go_wp2_with fail
      refine (hbec.out _ ?_).mono ?_
      · first | exact below_drewN (Below.refl _ _) _ | exact (below_drewN (Below.refl _ _) _).drew
      rintro e w3 ⟨r, rfl, hp⟩
      have HP := Lib.hid hp
      clear hp
      go_wp2_with fail
      go_ret
      exact FIN.out _ _ _ _ (ext_trans H2.out.2.2 (below_drewN (Below.refl _ _) _)) (by omega) ⟨r, rfl, HP.out⟩
  | false =>
    cases vb : (b'.k == 8) with
    | true =>
      have VB := Lib.hid (L.out.2.1.var8 (by simpa using vb))
      have VU : Hid (S.κ b'.n = none) := Lib.hid (L.out.2.2.2.2.2 (by simpa using vb))
      have hbec : Hid (∀ W, Below w2.heap.size w2 W → Calls Try.prog 111 #[.pointer (some ⟨s, 0, none⟩), .int .i64 b'.n, .pointer (some ⟨ca, 0, none⟩)] W (AgPost U S a' b' (dynT a') s m first W)) := Lib.hid fun W hW => by
        have := becomes_var (bb := ca) (b := a') (HH.out.sol.bel (ext_trans H2.out.2.2 hW)) HH.out.kg HH.out.hU VU.out VB.out.2.1 VB.out.2.2.1 VB.out.2.2.2 (H2.out.1.bel hW) L.out.1.1 KA.out (fun h => by rw [h] at va; cases va) (by have := HH.out.mb; have := L.out.1.2.2.2.1; omega)
        rw [← VB.out.1] at this
        exact this.mono fun e w' h => h.symm
      go_wp2_with fail
      go_quiet (fail)
      go_wp2_with fail
      refine (hbec.out _ ?_).mono ?_
      · first | exact below_drewN (Below.refl _ _) _ | exact (below_drewN (Below.refl _ _) _).drew
      rintro e w3 ⟨r, rfl, hp⟩
      have HP := Lib.hid hp
      clear hp
      go_wp2_with fail
      go_ret
      exact FIN.out _ _ _ _ (ext_trans H2.out.2.2 (below_drewN (Below.refl _ _) _)) (by omega) ⟨r, rfl, HP.out⟩
    | false =>
    have VA : Hid (a'.k ≠ 8) := Lib.hid (by simpa using va)
    have VB : Hid (b'.k ≠ 8) := Lib.hid (by simpa using vb)
    cases kk : (a'.k == b'.k) with
    | false =>
      have kk' : (a'.k != b'.k) = true := by simp [bne, kk]
      have KK : Hid (a'.k ≠ b'.k) := Lib.hid (by simpa using kk)
      go_wp2_with fail
      go_quiet (fail)
      go_wp2_with fail
      go_quiet (fail)
      go_wp2_with fail
      go_ret
      exact FIN.out w2 _ _ _ H2.out.2.2 (Nat.le_refl _) (AgPost.no ((below_drewN (Below.refl _ _) _).trans (below_drewN (Below.refl _ _) _)) (agree_kinds KK.out KA.out VA.out KB.out VB.out))
    | true =>
      have kk' : (a'.k != b'.k) = false := by simp [bne, kk]
      have KK : Hid (a'.k = b'.k) := Lib.hid (by simpa using kk)
      have hLess : Hid (∀ (S' : Kn) (c d : Ut) (bc bd : Nat) (w' : World), AgLess S a' b' S' c d → AgH U s m first S' c d bc bd w' → AgAt U s m first S' c d bc bd w') := Lib.hid fun S' c d bc bd w' h1 h2 => HI.out S' c d bc bd w' (h1.looked L.out.1.2.2.2.1 L.out.2.2.2.2.1 L.out.1.2.2.1 L.out.2.2.2.1) h2
      go_wp2_with fail
      go_quiet (fail)
      go_wp2_with fail
      go_quiet (fail)
      go_wp2_with fail
      refine (uIsRow_any a'.k _).mono ?_
      rintro e w3 ⟨rfl, hw3⟩
      have B3 : Hid (Below w2.heap.size w2 w3) := Lib.hid (by
        rw [← hw3]
        exact below_drewN (Below.refl _ _) _)
      have AG : Hid (AgH U s m first S a' b' ca cb w3) := Lib.hid ⟨HH.out.sol.bel (ext_trans H2.out.2.2 B3.out), HH.out.kg, HH.out.hU, H2.out.1.bel B3.out, H2.out.2.1.bel B3.out, L.out.1.1, L.out.2.1, by
        have h1 := HH.out.mb
        have h2 := L.out.1.2.2.2.1
        have h3 := L.out.2.2.2.2.1
        omega⟩
      clear hw3 x0 x1 y0 y1 ka kb va vb kk kk'
      cases hr : isRowB a'.k with
      | true =>
        have HR := Lib.hid hr
        have hRows := Lib.hid (rows_any HE.out U s m first S a' b' ca cb w3 AG.out HR.out KK.out.symm hLess.out)
        unfold pk at hRows
        go_wp2_with fail
        refine hRows.out.mono ?_
        rintro e w4 ⟨r, rfl, hp⟩
        have HP := Lib.hid hp
        clear hp
        go_wp2_with fail
        go_ret
        exact FIN.out _ _ _ _ (ext_trans H2.out.2.2 B3.out) (Nat.le_refl _) ⟨r, rfl, HP.out⟩
      | false =>
        have LK : Hid (Like a' b') := Lib.hid ⟨KK.out.symm, KA.out, VA.out, hr⟩
        have hlen := LK.out.len L.out.1.1 L.out.2.1
        obtain ⟨ka, na, fa, la⟩ := a'
        obtain ⟨kb, nb, fb, lb⟩ := b'
        obtain ⟨A1, B1, ls1, bs1, ca1, cb1, t1a, p1, p2, p3, p4, p5, p6, p7, p8, p9⟩ := AG.out.na.parts
        obtain ⟨A2, B2, ls2, bs2, ca2, cb2, t2a, q1, q2, q3, q4, q5, q6, q7, q8, q9⟩ := AG.out.nb.parts
        have x3 : w3.cell? ⟨ca, 3, none⟩ = some (.slice B1 bs1.length cb1) := by simp [World.cell?, p1]
        have y3 : Hid (∀ W, Fr (SX s m) w3 W → W.cell? ⟨cb, 3, none⟩ = some (.slice B2 bs2.length cb2)) := Lib.hid fun W hW => (World.cell?_of_block (w := w3) (hW.block cb (Array.getElem?_eq_some_iff.1 q1).1 q9)).trans (by simp [World.cell?, q1])
        have hfl : Hid (fa.length = fb.length) := Lib.hid hlen
        have P1 := Lib.hid (And.intro p5 (And.intro p6 p7))
        have P2 := Lib.hid (And.intro q5 (And.intro q6 q7))
        have hbb : bs1.length = bs2.length := by
          have : fa.length = fb.length := hlen
          omega
        have hl50 : bs1.length ≤ 100002 := by
          have h1 := L.out.1.1.fs_len
          have h2 := HH.out.hU
          have h3 : fa.length ≤ U.length + 2 := h1
          omega
        clear hlen p1 p2 p3 p4 p5 p6 p7 p8 p9 q1 q2 q3 q4 q5 q6 q7 q8 q9
        go_wp2_with fail
        go_loopw [104] (fun s104 wr => ∃ (i : Nat) (S' : Kn), s104 = .int .i64 i ∧ i ≤ bs1.length ∧ Hid (KidsI U S S' (.mk ka na fa la) (.mk kb nb fb lb) i ∧ SolAt (SX s m) s m first wr S' ∧ Fr (SX s m) w3 wr)) (fun s104 _ => bs1.length - (intOf s104).toNat)
        case atStart => exact ⟨0, S, rfl, Nat.zero_le _, Lib.hid ⟨.start HH.out.kg _ _, AG.out.sol, Fr.refl _ _⟩⟩
        case round =>
          obtain ⟨i, S', rfl, hi, M⟩ := hrel
          by_cases hp : i < bs1.length
          · obtain ⟨c, hc⟩ := getq_ex hp
            obtain ⟨d, hd⟩ := getq_ex (l := bs2) (i := i) (by omega)
            obtain ⟨pc, hpc⟩ := getq_ex (l := fa) (i := i) (by have := P1.out.2.1; omega)
            obtain ⟨pd, hpd⟩ := getq_ex (l := fb) (i := i) (by have := P2.out.2.1; omega)
            have nc := P1.out.2.2 i pc c hpc hc
            have nd := P2.out.2.2 i pd d hpd hd
            obtain ⟨bb1, oo1, rfl, z1, z2, z3⟩ := P1.out.1.cellB hc
            obtain ⟨bb2, oo2, rfl, z4, z5, z6⟩ := P2.out.1.cellB hd
            have g1 := (World.cell?_of_block (w := w3) (M.out.2.2.block bb1 z2 z1)).trans z3
            have g2 := (World.cell?_of_block (w := w3) (M.out.2.2.block bb2 z5 z4)).trans z6
            have g3 := y3.out wr M.out.2.2
            have G := Lib.hid (And.intro hpc (And.intro hpd (And.intro nc nd)))
            have hless := M.out.1.less LK.out L.out.1.1 L.out.2.1 (show (Ut.mk ka na fa la).fs[i]? = some pc from hpc) (show (Ut.mk kb nb fb lb).fs[i]? = some pd from hpd)
            have hAg : Hid (AgAt U s m first S' pc.2 pd.2 c d wr) := Lib.hid (hLess.out S' pc.2 pd.2 c d wr (by
              rcases hless with h | ⟨h, rfl, h3⟩
              · exact .inl h
              · exact .inr ⟨h, h3⟩) ⟨M.out.2.1, M.out.1.kg, HH.out.hU, nc.fr M.out.2.2 fun _ _ e => e, nd.fr M.out.2.2 fun _ _ e => e, (M.out.1.tg L.out.1.1).child (List.mem_of_getElem? hpc), (M.out.1.tg L.out.2.1).child (List.mem_of_getElem? hpd), by
                have h1 := M.out.1.m
                have h2 := AG.out.mb
                have h3 := drop_dyn (show (Ut.mk ka na fa la).fs[i]? = some pc from hpc)
                have h4 := drop_dyn (show (Ut.mk kb nb fb lb).fs[i]? = some pd from hpd)
                omega⟩)
            unfold AgAt pk at hAg
            clear hc hd hpc hpd nc nd z1 z2 z3 z4 z5 z6 hless
            go_wp2_with fail
            refine hAg.out.mono ?_
            clear hAg
            rintro e w6 ⟨r, rfl, f6, d6, s6⟩
            cases r with
            | false =>
              have F6 := Lib.hid (And.intro f6 (d6 rfl))
              clear f6 d6 s6
              go_wp2_with fail
              go_ret
              exact FIN.out w3 _ _ _ (ext_trans H2.out.2.2 B3.out) (Nat.le_refl _) ⟨false, rfl, M.out.2.2.trans F6.out.1, fun _ => M.out.1.fail LK.out L.out.1.1 L.out.2.1 G.out.1 G.out.2.1 F6.out.2, fun h => by cases h⟩
            | true =>
              obtain ⟨S2, hd6, hs6⟩ := s6 rfl
              have F6 := Lib.hid (And.intro f6 (And.intro (M.out.1.next LK.out L.out.1.1 L.out.2.1 G.out.1 G.out.2.1 hd6) hs6))
              clear f6 d6 s6 hd6 hs6
              go_wp2_with fail
              go_roundw
              case rel => exact ⟨i + 1, S2, by go_num, hp, Lib.hid ⟨F6.out.2.1, F6.out.2.2, M.out.2.2.trans F6.out.1⟩⟩
              case measure => simp [intOf]; omega
          · go_wp2_with fail
            go_ret
            exact FIN.out w3 _ _ _ (ext_trans H2.out.2.2 B3.out) (Nat.le_refl _) ⟨true, rfl, M.out.2.2, fun h => (by cases h), fun _ => ⟨S', M.out.1.stop LK.out L.out.1.1 L.out.2.1 (by have := P1.out.2.1; show fa.length ≤ i; omega), M.out.2.1⟩⟩

/-- 'agree', whatever is asked. -/
theorem agree_any (hE : EndsAll) (U : List Lb) (s m : Nat) (first : Int) : ∀ (x y : Nat) (S : Kn) (a b : Ut) (ba bb : Nat) (w : World), S.un + (dynT a + dynT b) = x → tsz (inst S.σ a) + tsz (inst S.σ b) = y → AgH U s m first S a b ba bb w → AgAt U s m first S a b ba bb w := by
  intro x
  induction x using Nat.strongRecOn with
  | _ x ihx =>
    intro y
    induction y using Nat.strongRecOn with
    | _ y ihy =>
      intro S a b ba bb w hx hy h
      refine agree_step hE U s m first S a b ba bb w h fun S' c d bc bd w' hl h' => ?_
      rcases hl with hl | ⟨h1, h2⟩
      · exact ihx _ (by omega) _ S' c d bc bd w' rfl rfl h'
      · exact ihy _ (by omega) S' c d bc bd w' (by omega) rfl h'
end Go.Proofs.Ytblfeokjlecgkaa

/- unify.ends and unify.agree, whatever is asked. -/
namespace Go.Proofs.Ytblfeokjlecgkaa

theorem ends_all : EndsAll := by
  intro U s m first S a b x y p q w UA VA cu cv ul vl tp tq h
  cases p with
  | none =>
    cases q with
    | none => exact ends_00 cu cv h
    | some q0 => exact ends_01 cu cv h
  | some p0 =>
    cases q with
    | none => exact ends_10 cu cv h
    | some q0 =>
      by_cases e : p0 = q0
      · subst e; exact ends_same11 cu cv h
      · exact ends_11 cu cv e h

theorem agree_all (U : List Lb) (s m : Nat) (first : Int) (S : Kn) (a b : Ut) (ba bb : Nat) (w : World) (h : AgH U s m first S a b ba bb w) : AgAt U s m first S a b ba bb w :=
  agree_any ends_all U s m first _ _ S a b ba bb w rfl rfl h
end Go.Proofs.Ytblfeokjlecgkaa

/- unify.Agree, walked. -/
namespace Go.Proofs.Ytblfeokjlecgkaa
open Go.RowKit

attribute [local go_sem ↓] Go.wp_at_zero Go.wp_at_succ

/-- A good solver in memory. -/
structure SolG (U : List Lb) (s m : Nat) (first : Nat) (w : World) (S : Kn) : Prop where
  sol : SolAt (SX s m) s m (first : Int) w S
  kg : KG U S
  hU : U.length ≤ 100000
  f1 : first ≤ 1000000
  fm : (first : Int) ≤ S.m
  hL : ∀ n : Int, n < (first : Int) → S.L n = none
theorem SolG.bel {U : List Lb} {s m first : Nat} {w w' : World} {S : Kn} (h : SolG U s m first w S) (hb : Below w.heap.size w w') : SolG U s m first w' S := ⟨h.sol.bel hb, h.kg, h.hU, h.f1, h.fm, h.hL⟩
/-- What 'Agree' answers. -/
def AgrPost (U : List Lb) (s m : Nat) (first : Nat) (S : Kn) (a b : Ut) (w : World) (e : Ending) (w' : World) : Prop :=
  ∃ ok : Bool, e = .returned (.int .i64 (if ok = true then 0 else 9)) ∧ Fr (SX s m) w w' ∧ (ok = false → Dis S a b ∨ ∃ S', Done U S S' (CoI a b) (dynT a + dynT b) ∧ ¬ fitK (first : Int) S') ∧
    (ok = true → ∃ S', Done U S S' (CoI a b) (dynT a + dynT b) ∧ fitK (first : Int) S' ∧ SolG U s m first w' S')

set_option maxRecDepth 100000 in
set_option maxHeartbeats 4000000 in
theorem uAgree_any (U : List Lb) (s m : Nat) (first : Nat) (S : Kn) (w : World) (A B : Option Addr) (ca cb : Nat) (a b : List Nd) (hS : SolG U s m first w S) (hA : TyA w w.heap.size A a) (hB : TyA w w.heap.size B b) (la : a.length ≤ 1000000) (lb : b.length ≤ 1000000)
    (ga : GdT a) (gb : GdT b) (ta : TG U S (utT a)) (tb : TG U S (utT b)) (mb : S.m + (S.un : Int) + 2 * (dynT (utT a) + dynT (utT b) : Nat) ≤ 2305843009213693952) :
    Calls Try.prog 33 #[pk s, .slice A a.length ca, .slice B b.length cb] w (AgrPost U s m first S (utT a) (utT b) w) := by
  have hlt := SX_lt hS.sol
  have h1 := Lib.hid (tree_any _ a (Nat.le_refl _) (.inl ga) (SX s m) a [] 0 A ca w hA la (by simp) hlt)
  have h2 := Lib.hid (fun w1 (hb1 : Below w.heap.size w w1) => tree_any _ b (Nat.le_refl _) (.inl gb) (SX s m) b [] 0 B cb w1 ((hB.below hb1).more hb1.size) lb (by simp) (fun k hk => Nat.lt_of_lt_of_le (hlt k hk) hb1.size))
  have HS := Lib.hid hS
  have HG := Lib.hid (And.intro ga (And.intro gb (And.intro ta (And.intro tb mb))))
  clear hS hA hB ga gb ta tb mb hlt
  unfold pk
  go_enter Try.func33, Try.ntmps33
  go_wp2_with fail
  refine h1.out.mono ?_
  rintro e w1 ⟨g1, rfl, t1, b1, _⟩
  have T1 := Lib.hid (And.intro (t1.1 HG.out.1) b1)
  clear t1 b1 h1
  unfold pk
  go_wp2_with fail
  refine (h2.out w1 T1.out.2).mono ?_
  rintro e w2 ⟨g2, rfl, t2, b2, _⟩
  have T2 := Lib.hid (And.intro (t2.1 HG.out.2.1) b2)
  clear t2 b2 h2
  have h3 := agree_all U s m first S (utT a) (utT b) g1 g2 w2 ⟨(HS.out.sol.bel T1.out.2).bel T2.out.2, HS.out.kg, HS.out.hU, T1.out.1.bel T2.out.2, T2.out.1, HG.out.2.2.1, HG.out.2.2.2.1, HG.out.2.2.2.2⟩
  unfold AgAt pk at h3
  unfold pk
  go_wp2_with fail
  refine h3.mono ?_
  clear h3
  rintro e w3 ⟨r, rfl, f3, hno, hyes⟩
  have F3 := Lib.hid ((Fr.below (X := SX s m) (ext_trans T1.out.2 T2.out.2)).trans f3)
  cases r with
  | false =>
    have HNO := Lib.hid (hno rfl)
    clear hno hyes f3
    go_wp2_with fail
    go_ret
    exact ⟨false, rfl, F3.out, fun _ => .inl HNO.out, fun h => by cases h⟩
  | true =>
    obtain ⟨S', d, sol'⟩ := hyes rfl
    have D := Lib.hid (And.intro d sol')
    have hm' : (first : Int) ≤ S'.m := Int.le_trans HS.out.fm d.st.le.m
    have hL' : ∀ n : Int, n < (first : Int) → S'.L n = none := fun n hn => by rw [d.st.le.L n (by have := HS.out.fm; omega)]; exact HS.out.hL n hn
    have HM := Lib.hid (And.intro hm' hL')
    have h4 := Lib.hid (uFits_any U s m first S' w3 sol' d.kg HS.out.hU HS.out.f1 hm' hL')
    unfold pk at h4
    clear hno hyes f3 d sol' hm' hL'
    go_wp2_with fail
    refine h4.out.mono ?_
    clear h4
    rintro e w4 ⟨r2, rfl, hiff, hb4⟩
    have B4 := Lib.hid (And.intro hiff hb4)
    have F4 := Lib.hid (F3.out.trans (Fr.below hb4))
    clear hiff hb4
    cases r2 with
    | false =>
      go_wp2_with fail
      go_ret
      exact ⟨false, rfl, F4.out, fun _ => .inr ⟨S', D.out.1, fun h => by have := B4.out.1.2 h; cases this⟩, fun h => by cases h⟩
    | true =>
      go_wp2_with fail
      go_ret
      exact ⟨true, rfl, F4.out, fun h => (by cases h), fun _ => ⟨S', D.out.1, B4.out.1.1 (by first | rfl | trivial), ⟨D.out.2.bel B4.out.2, D.out.1.kg, HS.out.hU, HS.out.f1, HM.out.1, HM.out.2⟩⟩⟩
end Go.Proofs.Ytblfeokjlecgkaa

/- unify.Known, Var and Open, walked. -/
namespace Go.Proofs.Ytblfeokjlecgkaa
open Go.RowKit

attribute [local go_sem ↓] Go.wp_at_zero Go.wp_at_succ

theorem TyA.frame {Y : Nat → Prop} {w w' : World} {B : Nat} {A : Option Addr} {xs : List Nd} (h : TyA w B A xs) (hf : Fr Y w w') (hB : B ≤ w.heap.size) (hn : xs ≠ [] → ∀ a, A = some a → ¬ Y a.block) : TyA w' B A xs := by
  refine ReadL.tyA fun hne => ?_
  obtain ⟨b, o, hA, hb, hr⟩ := h.readL hne
  refine ⟨b, o, hA, hb, fun i x hx j u hu => ?_⟩
  exact (World.cell?_of_block (a := ⟨b, o + i * 3 + j, none⟩) (hf.block b (Nat.lt_of_lt_of_le hb hB) (hn hne _ hA))).trans (hr i x hx j u hu)
/-- Nodes lie in no solver. -/
theorem TyA.off {w : World} {B s m : Nat} {first next : Int} {A : Option Addr} {xs : List Nd} (h : TyA w B A xs) (hs : w.heap[s]? = some (solverOf first next m)) (hne : xs ≠ []) : ∀ a, A = some a → a.block ≠ s := by
  rintro a ha e
  cases xs with
  | nil => exact hne rfl
  | cons x xs =>
    obtain ⟨b1, o1, rfl, _, _, c1, _⟩ := h.at_ (i := 0) (x := x) rfl
    injection ha with ha
    subst ha
    have e : b1 = s := e
    subst e
    simp only [World.cell?, hs, solverOf] at c1
    match ho : o1 + 0 * 3 + 1, c1 with
    | 0, c1 => simp at c1
    | 1, c1 => simp at c1
    | 2, c1 => simp at c1
    | n + 3, c1 => simp at c1
/-- 'tell' from nothing on. -/
theorem tell_new (U : List Lb) (S : Kn) (s m : Nat) (first : Int) (hK : KG U S) (hU : U.length ≤ 100000) (t : Ut) (g : Nat) (W : World) (l : Lb) (hS : SolAt (SX s m) s m first W S) (hn : NodeAt (SX s m) W g t) (gt : TG U S t) (hl : (flT l (inst S.σ t)).length ≤ 1000000000) :
    Calls Try.prog 57 #[pk s, .slice none 0 0, .string l, pk g] W (RetN W (flT l (inst S.σ t))) := by
  have hlt := SX_lt hS
  have hm : ∀ k, k < W.heap.size → TX W.heap.size s m k → SX s m k := fun k hk h => by
    rcases h with h | h
    · exact h
    · omega
  have h := tell_any U S s m first W.heap.size hK hU _ t (Nat.le_refl _) g W none 0 [] l ⟨⟨hlt s (.inl rfl), hlt m (.inr rfl)⟩, Nat.le_refl _, hS.more (.inl (.inl rfl)) (.inl (.inr rfl)) hm, OwnL.nil⟩ (hn.more hm) gt (by simpa using hl)
  refine h.mono ?_
  rintro e w' ⟨A', c', rfl, ho, gr⟩
  rw [List.nil_append] at ho ⊢
  exact ⟨A', c', rfl, ho, gr.fr.toBelow fun k ⟨a, ha, _⟩ => by cases ha⟩

set_option maxRecDepth 100000 in
set_option maxHeartbeats 4000000 in
theorem uKnown_any (U : List Lb) (s m : Nat) (first : Nat) (S : Kn) (w : World) (A : Option Addr) (ca : Nat) (a : List Nd) (hS : SolG U s m first w S) (hA : TyA w w.heap.size A a) (la : a.length ≤ 1000000) (ga : GdT a) (ta : TG U S (utT a)) (hl : (flT (headNd a).s (inst S.σ (utT a))).length ≤ 1000000000) :
    Calls Try.prog 24 #[pk s, .slice A a.length ca] w (RetN w (flT (headNd a).s (inst S.σ (utT a)))) := by
  have hlt := SX_lt hS.sol
  have HT : Hid (∀ W, Below w.heap.size w W → Calls Try.prog 58 #[.slice A a.length ca, .int .i64 0] W (fun e w' => ∃ g, e = .returned (.pointer (some ⟨g, 0, none⟩)) ∧ NodeAt (SX s m) w' g (utT a) ∧ Below w.heap.size w w')) := Lib.hid fun W hW => by
    refine (tree_any _ a (Nat.le_refl _) (.inl ga) (SX s m) a [] 0 A ca W ((hA.below hW).more hW.size) la (by simp) (fun k hk => Nat.lt_of_lt_of_le (hlt k hk) hW.size)).mono ?_
    rintro e w' ⟨g, he, h1, h2, _⟩
    exact ⟨g, he, h1.1 ga, ext_trans hW h2⟩
  have HTL : Hid (∀ W g, NodeAt (SX s m) W g (utT a) ∧ Below w.heap.size w W → Calls Try.prog 57 #[.pointer (some ⟨s, 0, none⟩), .slice none 0 0, .string (headNd a).s, .pointer (some ⟨g, 0, none⟩)] W (RetN w (flT (headNd a).s (inst S.σ (utT a))))) := Lib.hid fun W g hW => by
    refine (tell_new U S s m first hS.kg hS.hU (utT a) g W (headNd a).s (hS.sol.bel hW.2) hW.1 ta hl).mono ?_
    rintro e w' ⟨A', c', he, h1, h2⟩
    exact ⟨A', c', he, h1.lower hW.2.size, ext_trans hW.2 h2⟩
  have hx : a[0]? = some (headNd a) := by
    have := ga.ne
    cases a with
    | nil => exact absurd rfl this
    | cons x xs => rfl
  have hpos : 0 < a.length := getq_lt hx
  obtain ⟨b1, o1, rfl, hb1, c10, c11, c12⟩ := hA.at_ hx
  simp only [Nat.zero_mul, Nat.add_zero] at c10 c11 c12
  clear hS hA ga ta hl hx hlt
  unfold pk
  go_enter Try.func24, Try.ntmps24
  go_wp2_with fail
  go_region_law
    (first
      | (go_simp; (with_reducible refine (HT.out _ ?_).mono ?_); (first | exact Below.refl _ _ | exact (Below.refl _ _).drew); rintro e w1 ⟨g, rfl, n1, b1'⟩; have T1 := Lib.hid (And.intro n1 b1'); have d11 := (b1'.cell (p := ⟨b1, o1 + 1, none⟩) hb1).trans c11; have hbw := Nat.lt_of_lt_of_le hb1 b1'.size; clear n1 b1'; dsimp only)
      | (go_simp; (with_reducible refine (HTL.out _ _ ?_).mono ?_); (first | exact T1.out | exact ⟨T1.out.1.bel (Below.refl _ _).drew, T1.out.2.drew⟩); rintro e w2 ⟨A', c', rfl, o2, b2⟩; have T2 := Lib.hid (And.intro o2 b2); clear o2 b2; dsimp only))
  all_goals
    go_wp2_with fail
    go_ret
    exact ⟨A', c', rfl, T2.out.1, T2.out.2⟩

set_option maxRecDepth 100000 in
set_option maxHeartbeats 4000000 in
theorem uOpen_any (s m : Nat) (first : Int) (S : Kn) (k : Int) (l : Lb) (A : Option Addr) (ca : Nat) (x : Nd) (w : World) (hS : SolAt (SX s m) s m first w S) (hA : TyA w w.heap.size A [x]) (h0 : 0 ≤ S.m) (h1 : S.m + 1 ≤ 9223372036854775807) :
    Calls Try.prog 37 #[pk s, .int .i64 k, .string l, .slice A 1 ca] w fun e w' => ∃ A' c', e = .returned (.slice A' 3 c') ∧ OwnN w' w.heap.size A' c' (openL k l x S.m) ∧ Fr (SX s m) w w' ∧ ∀ S' : Kn, S'.κ = S.κ → S'.m = S.m + 1 → SolAt (SX s m) s m first w' S' := by
  have hs0 := SX_lt hS
  have hbw := ext_alloc (Below.refl w.heap.size w) (.cells #[.int .i64 k, .string ByteArray.empty, .int .i64 2] 48)
  have hSW := hS.bel hbw
  have hf := Lib.hid (ufresh_any s m first S.m 9 _ hSW.st (by omega) h1)
  have T1 := Lib.hid (tyA_new w ⟨k, ByteArray.empty, 2⟩)
  have HS := Lib.hid (And.intro hSW (And.intro hbw (And.intro hA hs0)))
  have HS0 : Hid (w.heap[s]? = some (solverOf first S.m m)) := Lib.hid hS.st
  clear hS hSW hA hbw hs0
  unfold pk at hf ⊢
  go_enter Try.func37, Try.ntmps37
  go_wp2_with fail
  refine hf.out.mono ?_
  clear hf
  rintro e w1 ⟨b, rfl, hb, hb2, hs, hfr⟩
  have c1 : w1.cell? ⟨b, 1, none⟩ = some (.int .i64 S.m) := by simp [World.cell?, hb2, bareNode]
  have zb : b < w1.heap.size := (Array.getElem?_eq_some_iff.1 hb2).1
  have G := Lib.hid (And.intro hs hfr)
  clear hs hfr hb2
  have HA1 : Hid (TyA w1 (w.heap.size + 1) A [x]) := Lib.hid ((((HS.out.2.2.1.below HS.out.2.1).frame (Fr.mono G.out.2 fun k e => e) (by simp) fun _ a ha e => HS.out.2.2.1.off HS0.out (by simp) a ha e)).more (by omega))
  have HK1 : Hid (TyA w1 (w.heap.size + 1) (some ⟨w.heap.size, 0, none⟩) [⟨k, ByteArray.empty, 2⟩]) := Lib.hid (T1.out.frame G.out.2 (by simp) fun _ a ha e => by
    injection ha with ha
    subst ha
    have e : w.heap.size = s := e
    have := HS.out.2.2.2 s (.inl rfl)
    omega)
  have hz := G.out.2.size
  simp only [World.size_alloc] at hz
  go_wp2_with fail
  have hSl := readS_new3 (w1.alloc (.cells #[.int .i64 9, .string ⟨#[]⟩, .int .i64 S.m] 48)) (some ⟨w.heap.size, 0, none⟩, 1, 1) (A, 1, ca) (some ⟨w1.heap.size, 0, none⟩, 1, 1)
  rw [World.size_alloc] at hSl
  have hb0 := ext_alloc (ext_alloc (Below.refl w1.heap.size w1) (.cells #[.int .i64 9, .string ⟨#[]⟩, .int .i64 S.m] 48)) (.cells #[.slice (some ⟨w.heap.size, 0, none⟩) 1 1, .slice A 1 ca, .slice (some ⟨w1.heap.size, 0, none⟩) 1 1] 34)
  have hnew := ((tyA_new w1 ⟨9, ByteArray.empty, S.m⟩).alloc (by simp) (.cells #[.slice (some ⟨w.heap.size, 0, none⟩) 1 1, .slice A 1 ca, .slice (some ⟨w1.heap.size, 0, none⟩) 1 1] 34))
  obtain ⟨W, hW⟩ : ∃ W, W = (w1.alloc (.cells #[.int .i64 9, .string ⟨#[]⟩, .int .i64 S.m] 48)).alloc (.cells #[.slice (some ⟨w.heap.size, 0, none⟩) 1 1, .slice A 1 ca, .slice (some ⟨w1.heap.size, 0, none⟩) 1 1] 34) := ⟨_, rfl⟩
  have hWs : W.heap.size = w1.heap.size + 2 := by rw [hW]; simp
  replace hSl : ReadS W W.heap.size (some ⟨w1.heap.size + 1, 0, none⟩) [(some ⟨w.heap.size, 0, none⟩, 1, 1), (A, 1, ca), (some ⟨w1.heap.size, 0, none⟩, 1, 1)] := by rw [hWs, hW]; exact hSl
  replace hb0 : Below w1.heap.size w1 W := by rw [hW]; exact hb0
  replace hnew : TyA W (w1.heap.size + 1) (some ⟨w1.heap.size, 0, none⟩) [⟨9, ByteArray.empty, S.m⟩] := by rw [hW]; exact hnew
  have h := concat_any (some ⟨w1.heap.size + 1, 0, none⟩) 3 [(some ⟨w.heap.size, 0, none⟩, 1, 1), (A, 1, ca), (some ⟨w1.heap.size, 0, none⟩, 1, 1)] [[⟨k, ByteArray.empty, 2⟩], [x], [⟨9, ByteArray.empty, S.m⟩]] W hSl ⟨rfl, fun i v xs hv hx => by
    match i, hv, hx with
    | 0, hv, hx =>
      simp at hv hx
      subst hv hx
      exact ⟨rfl, (HK1.out.below (hb0.mono hz)).more (by omega)⟩
    | 1, hv, hx => simp at hv hx; subst hv hx; exact ⟨rfl, (HA1.out.below (hb0.mono hz)).more (by omega)⟩
    | 2, hv, hx => simp at hv hx; subst hv hx; exact ⟨rfl, hnew.more (by omega)⟩
    | i + 3, hv, hx => simp at hv⟩ (by simp) (by simp)
  rw [← hW]
  refine h.mono ?_
  clear h
  rintro e w5 ⟨A', cap', rfl, hown, hbel⟩
  have hfl : [[(⟨k, ByteArray.empty, 2⟩ : Nd)], [x], [⟨9, ByteArray.empty, S.m⟩]].flatten = [⟨k, ByteArray.empty, 2⟩, x, ⟨9, ByteArray.empty, S.m⟩] := by simp
  rw [hfl] at hown
  obtain ⟨g, rfl, hbg, hgz, cg, fg, hown2, hgg⟩ := OwnL.setN hown (j := 1) (x := x) rfl l
  have Z := Lib.hid (And.intro hown2 (And.intro hgg (And.intro (hb0.trans (hbel.mono hb0.size)) hbg)))
  have hz2 := hb0.size
  clear hown hown2 hgg hbel hSl hnew hb0
  simp only [List.flatten_cons, List.flatten_nil, List.cons_append, List.nil_append, List.append_nil, List.length_cons, List.length_nil]
  go_wp2_with fail
  go_ret
  have hbs : Below w1.heap.size w1 (w5.setCell ⟨g, 4, none⟩ (.string l)) := Z.out.2.2.1.setCell (p := ⟨g, 4, none⟩) (Nat.le_trans hz2 Z.out.2.2.2) _
  refine ⟨_, _, rfl, Z.out.1.lower (by omega), ?_, fun S' hκ hm => (HS.out.1.fresh G.out.1 G.out.2 hκ hm).bel hbs⟩
  exact ((Fr.below HS.out.2.1).trans (G.out.2.mono fun k e => .inl e)).trans (Fr.below hbs)
end Go.Proofs.Ytblfeokjlecgkaa

/- What is known of the first variables may be told again. -/
namespace Go.Proofs.Ytblfeokjlecgkaa

section
variable {U : List Lb} {S : Kn}
theorem mapF_labs (f : Ut → Ut) (fs : Fl) : labsF (mapF f fs) = labsF fs := by
  unfold labsF mapF
  rw [List.map_map]
  rfl
end

/-! ### No union is empty -/
/-! ### What is known is such a type as may be told -/
end Go.Proofs.Ytblfeokjlecgkaa

/- What is known, without its variables: loose, and ground. -/
namespace Go.Proofs.Ytblfeokjlecgkaa

/-! ### Loose -/
theorem mapF_sh {f : Ut → Ut} {k : Int} {fs : Fl} {tl : Option Int} (h : nodeSh k fs tl) : nodeSh k (mapF f fs) tl := by
  obtain ⟨a, b, c, d⟩ := h
  refine ⟨a, b, fun e => ?_, fun e1 e2 => ?_⟩
  · obtain ⟨⟨x, y, rfl⟩, h2⟩ := c e
    exact ⟨⟨f x, f y, rfl⟩, h2⟩
  · obtain ⟨rfl, h2⟩ := d e1 e2
    exact ⟨rfl, h2⟩
theorem nodeWf.mapF {f : Ut → Ut} {k n : Int} {fs : Fl} {tl : Option Int} (h : nodeWf k n fs tl) : nodeWf k n (Proofs.Ytblfeokjlecgkaa.mapF f fs) tl := by
  obtain ⟨a1, a2, a3, a4, a5, a6, a7, a8, a9⟩ := h
  refine ⟨by rw [mapF_labs]; exact a1, fun e => ?_, a3, a4, mapF_sh a5, fun hr => ⟨rise_mapF (a6 hr).1, by rw [mapF_labs]; exact (a6 hr).2⟩, a7, by rw [mapF_len]; exact a8, by rw [mapF_len]; exact a9⟩
  obtain ⟨rfl, h2⟩ := a2 e
  exact ⟨rfl, h2⟩
/-! ### Ground -/
/-! ### Right -/
end Go.Proofs.Ytblfeokjlecgkaa

/- The live question of layer 13, walked; a solver that was made just now. -/
namespace Go.Proofs.Ytblfeokjlecgkaa
open Go.RowKit

/-- A solver that knows nothing. -/
theorem sol_new {w : World} {s m : Nat} {n : Int} (hne : s ≠ m) (hs : w.heap[s]? = some (solverOf n n m)) (hm : KMap ik w m []) : SolAt (SX s m) s m n w (Kn.zero n) :=
  ⟨hne, .inl rfl, .inr rfl, hs, [], hm, fun k => atL_nil k⟩
theorem solG_new {U : List Lb} {w : World} {s m : Nat} {n : Nat} (hU : U.length ≤ 100000) (hn : n ≤ 1000000) (hne : s ≠ m) (hs : w.heap[s]? = some (solverOf (n : Int) (n : Int) m)) (hm : KMap ik w m []) : SolG U s m n w (Kn.zero (n : Int)) :=
  ⟨sol_new hne hs hm, zero_kg U (by omega), hU, hn, Int.le_refl _, fun _ _ => rfl⟩
/-- What was written is new. -/
theorem fr_new {w0 w w' : World} {s m : Nat} (hs : w0.heap.size ≤ s) (hm : w0.heap.size ≤ m) (hb : Below w0.heap.size w0 w) (hf : Fr (SX s m) w w') : Below w0.heap.size w0 w' :=
  ((Fr.below (X := SX s m) hb).trans hf).toBelow fun k hk => by
    rcases hk with rfl | rfl
    · exact hs
    · exact hm

set_option maxRecDepth 100000 in
set_option maxHeartbeats 8000000 in
theorem alive13_any (w : World) :
    Calls Try.prog 16 #[] w fun e w' => e = .returned (.bool true) ∧ Below w.heap.size w w' := by
  have hnew := Lib.hid (new_any 1 w)
  go_enter Try.func16, Try.ntmps16
  go_wp2_with fail
  refine hnew.out.mono ?_
  clear hnew
  rintro e w1 ⟨s, m, rfl, hs, hm, hne, hst, hmap, hb1⟩
  have hg : SolG aliveU s m 1 w1 (Kn.zero 1) := solG_new (n := 1) (by simp [aliveU]) (by omega) hne hst hmap
  have HG := Lib.hid hg
  have HB := Lib.hid (And.intro hs (And.intro hm hb1))
  clear hs hm hne hst hmap hb1 hg
  have HA : Hid (Calls Try.prog 33 #[pk s, .slice (some ⟨w1.heap.size, 0, none⟩) 3 3, .slice (some ⟨w1.heap.size + 1, 0, none⟩) 3 3]
      ((w1.alloc (.cells #[.int .i64 5, .string ⟨#[]⟩, .int .i64 0, .int .i64 8, .string ⟨#[]⟩, .int .i64 0, .int .i64 0, .string ⟨#[]⟩, .int .i64 0] 48)).alloc (.cells #[.int .i64 5, .string ⟨#[]⟩, .int .i64 0, .int .i64 1, .string ⟨#[]⟩, .int .i64 0, .int .i64 2, .string ⟨#[]⟩, .int .i64 0] 48))
      (fun e w' => e = .returned (.int .i64 0) ∧ Below w.heap.size w w' ∧ ∃ S', SolG aliveU s m 1 w' S' ∧ S'.σ.v 0 = intT ∧ S'.m + (S'.un : Int) ≤ 100)) := Lib.hid (by
    have hb := ext_alloc (ext_alloc (Below.refl w1.heap.size w1) (.cells #[.int .i64 5, .string ⟨#[]⟩, .int .i64 0, .int .i64 8, .string ⟨#[]⟩, .int .i64 0, .int .i64 0, .string ⟨#[]⟩, .int .i64 0] 48)) (.cells #[.int .i64 5, .string ⟨#[]⟩, .int .i64 0, .int .i64 1, .string ⟨#[]⟩, .int .i64 0, .int .i64 2, .string ⟨#[]⟩, .int .i64 0] 48)
    have t1 := tyA_newL w1 aliveA #[.int .i64 5, .string ⟨#[]⟩, .int .i64 0, .int .i64 8, .string ⟨#[]⟩, .int .i64 0, .int .i64 0, .string ⟨#[]⟩, .int .i64 0] rfl
    have t2 := tyA_newL (w1.alloc (.cells #[.int .i64 5, .string ⟨#[]⟩, .int .i64 0, .int .i64 8, .string ⟨#[]⟩, .int .i64 0, .int .i64 0, .string ⟨#[]⟩, .int .i64 0] 48)) aliveB #[.int .i64 5, .string ⟨#[]⟩, .int .i64 0, .int .i64 1, .string ⟨#[]⟩, .int .i64 0, .int .i64 2, .string ⟨#[]⟩, .int .i64 0] rfl
    simp only [World.size_alloc] at t2
    have ta := (alive_told.1).tg (S := Kn.zero 1) HG.out.hL HG.out.fm
    have tb := (alive_told.2.1).tg (S := Kn.zero 1) HG.out.hL HG.out.fm
    refine (uAgree_any aliveU s m 1 (Kn.zero 1) _ _ _ 3 3 aliveA aliveB (HG.out.bel hb) ((t1.below (ext_alloc (Below.refl _ _) _ |>.mono (by simp))).more (by simp)) (t2.more (by simp)) (by simp [aliveA]) (by simp [aliveB]) alive_gd.1 alive_gd.2.1 ta tb ?_).mono ?_
    · have h1 : dynT (utT aliveA) ≤ 3 := dyn_of alive_gd.1
      have h2 : dynT (utT aliveB) ≤ 3 := dyn_of alive_gd.2.1
      have h3 := zero_un (m0 := 1) (by omega)
      show (1 : Int) + _ + _ ≤ _
      omega
    · rintro e w' ⟨ok, rfl, hf, hno, hyes⟩
      have hrun := Run.start aliveU (m0 := 1) (by omega)
      have hlow := pair_low alive_told.1 alive_told.2.1
      cases ok with
      | false =>
        exfalso
        rcases hno rfl with d | ⟨S', d, hnf⟩
        · exact alive_good (hrun.dis d hlow)
        · exact alive_good (hrun.big d.st hlow hnf)
      | true =>
        obtain ⟨S', d, _, hS'⟩ := hyes rfl
        refine ⟨rfl, fr_new HB.out.1 HB.out.2.1 (ext_trans HB.out.2.2 hb) hf, S', hS', alive_known (S := Kn.zero 1) rfl (by show (0 : Int) < 1; omega) d.st, ?_⟩
        have h1 : dynT (utT aliveA) ≤ 3 := dyn_of alive_gd.1
        have h2 : dynT (utT aliveB) ≤ 3 := dyn_of alive_gd.2.1
        have h3 := zero_un (m0 := 1) (by omega)
        have h4 := d.m
        have h5 : (Kn.zero 1).m = 1 := rfl
        omega)
  unfold pk at HA
  go_wp2_with fail
  refine HA.out.mono ?_
  clear HA
  rintro e w2 ⟨rfl, hb2, S', hg2, hv, hm2⟩
  have G2 := Lib.hid (And.intro hb2 (And.intro hg2 (And.intro hv hm2)))
  clear hb2 hg2 hv hm2
  have HK : Hid (Calls Try.prog 24 #[pk s, .slice (some ⟨w2.heap.size, 0, none⟩) 1 1] (w2.alloc (.cells #[.int .i64 8, .string ⟨#[]⟩, .int .i64 0] 48)) (fun e w' => ∃ A' c', e = .returned (.slice A' 1 c') ∧ OwnN w' w2.heap.size A' c' [⟨1, ByteArray.empty, 0⟩] ∧ Below w2.heap.size w2 w')) := Lib.hid (by
    have hb := ext_alloc (Below.refl w2.heap.size w2) (.cells #[.int .i64 8, .string ⟨#[]⟩, .int .i64 0] 48)
    have t1 := tyA_newL w2 [bareNd 8 0] #[.int .i64 8, .string ⟨#[]⟩, .int .i64 0] rfl
    have hfl : flT ByteArray.empty (inst S'.σ (utT [bareNd 8 0])) = [⟨1, ByteArray.empty, 0⟩] := by
      rw [alive_ut.2.2.1, inst_var, G2.out.2.2.1]
      unfold intT
      rw [flT_mk, if_neg (by decide), flE_nil]
    have hk := uKnown_any aliveU s m 1 S' _ (some ⟨w2.heap.size, 0, none⟩) 1 [bareNd 8 0] (G2.out.2.1.bel hb) (t1.more (by simp)) (by simp) alive_gd.2.2.1 ((alive_told.2.2.1).tg G2.out.2.1.hL G2.out.2.1.fm) (by
      show (flT ByteArray.empty _).length ≤ _
      rw [hfl]; simp)
    refine hk.mono ?_
    rintro e w' ⟨A', c', rfl, h1, h2⟩
    have hfl' : flT (headNd [bareNd 8 0]).s (inst S'.σ (utT [bareNd 8 0])) = [⟨1, ByteArray.empty, 0⟩] := hfl
    rw [hfl'] at h1 ⊢
    exact ⟨A', c', rfl, h1.lower hb.size, ext_trans hb h2⟩)
  unfold pk at HK
  go_wp2_with fail
  refine HK.out.mono ?_
  clear HK
  rintro e w3 ⟨A', c', rfl, ho3, hb3⟩
  obtain ⟨b1, o1, rfl, hz1, c10, _, _⟩ := (OwnL.tyA ho3).at_ (i := 0) (x := ⟨1, ByteArray.empty, 0⟩) rfl
  simp only [Nat.zero_mul, Nat.add_zero] at c10
  have G3 := Lib.hid (And.intro (ext_trans G2.out.1 hb3) (G2.out.2.1.bel hb3))
  clear ho3 hb3
  have HN : Hid (Calls Try.prog 33 #[pk s, .slice (some ⟨w3.heap.size, 0, none⟩) 1 1, .slice (some ⟨w3.heap.size + 1, 0, none⟩) 1 1]
      ((w3.alloc (.cells #[.int .i64 8, .string ⟨#[]⟩, .int .i64 0] 48)).alloc (.cells #[.int .i64 4, .string ⟨#[]⟩, .int .i64 0] 48))
      (fun e w' => e = .returned (.int .i64 9) ∧ Below w.heap.size w w')) := Lib.hid (by
    have hb := ext_alloc (ext_alloc (Below.refl w3.heap.size w3) (.cells #[.int .i64 8, .string ⟨#[]⟩, .int .i64 0] 48)) (.cells #[.int .i64 4, .string ⟨#[]⟩, .int .i64 0] 48)
    have t1 := tyA_newL w3 [bareNd 8 0] #[.int .i64 8, .string ⟨#[]⟩, .int .i64 0] rfl
    have t2 := tyA_newL (w3.alloc (.cells #[.int .i64 8, .string ⟨#[]⟩, .int .i64 0] 48)) [bareNd 4 0] #[.int .i64 4, .string ⟨#[]⟩, .int .i64 0] rfl
    simp only [World.size_alloc] at t2
    have ta := (alive_told.2.2.1).tg G3.out.2.hL G3.out.2.fm
    have tb := (alive_told.2.2.2).tg G3.out.2.hL G3.out.2.fm
    refine (uAgree_any aliveU s m 1 S' _ _ _ 1 1 [bareNd 8 0] [bareNd 4 0] (G3.out.2.bel hb) ((t1.below (ext_alloc (Below.refl _ _) _ |>.mono (by simp))).more (by simp)) (t2.more (by simp)) (by simp) (by simp) alive_gd.2.2.1 alive_gd.2.2.2 ta tb ?_).mono ?_
    · have h1 := dyn_of alive_gd.2.2.1
      have h2 := dyn_of alive_gd.2.2.2
      have h3 := G2.out.2.2.2
      simp only [List.length_cons, List.length_nil] at h1 h2
      omega
    · rintro e w' ⟨ok, rfl, hf, hno, hyes⟩
      cases ok with
      | false => exact ⟨rfl, fr_new HB.out.1 HB.out.2.1 (ext_trans G3.out.1 hb) hf⟩
      | true =>
        exfalso
        obtain ⟨S2, d, _, _⟩ := hyes rfl
        exact alive_no G3.out.2.kg.inv (G3.out.2.hL 0 (by decide)) G2.out.2.2.1 d.st)
  unfold pk at HN
  go_wp2_with fail
  refine HN.out.mono ?_
  clear HN
  rintro e w4 ⟨rfl, hb4⟩
  go_wp2_with fail
  go_ret
  exact ⟨rfl, hb4⟩
end Go.Proofs.Ytblfeokjlecgkaa
