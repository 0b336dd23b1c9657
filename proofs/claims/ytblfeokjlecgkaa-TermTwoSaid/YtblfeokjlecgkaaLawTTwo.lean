/- TermTwo, walked. -/
import Derived.Test.YtblfeokjlecgkaaLawTSelf
namespace Go.Proofs.Ytblfeokjlecgkaa
open Go.RowKit

theorem put_res {w w' : World} {r : List Nd × Bool × Bool × Bool} {e : Ending} (h : PutRes w r e w') :
    ∃ (A' : Option Addr) (c' : Nat) (xs : List Nd) (err : Int), e = .returned (.tuple #[.slice A' xs.length c', .int .i64 err]) ∧ TyA w' w'.heap.size A' xs ∧ xs.length ≤ c' ∧ Hid (err = putErr r ∧ (err = 0 → xs = r.1)) ∧ Below w.heap.size w w' := by
  obtain ⟨hb, ⟨h0, A', c', rfl, hown⟩ | ⟨h0, rfl⟩⟩ := h
  · exact ⟨A', c', r.1, 0, rfl, OwnL.tyA hown, OwnL.le_cap hown, Lib.hid ⟨h0.symm, fun _ => rfl⟩, hb⟩
  · exact ⟨none, 0, [], putErr r, rfl, TyA.nil, Nat.le_refl _, Lib.hid ⟨rfl, fun h => absurd h h0⟩, hb⟩

theorem putErr_ok {r : List Nd × Bool × Bool × Bool} (h : putErr r = 0) : NoFlag r ∧ rightB r.1 = true := by
  obtain ⟨r1, r2, r3, r4⟩ := r
  unfold putErr at h
  unfold NoFlag
  cases r2 <;> cases r3 <;> cases r4 <;> simp at h ⊢
  exact h

/-- Two puts of a whole type. -/
theorem two_root {x u0 u1 : List Nd} {ut0 ut1 : List (List Nd)} {n0 n1 : Int} (hr : rightB x = true) (hu0 : Putted u0 ut0) (hu1 : Putted u1 ut1) (c01 : Clean n1 u0) (c10 : Clean n0 u1) (hne : n0 ≠ n1) (g0 : NoFlag (putT n0 u0 ut0 x)) (g1 : NoFlag (putT n1 u1 ut1 x)) :
    ∃ r, putT n1 u1 ut1 (putT n0 u0 ut0 x).1 = (r, false, false, false) ∧ putT n0 u0 ut0 (putT n1 u1 ut1 x).1 = (r, false, false, false) := by
  obtain ⟨y, ks, I⟩ := isR_of hr
  have h := two hu0 hu1 c01 c10 hne (rt_root I)
  rw [split_root I] at h
  obtain ⟨R, h1, h2⟩ := h (fun t ht => by simp at ht; subst ht; exact g0) (fun t ht => by simp at ht; subst ht; exact g1)
  simp only [List.map_cons, List.map_nil] at h1 h2
  match R, h1, h2 with
  | [], h1, _ => simp at h1
  | r :: R, h1, h2 =>
    simp only [List.map_cons, List.cons.injEq] at h1 h2
    exact ⟨r, h1.1, h2.1⟩

theorem clean_of {u : List Nd} {n : Int} (h : decide (n ∈ varsL u) = false) : Clean n u := fun y hy hv hn => by
  have := of_decide_eq_false h
  exact this (varsL_mem.2 ⟨y, hy, hv, hn⟩)

/-- A type that is put: its parts. -/
theorem uok_put {c : Nat} {x : List Nd} (hr : rightB x = true) (hl : x.length ≤ 1000) (hc : x.length ≤ c) : ∃ utss, UOk c x utss ∧ Putted x utss := by
  obtain ⟨y, ks, I⟩ := isR_of hr
  exact ⟨splitF (manyN y) ks, ⟨hl, hc, y, ks, I.eq, I.ok, I.rt.ok, trees_of I.rt.fo⟩, putted_of I⟩

theorem ut_labels {c : Nat} {u : List Nd} {utss : List (List Nd)} (h : UOk c u utss) : ∀ t ∈ utss, ∀ z ∈ t, ∃ y ∈ u, z.s = y.s := fun t ht z hz => by
  obtain ⟨y, uks, rfl, _, _, h⟩ := h.ex
  exact ⟨z, List.mem_cons_of_mem _ (by rw [← h.flat]; exact List.mem_flatten.2 ⟨t, ht, hz⟩), rfl⟩

/-- What stands while TermTwo is walked. -/
structure G2 (w0 : World) (A U0 U1 : Option Addr) (x u0 u1 : List Nd) (c0 c1 : Nat) (n0 n1 : Int) (gn gu : Nat) (w : World) : Prop where
  ext : Below w0.heap.size w0 w
  mx : TyA w w.heap.size A x
  mu0 : TyA w w.heap.size U0 u0
  mu1 : TyA w w.heap.size U1 u1
  b0 : w.cell? ⟨gn, 0, none⟩ = some (.int .i64 n0)
  b1 : w.cell? ⟨gn, 1, none⟩ = some (.int .i64 n1)
  d0 : w.cell? ⟨gu, 0, none⟩ = some (.slice U0 u0.length c0)
  d1 : w.cell? ⟨gu, 1, none⟩ = some (.slice U1 u1.length c1)
  ln : gn < w.heap.size
  lu : gu < w.heap.size

theorem G2.step {w0 : World} {A U0 U1 : Option Addr} {x u0 u1 : List Nd} {c0 c1 : Nat} {n0 n1 : Int} {gn gu : Nat} {w w' : World} (h : G2 w0 A U0 U1 x u0 u1 c0 c1 n0 n1 gn gu w) (hb : Below w.heap.size w w') : G2 w0 A U0 U1 x u0 u1 c0 c1 n0 n1 gn gu w' :=
  ⟨ext_trans h.ext hb, (h.mx.below hb).more hb.size, (h.mu0.below hb).more hb.size, (h.mu1.below hb).more hb.size, (hb.cell (p := ⟨gn, 0, none⟩) h.ln).trans h.b0, (hb.cell (p := ⟨gn, 1, none⟩) h.ln).trans h.b1,
    (hb.cell (p := ⟨gu, 0, none⟩) h.lu).trans h.d0, (hb.cell (p := ⟨gu, 1, none⟩) h.lu).trans h.d1, Nat.lt_of_lt_of_le h.ln hb.size, Nat.lt_of_lt_of_le h.lu hb.size⟩

theorem g2_made (w : World) (A U0 U1 : Option Addr) (x u0 u1 : List Nd) (c0 c1 : Nat) (n0 n1 : Int) (t : TyA w w.heap.size A x) (t0 : TyA w w.heap.size U0 u0) (t1 : TyA w w.heap.size U1 u1) :
    G2 w A U0 U1 x u0 u1 c0 c1 n0 n1 w.heap.size (w.heap.size + 1) ((w.alloc (.cells #[.int .i64 n0, .int .i64 n1] 73)).alloc (.cells #[.slice U0 u0.length c0, .slice U1 u1.length c1] 54)) := by
  have hb := ext_alloc (ext_alloc (Below.refl w.heap.size w) (.cells #[.int .i64 n0, .int .i64 n1] 73)) (.cells #[.slice U0 u0.length c0, .slice U1 u1.length c1] 54)
  refine ⟨hb, (t.below hb).more hb.size, (t0.below hb).more hb.size, (t1.below hb).more hb.size, ?_, ?_, ?_, ?_, by simp; omega, by simp⟩
  · rw [World.cell?_alloc_lt _ _ _ (by simp), World.cell?_alloc_new]; rfl
  · rw [World.cell?_alloc_lt _ _ _ (by simp), World.cell?_alloc_new]; rfl
  · rw [World.cell?_alloc_at _ _ _ _ (by simp)]; rfl
  · rw [World.cell?_alloc_at _ _ _ _ (by simp)]; rfl

theorem sls_three (w : World) (B : Nat) (A U0 U1 : Option Addr) (c c0 c1 : Nat) (x u0 u1 : List Nd) (h : TyA w B A x) (h0 : TyA w B U0 u0) (h1 : TyA w B U1 u1) : Sls w B [(A, x.length, c), (U0, u0.length, c0), (U1, u1.length, c1)] [x, u0, u1] := ⟨rfl, fun i v xs hv hx => by
  match i, hv, hx with
  | 0, hv, hx => simp at hv hx; subst hv hx; exact ⟨rfl, h⟩
  | 1, hv, hx => simp at hv hx; subst hv hx; exact ⟨rfl, h0⟩
  | 2, hv, hx => simp at hv hx; subst hv hx; exact ⟨rfl, h1⟩
  | i + 3, hv, hx => simp at hv⟩

def few3 (x u0 u1 : List Nd) : Bool := few60 x && (few60 u0 && few60 u1)

theorem few_three (bk : Nat) (A U0 U1 : Option Addr) (c c0 c1 : Nat) (x u0 u1 : List Nd) (w : World) (hk : bk = w.heap.size) (t : TyA w w.heap.size A x) (t0 : TyA w w.heap.size U0 u0) (t1 : TyA w w.heap.size U1 u1) (hok : OkS [x, u0, u1]) :
    Calls Try.prog 42 #[.slice (some ⟨bk, 0, none⟩) 3 3] (w.alloc (.cells #[.slice A x.length c, .slice U0 u0.length c0, .slice U1 u1.length c1] 34)) fun e w' => e = .returned (.bool (few3 x u0 u1)) ∧ Below w.heap.size w w' := by
  subst hk
  have hb := ext_alloc (Below.refl w.heap.size w) (.cells #[.slice A x.length c, .slice U0 u0.length c0, .slice U1 u1.length c1] 34)
  have hz : (w.alloc (.cells #[.slice A x.length c, .slice U0 u0.length c0, .slice U1 u1.length c1] 34)).heap.size = w.heap.size + 1 := by simp
  have h1 := few_any (some ⟨w.heap.size, 0, none⟩) 3 [(A, x.length, c), (U0, u0.length, c0), (U1, u1.length, c1)] [x, u0, u1] _ (by rw [hz]; exact readS_new3 w (A, x.length, c) (U0, u0.length, c0) (U1, u1.length, c1)) (sls_three _ _ A U0 U1 c c0 c1 x u0 u1 ((t.below hb).more hb.size) ((t0.below hb).more hb.size) ((t1.below hb).more hb.size)) (by simp) hok
  refine h1.mono ?_
  rintro e w' ⟨rfl, hb1⟩
  refine ⟨?_, ext_trans hb hb1⟩
  unfold fewsB few3
  simp

set_option maxRecDepth 100000 in
set_option maxHeartbeats 30000000 in
theorem termTwo_law (A U0 U1 : Option Addr) (c c0 c1 : Nat) (x u0 u1 : List Nd) (n0 n1 : Int) (W : World) (t : TyA W W.heap.size A x) (t0 : TyA W W.heap.size U0 u0) (t1 : TyA W W.heap.size U1 u1) (hc : x.length ≤ c) (hc0 : u0.length ≤ c0) (hc1 : u1.length ≤ c1)
    (l : x.length ≤ 9223372036854775807) (l0 : u0.length ≤ 9223372036854775807) (l1 : u1.length ≤ 9223372036854775807) (o : ∀ y ∈ x, y.Ok) (o0 : ∀ y ∈ u0, y.Ok) (o1 : ∀ y ∈ u1, y.Ok) :
    Calls Try.prog 11 #[.slice A x.length c, .agg #[.int .i64 n0, .int .i64 n1], .agg #[.slice U0 u0.length c0, .slice U1 u1.length c1]] W fun e w' => e = .returned (.bool true) ∧ Below W.heap.size W w' := by
  have G := Lib.hid (g2_made W A U0 U1 x u0 u1 c0 c1 n0 n1 t t0 t1)
  have Ho : Hid ((∀ y ∈ x, y.s.size ≤ 9223372036854775807) ∧ (∀ y ∈ u0, y.s.size ≤ 9223372036854775807) ∧ (∀ y ∈ u1, y.s.size ≤ 9223372036854775807)) := Lib.hid ⟨fun y hy => (o y hy).s1, fun y hy => (o0 y hy).s1, fun y hy => (o1 y hy).s1⟩
  have hfw := Lib.hid (few_three (W.heap.size + 1 + 1) A U0 U1 c c0 c1 x u0 u1 _ (by simp) G.out.mx G.out.mu0 G.out.mu1 (fun xs hx => by
    simp at hx
    rcases hx with rfl | rfl | rfl
    · exact ⟨l, Ho.out.1⟩
    · exact ⟨l0, Ho.out.2.1⟩
    · exact ⟨l1, Ho.out.2.2⟩))
  clear t t0 t1 o o0 o1
  go_enter Try.func11, Try.ntmps11
  go_wp2_with fail
  refine hfw.out.mono ?_
  rintro e w1 ⟨rfl, hb⟩
  replace G := Lib.hid (G.out.step hb)
  clear hb hfw
  have hg1 := G.out.ln
  have hg2 := G.out.lu
  generalize hgn : W.heap.size = gn at *
  generalize hgu : gn + 1 = gu at *
  have Hg := Lib.hid (And.intro hgn hgu)
  clear hgn hgu
  have d0 := G.out.d0
  have d1 := G.out.d1
  have b0 := G.out.b0
  have b1 := G.out.b1
  cases hf : few3 x u0 u1
  · have HF := Lib.hid hf
    clear hf
    go_wp2_with fail
    refine (alive_any _).mono ?_
    rintro e w2 ⟨rfl, hb⟩
    go_wp2_with fail
    go_ret
    exact ⟨rfl, (G.out.step hb).ext⟩
  · have HF := Lib.hid hf
    clear hf
    have h3 : few60 x = true ∧ few60 u0 = true ∧ few60 u1 = true := by
      have := HF.out
      unfold few3 at this
      simpa using this
    obtain ⟨p1, _, p3⟩ := few_parts h3.1
    obtain ⟨q1, _, q3⟩ := few_parts h3.2.1
    obtain ⟨r1, _, r3⟩ := few_parts h3.2.2
    by_cases h90 : (90 : Int) < (x.length : Int) + (u0.length : Int) + (u1.length : Int)
    · go_wp2_with fail
      refine (alive_any _).mono ?_
      rintro e w2 ⟨rfl, hb⟩
      go_wp2_with fail
      go_ret
      exact ⟨rfl, (G.out.step hb).ext⟩
    · cases hnn : (n0 == n1)
      · have Hnn := Lib.hid hnn
        go_wp2_with fail
        clear d0 d1 b0 b1 hg1 hg2
        go_loopw [7] (fun s7 wr => ∃ z : Int, (z = 0 ∨ z = 1 ∨ z = 2) ∧ s7 = .int .i64 z ∧ Hid (G2 W A U0 U1 x u0 u1 c0 c1 n0 n1 gn gu wr) ∧ Hid ((0 < z → Clean n0 u0 ∧ Clean n1 u0) ∧ (1 < z → Clean n0 u1 ∧ Clean n1 u1))) (fun s7 _ => 2 - (intOf s7).toNat)
        case atStart => exact ⟨0, .inl rfl, rfl, G, Lib.hid ⟨fun h => absurd h (by decide), fun h => absurd h (by decide)⟩⟩
        case round =>
          clear G
          obtain ⟨z, hz, rfl, G, HC⟩ := hrel
          rcases hz with rfl | rfl | rfl
          · have SS : Hid (∀ v, G2 W A U0 U1 x u0 u1 c0 c1 n0 n1 gn gu v → v.cell? ⟨gu, 0, none⟩ = some (.slice U0 u0.length c0) ∧ v.cell? ⟨gn, 0, none⟩ = some (.int .i64 n0) ∧ v.cell? ⟨gn, 1, none⟩ = some (.int .i64 n1) ∧ Hid (G2 W A U0 U1 x u0 u1 c0 c1 n0 n1 gn gu v)) := Lib.hid fun v h => ⟨h.d0, h.b0, h.b1, Lib.hid h⟩
            have hgl1 := G.out.ln
            have hgl2 := G.out.lu
            have hvl := varsL_le u0
            cases hB0 : decide (n0 ∈ varsL u0)
            · have B0 := Lib.hid hB0
              cases hB1 : decide (n1 ∈ varsL u0)
              all_goals
                have B1 := Lib.hid hB1
                clear hB0 hB1
                go_wp2_with fail
                go_region_held3 (fun v => v.cell? ⟨gu, 0, none⟩ = some (.slice U0 u0.length c0) ∧ v.cell? ⟨gn, 0, none⟩ = some (.int .i64 n0) ∧ v.cell? ⟨gn, 1, none⟩ = some (.int .i64 n1) ∧ Hid (G2 W A U0 U1 x u0 u1 c0 c1 n0 n1 gn gu v))
                  (first
                    | exact SS.out _ (G2.step G.out (Below.refl _ _).drew)
                    | exact SS.out _ G6.out
                    | exact SS.out _ G5.out)
                  (first
                    | (go_at_call 45; (with_reducible refine (vars_any U0 c0 u0 _ (G2.step G.out (Below.refl _ _).drew).mu0 (by omega)).mono ?_); rintro e w5 ⟨A5, c5, rfl, hr5, hb5⟩; have G5 := Lib.hid (G2.step (G2.step G.out (Below.refl _ _).drew) hb5); have R5 := Lib.hid hr5; clear hr5 hb5)
                    | (go_at_call 44; (with_reducible refine (in_any A5 c5 _ (varsL u0) n0 _ R5.out (by omega)).mono ?_); rintro e w7 ⟨rfl, rfl⟩; rw [B0.out])
                    | (go_at_call 45; (with_reducible refine (vars_any U0 c0 u0 _ G5.out.mu0 (by omega)).mono ?_); rintro e w6 ⟨A6, c6, rfl, hr6, hb6⟩; have G6 := Lib.hid (G2.step G5.out hb6); have R6 := Lib.hid hr6; clear hr6 hb6)
                    | (go_at_call 44; (with_reducible refine (in_any A6 c6 _ (varsL u0) n1 _ R6.out (by omega)).mono ?_); rintro e w7 ⟨rfl, rfl⟩; rw [B1.out]))
              · all_goals
                  go_wp2_with fail
                  go_roundw
                  case rel => exact ⟨1, by omega, by go_num, G6, Lib.hid ⟨fun _ => ⟨clean_of B0.out, clean_of B1.out⟩, fun h => absurd h (by decide)⟩⟩
                  case measure => simp [intOf]
              · all_goals
                  go_wp2_with fail
                  refine (alive_any _).mono ?_
                  rintro e w8 ⟨rfl, hb⟩
                  go_wp2_with fail
                  go_ret
                  exact ⟨rfl, (G6.out.step hb).ext⟩
            · have B0 := Lib.hid hB0
              clear hB0
              go_wp2_with fail
              have tok1 : True := trivial
              have tok2 : True := trivial
              have cb0 := G.out.b0
              have cb1 := G.out.b1
              have cd := G.out.d0
              first
                | (go_region_with (first
                  | (have _t := tok1; go_at_call 45; (with_reducible refine (vars_any U0 c0 u0 _ (G2.step G.out (Below.refl _ _).drew).mu0 (by omega)).mono ?_); rintro e w5 ⟨A5, c5, rfl, hr5, hb5⟩; have G5 := Lib.hid (G2.step (G2.step G.out (Below.refl _ _).drew) hb5); have R5 := Lib.hid hr5; have f0 := G5.out.b0; have f1 := G5.out.b1; have f2 := G5.out.d0; have f3 := G5.out.ln; have f4 := G5.out.lu; clear hr5 hb5 _t tok1)
                  | (have _t := tok2; go_at_call 44; (with_reducible refine (in_any A5 c5 _ (varsL u0) n0 _ R5.out (by omega)).mono ?_); rintro e w7 ⟨rfl, rfl⟩; rw [B0.out]; clear _t tok2)))
                | fail
              all_goals
                go_wp2_with fail
                refine (alive_any _).mono ?_
                rintro e w8 ⟨rfl, hb⟩
                go_wp2_with fail
                go_ret
                exact ⟨rfl, (G5.out.step hb).ext⟩
          · have SS : Hid (∀ v, G2 W A U0 U1 x u0 u1 c0 c1 n0 n1 gn gu v → v.cell? ⟨gu, 1, none⟩ = some (.slice U1 u1.length c1) ∧ v.cell? ⟨gn, 0, none⟩ = some (.int .i64 n0) ∧ v.cell? ⟨gn, 1, none⟩ = some (.int .i64 n1) ∧ Hid (G2 W A U0 U1 x u0 u1 c0 c1 n0 n1 gn gu v)) := Lib.hid fun v h => ⟨h.d1, h.b0, h.b1, Lib.hid h⟩
            have hgl1 := G.out.ln
            have hgl2 := G.out.lu
            have hvl := varsL_le u1
            cases hB0 : decide (n0 ∈ varsL u1)
            · have B0 := Lib.hid hB0
              cases hB1 : decide (n1 ∈ varsL u1)
              all_goals
                have B1 := Lib.hid hB1
                clear hB0 hB1
                go_wp2_with fail
                go_region_held3 (fun v => v.cell? ⟨gu, 1, none⟩ = some (.slice U1 u1.length c1) ∧ v.cell? ⟨gn, 0, none⟩ = some (.int .i64 n0) ∧ v.cell? ⟨gn, 1, none⟩ = some (.int .i64 n1) ∧ Hid (G2 W A U0 U1 x u0 u1 c0 c1 n0 n1 gn gu v))
                  (first
                    | exact SS.out _ (G2.step G.out (Below.refl _ _).drew)
                    | exact SS.out _ G6.out
                    | exact SS.out _ G5.out)
                  (first
                    | (go_at_call 45; (with_reducible refine (vars_any U1 c1 u1 _ (G2.step G.out (Below.refl _ _).drew).mu1 (by omega)).mono ?_); rintro e w5 ⟨A5, c5, rfl, hr5, hb5⟩; have G5 := Lib.hid (G2.step (G2.step G.out (Below.refl _ _).drew) hb5); have R5 := Lib.hid hr5; clear hr5 hb5)
                    | (go_at_call 44; (with_reducible refine (in_any A5 c5 _ (varsL u1) n0 _ R5.out (by omega)).mono ?_); rintro e w7 ⟨rfl, rfl⟩; rw [B0.out])
                    | (go_at_call 45; (with_reducible refine (vars_any U1 c1 u1 _ G5.out.mu1 (by omega)).mono ?_); rintro e w6 ⟨A6, c6, rfl, hr6, hb6⟩; have G6 := Lib.hid (G2.step G5.out hb6); have R6 := Lib.hid hr6; clear hr6 hb6)
                    | (go_at_call 44; (with_reducible refine (in_any A6 c6 _ (varsL u1) n1 _ R6.out (by omega)).mono ?_); rintro e w7 ⟨rfl, rfl⟩; rw [B1.out]))
              · all_goals
                  go_wp2_with fail
                  go_roundw
                  case rel => exact ⟨2, by omega, by go_num, G6, Lib.hid ⟨fun _ => HC.out.1 (by decide), fun _ => ⟨clean_of B0.out, clean_of B1.out⟩⟩⟩
                  case measure => simp [intOf]
              · all_goals
                  go_wp2_with fail
                  refine (alive_any _).mono ?_
                  rintro e w8 ⟨rfl, hb⟩
                  go_wp2_with fail
                  go_ret
                  exact ⟨rfl, (G6.out.step hb).ext⟩
            · have B0 := Lib.hid hB0
              clear hB0
              go_wp2_with fail
              have tok1 : True := trivial
              have tok2 : True := trivial
              have cb0 := G.out.b0
              have cb1 := G.out.b1
              have cd := G.out.d1
              first
                | (go_region_with (first
                  | (have _t := tok1; go_at_call 45; (with_reducible refine (vars_any U1 c1 u1 _ (G2.step G.out (Below.refl _ _).drew).mu1 (by omega)).mono ?_); rintro e w5 ⟨A5, c5, rfl, hr5, hb5⟩; have G5 := Lib.hid (G2.step (G2.step G.out (Below.refl _ _).drew) hb5); have R5 := Lib.hid hr5; have f0 := G5.out.b0; have f1 := G5.out.b1; have f2 := G5.out.d1; have f3 := G5.out.ln; have f4 := G5.out.lu; clear hr5 hb5 _t tok1)
                  | (have _t := tok2; go_at_call 44; (with_reducible refine (in_any A5 c5 _ (varsL u1) n0 _ R5.out (by omega)).mono ?_); rintro e w7 ⟨rfl, rfl⟩; rw [B0.out]; clear _t tok2)))
                | fail
              all_goals
                go_wp2_with fail
                refine (alive_any _).mono ?_
                rintro e w8 ⟨rfl, hb⟩
                go_wp2_with fail
                go_ret
                exact ⟨rfl, (G5.out.step hb).ext⟩
          · obtain ⟨⟨k01, k11⟩, _⟩ : (Clean n0 u0 ∧ Clean n1 u0) ∧ True := ⟨HC.out.1 (by decide), trivial⟩
            obtain ⟨k00, k10⟩ := HC.out.2 (by decide)
            have hne01 : n0 ≠ n1 := by simpa using Hnn.out
            obtain ⟨ut0, hu0, pu0⟩ := uok_put (c := c0) q3 (by omega) hc0
            obtain ⟨ut1, hu1, pu1⟩ := uok_put (c := c1) r3 (by omega) hc1
            have I := isT_of p3
            have T := Lib.hid (fun g0 g1 => two_root p3 pu0 pu1 k11 k00 hne01 g0 g1)
            have H1 := Lib.hid (put_any A U0 c c0 x u0 ut0 n0 wr G.out.mx G.out.mu0 I.fo I.ok hc hu0 (by
              have : x.length * (u0.length + 1) ≤ 60 * 61 := Nat.mul_le_mul p1 (by omega)
              omega) (fun z hz => (List.mem_append.1 hz).elim (Ho.out.1 z) (Ho.out.2.1 z)))
            have H2 := Lib.hid (fun v (g : G2 W A U0 U1 x u0 u1 c0 c1 n0 n1 gn gu v) => put_any A U1 c c1 x u1 ut1 n1 v g.mx g.mu1 I.fo I.ok hc hu1 (by
              have : x.length * (u1.length + 1) ≤ 60 * 61 := Nat.mul_le_mul p1 (by omega)
              omega) (fun z hz => (List.mem_append.1 hz).elim (Ho.out.1 z) (Ho.out.2.2 z)))
            have H3 := Lib.hid (fun v (g : G2 W A U0 U1 x u0 u1 c0 c1 n0 n1 gn gu v) (A' : Option Addr) (c' : Nat) (a : List Nd) (ha : TyA v v.heap.size A' a) (hca : a.length ≤ c') (hr : rightB a = true) (hs : ∀ z ∈ a, z.s.size ≤ 9223372036854775807) => put_any A' U1 c' c1 a u1 ut1 n1 v ha g.mu1 (isT_of hr).fo (isT_of hr).ok hca hu1 (by
              have := (isT_of hr).len
              have : a.length * (u1.length + 1) ≤ 10000 * 61 := Nat.mul_le_mul this (by omega)
              omega) (fun z hz => (List.mem_append.1 hz).elim (hs z) (Ho.out.2.2 z)))
            have H4 := Lib.hid (fun v (g : G2 W A U0 U1 x u0 u1 c0 c1 n0 n1 gn gu v) (A' : Option Addr) (c' : Nat) (a : List Nd) (ha : TyA v v.heap.size A' a) (hca : a.length ≤ c') (hr : rightB a = true) (hs : ∀ z ∈ a, z.s.size ≤ 9223372036854775807) => put_any A' U0 c' c0 a u0 ut0 n0 v ha g.mu0 (isT_of hr).fo (isT_of hr).ok hca hu0 (by
              have := (isT_of hr).len
              have : a.length * (u0.length + 1) ≤ 10000 * 61 := Nat.mul_le_mul this (by omega)
              omega) (fun z hz => (List.mem_append.1 hz).elim (hs z) (Ho.out.2.1 z)))
            have L0 := Lib.hid (fun z hz => put_labels n0 u0 ut0 (ut_labels hu0) x.length x z hz)
            have L1 := Lib.hid (fun z hz => put_labels n1 u1 ut1 (ut_labels hu1) x.length x z hz)
            clear HC k01 k11 k00 k10 hu0 hu1 pu0 pu1 I q3 r3 p3 hne01
            have b0 := G.out.b0
            have d0 := G.out.d0
            have b1 := G.out.b1
            have d1 := G.out.d1
            have hl1 := G.out.ln
            have hl2 := G.out.lu
            go_wp2_with fail
            refine H1.out.mono ?_
            rintro e w2 hres
            obtain ⟨A2, c2, a, ea, rfl, ta, hca, hea, hb⟩ := put_res hres
            replace G := Lib.hid (G.out.step hb)
            have TA := Lib.hid ta
            clear hres hb ta H1 b0 b1 d0 d1 hl1 hl2
            have b0 := G.out.b0
            have d0 := G.out.d0
            have b1 := G.out.b1
            have d1 := G.out.d1
            have hl1 := G.out.ln
            have hl2 := G.out.lu
            go_wp2_with fail
            refine (H2.out _ G.out).mono ?_
            rintro e w3 hres
            obtain ⟨A3, c3, bb, eb, rfl, tb, hcb, heb, hb⟩ := put_res hres
            replace G := Lib.hid (G.out.step hb)
            replace TA := Lib.hid ((TA.out.below hb).more hb.size)
            have TB := Lib.hid tb
            clear hres hb tb H2 b0 b1 d0 d1 hl1 hl2
            cases hza : (ea != 0)
            · have ha0 : ea = 0 := by simpa using hza
              subst ha0
              cases hzb : (eb != 0)
              · have hb0 : eb = 0 := by simpa using hzb
                subst hb0
                obtain ⟨g0, rr0⟩ := putErr_ok hea.out.1.symm
                obtain ⟨g1, rr1⟩ := putErr_ok heb.out.1.symm
                have ea2 := hea.out.2 rfl
                have eb2 := heb.out.2 rfl
                obtain ⟨r, R1, R2⟩ := T.out g0 g1
                rw [← ea2] at R1 rr0
                rw [← eb2] at R2 rr1
                have hsa : ∀ z ∈ a, z.s.size ≤ 9223372036854775807 := fun z hz => by
                  rw [ea2] at hz
                  obtain ⟨y, hy, e⟩ := L0.out z hz
                  rw [e]
                  exact (List.mem_append.1 hy).elim (Ho.out.1 y) (Ho.out.2.1 y)
                have hsb : ∀ z ∈ bb, z.s.size ≤ 9223372036854775807 := fun z hz => by
                  rw [eb2] at hz
                  obtain ⟨y, hy, e⟩ := L1.out z hz
                  rw [e]
                  exact (List.mem_append.1 hy).elim (Ho.out.1 y) (Ho.out.2.2 y)
                have hla : ((a.length : Int) == 0) = false := by
                  have := List.length_pos_iff.2 (isT_of rr0).ne
                  simp
                  exact (isT_of rr0).ne
                have hlb : ((bb.length : Int) == 0) = false := by
                  simp
                  exact (isT_of rr1).ne
                have H3' := Lib.hid (fun v g ta => H3.out v g A2 c2 a ta hca rr0 hsa)
                have H4' := Lib.hid (fun v g tb => H4.out v g A3 c3 bb tb hcb rr1 hsb)
                rw [R1] at H3'
                rw [R2] at H4'
                clear H3 H4 T g0 g1 rr0 rr1 ea2 eb2 R1 R2 hsa hsb L0 L1 hza hzb
                have b0 := G.out.b0
                have d0 := G.out.d0
                have b1 := G.out.b1
                have d1 := G.out.d1
                have hl1 := G.out.ln
                have hl2 := G.out.lu
                go_wp2_with fail
                refine (H3'.out _ G.out TA.out).mono ?_
                rintro e w4 hres
                obtain ⟨A4, c4, x4, e4, rfl, t4, hc4, he4, hb⟩ := put_res hres
                replace G := Lib.hid (G.out.step hb)
                replace TB := Lib.hid ((TB.out.below hb).more hb.size)
                have T4 := Lib.hid t4
                clear hres hb t4 H3' b0 b1 d0 d1 hl1 hl2
                have b0 := G.out.b0
                have d0 := G.out.d0
                have b1 := G.out.b1
                have d1 := G.out.d1
                have hl1 := G.out.ln
                have hl2 := G.out.lu
                go_wp2_with fail
                refine (H4'.out _ G.out TB.out).mono ?_
                rintro e w5 hres
                obtain ⟨A5, c5, x5, e5, rfl, t5, hc5, he5, hb⟩ := put_res hres
                replace G := Lib.hid (G.out.step hb)
                replace T4 := Lib.hid ((T4.out.below hb).more hb.size)
                have T5 := Lib.hid t5
                clear hres hb t5 H4' b0 b1 d0 d1 hl1 hl2
                have E45 := Lib.hid (show e4 = e5 by rw [he4.out.1, he5.out.1])
                cases hz : (e4 != 0)
                · have hz5 : (e5 != 0) = false := by rw [← E45.out]; exact hz
                  have h0 : e4 = 0 := by simpa using hz
                  have X : Hid (x4 = x5) := Lib.hid (by rw [he4.out.2 h0, he5.out.2 (by rw [← E45.out]; exact h0)])
                  have hlr : x4.length ≤ 9223372036854775807 := by
                    have h1 : putErr (r, false, false, false) = 0 := by rw [← he4.out.1]; exact h0
                    have h2 := (isT_of (putErr_ok h1).2).len
                    rw [he4.out.2 h0]
                    simp at h2 ⊢
                    omega
                  clear h0
                  go_wp2_with fail
                  refine (alive_any _).mono ?_
                  rintro e w6 ⟨rfl, hb⟩
                  replace G := Lib.hid (G.out.step hb)
                  replace T4 := Lib.hid ((T4.out.below hb).more hb.size)
                  replace T5 := Lib.hid ((T5.out.below hb).more hb.size)
                  clear hb
                  go_wp2_with fail
                  refine (one_any A4 A5 c4 c5 _ _ x4 x5 _ T4.out T5.out hlr).mono ?_
                  rw [show decide (x4 = x5) = true from decide_eq_true X.out]
                  rintro e w7 ⟨rfl, q, rfl⟩
                  go_wp2_with fail
                  go_ret
                  exact ⟨rfl, ext_trans G.out.ext (ext_drewN (Below.refl _ _) q)⟩
                · have hz5 : (e5 != 0) = true := by rw [← E45.out]; exact hz
                  go_wp2_with fail
                  refine (alive_any _).mono ?_
                  rintro e w6 ⟨rfl, hb⟩
                  go_wp2_with fail
                  go_ret
                  exact ⟨rfl, (G.out.step hb).ext⟩
              · go_wp2_with fail
                refine (alive_any _).mono ?_
                rintro e w6 ⟨rfl, hb⟩
                go_wp2_with fail
                go_ret
                exact ⟨rfl, (G.out.step hb).ext⟩
            · go_wp2_with fail
              refine (alive_any _).mono ?_
              rintro e w6 ⟨rfl, hb⟩
              go_wp2_with fail
              go_ret
              exact ⟨rfl, (G.out.step hb).ext⟩
      · have Hnn := Lib.hid hnn
        go_wp2_with fail
        refine (alive_any _).mono ?_
        rintro e w2 ⟨rfl, hb⟩
        go_wp2_with fail
        go_ret
        exact ⟨rfl, (G.out.step hb).ext⟩
end Go.Proofs.Ytblfeokjlecgkaa
