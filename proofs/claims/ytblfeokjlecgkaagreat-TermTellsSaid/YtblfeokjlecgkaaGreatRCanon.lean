/- The document's Canon, walked: a row of the numbers that were seen, a row of types, each copied and numbered anew. -/
import Derived.Test.YtblfeokjlecgkaaGreatCanonW
import Derived.Test.YtblfeokjlecgkaaGreatRVars
namespace Go.Proofs.YtblfeokjlecgkaaGreat
open Go.RowKit

section
variable {w0 w w' : World} {V : Option Addr} {cv : Nat} {vs : List (Option Addr × Nat × Nat)} {outs : List (List Nd)} {U : Option Addr} {uc : Nat} {us : List Nd}

/-- A write into another block. -/
theorem RowM.keptOff {H : Option Addr} {m c : Nat} (h : RowM w0 V cv vs outs U uc us w) (hg : w.grownBy w' ((Value.slice H m c).ownBlock)) (hlo : ∀ a, H = some a → w0.heap.size ≤ a.block) (hv : Off H V) (hu : Off H U) (hs : ∀ v ∈ vs, Off v.1 H) : RowM w0 V cv vs outs U uc us w' := by
  have hk : ∀ k, (Value.slice H m c).ownBlock = some k → ∃ a, H = some a ∧ a.block = k := fun k hk => ownBlock_of hk
  refine ⟨kept_off h.row hg hv, h.sls.keptBy hg (fun k hk2 v hv2 a ha e => ?_), kept_off h.cur hg hu, h.bel.grown hg h.bel.size (fun k hk2 => ?_), h.uv, h.su, h.sv, fun v hv2 a ha => Nat.lt_of_lt_of_le (h.lt v hv2 a ha) hg.size⟩
  · obtain ⟨b, hb, hbe⟩ := hk k hk2
    exact hs v hv2 a b ha hb (by rw [e, hbe])
  · obtain ⟨b, hb, hbe⟩ := hk k hk2
    rw [← hbe]
    exact hlo b hb
end

/-- What the document's Canon holds. -/
structure RowH (w0 : World) (H : Option Addr) (ch : Nat) (had : List Int) (V : Option Addr) (cv : Nat) (vs : List (Option Addr × Nat × Nat)) (outs : List (List Nd)) (U : Option Addr) (uc : Nat) (us : List Nd) (w : World) : Prop where
  m : RowM w0 V cv vs outs U uc us w
  had : OwnI w w0.heap.size H ch had
  hv : Off H V
  hu : Off H U
  hs : ∀ v ∈ vs, Off v.1 H

section
variable {w0 w w' : World} {H : Option Addr} {ch : Nat} {had : List Int} {V : Option Addr} {cv : Nat} {vs : List (Option Addr × Nat × Nat)} {outs : List (List Nd)} {U : Option Addr} {uc : Nat} {us : List Nd}

theorem RowH.step (h : RowH w0 H ch had V cv vs outs U uc us w) (hb : Below w.heap.size w w') : RowH w0 H ch had V cv vs outs U uc us w' :=
  ⟨h.m.step hb, h.had.below hb (Nat.le_refl _), h.hv, h.hu, h.hs⟩
theorem RowH.alloc (h : RowH w0 H ch had V cv vs outs U uc us w) (o : Obj) : RowH w0 H ch had V cv vs outs U uc us (w.alloc o) := h.step (ext_alloc (Below.refl _ _) o)
theorem RowH.drewN (h : RowH w0 H ch had V cv vs outs U uc us w) (n : Nat) : RowH w0 H ch had V cv vs outs U uc us (w.drewN n) := h.step (ext_drewN (Below.refl _ _) n)

theorem RowH.store {g : Nat} (h : RowH w0 H ch had V cv vs outs (some ⟨g, 0, none⟩) uc us w) {j : Nat} {x : Nd} (hx : us[j]? = some x) (v : Int) :
    g < w.heap.size ∧ w.cell? ⟨g, j * 3 + 2, none⟩ = some (.int .i64 x.n) ∧ w.frozen? ⟨g, j * 3 + 2, none⟩ = false ∧
      RowH w0 H ch had V cv vs outs (some ⟨g, 0, none⟩) uc (us.set j ⟨x.k, x.s, v⟩) (w.setCell ⟨g, j * 3 + 2, none⟩ (.int .i64 v)) := by
  obtain ⟨h1, h2, h3, h4⟩ := h.m.store hx v
  obtain ⟨g2, e, _, _, _, _, _, hgr⟩ := OwnL.setM h.m.cur hx v
  injection e with e
  injection e with e _ _
  subst e
  exact ⟨h1, h2, h3, h4, OwnL.kept h.had hgr (fun k hk a ha e => by cases hk; exact h.hu a _ ha rfl e), h.hv, h.hu, h.hs⟩

theorem RowH.fresh {U2 : Option Addr} {uc2 : Nat} {us2 : List Nd} (h : RowH w0 H ch had V cv vs outs U uc us w) (hown : OwnN w' w.heap.size U2 uc2 us2) (hb : Below w.heap.size w w') : RowH w0 H ch had V cv vs outs U2 uc2 us2 w' :=
  ⟨h.m.fresh hown hb, h.had.below hb (Nat.le_refl _), h.hv, fun a b ha hb2 e => by have := (OwnL.lt h.had a ha).2; have := (OwnL.lt hown b hb2).1; omega, h.hs⟩

theorem RowH.app {V2 : Option Addr} {cv2 : Nat} (h : RowH w0 H ch had V cv vs outs U uc us w) (hown : OwnS w' w0.heap.size V2 cv2 (vs ++ [(U, us.length, uc)])) (hg : w.grownBy w' ((Value.slice V vs.length cv).ownBlock))
    (hA : (Value.slice V2 (vs.length + 1) cv2).ownBlock = (Value.slice V vs.length cv).ownBlock ∨ (Value.slice V2 (vs.length + 1) cv2).ownBlock = some w.heap.size) : RowH w0 H ch had V2 cv2 (vs ++ [(U, us.length, uc)]) (outs ++ [us]) none 0 [] w' := by
  refine ⟨h.m.app hown hg hA, kept_off h.had hg h.hv.symm, (h.hv.symm.app hA (fun x hx => (OwnL.lt h.had x hx).2)).symm, (fun a b _ hb => by cases hb), fun v hv => ?_⟩
  rcases List.mem_append.1 hv with hv | hv
  · exact h.hs v hv
  · simp at hv
    subst hv
    exact h.hu.symm

/-- A number more was seen. -/
theorem RowH.see {H2 : Option Addr} {ch2 : Nat} {had2 : List Int} {m m2 : Nat} (h : RowH w0 H ch had V cv vs outs U uc us w) (hown : OwnI w' w0.heap.size H2 ch2 had2) (hg : w.grownBy w' ((Value.slice H m ch).ownBlock))
    (hA : (Value.slice H2 m2 ch2).ownBlock = (Value.slice H m ch).ownBlock ∨ (Value.slice H2 m2 ch2).ownBlock = some w.heap.size) : RowH w0 H2 ch2 had2 V cv vs outs U uc us w' := by
  refine ⟨h.m.keptOff hg (fun a ha => (OwnL.lt h.had a ha).1) h.hv h.hu h.hs, hown, h.hv.app hA (fun x hx => (OwnL.lt h.m.row x hx).2), h.hu.app hA (fun x hx => (OwnL.lt h.m.cur x hx).2), fun v hv => ((h.hs v hv).symm.app hA (fun x hx => h.m.lt v hv x hx)).symm⟩
end

theorem posI_ne {n : Int} : ∀ {l : List Int} {j : Nat} {m : Int}, j < posI n l → l[j]? = some m → m ≠ n
  | [], j, m, h, _ => by simp [posI] at h
  | y :: l, j, m, h, hm => by
    unfold posI at h
    split at h
    · omega
    · next hne =>
      cases j with
      | zero => simp at hm; subst hm; exact hne
      | succ j =>
        rw [List.getElem?_cons_succ] at hm
        exact posI_ne (by omega) hm

theorem mem_seen {had : List Int} {x : Nd} (h : isVarB x.k = true) : x.n ∈ seen had x := by
  unfold seen
  by_cases hm : x.n ∈ had
  · rw [if_neg (by simp [hm])]; exact hm
  · rw [if_pos ⟨h, hm⟩]; simp

set_option maxRecDepth 100000 in
set_option maxHeartbeats 8000000 in
theorem rCanon_any (V0 : Option Addr) (c0 : Nat) (vs0 : List (Option Addr × Nat × Nat)) (xss : List (List Nd)) (w : World) (hr : ReadS w w.heap.size V0 vs0) (hS : Sls w w.heap.size vs0 xss) (hne : ∀ xs ∈ xss, xs ≠ [])
    (hl : vs0.length ≤ 100) (h6 : ∀ xs ∈ xss, xs.length ≤ 1000) :
    Calls Tryz.prog 16 #[.slice V0 vs0.length c0] w (CanPost (canT [] xss) w) := by
  have Hr := Lib.hid hr
  have HS := Lib.hid hS
  have Hne := Lib.hid hne
  have H6 := Lib.hid h6
  clear hr hS hne h6
  go_enter Tryz.func16, Tryz.ntmps16
  go_wp2_with fail
  go_loopw [3, 4, 5] (fun s3 s4 s5 wr => ∃ (k : Nat) (H : Option Addr) (ch : Nat) (had : List Int) (V : Option Addr) (cv : Nat) (vs : List (Option Addr × Nat × Nat)), s3 = .slice H had.length ch ∧ s4 = .slice V vs.length cv ∧ s5 = .int .i64 k ∧ k ≤ vs0.length ∧ Hid (vs.length = k) ∧
      Hid (had = seenT [] (xss.take k) ∧ RowH w H ch had V cv vs (canT [] (xss.take k)) none 0 [] wr)) (fun _ _ s5 _ => vs0.length - (intOf s5).toNat)
  case atStart => exact ⟨0, some ⟨w.heap.size, 0, none⟩, 0, [], some ⟨w.heap.size + 1, 0, none⟩, 0, [], rfl, rfl, rfl, Nat.zero_le _, Lib.hid rfl, Lib.hid ⟨rfl, RowM.start w _ 0 (by
      have h := own_empty 23 1 encS (w.alloc (.cells #[] 3))
      rw [World.size_alloc] at h
      exact OwnL.lower h (by omega)) (ext_alloc (ext_alloc (Below.refl _ _) _) _), OwnL.alloc (own_empty 3 1 encI w) _, fun a b ha hb e => (by cases ha; cases hb; simp at e), (fun a b _ hb => by cases hb), (fun v hv => by cases hv)⟩⟩
  case round =>
    obtain ⟨k, H, ch, had, V, cv, vs, rfl, rfl, rfl, hk, hvk, M⟩ := hrel
    by_cases hp : k < vs0.length
    · obtain ⟨v, hv⟩ := getq_ex hp
      obtain ⟨xs, hxs⟩ := getq_ex (show k < xss.length by rw [← HS.out.1]; exact hp)
      have hmem := List.mem_of_getElem? hxs
      obtain ⟨b, o, rfl, hb, hc⟩ := ReadL.slice (ReadL.more (ReadL.below Hr.out M.out.2.m.bel) M.out.2.m.bel.size) hv
      obtain ⟨hvl, hT⟩ := HS.out.2 k v xs hv hxs
      rw [hvl] at hc
      have hxl := H6.out xs hmem
      have Hst := Lib.hid (seenT_step hxs)
      obtain ⟨x0, hx0⟩ := getq_ex (show 0 < xs.length by have := Hne.out xs hmem; cases xs with | nil => exact absurd rfl this | cons => simp)
      have hh5 : had.length ≤ 100000 := by
        have := seenT_le (m := 1000) [] (xss.take k) fun ys hy => H6.out ys (List.mem_of_mem_take hy)
        rw [List.length_take] at this
        rw [M.out.1]
        simp at this
        omega
      have Hh5 := Lib.hid hh5
      have Hx0 := Lib.hid hx0
      have HT := Lib.hid (hT.below M.out.2.m.bel)
      have hown0 := Lib.hid (own_empty 39 3 encN wr)
      have hb0 := Lib.hid (ext_alloc (Below.refl wr.heap.size wr) (.cells #[] 39))
      have hWl := M.out.2.m.bel.size
      clear hv hxs hmem hT hvl hx0 hh5
      go_wp2_with (at_builtin; refine wpList_appN rfl (.tmp 17) (.tmp 21) rfl wr.heap.size (l := []) rfl hown0.out (l2 := xs) rfl (HT.out.below (hb0.out.mono hWl)) (by simp; omega) (by simp) ?_; intro A2 cap2 w3 hown3 hg3 _)
      rw [List.nil_append] at hown3
      have hb3 := ext_app hb0.out hg3 (fun q hq => (OwnL.block hown0.out q hq).1)
      obtain ⟨g, rfl, _, _, _, _, _, _⟩ := OwnL.setM hown3 Hx0.out 0
      have M1 := Lib.hid (M.out.2.fresh hown3 hb3)
      have Hhad := Lib.hid M.out.1
      clear hown3 hg3 hb3 hown0 hb0 M hb hc
      go_loopw [3, 7] (fun s3 s7 wi => ∃ (j : Nat) (H : Option Addr) (ch : Nat) (ha : List Int), s3 = .slice H ha.length ch ∧ s7 = .int .i64 j ∧ j ≤ xs.length ∧ ha.length ≤ 100000 + j ∧ Hid (ha = seenL had (xs.take j) ∧ RowH w H ch ha V cv vs (canT [] (xss.take k)) (some ⟨g, 0, none⟩) cap2 (canTo had xs j) wi))
        (fun _ s7 _ => xs.length - (intOf s7).toNat)
      case atStart => exact ⟨0, H, ch, had, rfl, rfl, Nat.zero_le _, Hh5.out, Lib.hid ⟨rfl, by rw [canTo_zero]; exact M1.out⟩⟩
      case round =>
        clear M1
        obtain ⟨j, H, ch, ha, rfl, rfl, hj, hhj, M⟩ := hrel
        by_cases hpj : j < xs.length
        · obtain ⟨x, hx⟩ := getq_ex hpj
          have hxj := canTo_at (had := had) hx
          have Hx := Lib.hid hx
          have Hxj := Lib.hid hxj
          have HC := Lib.hid (fun v (h : RowH w H ch ha V cv vs (canT [] (xss.take k)) (some ⟨g, 0, none⟩) cap2 (canTo had xs j) v) => (OwnL.tyA h.m.cur).at_ hxj)
          obtain ⟨b1, o1, hA, hb1, c10, c11, c12⟩ := HC.out _ M.out.2
          injection hA with hA
          injection hA with e1 e2 _
          subst e1 e2
          rw [Nat.zero_add] at c10 c11 c12
          have hcl := Lib.hid (canTo_len had xs j)
          clear hx hxj
          go_wp2_with fail
          refine (rIsVar_any _ _ _ _).mono ?_
          rintro e w2 ⟨rfl, hb2⟩
          replace M := Lib.hid (⟨M.out.1, M.out.2.step hb2⟩ : ha = seenL had (xs.take j) ∧ RowH w H ch ha V cv vs (canT [] (xss.take k)) (some ⟨g, 0, none⟩) cap2 (canTo had xs j) w2)
          obtain ⟨b1, o1, hA, hb1, d10, d11, d12⟩ := HC.out _ M.out.2
          injection hA with hA
          injection hA with e1 e2 _
          subst e1 e2
          rw [Nat.zero_add] at d10 d11 d12
          clear hb2
          cases h8 : isVarB x.k
          · have H8 := Lib.hid h8
            go_wp2_with fail
            go_roundw
            case rel => exact ⟨j + 1, H, ch, ha, rfl, by go_num, hpj, by omega, Lib.hid ⟨by rw [seenL_step Hx.out, (can_no H8.out).2]; exact M.out.1, by rw [canTo_step Hx.out, (can_no H8.out).1, set_self Hxj.out]; exact M.out.2⟩⟩
            case measure => simp [intOf]; omega
          · have H8 := Lib.hid h8
            have hIn := Lib.hid (in_any H ch w2.heap.size ha x.n w2 (OwnL.read encI_len M.out.2.had) (by omega))
            have Hhad2 := Lib.hid M.out.1
            clear h8
            go_wp2_with fail
            refine hIn.out.mono ?_
            rintro e w3 ⟨rfl, rfl⟩
            clear hIn
            cases hm : decide (x.n ∈ ha)
            · have Hm := Lib.hid (of_decide_eq_false hm)
              clear hm
              go_wp2_with (at_builtin; refine wpList_appI rfl (.tmp 43) (.tmp 49) rfl w.heap.size (l := ha) rfl (OwnL.alloc M.out.2.had _) (l2 := [x.n]) rfl (readI_new _ x.n) (by simp; omega) (by have := M.out.2.m.bel.size; simp; omega) ?_; intro H2 ch2 w4 hown4 hg4 hA4; have M4 := Lib.hid ((M.out.2.alloc _).see hown4 hg4 hA4); clear hown4 hg4 hA4)
              have hse : Hid (seen (seenL had (xs.take j)) x = (ha ++ [x.n])) := Lib.hid (by rw [← Hhad2.out]; unfold seen; rw [if_pos ⟨H8.out, Hm.out⟩])
              have hmn : Hid (x.n ∈ (ha ++ [x.n])) := Lib.hid (by rw [← hse.out]; exact mem_seen H8.out)
              have hpl : posI x.n (ha ++ [x.n]) < ha.length + 1 := by have := posI_lt hmn.out; simpa using this
              have hpg := Lib.hid (posI_get hmn.out)
              have hpn := Lib.hid (fun (i : Nat) (m : Int) (h : i < posI x.n (ha ++ [x.n])) (hm : ((ha ++ [x.n]))[i]? = some m) => posI_ne h hm)
              have hnd : Hid (canNd (seenL had (xs.take j)) x = ⟨x.k, x.s, ((posI x.n (ha ++ [x.n]) : Nat) : Int) + 1⟩) := Lib.hid (by rw [canNd_var H8.out, hse.out]; rfl)
              generalize hpp : posI x.n (ha ++ [x.n]) = p at *
              clear hpp
              go_wp2_with fail
              go_loopw [8] (fun s8 wz => ∃ i : Nat, s8 = .int .i64 i ∧ i ≤ p ∧ Hid (RowH w H2 ch2 (ha ++ [x.n]) V cv vs (canT [] (xss.take k)) (some ⟨g, 0, none⟩) cap2 (canTo had xs j) wz)) (fun s8 _ => p - (intOf s8).toNat)
              case atStart => exact ⟨0, rfl, Nat.zero_le _, M4⟩
              case round =>
                clear M4
                obtain ⟨i, rfl, hip, M5⟩ := hrel
                obtain ⟨m, hm⟩ := getq_ex (show i < ((ha ++ [x.n])).length by first | omega | (simp; omega))
                obtain ⟨b2, o2, hA, hb2, hcm⟩ := ReadL.int (OwnL.read encI_len M5.out.had) hm
                subst hA
                obtain ⟨s1, s2, s3, _⟩ := M5.out.store Hxj.out ((p : Int) + 1)
                have Hm := Lib.hid hm
                have hi1 : i < ha.length + 1 := by omega
                clear hm
                by_cases hip2 : i = p
                · have hmx : m = x.n := by
                    have h1 := hpg.out
                    rw [← hip2, Hm.out] at h1
                    injection h1
                  subst hmx hip2
                  go_wp2_with fail
                  go_quiet (fail)
                  go_wp2_with fail
                  go_roundw
                  case rel => exact ⟨j + 1, some ⟨b2, o2, none⟩, ch2, (ha ++ [x.n]), by simp, by go_num, hpj, by first | omega | (simp; omega), Lib.hid ⟨by rw [seenL_step Hx.out, hse.out], by rw [canTo_step Hx.out, hnd.out]; exact ((M5.out.drewN _).store Hxj.out _).2.2.2⟩⟩
                  case measure => simp [intOf]; omega
                · have hne : (m == x.n) = false := by
                    have := hpn.out i m (by omega) Hm.out
                    simpa using this
                  go_wp2_with fail
                  go_quiet (fail)
                  go_wp2_with fail
                  go_roundw
                  case rel => exact ⟨i + 1, by go_num, by omega, Lib.hid (M5.out.drewN _)⟩
                  case measure => simp [intOf]; omega
            · have Hm := Lib.hid (of_decide_eq_true hm)
              have M4 := Lib.hid M.out.2
              clear hm
              have hse : Hid (seen (seenL had (xs.take j)) x = ha) := Lib.hid (by rw [← Hhad2.out]; unfold seen; rw [if_neg (by simp [Hm.out])])
              have hmn : Hid (x.n ∈ ha) := Lib.hid (by rw [← hse.out]; exact mem_seen H8.out)
              have hpl : posI x.n ha < ha.length := by have := posI_lt hmn.out; simpa using this
              have hpg := Lib.hid (posI_get hmn.out)
              have hpn := Lib.hid (fun (i : Nat) (m : Int) (h : i < posI x.n ha) (hm : (ha)[i]? = some m) => posI_ne h hm)
              have hnd : Hid (canNd (seenL had (xs.take j)) x = ⟨x.k, x.s, ((posI x.n ha : Nat) : Int) + 1⟩) := Lib.hid (by rw [canNd_var H8.out, hse.out]; rfl)
              generalize hpp : posI x.n ha = p at *
              clear hpp
              go_wp2_with fail
              go_loopw [8] (fun s8 wz => ∃ i : Nat, s8 = .int .i64 i ∧ i ≤ p ∧ Hid (RowH w H ch ha V cv vs (canT [] (xss.take k)) (some ⟨g, 0, none⟩) cap2 (canTo had xs j) wz)) (fun s8 _ => p - (intOf s8).toNat)
              case atStart => exact ⟨0, rfl, Nat.zero_le _, M4⟩
              case round =>
                clear M4
                obtain ⟨i, rfl, hip, M5⟩ := hrel
                obtain ⟨m, hm⟩ := getq_ex (show i < (ha).length by first | omega | (simp; omega))
                obtain ⟨b2, o2, hA, hb2, hcm⟩ := ReadL.int (OwnL.read encI_len M5.out.had) hm
                subst hA
                obtain ⟨s1, s2, s3, _⟩ := M5.out.store Hxj.out ((p : Int) + 1)
                have Hm := Lib.hid hm
                have hi1 : i < ha.length := by omega
                clear hm
                by_cases hip2 : i = p
                · have hmx : m = x.n := by
                    have h1 := hpg.out
                    rw [← hip2, Hm.out] at h1
                    injection h1
                  subst hmx hip2
                  go_wp2_with fail
                  go_quiet (fail)
                  go_wp2_with fail
                  go_roundw
                  case rel => exact ⟨j + 1, some ⟨b2, o2, none⟩, ch, ha, by rfl, by go_num, hpj, by first | omega | (simp; omega), Lib.hid ⟨by rw [seenL_step Hx.out, hse.out], by rw [canTo_step Hx.out, hnd.out]; exact ((M5.out.drewN _).store Hxj.out _).2.2.2⟩⟩
                  case measure => simp [intOf]; omega
                · have hne : (m == x.n) = false := by
                    have := hpn.out i m (by omega) Hm.out
                    simpa using this
                  go_wp2_with fail
                  go_quiet (fail)
                  go_wp2_with fail
                  go_roundw
                  case rel => exact ⟨i + 1, by go_num, by omega, Lib.hid (M5.out.drewN _)⟩
                  case measure => simp [intOf]; omega
        · have hjj : j = xs.length := by omega
          have hend := canTo_end had xs
          have e1 : xs.take j = xs := by rw [hjj, List.take_length]
          rw [e1, hjj, hend] at M
          have M2 := Lib.hid M.out.2
          have Hh := Lib.hid M.out.1
          have hcl2 := Lib.hid (canL_len had xs)
          have hvk2 := hvk.out
          have hvl : vs.length ≤ 100 := by omega
          clear M e1 hend hjj hvk2
          go_wp2_with (at_builtin; refine wpList_appS rfl (.tmp 73) (.tmp 75) rfl w.heap.size (l := vs) rfl (OwnL.alloc M2.out.m.row _) (l2 := [(some ⟨g, 0, none⟩, xs.length, cap2)]) rfl (readS_new _ (some ⟨g, 0, none⟩, xs.length, cap2)) (by simp; omega) (by have := M2.out.m.bel.size; simp; omega) ?_; intro V2 cv2 w8 hown8 hg8 hA8; have M3 := Lib.hid ((M2.out.alloc _).app (by rw [hcl2.out]; exact hown8) hg8 hA8); clear hown8 hg8 hA8)
          go_roundw
          case rel => exact ⟨k + 1, H, ch, ha, V2, cv2, vs ++ [(some ⟨g, 0, none⟩, xs.length, cap2)], rfl, by simp, by go_num, hp, Lib.hid (by simp [hvk.out]), Lib.hid ⟨by rw [Hst.out.1, Hh.out, ← Hhad.out], by rw [Hst.out.2, ← Hhad.out]; have h := M3.out; rw [hcl2.out] at h; exact h⟩⟩
          case measure => simp [intOf]; omega
    · have hkk : k = vs0.length := by omega
      have e1 : xss.take k = xss := by rw [hkk, HS.out.1, List.take_length]
      rw [e1] at M
      have M' := Lib.hid M.out.2
      clear M e1
      go_wp2_with fail
      go_ret
      exact ⟨V, cv, vs, rfl, M'.out.m.row, M'.out.m.sls, M'.out.m.bel⟩
end Go.Proofs.YtblfeokjlecgkaaGreat
