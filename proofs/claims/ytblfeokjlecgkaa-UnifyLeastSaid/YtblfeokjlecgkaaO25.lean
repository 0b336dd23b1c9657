/- Laid together by a tool from the texts of this seat: RCanon RKids UTell. Conditions: each theorem's own. -/
import Derived.Test.YtblfeokjlecgkaaO10
import Derived.Test.YtblfeokjlecgkaaO24
import Derived.Deep.RegionHeld3
import Derived.Deep.DrawnRows
import Derived.Test.YtblfeokjlecgkaaO14
/- The document's Canon, walked: a row of the numbers that were seen, a row of types, each copied and numbered anew. -/
namespace Go.Proofs.Ytblfeokjlecgkaa
open Go.RowKit

section
variable {w0 w w' : World} {V : Option Addr} {cv : Nat} {vs : List (Option Addr × Nat × Nat)} {outs : List (List Nd)} {U : Option Addr} {uc : Nat} {us : List Nd}

/-- A write into another block. -/
theorem RowM.keptOff {H : Option Addr} {m c : Nat} (h : RowM w0 V cv vs outs U uc us w) (hg : w.grownBy w' ((Value.slice H m c).ownBlock)) (hlo : ∀ a, H = some a → w0.heap.size ≤ a.block) (hv : Off H V) (hu : Off H U) (hs : ∀ v ∈ vs, Off v.1 H) : RowM w0 V cv vs outs U uc us w' := by
  have hk : ∀ k, (Value.slice H m c).ownBlock = some k → ∃ a, H = some a ∧ a.block = k := fun k hk => ownBlock_of hk
  refine ⟨kept_off h.row hg hv, h.sls.keptBy hg (fun k hk2 v hv2 a ha e => ?_), kept_off h.cur hg hu, h.bel.grown hg h.bel.size (fun k hk2 => ?_), h.uv, h.su, h.sv, fun v hv2 a ha => Nat.lt_of_lt_of_le (h.lt v hv2 a ha) hg.size⟩
  · obtain ⟨b, hb, hbe⟩ := hk k hk2
    exact hs v hv2 a b ha hb (by rw [e, hbe])
  · obtain ⟨b, hb, hbe⟩ := hk k hk2
    rw [← hbe]
    exact hlo b hb
end

/-- What the document's Canon holds. -/
structure RowH (w0 : World) (H : Option Addr) (ch : Nat) (had : List Int) (V : Option Addr) (cv : Nat) (vs : List (Option Addr × Nat × Nat)) (outs : List (List Nd)) (U : Option Addr) (uc : Nat) (us : List Nd) (w : World) : Prop where
  m : RowM w0 V cv vs outs U uc us w
  had : OwnI w w0.heap.size H ch had
  hv : Off H V
  hu : Off H U
  hs : ∀ v ∈ vs, Off v.1 H

section
variable {w0 w w' : World} {H : Option Addr} {ch : Nat} {had : List Int} {V : Option Addr} {cv : Nat} {vs : List (Option Addr × Nat × Nat)} {outs : List (List Nd)} {U : Option Addr} {uc : Nat} {us : List Nd}

theorem RowH.step (h : RowH w0 H ch had V cv vs outs U uc us w) (hb : Below w.heap.size w w') : RowH w0 H ch had V cv vs outs U uc us w' :=
  ⟨h.m.step hb, h.had.below hb (Nat.le_refl _), h.hv, h.hu, h.hs⟩
theorem RowH.alloc (h : RowH w0 H ch had V cv vs outs U uc us w) (o : Obj) : RowH w0 H ch had V cv vs outs U uc us (w.alloc o) := h.step (ext_alloc (Below.refl _ _) o)
theorem RowH.drewN (h : RowH w0 H ch had V cv vs outs U uc us w) (n : Nat) : RowH w0 H ch had V cv vs outs U uc us (w.drewN n) := h.step (ext_drewN (Below.refl _ _) n)

theorem RowH.store {g : Nat} (h : RowH w0 H ch had V cv vs outs (some ⟨g, 0, none⟩) uc us w) {j : Nat} {x : Nd} (hx : us[j]? = some x) (v : Int) :
    g < w.heap.size ∧ w.cell? ⟨g, j * 3 + 2, none⟩ = some (.int .i64 x.n) ∧ w.frozen? ⟨g, j * 3 + 2, none⟩ = false ∧
      RowH w0 H ch had V cv vs outs (some ⟨g, 0, none⟩) uc (us.set j ⟨x.k, x.s, v⟩) (w.setCell ⟨g, j * 3 + 2, none⟩ (.int .i64 v)) := by
  obtain ⟨h1, h2, h3, h4⟩ := h.m.store hx v
  obtain ⟨g2, e, _, _, _, _, _, hgr⟩ := OwnL.setM h.m.cur hx v
  injection e with e
  injection e with e _ _
  subst e
  exact ⟨h1, h2, h3, h4, OwnL.kept h.had hgr (fun k hk a ha e => by cases hk; exact h.hu a _ ha rfl e), h.hv, h.hu, h.hs⟩

theorem RowH.fresh {U2 : Option Addr} {uc2 : Nat} {us2 : List Nd} (h : RowH w0 H ch had V cv vs outs U uc us w) (hown : OwnN w' w.heap.size U2 uc2 us2) (hb : Below w.heap.size w w') : RowH w0 H ch had V cv vs outs U2 uc2 us2 w' :=
  ⟨h.m.fresh hown hb, h.had.below hb (Nat.le_refl _), h.hv, fun a b ha hb2 e => by have := (OwnL.lt h.had a ha).2; have := (OwnL.lt hown b hb2).1; omega, h.hs⟩

theorem RowH.app {V2 : Option Addr} {cv2 : Nat} (h : RowH w0 H ch had V cv vs outs U uc us w) (hown : OwnS w' w0.heap.size V2 cv2 (vs ++ [(U, us.length, uc)])) (hg : w.grownBy w' ((Value.slice V vs.length cv).ownBlock))
    (hA : (Value.slice V2 (vs.length + 1) cv2).ownBlock = (Value.slice V vs.length cv).ownBlock ∨ (Value.slice V2 (vs.length + 1) cv2).ownBlock = some w.heap.size) : RowH w0 H ch had V2 cv2 (vs ++ [(U, us.length, uc)]) (outs ++ [us]) none 0 [] w' := by
  refine ⟨h.m.app hown hg hA, kept_off h.had hg h.hv.symm, (h.hv.symm.app hA (fun x hx => (OwnL.lt h.had x hx).2)).symm, (fun a b _ hb => by cases hb), fun v hv => ?_⟩
  rcases List.mem_append.1 hv with hv | hv
  · exact h.hs v hv
  · simp at hv
    subst hv
    exact h.hu.symm

/-- A number more was seen. -/
theorem RowH.see {H2 : Option Addr} {ch2 : Nat} {had2 : List Int} {m m2 : Nat} (h : RowH w0 H ch had V cv vs outs U uc us w) (hown : OwnI w' w0.heap.size H2 ch2 had2) (hg : w.grownBy w' ((Value.slice H m ch).ownBlock))
    (hA : (Value.slice H2 m2 ch2).ownBlock = (Value.slice H m ch).ownBlock ∨ (Value.slice H2 m2 ch2).ownBlock = some w.heap.size) : RowH w0 H2 ch2 had2 V cv vs outs U uc us w' := by
  refine ⟨h.m.keptOff hg (fun a ha => (OwnL.lt h.had a ha).1) h.hv h.hu h.hs, hown, h.hv.app hA (fun x hx => (OwnL.lt h.m.row x hx).2), h.hu.app hA (fun x hx => (OwnL.lt h.m.cur x hx).2), fun v hv => ((h.hs v hv).symm.app hA (fun x hx => h.m.lt v hv x hx)).symm⟩
end

theorem posI_ne {n : Int} : ∀ {l : List Int} {j : Nat} {m : Int}, j < posI n l → l[j]? = some m → m ≠ n
  | [], j, m, h, _ => by simp [posI] at h
  | y :: l, j, m, h, hm => by
    unfold posI at h
    split at h
    · omega
    · next hne =>
      cases j with
      | zero => simp at hm; subst hm; exact hne
      | succ j =>
        rw [List.getElem?_cons_succ] at hm
        exact posI_ne (by omega) hm

theorem mem_seen {had : List Int} {x : Nd} (h : isVarB x.k = true) : x.n ∈ seen had x := by
  unfold seen
  by_cases hm : x.n ∈ had
  · rw [if_neg (by simp [hm])]; exact hm
  · rw [if_pos ⟨h, hm⟩]; simp

set_option maxRecDepth 100000 in
set_option maxHeartbeats 8000000 in
theorem rCanon_any (V0 : Option Addr) (c0 : Nat) (vs0 : List (Option Addr × Nat × Nat)) (xss : List (List Nd)) (w : World) (hr : ReadS w w.heap.size V0 vs0) (hS : Sls w w.heap.size vs0 xss) (hne : ∀ xs ∈ xss, xs ≠ [])
    (hl : vs0.length ≤ 100) (h6 : ∀ xs ∈ xss, xs.length ≤ 50000) :
    Calls Try.prog 55 #[.slice V0 vs0.length c0] w (CanPost (canT [] xss) w) := by
  have Hr := Lib.hid hr
  have HS := Lib.hid hS
  have Hne := Lib.hid hne
  have H6 := Lib.hid h6
  clear hr hS hne h6
  go_enter Try.func55, Try.ntmps55
  go_wp2_with fail
  go_loopw [3, 4, 5] (fun s3 s4 s5 wr => ∃ (k : Nat) (H : Option Addr) (ch : Nat) (had : List Int) (V : Option Addr) (cv : Nat) (vs : List (Option Addr × Nat × Nat)), s3 = .slice H had.length ch ∧ s4 = .slice V vs.length cv ∧ s5 = .int .i64 k ∧ k ≤ vs0.length ∧ Hid (vs.length = k) ∧
      Hid (had = seenT [] (xss.take k) ∧ RowH w H ch had V cv vs (canT [] (xss.take k)) none 0 [] wr)) (fun _ _ s5 _ => vs0.length - (intOf s5).toNat)
  case atStart => exact ⟨0, some ⟨w.heap.size, 0, none⟩, 0, [], some ⟨w.heap.size + 1, 0, none⟩, 0, [], rfl, rfl, rfl, Nat.zero_le _, Lib.hid rfl, Lib.hid ⟨rfl, RowM.start w _ 0 (by
      have h := own_empty 34 1 encS (w.alloc (.cells #[] 3))
      rw [World.size_alloc] at h
      exact OwnL.lower h (by omega)) (ext_alloc (ext_alloc (Below.refl _ _) _) _), OwnL.alloc (own_empty 3 1 encI w) _, fun a b ha hb e => (by cases ha; cases hb; simp at e), (fun a b _ hb => by cases hb), (fun v hv => by cases hv)⟩⟩
  case round =>
    obtain ⟨k, H, ch, had, V, cv, vs, rfl, rfl, rfl, hk, hvk, M⟩ := hrel
    by_cases hp : k < vs0.length
    · obtain ⟨v, hv⟩ := getq_ex hp
      obtain ⟨xs, hxs⟩ := getq_ex (show k < xss.length by rw [← HS.out.1]; exact hp)
      have hmem := List.mem_of_getElem? hxs
      obtain ⟨b, o, rfl, hb, hc⟩ := ReadL.slice (ReadL.more (ReadL.below Hr.out M.out.2.m.bel) M.out.2.m.bel.size) hv
      obtain ⟨hvl, hT⟩ := HS.out.2 k v xs hv hxs
      rw [hvl] at hc
      have hxl := H6.out xs hmem
      have Hst := Lib.hid (seenT_step hxs)
      obtain ⟨x0, hx0⟩ := getq_ex (show 0 < xs.length by have := Hne.out xs hmem; cases xs with | nil => exact absurd rfl this | cons => simp)
      have hh5 : had.length ≤ 5000000 := by
        have := seenT_le (m := 50000) [] (xss.take k) fun ys hy => H6.out ys (List.mem_of_mem_take hy)
        rw [List.length_take] at this
        rw [M.out.1]
        simp at this
        omega
      have Hh5 := Lib.hid hh5
      have Hx0 := Lib.hid hx0
      have HT := Lib.hid (hT.below M.out.2.m.bel)
      have hown0 := Lib.hid (own_empty 48 3 encN wr)
      have hb0 := Lib.hid (ext_alloc (Below.refl wr.heap.size wr) (.cells #[] 48))
      have hWl := M.out.2.m.bel.size
      clear hv hxs hmem hT hvl hx0 hh5
      go_wp2_with (at_builtin; refine wpList_appN rfl (.tmp 17) (.tmp 21) rfl wr.heap.size (l := []) rfl hown0.out (l2 := xs) rfl (HT.out.below (hb0.out.mono hWl)) (by simp; omega) (by simp) ?_; intro A2 cap2 w3 hown3 hg3 _)
      rw [List.nil_append] at hown3
      have hb3 := ext_app hb0.out hg3 (fun q hq => (OwnL.block hown0.out q hq).1)
      obtain ⟨g, rfl, _, _, _, _, _, _⟩ := OwnL.setM hown3 Hx0.out 0
      have M1 := Lib.hid (M.out.2.fresh hown3 hb3)
      have Hhad := Lib.hid M.out.1
      clear hown3 hg3 hb3 hown0 hb0 M hb hc
      go_loopw [3, 7] (fun s3 s7 wi => ∃ (j : Nat) (H : Option Addr) (ch : Nat) (ha : List Int), s3 = .slice H ha.length ch ∧ s7 = .int .i64 j ∧ j ≤ xs.length ∧ ha.length ≤ 5000000 + j ∧ Hid (ha = seenL had (xs.take j) ∧ RowH w H ch ha V cv vs (canT [] (xss.take k)) (some ⟨g, 0, none⟩) cap2 (canTo had xs j) wi))
        (fun _ s7 _ => xs.length - (intOf s7).toNat)
      case atStart => exact ⟨0, H, ch, had, rfl, rfl, Nat.zero_le _, Hh5.out, Lib.hid ⟨rfl, by rw [canTo_zero]; exact M1.out⟩⟩
      case round =>
        clear M1
        obtain ⟨j, H, ch, ha, rfl, rfl, hj, hhj, M⟩ := hrel
        by_cases hpj : j < xs.length
        · obtain ⟨x, hx⟩ := getq_ex hpj
          have hxj := canTo_at (had := had) hx
          have Hx := Lib.hid hx
          have Hxj := Lib.hid hxj
          have HC := Lib.hid (fun v (h : RowH w H ch ha V cv vs (canT [] (xss.take k)) (some ⟨g, 0, none⟩) cap2 (canTo had xs j) v) => (OwnL.tyA h.m.cur).at_ hxj)
          obtain ⟨b1, o1, hA, hb1, c10, c11, c12⟩ := HC.out _ M.out.2
          injection hA with hA
          injection hA with e1 e2 _
          subst e1 e2
          rw [Nat.zero_add] at c10 c11 c12
          have hcl := Lib.hid (canTo_len had xs j)
          clear hx hxj
          go_wp2_with fail
          refine (rIsVar_any _ _ _ _).mono ?_
          rintro e w2 ⟨rfl, hb2⟩
          replace M := Lib.hid (⟨M.out.1, M.out.2.step hb2⟩ : ha = seenL had (xs.take j) ∧ RowH w H ch ha V cv vs (canT [] (xss.take k)) (some ⟨g, 0, none⟩) cap2 (canTo had xs j) w2)
          obtain ⟨b1, o1, hA, hb1, d10, d11, d12⟩ := HC.out _ M.out.2
          injection hA with hA
          injection hA with e1 e2 _
          subst e1 e2
          rw [Nat.zero_add] at d10 d11 d12
          clear hb2
          cases h8 : isVarB x.k
          · have H8 := Lib.hid h8
            go_wp2_with fail
            go_roundw
            case rel => exact ⟨j + 1, H, ch, ha, rfl, by go_num, hpj, by omega, Lib.hid ⟨by rw [seenL_step Hx.out, (can_no H8.out).2]; exact M.out.1, by rw [canTo_step Hx.out, (can_no H8.out).1, set_self Hxj.out]; exact M.out.2⟩⟩
            case measure => simp [intOf]; omega
          · have H8 := Lib.hid h8
            have hIn := Lib.hid (in_any H ch w2.heap.size ha x.n w2 (OwnL.read encI_len M.out.2.had) (by omega))
            have Hhad2 := Lib.hid M.out.1
            clear h8
            go_wp2_with fail
            refine hIn.out.mono ?_
            rintro e w3 ⟨rfl, rfl⟩
            clear hIn
            cases hm : decide (x.n ∈ ha)
            · have Hm := Lib.hid (of_decide_eq_false hm)
              clear hm
              go_wp2_with (at_builtin; refine wpList_appI rfl (.tmp 43) (.tmp 49) rfl w.heap.size (l := ha) rfl (OwnL.alloc M.out.2.had _) (l2 := [x.n]) rfl (readI_new _ x.n) (by simp; omega) (by have := M.out.2.m.bel.size; simp; omega) ?_; intro H2 ch2 w4 hown4 hg4 hA4; have M4 := Lib.hid ((M.out.2.alloc _).see hown4 hg4 hA4); clear hown4 hg4 hA4)
              have hse : Hid (seen (seenL had (xs.take j)) x = (ha ++ [x.n])) := Lib.hid (by rw [← Hhad2.out]; unfold seen; rw [if_pos ⟨H8.out, Hm.out⟩])
              have hmn : Hid (x.n ∈ (ha ++ [x.n])) := Lib.hid (by rw [← hse.out]; exact mem_seen H8.out)
              have hpl : posI x.n (ha ++ [x.n]) < ha.length + 1 := by have := posI_lt hmn.out; simpa using this
              have hpg := Lib.hid (posI_get hmn.out)
              have hpn := Lib.hid (fun (i : Nat) (m : Int) (h : i < posI x.n (ha ++ [x.n])) (hm : ((ha ++ [x.n]))[i]? = some m) => posI_ne h hm)
              have hnd : Hid (canNd (seenL had (xs.take j)) x = ⟨x.k, x.s, ((posI x.n (ha ++ [x.n]) : Nat) : Int) + 1⟩) := Lib.hid (by rw [canNd_var H8.out, hse.out]; rfl)
              generalize hpp : posI x.n (ha ++ [x.n]) = p at *
              clear hpp
              go_wp2_with fail
              go_loopw [8] (fun s8 wz => ∃ i : Nat, s8 = .int .i64 i ∧ i ≤ p ∧ Hid (RowH w H2 ch2 (ha ++ [x.n]) V cv vs (canT [] (xss.take k)) (some ⟨g, 0, none⟩) cap2 (canTo had xs j) wz)) (fun s8 _ => p - (intOf s8).toNat)
              case atStart => exact ⟨0, rfl, Nat.zero_le _, M4⟩
              case round =>
                clear M4
                obtain ⟨i, rfl, hip, M5⟩ := hrel
                obtain ⟨m, hm⟩ := getq_ex (show i < ((ha ++ [x.n])).length by first | omega | (simp; omega))
                obtain ⟨b2, o2, hA, hb2, hcm⟩ := ReadL.int (OwnL.read encI_len M5.out.had) hm
                subst hA
                obtain ⟨s1, s2, s3, _⟩ := M5.out.store Hxj.out ((p : Int) + 1)
                have Hm := Lib.hid hm
                have hi1 : i < ha.length + 1 := by omega
                clear hm
                by_cases hip2 : i = p
                · have hmx : m = x.n := by
                    have h1 := hpg.out
                    rw [← hip2, Hm.out] at h1
                    injection h1
                  subst hmx hip2
                  go_wp2_with fail
                  go_quiet (fail)
                  go_wp2_with fail
                  go_roundw
                  case rel => exact ⟨j + 1, some ⟨b2, o2, none⟩, ch2, (ha ++ [x.n]), by simp, by go_num, hpj, by first | omega | (simp; omega), Lib.hid ⟨by rw [seenL_step Hx.out, hse.out], by rw [canTo_step Hx.out, hnd.out]; exact ((M5.out.drewN _).store Hxj.out _).2.2.2⟩⟩
                  case measure => simp [intOf]; omega
                · have hne : (m == x.n) = false := by
                    have := hpn.out i m (by omega) Hm.out
                    simpa using this
                  go_wp2_with fail
                  go_quiet (fail)
                  go_wp2_with fail
                  go_roundw
                  case rel => exact ⟨i + 1, by go_num, by omega, Lib.hid (M5.out.drewN _)⟩
                  case measure => simp [intOf]; omega
            · have Hm := Lib.hid (of_decide_eq_true hm)
              have M4 := Lib.hid M.out.2
              clear hm
              have hse : Hid (seen (seenL had (xs.take j)) x = ha) := Lib.hid (by rw [← Hhad2.out]; unfold seen; rw [if_neg (by simp [Hm.out])])
              have hmn : Hid (x.n ∈ ha) := Lib.hid (by rw [← hse.out]; exact mem_seen H8.out)
              have hpl : posI x.n ha < ha.length := by have := posI_lt hmn.out; simpa using this
              have hpg := Lib.hid (posI_get hmn.out)
              have hpn := Lib.hid (fun (i : Nat) (m : Int) (h : i < posI x.n ha) (hm : (ha)[i]? = some m) => posI_ne h hm)
              have hnd : Hid (canNd (seenL had (xs.take j)) x = ⟨x.k, x.s, ((posI x.n ha : Nat) : Int) + 1⟩) := Lib.hid (by rw [canNd_var H8.out, hse.out]; rfl)
              generalize hpp : posI x.n ha = p at *
              clear hpp
              go_wp2_with fail
              go_loopw [8] (fun s8 wz => ∃ i : Nat, s8 = .int .i64 i ∧ i ≤ p ∧ Hid (RowH w H ch ha V cv vs (canT [] (xss.take k)) (some ⟨g, 0, none⟩) cap2 (canTo had xs j) wz)) (fun s8 _ => p - (intOf s8).toNat)
              case atStart => exact ⟨0, rfl, Nat.zero_le _, M4⟩
              case round =>
                clear M4
                obtain ⟨i, rfl, hip, M5⟩ := hrel
                obtain ⟨m, hm⟩ := getq_ex (show i < (ha).length by first | omega | (simp; omega))
                obtain ⟨b2, o2, hA, hb2, hcm⟩ := ReadL.int (OwnL.read encI_len M5.out.had) hm
                subst hA
                obtain ⟨s1, s2, s3, _⟩ := M5.out.store Hxj.out ((p : Int) + 1)
                have Hm := Lib.hid hm
                have hi1 : i < ha.length := by omega
                clear hm
                by_cases hip2 : i = p
                · have hmx : m = x.n := by
                    have h1 := hpg.out
                    rw [← hip2, Hm.out] at h1
                    injection h1
                  subst hmx hip2
                  go_wp2_with fail
                  go_quiet (fail)
                  go_wp2_with fail
                  go_roundw
                  case rel => exact ⟨j + 1, some ⟨b2, o2, none⟩, ch, ha, by rfl, by go_num, hpj, by first | omega | (simp; omega), Lib.hid ⟨by rw [seenL_step Hx.out, hse.out], by rw [canTo_step Hx.out, hnd.out]; exact ((M5.out.drewN _).store Hxj.out _).2.2.2⟩⟩
                  case measure => simp [intOf]; omega
                · have hne : (m == x.n) = false := by
                    have := hpn.out i m (by omega) Hm.out
                    simpa using this
                  go_wp2_with fail
                  go_quiet (fail)
                  go_wp2_with fail
                  go_roundw
                  case rel => exact ⟨i + 1, by go_num, by omega, Lib.hid (M5.out.drewN _)⟩
                  case measure => simp [intOf]; omega
        · have hjj : j = xs.length := by omega
          have hend := canTo_end had xs
          have e1 : xs.take j = xs := by rw [hjj, List.take_length]
          rw [e1, hjj, hend] at M
          have M2 := Lib.hid M.out.2
          have Hh := Lib.hid M.out.1
          have hcl2 := Lib.hid (canL_len had xs)
          have hvk2 := hvk.out
          have hvl : vs.length ≤ 100 := by omega
          clear M e1 hend hjj hvk2
          go_wp2_with (at_builtin; refine wpList_appS rfl (.tmp 73) (.tmp 75) rfl w.heap.size (l := vs) rfl (OwnL.alloc M2.out.m.row _) (l2 := [(some ⟨g, 0, none⟩, xs.length, cap2)]) rfl (readS_new _ (some ⟨g, 0, none⟩, xs.length, cap2)) (by simp; omega) (by have := M2.out.m.bel.size; simp; omega) ?_; intro V2 cv2 w8 hown8 hg8 hA8; have M3 := Lib.hid ((M2.out.alloc _).app (by rw [hcl2.out]; exact hown8) hg8 hA8); clear hown8 hg8 hA8)
          go_roundw
          case rel => exact ⟨k + 1, H, ch, ha, V2, cv2, vs ++ [(some ⟨g, 0, none⟩, xs.length, cap2)], rfl, by simp, by go_num, hp, Lib.hid (by simp [hvk.out]), Lib.hid ⟨by rw [Hst.out.1, Hh.out, ← Hhad.out], by rw [Hst.out.2, ← Hhad.out]; have h := M3.out; rw [hcl2.out] at h; exact h⟩⟩
          case measure => simp [intOf]; omega
    · have hkk : k = vs0.length := by omega
      have e1 : xss.take k = xss := by rw [hkk, HS.out.1, List.take_length]
      rw [e1] at M
      have M' := Lib.hid M.out.2
      clear M e1
      go_wp2_with fail
      go_ret
      exact ⟨V, cv, vs, rfl, M'.out.m.row, M'.out.m.sls, M'.out.m.bel⟩
end Go.Proofs.Ytblfeokjlecgkaa

/- The document's kids of a type (layer 12), walked: copies of the children, the tail apart. -/
namespace Go.Proofs.Ytblfeokjlecgkaa
open Go.RowKit

attribute [local go_sem ↓] Go.wp_at_zero Go.wp_at_succ

/-- An append in a region that draws its order. -/
theorem step_appN {w : World} {ops : Array Oper} {o : Oper} {a : Act} {K : Act → World → Prop} {Q : Exit → Act → World → Prop} {E : Prop} (hgd : o.guard = none) (s x : Operand)
    (ho : o.op = .call { callee := .builtin .append, args := #[s, x], argTypes := #[34, 34] })
    (base : Nat) {A : Option Addr} {cap : Nat} {l : List Nd} (hs : a.eval s = .slice A l.length cap) (hown : OwnN w base A cap l) {B : Nat} {A2 : Option Addr} {c : Nat} {l2 : List Nd} (hx : a.eval x = .slice A2 l2.length c) (hr : TyA w B A2 l2)
    (hlen : l.length + l2.length ≤ 1000000000000) (hbase : base ≤ w.heap.size)
    (h : ∀ A' cap' w', OwnN w' base A' cap' (l ++ l2) → w.grownBy w' ((Value.slice A l.length cap).ownBlock) →
      ((Value.slice A' (l.length + l2.length) cap').ownBlock = (Value.slice A l.length cap).ownBlock ∨ (Value.slice A' (l.length + l2.length) cap').ownBlock = some w.heap.size) → K (a.put o.dst (.slice A' (l.length + l2.length) cap')) w') : if Region.wanted o (yielded ops a.tmps) = true then Oper.wp Try.prog o a w K Q else E := by
  obtain ⟨i0, hi, hz0, hz1, hz2⟩ := info_parts infoN
  have hw : Region.wanted o (yielded ops a.tmps) = true := by simp [Region.wanted, hgd]
  rw [if_pos hw]
  exact wp_app w encN_len encN_one s x 34 ho base 48 i0 _ 32 Try.underlying34 hi hz0 hz1 hz2 rfl (by decide) hs hown hx hr.readL (by unfold maxLen; omega) (by omega) hbase h

end Go.Proofs.Ytblfeokjlecgkaa

/- unify.tell, walked: what is known is laid out. -/
namespace Go.Proofs.Ytblfeokjlecgkaa
open Go.RowKit

attribute [local go_sem ↓] Go.wp_at_zero Go.wp_at_succ

/-- A slice's own block. -/
def Blk (A : Option Addr) : Nat → Prop := fun k => ∃ a, A = some a ∧ a.block = k
/-- A slice that grew: only its own block was written. -/
structure Gr (A : Option Addr) (w : World) (A' : Option Addr) (w' : World) : Prop where
  fr : Fr (Blk A) w w'
  gro : ∀ a', A' = some a' → Blk A a'.block ∨ w.heap.size ≤ a'.block
section
variable {A A1 A2 A' : Option Addr} {w w1 w2 w' : World}
theorem Gr.refl (A : Option Addr) (w : World) : Gr A w A w := ⟨Fr.refl _ _, fun a h => .inl ⟨a, h, rfl⟩⟩
theorem Gr.trans (h : Gr A w A1 w1) (k : Gr A1 w1 A2 w2) : Gr A w A2 w2 :=
  ⟨h.fr.new k.fr fun b ⟨a, ha, hb⟩ => by rw [← hb]; exact h.gro a ha, fun a ha => by
    rcases k.gro a ha with ⟨a1, h1, h2⟩ | h3
    · rw [← h2]; exact h.gro a1 h1
    · exact .inr (Nat.le_trans h.fr.size h3)⟩
theorem Gr.bel (h : Below w.heap.size w w') : Gr A w A w' := ⟨Fr.below h, fun a h => .inl ⟨a, h, rfl⟩⟩
theorem Gr.app {n c n' c' : Nat} (hg : w.grownBy w' ((Value.slice A n c).ownBlock)) (hA : (Value.slice A' n' c').ownBlock = (Value.slice A n c).ownBlock ∨ (Value.slice A' n' c').ownBlock = some w.heap.size) : Gr A w A' w' :=
  ⟨Fr.grown hg fun k hk => ownBlock_of hk, fun a ha => by
    subst ha
    rcases hA with e | e
    · obtain ⟨a2, h2, h3⟩ := ownBlock_of e.symm
      exact .inl ⟨a2, h2, h3⟩
    · rw [own_block_some] at e
      injection e with e
      exact .inr (by omega)⟩
end
/-- What may be written while a type is laid out. -/
def TX (base s m : Nat) : Nat → Prop := fun k => SX s m k ∨ base ≤ k
/-- What stands while a slice of one's own grows. -/
structure TellW (U : List Lb) (S : Kn) (s m : Nat) (first : Int) (base : Nat) (A : Option Addr) (c : Nat) (out : List Nd) (w : World) : Prop where
  sb : s < base ∧ m < base
  bw : base ≤ w.heap.size
  sol : SolAt (TX base s m) s m first w S
  own : OwnN w base A c out
section
variable {U : List Lb} {S : Kn} {s m : Nat} {first : Int} {base : Nat} {A A' : Option Addr} {c c' : Nat} {out out' : List Nd} {w w' : World}
theorem TellW.blk (h : TellW U S s m first base A c out w) : ∀ k, Blk A k → base ≤ k := fun k ⟨a, ha, hk⟩ => by rw [← hk]; exact (OwnL.lt h.own a ha).1
theorem TellW.next (h : TellW U S s m first base A c out w) (g : Gr A w A' w') (ho : OwnN w' base A' c' out') : TellW U S s m first base A' c' out' w' :=
  ⟨h.sb, Nat.le_trans h.bw g.fr.size, h.sol.fr g.fr fun k _ hk => ⟨.inr (h.blk k hk), by have := h.blk k hk; have := h.sb; omega, by have := h.blk k hk; have := h.sb; omega⟩, ho⟩
theorem TellW.node (h : TellW U S s m first base A c out w) (g : Gr A w A' w') {b : Nat} {t : Ut} (hn : NodeAt (TX base s m) w b t) : NodeAt (TX base s m) w' b t := hn.fr g.fr fun k _ hk => .inr (h.blk k hk)
theorem TellW.tail (h : TellW U S s m first base A c out w) (g : Gr A w A' w') {v : Value} {p : Option Int} (hn : TailAt (TX base s m) w v p) : TailAt (TX base s m) w' v p := hn.fr g.fr fun k _ hk => .inr (h.blk k hk)
theorem TellW.bel (h : TellW U S s m first base A c out w) (hb : Below w.heap.size w w') : TellW U S s m first base A c out w' := h.next (Gr.bel hb) (h.own.below hb (Nat.le_refl _))
end
/-- What 'tell' answers: a tree's nodes behind those that were there. -/
def TellPost (base : Nat) (A : Option Addr) (out : List Nd) (l : Lb) (T : Ut) (w : World) (e : Ending) (w' : World) : Prop :=
  ∃ A' c', e = .returned (.slice A' (out ++ flT l T).length c') ∧ OwnN w' base A' c' (out ++ flT l T) ∧ Gr A w A' w'
def TellAt (U : List Lb) (S : Kn) (s m : Nat) (first : Int) (base : Nat) (t : Ut) : Prop :=
  ∀ (b : Nat) (w : World) (A : Option Addr) (c : Nat) (out : List Nd) (l : Lb), TellW U S s m first base A c out w → NodeAt (TX base s m) w b t → TG U S t → out.length + (flT l (inst S.σ t)).length ≤ 1000000000 →
    Calls Try.prog 57 #[pk s, .slice A out.length c, .string l, pk b] w (TellPost base A out l (inst S.σ t) w)

/-- A node that is no row, looked at. -/
theorem plain_fl {U : List Lb} {S : Kn} {u : Ut} (hi : S.Inv) (g : TG U S u) (h8 : u.k = 8 → S.κ u.n = none) (hr : isRowB u.k = false) (l : Lb) :
    flT l (inst S.σ u) = ⟨u.k, l, u.n⟩ :: flX false (mapF (inst S.σ) u.fs) ∧ ∀ p ∈ u.fs, TG U S p.2 ∧ tsz (inst S.σ p.2) < tsz (inst S.σ u) := by
  obtain ⟨k, n, fs, tl⟩ := u
  have hr : isRowB k = false := hr
  by_cases h8' : k = 8
  · obtain ⟨e, _⟩ := okT_shape g.pend.1 h8'
    unfold varT at e
    injection e with e1 e2 e3 e4
    subst e3 e4
    have hun := h8 h8'
    refine ⟨?_, fun p hp => by cases hp⟩
    rw [h8', show Ut.mk 8 n [] none = varT n from rfl, inst_var, (hi.unk n hun).1]
    show flT l (.mk 8 n [] none) = _
    rw [flT_mk, if_neg (by decide)]
    rfl
  · obtain ⟨rfl, rfl, hin⟩ := inst_plain (S := S) g.pend.1 g.sh h8' hr
    refine ⟨?_, fun p hp => ⟨g.child hp, plain_less g.pend.1 g.sh h8' hr hp⟩⟩
    have hr' : isRowB k = false := hr
    rw [hin, flT_mk, if_neg (by rw [hr']; simp)]
    rfl
/-- A row, looked at. -/
theorem row_fl {U : List Lb} {S : Kn} {u : Ut} {x : Fl} {p : Option Int} (hr : isRowB u.k = true) (r : RowG U S u x p) (l : Lb) :
    flT l (inst S.σ u) = ⟨u.k, l, (x.length + (tailN p).length : Nat)⟩ :: (flX true (mapF (inst S.σ) x) ++ tailN p) := by
  rw [r.is, flT_mk, if_pos hr, mapF_len]
  rfl
theorem tyA_newH (w : World) (x : Nd) (H : Nat) (hH : w.heap.size = H) : TyA (w.alloc (.cells #[.int .i64 x.k, .string x.s, .int .i64 x.n] 48)) (H + 1) (some ⟨H, 0, none⟩) [x] := by
  subst hH
  exact tyA_new w x
theorem mapF_get {f : Ut → Ut} {fs : Fl} {i : Nat} {p : Lb × Ut} (h : fs[i]? = some p) : (mapF f fs)[i]? = some (p.1, f p.2) := by
  unfold mapF
  rw [List.getElem?_map, h]
  rfl

set_option maxRecDepth 100000 in
set_option maxHeartbeats 8000000 in
theorem tell_step (U : List Lb) (S : Kn) (s m : Nat) (first : Int) (base : Nat) (hK : KG U S) (hU : U.length ≤ 100000) (t : Ut)
    (ih : ∀ x, TG U S x → tsz (inst S.σ x) < tsz (inst S.σ t) → TellAt U S s m first base x) : TellAt U S s m first base t := by
  intro b w A c out l hW hb g hlen
  obtain ⟨u, hl⟩ := looks_ex hK.rk t
  obtain ⟨gu, _, eu⟩ := hl.good hK g
  rw [eu] at hlen
  have HLU := Lib.hid hl
  have HK := Lib.hid hK
  have HW := Lib.hid hW
  have HB := Lib.hid hb
  have HG := Lib.hid gu
  have HE := Lib.hid eu
  have HIH := Lib.hid ih
  have HLEN := Lib.hid hlen
  have hol : out.length ≤ 1000000000 := by omega
  clear hl hK hW hb g gu eu ih hlen
  unfold pk
  go_enter Try.func57, Try.ntmps57
  go_wp2_with fail
  have HL := look_any (TX base s m) s m first w S HW.out.sol HK.out.rk b t u HB.out HLU.out
  unfold pk at HL
  refine HL.mono ?_
  clear HL
  rintro e w1 ⟨d, rfl, hd, hb1⟩
  have M1 := Lib.hid (And.intro hd hb1)
  have W1 := Lib.hid (HW.out.bel hb1)
  obtain ⟨A3, B3, ls, bs, ca, cb, ta, hb3, _, hl3, _, hB3, hbl3, hk3, ht3, hnx⟩ := hd.partsU
  have e0 : w1.cell? ⟨d, 0, none⟩ = some (.int .i64 u.k) := by simp [World.cell?, hb3]
  have e1 : w1.cell? ⟨d, 1, none⟩ = some (.int .i64 u.n) := by simp [World.cell?, hb3]
  have e3 : w1.cell? ⟨d, 3, none⟩ = some (.slice B3 bs.length cb) := by simp [World.cell?, hb3]
  have zd : d < w1.heap.size := (Array.getElem?_eq_some_iff.1 hb3).1
  have P3 := Lib.hid (And.intro hB3 (And.intro hbl3 (And.intro hk3 (And.intro hb3 hnx))))
  clear hd hb1 hb3 hl3 hB3 hbl3 hk3 ht3 hnx
  go_wp2_with fail
  refine (uIsRow_any u.k w1).mono ?_
  rintro e w9 ⟨rfl, rfl⟩
  cases hr : isRowB u.k with
  | false =>
    have hbl : bs.length ≤ 200000 := by have := HG.out.fs_len; have := P3.out.2.1; omega
    obtain ⟨hfl, hch⟩ := plain_fl HK.out.inv HG.out (fun h => HLU.out.end_ h) hr l
    have HFL := Lib.hid hfl
    have HCH := Lib.hid hch
    have HR := Lib.hid hr
    have hlen2 : out.length + (1 + (flX false (mapF (inst S.σ) u.fs)).length) ≤ 1000000000 := by
      have := HLEN.out
      rw [HFL.out] at this
      simp only [List.length_cons] at this
      omega
    have HS0 : Hid (∀ v, Fr (Blk A) w1 v → v.cell? ⟨d, 0, none⟩ = some (.int .i64 u.k) ∧ v.cell? ⟨d, 1, none⟩ = some (.int .i64 u.n)) := Lib.hid fun v hv => by
      have h := hv.block d zd fun h => P3.out.2.2.2.2 (.inr (W1.out.blk _ h))
      exact ⟨(World.cell?_of_block (a := ⟨d, 0, none⟩) h).trans e0, (World.cell?_of_block (a := ⟨d, 1, none⟩) h).trans e1⟩
    clear hfl hch hr
    go_wp2_with fail
    go_cut [1] (fun s1 wx => ∃ (A2 : Option Addr) (c2 : Nat), s1 = .slice A2 (out.length + 1) c2 ∧ Hid (OwnN wx base A2 c2 (out ++ [⟨u.k, l, u.n⟩]) ∧ Gr A w1 A2 wx))
    case first => as_aux_lemma =>
      go_region_held3 (fun v => v.cell? ⟨d, 0, none⟩ = some (.int .i64 u.k) ∧ v.cell? ⟨d, 1, none⟩ = some (.int .i64 u.n))
        (first
          | exact HS0.out _ (Fr.below (ext_alloc (Below.refl _ _) _))
          | exact HS0.out _ (Fr.below (ext_alloc (Below.refl _ _) _).drew)
          | exact HS0.out _ (Fr.below (Below.refl _ _).drew)
          | exact HS0.out _ G2.out.2.fr)
        (first
          | (refine step_appN (by rfl) _ _ (by rfl) base (l := out) (by rfl) (W1.out.bel (by first | exact (ext_alloc (Below.refl _ _) _).drew | exact ext_alloc (Below.refl _ _).drew _ | exact ext_alloc (Below.refl _ _) _)).own (l2 := [⟨u.k, l, u.n⟩]) (A2 := some ⟨w1.heap.size, 0, none⟩) (c := 1) (B := w1.heap.size + 1) (by rfl) (tyA_new w1 ⟨u.k, l, u.n⟩).drew (by simp; omega) (by have := W1.out.bw; simp; omega) ?_; intro A2 c2 w2 hown2 hg2 hA2; have G2 := Lib.hid (And.intro hown2 ((Gr.bel (by first | exact (ext_alloc (Below.refl _ _) _).drew | exact ext_alloc (Below.refl _ _).drew _ | exact ext_alloc (Below.refl _ _) _)).trans (Gr.app hg2 hA2))); clear hown2 hg2 hA2))
      all_goals
        go_wp2_with fail
        go_meet
        exact ⟨A2, c2, rfl, G2⟩
    case rest =>
      obtain ⟨A2, c2, rfl, G2⟩ := hcut
      have q3 : wc.cell? ⟨d, 3, none⟩ = some (.slice B3 bs.length cb) := (World.cell?_of_block (a := ⟨d, 3, none⟩) (G2.out.2.fr.block d zd fun h => P3.out.2.2.2.2 (.inr (W1.out.blk _ h)))).trans e3
      have zd2 : d < wc.heap.size := Nat.lt_of_lt_of_le zd G2.out.2.fr.size
      clear e0 e1 e3
      have hx1 : (out ++ [(⟨u.k, l, u.n⟩ : Nd)]).length = out.length + 1 := by simp
      rw [← hx1]
      go_wp2_with fail
      go_loopw [1, 43] (fun s1 s43 wr => ∃ (i : Nat) (A4 : Option Addr) (c4 : Nat) (o4 : List Nd), s43 = .int .i64 i ∧ s1 = .slice A4 o4.length c4 ∧ i ≤ bs.length ∧ Hid (o4 = out ++ ⟨u.k, l, u.n⟩ :: flX false ((mapF (inst S.σ) u.fs).take i)) ∧ Hid (OwnN wr base A4 c4 o4 ∧ Gr A w1 A4 wr)) (fun _ s43 _ => bs.length - (intOf s43).toNat)
      case atStart => exact ⟨0, A2, c2, _, rfl, rfl, Nat.zero_le _, Lib.hid (by rw [List.take_zero, flX_nil]), G2⟩
      case round =>
        obtain ⟨i, A4, c4, o4, rfl, rfl, hi, HO, M⟩ := hrel
        by_cases hp : i < bs.length
        · obtain ⟨c', hc'⟩ := getq_ex hp
          obtain ⟨p, hpf⟩ := getq_ex (l := u.fs) (i := i) (by rw [← P3.out.2.1]; exact hp)
          obtain ⟨bb, oo, rfl, _, zb, cc⟩ := (P3.out.1.fr M.out.2.fr fun k _ hk => .inr (W1.out.blk k hk)).cellB hc'
          obtain ⟨gp, sp⟩ := HCH.out p (List.mem_of_getElem? hpf)
          have W4 := W1.out.next M.out.2 M.out.1
          have hstep : Hid (o4 ++ flT ByteArray.empty (inst S.σ p.2) = out ++ ⟨u.k, l, u.n⟩ :: flX false ((mapF (inst S.σ) u.fs).take (i + 1))) := Lib.hid (by
            rw [HO.out, flX_take (mapF_get hpf)]
            simp)
          have hl4 : o4.length + (flT ByteArray.empty (inst S.σ p.2)).length ≤ 1000000000 := by
            have h1 := congrArg List.length hstep.out
            have h2 := flX_le false (mapF (inst S.σ) u.fs) (i + 1)
            simp only [List.length_append, List.length_cons] at h1
            omega
          have hcall := Lib.hid (HIH.out p.2 gp (by rw [HE.out]; exact sp) c' wr A4 c4 o4 ByteArray.empty W4 (W1.out.node M.out.2 (P3.out.2.2.1 i p c' hpf hc')) gp hl4)
          unfold pk at hcall
          clear hc' hpf gp sp W4 hl4
          go_wp2_with fail
          refine hcall.out.mono ?_
          clear hcall
          rintro e w5 ⟨A6, c6, rfl, ho6, g6⟩
          have G6 := Lib.hid (And.intro ho6 (M.out.2.trans g6))
          clear ho6 g6
          go_wp2_with fail
          go_roundw
          case rel => exact ⟨i + 1, A6, c6, _, by go_num, by simp, hp, hstep, G6⟩
          case measure => simp [intOf]; omega
        · have hib : i = u.fs.length := by rw [← P3.out.2.1]; omega
          have hfin : Hid (o4 = out ++ flT l (inst S.σ t)) := Lib.hid (by
            rw [HO.out, HE.out, HFL.out, List.take_of_length_le (by rw [mapF_len]; omega)])
          clear hib
          go_wp2_with fail
          go_ret
          unfold TellPost
          rw [← hfin.out]
          exact ⟨A4, c4, rfl, M.out.1, (Gr.bel M1.out.2).trans M.out.2⟩
  | true =>
    have HR := Lib.hid hr
    have hrow := row_tg (TX base s m) U s m first w1 S W1.out.sol HK.out hU d u M1.out.1 HG.out hr
    unfold pk at hrow
    clear hr e3
    go_wp2_with fail
    refine hrow.mono ?_
    clear hrow
    rintro e w3 ⟨A4, cap4, cl, x, p, tv, rfl, k1, k2, k3, k4, k5⟩
    obtain ⟨tb, rfl⟩ := k3.ptr
    have Y := Lib.hid (And.intro k1 (And.intro k2 (And.intro k3 (And.intro k4 k5))))
    have HFL := Lib.hid (row_fl HR.out k1 l)
    have hcx : Hid (cl.length = x.length) := Lib.hid k2.1
    have hcl : cl.length ≤ 100000 := by have := k1.len; have := k2.1; omega
    have W3 := Lib.hid (W1.out.bel k5)
    have q0 : w3.cell? ⟨d, 0, none⟩ = some (.int .i64 u.k) := (k5.cell (p := ⟨d, 0, none⟩) zd).trans e0
    have zd3 : d < w3.heap.size := Nat.lt_of_lt_of_le zd k5.size
    have hlen2 : out.length + (1 + ((flX true (mapF (inst S.σ) x)).length + (tailN p).length)) ≤ 1000000000 := by
      have := HLEN.out
      rw [HFL.out] at this
      simp only [List.length_cons, List.length_append] at this
      omega
    clear k1 k2 k3 k4 k5 e0 e1
    go_wp2_with (at_builtin; refine wpList_appN rfl (.tmp 61) (.tmp 70) rfl base (l := out) rfl (W3.out.bel (ext_alloc (Below.refl _ _) _)).own (l2 := [⟨u.k, l, (cl.length : Int)⟩]) rfl (tyA_new _ ⟨u.k, l, (cl.length : Int)⟩) (by simp; omega) (by have := W3.out.bw; simp; omega) ?_; intro A2 c2 w4 hown2 hg2 hA2; have G2 := Lib.hid (And.intro hown2 ((Gr.bel (ext_alloc (Below.refl w3.heap.size w3) _)).trans (Gr.app hg2 hA2))); clear hown2 hg2 hA2)
    go_loopw [1, 74] (fun s1 s74 wr => ∃ (i : Nat) (A4 : Option Addr) (c4 : Nat) (o4 : List Nd), s74 = .int .i64 i ∧ s1 = .slice A4 o4.length c4 ∧ i ≤ cl.length ∧ Hid (o4 = out ++ ⟨u.k, l, (cl.length : Int)⟩ :: flX true ((mapF (inst S.σ) x).take i)) ∧ Hid (OwnN wr base A4 c4 o4 ∧ Gr A w3 A4 wr)) (fun _ s74 _ => cl.length - (intOf s74).toNat)
    case atStart => exact ⟨0, A2, c2, _, rfl, by simp, Nat.zero_le _, Lib.hid (by rw [List.take_zero, flX_nil]), G2⟩
    case round =>
      obtain ⟨i, A5, c5, o5, rfl, rfl, hi, HO, M⟩ := hrel
      by_cases hp : i < cl.length
      · obtain ⟨d1, hd1⟩ := getq_ex (l := cl) (i := i) hp
        obtain ⟨pf, hpf⟩ := getq_ex (l := x) (i := i) (by rw [← hcx.out]; exact hp)
        obtain ⟨gb, go, rfl, hgl, hgz, k0, k1⟩ := OwnL.at2 Y.out.2.2.2.1 hd1
        have hnb : ¬ Blk A gb := fun ⟨a, ha, hk⟩ => by
          have := (OwnL.lt W1.out.own a ha).2
          omega
        have e0 := (World.cell?_of_block (a := ⟨gb, go + i * 2, none⟩) (M.out.2.fr.block gb hgz hnb)).trans k0
        have e1 := (World.cell?_of_block (a := ⟨gb, go + i * 2 + 1, none⟩) (M.out.2.fr.block gb hgz hnb)).trans k1
        have hgr : gb < wr.heap.size := Nat.lt_of_lt_of_le hgz M.out.2.fr.size
        obtain ⟨hlab, hnd⟩ := Y.out.2.1.2 i d1 pf hd1 hpf
        have gp := Y.out.1.el pf (List.mem_of_getElem? hpf)
        have sp := Y.out.1.less (List.mem_of_getElem? hpf)
        have W4 := W3.out.next M.out.2 M.out.1
        have hstep : Hid (o5 ++ flT d1.1 (inst S.σ pf.2) = out ++ ⟨u.k, l, (cl.length : Int)⟩ :: flX true ((mapF (inst S.σ) x).take (i + 1))) := Lib.hid (by
          rw [HO.out, flX_take (mapF_get hpf), hlab]
          simp)
        have hl4 : o5.length + (flT d1.1 (inst S.σ pf.2)).length ≤ 1000000000 := by
          have h1 := congrArg List.length hstep.out
          have h2 := flX_le true (mapF (inst S.σ) x) (i + 1)
          simp only [List.length_append, List.length_cons] at h1
          omega
        have hbA : Below wr.heap.size wr (wr.alloc (.cells #[.string d1.1, .pointer (some ⟨d1.2, 0, none⟩)] 150)) := ext_alloc (Below.refl _ _) _
        have hcall := Lib.hid (HIH.out pf.2 gp (by rw [HE.out]; exact sp) d1.2 _ A5 c5 o5 d1.1 (W4.bel hbA) ((W3.out.node M.out.2 hnd).bel hbA) gp hl4)
        have HBA := Lib.hid hbA
        unfold pk at hcall
        clear hd1 hpf gp sp W4 hl4 hlab hnd k0 k1 hnb hbA hgl hgz
        go_wp2_with fail
        refine hcall.out.mono ?_
        clear hcall
        rintro e w5 ⟨A6, c6, rfl, ho6, g6⟩
        have G6 := Lib.hid (And.intro ho6 (M.out.2.trans ((Gr.bel HBA.out).trans g6)))
        clear ho6 g6
        go_wp2_with fail
        go_roundw
        case rel => exact ⟨i + 1, A6, c6, _, by go_num, by simp, hp, hstep, G6⟩
        case measure => simp [intOf]; omega
      · have hib : i = x.length := by rw [← hcx.out]; omega
        have hfin : Hid (o5 = out ++ ⟨u.k, l, (cl.length : Int)⟩ :: flX true (mapF (inst S.σ) x)) := Lib.hid (by
          rw [HO.out, List.take_of_length_le (by rw [mapF_len]; omega)])
        clear hib HO
        cases p with
        | none =>
          have htb : tb = none := by
            have := Y.out.2.2.1
            unfold TailAt at this
            injection this
          subst htb
          have hres : Hid (o5 = out ++ flT l (inst S.σ t)) := Lib.hid (by
            rw [hfin.out, HE.out, HFL.out, ← hcx.out]
            simp [tailN])
          go_wp2_with fail
          go_ret
          unfold TellPost
          rw [← hres.out]
          exact ⟨A5, c5, rfl, M.out.1, (Gr.bel (ext_trans M1.out.2 Y.out.2.2.2.2)).trans M.out.2⟩
        | some q =>
          obtain ⟨tb0, htb, hnt, hbt⟩ := W3.out.tail M.out.2 Y.out.2.2.1
          unfold pk at htb
          injection htb with htb
          subst htb
          have hat : o5[out.length]? = some ⟨u.k, l, (cl.length : Int)⟩ := by rw [hfin.out]; simp
          have hlt5 := getq_lt hat
          obtain ⟨g, rfl, hbg, hgz, cg, fg, hown, hgg⟩ := OwnL.setM M.out.1 hat ((cl.length : Int) + 1)
          have htg : tb0 ≠ g := fun e => hnt (.inr (by omega))
          have T1 : wr.cell? ⟨tb0, 1, none⟩ = some (.int .i64 q) := by simp [World.cell?, hbt]
          have zt : tb0 < wr.heap.size := (Array.getElem?_eq_some_iff.1 hbt).1
          have hol5 : o5.length ≤ 1000000000 := by
            have := congrArg List.length hfin.out
            simp only [List.length_append, List.length_cons] at this
            omega
          have G7 := Lib.hid (And.intro hown (M.out.2.trans (show Gr (some ⟨g, 0, none⟩) wr (some ⟨g, 0, none⟩) (wr.setCell ⟨g, out.length * 3 + 2, none⟩ (.int .i64 ((cl.length : Int) + 1))) from ⟨Fr.grown hgg fun k hk => ⟨_, rfl, by injection hk⟩, fun a ha => .inl ⟨_, rfl, by injection ha with ha; rw [← ha]⟩⟩)))
          have hres : Hid ((o5.set out.length ⟨u.k, l, ((cl.length : Int) + 1)⟩) ++ [⟨9, ByteArray.empty, q⟩] = out ++ flT l (inst S.σ t)) := Lib.hid (by
            rw [hfin.out, HE.out, HFL.out, ← hcx.out]
            simp [tailN])
          clear hat hown hgg hbt
          go_wp2_with (at_builtin; refine wpList_appN rfl (.tmp 96) (.tmp 102) rfl base (l := o5.set out.length ⟨u.k, l, ((cl.length : Int) + 1)⟩) (by rw [List.length_set]; rfl) (OwnL.alloc G7.out.1 _) (l2 := [⟨9, ByteArray.empty, q⟩]) rfl (tyA_newH _ ⟨9, ByteArray.empty, q⟩ wr.heap.size (by simp)) (by simp; omega) (by have := W1.out.bw; have := G7.out.2.fr.size; have := Y.out.2.2.2.2.size; simp; omega) ?_; intro A7 c7 w7 hown7 hg7 hA7; have G8 := Lib.hid (And.intro hown7 (G7.out.2.trans ((Gr.bel (ext_alloc (Below.refl _ _) _)).trans (Gr.app hg7 hA7)))); clear hown7 hg7 hA7)
          go_ret
          unfold TellPost
          rw [← hres.out]
          exact ⟨A7, c7, by simp, G8.out.1, (Gr.bel (ext_trans M1.out.2 Y.out.2.2.2.2)).trans G8.out.2⟩

theorem tell_any (U : List Lb) (S : Kn) (s m : Nat) (first : Int) (base : Nat) (hK : KG U S) (hU : U.length ≤ 100000) : ∀ (n : Nat) (t : Ut), tsz (inst S.σ t) ≤ n → TellAt U S s m first base t := by
  intro n
  induction n with
  | zero =>
    intro t ht
    cases h : inst S.σ t with
    | mk k n fs tl =>
      rw [h, tsz_mk] at ht
      omega
  | succ n ih => exact fun t ht => tell_step U S s m first base hK hU t fun x _ hx => ih x (by omega)
end Go.Proofs.Ytblfeokjlecgkaa
