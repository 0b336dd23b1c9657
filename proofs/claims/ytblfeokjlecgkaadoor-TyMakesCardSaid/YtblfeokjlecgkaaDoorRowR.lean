/- The document's Row, walked. -/
import Derived.Test.YtblfeokjlecgkaaDoorSel
import Derived.Test.YtblfeokjlecgkaaDoorRowG
namespace Go.Proofs.YtblfeokjlecgkaaDoor
open Go.RowKit

theorem rowLabel_eq {k : Int} {s : ByteArray} (h : isRowB k = true) : rowLabelB k s = labelB k s := by
  unfold rowLabelB labelB
  by_cases h6 : k = 6
  · rw [if_pos h6, if_pos h6]
  · rw [if_neg h6, if_neg h6]
    by_cases h7 : k = 7
    · rw [if_pos h7, if_pos h7]
    · simp [isRowB, h6, h7] at h

theorem odd_none {kind : Int} {ls : List ByteArray} (h : oddFrom kind ls 0 = false) {s : ByteArray} (hs : s ∈ ls) : labelB kind s = true := by
  unfold oddFrom at h
  rw [List.drop_zero, List.any_eq_false] at h
  have := h s hs
  simpa using this

/-- Go's > on texts. -/
theorem gt_no {d s : ByteArray} (h : ltB d s = false) : Op.bytesLess s.toList d.toList = true ∨ (Op.bytesLess s.toList d.toList = false ∧ (s.toList == d.toList) = true) := by
  cases hb : Op.bytesLess s.toList d.toList
  · refine .inr ⟨rfl, ?_⟩
    have := ltB_eq h hb
    rw [this]
    simp
  · exact .inl rfl

theorem gt_yes {d s : ByteArray} (h : ltB d s = true) : Op.bytesLess s.toList d.toList = false ∧ (s.toList == d.toList) = false := by
  refine ⟨ltB_asymm h, ?_⟩
  cases he : (s.toList == d.toList)
  · rfl
  · rw [beq_iff_eq] at he
    unfold ltB at h
    rw [he] at h
    have h2 := ltB_irrefl d
    unfold ltB at h2
    rw [h2] at h
    cases h

set_option maxRecDepth 100000 in
set_option maxHeartbeats 1000000 in
/-- What can't be a row. -/
theorem rRow_no (L V : Option Addr) (nl n cl cv : Nat) (kind : Int) (w : World) (h : isRowB kind = false ∨ (isRowB kind = true ∧ (nl ≠ n ∨ (nl = n ∧ (50 < n ∨ (kind = 7 ∧ n = 0)))))) :
    Calls Tryd.prog 14 #[.int .i64 kind, .slice L nl cl, .slice V n cv] w fun e w' => e = .returned (.tuple #[.slice none 0 0, .int .i64 1]) ∧ w = w' := by
  rcases h with h | ⟨h, hnl | ⟨rfl, h50 | ⟨rfl, rfl⟩⟩⟩
  · have h6 : (kind != 6) = true := by simp only [isRowB, Bool.or_eq_false_iff] at h; simpa using h.1
    have h7 : (kind != 7) = true := by simp only [isRowB, Bool.or_eq_false_iff] at h; simpa using h.2
    clear h
    go_enter Tryd.func14, Tryd.ntmps14
    go_wp2_with fail
    go_ret2
    exact ⟨rfl, rfl⟩
  · have hne : ((nl : Int) != (n : Int)) = true := by simp; omega
    have hk : kind = 6 ∨ kind = 7 := by simpa [isRowB] using h
    clear h hnl
    rcases hk with rfl | rfl
    all_goals
      go_enter Tryd.func14, Tryd.ntmps14
      go_wp2_with fail
      go_ret2
      exact ⟨rfl, rfl⟩
  · have hk : kind = 6 ∨ kind = 7 := by simpa [isRowB] using h
    have h50i : (50 : Int) < (nl : Int) := by omega
    clear h h50
    rcases hk with rfl | rfl
    all_goals
      go_enter Tryd.func14, Tryd.ntmps14
      go_wp2_with fail
      go_ret2
      exact ⟨rfl, rfl⟩
  · clear h
    go_enter Tryd.func14, Tryd.ntmps14
    go_wp2_with fail
    go_ret2
    exact ⟨rfl, rfl⟩

set_option maxRecDepth 100000 in
set_option maxHeartbeats 8000000 in
theorem rRow_some (L V : Option Addr) (cl cv : Nat) (kind : Int) (ls : List ByteArray) (vs : List (Option Addr × Nat × Nat)) (xss : List (List Nd)) (w : World) (hL : ReadT w w.heap.size L ls) (hV : ReadS w w.heap.size V vs) (hS : Sls w w.heap.size vs xss)
    (hne : ∀ xs ∈ xss, xs ≠ [] ∧ xs.length ≤ 100000) (hsz : ∀ s ∈ ls, s.size ≤ 9223372036854775807) (hr : isRowB kind = true) (hl : ls.length = xss.length) (h50 : xss.length ≤ 50) (h7 : kind = 7 → xss.length ≠ 0) :
    Calls Tryd.prog 14 #[.int .i64 kind, .slice L ls.length cl, .slice V vs.length cv] w (RowPost kind ls xss w) := by
  have hbadeq : Hid (badRow kind ls xss.length = oddFrom kind ls 0) := Lib.hid (by
    unfold badRow
    rw [hr, decide_eq_true hl, decide_eq_false (show ¬ 50 < xss.length by omega)]
    by_cases h : kind = 7
    · rw [decide_eq_false (h7 h)]; simp
    · rw [decide_eq_false h]; simp)
  have hvl : vs.length = ls.length := by rw [hS.1, hl]
  have HS := Lib.hid hS.2
  have Hne := Lib.hid hne
  have Hsz := Lib.hid hsz
  have Hr := Lib.hid hr
  have Hl := Lib.hid hl
  have h50' : ls.length ≤ 50 := by omega
  have hk : ((kind != 6) = false ∧ (kind == 7) = false) ∨ ((kind != 6) = true ∧ (kind != 7) = false ∧ (kind == 7) = true ∧ ((ls.length : Int) == 0) = false) := by
    have : kind = 6 ∨ kind = 7 := by simpa [isRowB] using hr
    rcases this with rfl | rfl
    · exact .inl ⟨rfl, rfl⟩
    · exact .inr ⟨rfl, rfl, rfl, by rw [beq_eq_false_iff_ne]; have := h7 rfl; omega⟩
  rw [hvl]
  have Hvl := Lib.hid hvl
  have hown0 := Lib.hid (own_one w ⟨kind, ⟨#[]⟩, (ls.length : Int)⟩)
  have hb0 := Lib.hid (ext_alloc (Below.refl w.heap.size w) (.cells #[.int .i64 kind, .string ⟨#[]⟩, .int .i64 (ls.length : Int)] 38))
  generalize hn : ls.length = n at *
  have Hn := Lib.hid hn
  have h50b : decide ((50 : Int) < (n : Int)) = false := by simp; omega
  clear hS hne hsz hr hl h50 h7 hvl hn
  rcases hk with ⟨k1, k2⟩ | ⟨k1, k2, k3, k4⟩
  all_goals
    go_enter Tryd.func14, Tryd.ntmps14
    go_wp2_with fail
    go_loop [8] (fun i => ∃ k : Nat, k ≤ n ∧ i = .int .i64 k ∧ Hid (oddFrom kind ls k = oddFrom kind ls 0)) (fun i => n - (intOf i).toNat)
    case atStart => exact ⟨0, Nat.zero_le _, rfl, Lib.hid rfl⟩
    case round =>
      obtain ⟨k, hk, rfl, hgood⟩ := hrel
      by_cases hlt : k < n
      · obtain ⟨s, hs⟩ := getq_ex (show k < ls.length by rw [Hn.out]; exact hlt)
        obtain ⟨lb, lo, rfl, hlb, hlc⟩ := ReadL.str hL hs
        have hss := Hsz.out s (List.mem_of_getElem? hs)
        have hstep := Lib.hid (oddFrom_step (kind := kind) hs)
        clear hs
        cases hlab : labelB kind s
        · have Hlab := Lib.hid hlab
          clear hlab
          go_wp2_with fail
          refine (label_any kind s _ hss).mono ?_
          rintro e w' ⟨rfl, rfl⟩
          rw [rowLabel_eq Hr.out, Hlab.out]
          go_wp2_with fail
          go_ret2
          exact ⟨Below.refl _ _, .inl ⟨by rw [hbadeq.out, ← hgood.out, hstep.out, Hlab.out]; rfl, rfl⟩⟩
        · have Hlab := Lib.hid hlab
          clear hlab
          go_wp2_with fail
          refine (label_any kind s _ hss).mono ?_
          rintro e w' ⟨rfl, rfl⟩
          rw [rowLabel_eq Hr.out, Hlab.out]
          go_wp2_with fail
          go_round
          case rel => exact ⟨k + 1, hlt, by go_num, Lib.hid (by rw [← hgood.out, hstep.out, Hlab.out]; rfl)⟩
          case measure => simp [intOf]; omega
      · have hodd : oddFrom kind ls 0 = false := by rw [← hgood.out]; exact oddFrom_end (by rw [Hn.out]; exact hlt)
        have Hbad := Lib.hid (show badRow kind ls xss.length = false by rw [hbadeq.out, hodd])
        have Hstart := Lib.hid (Sel.start (ls := ls) fun i hi => label_pos Hr.out (odd_none hodd (by rw [lab_get hi]; exact List.getElem_mem _)))
        clear hodd hgood hbadeq
        go_wp2_with fail
        clear hlt hk
        go_loopw [9, 10, 11] (fun s9 s10 s11 wr => ∃ (k m : Nat) (A' : Option Addr) (cap' : Nat) (os : List Nat) (done : ByteArray) (out : List Nd), s9 = .slice A' m cap' ∧ s10 = .string done ∧ s11 = .int .i64 k ∧ k ≤ n ∧ m ≤ 1 + k * 100000 ∧ OwnN wr w.heap.size A' cap' out ∧ Below w.heap.size w wr ∧
            Hid (m = out.length ∧ out = ⟨kind, ⟨#[]⟩, (n : Int)⟩ :: os.flatMap (rowPart ls xss)) ∧ Hid (Sel ls k os done))
          (fun _ _ s11 _ => n - (intOf s11).toNat)
        case atStart => exact ⟨0, 1, _, _, [], _, _, rfl, rfl, rfl, Nat.zero_le _, by omega, hown0.out, hb0.out, Lib.hid ⟨rfl, rfl⟩, Hstart⟩
        case round =>
          obtain ⟨k, m, A', cap', os, done, out, rfl, rfl, rfl, hk, hmk, hown, hbel, hout, hsel⟩ := hrel
          have zr := hbel.size
          have hLw := Lib.hid (ReadL.below hL hbel)
          have hVw := Lib.hid (ReadL.below hV hbel)
          by_cases hlt : k < n
          · go_wp2_with fail
            go_loopw [12, 13] (fun s12 s13 w2 => ∃ (i q : Nat) (b : Int), s13 = .int .i64 i ∧ i ≤ n ∧ s12 = .int .i64 b ∧ w2 = wr.drewN q ∧ Hid (b = bestI (bst ls done i)))
              (fun _ s13 _ => n - (intOf s13).toNat)
            case atStart => exact ⟨0, 0, -1, rfl, Nat.zero_le _, rfl, rfl, Lib.hid rfl⟩
            case round =>
              obtain ⟨i, q, b, rfl, hi, rfl, rfl, hb⟩ := hrel
              by_cases hlt2 : i < n
              · obtain ⟨lb, lo, rfl, hlb, hlc⟩ := ReadL.str hLw.out (lab_at (show i < ls.length by rw [Hn.out]; exact hlt2))
                have lblt : lb < wr.heap.size := by omega
                cases h1 : ltB done (lab ls i)
                · have Hno := Lib.hid (bst_no (ls := ls) h1)
                  have hg := gt_no h1
                  generalize lab ls i = s at *
                  clear h1
                  rcases hg with hg | ⟨hg, hg2⟩
                  all_goals
                    go_wp2_with fail
                    go_quiet (fail)
                    go_wp2_with fail
                    go_roundw
                    case rel => exact ⟨i + 1, _, b, by go_num, hlt2, rfl, rfl, Lib.hid (by rw [Hno.out]; exact hb.out)⟩
                    case measure => simp [intOf]; omega
                · cases h2 : bst ls done i with
                  | none =>
                    have hbn : b = -1 := by rw [hb.out, h2]; rfl
                    subst hbn
                    have Hno := Lib.hid (bst_first h1 h2)
                    obtain ⟨hg, hg2⟩ := gt_yes h1
                    generalize lab ls i = s at *
                    clear h1 h2
                    go_wp2_with fail
                    go_quiet (fail)
                    go_wp2_with fail
                    go_roundw
                    case rel => exact ⟨i + 1, _, (i : Int), by go_num, hlt2, rfl, rfl, Lib.hid (by rw [Hno.out]; rfl)⟩
                    case measure => simp [intOf]; omega
                  | some j =>
                    have hbn : b = (j : Int) := by rw [hb.out, h2]; rfl
                    subst hbn
                    have hjn : j < n := by
                      have := bst_spec ls done i
                      rw [h2] at this
                      omega
                    obtain ⟨_, _, hle, _, hlcj⟩ := ReadL.str hLw.out (lab_at (show j < ls.length by rw [Hn.out]; exact hjn))
                    simp only [Option.some.injEq, Addr.mk.injEq, and_true] at hle
                    obtain ⟨rfl, rfl⟩ := hle
                    have hj0 : decide ((j : Int) < 0) = false := by simp
                    cases h3 : ltB (lab ls i) (lab ls j)
                    · have Hno := Lib.hid (bst_more h1 h2 h3)
                      obtain ⟨hg, hg2⟩ := gt_yes h1
                      unfold ltB at h3
                      generalize lab ls i = s at *
                      generalize lab ls j = sj at *
                      clear h1 h2
                      go_wp2_with fail
                      go_quiet (fail)
                      go_wp2_with fail
                      go_roundw
                      case rel => exact ⟨i + 1, _, (j : Int), by go_num, hlt2, rfl, rfl, Lib.hid (by rw [Hno.out]; rfl)⟩
                      case measure => simp [intOf]; omega
                    · have Hno := Lib.hid (bst_less h1 h2 h3)
                      obtain ⟨hg, hg2⟩ := gt_yes h1
                      unfold ltB at h3
                      generalize lab ls i = s at *
                      generalize lab ls j = sj at *
                      clear h1 h2
                      go_wp2_with fail
                      go_quiet (fail)
                      go_wp2_with fail
                      go_roundw
                      case rel => exact ⟨i + 1, _, (i : Int), by go_num, hlt2, rfl, rfl, Lib.hid (by rw [Hno.out]; rfl)⟩
                      case measure => simp [intOf]; omega
              · have hin : i = n := by omega
                subst hin
                cases h2 : bst ls done i with
                | none =>
                  have hbn : b = -1 := by rw [hb.out, h2]; rfl
                  subst hbn
                  have Htw := Lib.hid (hsel.out.twice (by rw [Hn.out]; exact hlt) (by rw [Hn.out]; exact h2))
                  clear h2
                  go_wp2_with fail
                  go_ret2
                  exact ⟨below_drewN hbel _, .inr (.inl ⟨Hbad.out, Htw.out, rfl⟩)⟩
                | some j =>
                  have hbn : b = (j : Int) := by rw [hb.out, h2]; rfl
                  subst hbn
                  have hjn : j < i := by
                    have := bst_spec ls done i
                    rw [h2] at this
                    exact this.1
                  have Hsel := Lib.hid (hsel.out.step (by rw [Hn.out]; exact h2))
                  obtain ⟨lb, lo, rfl, hlb, hlc⟩ := ReadL.str hLw.out (lab_at (show j < ls.length by rw [Hn.out]; exact hjn))
                  obtain ⟨v, hv⟩ := getq_ex (show j < vs.length by rw [Hvl.out]; exact hjn)
                  obtain ⟨xs, hxs⟩ := getq_ex (show j < xss.length by rw [← Hl.out]; exact hjn)
                  obtain ⟨hv1, hta⟩ := HS.out j v xs hv hxs
                  obtain ⟨xne, xlen⟩ := Hne.out xs (List.mem_of_getElem? hxs)
                  obtain ⟨x, ys, rfl⟩ : ∃ x ys, xs = x :: ys := by
                    cases xs with
                    | nil => exact absurd rfl xne
                    | cons x ys => exact ⟨x, ys, rfl⟩
                  obtain ⟨vb, vo, rfl, hvb, hvc⟩ := hVw.out.slice hv
                  rw [hv1] at hvc
                  obtain ⟨hm, ho⟩ := hout.out
                  have lblt : lb < wr.heap.size := by omega
                  have vblt : vb < wr.heap.size := by omega
                  have hstep : out ++ nameN (lab ls j) (x :: ys) = ⟨kind, ⟨#[]⟩, (i : Int)⟩ :: (os ++ [j]).flatMap (rowPart ls xss) := by
                    rw [List.flatMap_append, ho]
                    simp [rowPart, hxs]
                  have Hstep := Lib.hid hstep
                  have htaw : TyA wr w.heap.size v.1 (x :: ys) := hta.below hbel
                  subst hm
                  simp only [List.length_cons] at xlen
                  clear hv hxs hta xne ho hstep hv1 hout h2 hb hsel
                  generalize lab ls j = s at *
                  go_wp2_with (at_builtin; (refine wpList_appN rfl (.tmp 102) (.tmp 106) rfl w.heap.size (l := out) rfl (OwnL.drewN hown _) (l2 := x :: ys) rfl (htaw.drewN _) (by simp; omega) (by simp; omega) ?_; intro A2 cap2 w5 hown5 hg5 _; have hbel5 : Below w.heap.size w w5 := ext_app (ext_drewN hbel _) hg5 (fun k hk => (OwnL.block hown k hk).1); have hx5 : (out ++ x :: ys)[out.length]? = some x := (by simp); obtain ⟨g5, rfl, hbg5, hg5l, hcell5, hfz5, hown6, hgr6⟩ := OwnL.setN hown5 (j := out.length) (x := x) hx5 s; rw [set_name] at hown6; have hbel6 := ext_set (p := ⟨g5, out.length * 3 + 1, none⟩) hbel5 hbg5 (.string s); clear hx5))
                  go_roundw
                  case rel => exact ⟨k + 1, out.length + (ys.length + 1), some ⟨g5, 0, none⟩, cap2, os ++ [j], s, out ++ nameN s (x :: ys), rfl, rfl, by go_num, by omega, by omega, hown6, hbel6, Lib.hid ⟨by simp [nameN], Hstep.out⟩, Hsel⟩
                  case measure => simp [intOf]; omega
          · have hkk : k = n := by omega
            subst hkk
            go_wp2_with fail
            go_ret2
            obtain ⟨hm, ho⟩ := hout.out
            have hfin : out = rowN kind ls xss os := by rw [ho]; unfold rowN; rw [← Hl.out]; rfl
            subst hm
            rw [hfin] at hown ⊢
            have hs := hsel.out
            exact ⟨hbel, .inr (.inr ⟨Hbad.out, os, A', cap', by rw [← Hl.out, ← Hn.out] at *; rw [← Hn.out] at hs; exact hs.perm, hs.asc, rfl, hown⟩)⟩
end Go.Proofs.YtblfeokjlecgkaaDoor
