/- The document's Fresh, walked. -/
import Derived.Test.YtblfeokjlecgkaaGreatFresh
namespace Go.Proofs.YtblfeokjlecgkaaGreat
open Go.RowKit

theorem flatMap_setS (v : ByteArray) (x : Nd) : ∀ (l : List Nd) (j : Nat), l[j]? = some x → (l.set j ⟨x.k, v, x.n⟩).flatMap encN = (l.flatMap encN).set (j * 3 + 1) (.string v)
  | [], j, h => by simp at h
  | y :: l, 0, h => by
    simp at h
    subst h
    rw [List.set_cons_zero, List.flatMap_cons, List.flatMap_cons]
    rfl
  | y :: l, j + 1, h => by
    rw [List.getElem?_cons_succ] at h
    rw [List.set_cons_succ, List.flatMap_cons, List.flatMap_cons, flatMap_setS v x l j h, List.set_append_right _ _ (by rw [encN_len]; omega), encN_len, show (j + 1) * 3 + 1 - 3 = j * 3 + 1 by omega]

theorem OwnL.setL {w : World} {base : Nat} {A : Option Addr} {cap : Nat} {l : List Nd} (h : OwnN w base A cap l) {j : Nat} {x : Nd} (hx : l[j]? = some x) (v : ByteArray) :
    ∃ g, A = some ⟨g, 0, none⟩ ∧ base ≤ g ∧ g < w.heap.size ∧ w.cell? ⟨g, j * 3 + 1, none⟩ = some (.string x.s) ∧ w.frozen? ⟨g, j * 3 + 1, none⟩ = false ∧
      OwnN (w.setCell ⟨g, j * 3 + 1, none⟩ (.string v)) base A cap (l.set j ⟨x.k, v, x.n⟩) ∧ w.grownBy (w.setCell ⟨g, j * 3 + 1, none⟩ (.string v)) (some g) := by
  obtain ⟨b, o, hA, hb, c0, c1, c2⟩ := (OwnL.tyA h).at_ hx
  have hc := c1
  have h' : w.ownsRow base 39 3 (.slice A l.length cap) l.length (l.flatMap encN) := h
  rcases h'.2 with ⟨hv, hn⟩ | ⟨g, cap', cur, hv, hbg, hg, hnc, hcm, hcs, htake⟩
  · injection hv with hA' hl hc'
    rw [hA'] at hA
    cases hA
  · injection hv with hA' hl hc'
    subst hA'
    injection hA with hA
    injection hA with hA1 hA2 hA3
    subst hA1
    rw [← hA2, Nat.zero_add] at hc
    obtain ⟨h2, h3⟩ := World.ownsRow.stored h' (j * 3 + 1) (.string v)
    refine ⟨g, rfl, hbg, hb, hc, World.ownsRow.frozenAt h' _, ?_, h3⟩
    show (w.setCell ⟨g, j * 3 + 1, none⟩ (.string v)).ownsRow base 39 3 (.slice (some ⟨g, 0, none⟩) (l.set j ⟨x.k, v, x.n⟩).length cap) (l.set j ⟨x.k, v, x.n⟩).length ((l.set j ⟨x.k, v, x.n⟩).flatMap encN)
    rw [List.length_set, flatMap_setS v x l j hx]
    exact h2

/-- A whole node is stored. -/
theorem OwnL.setAll {w : World} {base : Nat} {A : Option Addr} {cap : Nat} {l : List Nd} (h : OwnN w base A cap l) {j : Nat} {x : Nd} (hx : l[j]? = some x) (y : Nd) :
    ∃ g, A = some ⟨g, 0, none⟩ ∧ base ≤ g ∧ g < w.heap.size ∧ (w.cell? ⟨g, j * 3, none⟩ = some (.int .i64 x.k) ∧ w.frozen? ⟨g, j * 3, none⟩ = false) ∧ (w.cell? ⟨g, j * 3 + 1, none⟩ = some (.string x.s) ∧ w.frozen? ⟨g, j * 3 + 1, none⟩ = false) ∧ (w.cell? ⟨g, j * 3 + 2, none⟩ = some (.int .i64 x.n) ∧ w.frozen? ⟨g, j * 3 + 2, none⟩ = false) ∧
      Hid (OwnN (((w.setCell ⟨g, j * 3, none⟩ (.int .i64 y.k)).setCell ⟨g, j * 3 + 1, none⟩ (.string y.s)).setCell ⟨g, j * 3 + 2, none⟩ (.int .i64 y.n)) base A cap (l.set j y) ∧
        w.grownBy (((w.setCell ⟨g, j * 3, none⟩ (.int .i64 y.k)).setCell ⟨g, j * 3 + 1, none⟩ (.string y.s)).setCell ⟨g, j * 3 + 2, none⟩ (.int .i64 y.n)) (some g)) := by
  obtain ⟨g, rfl, hbg, hg, ck, fk, h1, g1⟩ := OwnL.setK h hx y.k
  obtain ⟨gs, es, _, _, cs, fs, _, _⟩ := OwnL.setL h hx y.s
  injection es with es
  injection es with es _ _
  subst es
  obtain ⟨gm, em, _, _, cm, fm, _, _⟩ := OwnL.setM h hx y.n
  injection em with em
  injection em with em _ _
  subst em
  refine ⟨g, rfl, hbg, hg, ⟨ck, fk⟩, ⟨cs, fs⟩, ⟨cm, fm⟩, ?_⟩
  have hx2 : (l.set j ⟨y.k, x.s, x.n⟩)[j]? = some ⟨y.k, x.s, x.n⟩ := by rw [List.getElem?_set_self (getq_lt hx)]
  obtain ⟨g4, e4, _, _, _, _, h4, g2⟩ := OwnL.setL h1 hx2 y.s
  injection e4 with e4
  injection e4 with e4 _ _
  subst e4
  rw [List.set_set] at h4
  have hx3 : (l.set j ⟨y.k, y.s, x.n⟩)[j]? = some ⟨y.k, y.s, x.n⟩ := by rw [List.getElem?_set_self (getq_lt hx)]
  obtain ⟨g5, e5, _, _, _, _, h5, g3⟩ := OwnL.setM h4 hx3 y.n
  injection e5 with e5
  injection e5 with e5 _ _
  subst e5
  rw [List.set_set] at h5
  exact Lib.hid ⟨h5, only_trans (only_trans g1 g2) g3⟩

set_option maxRecDepth 100000 in
set_option maxHeartbeats 4000000 in
theorem rFresh_any (A : Option Addr) (c : Nat) (xs : List Nd) (n : Int) (w : World) (ha : TyA w w.heap.size A xs) (hl : xs.length ≤ 1000000) (hn0 : 0 ≤ n) (hn1 : n ≤ 1000000) :
    Calls Tryz.prog 7 #[.slice A xs.length c, .int .i64 n] w (RetN2 w (freshL n xs) (n + (dynN xs : Nat))) := by
  have Ha := Lib.hid ha
  have hown0 := Lib.hid (own_empty 39 3 encN w)
  have hb0 := Lib.hid (ext_alloc (Below.refl w.heap.size w) (.cells #[] 39))
  clear ha
  go_enter Tryz.func7, Tryz.ntmps7
  go_wp2_with (at_builtin; refine wpList_appN rfl (.tmp 8) (.tmp 9) rfl w.heap.size (l := []) rfl hown0.out (l2 := xs) rfl (Ha.out.below hb0.out) (by simp; omega) (by simp) ?_; intro A1 c1 w1 hown1 hg1 _)
  rw [List.nil_append] at hown1
  have M := Lib.hid (And.intro hown1 (ext_app hb0.out hg1 (fun k hk => (OwnL.block hown0.out k hk).1)))
  clear hown1 hg1 hown0 hb0
  go_loopw [1, 7] (fun s1 s7 wr => ∃ k d : Nat, s1 = .int .i64 (n + d) ∧ s7 = .int .i64 k ∧ k ≤ xs.length ∧ d ≤ 1000000 ∧ Hid (d = dynN (xs.take k)) ∧ Hid (OwnN wr w.heap.size A1 c1 (freshTo n xs k) ∧ Below w.heap.size w wr))
    (fun _ s7 _ => xs.length - (intOf s7).toNat)
  case atStart => exact ⟨0, 0, by simp, rfl, Nat.zero_le _, by omega, Lib.hid (by simp [dynN]), Lib.hid ⟨by rw [freshTo_zero]; exact M.out.1, M.out.2⟩⟩
  case round =>
    clear M
    obtain ⟨k, d, rfl, rfl, hk, hd6, hd, M⟩ := hrel
    by_cases hp : k < xs.length
    · obtain ⟨x, hx⟩ := getq_ex hp
      have Hx := Lib.hid hx
      obtain ⟨g, rfl, hbg, hg, ⟨ck, fk⟩, ⟨cs, fs⟩, ⟨cm, fm⟩, M2⟩ := OwnL.setAll M.out.1 (freshTo_at (n := n) hx) ⟨8, x.s, n + d⟩
      have hfl := Lib.hid (freshTo_len n xs k)
      clear hx
      cases h0 : (x.k == 0)
      · have H0 := Lib.hid h0
        go_wp2_with fail
        go_roundw
        case rel => exact ⟨k + 1, d, rfl, by go_num, hp, hd6, Lib.hid (by
          rw [hd.out, dynN_step Hx.out, if_neg (by simpa using H0.out)]; rfl), Lib.hid ⟨by
          rw [freshTo_step Hx.out, if_neg (by simpa using H0.out), set_self (freshTo_at Hx.out)]
          exact M.out.1, M.out.2⟩⟩
        case measure => simp [intOf]; omega
      · have H0 := Lib.hid h0
        have hdx : d ≤ k := by
          have := dynN_le (xs.take k)
          rw [List.length_take] at this
          have := hd.out
          omega
        go_wp2_with fail
        go_roundw
        case rel => exact ⟨k + 1, d + 1, by go_num, by go_num, hp, by omega, Lib.hid (by
          rw [hd.out, dynN_step Hx.out, if_pos (by simpa using H0.out)]), Lib.hid ⟨by
          rw [freshTo_step Hx.out, if_pos (by simpa using H0.out), ← hd.out]
          exact M2.out.1, M.out.2.grown M2.out.2 M.out.2.size (fun q hq => by cases hq; exact hbg)⟩⟩
        case measure => simp [intOf]; omega
    · have hkk : k = xs.length := by omega
      subst hkk
      go_wp2_with fail
      go_ret2
      have e := freshTo_end n xs
      refine ⟨A1, c1, ?_, ?_, M.out.2⟩
      · rw [freshL_len, hd.out, List.take_length]
        rfl
      · rw [← e]; exact M.out.1
end Go.Proofs.YtblfeokjlecgkaaGreat
