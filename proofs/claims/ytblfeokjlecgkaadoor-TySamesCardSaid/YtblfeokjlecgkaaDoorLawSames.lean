/- TySames's law, walked. -/
import Derived.Test.YtblfeokjlecgkaaDoorAlive
import Derived.Test.YtblfeokjlecgkaaDoorTyRead
namespace Go.Proofs.YtblfeokjlecgkaaDoor
open Go.RowKit

theorem flatMap_setM (m : Int) (x : Nd) : ∀ (l : List Nd) (j : Nat), l[j]? = some x → (l.set j ⟨x.k, x.s, m⟩).flatMap encN = (l.flatMap encN).set (j * 3 + 2) (.int .i64 m)
  | [], j, h => by simp at h
  | y :: l, 0, h => by
    simp at h
    subst h
    rw [List.set_cons_zero, List.flatMap_cons, List.flatMap_cons]
    rfl
  | y :: l, j + 1, h => by
    rw [List.getElem?_cons_succ] at h
    rw [List.set_cons_succ, List.flatMap_cons, List.flatMap_cons, flatMap_setM m x l j h, List.set_append_right _ _ (by rw [encN_len]; omega), encN_len, show (j + 1) * 3 + 2 - 3 = j * 3 + 2 by omega]

/-- A store of a node's number. -/
theorem OwnL.setM {w : World} {base : Nat} {A : Option Addr} {cap : Nat} {l : List Nd} (h : OwnN w base A cap l) {j : Nat} {x : Nd} (hx : l[j]? = some x) (m : Int) :
    ∃ g, A = some ⟨g, 0, none⟩ ∧ base ≤ g ∧ g < w.heap.size ∧ w.cell? ⟨g, j * 3, none⟩ = some (.int .i64 x.k) ∧ w.cell? ⟨g, j * 3 + 2, none⟩ = some (.int .i64 x.n) ∧ w.frozen? ⟨g, j * 3 + 2, none⟩ = false ∧
      OwnN (w.setCell ⟨g, j * 3 + 2, none⟩ (.int .i64 m)) base A cap (l.set j ⟨x.k, x.s, m⟩) ∧ w.grownBy (w.setCell ⟨g, j * 3 + 2, none⟩ (.int .i64 m)) (some g) := by
  obtain ⟨b, o, hA, hb, hc0, _, hc⟩ := (OwnL.tyA h).at_ hx
  have h' : w.ownsRow base 38 3 (.slice A l.length cap) l.length (l.flatMap encN) := h
  rcases h'.2 with ⟨hv, hn⟩ | ⟨g, cap', cur, hv, hbg, hg, hnc, hcm, hcs, htake⟩
  · injection hv with hA' hl hc'
    rw [hA'] at hA
    cases hA
  · injection hv with hA' hl hc'
    subst hA'
    injection hA with hA
    injection hA with hA1 hA2 hA3
    subst hA1
    rw [← hA2, Nat.zero_add] at hc hc0
    obtain ⟨h2, h3⟩ := World.ownsRow.stored h' (j * 3 + 2) (.int .i64 m)
    refine ⟨g, rfl, hbg, hb, hc0, hc, World.ownsRow.frozenAt h' _, ?_, h3⟩
    show (w.setCell ⟨g, j * 3 + 2, none⟩ (.int .i64 m)).ownsRow base 38 3 (.slice (some ⟨g, 0, none⟩) (l.set j ⟨x.k, x.s, m⟩).length cap) (l.set j ⟨x.k, x.s, m⟩).length ((l.set j ⟨x.k, x.s, m⟩).flatMap encN)
    rw [List.length_set, flatMap_setM m x l j hx]
    exact h2

def half (a : List Nd) (k : Nat) : List Nd := (a.take k).map Nd.bare ++ a.drop k

theorem half_at {a : List Nd} {k : Nat} {x : Nd} (h : a[k]? = some x) : (half a k)[k]? = some x := by
  unfold half
  have hk := getq_lt h
  rw [List.getElem?_append_right (by simp; omega)]
  simp [List.length_take, Nat.min_eq_left (Nat.le_of_lt hk), h]

theorem half_set {a : List Nd} {k : Nat} {x : Nd} (h : a[k]? = some x) : (half a k).set k x.bare = half a (k + 1) := by
  unfold half
  have hk := getq_lt h
  rw [List.set_append_right _ _ (by simp; omega), List.take_add_one, h, List.map_append, drop_cons h, List.append_assoc]
  simp [List.length_take, Nat.min_eq_left (Nat.le_of_lt hk)]

theorem half_same {a : List Nd} {k : Nat} {x : Nd} (h : a[k]? = some x) (hb : x.bare = x) : half a k = half a (k + 1) := by
  rw [← half_set h, hb]
  apply List.ext_getElem?
  intro j
  by_cases hj : k = j
  · subst hj
    have hk := getq_lt (half_at h)
    rw [half_at h, List.getElem?_set_self hk]
  · rw [List.getElem?_set_ne hj]

theorem half_length (a : List Nd) (k : Nat) : (half a k).length = a.length := by
  unfold half
  simp
  omega

theorem half_end {a : List Nd} {k : Nat} (h : ¬ k < a.length) : half a k = a.map Nd.bare := by
  unfold half
  rw [List.take_of_length_le (by omega), List.drop_of_length_le (by omega), List.append_nil]

theorem sameB_symm (a b : List Nd) : sameB b a = sameB a b := by
  unfold sameB
  rw [decide_eq_decide]
  exact ⟨Eq.symm, Eq.symm⟩

theorem sameB_refl (a : List Nd) : sameB a a = true := by unfold sameB; simp

theorem sameB_trans {a b c : List Nd} (h : sameB a b = true) (k : sameB b c = true) : sameB a c = true := by
  unfold sameB at *
  rw [decide_eq_true_eq] at *
  rw [h, k]

set_option maxRecDepth 100000 in
set_option maxHeartbeats 8000000 in
theorem tySames_go (A B C : Option Addr) (ca cb cc : Nat) (a b c : List Nd) (w : World) (ta : TyA w w.heap.size A a) (tb : TyA w w.heap.size B b) (tc : TyA w w.heap.size C c) (la : a.length ≤ 9223372036854775807) (lb : b.length ≤ 9223372036854775807) (lc : c.length ≤ 9223372036854775807) (ht : Tab w w.heap.size)
    (hna : namedB a = true) (hnb : namedB b = true) (hnc : namedB c = true) :
    Calls Tryd.prog 5 #[.slice A a.length ca, .slice B b.length cb, .slice C c.length cc] w fun e w' => e = .returned (.bool true) ∧ Below w.heap.size w w' := by
  have Hna := Lib.hid hna
  have Hnb := Lib.hid hnb
  have Hnc := Lib.hid hnc
  have la2 : a.length ≤ 200 := by unfold namedB at hna; simp at hna; exact hna.1
  have lb2 : b.length ≤ 200 := by unfold namedB at hnb; simp at hnb; exact hnb.1
  clear hna hnb hnc
  have hown0 := own_empty 38 3 encN w
  have hb0 := ext_alloc (Below.refl w.heap.size w) (.cells #[] 38)
  go_enter Tryd.func5, Tryd.ntmps5
  go_wp2_with fail
  refine (named_any A ca _ a _ ta la).mono ?_
  rintro e w1 ⟨rfl, rfl⟩
  rw [Hna.out]
  go_wp2_with fail
  refine (named_any B cb _ b _ tb lb).mono ?_
  rintro e w1 ⟨rfl, rfl⟩
  rw [Hnb.out]
  go_wp2_with fail
  refine (named_any C cc _ c _ tc lc).mono ?_
  rintro e w1 ⟨rfl, rfl⟩
  rw [Hnc.out]
  go_wp2_with (first
    | (at_builtin; refine wpList_appN rfl (.tmp 25) (.tmp 26) rfl w.heap.size (l := []) rfl hown0 (l2 := a) rfl (ta.below hb0) (by simp; omega) (by simp) ?_; intro A2 cap2 w3 hown3 hg3 _; rw [List.nil_append] at hown3; have hbel3 := ext_app hb0 hg3 (fun k hk => (OwnL.block hown0 k hk).1); have hblk3 := fun k hk => (OwnL.block hown3 k hk).2; have hnew := own_empty 38 3 encN w3; have hb3 := ext_alloc hbel3 (.cells #[] 38); have z3 := hbel3.size; have hown3' := OwnL.alloc hown3 (.cells #[] 38))
    | (at_builtin; refine wpList_appN rfl (.tmp 28) (.tmp 29) rfl w3.heap.size (l := []) rfl hnew (l2 := b) rfl (tb.below hb3) (by simp; omega) (by simp) ?_; intro B2 capb w4 hown4 hg4 _; rw [List.nil_append] at hown4; have hbel4 := ext_app hb3 hg4 (fun k hk => Nat.le_trans z3 (OwnL.block hnew k hk).1); have hownx := OwnL.kept hown3' hg4 (fun k hk a2 ha2 => by have h1 := (OwnL.block hnew k hk).1; have h2 := hblk3 a2.block (by subst ha2; rfl); omega)))

  have hg4b := (OwnL.block hown4)
  generalize hN : w3.heap.size = N at *
  clear hN hnew hb3 hown3' hg3 hg4 hown0 hb0 hbel3 hown3
  go_wp2_with fail
  go_loopw [9] (fun i9 wr => ∃ k : Nat, i9 = .int .i64 k ∧ k ≤ a.length ∧ OwnN wr w.heap.size A2 cap2 (half a k) ∧ OwnN wr N B2 capb b ∧ Below w.heap.size w wr)
    (fun i9 _ => a.length - (intOf i9).toNat)
  case atStart => exact ⟨0, rfl, Nat.zero_le _, by simpa [half] using hownx, hown4, hbel4⟩
  case round =>
    clear hownx hown4 hbel4
    obtain ⟨k, rfl, hk, hx, hy, hbel⟩ := hrel
    have zr := hbel.size
    by_cases hlt : k < a.length
    · obtain ⟨x, hxk⟩ := getq_ex hlt
      have hbare := bare_eq x
      have Hset := Lib.hid (half_set hxk)
      have Hsame := Lib.hid (half_same hxk)
      obtain ⟨g, rfl, hbg, hgl, hc0, hc2, hfz, hx2, hgr⟩ := OwnL.setM hx (half_at hxk) 0
      have hgN := hblk3 g rfl
      have hy2 := OwnL.kept hy hgr (fun k hk a2 ha2 => by injection hk with hk; have h1 := (OwnL.block hy a2.block (by subst ha2; rfl)).1; omega)
      have hbel2 := ext_set (p := ⟨g, k * 3 + 2, none⟩) hbel hbg (.int .i64 0)
      cases h0 : (x.k == 0)
      · have Hb := Lib.hid (show x.bare = x by rw [hbare, h0]; rfl)
        clear hbare hxk
        go_wp2_with fail
        go_roundw
        case rel => exact ⟨k + 1, by go_num, by omega, by rw [← Hsame.out Hb.out]; exact hx, hy, hbel⟩
        case measure => simp [intOf]; omega
      · have Hb := Lib.hid (show (⟨x.k, x.s, 0⟩ : Nd) = x.bare by rw [hbare, h0]; rfl)
        clear hbare hxk
        go_wp2_with fail
        go_roundw
        case rel => exact ⟨k + 1, by go_num, by omega, by rw [← Hset.out, ← Hb.out]; exact hx2, hy2, hbel2⟩
        case measure => simp [intOf]; omega
    · rw [half_end hlt] at hx
      go_wp2_with fail
      go_loopw [10] (fun i10 wr => ∃ k : Nat, i10 = .int .i64 k ∧ k ≤ b.length ∧ OwnN wr w.heap.size A2 cap2 (a.map Nd.bare) ∧ OwnN wr N B2 capb (half b k) ∧ Below w.heap.size w wr)
        (fun i10 _ => b.length - (intOf i10).toNat)
      case atStart => exact ⟨0, rfl, Nat.zero_le _, hx, by simpa [half] using hy, hbel⟩
      case round =>
        clear hx hy hbel zr hlt hk
        obtain ⟨k, rfl, hk, hx, hy, hbel⟩ := hrel
        have zr := hbel.size
        by_cases hlt : k < b.length
        · obtain ⟨y, hyk⟩ := getq_ex hlt
          have hbare := bare_eq y
          have Hset := Lib.hid (half_set hyk)
          have Hsame := Lib.hid (half_same hyk)
          obtain ⟨g, rfl, hbg, hgl, hc0, hc2, hfz, hy2, hgr⟩ := OwnL.setM hy (half_at hyk) 0
          have hx2 := OwnL.kept hx hgr (fun k hk a2 ha2 => by injection hk with hk; have h1 := hblk3 a2.block (by subst ha2; rfl); omega)
          have hbel2 := ext_set (p := ⟨g, k * 3 + 2, none⟩) hbel (by simp; omega) (.int .i64 0)
          cases h0 : (y.k == 0)
          · have Hb := Lib.hid (show y.bare = y by rw [hbare, h0]; rfl)
            clear hbare hyk
            go_wp2_with fail
            go_roundw
            case rel => exact ⟨k + 1, by go_num, by omega, hx, by rw [← Hsame.out Hb.out]; exact hy, hbel⟩
            case measure => simp [intOf]; omega
          · have Hb := Lib.hid (show (⟨y.k, y.s, 0⟩ : Nd) = y.bare by rw [hbare, h0]; rfl)
            clear hbare hyk
            go_wp2_with fail
            go_roundw
            case rel => exact ⟨k + 1, by go_num, by omega, hx2, by rw [← Hset.out, ← Hb.out]; exact hy2, hbel2⟩
            case measure => simp [intOf]; omega
        · rw [half_end hlt] at hy
          have hal : (a.map Nd.bare).length = a.length := by simp
          have hbl : (b.map Nd.bare).length = b.length := by simp
          have Hone := Lib.hid (fun W n1 n2 h1 h2 => one_any A2 B2 cap2 capb n1 n2 (a.map Nd.bare) (b.map Nd.bare) W h1 h2 (by rw [hal]; exact la))
          rw [hal, hbl] at Hone
          have Hsym := Lib.hid (sameB_symm a b)
          have Hrefl := Lib.hid (sameB_refl a)
          have Htrans := Lib.hid (fun h k => sameB_trans (a := a) (b := b) (c := c) h k)
          have hsd : (decide (a.map Nd.bare = b.map Nd.bare)) = sameB a b := rfl
          have Hsd := Lib.hid hsd
          clear hsd hal hbl
          go_wp2_with fail
          refine (alive_any _ (ht.below hbel |>.more zr)).mono ?_
          rintro e w5 ⟨rfl, hb5⟩
          have hx5 := OwnL.tyA (OwnL.below hx hb5 (Nat.le_refl _))
          have hy5 := OwnL.tyA (OwnL.below hy hb5 (Nat.le_refl _))
          have hbel5 := ext_trans hbel hb5
          clear hx hy hb5 hbel
          go_wp2_with fail
          refine (same_any A B ca cb a b _ ((ta.below hbel5).more hbel5.size) ((tb.below hbel5).more hbel5.size) la).mono ?_
          rintro e w6 ⟨rfl, hs5⟩
          have hbel6 := ext_trans hbel5 hs5
          go_wp2_with fail
          refine (Hone.out _ _ _ ((hx5.below hs5).more hs5.size) ((hy5.below hs5).more hs5.size)).mono ?_
          rintro e w7 ⟨rfl, m7, rfl⟩
          rw [Hsd.out]
          have hbel7 := ext_drewN hbel6 m7
          cases hs : sameB a b
          · have Hs := Lib.hid hs
            clear hs
            go_wp2_with fail
            refine (same_any A B ca cb a b _ ((ta.below hbel7).more hbel7.size) ((tb.below hbel7).more hbel7.size) la).mono ?_
            rintro e w8 ⟨rfl, hs7⟩
            have hbel8 := ext_trans hbel7 hs7
            rw [Hs.out]
            go_wp2_with fail
            refine (same_any B A cb ca b a _ ((tb.below hbel8).more hbel8.size) ((ta.below hbel8).more hbel8.size) lb).mono ?_
            rintro e w9 ⟨rfl, hs8⟩
            have hbel9 := ext_trans hbel8 hs8
            rw [Hsym.out, Hs.out]
            go_wp2_with fail
            refine (same_any A A ca ca a a _ ((ta.below hbel9).more hbel9.size) ((ta.below hbel9).more hbel9.size) la).mono ?_
            rintro e w10 ⟨rfl, hs9⟩
            have hbel10 := ext_trans hbel9 hs9
            rw [Hrefl.out]
            go_wp2_with fail
            refine (same_any A B ca cb a b _ ((ta.below hbel10).more hbel10.size) ((tb.below hbel10).more hbel10.size) la).mono ?_
            rintro e w11 ⟨rfl, hs10⟩
            have hbel11 := ext_trans hbel10 hs10
            rw [Hs.out]
            go_wp2_with fail
            go_ret
            exact ⟨rfl, hbel11⟩
          · have Hs := Lib.hid hs
            clear hs
            go_wp2_with fail
            refine (same_any A B ca cb a b _ ((ta.below hbel7).more hbel7.size) ((tb.below hbel7).more hbel7.size) la).mono ?_
            rintro e w8 ⟨rfl, hs7⟩
            have hbel8 := ext_trans hbel7 hs7
            rw [Hs.out]
            go_wp2_with fail
            refine (same_any B A cb ca b a _ ((tb.below hbel8).more hbel8.size) ((ta.below hbel8).more hbel8.size) lb).mono ?_
            rintro e w9 ⟨rfl, hs8⟩
            have hbel9 := ext_trans hbel8 hs8
            rw [Hsym.out, Hs.out]
            go_wp2_with fail
            refine (same_any A A ca ca a a _ ((ta.below hbel9).more hbel9.size) ((ta.below hbel9).more hbel9.size) la).mono ?_
            rintro e w10 ⟨rfl, hs9⟩
            have hbel10 := ext_trans hbel9 hs9
            rw [Hrefl.out]
            go_wp2_with fail
            refine (same_any A B ca cb a b _ ((ta.below hbel10).more hbel10.size) ((tb.below hbel10).more hbel10.size) la).mono ?_
            rintro e w11 ⟨rfl, hs10⟩
            have hbel11 := ext_trans hbel10 hs10
            rw [Hs.out]
            go_wp2_with fail
            refine (same_any B C cb cc b c _ ((tb.below hbel11).more hbel11.size) ((tc.below hbel11).more hbel11.size) lb).mono ?_
            rintro e w12 ⟨rfl, hs11⟩
            have hbel12 := ext_trans hbel11 hs11
            cases ht2 : sameB b c
            · go_wp2_with fail
              go_ret
              exact ⟨rfl, hbel12⟩
            · have Hac := Lib.hid (Htrans.out Hs.out ht2)
              go_wp2_with fail
              refine (same_any A C ca cc a c _ ((ta.below hbel12).more hbel12.size) ((tc.below hbel12).more hbel12.size) la).mono ?_
              rintro e w13 ⟨rfl, hs12⟩
              have hbel13 := ext_trans hbel12 hs12
              rw [Hac.out]
              go_wp2_with fail
              go_ret
              exact ⟨rfl, hbel13⟩

theorem tySames_law (A B C : Option Addr) (ca cb cc : Nat) (a b c : List Nd) (w : World) (ta : TyA w w.heap.size A a) (tb : TyA w w.heap.size B b) (tc : TyA w w.heap.size C c) (_ : a.length ≤ ca) (_ : b.length ≤ cb) (_ : c.length ≤ cc)
    (la : a.length ≤ 9223372036854775807) (lb : b.length ≤ 9223372036854775807) (lc : c.length ≤ 9223372036854775807) (_ : ∀ x ∈ a, x.Ok) (_ : ∀ x ∈ b, x.Ok) (_ : ∀ x ∈ c, x.Ok) (ht : Tab w w.heap.size) :
    Calls Tryd.prog 5 #[.slice A a.length ca, .slice B b.length cb, .slice C c.length cc] w fun e w' => e = .returned (.bool true) ∧ Below w.heap.size w w' := by
  cases hna : namedB a
  · have Hna := Lib.hid hna
    clear hna
    go_enter Tryd.func5, Tryd.ntmps5
    go_wp2_with fail
    refine (named_any A ca _ a _ ta la).mono ?_
    rintro e w1 ⟨rfl, rfl⟩
    rw [Hna.out]
    go_wp2_with fail
    refine (alive_any _ ht).mono ?_
    rintro e w2 ⟨rfl, hb⟩
    go_wp2_with fail
    go_ret
    exact ⟨rfl, hb⟩
  · cases hnb : namedB b
    · have Hna := Lib.hid hna
      have Hnb := Lib.hid hnb
      clear hna hnb
      go_enter Tryd.func5, Tryd.ntmps5
      go_wp2_with fail
      refine (named_any A ca _ a _ ta la).mono ?_
      rintro e w1 ⟨rfl, rfl⟩
      rw [Hna.out]
      go_wp2_with fail
      refine (named_any B cb _ b _ tb lb).mono ?_
      rintro e w1 ⟨rfl, rfl⟩
      rw [Hnb.out]
      go_wp2_with fail
      refine (alive_any _ ht).mono ?_
      rintro e w2 ⟨rfl, hb⟩
      go_wp2_with fail
      go_ret
      exact ⟨rfl, hb⟩
    · cases hnc : namedB c
      · have Hna := Lib.hid hna
        have Hnb := Lib.hid hnb
        have Hnc := Lib.hid hnc
        clear hna hnb hnc
        go_enter Tryd.func5, Tryd.ntmps5
        go_wp2_with fail
        refine (named_any A ca _ a _ ta la).mono ?_
        rintro e w1 ⟨rfl, rfl⟩
        rw [Hna.out]
        go_wp2_with fail
        refine (named_any B cb _ b _ tb lb).mono ?_
        rintro e w1 ⟨rfl, rfl⟩
        rw [Hnb.out]
        go_wp2_with fail
        refine (named_any C cc _ c _ tc lc).mono ?_
        rintro e w1 ⟨rfl, rfl⟩
        rw [Hnc.out]
        go_wp2_with fail
        refine (alive_any _ ht).mono ?_
        rintro e w2 ⟨rfl, hb⟩
        go_wp2_with fail
        go_ret
        exact ⟨rfl, hb⟩
      · exact tySames_go A B C ca cb cc a b c w ta tb tc la lb lc ht hna hnb hnc
end Go.Proofs.YtblfeokjlecgkaaDoor
