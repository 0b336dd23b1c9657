/- Laid together by a tool from the texts of this seat: SymB SymM SymG. Conditions: each theorem's own. -/
import Derived.Test.YtblfeokjlecgkaaO17
import Derived.Test.YtblfeokjlecgkaaO04
import Derived.IntWalk
/- slices.insertionSort at children, by their labels, walked. -/
namespace Go.Proofs.Ytblfeokjlecgkaa
open Go.RowKit

attribute [local go_sem ↓] Go.wp_at_zero Go.wp_at_succ

/-- Children in the order of their labels. -/
def leC (x y : ByteArray × Nat) : Prop := ltB y.1 x.1 = false

theorem leC_trans (x y z : ByteArray × Nat) (h : leC x y) (k : leC y z) : leC x z := ltB_ntrans k h
theorem leC_of_lt {x y : ByteArray × Nat} (h : ltB x.1 y.1 = true) : leC x y := by
  unfold leC
  cases e : ltB y.1 x.1
  · rfl
  · have := ltB_trans h e
    rw [ltB_irrefl] at this
    cases this

theorem cmpS_lt (a b : ByteArray) : decide (cmpS a b < 0) = ltB a b := by
  unfold cmpS ltB
  cases Op.bytesLess a.toList b.toList
  · simp
    split <;> omega
  · simp

set_option maxHeartbeats 400000 in
theorem cmpC_any (a b : ByteArray) (p q : Option Addr) (w : World) :
    Calls Try.prog 140 #[.agg #[.string a, .pointer p], .agg #[.string b, .pointer q]] w fun e w' => e = .returned (.int .i64 (cmpS a b)) ∧ Below w.heap.size w w' := by
  go_enter Try.func140, Try.ntmps140
  go_wp2_with (go_at_call 135; refine (compare_any a b _).mono ?_; rintro e w' ⟨rfl, rfl⟩)
  go_ret
  exact ⟨rfl, ((Below.refl _ _).alloc (Nat.le_refl _) _).alloc (by simp) _⟩

/-- The comparison as a value. -/
abbrev cmpV : Value := .func (.func 140) #[] #[]

theorem grown_below {a b c : World} {row : Option Nat} (h : a.grownBy b row) (k : Below b.heap.size b c) : a.grownBy c row :=
  ⟨k.os.trans h.os, k.tape.trans h.tape, k.output.trans h.output, Nat.le_trans h.size k.size, fun i hi hne => (k.block i (Nat.lt_of_lt_of_le hi h.size)).trans (h.block i hi hne)⟩

theorem InsI.next1 {α : Type} {le : α → α → Prop} {l : List α} {a j i : Nat} {x z : α} (h : InsI le l a j i x) (hz : l[j - 1]? = some z) (hxz : le x z) (haj : a < j) (hl : j < l.length) : InsI le (swL l j (j - 1)) a (j - 1) i x := by
  cases j with
  | zero => omega
  | succ j => exact h.next hz hxz (by omega) hl

set_option maxRecDepth 100000 in
set_option maxHeartbeats 4000000 in
theorem insertion_at (base g cap : Nat) (l0 : List (ByteArray × Nat)) (a b L : Nat) (ai bi : Int) (w : World) (h : OwnC w base (some ⟨g, 0, none⟩) cap l0) (hL : l0.length = L) (ha : ai = a) (hb : bi = b) (hab : a ≤ b) (hbl : b ≤ L) (hl : L ≤ 1000000) :
    Calls Try.prog 212 #[.slice (some ⟨g, 0, none⟩) L cap, .int .i64 ai, .int .i64 bi, cmpV] w (SymPost base g cap a b l0 (fun l' => Srt leC l' a b) w) := by
  subst ha hb
  have HM := Lib.hid h
  have HL := Lib.hid hL
  clear h hL
  go_enter Try.func212, Try.ntmps212
  go_wp2_with fail
  go_loopw [8] (fun s8 wr => ∃ (i : Nat) (l : List (ByteArray × Nat)), s8 = .int .i64 i ∧ a < i ∧ (i ≤ b ∨ i = a + 1) ∧ Hid (Srt leC l a i ∧ Mv a b l0 l ∧ OwnC wr base (some ⟨g, 0, none⟩) cap l ∧ w.grownBy wr (some g))) (fun s8 _ => b - (intOf s8).toNat)
  case atStart => exact ⟨a + 1, l0, congrArg (Value.int .i64) (by omega), by omega, by omega, Lib.hid ⟨Srt.one _ _ _ (Nat.le_refl _), Mv.refl _ _ _, HM.out, World.grownBy.refl _ _⟩⟩
  case round =>
    obtain ⟨i, l, rfl, hai, hib, M⟩ := hrel
    clear HM
    have hl1 : Hid (l.length = L) := Lib.hid (M.out.2.1.len.trans HL.out)
    by_cases hp : i < b
    · obtain ⟨x, hx⟩ := getq_ex (l := l) (i := i) (by have := hl1.out; omega)
      have Hx := Lib.hid hx
      clear hx
      go_wp2_with fail
      obtain ⟨wo, rfl⟩ : ∃ wo : World, wo = wr := ⟨_, rfl⟩
      go_loopw [9] (fun s9 wr => ∃ (j : Nat) (l : List (ByteArray × Nat)), s9 = .int .i64 j ∧ a ≤ j ∧ j ≤ i ∧ Hid (InsI leC l a j i x ∧ Mv a b l0 l ∧ OwnC wr base (some ⟨g, 0, none⟩) cap l ∧ w.grownBy wr (some g))) (fun s9 _ => (intOf s9).toNat)
      case atStart => exact ⟨i, l, rfl, by omega, Nat.le_refl _, Lib.hid ⟨InsI.start M.out.1 Hx.out, M.out.2⟩⟩
      case round =>
        clear M Hx hl1
        obtain ⟨j, l, rfl, haj, hji, M⟩ := hrel
        have hl1 : Hid (l.length = L) := Lib.hid (M.out.2.1.len.trans HL.out)
        by_cases haj2 : a < j
        · have hd : decide (a < j) = true := decide_eq_true haj2
          obtain ⟨z, hz⟩ := getq_ex (l := l) (i := j - 1) (by have := hl1.out; omega)
          have Hz := Lib.hid hz
          clear hz
          obtain ⟨_, hgl, x0, x1, fx0, fx1⟩ := M.out.2.2.1.at_ M.out.1.at_
          obtain ⟨_, _, z0, z1, fz0, fz1⟩ := M.out.2.2.1.at_ Hz.out
          have sj : IntKind.i64.wrap ((j : Int) - 1) = (j : Int) - 1 := IntWalk.i64_in _ (by omega)
          have ij0 : (0 : Int) ≤ (j : Int) - 1 := by omega
          have ij1 : (j : Int) - 1 < (L : Int) := by omega
          have ij2 : ((j : Int) - 1).toNat = j - 1 := by omega
          have ij3 : (1 : Int) ≤ (j : Int) := by omega
          have ik0 : (0 : Int) ≤ (j : Int) := by omega
          have ik1 : (j : Int) < (L : Int) := by omega
          have ik2 : j < L := by omega
          cases hlt : ltB x.1 z.1
          · have hd2 : decide (cmpS x.1 z.1 < 0) = false := by rw [cmpS_lt, hlt]
            have Hlt := Lib.hid hlt
            clear hlt fx0 fx1 fz0 fz1
            go_wp2_with fail
            go_region_held3 (fun v => v.cell? ⟨g, j * 2, none⟩ = some (.string x.1) ∧ v.cell? ⟨g, j * 2 + 1, none⟩ = some (.pointer (some ⟨x.2, 0, none⟩)) ∧ v.cell? ⟨g, (j - 1) * 2, none⟩ = some (.string z.1) ∧ v.cell? ⟨g, (j - 1) * 2 + 1, none⟩ = some (.pointer (some ⟨z.2, 0, none⟩))) (first | go_keep | exact ⟨y0, y1, t0, t1⟩)
              ((go_at_call 140; (with_reducible refine (cmpC_any _ _ _ _ _).mono ?_); rintro e w1 ⟨rfl, hb1⟩; have y0 := (hb1.cell (p := ⟨g, j * 2, none⟩) hgl).trans x0; have y1 := (hb1.cell (p := ⟨g, j * 2 + 1, none⟩) hgl).trans x1; have t0 := (hb1.cell (p := ⟨g, (j - 1) * 2, none⟩) hgl).trans z0; have t1 := (hb1.cell (p := ⟨g, (j - 1) * 2 + 1, none⟩) hgl).trans z1; have HB1 : Hid (Below wr.heap.size wr w1) := Lib.hid (by first | exact hb1 | exact (Below.refl _ _).drew.trans hb1); clear hb1))
            have MW : Hid (OwnC w1 base (some ⟨g, 0, none⟩) cap l ∧ w.grownBy w1 (some g)) := Lib.hid (And.intro (OwnL.below M.out.2.2.1 HB1.out (Nat.le_refl _)) (grown_below M.out.2.2.2 HB1.out))
            clear x0 x1 z0 z1 y0 y1 t0 t1 HB1 sj ij0 ij1 ij2 ij3 ik0 ik1 ik2 hgl
            go_wp2_with fail
            go_roundw
            case rel =>
              exact ⟨i + 1, l, by go_num, by omega, by omega, Lib.hid ⟨M.out.1.stop leC_trans (.inr ⟨z, Hz.out, Hlt.out⟩), M.out.2.1, MW.out.1, MW.out.2⟩⟩
            case measure => simp [intOf]; omega
          · have hd2 : decide (cmpS x.1 z.1 < 0) = true := by rw [cmpS_lt, hlt]
            have Hlt := Lib.hid hlt
            clear hlt fx0 fx1 fz0 fz1
            go_wp2_with fail
            go_region_held3 (fun v => v.cell? ⟨g, j * 2, none⟩ = some (.string x.1) ∧ v.cell? ⟨g, j * 2 + 1, none⟩ = some (.pointer (some ⟨x.2, 0, none⟩)) ∧ v.cell? ⟨g, (j - 1) * 2, none⟩ = some (.string z.1) ∧ v.cell? ⟨g, (j - 1) * 2 + 1, none⟩ = some (.pointer (some ⟨z.2, 0, none⟩))) (first | go_keep | exact ⟨y0, y1, t0, t1⟩)
              ((go_at_call 140; (with_reducible refine (cmpC_any _ _ _ _ _).mono ?_); rintro e w1 ⟨rfl, hb1⟩; have y0 := (hb1.cell (p := ⟨g, j * 2, none⟩) hgl).trans x0; have y1 := (hb1.cell (p := ⟨g, j * 2 + 1, none⟩) hgl).trans x1; have t0 := (hb1.cell (p := ⟨g, (j - 1) * 2, none⟩) hgl).trans z0; have t1 := (hb1.cell (p := ⟨g, (j - 1) * 2 + 1, none⟩) hgl).trans z1; have HB1 : Hid (Below wr.heap.size wr w1) := Lib.hid (by first | exact hb1 | exact (Below.refl _ _).drew.trans hb1); clear hb1))
            have MW : Hid (OwnC w1 base (some ⟨g, 0, none⟩) cap l ∧ w.grownBy w1 (some g)) := Lib.hid (And.intro (OwnL.below M.out.2.2.1 HB1.out (Nat.le_refl _)) (grown_below M.out.2.2.2 HB1.out))
            clear x0 x1 z0 z1 y0 y1 t0 t1 HB1 hgl
            obtain ⟨_, hgl, x0, x1, fx0, fx1⟩ := MW.out.1.at_ M.out.1.at_
            obtain ⟨_, _, z0, z1, fz0, fz1⟩ := MW.out.1.at_ Hz.out
            have hjj : j ≠ j - 1 := by omega
            have Z1 := Lib.hid (fun k => swd_one MW.out.1 MW.out.2 hjj M.out.1.at_ Hz.out k)
            have Z2 := Lib.hid (fun k => swd_two MW.out.1 MW.out.2 hjj M.out.1.at_ Hz.out k)
            go_wp2_with fail
            go_region_law (fail)
            all_goals
              clear x0 x1 z0 z1 fx0 fx1 fz0 fz1 sj ij0 ij1 ij2 ij3 ik0 ik1 ik2 hgl
              go_wp2_with fail
              go_roundw
              case rel =>
                have hI := M.out.1.next1 Hz.out (leC_of_lt Hlt.out) haj2 (by have := hl1.out; omega)
                have hM : Mv a b l0 (swL l j (j - 1)) := M.out.2.1.trans (Mv.swap (by have := hl1.out; omega) (by have := hl1.out; omega) (by omega) (by omega) (by omega) (by omega))
                exact ⟨j - 1, swL l j (j - 1), congrArg (Value.int .i64) (by omega), by omega, by omega, Lib.hid ⟨hI, hM, by first | exact Z1.out 1 | exact Z2.out 1⟩⟩
              case measure => simp [intOf]; omega
        · have hd : decide (a < j) = false := decide_eq_false haj2
          go_wp2_with fail
          go_quiet (fail)
          go_wp2_with fail
          go_roundw
          case rel =>
            exact ⟨i + 1, l, by go_num, by omega, by omega, Lib.hid ⟨M.out.1.stop leC_trans (.inl (by omega)), M.out.2.1, M.out.2.2.1.drewN _, only_drewN M.out.2.2.2 _⟩⟩
          case measure => simp [intOf]; omega
    · go_wp2_with fail
      go_end0
      have e : i = b ∨ b ≤ a + 1 := by omega
      refine ⟨rfl, l, ?_, M.out.2.1, M.out.2.2.1, M.out.2.2.2⟩
      rcases e with rfl | e
      · exact M.out.1
      · exact Srt.one _ _ _ e
end Go.Proofs.Ytblfeokjlecgkaa

/- slices.symMerge at children, by their labels, walked: one element ahead of a run; one behind it. -/
namespace Go.Proofs.Ytblfeokjlecgkaa
open Go.RowKit

attribute [local go_sem ↓] Go.wp_at_zero Go.wp_at_succ

def SymAt (base g cap L a m b : Nat) : Prop :=
  ∀ (l0 : List (ByteArray × Nat)) (ai mi bi : Int) (w : World), OwnC w base (some ⟨g, 0, none⟩) cap l0 → l0.length = L → ai = a → mi = m → bi = b → a < m → m < b → b ≤ L → Srt leC l0 a m → Srt leC l0 m b →
    Calls Try.prog 213 #[.slice (some ⟨g, 0, none⟩) L cap, .int .i64 ai, .int .i64 mi, .int .i64 bi, cmpV] w (SymPost base g cap a b l0 (fun l' => Srt leC l' a b) w)

set_option maxRecDepth 100000 in
set_option maxHeartbeats 4000000 in
theorem symMerge_one (base g cap L a m b : Nat) (hl : L ≤ 1000000) (hone : m = a + 1) : SymAt base g cap L a m b := by
  intro l0 ai mi bi w h hL ha hm hb ham hmb hbl s1 s2
  subst ha hm hb
  obtain ⟨x, hx⟩ := getq_ex (l := l0) (i := a) (by omega)
  have HM := Lib.hid h
  have HL := Lib.hid hL
  have H2 := Lib.hid s2
  have Hx := Lib.hid hx
  have hmE : (m : Int) - (a : Int) = 1 := by omega
  have HO := Lib.hid hone
  clear h hL s1 s2 hx hone
  go_enter Try.func213, Try.ntmps213
  go_wp2_with fail
  clear hmE
  go_loopw [10, 11] (fun s10 s11 wr => ∃ (i j : Nat), s10 = .int .i64 i ∧ s11 = .int .i64 j ∧ m ≤ i ∧ i ≤ j ∧ j ≤ b ∧ Hid ((∀ k y, m ≤ k → k < i → l0[k]? = some y → leC y x) ∧ (∀ k y, j ≤ k → k < b → l0[k]? = some y → leC x y) ∧ OwnC wr base (some ⟨g, 0, none⟩) cap l0 ∧ w.grownBy wr (some g))) (fun s10 s11 _ => (intOf s11).toNat - (intOf s10).toNat)
  case atStart => exact ⟨m, b, rfl, rfl, Nat.le_refl _, by omega, Nat.le_refl _, Lib.hid ⟨fun k y h1 h2 => by omega, fun k y h1 h2 => by omega, HM.out, World.grownBy.refl _ _⟩⟩
  case round =>
    obtain ⟨i, j, rfl, rfl, hi, hij, hj, M⟩ := hrel
    clear HM
    by_cases hp : i < j
    · obtain ⟨c, hc⟩ : ∃ c, c = (i + j) / 2 := ⟨_, rfl⟩
      have hc1 : i ≤ c := by omega
      have hc2 : c < j := by omega
      have hcE : ((i : Int) + (j : Int)) / 2 = (c : Int) := by omega
      clear hc
      obtain ⟨y, hy⟩ := getq_ex (l := l0) (i := c) (by have := HL.out; omega)
      have Hy := Lib.hid hy
      clear hy
      have hcb : c ≤ b := by omega
      have LO : Hid (ltB y.1 x.1 = true → ∀ k z, m ≤ k → k < c + 1 → l0[k]? = some z → leC z x) := Lib.hid fun hlt k z h1 h2 hz => by
        by_cases e : k = c
        · subst e
          rw [Hy.out] at hz
          injection hz with hz
          subst hz
          exact leC_of_lt hlt
        · exact leC_trans _ _ _ (H2.out k c z y (by omega) (by omega) (by omega) hz Hy.out) (leC_of_lt hlt)
      have HI : Hid (ltB y.1 x.1 = false → ∀ k z, c ≤ k → k < b → l0[k]? = some z → leC x z) := Lib.hid fun hlt k z h1 h2 hz => by
        by_cases e : k = c
        · subst e
          rw [Hy.out] at hz
          injection hz with hz
          subst hz
          exact hlt
        · exact leC_trans _ _ _ (show leC x y from hlt) (H2.out c k y z (by omega) (by omega) h2 Hy.out hz)
      obtain ⟨_, hgl, x0, x1, _, _⟩ := M.out.2.2.1.at_ Hx.out
      obtain ⟨_, _, z0, z1, _, _⟩ := M.out.2.2.1.at_ Hy.out
      go_wp2_with fail
      have HcE := Lib.hid hcE
      clear hcE
      have ic0 : (0 : Int) ≤ (c : Int) := by omega
      have ic1 : (c : Int) < (L : Int) := by omega
      have ic2 : c < L := by omega
      have ia0 : (0 : Int) ≤ (a : Int) := by omega
      have ia1 : (a : Int) < (L : Int) := by omega
      have ia2 : a < L := by omega
      cases hlt : ltB y.1 x.1
      all_goals
        have hd2 := cmpS_lt y.1 x.1
        rw [hlt] at hd2
        have Hlt := Lib.hid hlt
        clear hlt
        go_region_held3 (fun v => v.cell? ⟨g, a * 2, none⟩ = some (.string x.1) ∧ v.cell? ⟨g, a * 2 + 1, none⟩ = some (.pointer (some ⟨x.2, 0, none⟩)) ∧ v.cell? ⟨g, c * 2, none⟩ = some (.string y.1) ∧ v.cell? ⟨g, c * 2 + 1, none⟩ = some (.pointer (some ⟨y.2, 0, none⟩))) (first | go_keep | exact ⟨y0, y1, t0, t1⟩)
          ((go_at_call 140; (with_reducible refine (cmpC_any _ _ _ _ _).mono ?_); rintro e w1 ⟨rfl, hb1⟩; have y0 := (hb1.cell (p := ⟨g, a * 2, none⟩) hgl).trans x0; have y1 := (hb1.cell (p := ⟨g, a * 2 + 1, none⟩) hgl).trans x1; have t0 := (hb1.cell (p := ⟨g, c * 2, none⟩) hgl).trans z0; have t1 := (hb1.cell (p := ⟨g, c * 2 + 1, none⟩) hgl).trans z1; have HB1 : Hid (Below wr.heap.size wr w1) := Lib.hid (by first | exact hb1 | exact (Below.refl _ _).drew.trans hb1); clear hb1))

        have MW : Hid (OwnC w1 base (some ⟨g, 0, none⟩) cap l0 ∧ w.grownBy w1 (some g)) := Lib.hid (And.intro (OwnL.below M.out.2.2.1 HB1.out (Nat.le_refl _)) (grown_below M.out.2.2.2 HB1.out))
        clear x0 x1 z0 z1 y0 y1 t0 t1 HB1 hgl ic0 ic1 ia0 ia1
        go_wp2_with fail
        go_roundw
        case measure => simp [intOf]; omega
        case rel => first
          | exact ⟨i, c, rfl, rfl, hi, hc1, hcb, Lib.hid ⟨M.out.1, HI.out Hlt.out, MW.out.1, MW.out.2⟩⟩
          | exact ⟨c + 1, j, by go_num, rfl, by omega, by omega, hj, Lib.hid ⟨LO.out Hlt.out, M.out.2.1, MW.out.1, MW.out.2⟩⟩
    · have hie : i = j := by omega
      subst hie
      have hi1 : (1 : Int) ≤ (i : Int) := by omega
      go_wp2_with fail
      have MI := Lib.hid M.out
      clear M
      obtain ⟨wo, rfl⟩ : ∃ wo : World, wo = wr := ⟨_, rfl⟩
      go_loopw [13] (fun s13 wr => ∃ (k : Nat) (l : List (ByteArray × Nat)), s13 = .int .i64 k ∧ a ≤ k ∧ k + 1 ≤ i ∧ Hid (Fwd a k l0 l ∧ Mv a b l0 l ∧ OwnC wr base (some ⟨g, 0, none⟩) cap l ∧ w.grownBy wr (some g))) (fun s13 _ => i - (intOf s13).toNat)
      case atStart => exact ⟨a, l0, rfl, Nat.le_refl _, by omega, Lib.hid ⟨Fwd.zero a l0, Mv.refl _ _ _, MI.out.2.2.1, MI.out.2.2.2⟩⟩
      case round =>
        obtain ⟨k, l, rfl, hak, hki, M⟩ := hrel
        have hl1 : Hid (l.length = L) := Lib.hid (M.out.2.1.len.trans HL.out)
        by_cases hk : k + 1 < i
        · obtain ⟨y, hy⟩ := getq_ex (l := l) (i := k) (by have := hl1.out; omega)
          obtain ⟨z, hz⟩ := getq_ex (l := l) (i := k + 1) (by have := hl1.out; omega)
          have Hy := Lib.hid (And.intro hy hz)
          clear hy hz
          obtain ⟨_, hgl, x0, x1, fx0, fx1⟩ := M.out.2.2.1.at_ Hy.out.1
          obtain ⟨_, _, z0, z1, fz0, fz1⟩ := M.out.2.2.1.at_ Hy.out.2
          have hkd : decide ((k : Int) < (i : Int) - 1) = true := decide_eq_true (by omega)
          have sj : IntKind.i64.wrap ((k : Int) + 1) = (k : Int) + 1 := IntWalk.i64_in _ (by omega)
          have ij0 : (0 : Int) ≤ (k : Int) + 1 := by omega
          have ij1 : (k : Int) + 1 < (L : Int) := by omega
          have ij2 : ((k : Int) + 1).toNat = k + 1 := by omega
          have ik0 : (0 : Int) ≤ (k : Int) := by omega
          have ik1 : (k : Int) < (L : Int) := by omega
          have ik2 : k < L := by omega
          have hjj : k ≠ k + 1 := by omega
          have Z1 := Lib.hid (fun n => swd_one M.out.2.2.1 M.out.2.2.2 hjj Hy.out.1 Hy.out.2 n)
          have Z2 := Lib.hid (fun n => swd_two M.out.2.2.1 M.out.2.2.2 hjj Hy.out.1 Hy.out.2 n)
          go_wp2_with fail
          go_region_law (fail)
          all_goals
            clear x0 x1 z0 z1 fx0 fx1 fz0 fz1 sj ij0 ij1 ij2 ik0 ik1 ik2 hgl hjj
            go_wp2_with fail
            go_roundw
            case rel =>
              have hM : Mv a b l0 (swL l k (k + 1)) := M.out.2.1.trans (Mv.swap (by have := hl1.out; omega) (by have := hl1.out; omega) (by omega) (by omega) (by omega) (by omega))
              exact ⟨k + 1, swL l k (k + 1), by go_num, by omega, by omega, Lib.hid ⟨M.out.1.next hak (by have := hl1.out; omega), hM, by first | exact Z1.out 1 | exact Z2.out 1⟩⟩
            case measure => simp [intOf]; omega
        · have hkd : decide ((k : Int) < (i : Int) - 1) = false := decide_eq_false (by omega)
          go_wp2_with fail
          go_end0
          have hm1 := HO.out
          refine ⟨rfl, l, ?_, M.out.2.1, M.out.2.2.1, M.out.2.2.2⟩
          exact fwd_srt leC_trans M.out.1 hak (by omega) Hx.out (by rw [← hm1]; exact H2.out) (fun j y h1 h2 hy => MI.out.1 j y (by omega) (by omega) hy) (fun j y h1 h2 hy => MI.out.2.1 j y (by omega) (by omega) hy)

theorem Bwd.next1 {α : Type} {c m : Nat} {l l' : List α} (h : Bwd c m l l') (hc0 : 0 < c) (hcm : c ≤ m) (hc : c < l'.length) : Bwd (c - 1) m l (swL l' c (c - 1)) := by
  cases c with
  | zero => omega
  | succ c => exact h.next hcm hc

set_option maxRecDepth 100000 in
set_option maxHeartbeats 4000000 in
theorem symMerge_last (base g cap L a m b : Nat) (hl : L ≤ 1000000) (hone : b = m + 1) (hno : m ≠ a + 1) : SymAt base g cap L a m b := by
  intro l0 ai mi bi w h hL ha hm hb ham hmb hbl s1 s2
  subst ha hm hb
  obtain ⟨x, hx⟩ := getq_ex (l := l0) (i := m) (by omega)
  have HM := Lib.hid h
  have HL := Lib.hid hL
  have H2 := Lib.hid s1
  have Hx := Lib.hid hx
  have hmE : (b : Int) - (m : Int) = 1 := by omega
  have hmF : ((m : Int) - (a : Int) == 1) = false := by simp; omega
  have HNo := Lib.hid hno
  have HO := Lib.hid hone
  clear h hL s1 s2 hx hone hno
  go_enter Try.func213, Try.ntmps213
  go_wp2_with fail
  clear hmE
  go_loopw [14, 15] (fun s10 s11 wr => ∃ (i j : Nat), s10 = .int .i64 i ∧ s11 = .int .i64 j ∧ a ≤ i ∧ i ≤ j ∧ j ≤ m ∧ Hid ((∀ k y, a ≤ k → k < i → l0[k]? = some y → leC y x) ∧ (∀ k y, j ≤ k → k < m → l0[k]? = some y → leC x y) ∧ OwnC wr base (some ⟨g, 0, none⟩) cap l0 ∧ w.grownBy wr (some g))) (fun s10 s11 _ => (intOf s11).toNat - (intOf s10).toNat)
  case atStart => exact ⟨a, m, rfl, rfl, Nat.le_refl _, by omega, Nat.le_refl _, Lib.hid ⟨fun k y h1 h2 => by omega, fun k y h1 h2 => by omega, HM.out, World.grownBy.refl _ _⟩⟩
  case round =>
    obtain ⟨i, j, rfl, rfl, hi, hij, hj, M⟩ := hrel
    clear HM
    by_cases hp : i < j
    · obtain ⟨c, hc⟩ : ∃ c, c = (i + j) / 2 := ⟨_, rfl⟩
      have hc1 : i ≤ c := by omega
      have hc2 : c < j := by omega
      have hcE : ((i : Int) + (j : Int)) / 2 = (c : Int) := by omega
      clear hc
      obtain ⟨y, hy⟩ := getq_ex (l := l0) (i := c) (by have := HL.out; omega)
      have Hy := Lib.hid hy
      clear hy
      have hcb : c ≤ m := by omega
      have LO : Hid (ltB x.1 y.1 = false → ∀ k z, a ≤ k → k < c + 1 → l0[k]? = some z → leC z x) := Lib.hid fun hlt k z h1 h2 hz => by
        by_cases e : k = c
        · subst e
          rw [Hy.out] at hz
          injection hz with hz
          subst hz
          exact hlt
        · exact leC_trans _ _ _ (H2.out k c z y (by omega) (by omega) (by omega) hz Hy.out) (show leC y x from hlt)
      have HI : Hid (ltB x.1 y.1 = true → ∀ k z, c ≤ k → k < m → l0[k]? = some z → leC x z) := Lib.hid fun hlt k z h1 h2 hz => by
        by_cases e : k = c
        · subst e
          rw [Hy.out] at hz
          injection hz with hz
          subst hz
          exact leC_of_lt hlt
        · exact leC_trans _ _ _ (leC_of_lt hlt) (H2.out c k y z (by omega) (by omega) h2 Hy.out hz)
      obtain ⟨_, hgl, x0, x1, _, _⟩ := M.out.2.2.1.at_ Hx.out
      obtain ⟨_, _, z0, z1, _, _⟩ := M.out.2.2.1.at_ Hy.out
      go_wp2_with fail
      have HcE := Lib.hid hcE
      clear hcE
      have ic0 : (0 : Int) ≤ (c : Int) := by omega
      have ic1 : (c : Int) < (L : Int) := by omega
      have ic2 : c < L := by omega
      have ia0 : (0 : Int) ≤ (m : Int) := by omega
      have ia1 : (m : Int) < (L : Int) := by omega
      have ia2 : m < L := by omega
      cases hlt : ltB x.1 y.1
      all_goals
        have hd2 := cmpS_lt x.1 y.1
        rw [hlt] at hd2
        have Hlt := Lib.hid hlt
        clear hlt
        go_region_held3 (fun v => v.cell? ⟨g, m * 2, none⟩ = some (.string x.1) ∧ v.cell? ⟨g, m * 2 + 1, none⟩ = some (.pointer (some ⟨x.2, 0, none⟩)) ∧ v.cell? ⟨g, c * 2, none⟩ = some (.string y.1) ∧ v.cell? ⟨g, c * 2 + 1, none⟩ = some (.pointer (some ⟨y.2, 0, none⟩))) (first | go_keep | exact ⟨y0, y1, t0, t1⟩)
          ((go_at_call 140; (with_reducible refine (cmpC_any _ _ _ _ _).mono ?_); rintro e w1 ⟨rfl, hb1⟩; have y0 := (hb1.cell (p := ⟨g, m * 2, none⟩) hgl).trans x0; have y1 := (hb1.cell (p := ⟨g, m * 2 + 1, none⟩) hgl).trans x1; have t0 := (hb1.cell (p := ⟨g, c * 2, none⟩) hgl).trans z0; have t1 := (hb1.cell (p := ⟨g, c * 2 + 1, none⟩) hgl).trans z1; have HB1 : Hid (Below wr.heap.size wr w1) := Lib.hid (by first | exact hb1 | exact (Below.refl _ _).drew.trans hb1); clear hb1))

        have MW : Hid (OwnC w1 base (some ⟨g, 0, none⟩) cap l0 ∧ w.grownBy w1 (some g)) := Lib.hid (And.intro (OwnL.below M.out.2.2.1 HB1.out (Nat.le_refl _)) (grown_below M.out.2.2.2 HB1.out))
        clear x0 x1 z0 z1 y0 y1 t0 t1 HB1 hgl ic0 ic1 ia0 ia1
        go_wp2_with fail
        go_roundw
        case measure => simp [intOf]; omega
        case rel => first
          | exact ⟨i, c, rfl, rfl, hi, hc1, hcb, Lib.hid ⟨M.out.1, HI.out Hlt.out, MW.out.1, MW.out.2⟩⟩
          | exact ⟨c + 1, j, by go_num, rfl, by omega, by omega, hj, Lib.hid ⟨LO.out Hlt.out, M.out.2.1, MW.out.1, MW.out.2⟩⟩
    · have hie : i = j := by omega
      subst hie
      go_wp2_with fail
      have MI := Lib.hid M.out
      clear M
      obtain ⟨wo, rfl⟩ : ∃ wo : World, wo = wr := ⟨_, rfl⟩
      go_loopw [17] (fun s13 wr => ∃ (k : Nat) (l : List (ByteArray × Nat)), s13 = .int .i64 k ∧ i ≤ k ∧ k ≤ m ∧ Hid (Bwd k m l0 l ∧ Mv a b l0 l ∧ OwnC wr base (some ⟨g, 0, none⟩) cap l ∧ w.grownBy wr (some g))) (fun s13 _ => (intOf s13).toNat)
      case atStart => exact ⟨m, l0, rfl, by omega, Nat.le_refl _, Lib.hid ⟨Bwd.zero m l0, Mv.refl _ _ _, MI.out.2.2.1, MI.out.2.2.2⟩⟩
      case round =>
        obtain ⟨k, l, rfl, hak, hki, M⟩ := hrel
        have hl1 : Hid (l.length = L) := Lib.hid (M.out.2.1.len.trans HL.out)
        by_cases hk : i < k
        · obtain ⟨y, hy⟩ := getq_ex (l := l) (i := k) (by have := hl1.out; omega)
          obtain ⟨z, hz⟩ := getq_ex (l := l) (i := k - 1) (by have := hl1.out; omega)
          have Hy := Lib.hid (And.intro hy hz)
          clear hy hz
          obtain ⟨_, hgl, x0, x1, fx0, fx1⟩ := M.out.2.2.1.at_ Hy.out.1
          obtain ⟨_, _, z0, z1, fz0, fz1⟩ := M.out.2.2.1.at_ Hy.out.2
          have hkd : decide (i < k) = true := decide_eq_true hk
          have ij3 : (1 : Int) ≤ (k : Int) := by omega
          have sj : IntKind.i64.wrap ((k : Int) - 1) = (k : Int) - 1 := IntWalk.i64_in _ (by omega)
          have ij0 : (0 : Int) ≤ (k : Int) - 1 := by omega
          have ij1 : (k : Int) - 1 < (L : Int) := by omega
          have ij2 : ((k : Int) - 1).toNat = k - 1 := by omega
          have ik0 : (0 : Int) ≤ (k : Int) := by omega
          have ik1 : (k : Int) < (L : Int) := by omega
          have ik2 : k < L := by omega
          have hjj : k ≠ k - 1 := by omega
          have Z1 := Lib.hid (fun n => swd_one M.out.2.2.1 M.out.2.2.2 hjj Hy.out.1 Hy.out.2 n)
          have Z2 := Lib.hid (fun n => swd_two M.out.2.2.1 M.out.2.2.2 hjj Hy.out.1 Hy.out.2 n)
          go_wp2_with fail
          go_region_law (fail)
          all_goals
            clear x0 x1 z0 z1 fx0 fx1 fz0 fz1 sj ij0 ij1 ij2 ij3 ik0 ik1 ik2 hgl hjj
            go_wp2_with fail
            go_roundw
            case rel =>
              have hM : Mv a b l0 (swL l k (k - 1)) := M.out.2.1.trans (Mv.swap (by have := hl1.out; omega) (by have := hl1.out; omega) (by omega) (by omega) (by omega) (by omega))
              exact ⟨k - 1, swL l k (k - 1), congrArg (Value.int .i64) (by omega), by omega, by omega, Lib.hid ⟨M.out.1.next1 (by omega) hki (by have := hl1.out; omega), hM, by first | exact Z1.out 1 | exact Z2.out 1⟩⟩
            case measure => simp [intOf]; omega
        · have hkd : decide (i < k) = false := decide_eq_false hk
          go_wp2_with fail
          go_end0
          have hm1 := HO.out
          refine ⟨rfl, l, ?_, M.out.2.1, M.out.2.2.1, M.out.2.2.2⟩
          rw [hm1]
          exact bwd_srt leC_trans M.out.1 (by omega) hki Hx.out H2.out (fun j y h1 h2 hy => MI.out.1 j y (by omega) (by omega) hy) (fun j y h1 h2 hy => MI.out.2.1 j y (by omega) (by omega) hy)
end Go.Proofs.Ytblfeokjlecgkaa

/- slices.symMerge at children, walked whole; slices.SortStableFunc. -/
namespace Go.Proofs.Ytblfeokjlecgkaa
open Go.RowKit

attribute [local go_sem ↓] Go.wp_at_zero Go.wp_at_succ

/-- Where the search of a merge begins and ends. -/
def lo0 (a m b mid : Nat) : Nat := if mid < m then mid + m - b else a
def hi0 (m mid : Nat) : Nat := if mid < m then mid else m

/-- What the search of a merge knows. -/
structure Srch (l : List (ByteArray × Nat)) (a m b mid s r : Nat) : Prop where
  lo : lo0 a m b mid ≤ s
  sr : s ≤ r
  hi : r ≤ hi0 m mid
  up : lo0 a m b mid < s → ∀ x y, l[s - 1]? = some x → l[mid + m - s]? = some y → leC x y
  dn : r < hi0 m mid → ∀ x y, l[mid + m - r - 1]? = some x → l[r]? = some y → leC x y

theorem Srch.start (l : List (ByteArray × Nat)) {a m b mid : Nat} (hmid : mid = (a + b) / 2) (ham : a < m) (hmb : m < b) : Srch l a m b mid (lo0 a m b mid) (hi0 m mid) := by
  refine ⟨Nat.le_refl _, ?_, Nat.le_refl _, fun h => absurd h (Nat.lt_irrefl _), fun h => absurd h (Nat.lt_irrefl _)⟩
  unfold lo0 hi0
  split <;> omega

theorem Srch.part {l : List (ByteArray × Nat)} {a m b mid s : Nat} (h : Srch l a m b mid s s) (hmid : mid = (a + b) / 2) (ham : a < m) (hmb : m < b) : Part leC l a m b mid s := by
  obtain ⟨h1, _, h3, up, dn⟩ := h
  unfold lo0 at h1 up
  unfold hi0 at h3 dn
  by_cases c : mid < m
  · rw [if_pos c] at h1 h3 up dn
    exact ⟨by omega, by omega, by omega, by omega, fun x y k1 k2 hx hy => up (by omega) x y hx hy, fun x y k1 k2 hx hy => dn (by omega) x y hx hy⟩
  · rw [if_neg c] at h1 h3 up dn
    exact ⟨by omega, by omega, by omega, by omega, fun x y k1 k2 hx hy => up (by omega) x y hx hy, fun x y k1 k2 hx hy => dn (by omega) x y hx hy⟩

/-- The places that a search looks at. -/
theorem Srch.bounds {l : List (ByteArray × Nat)} {a m b mid s r : Nat} (h : Srch l a m b mid s r) (hmid : mid = (a + b) / 2) (_ham : a < m) (_hmb : m < b) (_hsr : s < r) : a ≤ s ∧ r ≤ m ∧ r ≤ mid ∧ mid + m ≤ s + b := by
  obtain ⟨h1, _, h3, _, _⟩ := h
  unfold lo0 at h1
  unfold hi0 at h3
  by_cases c : mid < m
  · rw [if_pos c] at h1 h3
    omega
  · rw [if_neg c] at h1 h3
    omega

theorem Srch.right {l : List (ByteArray × Nat)} {a m b mid s r c : Nat} (h : Srch l a m b mid s r) (hs : s ≤ c) (hr : c < r) (hc : ∀ x y, l[c]? = some x → l[mid + m - 1 - c]? = some y → leC x y) : Srch l a m b mid (c + 1) r :=
  ⟨by have := h.lo; omega, by omega, h.hi, fun _ x y hx hy => hc x y (by simpa using hx) (by rw [← hy]; congr 1; omega), h.dn⟩

theorem Srch.left {l : List (ByteArray × Nat)} {a m b mid s r c : Nat} (h : Srch l a m b mid s r) (hs : s ≤ c) (hr : c < r) (hc : ∀ x y, l[mid + m - 1 - c]? = some x → l[c]? = some y → leC x y) : Srch l a m b mid s c :=
  ⟨h.lo, hs, by have := h.hi; omega, h.up, fun _ x y hx hy => hc x y (by rw [← hx]; congr 1; omega) hy⟩

set_option maxRecDepth 100000 in
set_option maxHeartbeats 8000000 in
theorem symMerge_more (base g cap L a m b : Nat) (hl : L ≤ 1000000) (hno1 : m ≠ a + 1) (hno2 : b ≠ m + 1) (ih : ∀ a' m' b', b' - a' < b - a → SymAt base g cap L a' m' b') : SymAt base g cap L a m b := by
  intro l0 ai mi bi w h hL ha hm hb ham hmb hbl s1 s2
  subst ha hm hb
  obtain ⟨mid, hmid⟩ : ∃ mid, mid = (a + b) / 2 := ⟨_, rfl⟩
  have HM := Lib.hid h
  have HL := Lib.hid hL
  have H1 := Lib.hid s1
  have H2 := Lib.hid s2
  have HIH := Lib.hid ih
  have HMid := Lib.hid hmid
  have hq1 : ((m : Int) - (a : Int) == 1) = false := by simp; omega
  have hq2 : ((b : Int) - (m : Int) == 1) = false := by simp; omega
  have hmE : ((a : Int) + (b : Int)) / 2 = (mid : Int) := by omega
  have hm1 : a < mid := by omega
  have hm2 : mid < b := by omega
  have HNo := Lib.hid (And.intro hno1 hno2)
  clear h hL s1 s2 ih hmid hno1 hno2
  go_enter Try.func213, Try.ntmps213
  go_upto_if 140 with fail
  go_cut [20, 21] (fun s20 s21 wx => ∃ p q : Nat, s20 = .int .i64 p ∧ s21 = .int .i64 q ∧ Hid (p = lo0 a m b mid ∧ q = hi0 m mid ∧ wx = w))
  case first => as_aux_lemma =>
    by_cases c : mid < m
    · have hcd : decide (mid < m) = true := decide_eq_true c
      go_wp2_with fail
      go_meet
      exact ⟨mid + m - b, mid, congrArg (Value.int .i64) (by have := HMid.out; omega), rfl, Lib.hid ⟨by unfold lo0; rw [if_pos c], by unfold hi0; rw [if_pos c], rfl⟩⟩
    · have hcd : decide (mid < m) = false := decide_eq_false c
      go_wp2_with fail
      go_meet
      exact ⟨a, m, rfl, rfl, Lib.hid ⟨by unfold lo0; rw [if_neg c], by unfold hi0; rw [if_neg c], rfl⟩⟩
  case rest =>
    obtain ⟨p0, q0, rfl, rfl, hpq⟩ := hcut
    have Hpq := Lib.hid (And.intro hpq.out.1 hpq.out.2.1)
    obtain rfl := hpq.out.2.2
    obtain ⟨w, rfl⟩ : ∃ w : World, w = wc := ⟨_, rfl⟩
    clear hpq hmE
    have hn1 : (1 : Int) ≤ (mid : Int) + (m : Int) := by omega
    go_wp2_with fail
    go_loopw [20, 21] (fun s20 s21 wr => ∃ (s r : Nat), s20 = .int .i64 s ∧ s21 = .int .i64 r ∧ s ≤ r ∧ r ≤ m ∧ Hid (Srch l0 a m b mid s r ∧ OwnC wr base (some ⟨g, 0, none⟩) cap l0 ∧ w.grownBy wr (some g))) (fun s20 s21 _ => (intOf s21).toNat - (intOf s20).toNat)
    case atStart =>
      have h0 := Srch.start l0 HMid.out ham hmb
      rw [← Hpq.out.1, ← Hpq.out.2] at h0
      refine ⟨p0, q0, rfl, rfl, h0.sr, ?_, Lib.hid ⟨h0, HM.out, World.grownBy.refl _ _⟩⟩
      rw [Hpq.out.2]
      unfold hi0
      split <;> omega
    case round =>
      obtain ⟨s, r, rfl, rfl, hsr, hrm, M⟩ := hrel
      clear HM
      by_cases hp : s < r
      · as_aux_lemma =>
        obtain ⟨k1, k2, k3, k4⟩ := M.out.1.bounds HMid.out ham hmb hp
        obtain ⟨c, hc⟩ : ∃ c, c = (s + r) / 2 := ⟨_, rfl⟩
        have hc1 : s ≤ c := by omega
        have hc2 : c < r := by omega
        have hcE : ((s : Int) + (r : Int)) / 2 = (c : Int) := by omega
        clear hc
        obtain ⟨d, hd⟩ : ∃ d, d = mid + m - 1 - c := ⟨_, rfl⟩
        obtain ⟨x, hx⟩ := getq_ex (l := l0) (i := c) (by have := HL.out; omega)
        obtain ⟨y, hy⟩ := getq_ex (l := l0) (i := d) (by have := HL.out; omega)
        have Hx := Lib.hid hx
        have Hy := Lib.hid hy
        clear hx hy
        obtain ⟨_, hgl, x0, x1, _, _⟩ := M.out.2.1.at_ Hx.out
        obtain ⟨_, _, z0, z1, _, _⟩ := M.out.2.1.at_ Hy.out
        go_wp2_with fail
        have HcE := Lib.hid hcE
        clear hcE
        have id0 : (0 : Int) ≤ (mid : Int) + (m : Int) - 1 - (c : Int) := by omega
        have id1 : (mid : Int) + (m : Int) - 1 - (c : Int) < (L : Int) := by omega
        have id4 : (c : Int) ≤ (mid : Int) + (m : Int) - 1 := by omega
        have id2 : ((mid : Int) + (m : Int) - 1 - (c : Int)).toNat = d := by omega
        have id3 : IntKind.i64.wrap ((mid : Int) + (m : Int) - 1 - (c : Int)) = (mid : Int) + (m : Int) - 1 - (c : Int) := IntWalk.i64_in _ (by omega)
        have ic0 : (0 : Int) ≤ (c : Int) := by omega
        have ic1 : (c : Int) < (L : Int) := by omega
        have ic2 : c < L := by omega
        have Hd := Lib.hid hd
        clear hd
        have RI : Hid (ltB y.1 x.1 = false → Srch l0 a m b mid (c + 1) r) := Lib.hid fun hlt => M.out.1.right hc1 hc2 fun u v hu hv => by
          rw [Hx.out] at hu
          rw [← Hd.out, Hy.out] at hv
          injection hu with hu
          injection hv with hv
          subst hu hv
          exact hlt
        have LE : Hid (ltB y.1 x.1 = true → Srch l0 a m b mid s c) := Lib.hid fun hlt => M.out.1.left hc1 hc2 fun u v hu hv => by
          rw [← Hd.out, Hy.out] at hu
          rw [Hx.out] at hv
          injection hu with hu
          injection hv with hv
          subst hu hv
          exact leC_of_lt hlt
        have hcm : c ≤ m := by omega
        cases hlt : ltB y.1 x.1
        all_goals
          have hd2 := cmpS_lt y.1 x.1
          rw [hlt] at hd2
          have Hlt := Lib.hid hlt
          clear hlt
          go_region_held3 (fun v => v.cell? ⟨g, c * 2, none⟩ = some (.string x.1) ∧ v.cell? ⟨g, c * 2 + 1, none⟩ = some (.pointer (some ⟨x.2, 0, none⟩)) ∧ v.cell? ⟨g, d * 2, none⟩ = some (.string y.1) ∧ v.cell? ⟨g, d * 2 + 1, none⟩ = some (.pointer (some ⟨y.2, 0, none⟩))) (first | go_keep | exact ⟨y0, y1, t0, t1⟩)
            ((go_at_call 140; (with_reducible refine (cmpC_any _ _ _ _ _).mono ?_); rintro e w1 ⟨rfl, hb1⟩; have y0 := (hb1.cell (p := ⟨g, c * 2, none⟩) hgl).trans x0; have y1 := (hb1.cell (p := ⟨g, c * 2 + 1, none⟩) hgl).trans x1; have t0 := (hb1.cell (p := ⟨g, d * 2, none⟩) hgl).trans z0; have t1 := (hb1.cell (p := ⟨g, d * 2 + 1, none⟩) hgl).trans z1; have HB1 : Hid (Below wr.heap.size wr w1) := Lib.hid (by first | exact hb1 | exact (Below.refl _ _).drew.trans hb1); clear hb1))

          have MW : Hid (OwnC w1 base (some ⟨g, 0, none⟩) cap l0 ∧ w.grownBy w1 (some g)) := Lib.hid (And.intro (OwnL.below M.out.2.1 HB1.out (Nat.le_refl _)) (grown_below M.out.2.2 HB1.out))
          clear x0 x1 z0 z1 y0 y1 t0 t1 HB1 hgl ic0 ic1 id0 id1 id2 id3 id4
          go_wp2_with fail
          go_roundw
          case measure => simp [intOf]; omega
          case rel => first
            | exact ⟨s, c, rfl, rfl, hc1, hcm, Lib.hid ⟨LE.out Hlt.out, MW.out.1, MW.out.2⟩⟩
            | exact ⟨c + 1, r, by go_num, rfl, by omega, hrm, Lib.hid ⟨RI.out Hlt.out, MW.out.1, MW.out.2⟩⟩
      · have hse : s = r := by omega
        subst hse
        have hpart := Lib.hid (M.out.1.part HMid.out ham hmb)
        have MI := Lib.hid M.out.2
        clear M
        obtain ⟨wo, rfl⟩ : ∃ wo : World, wo = wr := ⟨_, rfl⟩
        go_upto_region 39 with fail
        go_cut [185] (fun s185 wx => s185 = .bool (decide (s < m ∧ m < mid + m - s)) ∧ wx = wo)
        case first => as_aux_lemma =>
          by_cases c1 : s < m
          · have d1 : decide (s < m) = true := decide_eq_true c1
            by_cases c2 : m < mid + m - s
            · have d2 : decide ((m : Int) < (mid : Int) + (m : Int) - (s : Int)) = true := decide_eq_true (by omega)
              go_wp2_with fail
              go_meet
              exact ⟨by rw [decide_eq_true (⟨c1, c2⟩ : s < m ∧ m < mid + m - s)], rfl⟩
            · have d2 : decide ((m : Int) < (mid : Int) + (m : Int) - (s : Int)) = false := decide_eq_false (by omega)
              go_wp2_with fail
              go_meet
              exact ⟨by rw [decide_eq_false (fun h : s < m ∧ m < mid + m - s => c2 h.2)], rfl⟩
          · have d1 : decide (s < m) = false := decide_eq_false c1
            go_wp2_with fail
            go_meet
            exact ⟨by rw [decide_eq_false (fun h : s < m ∧ m < mid + m - s => c1 h.1)], rfl⟩
        case rest =>
          obtain ⟨rfl, hwx⟩ := hcut
          obtain rfl := hwx
          obtain ⟨wo, rfl⟩ : ∃ wo : World, wo = wc := ⟨_, rfl⟩
          obtain ⟨k1, k2, k3, k4⟩ : a ≤ s ∧ s ≤ mid ∧ m ≤ mid + m - s ∧ mid + m - s ≤ b := ⟨hpart.out.lo, by have := hpart.out.lo2; omega, hpart.out.lo2, hpart.out.hi2⟩
          go_upto_if 185 with fail
          go_cut [] (fun wx => ∃ l', Hid (Turn s m (mid + m - s) l0 l' ∧ Mv a b l0 l' ∧ OwnC wx base (some ⟨g, 0, none⟩) cap l' ∧ w.grownBy wx (some g)))
          case first => as_aux_lemma =>
            by_cases c : s < m ∧ m < mid + m - s
            · have hcd : decide (s < m ∧ m < mid + m - s) = true := decide_eq_true c
              obtain ⟨c1, c2⟩ := c
              go_wp2_with fail
              refine (rotate_at base g cap l0 s m (mid + m - s) L _ _ _ _ _ MI.out.1 HL.out rfl rfl (by omega) c1 c2 (by omega) hl).mono ?_
              rintro e w1 ⟨rfl, l1, z1, z2, z3, z4⟩
              have Z := Lib.hid (And.intro z1 (And.intro (z2.wide k1 k4) (And.intro z3 (only_trans MI.out.2 z4))))
              clear z1 z2 z3 z4
              go_wp2_with fail
              go_meet
              exact ⟨l1, Z⟩
            · have hcd : decide (s < m ∧ m < mid + m - s) = false := decide_eq_false c
              go_wp2_with fail
              go_meet
              exact ⟨l0, Lib.hid ⟨Turn.none (by omega), Mv.refl _ _ _, MI.out.1, MI.out.2⟩⟩
          case rest => as_aux_lemma =>
            obtain ⟨l1, T⟩ := hcut
            have hLen : Hid (l1.length = L) := Lib.hid (T.out.2.1.len.trans HL.out)
            have P := Lib.hid (hpart.out.turned leC_trans (by rw [HL.out]; exact hbl) H1.out H2.out T.out.1 (by omega) (by omega))
            have T2 := Lib.hid T.out.2
            clear hpart MI T
            obtain ⟨wo, rfl⟩ : ∃ wo : World, wo = wc := ⟨_, rfl⟩
            go_upto_region 41 with fail
            go_cut [199] (fun s199 wx => s199 = .bool (decide (a < s ∧ s < mid)) ∧ wx = wo)
            case first => as_aux_lemma =>
              by_cases c1 : a < s
              · have d1 : decide (a < s) = true := decide_eq_true c1
                by_cases c2 : s < mid
                · have d2 : decide (s < mid) = true := decide_eq_true c2
                  go_wp2_with fail
                  go_meet
                  exact ⟨by rw [decide_eq_true (⟨c1, c2⟩ : a < s ∧ s < mid)], rfl⟩
                · have d2 : decide (s < mid) = false := decide_eq_false c2
                  go_wp2_with fail
                  go_meet
                  exact ⟨by rw [decide_eq_false (fun h : a < s ∧ s < mid => c2 h.2)], rfl⟩
              · have d1 : decide (a < s) = false := decide_eq_false c1
                go_wp2_with fail
                go_meet
                exact ⟨by rw [decide_eq_false (fun h : a < s ∧ s < mid => c1 h.1)], rfl⟩
            case rest =>
              obtain ⟨rfl, hwx⟩ := hcut
              obtain rfl := hwx
              obtain ⟨wo, rfl⟩ : ∃ wo : World, wo = wc := ⟨_, rfl⟩
              go_upto_if 199 with fail
              go_cut [] (fun wx => ∃ l', Hid (Srt leC l' a mid ∧ Mv a mid l1 l' ∧ OwnC wx base (some ⟨g, 0, none⟩) cap l' ∧ w.grownBy wx (some g)))
              case first => as_aux_lemma =>
                by_cases c : a < s ∧ s < mid
                · have hcd : decide (a < s ∧ s < mid) = true := decide_eq_true c
                  obtain ⟨c1, c2⟩ := c
                  go_wp2_with fail
                  refine (HIH.out a s mid (by omega) l1 _ _ _ _ T2.out.2.1 hLen.out rfl rfl rfl c1 c2 (by omega) P.out.1 P.out.2.1).mono ?_
                  rintro e w1 ⟨rfl, l2, z1, z2, z3, z4⟩
                  have Z := Lib.hid (And.intro z1 (And.intro z2 (And.intro z3 (only_trans T2.out.2.2 z4))))
                  clear z1 z2 z3 z4
                  go_wp2_with fail
                  go_meet
                  exact ⟨l2, Z⟩
                · have hcd : decide (a < s ∧ s < mid) = false := decide_eq_false c
                  have hsrt : Hid (Srt leC l1 a mid) := Lib.hid (by
                    rcases (by omega : s = a ∨ s = mid) with e | e
                    · have := P.out.2.1
                      rw [e] at this
                      exact this
                    · have := P.out.1
                      rw [e] at this
                      exact this)
                  go_wp2_with fail
                  go_meet
                  exact ⟨l1, Lib.hid ⟨hsrt.out, Mv.refl _ _ _, T2.out.2.1, T2.out.2.2⟩⟩
              case rest => as_aux_lemma =>
                obtain ⟨l2, Z⟩ := hcut
                obtain ⟨wo, rfl⟩ : ∃ wo : World, wo = wc := ⟨_, rfl⟩
                have hLen2 : Hid (l2.length = L) := Lib.hid (Z.out.2.1.len.trans hLen.out)
                have Y3 : Hid (Srt leC l2 mid (mid + m - s)) := Lib.hid (P.out.2.2.1.same fun k h1 h2 => Z.out.2.1.out k (.inr h1))
                have Y4 : Hid (Srt leC l2 (mid + m - s) b) := Lib.hid (P.out.2.2.2.1.same fun k h1 h2 => Z.out.2.1.out k (.inr (by omega)))
                have Y1 := Lib.hid Z.out.1
                have Y5 : Hid (Und leC l2 a mid mid b) := Lib.hid (P.out.2.2.2.2.moved Z.out.2.1.inn fun k h1 h2 => ⟨k, h1, h2, Z.out.2.1.out k (.inr h1)⟩)
                have YM : Hid (Mv a b l0 l2 ∧ OwnC wo base (some ⟨g, 0, none⟩) cap l2 ∧ w.grownBy wo (some g)) := Lib.hid ⟨T2.out.1.trans (Z.out.2.1.wide (Nat.le_refl _) (by omega)), Z.out.2.2⟩
                clear P T2 Z hLen
                go_upto_region 43 with fail
                by_cases c : mid < mid + m - s ∧ mid + m - s < b
                · as_aux_lemma =>
                  obtain ⟨c1, c2⟩ := c
                  have d1 : decide ((mid : Int) < (mid : Int) + (m : Int) - (s : Int)) = true := decide_eq_true (by omega)
                  have d2 : decide ((mid : Int) + (m : Int) - (s : Int) < (b : Int)) = true := decide_eq_true (by omega)
                  go_wp2_with fail
                  refine (HIH.out mid (mid + m - s) b (by omega) l2 _ _ _ _ YM.out.2.1 hLen2.out rfl (by omega) rfl c1 c2 hbl Y3.out Y4.out).mono ?_
                  rintro e w1 ⟨rfl, l3, z1, z2, z3, z4⟩
                  have Z := Lib.hid (And.intro z1 (And.intro z2 (And.intro z3 (only_trans YM.out.2.2 z4))))
                  clear z1 z2 z3 z4
                  go_wp2_with fail
                  go_end0
                  refine ⟨rfl, l3, ?_, YM.out.1.trans (Z.out.2.1.wide (by omega) (Nat.le_refl _)), Z.out.2.2⟩
                  exact Srt.join (Y1.out.same fun k h1 h2 => Z.out.2.1.out k (.inl h2)) Z.out.1 (Y5.out.moved (fun k h1 h2 => ⟨k, h1, h2, Z.out.2.1.out k (.inl h2)⟩) Z.out.2.1.inn)
                · as_aux_lemma =>
                  have hsrt : Hid (Srt leC l2 mid b) := Lib.hid (by
                    rcases (by omega : mid + m - s = mid ∨ mid + m - s = b) with e | e
                    · have := Y4.out
                      rw [e] at this
                      exact this
                    · have := Y3.out
                      rw [e] at this
                      exact this)
                  by_cases c1 : mid < mid + m - s
                  · have d1 : decide ((mid : Int) < (mid : Int) + (m : Int) - (s : Int)) = true := decide_eq_true (by omega)
                    have d2 : decide ((mid : Int) + (m : Int) - (s : Int) < (b : Int)) = false := decide_eq_false (by omega)
                    go_wp2_with fail
                    go_end0
                    exact ⟨rfl, l2, Srt.join Y1.out hsrt.out Y5.out, YM.out.1, YM.out.2⟩
                  · have d1 : decide ((mid : Int) < (mid : Int) + (m : Int) - (s : Int)) = false := decide_eq_false (by omega)
                    go_wp2_with fail
                    go_end0
                    exact ⟨rfl, l2, Srt.join Y1.out hsrt.out Y5.out, YM.out.1, YM.out.2⟩
end Go.Proofs.Ytblfeokjlecgkaa
