/- The walk of shallow. -/
import Derived.Test.YtblfeokjlecgkaaShallow
namespace Go.Proofs.Ytblfeokjlecgkaa
open Go.RowKit

def lenOf : Value → Nat
  | .slice _ n _ => n
  | _ => 0

theorem snoc_of {α : Type} {l : List α} {m : Nat} (h : l.length = m + 1) : ∃ l0 a, l = l0 ++ [a] ∧ l0.length = m := by
  refine ⟨l.take m, l[m], ?_, by rw [List.length_take]; omega⟩
  have h1 : l.take (m + 1) = l := List.take_of_length_le (by omega)
  rw [List.take_succ_eq_append_getElem (by omega)] at h1
  exact h1.symm

theorem OwnL.form {α : Type} {enc : α → List Value} {size e base : Nat} {w : World} {A : Option Addr} {cap : Nat} {l : List α} (h : OwnL e size enc w base A cap l) (hl : 0 < l.length) :
    ∃ g, A = some ⟨g, 0, none⟩ ∧ base ≤ g ∧ g < w.heap.size ∧ l.length ≤ cap ∧ cap ≤ 9223372036854775807 := by
  rcases h.2 with ⟨hv, hn⟩ | ⟨g, cap', cur, hv, hbg, hg, hnc, hcm, hcs, htake⟩
  · omega
  · injection hv with hA hl hc
    subst hA hc
    exact ⟨g, rfl, hbg, lt_of_block hg, hnc, by unfold maxLen at hcm; omega⟩

/-- What is open: on top perhaps nothing more, below always something. -/
def StOk (l : List Int) : Prop := ∀ (l0 : List Int) (a : Int), l = l0 ++ [a] → 0 ≤ a ∧ a ≤ 50 ∧ ∀ v ∈ l0, 1 ≤ v ∧ v ≤ 50

theorem stOk_snoc {l : List Int} {a : Int} (h : ∀ v ∈ l, 1 ≤ v ∧ v ≤ 50) (h0 : 0 ≤ a) (h1 : a ≤ 50) : StOk (l ++ [a]) := by
  intro l0 b e
  obtain ⟨rfl, hb⟩ := List.append_inj' e rfl
  simp at hb
  subst hb
  exact ⟨h0, h1, h⟩

set_option maxRecDepth 100000 in
set_option maxHeartbeats 4000000 in
theorem shallow_any (A : Option Addr) (c : Nat) (xs : List Nd) (w : World) (ha : TyA w w.heap.size A xs) (hl : xs.length ≤ 1000000) (hok : okAll xs) :
    Calls Try.prog 63 #[.slice A xs.length c] w fun e w' => e = .returned (.bool (shallowGo xs [])) ∧ Below w.heap.size w w' := by
  have Hok := Lib.hid hok
  clear hok
  have hown0 := own_empty 3 1 encI w
  have hb0 := ext_alloc (Below.refl w.heap.size w) (.cells #[] 3)
  go_enter Try.func63, Try.ntmps63
  go_wp2_with fail
  go_loopw [3, 4] (fun o3 k4 wr => ∃ (k : Nat) (A' : Option Addr) (cap' : Nat) (l : List Int), o3 = .slice A' l.length cap' ∧ k4 = .int .i64 k ∧ k ≤ xs.length ∧ l.length ≤ 100 ∧ Hid (∀ v ∈ l, 1 ≤ v ∧ v ≤ 50) ∧
      OwnI wr w.heap.size A' cap' l ∧ Below w.heap.size w wr ∧ Hid (shallowGo (xs.drop k) l.reverse = shallowGo xs []))
    (fun _ k4 _ => xs.length - (intOf k4).toNat)
  case atStart => exact ⟨0, _, _, [], rfl, rfl, Nat.zero_le _, by simp, Lib.hid (by simp), hown0, hb0, Lib.hid rfl⟩
  case round =>
    obtain ⟨k, A', cap', l, rfl, rfl, hk, hl100, hpos, hown, hbel, hgood⟩ := hrel
    by_cases hp : k < xs.length
    · obtain ⟨x, hx⟩ := getq_ex hp
      obtain ⟨M, hM, hM50, _⟩ := many_nat (Hok.out x (mem_of_getq hx))
      obtain ⟨b1, o1, rfl, hb1, c10, c11, c12⟩ := ((ha.below hbel).more hbel.size).at_ hx
      have HM := Lib.hid hM
      by_cases h100 : l.length = 100
      · have hfin := Lib.hid (show shallowGo (xs.drop k) l.reverse = false by rw [drop_cons hx]; simp [shallowGo, h100])
        have h100' : (100 : Int) ≤ (l.length : Int) := by omega
        clear hx h100 hM
        go_wp2_with fail
        go_ret
        exact ⟨ret_bool (by rw [← hgood.out, hfin.out]), hbel⟩
      · have hgood2 : Hid (shallowGo (xs.drop (k + 1)) (settleL ((l ++ [(M : Int)]).reverse)) = shallowGo xs []) := Lib.hid (by
          rw [← hgood.out, drop_cons hx]; simp [shallowGo, hM, show ¬ 100 ≤ l.length by omega])
        have h100' : ¬ (100 : Int) ≤ (l.length : Int) := by omega
        have h100n : l.length < 100 := by omega
        clear hx h100 hM hgood
        go_wp2_with fail
        refine (rmany_any _ _ _ _).mono ?_
        rintro e w1 ⟨rfl, hbx⟩
        rw [HM.out]
        have hown1 := OwnL.below hown hbx (Nat.le_refl _)
        have hbel1 := ext_trans hbel hbx
        have z1 := hbel1.size
        go_wp2_with (at_builtin; refine wpList_appI rfl (.tmp 15) (.tmp 21) rfl w.heap.size (l := l) rfl (OwnL.alloc hown1 _) (l2 := [(M : Int)]) rfl (readI_new _ _) (by simp; omega) (by simp; omega) ?_; intro A2 cap2 w3 hown3 hg3 _)
        have hbel3 := ext_app (ext_alloc hbel1 _) hg3 (fun k hk => (OwnL.block hown1 k hk).1)
        clear hg3 hbx hown1
        have hst : Hid (StOk (l ++ [(M : Int)])) := Lib.hid (stOk_snoc hpos.out (by omega) (by omega))
        obtain ⟨wo, rfl⟩ : ∃ wo : World, wo = wr := ⟨_, rfl⟩
        go_loopw [3] (fun o3 wi => ∃ (A3 : Option Addr) (cap3 : Nat) (l3 : List Int), o3 = .slice A3 l3.length cap3 ∧ l3.length ≤ 101 ∧ Hid (StOk l3) ∧ OwnI wi w.heap.size A3 cap3 l3 ∧ Below w.heap.size w wi ∧
            Hid (settleL l3.reverse = settleL ((l ++ [(M : Int)]).reverse)))
          (fun o3 _ => lenOf o3)
        case atStart => exact ⟨_, _, l ++ [(M : Int)], by simp, by simp; omega, hst, hown3, hbel3, Lib.hid rfl⟩
        case round =>
          clear hown3 hbel3 hst
          obtain ⟨A3, cap3, l3, rfl, hl101, hst, hown3, hbel3, hgood3⟩ := hrel
          rcases Nat.eq_zero_or_pos l3.length with hz | hz
          · have hnil : l3 = [] := List.eq_nil_of_length_eq_zero hz
            subst hnil
            go_wp2_with fail
            go_roundw
            case rel => exact ⟨k + 1, A3, cap3, [], rfl, by go_num, hp, by simp, Lib.hid (by simp), hown3, hbel3, Lib.hid (by rw [← hgood2.out, ← hgood3.out]; rfl)⟩
            case measure => simp [intOf]; omega
          · obtain ⟨l0, a, hl3, hm⟩ := snoc_of (show l3.length = (l3.length - 1) + 1 by omega)
            generalize hmm : l3.length - 1 = m at hm
            have hlen3 : l3.length = m + 1 := by omega
            rw [hlen3] at hl101 ⊢
            have hread := OwnL.read encI_len hown3
            obtain ⟨b3, rfl, hbw3, hb3, hcap3, hcapm⟩ := OwnL.form hown3 hz
            obtain ⟨_, _, e3, _, c3⟩ := ReadL.int hread (i := m) (n := a) (by rw [hl3, List.getElem?_append_right (by omega)]; simp [hm])
            simp only [Option.some.injEq, Addr.mk.injEq, and_true] at e3
            obtain ⟨rfl, rfl⟩ := e3
            rw [Nat.zero_add] at c3
            rw [hlen3] at hcap3
            have hbd := hst.out l0 a hl3
            obtain ⟨ha0, ha1, hl0⟩ := hbd
            have Hl3 := Lib.hid hl3
            have Hm := Lib.hid hm
            have Hlen3 := Lib.hid hlen3
            have Hl0 := Lib.hid hl0
            have hm0 := Lib.hid (show m = l0.length from hm.symm)
            clear hl3 hm hlen3 hmm hl0 hz hread
            by_cases haz : a = 0
            · have hazb : (a == 0) = true := by simpa using haz
              have Haz := Lib.hid haz
              clear haz
              have hcut : OwnI wr w.heap.size (some ⟨b3, 0, none⟩) cap3 l0 := by
                have := OwnL.cut encI_len hown3 (k := l0.length) (by rw [Hl3.out]; simp)
                rwa [Hl3.out, List.take_left] at this
              cases m with
              | zero =>
                have hnil : l0 = [] := List.eq_nil_of_length_eq_zero Hm.out
                subst hnil
                go_wp2_with fail
                go_roundw
                case rel => exact ⟨_, cap3, [], rfl, by simp, Lib.hid (fun l0 a h => by simp at h), hcut, hbel3, Lib.hid (by rw [← hgood3.out, Hl3.out, Haz.out]; rfl)⟩
                case measure => simp [lenOf]
              | succ j =>
                obtain ⟨l00, b, hl00, hj⟩ := snoc_of Hm.out
                have hb := Hl0.out b (by rw [hl00]; simp)
                obtain ⟨hb0', hb50⟩ := hb
                obtain ⟨g, hg, _, _, ⟨b', hb', c4⟩, f4, hset, hgr⟩ := OwnL.setI hcut (j := j) (by rw [Hm.out]; omega) (b - 1)
                simp only [Option.some.injEq, Addr.mk.injEq, and_true] at hg
                subst hg
                rw [hl00, List.getElem?_append_right (by omega)] at hb'
                simp [hj] at hb'
                subst hb'
                have Hl00 := Lib.hid hl00
                have Hj := Lib.hid hj
                have Hset := Lib.hid hset
                clear hl00 hj hset
                go_wp2_with fail
                go_roundw
                case rel => exact ⟨some ⟨b3, 0, none⟩, cap3, l00 ++ [b - 1], by simp [Hj.out], by simp [Hj.out]; omega, Lib.hid (stOk_snoc (fun v hv => Hl0.out v (by rw [Hl00.out]; simp [hv])) (by omega) (by omega)), by
                  have h1 := Hset.out
                  rw [Hl00.out] at h1
                  rw [List.set_append_right _ _ (by rw [Hj.out]; omega), Hj.out, Nat.sub_self] at h1
                  exact h1, hbel3.setCell hbw3 _, Lib.hid (by rw [← hgood3.out, Hl3.out, Haz.out, Hl00.out]; simp [settleL, settle])⟩
                case measure => simp [lenOf]
            · have hazb : (a == 0) = false := by simpa using haz
              have Haz := Lib.hid haz
              clear haz
              go_wp2_with fail
              go_roundw
              case rel => exact ⟨k + 1, _, cap3, l3, by rw [Hlen3.out], by go_num, hp, by
                have h1 := settle_len (l.reverse) (M : Int)
                have h2 := hgood3.out
                rw [Hl3.out, List.reverse_append, List.reverse_append] at h2
                have h3 : settle l0.reverse a = settle l.reverse (M : Int) := h2
                rw [settle_pos Haz.out] at h3
                rw [← h3] at h1
                have := Hlen3.out
                have := Hm.out
                simp at h1
                omega, Lib.hid (by
                rw [Hl3.out]
                intro v hv
                rcases List.mem_append.1 hv with hv | hv
                · exact Hl0.out v hv
                · simp at hv; subst hv; have := Haz.out; omega), hown3, hbel3, Lib.hid (by
                rw [← hgood2.out, ← hgood3.out, Hl3.out]
                simp [settleL, settle_pos Haz.out])⟩
              case measure => simp [intOf]; omega
    · have hfin := Lib.hid (show shallowGo (xs.drop k) l.reverse = true by rw [List.drop_of_length_le (by omega)]; rfl)
      go_wp2_with fail
      go_ret
      exact ⟨ret_bool (by rw [← hgood.out, hfin.out]), hbel⟩
end Go.Proofs.Ytblfeokjlecgkaa
