/- The document's Vars, walked. -/
import Derived.Test.YtblfeokjlecgkaaGreatVarsP
namespace Go.Proofs.YtblfeokjlecgkaaGreat
open Go.RowKit

theorem rIsVar_any (k n : Int) (s : ByteArray) (w : World) :
    Calls Tryz.prog 24 #[.agg #[.int .i64 k, .string s, .int .i64 n]] w fun e w' => e = .returned (.bool (isVarB k)) ∧ Below w.heap.size w w' := by
  unfold isVarB
  cases h8 : (k == 8) <;> cases h9 : (k == 9)
  all_goals
    go_enter Tryz.func24, Tryz.ntmps24
    go_wp2_with fail
    go_ret
    exact ⟨by simp, ext_alloc (Below.refl _ _) _⟩


theorem lastV_zero (L : List Int) : lastV L 0 = -1 := rfl

set_option maxRecDepth 100000 in
set_option maxHeartbeats 4000000 in
theorem rVars_any (A : Option Addr) (c : Nat) (xs : List Nd) (w : World) (ha : TyA w w.heap.size A xs) (hl : xs.length ≤ 1000000) (h0 : ∀ x ∈ xs, isVarB x.k = true → 0 ≤ x.n) :
    Calls Tryz.prog 10 #[.slice A xs.length c] w (VarsPost (varsL xs) w) := by
  have Ha := Lib.hid ha
  have Hn := Lib.hid (fun k (hk : k ≤ (varsL xs).length) => bestV_next (xs := xs) h0 hk)
  have HL := Lib.hid (varsL_le xs)
  have hge0 : Hid (∀ k, k < (varsL xs).length → 0 ≤ (varsL xs).getD k 0) := Lib.hid fun k hk => by
    have : (varsL xs).getD k 0 ∈ varsL xs := by simp only [List.getD, List.getElem?_eq_getElem hk, Option.getD_some]; exact List.getElem_mem hk
    obtain ⟨y, hy, hv, e⟩ := varsL_mem.1 this
    rw [← e]; exact h0 y hy hv
  clear ha h0
  go_enter Tryz.func10, Tryz.ntmps10
  go_wp2_with fail
  go_loopw [3, 4] (fun s3 s4 wr => ∃ (k : Nat) (A1 : Option Addr) (c1 : Nat) (out : List Int), s3 = .slice A1 out.length c1 ∧ s4 = .int .i64 (lastV (varsL xs) k) ∧ Hid (out.length = k) ∧
      Hid (k ≤ (varsL xs).length ∧ out = (varsL xs).take k ∧ OwnI wr w.heap.size A1 c1 out ∧ Below w.heap.size w wr)) (fun s3 _ _ => (varsL xs).length - lenOf s3)
  case atStart => exact ⟨0, some ⟨w.heap.size, 0, none⟩, 0, [], rfl, rfl, Lib.hid rfl, Lib.hid ⟨Nat.zero_le _, rfl, own_empty _ 1 encI w, ext_alloc (Below.refl _ _) _⟩⟩
  case round =>
    obtain ⟨k, A1, c1, out, rfl, rfl, hk, M⟩ := hrel
    have hnx := Lib.hid (Hn.out k M.out.1)
    generalize hlv : lastV (varsL xs) k = lv at *
    have Hlv := Lib.hid hlv
    clear hlv
    go_wp2_with fail
    go_loopw [5, 6] (fun s5 s6 wi => ∃ i : Nat, i ≤ xs.length ∧ s5 = .int .i64 (bestV lv (xs.take i) (-1)) ∧ s6 = .int .i64 i ∧ Hid (OwnI wi w.heap.size A1 c1 out ∧ Below w.heap.size w wi)) (fun _ s6 _ => xs.length - (intOf s6).toNat)
    case atStart => exact ⟨0, Nat.zero_le _, rfl, rfl, Lib.hid M.out.2.2⟩
    case round =>
      obtain ⟨i, hi, rfl, rfl, N⟩ := hrel
      by_cases hp : i < xs.length
      · obtain ⟨x, hx⟩ := getq_ex hp
        obtain ⟨b1, o1, rfl, hb1, c10, c11, c12⟩ := ((Ha.out.below N.out.2).more N.out.2.size).at_ hx
        have Hst := Lib.hid (bestV_step (last := lv) (b := -1) hx)
        have hT := Lib.hid (fun v (hb : Below w.heap.size w v) => ((Ha.out.below hb).more hb.size).at_ hx)
        clear hx
        generalize hbb : bestV lv (xs.take i) (-1) = bb at *
        have Hbb := Lib.hid hbb
        clear hbb
        go_wp2_with fail
        refine (rIsVar_any _ _ _ _).mono ?_
        rintro e w2 ⟨rfl, hb2⟩
        replace N := Lib.hid (⟨N.out.1.below hb2 (Nat.le_refl _), ext_trans N.out.2 hb2⟩ : OwnI w2 w.heap.size A1 c1 out ∧ Below w.heap.size w w2)
        obtain ⟨b2, o2, hA, _, d10, d11, d12⟩ := hT.out w2 N.out.2
        injection hA with hA
        injection hA with e1 e2 _
        subst e1 e2
        clear hb2
        cases h8 : isVarB x.k
        · have H8 := Lib.hid h8
          go_wp2_with fail
          go_roundw
          case rel => exact ⟨i + 1, hp, by rw [Hst.out, if_neg (by rw [H8.out]; simp)], by go_num, N⟩
          case measure => simp [intOf]; omega
        · have H8 := Lib.hid h8
          by_cases hg : lv < x.n
          · by_cases hb0 : bb < 0
            · go_wp2_with fail
              go_roundw
              case rel => exact ⟨i + 1, hp, by rw [Hst.out, if_pos ⟨H8.out, hg, .inl hb0⟩], by go_num, N⟩
              case measure => simp [intOf]; omega
            · by_cases hlb : x.n < bb
              · go_wp2_with fail
                go_roundw
                case rel => exact ⟨i + 1, hp, by rw [Hst.out, if_pos ⟨H8.out, hg, .inr hlb⟩], by go_num, N⟩
                case measure => simp [intOf]; omega
              · go_wp2_with fail
                go_roundw
                case rel => exact ⟨i + 1, hp, by rw [Hst.out, if_neg (by rintro ⟨_, _, h | h⟩ <;> omega)], by go_num, N⟩
                case measure => simp [intOf]; omega
          · go_wp2_with fail
            go_roundw
            case rel => exact ⟨i + 1, hp, by rw [Hst.out, if_neg (by rintro ⟨_, h, _⟩; omega)], by go_num, N⟩
            case measure => simp [intOf]; omega
      · have hix : i = xs.length := by omega
        have hbest : bestV lv (xs.take i) (-1) = bestV lv xs (-1) := by rw [hix, List.take_length]
        rw [hbest]
        clear hbest
        rw [hnx.out]
        by_cases hkl : k < (varsL xs).length
        · rw [if_pos hkl]
          have hge : 0 ≤ (varsL xs).getD k 0 := hge0.out k hkl
          have hlv1 := Lib.hid (lastV_succ (varsL xs) k)
          have hget := Lib.hid (show (varsL xs).take (k + 1) = (varsL xs).take k ++ [(varsL xs).getD k 0] by rw [List.take_add_one, List.getD, List.getElem?_eq_getElem hkl]; rfl)
          generalize (varsL xs).getD k 0 = z at *
          have hnl : ¬ z < 0 := by omega
          have M2 := Lib.hid M.out.2.1
          have h1m := HL.out
          have hkk := hk.out
          have hol : out.length ≤ 1000000 := by omega
          clear hkk
          go_wp2_with (at_builtin; refine wpList_appI rfl (.tmp 49) (.tmp 51) rfl w.heap.size (l := out) rfl (OwnL.alloc N.out.1 _) (l2 := [z]) rfl (readI_new _ z) (by simp; omega) (by have := N.out.2.size; simp; omega) ?_; intro A2 c2 w3 hown3 hg3 _)
          go_roundw
          case rel => exact ⟨k + 1, A2, c2, out ++ [z], by simp, by rw [hlv1.out], Lib.hid (by simp [hk.out]), Lib.hid ⟨hkl, by rw [hget.out, M2.out], hown3, ext_app (ext_alloc N.out.2 _) hg3 (fun q hq => (OwnL.block N.out.1 q hq).1)⟩⟩
          case measure => have := hk.out; simp [lenOf]; omega
        · rw [if_neg hkl]
          go_wp2_with fail
          go_ret
          have hlen : (varsL xs).take k = varsL xs := List.take_of_length_le (by omega)
          have ho := M.out.2.1
          rw [hlen] at ho
          subst ho
          exact ⟨A1, c1, rfl, OwnL.read encI_len N.out.1, N.out.2⟩
end Go.Proofs.YtblfeokjlecgkaaGreat
