/- slices.Grow at nil, slices.Concat, slices.Clone, ty.Arrow. -/
import Derived.Test.YtblfeokjlecgkaaGreatPEnd
import Derived.Test.YtblfeokjlecgkaaGreatShelf
namespace Go.Proofs.YtblfeokjlecgkaaGreat
open Go.RowKit

theorem grow_nil (n : Nat) (hn : n ≤ 1000000) (w : World) :
    Calls Tryz.prog 53 #[.slice none 0 0, .int .i64 (n : Int)] w fun e w' => ∃ A cap, e = .returned (.slice A 0 cap) ∧ OwnN w' w.heap.size A cap [] ∧ Below w.heap.size w w' := by
  by_cases h0 : n = 0
  · subst h0
    refine (Any8.slices_Grow_room Tryz.growN none 0 0 0 w (Nat.le_refl _) (by omega) (by omega) (by omega)).mono ?_
    rintro e w' ⟨rfl, rfl⟩
    exact ⟨none, 0, rfl, OwnL.nil, Below.refl _ _⟩
  · obtain ⟨i0, hi, hz0, hz1, hz2⟩ := info_parts infoN
    refine (Any8.slices_Grow_grow Tryz.growN i0 _ hi hz0 (by rw [hz1]; decide) none 0 0 n [] w (Nat.le_refl _) (by omega) (by rw [hz2]; omega) (by omega) (by simp) (fun _ => rfl) (by intro a h; cases h)).mono ?_
    rintro e w' ⟨rfl, rfl⟩
    refine ⟨_, _, rfl, ?_, (Below.refl _ _ : Below w.heap.size w w).drew.alloc (by simp) _⟩
    exact World.ownsRow_made w.drew _ _ (Nat.le_refl _) (grownCap_le_maxLen w _ _ _ (by unfold maxLen; omega)) (by
      have := grownCap_ge w (0 + n) 0 39
      rw [Array.size_append, Array.size_append, size_zeroCells, size_zeroCells]
      show 0 + (0 + n - 0) * 3 + (grownCap w (0 + n) 0 39 - (0 + n)) * 3 = grownCap w (0 + n) 0 39 * 3
      omega)

theorem OwnL.lower {α : Type} {e size : Nat} {enc : α → List Value} {w : World} {base base' : Nat} {A : Option Addr} {cap : Nat} {l : List α} (h : OwnL e size enc w base A cap l) (hb : base' ≤ base) : OwnL e size enc w base' A cap l := by
  refine ⟨h.1, ?_⟩
  rcases h.2 with h | ⟨g, cap', cur, hv, hbg, hr⟩
  · exact .inl h
  · exact .inr ⟨g, cap', cur, hv, Nat.le_trans hb hbg, hr⟩

/-- Slices as elements: each one's row of nodes. -/
def Sls (w : World) (B : Nat) (vs : List (Option Addr × Nat × Nat)) (xss : List (List Nd)) : Prop :=
  vs.length = xss.length ∧ ∀ (i : Nat) (v : Option Addr × Nat × Nat) (xs : List Nd), vs[i]? = some v → xss[i]? = some xs → v.2.1 = xs.length ∧ TyA w B v.1 xs

theorem flatten_take_step {xss : List (List Nd)} {k : Nat} {xs : List Nd} (h : xss[k]? = some xs) : (xss.take (k + 1)).flatten = (xss.take k).flatten ++ xs := by
  rw [List.take_add_one, h]
  simp

theorem flatten_take_le (xss : List (List Nd)) (k : Nat) : (xss.take k).flatten.length ≤ xss.flatten.length := by
  conv => rhs; rw [← List.take_append_drop k xss]
  rw [List.flatten_append, List.length_append]
  omega

set_option maxRecDepth 100000 in
set_option maxHeartbeats 2000000 in
theorem concat_any (A : Option Addr) (c : Nat) (vs : List (Option Addr × Nat × Nat)) (xss : List (List Nd)) (w : World) (hr : ReadS w w.heap.size A vs) (hS : Sls w w.heap.size vs xss) (hv : vs.length ≤ 1000) (hlen : xss.flatten.length ≤ 1000000) :
    Calls Tryz.prog 34 #[.slice A vs.length c] w fun e w' =>
      ∃ A' cap', e = .returned (.slice A' xss.flatten.length cap') ∧ OwnN w' w.heap.size A' cap' xss.flatten ∧ Below w.heap.size w w' := by
  have HS := Lib.hid hS.2
  have hSl := hS.1
  clear hS
  go_enter Tryz.func34, Tryz.ntmps34
  go_wp2_with fail
  go_loopw [3, 11] (fun s3 i11 wr => ∃ (k n : Nat), s3 = .int .i64 n ∧ i11 = .int .i64 k ∧ k ≤ vs.length ∧ n ≤ 1000000 ∧ Below w.heap.size w wr ∧ Hid (n = (xss.take k).flatten.length))
    (fun _ i11 _ => vs.length - (intOf i11).toNat)
  case atStart => exact ⟨0, 0, rfl, rfl, Nat.zero_le _, by omega, Below.refl _ _, Lib.hid (by simp)⟩
  case round =>
    obtain ⟨k, n, rfl, rfl, hk, hn6, hbel, hn⟩ := hrel
    have zr := hbel.size
    by_cases hlt : k < vs.length
    · obtain ⟨v, hvk⟩ := getq_ex hlt
      obtain ⟨xs, hxk⟩ := getq_ex (show k < xss.length by omega)
      obtain ⟨hvl, _⟩ := HS.out k v xs hvk hxk
      obtain ⟨b1, o1, rfl, hb1, c10⟩ := hr.slice hvk
      have c10' := (hbel.cell (p := ⟨b1, o1 + k, none⟩) hb1).trans c10
      have hstep := flatten_take_step hxk
      have hle := flatten_take_le xss (k + 1)
      have hle2 : n + xs.length ≤ 1000000 := by
        rw [hstep, List.length_append, ← hn.out] at hle
        omega
      have Hstep := Lib.hid hstep
      rw [hvl] at c10'
      have b1lt : b1 < wr.heap.size := by omega
      clear hvk hxk hstep c10 hle
      go_wp2_with fail
      go_roundw
      case rel => exact ⟨k + 1, n + xs.length, by go_num, by go_num, by omega, hle2, hbel, Lib.hid (by rw [Hstep.out, List.length_append, ← hn.out])⟩
      case measure => simp [intOf]; omega
    · have hkk : k = vs.length := by omega
      have hnn : n = xss.flatten.length := by rw [hn.out, hkk, hSl, List.take_length]
      subst hnn
      clear hn
      generalize hL : xss.flatten.length = L at *
      have HL := Lib.hid hL
      clear hL
      go_wp2_with fail
      refine (grow_nil L hn6 wr).mono ?_
      rintro e w1 ⟨A1, cap1, rfl, hown1, hbel1⟩
      have hbel01 := ext_trans hbel hbel1
      have hown0 : OwnN w1 w.heap.size A1 cap1 [] := OwnL.lower hown1 hbel.size
      go_wp2_with fail
      clear hown1 hbel1 hbel zr hlt hkk
      go_loopw [6, 27] (fun s6 i27 wr => ∃ (k n : Nat) (A' : Option Addr) (cap' : Nat), s6 = .slice A' n cap' ∧ i27 = .int .i64 k ∧ k ≤ vs.length ∧ Hid (n = (xss.take k).flatten.length) ∧ OwnN wr w.heap.size A' cap' (xss.take k).flatten ∧ Below w.heap.size w wr)
        (fun _ i27 _ => vs.length - (intOf i27).toNat)
      case atStart => exact ⟨0, 0, A1, cap1, rfl, rfl, Nat.zero_le _, Lib.hid (by simp), by simpa using hown0, hbel01⟩
      case round =>
        clear hown0 hbel01
        obtain ⟨k, n, A', cap', rfl, rfl, hk, hn, hown, hbel⟩ := hrel
        have zr := hbel.size
        by_cases hlt : k < vs.length
        · obtain ⟨v, hvk⟩ := getq_ex hlt
          obtain ⟨xs, hxk⟩ := getq_ex (show k < xss.length by omega)
          obtain ⟨hvl, hta⟩ := HS.out k v xs hvk hxk
          obtain ⟨b1, o1, rfl, hb1, c10⟩ := hr.slice hvk
          have c10' := (hbel.cell (p := ⟨b1, o1 + k, none⟩) hb1).trans c10
          have hstep := flatten_take_step hxk
          have hle := flatten_take_le xss (k + 1)
          have hle2 : n + xs.length ≤ 1000000 := by
            rw [hstep, List.length_append, ← hn.out, HL.out] at hle
            omega
          have Hstep := Lib.hid hstep
          rw [hvl] at c10'
          have b1lt : b1 < wr.heap.size := by omega
          generalize hys : (xss.take k).flatten = ys at hn hown
          have Hys := Lib.hid hys
          have hn' := hn.out
          subst hn'
          clear hvk hxk hstep c10 hle hys hn
          go_wp2_with (at_builtin; refine wpList_appN rfl (.tmp 31) (.tmp 32) rfl w.heap.size (l := ys) rfl hown (l2 := xs) rfl (hta.below hbel) (by omega) (by omega) ?_; intro A2 cap2 w3 hown3 hg3 _)
          have hbel3 := ext_app hbel hg3 (fun k hk => (OwnL.block hown k hk).1)
          go_roundw
          case rel => exact ⟨k + 1, _, A2, cap2, rfl, by go_num, by omega, Lib.hid (by rw [Hstep.out, Hys.out, List.length_append]), by rw [Hstep.out, Hys.out]; exact hown3, hbel3⟩
          case measure => simp [intOf]; omega
        · have hkk : k = vs.length := by omega
          have htk : xss.take k = xss := by rw [hkk, hSl, List.take_length]
          rw [htk] at hown hn
          have hn' := hn.out
          subst hn'
          clear hn
          go_wp2_with fail
          go_ret
          rw [← HL.out]
          exact ⟨A', cap', rfl, hown, hbel⟩
end Go.Proofs.YtblfeokjlecgkaaGreat
