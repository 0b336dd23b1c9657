/- The document's Kids: pure and walked. -/
import Derived.Test.YtblfeokjlecgkaaEnd
namespace Go.Proofs.Ytblfeokjlecgkaa
open Go.RowKit

def kidsGo (xs : List Nd) : Nat → Nat → List Nat
  | 0, _ => []
  | todo + 1, at_ => if at_ < xs.length then at_ :: kidsGo xs todo (endGo (xs.drop at_) 1 at_) else []

def asI (l : List Nat) : List Int := l.map fun (n : Nat) => (n : Int)

theorem asI_append (a b : List Nat) : asI (a ++ b) = asI a ++ asI b := List.map_append

/-- The children of the node at a place. -/
def kidsR (xs : List Nd) (i : Int) : List Nat :=
  if i < 0 then [] else match xs[i.toNat]? with
    | none => []
    | some x => kidsGo xs (many x.k x.n).toNat (i.toNat + 1)

theorem endR_nat {xs : List Nd} {n : Nat} (h : n < xs.length) : endR xs (n : Int) = ((endGo (xs.drop n) 1 n : Nat) : Int) := by
  unfold endR
  rw [if_neg (by omega)]
  simp

theorem kidsGo_step {xs : List Nd} {d at_ : Nat} (h : at_ < xs.length) : kidsGo xs (d + 1) at_ = at_ :: kidsGo xs d (endGo (xs.drop at_) 1 at_) := by
  simp only [kidsGo, if_pos h]

theorem kidsGo_out {xs : List Nd} {d at_ : Nat} (h : ¬ at_ < xs.length) : kidsGo xs d at_ = [] := by
  cases d with
  | zero => rfl
  | succ d => simp only [kidsGo, if_neg h]

set_option maxRecDepth 100000 in
set_option maxHeartbeats 2000000 in
theorem rKids_any (A : Option Addr) (c : Nat) (xs : List Nd) (i : Int) (w : World) (ha : TyA w w.heap.size A xs) (hl : xs.length ≤ 1000000) (hok : okAll xs) :
    Calls Try.prog 105 #[.slice A xs.length c, .int .i64 i] w fun e w' =>
      ∃ A' cap', e = .returned (.slice A' (asI (kidsR xs i)).length cap') ∧ OwnI w' w.heap.size A' cap' (asI (kidsR xs i)) ∧ Below w.heap.size w w' := by
  have Hok := Lib.hid hok
  clear hok
  have hown0 := own_empty 3 1 encI w
  have hb0 := ext_alloc (Below.refl w.heap.size w) (.cells #[] 3)
  by_cases h0 : i < 0
  · have hfin := Lib.hid (show kidsR xs i = [] by unfold kidsR; rw [if_pos h0])
    go_enter Try.func105, Try.ntmps105
    go_wp2_with fail
    go_ret
    exact ⟨_, _, by rw [hfin.out]; rfl, by rw [hfin.out]; exact hown0, hb0⟩
  by_cases h1 : (xs.length : Int) ≤ i
  · have hfin := Lib.hid (show kidsR xs i = [] by unfold kidsR; rw [if_neg h0, List.getElem?_eq_none (by omega)])
    go_enter Try.func105, Try.ntmps105
    go_wp2_with fail
    go_ret
    exact ⟨_, _, by rw [hfin.out]; rfl, by rw [hfin.out]; exact hown0, hb0⟩
  obtain ⟨n, rfl⟩ := Int.eq_ofNat_of_zero_le (Int.not_lt.1 h0)
  have hn : n < xs.length := by omega
  obtain ⟨x, hx⟩ := getq_ex hn
  obtain ⟨M, hM, hM50, _⟩ := many_nat (Hok.out x (mem_of_getq hx))
  have hfin := Lib.hid (show kidsR xs (n : Int) = kidsGo xs M (n + 1) by unfold kidsR; rw [if_neg (by omega)]; simp [hx, hM])
  have h0' : (0 : Int) ≤ (n : Int) := by omega
  have h1' : (n : Int) < (xs.length : Int) := by omega
  have hd0 : decide ((n : Int) < 0) = false := by simp
  have hd1 : decide (xs.length ≤ n) = false := by simp; omega
  have HM := Lib.hid hM
  have Hx := Lib.hid hx
  clear h0 h1 hM hx
  go_enter Try.func105, Try.ntmps105
  go_wp2_with fail
  go_loopw [5, 6, 7] (fun o5 i6 k7 wr => ∃ (k at_ : Nat) (A' : Option Addr) (cap' : Nat) (l : List Int), o5 = .slice A' l.length cap' ∧ i6 = .int .i64 at_ ∧ k7 = .int .i64 k ∧ k ≤ M ∧ at_ ≤ xs.length ∧ l.length ≤ k ∧
      OwnI wr w.heap.size A' cap' l ∧ Below w.heap.size w wr ∧ Hid (l ++ asI (kidsGo xs (M - k) at_) = asI (kidsGo xs M (n + 1))))
    (fun _ _ k7 _ => M - (intOf k7).toNat)
  case atStart => exact ⟨0, n + 1, _, _, [], rfl, rfl, rfl, Nat.zero_le _, hn, Nat.le_refl _, hown0, hb0, Lib.hid rfl⟩
  case round =>
    obtain ⟨k, at_, A', cap', l, rfl, rfl, rfl, hkM, hatl, hlk, hown, hbel, hgood⟩ := hrel
    obtain ⟨b1, o1, rfl, hb1, c10, c11, c12⟩ := ((ha.below hbel).more hbel.size).at_ Hx.out
    by_cases hlt : k < M
    · by_cases hp : at_ < xs.length
      · obtain ⟨d, hd'⟩ : ∃ d, M - k = d + 1 := ⟨M - k - 1, by omega⟩
        have hgood2 : Hid ((l ++ [(at_ : Int)]) ++ asI (kidsGo xs d (endGo (xs.drop at_) 1 at_)) = asI (kidsGo xs M (n + 1))) := Lib.hid (by
          rw [← hgood.out, hd', kidsGo_step hp]; simp [asI])
        have Hd' := Lib.hid hd'
        have hle := endGo_le (xs.drop at_) 1 at_
        rw [List.length_drop] at hle
        have hend := Lib.hid (endR_nat hp)
        clear hd' hgood
        go_wp2_with fail
        refine (rmany_any _ _ _ _).mono ?_
        rintro e w1 ⟨rfl, hbx⟩
        rw [HM.out]
        have hown1 := OwnL.below hown hbx (Nat.le_refl _)
        have hbel1 := ext_trans hbel hbx
        have z1 := hbel1.size
        go_wp2_with (at_builtin; refine wpList_appI rfl (.tmp 35) (.tmp 37) rfl w.heap.size (l := l) rfl (OwnL.alloc hown1 _) (l2 := [(at_ : Int)]) rfl (readI_new _ _) (by simp; omega) (by simp; omega) ?_; intro A2 cap2 w3 hown3 hg3 _)
        have hbel3 := ext_app (ext_alloc hbel1 _) hg3 (fun k hk => (OwnL.block hown1 k hk).1)
        refine (rEnd_any _ c xs at_ _ ((ha.below hbel3).more hbel3.size) hl Hok.out).mono ?_
        rintro e w4 ⟨rfl, hb4⟩
        rw [hend.out]
        have hown4 := OwnL.below hown3 hb4 (Nat.le_refl _)
        go_wp2_with fail
        go_roundw
        case rel => exact ⟨k + 1, _, _, _, l ++ [(at_ : Int)], by simp, rfl, by go_num, by omega, by omega, by simp; omega, hown4, ext_trans hbel3 hb4, Lib.hid (by rw [← hgood2.out, show M - (k + 1) = d by have := Hd'.out; omega])⟩
        case measure => simp [intOf]; omega
      · have hout := Lib.hid (kidsGo_out (d := M - k) hp)
        go_wp2_with fail
        refine (rmany_any _ _ _ _).mono ?_
        rintro e w1 ⟨rfl, hbx⟩
        rw [HM.out]
        have hown1 := OwnL.below hown hbx (Nat.le_refl _)
        have hbel1 := ext_trans hbel hbx
        go_wp2_with fail
        go_ret
        have e : l = asI (kidsR xs n) := by rw [hfin.out, ← hgood.out, hout.out]; simp [asI]
        rw [← e]
        exact ⟨_, _, rfl, hown1, hbel1⟩
    · have hout := Lib.hid (show kidsGo xs (M - k) at_ = [] by rw [show M - k = 0 by omega]; rfl)
      go_wp2_with fail
      refine (rmany_any _ _ _ _).mono ?_
      rintro e w1 ⟨rfl, hbx⟩
      rw [HM.out]
      have hown1 := OwnL.below hown hbx (Nat.le_refl _)
      have hbel1 := ext_trans hbel hbx
      go_wp2_with fail
      go_ret
      have e : l = asI (kidsR xs n) := by rw [hfin.out, ← hgood.out, hout.out]; simp [asI]
      rw [← e]
      exact ⟨_, _, rfl, hown1, hbel1⟩
end Go.Proofs.Ytblfeokjlecgkaa
