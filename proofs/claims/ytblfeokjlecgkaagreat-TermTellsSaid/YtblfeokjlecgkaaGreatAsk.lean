/- End, Kids and Part of a type, at whatever place: the program's and the document's answers, by the same words. -/
import Derived.Test.YtblfeokjlecgkaaGreatMem
import Derived.Test.YtblfeokjlecgkaaGreatPKids
import Derived.Test.YtblfeokjlecgkaaGreatPrintR
namespace Go.Proofs.YtblfeokjlecgkaaGreat
open Go.RowKit

theorem tree_at {T : List Nd} (h : rRightB T = true) : okAll T ∧ ∀ i, i < T.length → ∃ ts rest, T.drop i = ts ++ rest ∧ Fo 1 ts ∧ okAll ts := by
  have hok : okAll T := (isT_of (by rw [← right_eq]; exact h : rightB T = true)).ok
  unfold rRightB at h
  simp only [Bool.and_eq_true] at h
  have hlab := (labAll_iff T.length 0).1 h.2
  exact ⟨hok, fun i hi => all_trees hok (fun p hp => hlab p (Nat.zero_le _) (by omega)) (T.length - i) i (Nat.le_refl _) hi⟩

/-- The tree at a place. -/
def sub (T : List Nd) (i : Nat) : List Nd := (T.drop i).take (endGo (T.drop i) 1 i - i)

theorem sub_eq {T ts rest : List Nd} {i : Nat} (h : T.drop i = ts ++ rest) (hok : okAll ts) (hf : Fo 1 ts) : sub T i = ts := by
  unfold sub
  rw [endGo_one h hok hf, h]
  simp

/-- The type at a place. -/
def partR (T : List Nd) (i : Int) : List Nd := if i < 0 ∨ (T.length : Int) ≤ i then [] else bareN (sub T i.toNat)

theorem partR_out {T : List Nd} {i : Int} (h : i < 0 ∨ (T.length : Int) ≤ i) : partR T i = [] := by unfold partR; rw [if_pos h]
theorem partR_in {T ts rest : List Nd} {i : Nat} (hd : T.drop i = ts ++ rest) (hok : okAll ts) (hf : Fo 1 ts) : partR T (i : Int) = bareN ts := by
  have hi : i < T.length := drop_lt hd hf.pos
  unfold partR
  rw [if_neg (by omega), Int.toNat_natCast, sub_eq hd hok hf]

theorem kidsR_out {T : List Nd} {i : Int} (h : i < 0 ∨ (T.length : Int) ≤ i) : kidsR T i = [] := by
  unfold kidsR
  by_cases h0 : i < 0
  · rw [if_pos h0]
  · rw [if_neg h0, List.getElem?_eq_none (by omega)]

theorem endR_out {T : List Nd} {i : Int} (h : i < 0 ∨ (T.length : Int) ≤ i) : endR T i = -1 := by unfold endR; rw [if_pos h]
theorem endR_in {T ts rest : List Nd} {i : Nat} (hd : T.drop i = ts ++ rest) (hok : okAll ts) (hf : Fo 1 ts) : endR T (i : Int) = ((i + ts.length : Nat) : Int) := by
  rw [endR_nat (drop_lt hd hf.pos), endGo_one hd hok hf]

theorem kidsGo_le {T : List Nd} : ∀ (d i : Nat), (kidsGo T d i).length ≤ T.length - i
  | 0, _ => Nat.zero_le _
  | d + 1, i => by
    by_cases h : i < T.length
    · rw [kidsGo_step h, List.length_cons]
      have h1 := kidsGo_le (T := T) d (endGo (T.drop i) 1 i)
      have h2 := endGo_gt (T.drop i) 1 i (by intro h0; have := congrArg List.length h0; simp at this; omega)
      omega
    · rw [kidsGo_out h]; exact Nat.zero_le _

theorem kidsR_le (T : List Nd) (i : Int) : (kidsR T i).length ≤ T.length := by
  unfold kidsR
  split
  · exact Nat.zero_le _
  split
  · exact Nat.zero_le _
  · exact Nat.le_trans (kidsGo_le _ _) (Nat.sub_le _ _)

theorem partR_le (T : List Nd) (i : Int) : (partR T i).length ≤ T.length := by
  unfold partR
  split
  · exact Nat.zero_le _
  · rw [bareN_length]
    unfold sub
    rw [List.length_take, List.length_drop]
    omega

variable (A : Option Addr) (c : Nat) (T : List Nd) (i : Int) (w : World)

theorem int_in {n : Nat} {i : Int} (h : ¬ (i < 0 ∨ (n : Int) ≤ i)) : ∃ k : Nat, i = (k : Int) ∧ k < n := ⟨i.toNat, by omega, by omega⟩

theorem pEnd_all (ha : TyA w w.heap.size A T) (hl : T.length ≤ 1000000) (hr : rRightB T = true) :
    Calls Tryz.prog 42 #[.slice A T.length c, .int .i64 i] w fun e w' => e = .returned (.int .i64 (endR T i)) ∧ Below w.heap.size w w' := by
  by_cases h : i < 0 ∨ (T.length : Int) ≤ i
  · refine (pEnd_none A c T.length i w h).mono ?_
    rintro e w' ⟨rfl, rfl⟩
    exact ⟨by rw [endR_out h], Below.refl _ _⟩
  · obtain ⟨k, rfl, hk⟩ := int_in h
    obtain ⟨ts, rest, hd, hf, hok⟩ := (tree_at hr).2 k hk
    refine (pEnd_any A c T ts rest k w ha hl hd hok hf).mono ?_
    rintro e w' ⟨rfl, hb⟩
    exact ⟨by rw [endR_in hd hok hf], hb⟩

theorem pKids_all (ha : TyA w w.heap.size A T) (hl : T.length ≤ 1000000) (hr : rRightB T = true) :
    Calls Tryz.prog 41 #[.slice A T.length c, .int .i64 i] w fun e w' => ∃ A' cap', e = .returned (.slice A' (asI (kidsR T i)).length cap') ∧ ReadI w' w'.heap.size A' (asI (kidsR T i)) ∧ Below w.heap.size w w' := by
  by_cases h : i < 0 ∨ (T.length : Int) ≤ i
  · refine (pKids_none A c T.length i w h).mono ?_
    rintro e w' ⟨rfl, rfl⟩
    rw [kidsR_out h]
    exact ⟨none, 0, rfl, ReadL.nil, Below.refl _ _⟩
  · obtain ⟨k, rfl, hk⟩ := int_in h
    obtain ⟨ts, rest, hd, hf, hok⟩ := (tree_at hr).2 k hk
    obtain ⟨x, ys, rfl⟩ : ∃ x ys, ts = x :: ys := by
      cases ts with
      | nil => exact absurd hf.nil_of (by omega)
      | cons x ys => exact ⟨x, ys, rfl⟩
    obtain ⟨ks, rs, rfl, hf1, hf0⟩ := hf.uncons
    have hrs := hf0.of_zero
    subst hrs
    rw [List.append_nil] at hd hok
    have hx : T[k]? = some x := getq_of_drop hd
    have hd2 : T.drop (k + 1) = ks ++ rest := by
      have := drop_cons hx
      rw [hd] at this
      exact (List.cons.inj this).2.symm
    refine (pKids_any A c T ks rest x k w ha hl hx (hok x (by simp)) hd2 (fun y hy => hok y (by simp [hy])) hf1).mono ?_
    rintro e w' ⟨A', cap', rfl, hown, hb⟩
    rw [kidsR_node hx]
    exact ⟨A', cap', rfl, OwnL.read encI_len hown, hb⟩

theorem rKids_all (ha : TyA w w.heap.size A T) (hl : T.length ≤ 1000000) (hr : rRightB T = true) :
    Calls Tryz.prog 59 #[.slice A T.length c, .int .i64 i] w fun e w' => ∃ A' cap', e = .returned (.slice A' (asI (kidsR T i)).length cap') ∧ ReadI w' w'.heap.size A' (asI (kidsR T i)) ∧ Below w.heap.size w w' := by
  refine (rKids_any A c T i w ha hl (tree_at hr).1).mono ?_
  rintro e w' ⟨A', cap', rfl, hown, hb⟩
  exact ⟨A', cap', rfl, OwnL.read encI_len hown, hb⟩

theorem rEnd_all (ha : TyA w w.heap.size A T) (hl : T.length ≤ 1000000) (hr : rRightB T = true) :
    Calls Tryz.prog 45 #[.slice A T.length c, .int .i64 i] w fun e w' => e = .returned (.int .i64 (endR T i)) ∧ Below w.heap.size w w' :=
  rEnd_any A c T i w ha hl (tree_at hr).1
end Go.Proofs.YtblfeokjlecgkaaGreat
