/- ty.Part and the document's. -/
import Derived.Test.YtblfeokjlecgkaaMake
namespace Go.Proofs.Ytblfeokjlecgkaa
open Go.RowKit

/-- A row of nodes, its first one without a label. -/
def bareN : List Nd → List Nd
  | [] => []
  | x :: xs => x.name ByteArray.empty :: xs

theorem bareN_length (xs : List Nd) : (bareN xs).length = xs.length := by cases xs <;> rfl

set_option maxRecDepth 100000 in
set_option maxHeartbeats 2000000 in
theorem rPart_none (A : Option Addr) (c n : Nat) (i : Int) (w : World) (h : i < 0 ∨ (n : Int) ≤ i) :
    Calls Try.prog 106 #[.slice A n c, .int .i64 i] w fun e w' => e = .returned (.slice none 0 0) ∧ w = w' := by
  by_cases h0 : i < 0
  · clear h
    go_enter Try.func106, Try.ntmps106
    go_wp2_with fail
    go_ret
    exact ⟨rfl, rfl⟩
  · have h1 : (n : Int) ≤ i := by omega
    clear h
    go_enter Try.func106, Try.ntmps106
    go_wp2_with fail
    go_ret
    exact ⟨rfl, rfl⟩

set_option maxRecDepth 100000 in
set_option maxHeartbeats 2000000 in
theorem rPart_any (A : Option Addr) (c : Nat) (T ts rest : List Nd) (i : Nat) (w : World) (ha : TyA w w.heap.size A T) (hl : T.length ≤ 1000000) (hc : T.length ≤ c) (hd : T.drop i = ts ++ rest) (hok : okAll ts) (hokT : okAll T) (hf : Fo 1 ts) :
    Calls Try.prog 106 #[.slice A T.length c, .int .i64 (i : Int)] w (RetN w (bareN ts)) := by
  have hi : i < T.length := drop_lt hd hf.pos
  have hle : i + ts.length ≤ T.length := by
    have := congrArg List.length hd
    rw [List.length_drop, List.length_append] at this
    omega
  have hendr := Lib.hid (show endR T (i : Int) = ((i + ts.length : Nat) : Int) by rw [endR_nat hi, endGo_one hd hok hf])
  obtain ⟨x, ys, rfl⟩ : ∃ x ys, ts = x :: ys := by
    cases ts with
    | nil => exact absurd hf.nil_of (by omega)
    | cons x ys => exact ⟨x, ys, rfl⟩
  obtain ⟨b1, o1, rfl, hb1, c10, c11, c12⟩ := ha.at_ (getq_of_drop hd)
  have hpart := ha.part hd
  have HokT := Lib.hid hokT
  clear hd hok hf hokT
  have h0' : (0 : Int) ≤ (i : Int) := by omega
  have h1' : (i : Int) < (T.length : Int) := by omega
  have hd0 : decide ((i : Int) < 0) = false := by simp
  have hd1 : decide (T.length ≤ i) = false := by simp; omega
  have hown0 := own_empty 48 3 encN w
  have hb0 := ext_alloc (Below.refl w.heap.size w) (.cells #[] 48)
  simp only [List.length_cons] at hle hendr
  go_enter Try.func106, Try.ntmps106
  go_wp2_with fail
  refine (rEnd_any _ c T i _ ((ha.below hb0).more hb0.size) hl HokT.out).mono ?_
  rintro e w1 ⟨rfl, hb⟩
  rw [hendr.out]
  have hown1 := OwnL.below hown0 hb (Nat.le_refl _)
  have hbel1 := ext_trans hb0 hb
  have z1 := hbel1.size
  go_wp2_with (at_builtin; refine wpList_appN rfl (.tmp 14) (.tmp 20) rfl w.heap.size (l := []) rfl hown1 (l2 := x :: ys) (by show _ = Value.slice _ (ys.length + 1) _; rw [show i + (ys.length + 1) - i = ys.length + 1 by omega]; rfl) (hpart.below hbel1) (by simp; omega) z1 ?_; intro A2 cap2 w3 hown2 hg3 _; have hbel2 := ext_app hbel1 hg3 (fun k hk => (OwnL.block hown1 k hk).1); rw [List.nil_append] at hown2; obtain ⟨g, rfl, hbg, hg, hcell, hfz, hown3, hgr3⟩ := OwnL.setN hown2 (j := 0) (x := x) rfl ByteArray.empty; have hbel3 := ext_set (p := ⟨g, 0 * 3 + 1, none⟩) hbel2 (by simp; omega) (.string ByteArray.empty); simp only [Nat.zero_mul, Nat.zero_add] at hcell hfz hown3 hbel3)
  go_ret
  exact ⟨some ⟨g, 0, none⟩, cap2, by simp [bareN], hown3, hbel3⟩
end Go.Proofs.Ytblfeokjlecgkaa
