/- Laid together by a tool from the texts of this seat: TrAl OpenA. Conditions: each theorem's own. -/
import Derived.Test.YtblfeokjlecgkaaT14
import Derived.Test.YtblfeokjlecgkaaT07
import Derived.Test.YtblfeokjlecgkaaT01
import Derived.Test.YtblfeokjlecgkaaRows
import Derived.ProofKit
import Derived.LaidMore
import Derived.OpenShut
import Derived.Stop.Joined
import Derived.Stop.LaidErr
import Derived.Deep.Slices
import Derived.Deep.Fields
/- The live question of layer 4, walked. -/
namespace Go.Proofs.Ytblfeokjlecgkaa
open Go.RowKit

attribute [local go_sem ↓] Go.wp_at_zero Go.wp_at_succ

theorem lv4_lab : LabOk 100 lv4L := by
  intro p hp
  rcases Nat.lt_or_ge p 12 with h | h
  · have : ∀ q : Nat, q < 12 → (hereT lv4L q).s.size ≤ 100 := by decide +kernel
    exact this p h
  · rw [hereT_out (by rw [show lv4L.length = 12 from rfl]; omega)] at hp
    simp at hp

set_option maxRecDepth 100000 in
set_option maxHeartbeats 8000000 in
theorem of4_any {A : Option Addr} {c : Nat} {w : World} (hk : ReadK w w.heap.size A lv4L) :
    Calls Try.prog 74 #[.slice A 12 c] w fun e w' => ∃ (B : Option Addr) (cb : Nat) (SA : Option Addr) (sc : Nat), e = .returned (.tuple #[.slice B 5 cb, .slice SA 2 sc, .int .i64 0]) ∧ Below w.heap.size w w' ∧ TyA w' w'.heap.size B lv4T ∧ OwnSi w' w.heap.size SA sc [(0, 1), (9, 10)] := by
  have HK := Lib.hid hk
  have HC : Hid (Calls Try.prog 41 #[.slice A 12 c, .int .i64 0, .int .i64 1, .int .i64 1] w (ReadPost 0 (.ok lv4T ⟨11, [(0, 1), (9, 10)]⟩) w)) := Lib.hid (by
    have h := Read_any (c := c) (p := 0) (M := 100) (s0 := 1) (lv := 1) hk (by decide) (by decide) (by decide) (by decide) (by decide) lv4_lab (by decide)
    rw [show wholeF lv4L 1 (leftN 1) ⟨0, []⟩ = .ok lv4T ⟨11, [(0, 1), (9, 10)]⟩ from lv4_read] at h
    exact h)
  clear hk
  go_enter Try.func74, Try.ntmps74
  go_wp2_with fail
  refine HC.out.mono ?_
  rintro e w1 ⟨hb, h | h⟩
  · obtain ⟨hr, B, cb, SA, sc, rfl, ht, ho⟩ := h
    have H1 := Lib.hid (And.intro hb (And.intro ht ho))
    obtain ⟨b, o, rfl, hlt, c0, _, _, _⟩ := (ReadL.below HK.out hb).tok (i := 11) (t := endT lv4S) rfl
    have c1 : w1.cell? ⟨b, o + 11 * 4, none⟩ = some (.int .i64 0) := c0
    clear hb ht ho hr c0
    go_wp2_with fail
    exact bodyPost_ret (v := .tuple #[.slice B 5 cb, .slice SA 2 sc, .int .i64 0]) (by simp [results, Try.results74, go_sem]; rfl) rfl ⟨B, cb, SA, sc, rfl, H1.out.1, H1.out.2.1, H1.out.2.2⟩
  · rw [lv4_right] at h
    cases h.1

set_option maxRecDepth 100000 in
set_option maxHeartbeats 8000000 in
theorem alive4_any (w : World) :
    Calls Try.prog 39 #[] w fun e w' => e = .returned (.bool true) ∧ Below w.heap.size w w' := by
  have HT := Lib.hid (tokens_any lv4S w (by decide))
  unfold lv4S at HT
  go_enter Try.func39, Try.ntmps39
  go_wp2_with fail
  refine HT.out.mono ?_
  rintro e w1 (⟨A, c, l, rfl, _, hl, hown, hb⟩ | ⟨_, _, hno⟩)
  · obtain rfl := lv4_all hl
    rw [show lv4K.length + 1 = 12 from rfl]
    have HK : Hid (ReadK w1 w1.heap.size A lv4L) := Lib.hid (OwnL.read encK4_len hown)
    have HB := Lib.hid hb
    have HO := Lib.hid (of4_any (c := c) HK.out)
    clear hown hb hl
    go_wp2_with fail
    refine HO.out.mono ?_
    rintro e w2 ⟨B, cb, SA, sc, rfl, hb2, ht2, ho2⟩
    have HK2 : Hid (ReadK w2 w2.heap.size A lv4L) := Lib.hid (ReadL.more (ReadL.below HK.out hb2) hb2.size)
    have HB2 := Lib.hid (ext_trans HB.out hb2)
    have HT2 := Lib.hid (And.intro ht2 ho2)
    have HC : Hid (Calls Try.prog 41 #[.slice A 12 c, .int .i64 2, .int .i64 1, .int .i64 100] w2 (ReadPost 2 (.bad 2 4) w2)) := Lib.hid (by
      have h := Read_any (c := c) (p := 2) (M := 100) (s0 := 1) (lv := 100) HK2.out (by decide) (by decide) (by decide) (by decide) (by decide) lv4_lab (by decide)
      rw [show wholeF lv4L 1 (leftN 100) ⟨2, []⟩ = .bad 2 4 from lv4_deep] at h
      exact h)
    clear hb2 ht2 ho2
    go_wp2_with fail
    refine HC.out.mono ?_
    rintro e w3 ⟨hb3, rfl⟩
    have HB3 := Lib.hid (ext_trans HB2.out hb3)
    have HT3 : Hid (TyA w3 w3.heap.size B lv4T) := Lib.hid ((HT2.out.1.below hb3).more hb3.size)
    have HS3 : Hid (ReadL 3 encSi w3 w3.heap.size SA [(0, 1), (9, 10)]) := Lib.hid (ReadL.more (ReadL.below (OwnL.read encSi_len HT2.out.2) hb3) hb3.size)
    have HP : Hid (Calls Try.prog 75 #[.slice B 5 cb] w3 fun e w' => e = .returned (.string ⟨#[63, 32, 45, 62, 32, 123, 97, 58, 32, 105, 110, 116, 44, 32, 98, 58, 32, 63, 125]⟩) ∧ Below w3.heap.size w3 w') := Lib.hid (by
      have h := rPrint_any 5 cb B lv4T w3 lv4_tree HT3.out (by decide) lv4_okA lv4_okN (by decide +kernel)
      rw [lv4_pr] at h
      exact h)
    obtain ⟨b, o, rfl, hlt, hc⟩ := HS3.out (by simp)
    have HS : Hid (∀ w', Below w3.heap.size w3 w' → w'.cell? ⟨b, o + 1 * 3, none⟩ = some (.int .i64 9)) := Lib.hid fun w' hw => (hw.cell (p := ⟨b, _, none⟩) hlt).trans (hc 1 (9, 10) rfl 0 _ rfl)
    clear hb3 hlt hc
    go_wp2_with fail
    refine HP.out.mono ?_
    rintro e w4 ⟨rfl, hb4⟩
    have c1 := HS.out w4 hb4
    have HB4 := Lib.hid (ext_trans HB3.out hb4)
    clear hb4
    go_wp2_with fail
    go_ret
    exact ⟨rfl, HB4.out⟩
  · exact absurd lv4_toks (hno _ _)
end Go.Proofs.Ytblfeokjlecgkaa

/- From a row's arguments to what the walks ask. -/
namespace Go.Proofs.Ytblfeokjlecgkaa
open Go.ChangeShapes Go.WideShapes Go.ChangeAt Go.WideMaps Go.WideElems Go.RowKit Go.Deep

theorem own : ownKnob Try.prog.godebug = none := by kernel_rfl
theorem laidOutT : laidOutB Try.prog = true := by kernel_rfl
section
variable {H : Type} {enc : TypeId × Value → H} {W : World} {base : Nat} {d : DataW H} {p : List MemPlace} {v : Value}

end

end Go.Proofs.Ytblfeokjlecgkaa

/- Pairs among a row's arguments. -/
namespace Go.Proofs.Ytblfeokjlecgkaa
open Go.ChangeShapes Go.WideShapes Go.ChangeAt Go.WideMaps Go.WideElems Go.RowKit Go.Deep
section
variable {H : Type} {enc : TypeId × Value → H} {W : World} {base : Nat} {d : DataW H} {p : List MemPlace} {v : Value} {fuel : Nat} {cs : List Value} {X : DataW H × List MemPlace}

end
end Go.Proofs.Ytblfeokjlecgkaa
