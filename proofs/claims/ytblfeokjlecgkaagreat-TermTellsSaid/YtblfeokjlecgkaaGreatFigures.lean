/- The document's numerals. -/
import Derived.Test.YtblfeokjlecgkaaGreatSame
import Derived.Lib.ItoaLen
import Derived.Laws.IdiomStrings
namespace Go.Proofs.YtblfeokjlecgkaaGreat
open Go.RowKit

/-- A text of one byte, made of a new row. -/
theorem run_one (w : World) (z : Int) (c : UInt8) (hz : z = c.toNat) :
    (convert 107 9 (.slice (some ⟨w.heap.size, 0, none⟩) 1 1)).run Tryz.prog (w.alloc (.cells #[.int .u8 z] 5)) = .ok (.string ⟨#[c]⟩) (w.alloc (.cells #[.int .u8 z] 5)) := by
  have h := run_convert_bytes_back (P := Tryz.prog) (w.alloc (.cells #[.int .u8 z] 5)) 107 9 5 ⟨w.heap.size, 0, none⟩ 1 [c] Tryz.underlying107 Tryz.underlying5 Tryz.underlying9 (by
    intro j hj
    have hj0 : j = 0 := by simpa using hj
    subst hj0
    rw [hz]
    exact World.cell?_alloc_new _ _ _ _)
  exact h

theorem dec_small {m : Nat} (h : ¬ 9 < m) : Lib.decDigits m = [UInt8.ofNat (48 + m)] := by
  rw [Lib.decDigits, dif_pos (by omega)]
theorem dec_big {m : Nat} (h : 9 < m) : Lib.decDigits m = Lib.decDigits (m / 10) ++ [UInt8.ofNat (48 + m % 10)] := by
  rw [Lib.decDigits, dif_neg (by omega)]

theorem byte_num {d : Nat} (h : d ≤ 9) : ((UInt8.ofNat (48 + d)).toNat : Int) = 48 + (d : Int) := by
  rw [UInt8.toNat_ofNat_of_lt' (by show 48 + d < 256; omega)]
  omega

theorem dec_len {n m : Nat} {t : ByteArray} (hn : n ≤ 9223372036854775807) (h : Lib.decDigits m ++ t.data.toList = Lib.decDigits n) : t.size ≤ 20 := by
  have h1 := congrArg List.length h
  rw [List.length_append, Lib.decDigits_length, Lib.decDigits_length] at h1
  have h2 := Lib.nDigits_le20 n (by omega)
  have h3 : t.data.toList.length = t.size := rfl
  omega

set_option maxRecDepth 100000 in
set_option maxHeartbeats 1000000 in
theorem figures_any (n : Nat) (hn : n ≤ 9223372036854775807) (w : World) :
    Calls Tryz.prog 79 #[.int .i64 (n : Int)] w fun e w' => e = .returned (.string ⟨(Lib.decDigits n).toArray⟩) ∧ Below w.heap.size w w' := by
  go_enter Tryz.func79, Tryz.ntmps79
  go_wp2_with fail
  go_loopw [0, 3] (fun a0 s3 wr => ∃ (m : Nat) (t : ByteArray), a0 = .int .i64 m ∧ s3 = .string t ∧ m ≤ n ∧ Below w.heap.size w wr ∧ Hid (Lib.decDigits m ++ t.data.toList = Lib.decDigits n))
    (fun a0 _ _ => (intOf a0).toNat)
  case atStart => exact ⟨n, _, rfl, rfl, Nat.le_refl _, Below.refl _ _, Lib.hid (by simp)⟩
  case round =>
    obtain ⟨m, t, rfl, rfl, hm, hbel, hgood⟩ := hrel
    have hmod0 : (0 : Int) ≤ (m : Int) % 10 := by omega
    have hmod1 : (m : Int) % 10 ≤ 9 := by omega
    have hts := dec_len hn hgood.out
    by_cases h9 : 9 < m
    · have h9i : (9 : Int) < (m : Int) := by omega
      have hgood2 := dec_big h9
      have hz := byte_num (show m % 10 ≤ 9 by omega)
      generalize UInt8.ofNat (48 + m % 10) = c at *
      have Hgood2 := Lib.hid hgood2
      have hconv := run_one wr (48 + (m : Int) % 10) c (by rw [hz]; simp)
      clear hgood2 hz
      go_wp2_with fail
      go_roundw
      case rel => exact ⟨m / 10, ⟨#[c]⟩ ++ t, by go_num, rfl, by omega, ext_alloc hbel _, Lib.hid (by rw [← hgood.out, Hgood2.out, ByteArray.data_append]; simp)⟩
      case measure => simp [intOf]; omega
    · have h9i : ¬ (9 : Int) < (m : Int) := by omega
      have hgood2 := dec_small h9
      have hz := byte_num (show m ≤ 9 by omega)
      generalize UInt8.ofNat (48 + m) = c at *
      have Hgood2 := Lib.hid hgood2
      have hconv := run_one wr (48 + (m : Int)) c (by rw [hz])
      clear hgood2 hz
      go_wp2_with fail
      go_ret
      exact ⟨ret_str (by rw [← hgood.out, Hgood2.out]; apply ByteArray.ext; simp [ByteArray.data_append]), ext_alloc hbel _⟩
end Go.Proofs.YtblfeokjlecgkaaGreat
