/- Laid together by a tool from the texts of this seat: ChK ChKb. Conditions: each theorem's own. -/
import Derived.Test.YtmjdhfbnmmdjiaaGreatK10
import Derived.Test.YtmjdhfbnmmdjiaaGreatK05
/- ast.many, End and Kids. -/
namespace Go.Proofs.YtmjdhfbnmmdjiaaGreat
open Go.RowKit

def kidsV : Value := .agg #[.int .i64 0, .int .i64 0, .int .i64 1, .int .i64 2, .int .i64 2, .int .i64 2, .int .i64 3, .int .i64 1, .int .i64 1, .int .i64 2, .int .i64 0, .int .i64 1, .int .i64 1, .int .i64 1, .int .i64 1]
theorem kidsE_any (w : World) : Calls Tryz.prog 153 #[] w fun e w' => e = .returned kidsV ∧ Below w.heap.size w w' := by
  go_enter Tryz.func153, Tryz.ntmps153
  go_wp2
  exact bodyPost_ret (v := kidsV) (by simp [results, Tryz.results153, go_sem, kidsV]) rfl ⟨rfl, ext_alloc (Below.refl _ _) _⟩

def pvE (p : Pt) (TA : Option Addr) (tn tc : Nat) (UA : Option Addr) (un uc : Nat) : Value :=
  .agg #[.int .i64 p.k, .string p.lb, .string p.nm, .string p.bd, .int .i64 p.mn, .int .i64 p.num, .slice TA tn tc, .slice UA un uc]
def kidK (k : Int) : Int := if k = 2 ∨ k = 7 ∨ k = 8 ∨ k = 11 ∨ k = 12 ∨ k = 13 ∨ k = 14 then 1 else if k = 3 ∨ k = 4 ∨ k = 5 ∨ k = 9 then 2 else if k = 6 then 3 else 0
set_option maxRecDepth 100000 in
set_option maxHeartbeats 4000000 in
theorem manyE_any (p : Pt) (TA : Option Addr) (tn tc : Nat) (UA : Option Addr) (un uc : Nat) (w : World) (hk : 0 ≤ p.k ∧ p.k ≤ 14) (hm : -1000000 ≤ p.mn ∧ p.mn ≤ 1000000) :
    Calls Tryz.prog 144 #[pvE p TA tn tc UA un uc] w fun e w' => e = .returned (.int .i64 (manyE p : Int)) ∧ Below w.heap.size w w' := by
  obtain ⟨w1, hw1⟩ : ∃ w1, w1 = w.alloc (.cells #[.int .i64 p.k, .string p.lb, .string p.nm, .string p.bd, .int .i64 p.mn, .int .i64 p.num, .slice TA tn tc, .slice UA un uc] 33) := ⟨_, rfl⟩
  have hb1 : Below w.heap.size w w1 := by rw [hw1]; exact ext_alloc (Below.refl _ _) _
  have hbl : w1.heap[w.heap.size]? = some (.cells #[.int .i64 p.k, .string p.lb, .string p.nm, .string p.bd, .int .i64 p.mn, .int .i64 p.num, .slice TA tn tc, .slice UA un uc] 33 (0, 0)) := by rw [hw1]; exact heap_alloc_new _ _
  unfold pvE
  go_enter Tryz.func144, Tryz.ntmps144
  go_upto_region 1 with fail
  rw [← hw1]
  clear hw1
  have HB := Lib.hid (And.intro hb1 hbl)
  have k0 : w1.cell? ⟨w.heap.size, 0, none⟩ = some (.int .i64 p.k) := by simp [World.cell?, hbl]
  clear hb1 hbl
  have hcs : p.k = 0 ∨ p.k = 1 ∨ p.k = 2 ∨ p.k = 3 ∨ p.k = 4 ∨ p.k = 5 ∨ p.k = 6 ∨ p.k = 7 ∨ p.k = 8 ∨ p.k = 9 ∨ p.k = 10 ∨ p.k = 11 ∨ p.k = 12 ∨ p.k = 13 ∨ p.k = 14 := by omega
  obtain ⟨mn, hmn⟩ : ∃ mn, mn = p.mn := ⟨_, rfl⟩
  have HM : Hid (∀ k : Int, p.k = k → (manyE p : Int) = (if k = 7 ∨ k = 10 then kidK k + max mn 0 else kidK k)) := Lib.hid (fun k hk2 => by
    subst hk2
    rw [hmn]
    unfold manyE kidK
    rcases hcs with h | h | h | h | h | h | h | h | h | h | h | h | h | h | h <;> simp [h] <;> omega)
  have hmm : -1000000 ≤ mn ∧ mn ≤ 1000000 := by rw [hmn]; exact hm
  have HMN := Lib.hid hmn
  clear hm hk hmn
  obtain ⟨k, hkk⟩ : ∃ k, k = p.k := ⟨_, rfl⟩
  have HK := Lib.hid hkk
  rw [← hkk] at k0 hcs
  clear hkk
  rcases hcs with rfl | rfl | rfl | rfl | rfl | rfl | rfl | rfl | rfl | rfl | rfl | rfl | rfl | rfl | rfl
  · go_upto_region 3 with fail
    obtain ⟨SS, hSS⟩ : ∃ SS : World → Prop, SS = fun v => v.cell? ⟨w.heap.size, 0, none⟩ = some (.int .i64 0) := ⟨_, rfl⟩
    obtain ⟨wd, hwd⟩ : ∃ wd, wd = w1.drew := ⟨_, rfl⟩
    have HBd : Hid (Below w1.heap.size w1 wd) := Lib.hid (by rw [hwd]; exact (Below.refl _ _).drew)
    have hlt : w.heap.size < w1.heap.size := (Array.getElem?_eq_some_iff.1 HB.out.2).1
    have hsd : SS wd := by rw [hSS, hwd]; exact k0
    refine wp_region_L_drew (S := SS) [4] (by kernel_rfl) (by rw [← hwd]; exact hsd) (fun hHeld => ?_)
    rw [← hwd] at hHeld ⊢
    clear hwd
    refine onA 1 [2, 3, 4] (some 13) rfl rfl ?_
    refine onA 2 [3, 4] (some 14) rfl rfl ?_
    refine callL 0 (some 12) rfl rfl (by kernel_rfl) (by rfl) (by kernel_rfl) (kidsE_any wd) ?_
    rintro e w2 ⟨rfl, hb2⟩
    have k02 : w2.cell? ⟨w.heap.size, 0, none⟩ = some (.int .i64 0) := (hb2.cell (Nat.lt_of_lt_of_le hlt HBd.out.size)).trans (by rw [hSS] at hsd; exact hsd)
    have HB2 : Hid (Below w1.heap.size w1 w2) := Lib.hid (ext_trans HBd.out hb2)
    have k42 : w2.cell? ⟨w.heap.size, 4, none⟩ = some (.int .i64 mn) := by
      have := (HB2.out.block _ hlt).trans HB.out.2
      rw [HMN.out]
      simp [World.cell?, this]
    refine ⟨_, rfl, by rw [hSS]; exact k02, ?_⟩
    refine putA ?_
    refine valL 3 (some 15) (v := .int .i64 0) (w' := w2) rfl rfl (by kernel_rfl) (by rfl) (by kernel_rfl) (fun _ => by rw [hSS]; exact k02) ?_
    refine putA ?_
    refine valL 4 (some 3) rfl rfl (by kernel_rfl) (by rfl) (by go_simp; first | with_reducible rfl | (constructor <;> with_reducible rfl)) (zL (by kernel_rfl)) ?_
    refine putA ?_
    refine doneL (by kernel_rfl) ?_ _
    have HR := Lib.hid (HM.out 0 HK.out.symm)
    have HBB : Hid (Below w.heap.size w w2) := Lib.hid (ext_trans HB.out.1 HB2.out)
    clear hsd hHeld hb2 k0 hlt
    go_wp2_with fail
    go_ret
    refine ⟨?_, HBB.out⟩
    rw [HR.out]
    rfl
  · go_upto_region 3 with fail
    obtain ⟨SS, hSS⟩ : ∃ SS : World → Prop, SS = fun v => v.cell? ⟨w.heap.size, 0, none⟩ = some (.int .i64 1) := ⟨_, rfl⟩
    obtain ⟨wd, hwd⟩ : ∃ wd, wd = w1.drew := ⟨_, rfl⟩
    have HBd : Hid (Below w1.heap.size w1 wd) := Lib.hid (by rw [hwd]; exact (Below.refl _ _).drew)
    have hlt : w.heap.size < w1.heap.size := (Array.getElem?_eq_some_iff.1 HB.out.2).1
    have hsd : SS wd := by rw [hSS, hwd]; exact k0
    refine wp_region_L_drew (S := SS) [4] (by kernel_rfl) (by rw [← hwd]; exact hsd) (fun hHeld => ?_)
    rw [← hwd] at hHeld ⊢
    clear hwd
    refine onA 1 [2, 3, 4] (some 13) rfl rfl ?_
    refine onA 2 [3, 4] (some 14) rfl rfl ?_
    refine callL 0 (some 12) rfl rfl (by kernel_rfl) (by rfl) (by kernel_rfl) (kidsE_any wd) ?_
    rintro e w2 ⟨rfl, hb2⟩
    have k02 : w2.cell? ⟨w.heap.size, 0, none⟩ = some (.int .i64 1) := (hb2.cell (Nat.lt_of_lt_of_le hlt HBd.out.size)).trans (by rw [hSS] at hsd; exact hsd)
    have HB2 : Hid (Below w1.heap.size w1 w2) := Lib.hid (ext_trans HBd.out hb2)
    have k42 : w2.cell? ⟨w.heap.size, 4, none⟩ = some (.int .i64 mn) := by
      have := (HB2.out.block _ hlt).trans HB.out.2
      rw [HMN.out]
      simp [World.cell?, this]
    refine ⟨_, rfl, by rw [hSS]; exact k02, ?_⟩
    refine putA ?_
    refine valL 3 (some 15) (v := .int .i64 0) (w' := w2) rfl rfl (by kernel_rfl) (by rfl) (by kernel_rfl) (fun _ => by rw [hSS]; exact k02) ?_
    refine putA ?_
    refine valL 4 (some 3) rfl rfl (by kernel_rfl) (by rfl) (by go_simp; first | with_reducible rfl | (constructor <;> with_reducible rfl)) (zL (by kernel_rfl)) ?_
    refine putA ?_
    refine doneL (by kernel_rfl) ?_ _
    have HR := Lib.hid (HM.out 1 HK.out.symm)
    have HBB : Hid (Below w.heap.size w w2) := Lib.hid (ext_trans HB.out.1 HB2.out)
    clear hsd hHeld hb2 k0 hlt
    go_wp2_with fail
    go_ret
    refine ⟨?_, HBB.out⟩
    rw [HR.out]
    rfl
  · go_upto_region 3 with fail
    obtain ⟨SS, hSS⟩ : ∃ SS : World → Prop, SS = fun v => v.cell? ⟨w.heap.size, 0, none⟩ = some (.int .i64 2) := ⟨_, rfl⟩
    obtain ⟨wd, hwd⟩ : ∃ wd, wd = w1.drew := ⟨_, rfl⟩
    have HBd : Hid (Below w1.heap.size w1 wd) := Lib.hid (by rw [hwd]; exact (Below.refl _ _).drew)
    have hlt : w.heap.size < w1.heap.size := (Array.getElem?_eq_some_iff.1 HB.out.2).1
    have hsd : SS wd := by rw [hSS, hwd]; exact k0
    refine wp_region_L_drew (S := SS) [4] (by kernel_rfl) (by rw [← hwd]; exact hsd) (fun hHeld => ?_)
    rw [← hwd] at hHeld ⊢
    clear hwd
    refine onA 1 [2, 3, 4] (some 13) rfl rfl ?_
    refine onA 2 [3, 4] (some 14) rfl rfl ?_
    refine callL 0 (some 12) rfl rfl (by kernel_rfl) (by rfl) (by kernel_rfl) (kidsE_any wd) ?_
    rintro e w2 ⟨rfl, hb2⟩
    have k02 : w2.cell? ⟨w.heap.size, 0, none⟩ = some (.int .i64 2) := (hb2.cell (Nat.lt_of_lt_of_le hlt HBd.out.size)).trans (by rw [hSS] at hsd; exact hsd)
    have HB2 : Hid (Below w1.heap.size w1 w2) := Lib.hid (ext_trans HBd.out hb2)
    have k42 : w2.cell? ⟨w.heap.size, 4, none⟩ = some (.int .i64 mn) := by
      have := (HB2.out.block _ hlt).trans HB.out.2
      rw [HMN.out]
      simp [World.cell?, this]
    refine ⟨_, rfl, by rw [hSS]; exact k02, ?_⟩
    refine putA ?_
    refine valL 3 (some 15) (v := .int .i64 1) (w' := w2) rfl rfl (by kernel_rfl) (by rfl) (by kernel_rfl) (fun _ => by rw [hSS]; exact k02) ?_
    refine putA ?_
    refine valL 4 (some 3) rfl rfl (by kernel_rfl) (by rfl) (by go_simp; first | with_reducible rfl | (constructor <;> with_reducible rfl)) (zL (by kernel_rfl)) ?_
    refine putA ?_
    refine doneL (by kernel_rfl) ?_ _
    have HR := Lib.hid (HM.out 2 HK.out.symm)
    have HBB : Hid (Below w.heap.size w w2) := Lib.hid (ext_trans HB.out.1 HB2.out)
    clear hsd hHeld hb2 k0 hlt
    go_wp2_with fail
    go_ret
    refine ⟨?_, HBB.out⟩
    rw [HR.out]
    rfl
  · go_upto_region 3 with fail
    obtain ⟨SS, hSS⟩ : ∃ SS : World → Prop, SS = fun v => v.cell? ⟨w.heap.size, 0, none⟩ = some (.int .i64 3) := ⟨_, rfl⟩
    obtain ⟨wd, hwd⟩ : ∃ wd, wd = w1.drew := ⟨_, rfl⟩
    have HBd : Hid (Below w1.heap.size w1 wd) := Lib.hid (by rw [hwd]; exact (Below.refl _ _).drew)
    have hlt : w.heap.size < w1.heap.size := (Array.getElem?_eq_some_iff.1 HB.out.2).1
    have hsd : SS wd := by rw [hSS, hwd]; exact k0
    refine wp_region_L_drew (S := SS) [4] (by kernel_rfl) (by rw [← hwd]; exact hsd) (fun hHeld => ?_)
    rw [← hwd] at hHeld ⊢
    clear hwd
    refine onA 1 [2, 3, 4] (some 13) rfl rfl ?_
    refine onA 2 [3, 4] (some 14) rfl rfl ?_
    refine callL 0 (some 12) rfl rfl (by kernel_rfl) (by rfl) (by kernel_rfl) (kidsE_any wd) ?_
    rintro e w2 ⟨rfl, hb2⟩
    have k02 : w2.cell? ⟨w.heap.size, 0, none⟩ = some (.int .i64 3) := (hb2.cell (Nat.lt_of_lt_of_le hlt HBd.out.size)).trans (by rw [hSS] at hsd; exact hsd)
    have HB2 : Hid (Below w1.heap.size w1 w2) := Lib.hid (ext_trans HBd.out hb2)
    have k42 : w2.cell? ⟨w.heap.size, 4, none⟩ = some (.int .i64 mn) := by
      have := (HB2.out.block _ hlt).trans HB.out.2
      rw [HMN.out]
      simp [World.cell?, this]
    refine ⟨_, rfl, by rw [hSS]; exact k02, ?_⟩
    refine putA ?_
    refine valL 3 (some 15) (v := .int .i64 2) (w' := w2) rfl rfl (by kernel_rfl) (by rfl) (by kernel_rfl) (fun _ => by rw [hSS]; exact k02) ?_
    refine putA ?_
    refine valL 4 (some 3) rfl rfl (by kernel_rfl) (by rfl) (by go_simp; first | with_reducible rfl | (constructor <;> with_reducible rfl)) (zL (by kernel_rfl)) ?_
    refine putA ?_
    refine doneL (by kernel_rfl) ?_ _
    have HR := Lib.hid (HM.out 3 HK.out.symm)
    have HBB : Hid (Below w.heap.size w w2) := Lib.hid (ext_trans HB.out.1 HB2.out)
    clear hsd hHeld hb2 k0 hlt
    go_wp2_with fail
    go_ret
    refine ⟨?_, HBB.out⟩
    rw [HR.out]
    rfl
  · go_upto_region 3 with fail
    obtain ⟨SS, hSS⟩ : ∃ SS : World → Prop, SS = fun v => v.cell? ⟨w.heap.size, 0, none⟩ = some (.int .i64 4) := ⟨_, rfl⟩
    obtain ⟨wd, hwd⟩ : ∃ wd, wd = w1.drew := ⟨_, rfl⟩
    have HBd : Hid (Below w1.heap.size w1 wd) := Lib.hid (by rw [hwd]; exact (Below.refl _ _).drew)
    have hlt : w.heap.size < w1.heap.size := (Array.getElem?_eq_some_iff.1 HB.out.2).1
    have hsd : SS wd := by rw [hSS, hwd]; exact k0
    refine wp_region_L_drew (S := SS) [4] (by kernel_rfl) (by rw [← hwd]; exact hsd) (fun hHeld => ?_)
    rw [← hwd] at hHeld ⊢
    clear hwd
    refine onA 1 [2, 3, 4] (some 13) rfl rfl ?_
    refine onA 2 [3, 4] (some 14) rfl rfl ?_
    refine callL 0 (some 12) rfl rfl (by kernel_rfl) (by rfl) (by kernel_rfl) (kidsE_any wd) ?_
    rintro e w2 ⟨rfl, hb2⟩
    have k02 : w2.cell? ⟨w.heap.size, 0, none⟩ = some (.int .i64 4) := (hb2.cell (Nat.lt_of_lt_of_le hlt HBd.out.size)).trans (by rw [hSS] at hsd; exact hsd)
    have HB2 : Hid (Below w1.heap.size w1 w2) := Lib.hid (ext_trans HBd.out hb2)
    have k42 : w2.cell? ⟨w.heap.size, 4, none⟩ = some (.int .i64 mn) := by
      have := (HB2.out.block _ hlt).trans HB.out.2
      rw [HMN.out]
      simp [World.cell?, this]
    refine ⟨_, rfl, by rw [hSS]; exact k02, ?_⟩
    refine putA ?_
    refine valL 3 (some 15) (v := .int .i64 2) (w' := w2) rfl rfl (by kernel_rfl) (by rfl) (by kernel_rfl) (fun _ => by rw [hSS]; exact k02) ?_
    refine putA ?_
    refine valL 4 (some 3) rfl rfl (by kernel_rfl) (by rfl) (by go_simp; first | with_reducible rfl | (constructor <;> with_reducible rfl)) (zL (by kernel_rfl)) ?_
    refine putA ?_
    refine doneL (by kernel_rfl) ?_ _
    have HR := Lib.hid (HM.out 4 HK.out.symm)
    have HBB : Hid (Below w.heap.size w w2) := Lib.hid (ext_trans HB.out.1 HB2.out)
    clear hsd hHeld hb2 k0 hlt
    go_wp2_with fail
    go_ret
    refine ⟨?_, HBB.out⟩
    rw [HR.out]
    rfl
  · go_upto_region 3 with fail
    obtain ⟨SS, hSS⟩ : ∃ SS : World → Prop, SS = fun v => v.cell? ⟨w.heap.size, 0, none⟩ = some (.int .i64 5) := ⟨_, rfl⟩
    obtain ⟨wd, hwd⟩ : ∃ wd, wd = w1.drew := ⟨_, rfl⟩
    have HBd : Hid (Below w1.heap.size w1 wd) := Lib.hid (by rw [hwd]; exact (Below.refl _ _).drew)
    have hlt : w.heap.size < w1.heap.size := (Array.getElem?_eq_some_iff.1 HB.out.2).1
    have hsd : SS wd := by rw [hSS, hwd]; exact k0
    refine wp_region_L_drew (S := SS) [4] (by kernel_rfl) (by rw [← hwd]; exact hsd) (fun hHeld => ?_)
    rw [← hwd] at hHeld ⊢
    clear hwd
    refine onA 1 [2, 3, 4] (some 13) rfl rfl ?_
    refine onA 2 [3, 4] (some 14) rfl rfl ?_
    refine callL 0 (some 12) rfl rfl (by kernel_rfl) (by rfl) (by kernel_rfl) (kidsE_any wd) ?_
    rintro e w2 ⟨rfl, hb2⟩
    have k02 : w2.cell? ⟨w.heap.size, 0, none⟩ = some (.int .i64 5) := (hb2.cell (Nat.lt_of_lt_of_le hlt HBd.out.size)).trans (by rw [hSS] at hsd; exact hsd)
    have HB2 : Hid (Below w1.heap.size w1 w2) := Lib.hid (ext_trans HBd.out hb2)
    have k42 : w2.cell? ⟨w.heap.size, 4, none⟩ = some (.int .i64 mn) := by
      have := (HB2.out.block _ hlt).trans HB.out.2
      rw [HMN.out]
      simp [World.cell?, this]
    refine ⟨_, rfl, by rw [hSS]; exact k02, ?_⟩
    refine putA ?_
    refine valL 3 (some 15) (v := .int .i64 2) (w' := w2) rfl rfl (by kernel_rfl) (by rfl) (by kernel_rfl) (fun _ => by rw [hSS]; exact k02) ?_
    refine putA ?_
    refine valL 4 (some 3) rfl rfl (by kernel_rfl) (by rfl) (by go_simp; first | with_reducible rfl | (constructor <;> with_reducible rfl)) (zL (by kernel_rfl)) ?_
    refine putA ?_
    refine doneL (by kernel_rfl) ?_ _
    have HR := Lib.hid (HM.out 5 HK.out.symm)
    have HBB : Hid (Below w.heap.size w w2) := Lib.hid (ext_trans HB.out.1 HB2.out)
    clear hsd hHeld hb2 k0 hlt
    go_wp2_with fail
    go_ret
    refine ⟨?_, HBB.out⟩
    rw [HR.out]
    rfl
  · go_upto_region 3 with fail
    obtain ⟨SS, hSS⟩ : ∃ SS : World → Prop, SS = fun v => v.cell? ⟨w.heap.size, 0, none⟩ = some (.int .i64 6) := ⟨_, rfl⟩
    obtain ⟨wd, hwd⟩ : ∃ wd, wd = w1.drew := ⟨_, rfl⟩
    have HBd : Hid (Below w1.heap.size w1 wd) := Lib.hid (by rw [hwd]; exact (Below.refl _ _).drew)
    have hlt : w.heap.size < w1.heap.size := (Array.getElem?_eq_some_iff.1 HB.out.2).1
    have hsd : SS wd := by rw [hSS, hwd]; exact k0
    refine wp_region_L_drew (S := SS) [4] (by kernel_rfl) (by rw [← hwd]; exact hsd) (fun hHeld => ?_)
    rw [← hwd] at hHeld ⊢
    clear hwd
    refine onA 1 [2, 3, 4] (some 13) rfl rfl ?_
    refine onA 2 [3, 4] (some 14) rfl rfl ?_
    refine callL 0 (some 12) rfl rfl (by kernel_rfl) (by rfl) (by kernel_rfl) (kidsE_any wd) ?_
    rintro e w2 ⟨rfl, hb2⟩
    have k02 : w2.cell? ⟨w.heap.size, 0, none⟩ = some (.int .i64 6) := (hb2.cell (Nat.lt_of_lt_of_le hlt HBd.out.size)).trans (by rw [hSS] at hsd; exact hsd)
    have HB2 : Hid (Below w1.heap.size w1 w2) := Lib.hid (ext_trans HBd.out hb2)
    have k42 : w2.cell? ⟨w.heap.size, 4, none⟩ = some (.int .i64 mn) := by
      have := (HB2.out.block _ hlt).trans HB.out.2
      rw [HMN.out]
      simp [World.cell?, this]
    refine ⟨_, rfl, by rw [hSS]; exact k02, ?_⟩
    refine putA ?_
    refine valL 3 (some 15) (v := .int .i64 3) (w' := w2) rfl rfl (by kernel_rfl) (by rfl) (by kernel_rfl) (fun _ => by rw [hSS]; exact k02) ?_
    refine putA ?_
    refine valL 4 (some 3) rfl rfl (by kernel_rfl) (by rfl) (by go_simp; first | with_reducible rfl | (constructor <;> with_reducible rfl)) (zL (by kernel_rfl)) ?_
    refine putA ?_
    refine doneL (by kernel_rfl) ?_ _
    have HR := Lib.hid (HM.out 6 HK.out.symm)
    have HBB : Hid (Below w.heap.size w w2) := Lib.hid (ext_trans HB.out.1 HB2.out)
    clear hsd hHeld hb2 k0 hlt
    go_wp2_with fail
    go_ret
    refine ⟨?_, HBB.out⟩
    rw [HR.out]
    rfl
  · go_upto_region 3 with fail
    obtain ⟨SS, hSS⟩ : ∃ SS : World → Prop, SS = fun v => v.cell? ⟨w.heap.size, 0, none⟩ = some (.int .i64 7) := ⟨_, rfl⟩
    obtain ⟨wd, hwd⟩ : ∃ wd, wd = w1.drew := ⟨_, rfl⟩
    have HBd : Hid (Below w1.heap.size w1 wd) := Lib.hid (by rw [hwd]; exact (Below.refl _ _).drew)
    have hlt : w.heap.size < w1.heap.size := (Array.getElem?_eq_some_iff.1 HB.out.2).1
    have hsd : SS wd := by rw [hSS, hwd]; exact k0
    refine wp_region_L_drew (S := SS) [4] (by kernel_rfl) (by rw [← hwd]; exact hsd) (fun hHeld => ?_)
    rw [← hwd] at hHeld ⊢
    clear hwd
    refine onA 1 [2, 3, 4] (some 13) rfl rfl ?_
    refine onA 2 [3, 4] (some 14) rfl rfl ?_
    refine callL 0 (some 12) rfl rfl (by kernel_rfl) (by rfl) (by kernel_rfl) (kidsE_any wd) ?_
    rintro e w2 ⟨rfl, hb2⟩
    have k02 : w2.cell? ⟨w.heap.size, 0, none⟩ = some (.int .i64 7) := (hb2.cell (Nat.lt_of_lt_of_le hlt HBd.out.size)).trans (by rw [hSS] at hsd; exact hsd)
    have HB2 : Hid (Below w1.heap.size w1 w2) := Lib.hid (ext_trans HBd.out hb2)
    have k42 : w2.cell? ⟨w.heap.size, 4, none⟩ = some (.int .i64 mn) := by
      have := (HB2.out.block _ hlt).trans HB.out.2
      rw [HMN.out]
      simp [World.cell?, this]
    refine ⟨_, rfl, by rw [hSS]; exact k02, ?_⟩
    refine putA ?_
    refine valL 3 (some 15) (v := .int .i64 1) (w' := w2) rfl rfl (by kernel_rfl) (by rfl) (by kernel_rfl) (fun _ => by rw [hSS]; exact k02) ?_
    refine putA ?_
    refine valL 4 (some 3) rfl rfl (by kernel_rfl) (by rfl) (by go_simp; first | with_reducible rfl | (constructor <;> with_reducible rfl)) (zL (by kernel_rfl)) ?_
    refine putA ?_
    refine doneL (by kernel_rfl) ?_ _
    have HR := Lib.hid (HM.out 7 HK.out.symm)
    have HBB : Hid (Below w.heap.size w w2) := Lib.hid (ext_trans HB.out.1 HB2.out)
    clear hsd hHeld hb2 k0 hlt
    go_wp2_with fail
    go_ret
    refine ⟨?_, HBB.out⟩
    rw [HR.out]
    simp [kidK]
  · go_upto_region 3 with fail
    obtain ⟨SS, hSS⟩ : ∃ SS : World → Prop, SS = fun v => v.cell? ⟨w.heap.size, 0, none⟩ = some (.int .i64 8) := ⟨_, rfl⟩
    obtain ⟨wd, hwd⟩ : ∃ wd, wd = w1.drew := ⟨_, rfl⟩
    have HBd : Hid (Below w1.heap.size w1 wd) := Lib.hid (by rw [hwd]; exact (Below.refl _ _).drew)
    have hlt : w.heap.size < w1.heap.size := (Array.getElem?_eq_some_iff.1 HB.out.2).1
    have hsd : SS wd := by rw [hSS, hwd]; exact k0
    refine wp_region_L_drew (S := SS) [4] (by kernel_rfl) (by rw [← hwd]; exact hsd) (fun hHeld => ?_)
    rw [← hwd] at hHeld ⊢
    clear hwd
    refine onA 1 [2, 3, 4] (some 13) rfl rfl ?_
    refine onA 2 [3, 4] (some 14) rfl rfl ?_
    refine callL 0 (some 12) rfl rfl (by kernel_rfl) (by rfl) (by kernel_rfl) (kidsE_any wd) ?_
    rintro e w2 ⟨rfl, hb2⟩
    have k02 : w2.cell? ⟨w.heap.size, 0, none⟩ = some (.int .i64 8) := (hb2.cell (Nat.lt_of_lt_of_le hlt HBd.out.size)).trans (by rw [hSS] at hsd; exact hsd)
    have HB2 : Hid (Below w1.heap.size w1 w2) := Lib.hid (ext_trans HBd.out hb2)
    have k42 : w2.cell? ⟨w.heap.size, 4, none⟩ = some (.int .i64 mn) := by
      have := (HB2.out.block _ hlt).trans HB.out.2
      rw [HMN.out]
      simp [World.cell?, this]
    refine ⟨_, rfl, by rw [hSS]; exact k02, ?_⟩
    refine putA ?_
    refine valL 3 (some 15) (v := .int .i64 1) (w' := w2) rfl rfl (by kernel_rfl) (by rfl) (by kernel_rfl) (fun _ => by rw [hSS]; exact k02) ?_
    refine putA ?_
    refine valL 4 (some 3) rfl rfl (by kernel_rfl) (by rfl) (by go_simp; first | with_reducible rfl | (constructor <;> with_reducible rfl)) (zL (by kernel_rfl)) ?_
    refine putA ?_
    refine doneL (by kernel_rfl) ?_ _
    have HR := Lib.hid (HM.out 8 HK.out.symm)
    have HBB : Hid (Below w.heap.size w w2) := Lib.hid (ext_trans HB.out.1 HB2.out)
    clear hsd hHeld hb2 k0 hlt
    go_wp2_with fail
    go_ret
    refine ⟨?_, HBB.out⟩
    rw [HR.out]
    rfl
  · go_upto_region 3 with fail
    obtain ⟨SS, hSS⟩ : ∃ SS : World → Prop, SS = fun v => v.cell? ⟨w.heap.size, 0, none⟩ = some (.int .i64 9) := ⟨_, rfl⟩
    obtain ⟨wd, hwd⟩ : ∃ wd, wd = w1.drew := ⟨_, rfl⟩
    have HBd : Hid (Below w1.heap.size w1 wd) := Lib.hid (by rw [hwd]; exact (Below.refl _ _).drew)
    have hlt : w.heap.size < w1.heap.size := (Array.getElem?_eq_some_iff.1 HB.out.2).1
    have hsd : SS wd := by rw [hSS, hwd]; exact k0
    refine wp_region_L_drew (S := SS) [4] (by kernel_rfl) (by rw [← hwd]; exact hsd) (fun hHeld => ?_)
    rw [← hwd] at hHeld ⊢
    clear hwd
    refine onA 1 [2, 3, 4] (some 13) rfl rfl ?_
    refine onA 2 [3, 4] (some 14) rfl rfl ?_
    refine callL 0 (some 12) rfl rfl (by kernel_rfl) (by rfl) (by kernel_rfl) (kidsE_any wd) ?_
    rintro e w2 ⟨rfl, hb2⟩
    have k02 : w2.cell? ⟨w.heap.size, 0, none⟩ = some (.int .i64 9) := (hb2.cell (Nat.lt_of_lt_of_le hlt HBd.out.size)).trans (by rw [hSS] at hsd; exact hsd)
    have HB2 : Hid (Below w1.heap.size w1 w2) := Lib.hid (ext_trans HBd.out hb2)
    have k42 : w2.cell? ⟨w.heap.size, 4, none⟩ = some (.int .i64 mn) := by
      have := (HB2.out.block _ hlt).trans HB.out.2
      rw [HMN.out]
      simp [World.cell?, this]
    refine ⟨_, rfl, by rw [hSS]; exact k02, ?_⟩
    refine putA ?_
    refine valL 3 (some 15) (v := .int .i64 2) (w' := w2) rfl rfl (by kernel_rfl) (by rfl) (by kernel_rfl) (fun _ => by rw [hSS]; exact k02) ?_
    refine putA ?_
    refine valL 4 (some 3) rfl rfl (by kernel_rfl) (by rfl) (by go_simp; first | with_reducible rfl | (constructor <;> with_reducible rfl)) (zL (by kernel_rfl)) ?_
    refine putA ?_
    refine doneL (by kernel_rfl) ?_ _
    have HR := Lib.hid (HM.out 9 HK.out.symm)
    have HBB : Hid (Below w.heap.size w w2) := Lib.hid (ext_trans HB.out.1 HB2.out)
    clear hsd hHeld hb2 k0 hlt
    go_wp2_with fail
    go_ret
    refine ⟨?_, HBB.out⟩
    rw [HR.out]
    rfl
  · go_upto_region 3 with fail
    obtain ⟨SS, hSS⟩ : ∃ SS : World → Prop, SS = fun v => v.cell? ⟨w.heap.size, 0, none⟩ = some (.int .i64 10) := ⟨_, rfl⟩
    obtain ⟨wd, hwd⟩ : ∃ wd, wd = w1.drew := ⟨_, rfl⟩
    have HBd : Hid (Below w1.heap.size w1 wd) := Lib.hid (by rw [hwd]; exact (Below.refl _ _).drew)
    have hlt : w.heap.size < w1.heap.size := (Array.getElem?_eq_some_iff.1 HB.out.2).1
    have hsd : SS wd := by rw [hSS, hwd]; exact k0
    refine wp_region_L_drew (S := SS) [4] (by kernel_rfl) (by rw [← hwd]; exact hsd) (fun hHeld => ?_)
    rw [← hwd] at hHeld ⊢
    clear hwd
    refine onA 1 [2, 3, 4] (some 13) rfl rfl ?_
    refine onA 2 [3, 4] (some 14) rfl rfl ?_
    refine callL 0 (some 12) rfl rfl (by kernel_rfl) (by rfl) (by kernel_rfl) (kidsE_any wd) ?_
    rintro e w2 ⟨rfl, hb2⟩
    have k02 : w2.cell? ⟨w.heap.size, 0, none⟩ = some (.int .i64 10) := (hb2.cell (Nat.lt_of_lt_of_le hlt HBd.out.size)).trans (by rw [hSS] at hsd; exact hsd)
    have HB2 : Hid (Below w1.heap.size w1 w2) := Lib.hid (ext_trans HBd.out hb2)
    have k42 : w2.cell? ⟨w.heap.size, 4, none⟩ = some (.int .i64 mn) := by
      have := (HB2.out.block _ hlt).trans HB.out.2
      rw [HMN.out]
      simp [World.cell?, this]
    refine ⟨_, rfl, by rw [hSS]; exact k02, ?_⟩
    refine putA ?_
    refine valL 3 (some 15) (v := .int .i64 0) (w' := w2) rfl rfl (by kernel_rfl) (by rfl) (by kernel_rfl) (fun _ => by rw [hSS]; exact k02) ?_
    refine putA ?_
    refine valL 4 (some 3) rfl rfl (by kernel_rfl) (by rfl) (by go_simp; first | with_reducible rfl | (constructor <;> with_reducible rfl)) (zL (by kernel_rfl)) ?_
    refine putA ?_
    refine doneL (by kernel_rfl) ?_ _
    have HR := Lib.hid (HM.out 10 HK.out.symm)
    have HBB : Hid (Below w.heap.size w w2) := Lib.hid (ext_trans HB.out.1 HB2.out)
    clear hsd hHeld hb2 k0 hlt
    go_wp2_with fail
    go_ret
    refine ⟨?_, HBB.out⟩
    rw [HR.out]
    simp [kidK]
  · go_upto_region 3 with fail
    obtain ⟨SS, hSS⟩ : ∃ SS : World → Prop, SS = fun v => v.cell? ⟨w.heap.size, 0, none⟩ = some (.int .i64 11) := ⟨_, rfl⟩
    obtain ⟨wd, hwd⟩ : ∃ wd, wd = w1.drew := ⟨_, rfl⟩
    have HBd : Hid (Below w1.heap.size w1 wd) := Lib.hid (by rw [hwd]; exact (Below.refl _ _).drew)
    have hlt : w.heap.size < w1.heap.size := (Array.getElem?_eq_some_iff.1 HB.out.2).1
    have hsd : SS wd := by rw [hSS, hwd]; exact k0
    refine wp_region_L_drew (S := SS) [4] (by kernel_rfl) (by rw [← hwd]; exact hsd) (fun hHeld => ?_)
    rw [← hwd] at hHeld ⊢
    clear hwd
    refine onA 1 [2, 3, 4] (some 13) rfl rfl ?_
    refine onA 2 [3, 4] (some 14) rfl rfl ?_
    refine callL 0 (some 12) rfl rfl (by kernel_rfl) (by rfl) (by kernel_rfl) (kidsE_any wd) ?_
    rintro e w2 ⟨rfl, hb2⟩
    have k02 : w2.cell? ⟨w.heap.size, 0, none⟩ = some (.int .i64 11) := (hb2.cell (Nat.lt_of_lt_of_le hlt HBd.out.size)).trans (by rw [hSS] at hsd; exact hsd)
    have HB2 : Hid (Below w1.heap.size w1 w2) := Lib.hid (ext_trans HBd.out hb2)
    have k42 : w2.cell? ⟨w.heap.size, 4, none⟩ = some (.int .i64 mn) := by
      have := (HB2.out.block _ hlt).trans HB.out.2
      rw [HMN.out]
      simp [World.cell?, this]
    refine ⟨_, rfl, by rw [hSS]; exact k02, ?_⟩
    refine putA ?_
    refine valL 3 (some 15) (v := .int .i64 1) (w' := w2) rfl rfl (by kernel_rfl) (by rfl) (by kernel_rfl) (fun _ => by rw [hSS]; exact k02) ?_
    refine putA ?_
    refine valL 4 (some 3) rfl rfl (by kernel_rfl) (by rfl) (by go_simp; first | with_reducible rfl | (constructor <;> with_reducible rfl)) (zL (by kernel_rfl)) ?_
    refine putA ?_
    refine doneL (by kernel_rfl) ?_ _
    have HR := Lib.hid (HM.out 11 HK.out.symm)
    have HBB : Hid (Below w.heap.size w w2) := Lib.hid (ext_trans HB.out.1 HB2.out)
    clear hsd hHeld hb2 k0 hlt
    go_wp2_with fail
    go_ret
    refine ⟨?_, HBB.out⟩
    rw [HR.out]
    rfl
  · go_upto_region 3 with fail
    obtain ⟨SS, hSS⟩ : ∃ SS : World → Prop, SS = fun v => v.cell? ⟨w.heap.size, 0, none⟩ = some (.int .i64 12) := ⟨_, rfl⟩
    obtain ⟨wd, hwd⟩ : ∃ wd, wd = w1.drew := ⟨_, rfl⟩
    have HBd : Hid (Below w1.heap.size w1 wd) := Lib.hid (by rw [hwd]; exact (Below.refl _ _).drew)
    have hlt : w.heap.size < w1.heap.size := (Array.getElem?_eq_some_iff.1 HB.out.2).1
    have hsd : SS wd := by rw [hSS, hwd]; exact k0
    refine wp_region_L_drew (S := SS) [4] (by kernel_rfl) (by rw [← hwd]; exact hsd) (fun hHeld => ?_)
    rw [← hwd] at hHeld ⊢
    clear hwd
    refine onA 1 [2, 3, 4] (some 13) rfl rfl ?_
    refine onA 2 [3, 4] (some 14) rfl rfl ?_
    refine callL 0 (some 12) rfl rfl (by kernel_rfl) (by rfl) (by kernel_rfl) (kidsE_any wd) ?_
    rintro e w2 ⟨rfl, hb2⟩
    have k02 : w2.cell? ⟨w.heap.size, 0, none⟩ = some (.int .i64 12) := (hb2.cell (Nat.lt_of_lt_of_le hlt HBd.out.size)).trans (by rw [hSS] at hsd; exact hsd)
    have HB2 : Hid (Below w1.heap.size w1 w2) := Lib.hid (ext_trans HBd.out hb2)
    have k42 : w2.cell? ⟨w.heap.size, 4, none⟩ = some (.int .i64 mn) := by
      have := (HB2.out.block _ hlt).trans HB.out.2
      rw [HMN.out]
      simp [World.cell?, this]
    refine ⟨_, rfl, by rw [hSS]; exact k02, ?_⟩
    refine putA ?_
    refine valL 3 (some 15) (v := .int .i64 1) (w' := w2) rfl rfl (by kernel_rfl) (by rfl) (by kernel_rfl) (fun _ => by rw [hSS]; exact k02) ?_
    refine putA ?_
    refine valL 4 (some 3) rfl rfl (by kernel_rfl) (by rfl) (by go_simp; first | with_reducible rfl | (constructor <;> with_reducible rfl)) (zL (by kernel_rfl)) ?_
    refine putA ?_
    refine doneL (by kernel_rfl) ?_ _
    have HR := Lib.hid (HM.out 12 HK.out.symm)
    have HBB : Hid (Below w.heap.size w w2) := Lib.hid (ext_trans HB.out.1 HB2.out)
    clear hsd hHeld hb2 k0 hlt
    go_wp2_with fail
    go_ret
    refine ⟨?_, HBB.out⟩
    rw [HR.out]
    rfl
  · go_upto_region 3 with fail
    obtain ⟨SS, hSS⟩ : ∃ SS : World → Prop, SS = fun v => v.cell? ⟨w.heap.size, 0, none⟩ = some (.int .i64 13) := ⟨_, rfl⟩
    obtain ⟨wd, hwd⟩ : ∃ wd, wd = w1.drew := ⟨_, rfl⟩
    have HBd : Hid (Below w1.heap.size w1 wd) := Lib.hid (by rw [hwd]; exact (Below.refl _ _).drew)
    have hlt : w.heap.size < w1.heap.size := (Array.getElem?_eq_some_iff.1 HB.out.2).1
    have hsd : SS wd := by rw [hSS, hwd]; exact k0
    refine wp_region_L_drew (S := SS) [4] (by kernel_rfl) (by rw [← hwd]; exact hsd) (fun hHeld => ?_)
    rw [← hwd] at hHeld ⊢
    clear hwd
    refine onA 1 [2, 3, 4] (some 13) rfl rfl ?_
    refine onA 2 [3, 4] (some 14) rfl rfl ?_
    refine callL 0 (some 12) rfl rfl (by kernel_rfl) (by rfl) (by kernel_rfl) (kidsE_any wd) ?_
    rintro e w2 ⟨rfl, hb2⟩
    have k02 : w2.cell? ⟨w.heap.size, 0, none⟩ = some (.int .i64 13) := (hb2.cell (Nat.lt_of_lt_of_le hlt HBd.out.size)).trans (by rw [hSS] at hsd; exact hsd)
    have HB2 : Hid (Below w1.heap.size w1 w2) := Lib.hid (ext_trans HBd.out hb2)
    have k42 : w2.cell? ⟨w.heap.size, 4, none⟩ = some (.int .i64 mn) := by
      have := (HB2.out.block _ hlt).trans HB.out.2
      rw [HMN.out]
      simp [World.cell?, this]
    refine ⟨_, rfl, by rw [hSS]; exact k02, ?_⟩
    refine putA ?_
    refine valL 3 (some 15) (v := .int .i64 1) (w' := w2) rfl rfl (by kernel_rfl) (by rfl) (by kernel_rfl) (fun _ => by rw [hSS]; exact k02) ?_
    refine putA ?_
    refine valL 4 (some 3) rfl rfl (by kernel_rfl) (by rfl) (by go_simp; first | with_reducible rfl | (constructor <;> with_reducible rfl)) (zL (by kernel_rfl)) ?_
    refine putA ?_
    refine doneL (by kernel_rfl) ?_ _
    have HR := Lib.hid (HM.out 13 HK.out.symm)
    have HBB : Hid (Below w.heap.size w w2) := Lib.hid (ext_trans HB.out.1 HB2.out)
    clear hsd hHeld hb2 k0 hlt
    go_wp2_with fail
    go_ret
    refine ⟨?_, HBB.out⟩
    rw [HR.out]
    rfl
  · go_upto_region 3 with fail
    obtain ⟨SS, hSS⟩ : ∃ SS : World → Prop, SS = fun v => v.cell? ⟨w.heap.size, 0, none⟩ = some (.int .i64 14) := ⟨_, rfl⟩
    obtain ⟨wd, hwd⟩ : ∃ wd, wd = w1.drew := ⟨_, rfl⟩
    have HBd : Hid (Below w1.heap.size w1 wd) := Lib.hid (by rw [hwd]; exact (Below.refl _ _).drew)
    have hlt : w.heap.size < w1.heap.size := (Array.getElem?_eq_some_iff.1 HB.out.2).1
    have hsd : SS wd := by rw [hSS, hwd]; exact k0
    refine wp_region_L_drew (S := SS) [4] (by kernel_rfl) (by rw [← hwd]; exact hsd) (fun hHeld => ?_)
    rw [← hwd] at hHeld ⊢
    clear hwd
    refine onA 1 [2, 3, 4] (some 13) rfl rfl ?_
    refine onA 2 [3, 4] (some 14) rfl rfl ?_
    refine callL 0 (some 12) rfl rfl (by kernel_rfl) (by rfl) (by kernel_rfl) (kidsE_any wd) ?_
    rintro e w2 ⟨rfl, hb2⟩
    have k02 : w2.cell? ⟨w.heap.size, 0, none⟩ = some (.int .i64 14) := (hb2.cell (Nat.lt_of_lt_of_le hlt HBd.out.size)).trans (by rw [hSS] at hsd; exact hsd)
    have HB2 : Hid (Below w1.heap.size w1 w2) := Lib.hid (ext_trans HBd.out hb2)
    have k42 : w2.cell? ⟨w.heap.size, 4, none⟩ = some (.int .i64 mn) := by
      have := (HB2.out.block _ hlt).trans HB.out.2
      rw [HMN.out]
      simp [World.cell?, this]
    refine ⟨_, rfl, by rw [hSS]; exact k02, ?_⟩
    refine putA ?_
    refine valL 3 (some 15) (v := .int .i64 1) (w' := w2) rfl rfl (by kernel_rfl) (by rfl) (by kernel_rfl) (fun _ => by rw [hSS]; exact k02) ?_
    refine putA ?_
    refine valL 4 (some 3) rfl rfl (by kernel_rfl) (by rfl) (by go_simp; first | with_reducible rfl | (constructor <;> with_reducible rfl)) (zL (by kernel_rfl)) ?_
    refine putA ?_
    refine doneL (by kernel_rfl) ?_ _
    have HR := Lib.hid (HM.out 14 HK.out.symm)
    have HBB : Hid (Below w.heap.size w w2) := Lib.hid (ext_trans HB.out.1 HB2.out)
    clear hsd hHeld hb2 k0 hlt
    go_wp2_with fail
    go_ret
    refine ⟨?_, HBB.out⟩
    rw [HR.out]
    rfl
end Go.Proofs.YtmjdhfbnmmdjiaaGreat

/- ast.End and ast.Kids. -/
namespace Go.Proofs.YtmjdhfbnmmdjiaaGreat
open Go.RowKit

/-- Parts that are there by their kinds. -/
def PsOk (es : List Pt) : Prop := ∀ x ∈ es, (0 ≤ x.k ∧ x.k ≤ 14) ∧ (0 ≤ x.mn ∧ x.mn ≤ 50)
theorem manyE_le {x : Pt} (h : 0 ≤ x.mn ∧ x.mn ≤ 50) : manyE x ≤ 51 := by
  unfold manyE
  split
  · omega
  · split
    · omega
    · split
      · omega
      · split
        · omega
        · split <;> omega
theorem endO_le : ∀ (xs : List Pt) (n p j : Nat), endO xs n p = some j → n ≤ xs.length ∧ p ≤ j ∧ j ≤ p + xs.length
  | xs, 0, p, j, h => by simp [endO] at h; subst h; omega
  | [], n + 1, p, j, h => by simp [endO] at h
  | x :: xs, n + 1, p, j, h => by
    have := endO_le xs (n + manyE x) (p + 1) j h
    simp
    omega
theorem endO_step {es : List Pt} {n q j : Nat} (h : endO (es.drop q) (n + 1) q = some j) : ∃ x, es[q]? = some x ∧ endO (es.drop (q + 1)) (n + manyE x) (q + 1) = some j := by
  cases hd : es.drop q with
  | nil => rw [hd] at h; simp [endO] at h
  | cons x xs =>
    rw [hd] at h
    have hx : es[q]? = some x := by
      have : (es.drop q)[0]? = some x := by rw [hd]; rfl
      rwa [List.getElem?_drop, Nat.add_zero] at this
    refine ⟨x, hx, ?_⟩
    rw [← List.drop_drop, hd]
    exact h

set_option maxRecDepth 100000 in
set_option maxHeartbeats 2000000 in
theorem endE_any (Y : Nat → Prop) (A : Option Addr) (c : Nat) (es : List Pt) (i j : Nat) (w : World) (hx : ExX w Y A es) (hl : es.length ≤ 1000000) (hok : PsOk es) (he : endO (es.drop i) 1 i = some j) :
    Calls Tryz.prog 140 #[.slice A es.length c, .int .i64 (i : Int)] w fun e w' => e = .returned (.int .i64 (j : Int)) ∧ Below w.heap.size w w' := by
  have hi : i < es.length := by
    obtain ⟨x, h1, _⟩ := endO_step (n := 0) he
    exact getq_lt h1
  have H := Lib.hid (And.intro hx (And.intro hok he))
  have h0' : (0 : Int) ≤ (i : Int) := by omega
  have h1' : (i : Int) < (es.length : Int) := by omega
  have hd0 : decide ((i : Int) < 0) = false := by simp
  have hd1 : decide (es.length ≤ i) = false := by simp; omega
  clear hx hok he
  go_enter Tryz.func140, Tryz.ntmps140
  go_wp2_with fail
  go_loopw [1, 5] (fun i1 o5 wr => ∃ (q n : Nat), i1 = .int .i64 q ∧ o5 = .int .i64 n ∧ q ≤ es.length ∧ n ≤ es.length ∧ Hid (endO (es.drop q) n q = some j ∧ Below w.heap.size w wr))
    (fun i1 _ _ => es.length - (Lib.intOf i1).toNat)
  case atStart => exact ⟨i, 1, rfl, rfl, by omega, by omega, Lib.hid ⟨H.out.2.2, Below.refl _ _⟩⟩
  case round =>
    obtain ⟨q, n, rfl, rfl, hq, hn, HI⟩ := hrel
    cases n with
    | zero =>
      have hj : q = j := by
        have := HI.out.1
        simp [endO] at this
        exact this
      subst hj
      go_wp2_with fail
      go_ret
      exact ⟨rfl, HI.out.2⟩
    | succ n =>
      obtain ⟨x, hx, hst⟩ := endO_step HI.out.1
      have hql := getq_lt hx
      have hle := endO_le _ _ _ _ hst
      have hxo := H.out.2.1 x (List.mem_of_getElem? hx)
      have hm51 := manyE_le hxo.2
      obtain ⟨eb, eo, rfl, hb, hy, ⟨TA, tc, UA, uc, _, _, c0, c1, c2, c3, c4, c5, c6, c7⟩, _⟩ := (H.out.1.fr (Fr.below HI.out.2 : Fr Y w wr) fun q hq => .inl hq) q x hx
      have HM := Lib.hid (fun v (hv : Below w.heap.size w v) => manyE_any x TA x.T.length tc UA x.U.length uc v hxo.1 (by omega))
      have HS := Lib.hid hst
      rw [List.length_drop] at hle
      unfold pvE at HM
      clear hx hst hxo
      obtain ⟨M, hM⟩ : ∃ M, M = manyE x := ⟨_, rfl⟩
      rw [← hM] at hle HM HS hm51
      clear hM
      go_wp2_with fail
      refine (HM.out _ HI.out.2).mono ?_
      rintro e w1 ⟨rfl, hb1⟩
      have HB1 := Lib.hid (ext_trans HI.out.2 hb1)
      clear hb1 c0 c1 c2 c3 c4 c5 c6 c7
      go_wp2_with fail
      go_roundw
      case rel => exact ⟨q + 1, n + M, by go_num, by go_num, by omega, by omega, Lib.hid ⟨HS.out, HB1.out⟩⟩
      case measure => simp [Lib.intOf]; omega

theorem kidsO_step {es : List Pt} {n a : Nat} {l : List Nat} (h : kidsO es (n + 1) a = some l) : ∃ b l', endO (es.drop a) 1 a = some b ∧ kidsO es n b = some l' ∧ l = a :: l' := by
  unfold kidsO at h
  split at h
  · cases h
  · rename_i b hb
    rw [Option.map_eq_some_iff] at h
    obtain ⟨l', h1, h2⟩ := h
    exact ⟨b, l', hb, h1, h2.symm⟩
theorem kidsO_len {es : List Pt} : ∀ (n a : Nat) (l : List Nat), kidsO es n a = some l → l.length = n ∧ ∀ i ∈ l, i < es.length
  | 0, a, l, h => by simp [kidsO] at h; subst h; simp
  | n + 1, a, l, h => by
    obtain ⟨b, l', h1, h2, rfl⟩ := kidsO_step h
    obtain ⟨e1, e2⟩ := kidsO_len n b l' h2
    refine ⟨by simp [e1], fun i hi => ?_⟩
    rcases List.mem_cons.1 hi with rfl | hi
    · obtain ⟨x, h3, _⟩ := endO_step (n := 0) h1
      exact getq_lt h3
    · exact e2 i hi

set_option maxRecDepth 100000 in
set_option maxHeartbeats 2000000 in
theorem kidsE_any2 (Y : Nat → Prop) (A : Option Addr) (c : Nat) (es : List Pt) (i : Nat) (p : Pt) (l : List Nat) (w : World) (hx : ExX w Y A es) (hl : es.length ≤ 1000000) (hok : PsOk es) (hp : es[i]? = some p) (hk : kidsO es (manyE p) (i + 1) = some l) :
    Calls Tryz.prog 122 #[.slice A es.length c, .int .i64 (i : Int)] w fun e w' => ∃ A' cap', e = .returned (.slice A' (manyE p) cap') ∧ OwnI w' w.heap.size A' cap' (asI l) ∧ Below w.heap.size w w' := by
  have hi := getq_lt hp
  have H := Lib.hid (And.intro hx (And.intro hok hk))
  have hxo := hok p (List.mem_of_getElem? hp)
  have hm51 := manyE_le hxo.2
  obtain ⟨eb, eo, rfl, hb, hy, ⟨TA, tc, UA, uc, _, _, c0, c1, c2, c3, c4, c5, c6, c7⟩, _⟩ := hx i p hp
  have HM := Lib.hid (manyE_any p TA p.T.length tc UA p.U.length uc w hxo.1 (by omega))
  unfold pvE at HM
  have h0' : (0 : Int) ≤ (i : Int) := by omega
  have h1' : (i : Int) < (es.length : Int) := by omega
  have hd0 : decide ((i : Int) < 0) = false := by simp
  have hd1 : decide (es.length ≤ i) = false := by simp; omega
  have HLl : Hid (l.length = manyE p) := Lib.hid (kidsO_len _ _ _ hk).1
  obtain ⟨M, hM⟩ : ∃ M, M = manyE p := ⟨_, rfl⟩
  rw [← hM] at HM hm51 HLl H ⊢
  clear hx hok hk hxo hp hM
  go_enter Tryz.func122, Tryz.ntmps122
  go_wp2_with fail
  refine HM.out.mono ?_
  rintro e w1 ⟨rfl, hbx⟩
  obtain ⟨w2, hmk, hown2, hgr2⟩ := make_int w1 w.heap.size M (by omega) hbx.size
  have hbel2 := ext_trans hbx (below_made hgr2)
  obtain ⟨G, hG⟩ : ∃ G, G = w1.heap.size := ⟨_, rfl⟩
  rw [← hG] at hmk hown2
  have HO2 := Lib.hid (And.intro hown2 hbel2)
  clear hbx hgr2 hown2 hbel2 c0 c1 c2 c3 c4 c5 c6 c7 hG
  go_upto_region 6 with fail
  go_loopw [6, 26] (fun i6 k26 wr => ∃ (k a : Nat) (L : List Int) (l' : List Nat), i6 = .int .i64 a ∧ k26 = .int .i64 k ∧ k ≤ M ∧ L.length = M ∧ a ≤ es.length + 1 ∧ Hid (kidsO es (M - k) a = some l' ∧ OwnI wr w.heap.size (some ⟨G, 0, none⟩) M L ∧ Below w.heap.size w wr ∧ L.take k ++ asI l' = asI l))
    (fun _ k26 _ => M - (Lib.intOf k26).toNat)
  case atStart => exact ⟨0, i + 1, List.replicate M 0, l, by go_num, rfl, Nat.zero_le _, by simp, by omega, Lib.hid ⟨H.out.2.2, HO2.out.1, HO2.out.2, by simp⟩⟩
  case round =>
    obtain ⟨k, a, L, l', rfl, rfl, hkM, hLl, hal, HI⟩ := hrel
    by_cases hlt : k < M
    · obtain ⟨b, l2, h1, h2, h3⟩ := kidsO_step (n := M - k - 1) (by rw [show M - k - 1 + 1 = M - k by omega]; exact HI.out.1)
      have ha2 : a < es.length := by
        obtain ⟨x, h3, _⟩ := endO_step (n := 0) h1
        exact getq_lt h3
      have hbl := (endO_le _ _ _ _ h1).2.2
      rw [List.length_drop] at hbl
      have Hend := Lib.hid (fun W (h : Below w.heap.size w W) => endE_any Y (some ⟨eb, eo, none⟩) c es a b W (H.out.1.fr (Fr.below h) fun q hq => .inl hq) hl H.out.2.1 h1)
      have hgood2 : Hid ((L.set k (a : Int)).take (k + 1) ++ asI l2 = asI l) := Lib.hid (by
        rw [← HI.out.2.2.2, h3, take_set_succ _ _ _ (by omega)]
        simp [asI])
      have HK2 := Lib.hid h2
      clear h1 h2 h3
      obtain ⟨g, hg, hbg, hglt, ⟨m, hm, hcell⟩, hfz, hown3, hgr3⟩ := HI.out.2.1.setI (j := k) (by omega) (a : Int)
      injection hg with hg
      injection hg with hg1 _ _
      subst hg1
      have hbel3 := ext_set (p := ⟨G, k, none⟩) HI.out.2.2.1 hbg (.int .i64 (a : Int))
      have hlen3 : (L.set k (a : Int)).length = M := by simp [hLl]
      have HO3 := Lib.hid (And.intro hown3 hbel3)
      clear hm hgr3 hown3 hbel3
      go_wp2_with fail
      refine (Hend.out _ HO3.out.2).mono ?_
      rintro e w4 ⟨rfl, hb4⟩
      have HO4 : Hid (OwnI w4 w.heap.size (some ⟨G, 0, none⟩) M (L.set k (a : Int)) ∧ Below w.heap.size w w4) := Lib.hid ⟨OwnL.below HO3.out.1 hb4 (Nat.le_refl _), ext_trans HO3.out.2 hb4⟩
      clear hb4 hcell hfz
      go_wp2_with fail
      go_roundw
      case rel => exact ⟨k + 1, b, L.set k (a : Int), l2, rfl, by go_num, by omega, hlen3, by omega, Lib.hid ⟨by rw [show M - (k + 1) = M - k - 1 by omega]; exact HK2.out, HO4.out.1, HO4.out.2, hgood2.out⟩⟩
      case measure => simp [Lib.intOf]; omega
    · have hkk : k = M := by omega
      have hout : Hid (L = asI l ∧ OwnI wr w.heap.size (some ⟨G, 0, none⟩) M L ∧ Below w.heap.size w wr) := Lib.hid (by
        obtain ⟨h1, h2, h3, h4⟩ := HI.out
        rw [hkk, Nat.sub_self] at h1
        simp [kidsO] at h1
        subst h1
        rw [hkk, ← hLl, List.take_length] at h4
        exact ⟨by simpa [asI] using h4, h2, h3⟩)
      clear hkk
      go_wp2_with fail
      go_ret
      exact ⟨_, _, rfl, by rw [← hout.out.1]; exact hout.out.2.1, hout.out.2.2⟩
end Go.Proofs.YtmjdhfbnmmdjiaaGreat
