/- Laid together by a tool from the texts of this seat: SrH SrI SrJ SrK OpenI. Conditions: each theorem's own. -/
import Derived.Test.YtmjdhfbnmmdjiaaDoorS04
import Derived.Test.YtmjdhfbnmmdjiaaDoorS03
import Derived.Test.YtmjdhfbnmmdjiaaDoorRows
import Derived.ProofKit
import Derived.LaidMore
import Derived.OpenShut
import Derived.Stop.Joined
import Derived.Stop.LaidErr
import Derived.Deep.Slices
import Derived.Deep.Fields
/- newAsker. -/
namespace Go.Proofs.YtmjdhfbnmmdjiaaDoor
open Go.RowKit

attribute [local go_sem ↓] Go.wp_at_zero Go.wp_at_succ

def NewPost (bb : Nat) (w : World) (e : Ending) (w' : World) : Prop := ∃ ab mb, e = .returned (.pointer (some ⟨ab, 0, none⟩)) ∧ w.heap.size ≤ ab ∧ w.heap.size ≤ mb ∧ ab ≠ mb ∧ mb < w'.heap.size ∧ w'.heap[ab]? = some (askCells 3 bb mb none 0 0) ∧ KMap sk w' mb [] ∧ Below w.heap.size w w'

theorem enough3 : enoughI 3 = 40 := by decide

set_option maxRecDepth 100000 in
set_option maxHeartbeats 8000000 in
theorem newA_any (bb : Nat) (w : World) :
    Calls Tryd.prog 10 #[.int .i64 3, .int .i64 40, .func (.func 11) #[] #[.pointer (some ⟨bb, 0, none⟩)]] w (NewPost bb w) := by
  have hmm := @run_makeMap Tryd.prog
  have He := Lib.hid (enough_any 3 w)
  go_enter Tryd.func10, Tryd.ntmps10
  go_wp2_with fail
  refine He.out.mono ?_
  rintro e w1 ⟨rfl, rfl⟩
  rw [enough3]
  go_wp2_with fail
  go_ret
  refine ⟨w1.heap.size + 1, w1.heap.size, rfl, by omega, by omega, by omega, by simp; omega, ?_, ?_, ?_⟩
  · rw [show w1.heap.size + 1 = (w1.alloc (Obj.map #[] 0)).heap.size by simp]
    exact heap_alloc_new _ _
  · exact ⟨#[], 0, (Below.heap_alloc _ _ _ (by simp)).trans (heap_alloc_new w1 _), rfl⟩
  · exact ((Below.refl _ _).alloc (Nat.le_refl _) _).alloc (by simp) _
end Go.Proofs.YtmjdhfbnmmdjiaaDoor

/- The one question of the law: the sets of 1, 2, 3, of which {1, 2} is bad. -/
namespace Go.Proofs.YtmjdhfbnmmdjiaaDoor

abbrev subs3 : List (List Int) := [[], [1], [2], [3], [1, 2], [1, 3], [2, 3], [1, 2, 3]]
def D0 (s : List Int) : Prop := s ∈ subs3
instance (s : List Int) : Decidable (D0 s) := inferInstanceAs (Decidable (s ∈ subs3))
theorem D0_del : ∀ s ∈ subs3, ∀ i, i < s.length → s.eraseIdx i ∈ subs3 := by decide
theorem itoa1 : Lib.itoa 1 = [49] := (Lib.itoa_nonneg 1).trans (Lib.decDigits_one (by decide))
theorem itoa2 : Lib.itoa 2 = [50] := (Lib.itoa_nonneg 2).trans (Lib.decDigits_one (by decide))
theorem itoa3 : Lib.itoa 3 = [51] := (Lib.itoa_nonneg 3).trans (Lib.decDigits_one (by decide))
theorem D0_mem : ∀ s ∈ subs3, ∀ x ∈ s, x = 1 ∨ x = 2 ∨ x = 3 := by decide
theorem D0_len : ∀ s ∈ subs3, s.length ≤ 1000 := by decide
def keyC (s : List Int) : List UInt8 := s.flatMap fun x => [UInt8.ofNat (48 + x.toNat), 32]
theorem keyC_eq : ∀ s ∈ subs3, keyL s = keyC s := by
  intro s hs
  simp only [subs3, List.mem_cons, List.not_mem_nil, or_false] at hs
  rcases hs with rfl | rfl | rfl | rfl | rfl | rfl | rfl | rfl <;> simp [keyL, keyC, itoa1, itoa2, itoa3] <;> decide
theorem D0_inj : ∀ s ∈ subs3, ∀ t ∈ subs3, keyC t = keyC s → t = s := by decide
theorem dom0 : Dom D0 := ⟨fun s i h => D0_del s h i, fun s h => ⟨fun x hx => by
    rcases D0_mem s h x hx with rfl | rfl | rfl
    · rw [itoa1]; decide
    · rw [itoa2]; decide
    · rw [itoa3]; decide, D0_len s h⟩, fun s t hs ht he => D0_inj s hs t ht (by
  have : (keyB t).data.toList = (keyB s).data.toList := by rw [he]
  rw [← keyC_eq s hs, ← keyC_eq t ht]
  exact this)⟩

abbrev bads0 : List (List Int) := [[1, 2]]
def P0 (bR : List (List Int)) : Prop := bR = [] ∨ bR = [[1, 2]]
theorem lack0 {bR lack : List (List Int)} (h : P0 bR) (ha : allP bR lack) : (bR = [] ∧ lack = [[]]) ∨ (bR = [[1, 2]] ∧ lack = [[1], [2]]) := by
  rcases h with rfl | rfl
  · exact .inl ⟨rfl, ha⟩
  · exact .inr ⟨rfl, Srt.eq ha ⟨List.Perm.refl _, by decide⟩⟩
theorem ok0 (bR : List (List Int)) (h : P0 bR) : RoundOk D0 3 bR := by
  refine ⟨?_, ?_, fun lack ha => ?_⟩
  · rcases h with rfl | rfl <;> simp
  · rcases h with rfl | rfl
    · exact fun _ h => nomatch h
    · decide
  · rcases lack0 h ha with ⟨_, rfl⟩ | ⟨_, rfl⟩
    · decide
    · decide
theorem more0 : moreL bads0 ([[]].map (missL 3)) = [[1, 2]] := by decide
theorem more1 : moreL bads0 ([[1], [2]].map (missL 3)) = [] := by decide
theorem st0 (bR lack : List (List Int)) (h : P0 bR) (ha : allP bR lack) (hm : moreL bads0 (lack.map (missL 3)) ≠ []) : bR = [] ∧ P0 (moreL bads0 (lack.map (missL 3))) := by
  rcases lack0 h ha with ⟨h1, rfl⟩ | ⟨h1, rfl⟩
  · exact ⟨h1, .inr more0⟩
  · exact absurd more1 hm
/-- The greatest sets. -/
theorem great0 {bR lack zs : List (List Int)} (h : P0 bR) (ha : allP bR lack) (hm : moreL bads0 (lack.map (missL 3)) = []) (hs : Srt zs (lack.map (missL 3))) : zs = [[1, 3], [2, 3]] := by
  rcases lack0 h ha with ⟨h1, rfl⟩ | ⟨h1, rfl⟩
  · rw [more0] at hm
    cases hm
  · exact Srt.eq hs ⟨by decide, by decide⟩
theorem fits0 : fitsB bads0 [] = true := by decide
end Go.Proofs.YtmjdhfbnmmdjiaaDoor

/- Maximal, at the law's question. -/
namespace Go.Proofs.YtmjdhfbnmmdjiaaDoor
open Go.RowKit

attribute [local go_sem ↓] Go.wp_at_zero Go.wp_at_succ

def MaxPost (limit : Int) (w : World) (e : Ending) (w' : World) : Prop := ∃ (A : Option Addr) (c : Nat) (us : List (Option Addr × Nat × Nat)), Below w.heap.size w w' ∧ RowsAt w' w.heap.size A c us [[1, 3], [2, 3]] ∧
  e = if 2 > max limit 0 then .returned (.tuple #[.slice none 0 0, .int .i64 11]) else .returned (.tuple #[.slice A 2 c, .int .i64 0])

set_option maxRecDepth 100000 in
set_option maxHeartbeats 8000000 in
theorem maximal_any (A : Option Addr) (c : Nat) (us : List (Option Addr × Nat × Nat)) (limit : Int) (w : World) (hr : ReadS w w.heap.size A us) (hS : SetsAt w w.heap.size us bads0) (hu : us.length = 1) (ht : Tab w w.heap.size) :
    Calls Tryd.prog 7 #[.int .i64 3, .slice A 1 c, .int .i64 40, .int .i64 limit] w (MaxPost limit w) := by
  have hmf : ∀ (fn : Fn) (first cap : Array Value) (w : World), (Instr.makeFunc fn first cap).run Tryd.prog w = .ok (.func fn first cap) w := fun _ _ _ _ => rfl
  obtain ⟨w1, hw1⟩ : ∃ w1, w1 = w.alloc (.cells #[.slice A 1 c] 25) := ⟨_, rfl⟩
  have hb1 : Below w.heap.size w w1 := by rw [hw1]; exact ext_alloc (Below.refl _ _) _
  have hs1 : w1.heap.size = w.heap.size + 1 := by rw [hw1]; simp
  have hblk : w1.heap[w.heap.size]? = some (.cells #[.slice A 1 c] 25 (0, 0)) := by rw [hw1]; exact heap_alloc_new _ _
  have hf1 : Hid (FitsAt w1 w1.heap.size w.heap.size bads0) := Lib.hid ⟨A, c, us, by rw [hu]; simp [World.cell?, hblk], by omega, Nat.le_refl _, (ReadL.below hr hb1).more hb1.size, (hS.below hb1).more hb1.size, by rw [hu]; decide, by decide⟩
  have HT := Lib.hid ht
  have HB1 := Lib.hid hb1
  have Hn := Lib.hid (newA_any w.heap.size w1)
  clear hr hS hu ht hb1 hblk
  go_enter Tryd.func7, Tryd.ntmps7
  go_upto_region 1 with fail
  rw [← hw1]
  clear hw1
  go_wp2_with fail
  refine Hn.out.mono ?_
  rintro e w2 ⟨ab, mb, rfl, hab, hmb, hne, hmw, hblk, hmap, hb2⟩
  have habl : ab < w2.heap.size := (Array.getElem?_eq_some_iff.1 hblk).1
  have ha2 : AskAt D0 bads0 3 ab mb w.heap.size w2.heap.size w1.heap.size none 0 0 w2 := ⟨habl, hmw, hab, hmb, Nat.le_refl _, hne, fun e => by have := HT.out.1; omega, hblk, ⟨[], hmap, fun s _ => .inl (atL_nil _)⟩, hf1.out.low hb2, by have := HT.out.1; omega, ((HT.out.below HB1.out).more HB1.out.size).below hb2 |>.2⟩
  have HA2 := Lib.hid ha2
  have HB2 := Lib.hid hb2
  have HAB := Lib.hid (And.intro hab hmb)
  have Hf := Lib.hid (first_any D0 dom0 (by decide) bads0 3 ab mb w.heap.size w2.heap.size w1.heap.size w2 ha2)
  clear ha2 hb2 hab hmb hne hmw hblk hmap habl
  go_wp2_with fail
  refine Hf.out.mono ?_
  rintro e w3 ⟨rfl, ha3, hf3, l, hm3, hl3⟩
  have HA3 := Lib.hid ha3
  have hb3 : Below w1.heap.size w2 w3 := ⟨hf3.os, hf3.tape, hf3.output, hf3.size, fun k hk => hf3.block k (by have := HB2.out.size; omega) fun e => by have := HAB.out.2; omega⟩
  have HB3 := Lib.hid (HB2.out.trans hb3)
  have hl4 : (Instr.lookup 37 (.map (some mb)) (.string ⟨#[]⟩) false).run Tryd.prog w3 = .ok (.bool true) w3 := by
    have h := hm3.lookup (keyer_str Tryd.underlying9 (keyB []) _) Tryd.underlying37 (.bool false) (by kernel_rfl) false
    rw [if_neg (by decide), hl3, fits0] at h
    exact h
  obtain ⟨k0, k1, k2, k3, k4⟩ := ha3.at_
  have Ht := Lib.hid (told_any D0 dom0 bads0 3 (by decide) ab mb w.heap.size w2.heap.size w1.heap.size P0 ok0 st0 (.inl rfl) limit w3 ha3)
  clear ha3 hf3 hm3 hl3 hb3
  go_wp2_with fail
  refine Ht.out.mono ?_
  rintro e w4 ⟨bR, lack, zs, A', c', us', h1, h2, h3, h4, h5, h6, h7⟩
  obtain rfl := great0 h1 h2 h3 h4
  have HE : Hid (Below w.heap.size w w4 ∧ RowsAt w4 w.heap.size A' c' us' [[1, 3], [2, 3]]) := Lib.hid ⟨HB1.out.trans ((HB3.out.trans h5).mono HB1.out.size), h6.down HB1.out.size⟩
  clear h5 h6 h1 h2 h3 h4
  by_cases hlim : 2 > max limit 0
  · have h7 : e = .returned (.tuple #[.slice none 0 0, .int .i64 11]) := h7.trans (if_pos hlim)
    subst h7
    go_wp2_with fail
    go_ret2
    exact ⟨A', c', us', HE.out.1, HE.out.2, by rw [if_pos hlim]; rfl⟩
  · have h7 : e = .returned (.tuple #[.slice A' 2 c', .int .i64 0]) := h7.trans (if_neg hlim)
    subst h7
    go_wp2_with fail
    go_ret2
    exact ⟨A', c', us', HE.out.1, HE.out.2, by rw [if_neg (by omega)]; rfl⟩
end Go.Proofs.YtmjdhfbnmmdjiaaDoor

/- The references: Ints, Same, power, Enough. -/
namespace Go.Proofs.YtmjdhfbnmmdjiaaDoor
open Go.RowKit

attribute [local go_sem ↓] Go.wp_at_zero Go.wp_at_succ

theorem dropI_eq_succ {xs ys : List Int} {k : Nat} {x y : Int} (hx : xs[k]? = some x) (hy : ys[k]? = some y) :
    decide (xs.drop k = ys.drop k) = (x == y && decide (xs.drop (k + 1) = ys.drop (k + 1))) := by
  rw [drop_cons hx, drop_cons hy, Bool.eq_iff_iff]
  simp

set_option maxHeartbeats 1000000 in
theorem ints_any (A B : Option Addr) (c d Ba Bb : Nat) (xs ys : List Int) (w : World) (ha : ReadI w Ba A xs) (hb : ReadI w Bb B ys)
    (hl : xs.length ≤ 9223372036854775807) :
    Calls Tryd.prog 19 #[.slice A xs.length c, .slice B ys.length d] w fun e w' => e = .returned (.bool (decide (xs = ys))) ∧ ∃ n, w' = w.drewN n := by
  by_cases hlen : xs.length = ys.length
  · rw [← hlen]
    have Hlen := Lib.hid hlen
    clear hlen
    go_enter Tryd.func19, Tryd.ntmps19
    go_wp2_with fail
    go_loopw [5] (fun i w' => ∃ k n : Nat, k ≤ xs.length ∧ i = .int .i64 k ∧ w' = w.drewN n ∧ Hid (decide (xs.drop k = ys.drop k) = decide (xs = ys))) (fun i _ => xs.length - (intOf i).toNat)
    case atStart => exact ⟨0, 0, Nat.zero_le _, rfl, rfl, Lib.hid rfl⟩
    case round =>
      obtain ⟨k, n, hk, rfl, rfl, hgood⟩ := hrel
      by_cases hp : k < xs.length
      · obtain ⟨x, hx⟩ := getq_ex hp
        obtain ⟨y, hy⟩ := getq_ex (show k < ys.length by rw [← Hlen.out]; exact hp)
        have hstep := Lib.hid (dropI_eq_succ hx hy)
        obtain ⟨b1, o1, rfl, hb1, c10⟩ := ReadL.int ha hx
        obtain ⟨b2, o2, rfl, hb2, c20⟩ := ReadL.int hb hy
        have Hx := Lib.hid hx
        have Hy := Lib.hid hy
        clear hx hy
        cases he : (x == y)
        all_goals
          have He := Lib.hid he
          first
            | (have hne : (x != y) = true := by simp [bne, he])
            | (have hne : (x != y) = false := by simp [bne, he])
          clear he
          go_wp2_with fail
          go_quiet (fail)
          go_wp2_with fail
        · go_ret
          exact ⟨ret_bool (by rw [← hgood.out, hstep.out, He.out]; rfl), _, World.drewN_drewN ..⟩
        · go_roundw
          case rel => exact ⟨k + 1, _, hp, by go_num, rfl, Lib.hid (by rw [← hgood.out, hstep.out, He.out, Bool.true_and])⟩
          case measure => simp [intOf]; omega
      · have hfin := Lib.hid (show decide (xs.drop k = ys.drop k) = true by
          have := Hlen.out
          rw [List.drop_of_length_le (by omega), List.drop_of_length_le (by omega)]
          simp)
        go_wp2_with fail
        go_ret
        exact ⟨ret_bool (by rw [← hgood.out, hfin.out]), _, rfl⟩
  · have hle : ((xs.length : Int) != (ys.length : Int)) = true := by simp; omega
    have hfin := Lib.hid (show decide (xs = ys) = false by simp; rintro rfl; exact hlen rfl)
    clear hlen
    go_enter Tryd.func19, Tryd.ntmps19
    go_wp2_with fail
    go_ret
    exact ⟨ret_bool (by rw [hfin.out]), 0, rfl⟩

set_option maxRecDepth 100000 in
set_option maxHeartbeats 8000000 in
theorem sameS_any (A B : Option Addr) (c d : Nat) (us vs : List (Option Addr × Nat × Nat)) (xss : List (List Int)) (w : World) (hA : ReadS w w.heap.size A us) (hSA : SetsAt w w.heap.size us xss) (hB : ReadS w w.heap.size B vs) (hSB : SetsAt w w.heap.size vs xss) (hl : xss.length ≤ 100000) (hsm : ∀ xs ∈ xss, xs.length ≤ 1000000) :
    Calls Tryd.prog 8 #[.slice A xss.length c, .slice B xss.length d] w fun e w' => e = .returned (.bool true) ∧ Below w.heap.size w w' := by
  have Hask : Hid (∀ (j : Nat) (u v : Option Addr × Nat × Nat), us[j]? = some u → vs[j]? = some v → ∀ W, Below w.heap.size w W → Calls Tryd.prog 19 #[.slice u.1 u.2.1 u.2.2, .slice v.1 v.2.1 v.2.2] W fun e w' => e = .returned (.bool true) ∧ ∃ q, w' = W.drewN q) := Lib.hid fun j u v h1 h2 W hW => by
    obtain ⟨xs, hx⟩ := getq_ex (show j < xss.length by rw [← hSA.1]; exact getq_lt h1)
    obtain ⟨n1, _, r1⟩ := ((hSA.2 j u xs h1 hx).below hW).more hW.size
    obtain ⟨n2, _, r2⟩ := ((hSB.2 j v xs h2 hx).below hW).more hW.size
    rw [n1, n2]
    refine (ints_any u.1 v.1 u.2.2 v.2.2 _ _ xs xs W r1 r2 (by have := hsm _ (List.mem_of_getElem? hx); omega)).mono ?_
    rintro e w' ⟨rfl, hq⟩
    exact ⟨by simp, hq⟩
  have HL : Hid (us.length = xss.length ∧ vs.length = xss.length) := Lib.hid ⟨hSA.1, hSB.1⟩
  have HR := Lib.hid (And.intro hA hB)
  clear hA hSA hB hSB hsm
  go_enter Tryd.func8, Tryd.ntmps8
  go_upto_region 4 with fail
  go_loopw [5] (fun s5 wr => ∃ k : Nat, k ≤ xss.length ∧ s5 = .int .i64 k ∧ Hid (Below w.heap.size w wr)) (fun s5 _ => xss.length - (Lib.intOf s5).toNat)
  case atStart => exact ⟨0, Nat.zero_le _, rfl, Lib.hid (Below.refl _ _)⟩
  case round =>
    obtain ⟨k, hk, rfl, HB⟩ := hrel
    by_cases hlt : k < xss.length
    · obtain ⟨u, hu⟩ := getq_ex (show k < us.length by rw [HL.out.1]; exact hlt)
      obtain ⟨v, hv⟩ := getq_ex (show k < vs.length by rw [HL.out.2]; exact hlt)
      obtain ⟨b, o, rfl, hb, c1⟩ := ReadL.slice HR.out.1 hu
      obtain ⟨b', o', rfl, hb', c0⟩ := ReadL.slice HR.out.2 hv
      have HC := Lib.hid (And.intro c1 c0)
      have d1 : ∀ j, (wr.drewN j).cell? ⟨b, o + k, none⟩ = some (.slice u.1 u.2.1 u.2.2) := fun j => ((below_drewN HB.out j).cell (p := ⟨b, o + k, none⟩) hb).trans HC.out.1
      have d0 : ∀ j, (wr.drewN j).cell? ⟨b', o' + k, none⟩ = some (.slice v.1 v.2.1 v.2.2) := fun j => ((below_drewN HB.out j).cell (p := ⟨b', o' + k, none⟩) hb').trans HC.out.2
      have hwi : IntKind.i64.wrap ((k : Int) + 1) = ((k + 1 : Nat) : Int) := IntWalk.i64_in _ (by omega)
      have Hq := Lib.hid (Hask.out k u v hu hv)
      clear hu hv c0 c1
      go_upto_region 6 with fail
      go_quiet ((go_at_call 19; refine Calls.quiet_of (Hq.out _ ?_); first | exact HB.out | exact below_drewN HB.out _ | exact HB.out.drew | exact (below_drewN HB.out _).drew))
      obtain ⟨w5, hw5⟩ : ∃ w5, w5 = wr.drewN nq := ⟨_, rfl⟩
      rw [← hw5]
      have HB5 : Hid (Below w.heap.size w w5) := Lib.hid (by rw [hw5]; exact below_drewN HB.out _)
      clear hw5 d0 d1
      go_wp2_with fail
      go_roundw
      case rel => exact ⟨k + 1, hlt, rfl, HB5⟩
      case measure => simp [Lib.intOf]; omega
    · go_wp2_with fail
      go_ret
      exact ⟨rfl, HB.out⟩

theorem pow_step (k : Nat) (h : k < 26) : wrap64 ((2 ^ k : Int) * 2) = 2 ^ (k + 1) := by
  have h1 : (2 : Nat) ^ k ≤ 33554432 := Nat.le_trans (Nat.pow_le_pow_right (by decide) (Nat.le_of_lt_succ h)) (by decide)
  have h2 : (2 : Int) ^ k = ((2 ^ k : Nat) : Int) := by push_cast; rfl
  rw [Int.pow_succ, h2]
  generalize (2 : Nat) ^ k = b at h1 ⊢
  unfold wrap64
  omega

set_option maxRecDepth 100000 in
set_option maxHeartbeats 8000000 in
theorem power_any (n : Nat) (hn : n ≤ 25) (w : World) :
    Calls Tryd.prog 9 #[.int .i64 n] w fun e w' => e = .returned (.int .i64 (2 ^ n)) ∧ w' = w := by
  go_enter Tryd.func9, Tryd.ntmps9
  go_upto_region 3 with fail
  go_loopw [3, 4] (fun s3 s4 wr => ∃ k : Nat, k ≤ n ∧ s3 = .int .i64 (2 ^ k) ∧ s4 = .int .i64 k ∧ wr = w) (fun _ s4 _ => n - (Lib.intOf s4).toNat)
  case atStart => exact ⟨0, Nat.zero_le _, rfl, rfl, rfl⟩
  case round =>
    obtain ⟨k, hk, rfl, rfl, rfl⟩ := hrel
    have hwi : IntKind.i64.wrap ((k : Int) + 1) = ((k + 1 : Nat) : Int) := IntWalk.i64_in _ (by omega)
    have hw2 : wrap64 ((2 ^ k : Int) * 2) = 2 ^ (k + 1) := pow_step k (by omega)
    by_cases hlt : k < n
    · go_wp2_with fail
      go_roundw
      case rel =>
        refine ⟨k + 1, hlt, by rw [hw2], ?_⟩
        simp
      case measure => simp [Lib.intOf]; omega
    · have : k = n := by omega
      subst this
      go_wp2_with fail
      go_ret
      exact ⟨rfl, rfl⟩

set_option maxRecDepth 100000 in
set_option maxHeartbeats 8000000 in
theorem refEnough_any (n : Int) (w : World) :
    Calls Tryd.prog 6 #[.int .i64 n] w fun e w' => e = .returned (.int .i64 (enoughI n)) ∧ w' = w := by
  by_cases hn : max n 0 > 25
  · go_enter Tryd.func6, Tryd.ntmps6
    go_wp2_with fail
    go_ret
    refine ⟨?_, rfl⟩
    unfold enoughI
    rw [if_pos hn]
    rfl
  · obtain ⟨m, hm⟩ : ∃ m : Nat, max n 0 = m := ⟨(max n 0).toNat, by omega⟩
    have Hp := Lib.hid (power_any m (by omega) w)
    have hw := wrapE n hn
    have Hfin : Hid (enoughI n = min (((m : Int) + 2) * 2 ^ m) 1000000000) := Lib.hid (by
      unfold enoughI
      rw [if_neg hn, hm]
      simp)
    rw [hm] at hw hn
    rw [Int.toNat_natCast] at hw
    go_enter Tryd.func6, Tryd.ntmps6
    go_wp2_with fail
    refine Hp.out.mono ?_
    rintro e w1 ⟨rfl, rfl⟩
    go_wp2_with fail
    go_ret
    refine ⟨?_, rfl⟩
    rw [Hfin.out]
    rfl
end Go.Proofs.YtmjdhfbnmmdjiaaDoor

/- From a row's listed tables to what the walks ask. -/
namespace Go.Proofs.YtmjdhfbnmmdjiaaDoor
open Go.ChangeShapes Go.WideShapes Go.ChangeAt Go.WideMaps Go.WideElems Go.RowKit Go.Deep

theorem own : ownKnob Tryd.prog.godebug = none := by kernel_rfl
theorem laidOutT : laidOutB Tryd.prog = true := by kernel_rfl
/-- The row's list of tables. -/
abbrev laids : List (String × DataW Unit) := [("math/bits.deBruijn32tab", Rows.laid_math_bits_deBruijn32tab), ("math/bits.deBruijn64tab", Rows.laid_math_bits_deBruijn64tab), ("internal/strconv.uint64pow10", Rows.laid_internal_strconv_uint64pow10)]

theorem laid_tab : (Rows.laid_internal_strconv_uint64pow10 : DataW Unit) = Lib.tabData .u64 Lib.pow10Tab := by kernel_rfl

theorem tab_of_laid {W : World} (h : laidMetH Tryd.prog laids W) : Tab W W.heap.size := by
  rw [MakeChecks.laidMetH_plain _ _ _ (by kernel_rfl)] at h
  have h3 := laidMet.tail (laidMet.tail h)
  rw [laid_tab] at h3
  have htab : Lib.TabIs Tryd.prog W "internal/strconv.uint64pow10" .u64 Lib.pow10Tab :=
    Lib.tabIs_of_head (g := 0) (t := 94) (e := 66) (n := 20) gTab (by kernel_rfl) (by kernel_rfl) (by kernel_rfl) (by kernel_rfl) (by kernel_rfl) h3
  exact ⟨World.block_lt_of_cell? W _ (htab.cell gTab 0 (by decide)), htab⟩

/-- The door's own heap meets the condition: closed facts. -/
theorem door_met (os : Os) (args : Array Value) : laidMetH Tryd.prog laids ((World.doorLaid Tryd.prog 400 os).forCall (fun _ _ => 0) ⟨#[], args, []⟩).memory :=
  laidMetH_of_parts3 (fuel := 8) (laidMet_of_run' 8 (by kernel_rfl) (by kernel_rfl)) (by kernel_rfl) (by kernel_rfl)
end Go.Proofs.YtmjdhfbnmmdjiaaDoor
