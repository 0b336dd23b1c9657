/- Laid together by a tool from the texts of this seat: RdB RegTwo RdC RdD. Conditions: each theorem's own. -/
import Derived.Test.YtmjdhfbnmmdjiaaGreatK12
import Derived.Test.YtmjdhfbnmmdjiaaGreatK15
import Derived.Test.YtmjdhfbnmmdjiaaGreatK05
/- The document's op, name, plain, literal: what a part may hold. -/
namespace Go.Proofs.YtmjdhfbnmmdjiaaGreat
open Go.RowKit

/-- An answer that shows something. -/
def Shows (Q : Prop) (w : World) (e : Ending) (w' : World) : Prop := ∃ b : Bool, e = .returned (.bool b) ∧ (b = true → Q) ∧ Below w.heap.size w w'
theorem Shows.no {Q : Prop} {w w' : World} (h : Below w.heap.size w w') : Shows Q w (.returned (.bool false)) w' := ⟨false, rfl, (fun h2 => nomatch h2), h⟩
theorem Shows.yes {Q : Prop} {w w' : World} {b : Bool} (q : b = true → Q) (h : Below w.heap.size w w') : Shows Q w (.returned (.bool b)) w' := ⟨b, rfl, q, h⟩

theorem rplainE_any (A : Option Addr) (c : Nat) (xs : List Nd) (w : World) (ha : TyA w w.heap.size A xs) (hl : xs.length ≤ 1000000) (hs : ∀ x ∈ xs, x.s.size ≤ 1000000) :
    Calls Tryz.prog 59 #[.slice A xs.length c] w (Shows (rRightB xs = true ∧ plainB xs = true) w) := by
  have HR := Lib.hid (rRight_any A c xs w ha (by omega) fun x hx => by have := hs x hx; omega)
  have HP := Lib.hid (fun v (hv : Below w.heap.size w v) => rPlain_any A c v.heap.size xs v ((ha.below hv).more hv.size) (by omega))
  clear ha hl hs
  go_enter Tryz.func59, Tryz.ntmps59
  go_wp2_with fail
  refine HR.out.mono ?_
  rintro e w1 ⟨rfl, hb⟩
  cases hr : rRightB xs
  · go_wp2_with fail
    go_ret
    exact Shows.no hb
  · go_wp2_with fail
    refine (HP.out _ hb).mono ?_
    rintro e w2 ⟨rfl, rfl⟩
    go_wp2_with fail
    go_ret
    exact Shows.yes (fun h => ⟨hr, h⟩) hb

set_option maxRecDepth 100000 in
theorem rnameE_any (s : ByteArray) (w : World) (hs : s.size ≤ 1000000) :
    Calls Tryz.prog 61 #[.string s] w (Shows True w) := by
  go_enter Tryz.func61, Tryz.ntmps61
  go_wp2_with fail
  go_loopw [3] (fun i3 wr => ∃ k : Nat, i3 = .int .i64 k ∧ k ≤ s.size ∧ wr = w) (fun i3 _ => s.size - (Lib.intOf i3).toNat)
  case atStart => exact ⟨0, rfl, by omega, rfl⟩
  case round =>
    obtain ⟨k, rfl, hk, rfl⟩ := hrel
    by_cases hlt : k < s.size
    · cases h33 : ((((s[k]'hlt).toNat : Nat) : Int) == 33)
      rotate_left
      · go_wp2_with fail
        refine (rIsWord_any _ _ ?_).mono ?_
        · rw [ByteArray.size_extract]; omega
        rintro e w2 ⟨rfl, rfl⟩
        cases hw : wordB (s.extract 0 k)
        · go_wp2_with fail
          go_ret
          exact Shows.no (Below.refl _ _)
        · go_wp2_with fail
          refine (rIsWord_any _ _ ?_).mono ?_
          · rw [ByteArray.size_extract]; omega
          rintro e w2 ⟨rfl, rfl⟩
          go_wp2_with fail
          go_ret
          exact Shows.yes (fun _ => trivial) (Below.refl _ _)
      · go_wp2_with fail
        go_roundw
        case rel => exact ⟨k + 1, by go_num, by omega, trivial⟩
        case measure => simp [Lib.intOf]; omega
    · go_wp2_with fail
      refine (rIsWord_any _ _ (by omega)).mono ?_
      rintro e w2 ⟨rfl, rfl⟩
      go_wp2_with fail
      go_ret
      exact Shows.yes (fun _ => trivial) (Below.refl _ _)

set_option maxRecDepth 100000 in
theorem ropE_any (s : ByteArray) (w : World) :
    Calls Tryz.prog 62 #[.string s] w (Shows True w) := by
  go_enter Tryz.func62, Tryz.ntmps62
  go_upto_region 2 with fail
  obtain ⟨w1, hw1⟩ : ∃ w1, w1 = w.alloc (.cells #[.string ⟨#[43]⟩, .string ⟨#[45]⟩, .string ⟨#[42]⟩, .string ⟨#[47]⟩, .string ⟨#[60]⟩, .string ⟨#[61, 61]⟩, .string ⟨#[38, 38]⟩, .string ⟨#[124, 124]⟩, .string ⟨#[43, 43]⟩] 9) := ⟨_, rfl⟩
  have hb1 : Below w.heap.size w w1 := by rw [hw1]; exact ext_alloc (Below.refl _ _) _
  have hbl : w1.heap[w.heap.size]? = some (.cells #[.string ⟨#[43]⟩, .string ⟨#[45]⟩, .string ⟨#[42]⟩, .string ⟨#[47]⟩, .string ⟨#[60]⟩, .string ⟨#[61, 61]⟩, .string ⟨#[38, 38]⟩, .string ⟨#[124, 124]⟩, .string ⟨#[43, 43]⟩] 9 (0, 0)) := by rw [hw1]; exact heap_alloc_new _ _
  rw [← hw1]
  clear hw1
  have HC : Hid (∀ k : Nat, k < 9 → ∃ t, w1.cell? ⟨w.heap.size, k, none⟩ = some (.string t)) := Lib.hid fun k hk => by
    simp only [World.cell?, hbl]
    match k, hk with
    | 0, _ | 1, _ | 2, _ | 3, _ | 4, _ | 5, _ | 6, _ | 7, _ | 8, _ => exact ⟨_, rfl⟩
  have HB := Lib.hid hb1
  clear hb1 hbl
  obtain ⟨g, hg⟩ : ∃ g, g = w.heap.size := ⟨_, rfl⟩
  rw [← hg] at HC ⊢
  clear hg
  go_wp2_with fail
  go_loopw [4] (fun i4 wr => ∃ k : Nat, i4 = .int .i64 k ∧ k ≤ 9 ∧ wr = w1) (fun i4 _ => 9 - (Lib.intOf i4).toNat)
  case atStart => exact ⟨0, rfl, by omega, rfl⟩
  case round =>
    obtain ⟨k, rfl, hk, rfl⟩ := hrel
    by_cases hlt : k < 9
    · obtain ⟨t, ht⟩ := HC.out k hlt
      have hlti : (k : Int) < 9 := by omega
      cases hq : (t.toList == s.toList)
      · go_wp2_with fail
        go_roundw
        case rel => exact ⟨k + 1, by go_num, by omega, trivial⟩
        case measure => simp [Lib.intOf]; omega
      · go_wp2_with fail
        go_ret
        exact Shows.yes (fun _ => trivial) HB.out
    · have hlti : ¬ (k : Int) < 9 := by omega
      go_wp2_with fail
      go_ret
      exact Shows.no HB.out

theorem rliteral_any (p : Pt) (TA : Option Addr) (tn tc : Nat) (UA : Option Addr) (un uc : Nat) (w : World) (hT : TyA w w.heap.size TA p.T) (htn : Hid (tn = p.T.length)) :
    Calls Tryz.prog 60 #[pvE p TA tn tc UA un uc] w (Shows (∃ k, 1 ≤ k ∧ k ≤ 4 ∧ p.T = [⟨k, ByteArray.empty, 0⟩]) w) := by
  by_cases h1 : tn = 1
  · obtain ⟨x, hx⟩ : ∃ x, p.T = [x] := by
      have := htn.out
      rw [h1] at this
      exact List.length_eq_one_iff.1 this.symm
    subst h1
    obtain ⟨b, o, rfl, hb, c0, c1, c2⟩ := hT.at_ (i := 0) (x := x) (by rw [hx]; rfl)
    simp only [Nat.zero_mul, Nat.add_zero] at c0 c1 c2
    have HX := Lib.hid hx
    obtain ⟨w1, hw1⟩ : ∃ w1, w1 = w.alloc (.cells #[.int .i64 p.k, .string p.lb, .string p.nm, .string p.bd, .int .i64 p.mn, .int .i64 p.num, .slice (some ⟨b, o, none⟩) 1 tc, .slice UA un uc] 33) := ⟨_, rfl⟩
    have hb1 : Below w.heap.size w w1 := by rw [hw1]; exact ext_alloc (Below.refl _ _) _
    have hbl : w1.heap[w.heap.size]? = some (.cells #[.int .i64 p.k, .string p.lb, .string p.nm, .string p.bd, .int .i64 p.mn, .int .i64 p.num, .slice (some ⟨b, o, none⟩) 1 tc, .slice UA un uc] 33 (0, 0)) := by rw [hw1]; exact heap_alloc_new _ _
    have d2 : w1.cell? ⟨w.heap.size, 2, none⟩ = some (.string p.nm) := by simp [World.cell?, hbl]
    have d5 : w1.cell? ⟨w.heap.size, 5, none⟩ = some (.int .i64 p.num) := by simp [World.cell?, hbl]
    have d6 : w1.cell? ⟨w.heap.size, 6, none⟩ = some (.slice (some ⟨b, o, none⟩) 1 tc) := by simp [World.cell?, hbl]
    have e0 : w1.cell? ⟨b, o, none⟩ = some (.int .i64 x.k) := (hb1.cell (p := ⟨b, o, none⟩) hb).trans c0
    have e1 : w1.cell? ⟨b, o + 1, none⟩ = some (.string x.s) := (hb1.cell (p := ⟨b, o + 1, none⟩) hb).trans c1
    have e2 : w1.cell? ⟨b, o + 2, none⟩ = some (.int .i64 x.n) := (hb1.cell (p := ⟨b, o + 2, none⟩) hb).trans c2
    have HB := Lib.hid hb1
    clear hT htn hx c0 c1 c2 hb1 hbl hb
    unfold pvE
    go_enter Tryz.func60, Tryz.ntmps60
    go_upto_region 1 with fail
    rw [← hw1]
    clear hw1
    obtain ⟨g, hg⟩ : ∃ g, g = w.heap.size := ⟨_, rfl⟩
    rw [← hg] at d2 d5 d6 ⊢
    clear hg
    cases he : x.s.toList.isEmpty
    · go_wp2_with fail
      go_ret
      exact Shows.no HB.out
    cases hn : (x.n != 0)
    rotate_left
    · go_wp2_with fail
      go_ret
      exact Shows.no HB.out
    cases h3 : decide (p.num < 0)
    rotate_left
    · go_wp2_with fail
      go_ret
      exact Shows.no HB.out
    cases h4 : decide (999999999999999999 < p.num)
    rotate_left
    · go_wp2_with fail
      go_ret
      exact Shows.no HB.out
    have HQ : Hid (∀ k : Int, x.k = k → 1 ≤ k → k ≤ 4 → ∃ k, 1 ≤ k ∧ k ≤ 4 ∧ p.T = [⟨k, ByteArray.empty, 0⟩]) := Lib.hid fun k hk h1 h2 => by
      refine ⟨k, h1, h2, ?_⟩
      have hs : x.s = ByteArray.empty := ByteArray.size_eq_zero_iff.1 (by rw [isEmpty_size] at he; simpa using he)
      have hn0 : x.n = 0 := by simpa using hn
      rw [HX.out, ← hk, ← hs, ← hn0]
    go_upto_region 3 with fail
    cases k1 : (x.k == 1)
    rotate_left
    · go_wp2_with fail
      go_ret
      exact Shows.yes (fun _ => HQ.out 1 (by simpa using k1) (by omega) (by omega)) HB.out
    cases k2 : (x.k == 2)
    rotate_left
    · cases hm : p.nm.toList.isEmpty
      all_goals
        go_wp2_with fail
        go_ret
        exact Shows.yes (fun _ => HQ.out 2 (by simpa using k2) (by omega) (by omega)) HB.out
    cases k3 : (x.k == 3)
    rotate_left
    · go_wp2_with fail
      go_ret
      exact Shows.yes (fun _ => HQ.out 3 (by simpa using k3) (by omega) (by omega)) HB.out
    cases k4 : (x.k == 4)
    rotate_left
    · cases hm : p.nm.toList.isEmpty
      all_goals
        go_wp2_with fail
        go_ret
        exact Shows.yes (fun _ => HQ.out 4 (by simpa using k4) (by omega) (by omega)) HB.out
    go_wp2_with fail
    go_ret
    exact Shows.no HB.out
  · unfold pvE
    have h1b : ((tn : Int) != 1) = true := by simp; omega
    clear h1
    go_enter Tryz.func60, Tryz.ntmps60
    go_wp2_with fail
    go_ret
    exact Shows.no (ext_alloc (Below.refl _ _) _)
end Go.Proofs.YtmjdhfbnmmdjiaaGreat

/- Regions that draw: two operations that may come up, one by one (the general part of RegT). -/
namespace Go.Proofs.YtmjdhfbnmmdjiaaGreat
open Go Go.RowKit

section
variable {P : Program} {ops : Array Oper} {Q : Exit → Act → World → Prop} {md : Region.Mode} {S : World → Prop} {Z : List Nat}
/-- Two operations may come up. -/
theorem twoL (i j : Nat) {fuel : Nat} {listed : Array Bool} {a : Act} {w : World} {oi oj : Oper} (hr : Region.ready md ops listed = [i, j]) (hi : ops[i]? = some oi) (hj : ops[j]? = some oj) (hwi : Region.wanted oi (yielded ops a.tmps) = true) (hwj : Region.wanted oj (yielded ops a.tmps) = true)
    (h1 : oi.wp P a w (fun a' w' => ((∀ z ∈ Z, (listed.setIfInBounds i true).getD z true = false) → S w') ∧ wpAnyL P md ops Q S Z fuel (listed.setIfInBounds i true) a' w') Q)
    (h2 : oj.wp P a w (fun a' w' => ((∀ z ∈ Z, (listed.setIfInBounds j true).getD z true = false) → S w') ∧ wpAnyL P md ops Q S Z fuel (listed.setIfInBounds j true) a' w') Q) : wpAnyL P md ops Q S Z (fuel + 1) listed a w := by
  refine wpAnyL_all hr (by simp) fun m hm => ?_
  simp only [List.mem_cons, List.not_mem_nil, or_false] at hm
  rcases hm with rfl | rfl
  · unfold wpOp
    rw [hi]
    simp only [hwi, if_true]
    exact .inl h1
  · unfold wpOp
    rw [hj]
    simp only [hwj, if_true]
    exact .inl h2
theorem opCall (d : Option Tmp) {a : Act} {w : World} {oi : Oper} {K : Act → World → Prop} {f : FuncId} {args : Array Value} {post : Ending → World → Prop} (hd : oi.dst = d) (hop : (execOp a.eval oi).run P w = .ok (.enter f args) w) (hc : Calls P f args w post)
    (h : ∀ e w', post e w' → ∃ u, e = .returned u ∧ K (a.put d u) w') : oi.wp P a w K Q := by
  subst hd
  unfold Oper.wp
  rw [hop]
  simp only [Oper.upon]
  refine hc.mono fun e w' he => ?_
  obtain ⟨u, rfl, h1⟩ := h e w' he
  exact h1
theorem opVal (d : Option Tmp) {a : Act} {w w' : World} {oi : Oper} {K : Act → World → Prop} {v : Value} (hd : oi.dst = d) (hop : (execOp a.eval oi).run P w = .ok (.value v) w') (h : K (a.put d v) w') : oi.wp P a w K Q := by
  subst hd
  unfold Oper.wp
  rw [hop]
  exact h
end
end Go.Proofs.YtmjdhfbnmmdjiaaGreat

/- The document's uses: what a part may hold. -/
namespace Go.Proofs.YtmjdhfbnmmdjiaaGreat
open Go.RowKit

/-- What the document asks of a part. -/
structure UseF (p : Pt) : Prop where
  k : 0 ≤ p.k ∧ p.k ≤ 14
  mn : 0 ≤ p.mn ∧ p.mn ≤ 50
  m7 : p.k = 7 → 1 ≤ p.mn
  lit : p.k = 0 → ∃ k, 1 ≤ k ∧ k ≤ 4 ∧ p.T = [⟨k, ByteArray.empty, 0⟩]
  T : p.k = 2 ∨ p.k = 4 ∨ p.k = 5 ∨ p.k = 12 ∨ p.k = 13 ∨ p.k = 14 → rRightB p.T = true ∧ plainB p.T = true
  U : p.k = 5 ∨ p.k = 14 → rRightB p.U = true ∧ plainB p.U = true

set_option maxRecDepth 100000 in
set_option maxHeartbeats 4000000 in
theorem rusesE_any (p : Pt) (TA : Option Addr) (tn tc : Nat) (UA : Option Addr) (un uc : Nat) (w : World) (hT : TyA w w.heap.size TA p.T) (hU : TyA w w.heap.size UA p.U) (htn : Hid (tn = p.T.length ∧ un = p.U.length))
    (hs : p.T.length ≤ 1000 ∧ p.U.length ≤ 1000 ∧ (∀ x ∈ p.T, x.s.size ≤ 1000) ∧ (∀ x ∈ p.U, x.s.size ≤ 1000) ∧ p.nm.size ≤ 1000 ∧ p.bd.size ≤ 1000) :
    Calls Tryz.prog 41 #[pvE p TA tn tc UA un uc] w (Shows (UseF p) w) := by
  obtain ⟨w1, hw1⟩ : ∃ w1, w1 = w.alloc (.cells #[.int .i64 p.k, .string p.lb, .string p.nm, .string p.bd, .int .i64 p.mn, .int .i64 p.num, .slice TA tn tc, .slice UA un uc] 33) := ⟨_, rfl⟩
  have hb1 : Below w.heap.size w w1 := by rw [hw1]; exact ext_alloc (Below.refl _ _) _
  have hbl : w1.heap[w.heap.size]? = some (.cells #[.int .i64 p.k, .string p.lb, .string p.nm, .string p.bd, .int .i64 p.mn, .int .i64 p.num, .slice TA tn tc, .slice UA un uc] 33 (0, 0)) := by rw [hw1]; exact heap_alloc_new _ _
  have HB := Lib.hid hb1
  have HTU := Lib.hid (And.intro hT (And.intro hU hs))
  have HW := Lib.hid (fun v => rIsWord_any p.nm v (by have := hs.2.2.2.2.1; omega))
  have HG := Lib.hid (fun v => rIsTag_any p.nm v (by have := hs.2.2.2.2.1; omega))
  have HBd := Lib.hid (fun v => rIsWord_any p.bd v (by have := hs.2.2.2.2.2; omega))
  have HLt := Lib.hid (fun v (hv : Below w.heap.size w v) => rliteral_any p TA tn tc UA un uc v ((HTU.out.1.below hv).more hv.size) (Lib.hid htn.out.1))
  unfold pvE at HLt
  have HPl := Lib.hid (fun v (hv : Below w.heap.size w v) => rplainE_any TA tc p.T v ((HTU.out.1.below hv).more hv.size) (by have := HTU.out.2.2.1; omega) (fun x hx => by have := HTU.out.2.2.2.2.1 x hx; omega))
  have HPu := Lib.hid (fun v (hv : Below w.heap.size w v) => rplainE_any UA uc p.U v ((HTU.out.2.1.below hv).more hv.size) (by have := HTU.out.2.2.2.1; omega) (fun x hx => by have := HTU.out.2.2.2.2.2.1 x hx; omega))
  rw [← htn.out.1] at HPl
  rw [← htn.out.2] at HPu
  have HNm := Lib.hid (fun v => rnameE_any p.nm v (by have := HTU.out.2.2.2.2.2.2.1; omega))
  have HOp := Lib.hid (fun v => ropE_any p.nm v)
  have HC : Hid (∀ v, Below w1.heap.size w1 v → v.cell? ⟨w.heap.size, 0, none⟩ = some (.int .i64 p.k) ∧ v.cell? ⟨w.heap.size, 1, none⟩ = some (.string p.lb) ∧ v.cell? ⟨w.heap.size, 2, none⟩ = some (.string p.nm) ∧ v.cell? ⟨w.heap.size, 3, none⟩ = some (.string p.bd) ∧
      v.cell? ⟨w.heap.size, 4, none⟩ = some (.int .i64 p.mn) ∧ v.cell? ⟨w.heap.size, 5, none⟩ = some (.int .i64 p.num) ∧ v.cell? ⟨w.heap.size, 6, none⟩ = some (.slice TA tn tc) ∧ v.cell? ⟨w.heap.size, 7, none⟩ = some (.slice UA un uc)) := Lib.hid fun v hv => by
    have hlt : w.heap.size < w1.heap.size := (Array.getElem?_eq_some_iff.1 hbl).1
    have hb := (hv.block _ hlt).trans hbl
    simp [World.cell?, hb]
  have HU : Hid (∀ K : Int, p.k = K → (0 ≤ K ∧ K ≤ 14) → (0 ≤ p.mn ∧ p.mn ≤ 50) → (K = 7 → 1 ≤ p.mn) → (K = 0 → ∃ k, 1 ≤ k ∧ k ≤ 4 ∧ p.T = [⟨k, ByteArray.empty, 0⟩]) → (K = 2 ∨ K = 4 ∨ K = 5 ∨ K = 12 ∨ K = 13 ∨ K = 14 → rRightB p.T = true ∧ plainB p.T = true) → (K = 5 ∨ K = 14 → rRightB p.U = true ∧ plainB p.U = true) → UseF p) := Lib.hid fun K hK h1 h2 h3 h4 h5 h6 => by
    subst hK
    exact ⟨h1, h2, h3, h4, h5, h6⟩
  obtain ⟨k, hkk⟩ : ∃ k, k = p.k := ⟨_, rfl⟩
  obtain ⟨d0, d1, d2, d3, d4, d5, d6, d7⟩ := HC.out w1 (Below.refl _ _)
  have HK := Lib.hid hkk
  rw [← hkk] at d0 HC HLt hw1
  obtain ⟨mn, hmn⟩ : ∃ mn, mn = p.mn := ⟨_, rfl⟩
  rw [← hmn] at d4 HC HLt HU hw1
  have HM := Lib.hid hmn
  clear hkk hmn hT hU hs hb1 hbl htn HTU
  unfold pvE
  rw [← HK.out, ← HM.out]
  go_enter Tryz.func41, Tryz.ntmps41
  go_upto_region 1 with fail
  rw [← hw1]
  clear hw1
  obtain ⟨g, hg⟩ : ∃ g, g = w.heap.size := ⟨_, rfl⟩
  rw [← hg] at d0 d1 d2 d3 d4 d5 d6 d7 HC ⊢
  have HG0 := Lib.hid hg
  clear hg
  go_quiet (first | (go_at_call 57; exact Calls.quiet_of_same ((HW.out _).mono fun e w1 h => ⟨h.1, h.2.symm⟩)) | (go_at_call 58; exact Calls.quiet_of_same ((HG.out _).mono fun e w1 h => ⟨h.1, h.2.symm⟩)))
  obtain ⟨w2, hw2⟩ : ∃ w2, w2 = w1.drewN nq := ⟨_, rfl⟩
  rw [← hw2]
  have HB2 : Hid (Below w1.heap.size w1 w2) := Lib.hid (by rw [hw2]; exact below_drewN (Below.refl _ _) _)
  clear hw2 d0 d1 d2 d3 d4 d5 d6 d7
  obtain ⟨d0, d1, d2, d3, d4, d5, d6, d7⟩ := HC.out w2 HB2.out
  go_upto_region 4 with (go_at_call 57; refine (HBd.out _).mono ?_; rintro e w3 ⟨rfl, rfl⟩)
  all_goals
    obtain ⟨SS, hSS⟩ : ∃ SS : World → Prop, SS = fun v => v.cell? ⟨g, 6, none⟩ = some (.slice TA tn tc) ∧ v.cell? ⟨g, 7, none⟩ = some (.slice UA un uc) := ⟨_, rfl⟩
    have HS : Hid (∀ v, Below w1.heap.size w1 v → SS v) := Lib.hid fun v hv => by rw [hSS]; exact ⟨(HC.out v hv).2.2.2.2.2.2.1, (HC.out v hv).2.2.2.2.2.2.2⟩
    obtain ⟨wd, hwd⟩ : ∃ wd, wd = w2.drew := ⟨_, rfl⟩
    have HBd0 : Hid (Below w1.heap.size w1 wd) := Lib.hid (by rw [hwd]; exact HB2.out.drew)
    have hsd : SS wd := HS.out _ HBd0.out
    refine wp_region_L_drew (S := SS) [] (by kernel_rfl) (by rw [← hwd]; exact hsd) (fun hHeld => ?_)
    rw [← hwd] at hHeld ⊢
    clear hwd
    refine onA 0 [1, 2, 5, 6, 7] (some 28) rfl rfl ?_
    refine onA 1 [2, 5, 6, 7] (some 29) rfl rfl ?_
    refine onA 3 [4, 5, 6, 7] (some 31) rfl rfl ?_
    refine onA 4 [5, 6, 7] (some 32) rfl rfl ?_
    refine callL 2 (some 30) rfl rfl (by kernel_rfl) (by rfl) (by kernel_rfl) (HPl.out _ (ext_trans HB.out HBd0.out)) ?_
    rintro e w3 ⟨bt, rfl, qt, hb3⟩
    have HQt := Lib.hid qt
    have HB3 : Hid (Below w1.heap.size w1 w3) := Lib.hid (ext_trans HBd0.out hb3)
    clear qt hb3
    refine ⟨_, rfl, HS.out _ HB3.out, ?_⟩
    refine putA ?_
    refine callL 5 (some 33) rfl rfl (by kernel_rfl) (by rfl) (by kernel_rfl) (HPu.out _ (ext_trans HB.out HB3.out)) ?_
    rintro e w4 ⟨bu, rfl, qu, hb4⟩
    have HQu := Lib.hid qu
    have HB4 : Hid (Below w1.heap.size w1 w4) := Lib.hid (ext_trans HB3.out hb4)
    clear qu hb4
    refine ⟨_, rfl, HS.out _ HB4.out, ?_⟩
    refine putA ?_
    refine onA 6 [7] (some 7) rfl rfl (hS := HS.out _ HB4.out) ?_
    refine onA 7 [] (some 8) rfl rfl (hS := HS.out _ HB4.out) ?_
    refine doneL (by kernel_rfl) ?_ _
    clear hSS HS hHeld hsd d0 d1 d2 d3 d4 d5 d6 d7
    obtain ⟨d0, d1, d2, d3, d4, d5, d6, d7⟩ := HC.out w4 HB4.out
    go_upto_region 5 with fail
    go_quiet (fail)
    obtain ⟨w5, hw5⟩ : ∃ w5, w5 = w4.drewN nq := ⟨_, rfl⟩
    rw [← hw5]
    have HB5 : Hid (Below w1.heap.size w1 w5) := Lib.hid (by rw [hw5]; exact below_drewN HB4.out _)
    clear hw5 d0 d1 d2 d3 d4 d5 d6 d7
    obtain ⟨d0, d1, d2, d3, d4, d5, d6, d7⟩ := HC.out w5 HB5.out
    have HE : Hid (Below w.heap.size w w5) := Lib.hid (ext_trans HB.out HB5.out)
    by_cases hkr : 0 ≤ k ∧ k ≤ 14
    · have hcs : k = 0 ∨ k = 1 ∨ k = 2 ∨ k = 3 ∨ k = 4 ∨ k = 5 ∨ k = 6 ∨ k = 7 ∨ k = 8 ∨ k = 9 ∨ k = 10 ∨ k = 11 ∨ k = 12 ∨ k = 13 ∨ k = 14 := by omega
      clear hkr
      rcases hcs with rfl | rfl | rfl | rfl | rfl | rfl | rfl | rfl | rfl | rfl | rfl | rfl | rfl | rfl | rfl
      all_goals
        go_wp2_with (first
          | (go_at_call 60; (have hq := HLt.out _ HE.out); (rw [(‹mn = 0› : mn = 0), (‹un = 0› : un = 0)] at hq); refine hq.mono ?_; clear hq; rintro e w6 ⟨bl, rfl, ql, hb6⟩; have HE6 := Lib.hid (ext_trans HE.out hb6); have HQl := Lib.hid ql; clear hb6 ql)
          | (go_at_call 61; refine (HNm.out _).mono ?_; rintro e w6 ⟨bl, rfl, ql, hb6⟩; have HE6 := Lib.hid (ext_trans HE.out hb6); have HQl := Lib.hid ql; clear hb6 ql)
          | (go_at_call 62; refine (HOp.out _).mono ?_; rintro e w6 ⟨bl, rfl, ql, hb6⟩; have HE6 := Lib.hid (ext_trans HE.out hb6); have HQl := Lib.hid ql; clear hb6 ql))
      all_goals
        go_ret
        first
        | exact Shows.no (by first | exact HE6.out | exact HE.out)
        | exact Shows.yes (fun hh => HU.out _ HK.out.symm (by omega) (by omega) (by omega) (fun h => by first | omega | exact HQl.out hh) (fun h => by first | omega | exact HQt.out (by assumption) | exact HQt.out hh) (fun h => by first | omega | exact HQu.out (by assumption) | exact HQu.out hh)) (by first | exact HE6.out | exact HE.out)
    · have n0 : (k == 0) = false := by simp; omega
      have n1 : (k == 1) = false := by simp; omega
      have n2 : (k == 2) = false := by simp; omega
      have n3 : (k == 3) = false := by simp; omega
      have n4 : (k == 4) = false := by simp; omega
      have n5 : (k == 5) = false := by simp; omega
      have n6 : (k == 6) = false := by simp; omega
      have n7 : (k == 7) = false := by simp; omega
      have n8 : (k == 8) = false := by simp; omega
      have n9 : (k == 9) = false := by simp; omega
      have n10 : (k == 10) = false := by simp; omega
      have n11 : (k == 11) = false := by simp; omega
      have n12 : (k == 12) = false := by simp; omega
      have n13 : (k == 13) = false := by simp; omega
      have n14 : (k == 14) = false := by simp; omega
      have m0 : (k != 0) = true := by simp; omega
      have m14 : (k != 14) = true := by simp; omega
      clear hkr
      go_wp2_with fail
      all_goals
        go_ret
        exact Shows.no HE.out
end Go.Proofs.YtmjdhfbnmmdjiaaGreat

/- The document's shallow of parts: it answers. -/
namespace Go.Proofs.YtmjdhfbnmmdjiaaGreat
open Go.RowKit

def StOk5 (l : List Int) : Prop := ∀ (l0 : List Int) (a : Int), l = l0 ++ [a] → 0 ≤ a ∧ a ≤ 51 ∧ ∀ v ∈ l0, 1 ≤ v ∧ v ≤ 51
theorem stOk5_snoc {l : List Int} {a : Int} (h : ∀ v ∈ l, 1 ≤ v ∧ v ≤ 51) (h0 : 0 ≤ a) (h1 : a ≤ 51) : StOk5 (l ++ [a]) := by
  intro l0 b e
  obtain ⟨rfl, hb⟩ := List.append_inj' e rfl
  simp at hb
  subst hb
  exact ⟨h0, h1, h⟩

set_option maxRecDepth 100000 in
set_option maxHeartbeats 4000000 in
theorem rshallowE_any (Y : Nat → Prop) (A : Option Addr) (c : Nat) (es : List Pt) (w : World) (hx : ExX w Y A es) (hl : es.length ≤ 1000000) (hok : PsOk es) :
    Calls Tryz.prog 42 #[.slice A es.length c] w (Shows True w) := by
  have H := Lib.hid (And.intro hx hok)
  clear hx hok
  have hown0 := own_empty 3 1 encI w
  have hb0 := ext_alloc (Below.refl w.heap.size w) (.cells #[] 3)
  go_enter Tryz.func42, Tryz.ntmps42
  go_wp2_with fail
  go_loopw [3, 4] (fun o3 k4 wr => ∃ (k : Nat) (A' : Option Addr) (cap' : Nat) (l : List Int), o3 = .slice A' l.length cap' ∧ k4 = .int .i64 k ∧ k ≤ es.length ∧ l.length ≤ 100 ∧ Hid (∀ v ∈ l, 1 ≤ v ∧ v ≤ 51) ∧
      OwnI wr w.heap.size A' cap' l ∧ Below w.heap.size w wr)
    (fun _ k4 _ => es.length - (Lib.intOf k4).toNat)
  case atStart => exact ⟨0, _, _, [], rfl, rfl, Nat.zero_le _, by simp, Lib.hid (by simp), hown0, hb0⟩
  case round =>
    obtain ⟨k, A', cap', l, rfl, rfl, hk, hl100, hpos, hown, hbel⟩ := hrel
    by_cases hp : k < es.length
    · obtain ⟨x, hx⟩ := getq_ex hp
      have hxo := H.out.2 x (List.mem_of_getElem? hx)
      have hm51 := manyE_le hxo.2
      obtain ⟨eb, eo, rfl, hb, hy, ⟨TA, tc, UA, uc, _, _, c0, c1, c2, c3, c4, c5, c6, c7⟩, _⟩ := (H.out.1.fr (Fr.below hbel : Fr Y w wr) fun q hq => .inl hq) k x hx
      have HM := Lib.hid (fun v => rmanyE_any x TA x.T.length tc UA x.U.length uc v hxo.1 hxo.2)
      unfold pvE at HM
      obtain ⟨M, hM⟩ : ∃ M, M = manyE x := ⟨_, rfl⟩
      rw [← hM] at HM hm51
      clear hx hM hxo
      by_cases h100 : l.length = 100
      · have h100' : (100 : Int) ≤ (l.length : Int) := by omega
        clear h100
        go_wp2_with fail
        go_ret
        exact Shows.no hbel
      · have h100' : ¬ (100 : Int) ≤ (l.length : Int) := by omega
        have h100n : l.length < 100 := by omega
        clear h100
        go_wp2_with fail
        refine (HM.out _).mono ?_
        rintro e w1 ⟨rfl, hbx⟩
        have hown1 := OwnL.below hown hbx (Nat.le_refl _)
        have hbel1 := ext_trans hbel hbx
        have z1 := hbel1.size
        clear c0 c1 c2 c3 c4 c5 c6 c7
        go_wp2_with (at_builtin; refine wpList_appI rfl (.tmp 15) (.tmp 21) rfl w.heap.size (l := l) rfl (OwnL.alloc hown1 _) (l2 := [(M : Int)]) rfl (readI_new _ _) (by simp; omega) (by simp; omega) ?_; intro A2 cap2 w3 hown3 hg3 _)
        have hbel3 := ext_app (ext_alloc hbel1 _) hg3 (fun k hk => (OwnL.block hown1 k hk).1)
        clear hg3 hbx hown1
        have hst : Hid (StOk5 (l ++ [(M : Int)])) := Lib.hid (stOk5_snoc hpos.out (by omega) (by omega))
        obtain ⟨wo, rfl⟩ : ∃ wo : World, wo = wr := ⟨_, rfl⟩
        go_loopw [3] (fun o3 wi => ∃ (A3 : Option Addr) (cap3 : Nat) (l3 : List Int), o3 = .slice A3 l3.length cap3 ∧ l3.length ≤ 101 ∧ Hid (StOk5 l3) ∧ OwnI wi w.heap.size A3 cap3 l3 ∧ Below w.heap.size w wi ∧
            Hid (settleL l3.reverse = settleL ((l ++ [(M : Int)]).reverse)))
          (fun o3 _ => lenOf o3)
        case atStart => exact ⟨_, _, l ++ [(M : Int)], by simp, by simp; omega, hst, hown3, hbel3, Lib.hid rfl⟩
        case round =>
          clear hown3 hbel3 hst
          obtain ⟨A3, cap3, l3, rfl, hl101, hst, hown3, hbel3, hgood3⟩ := hrel
          rcases Nat.eq_zero_or_pos l3.length with hz | hz
          · have hnil : l3 = [] := List.eq_nil_of_length_eq_zero hz
            subst hnil
            go_wp2_with fail
            go_roundw
            case rel => exact ⟨k + 1, A3, cap3, [], rfl, by go_num, hp, by simp, Lib.hid (by simp), hown3, hbel3⟩
            case measure => simp [Lib.intOf]; omega
          · obtain ⟨l0, a, hl3, hm⟩ := snoc_of (show l3.length = (l3.length - 1) + 1 by omega)
            generalize hmm : l3.length - 1 = m at hm
            have hlen3 : l3.length = m + 1 := by omega
            rw [hlen3] at hl101 ⊢
            have hread := OwnL.read encI_len hown3
            obtain ⟨b3, rfl, hbw3, hb3, hcap3, hcapm⟩ := OwnL.form hown3 hz
            obtain ⟨_, _, e3, _, c3⟩ := ReadL.int hread (i := m) (n := a) (by rw [hl3, List.getElem?_append_right (by omega)]; simp [hm])
            simp only [Option.some.injEq, Addr.mk.injEq, and_true] at e3
            obtain ⟨rfl, rfl⟩ := e3
            rw [Nat.zero_add] at c3
            rw [hlen3] at hcap3
            have hbd := hst.out l0 a hl3
            obtain ⟨ha0, ha1, hl0⟩ := hbd
            have Hl3 := Lib.hid hl3
            have Hm := Lib.hid hm
            have Hlen3 := Lib.hid hlen3
            have Hl0 := Lib.hid hl0
            have hm0 := Lib.hid (show m = l0.length from hm.symm)
            clear hl3 hm hlen3 hmm hl0 hz hread
            by_cases haz : a = 0
            · have hazb : (a == 0) = true := by simpa using haz
              have Haz := Lib.hid haz
              clear haz
              have hcut : OwnI wr w.heap.size (some ⟨b3, 0, none⟩) cap3 l0 := by
                have := OwnL.cut encI_len hown3 (k := l0.length) (by rw [Hl3.out]; simp)
                rwa [Hl3.out, List.take_left] at this
              cases m with
              | zero =>
                have hnil : l0 = [] := List.eq_nil_of_length_eq_zero Hm.out
                subst hnil
                go_wp2_with fail
                go_roundw
                case rel => exact ⟨_, cap3, [], rfl, by simp, Lib.hid (fun l0 a h => by simp at h), hcut, hbel3, Lib.hid (by rw [← hgood3.out, Hl3.out, Haz.out]; rfl)⟩
                case measure => simp [lenOf]
              | succ j =>
                obtain ⟨l00, b, hl00, hj⟩ := snoc_of Hm.out
                have hb := Hl0.out b (by rw [hl00]; simp)
                obtain ⟨hb0', hb50⟩ := hb
                obtain ⟨g, hg, _, _, ⟨b', hb', c4⟩, f4, hset, hgr⟩ := OwnL.setI hcut (j := j) (by rw [Hm.out]; omega) (b - 1)
                simp only [Option.some.injEq, Addr.mk.injEq, and_true] at hg
                subst hg
                rw [hl00, List.getElem?_append_right (by omega)] at hb'
                simp [hj] at hb'
                subst hb'
                have Hl00 := Lib.hid hl00
                have Hj := Lib.hid hj
                have Hset := Lib.hid hset
                clear hl00 hj hset
                go_wp2_with fail
                go_roundw
                case rel => exact ⟨some ⟨b3, 0, none⟩, cap3, l00 ++ [b - 1], by simp [Hj.out], by simp [Hj.out]; omega, Lib.hid (stOk5_snoc (fun v hv => Hl0.out v (by rw [Hl00.out]; simp [hv])) (by omega) (by omega)), by
                  have h1 := Hset.out
                  rw [Hl00.out] at h1
                  rw [List.set_append_right _ _ (by rw [Hj.out]; omega), Hj.out, Nat.sub_self] at h1
                  exact h1, hbel3.setCell hbw3 _, Lib.hid (by rw [← hgood3.out, Hl3.out, Haz.out, Hl00.out]; simp [settleL, settle])⟩
                case measure => simp [lenOf]
            · have hazb : (a == 0) = false := by simpa using haz
              have Haz := Lib.hid haz
              clear haz
              go_wp2_with fail
              go_roundw
              case rel => exact ⟨k + 1, _, cap3, l3, by rw [Hlen3.out], by go_num, hp, by
                have h1 := settle_len (l.reverse) (M : Int)
                have h2 := hgood3.out
                rw [Hl3.out, List.reverse_append, List.reverse_append] at h2
                have h3 : settle l0.reverse a = settle l.reverse (M : Int) := h2
                rw [settle_pos Haz.out] at h3
                rw [← h3] at h1
                have := Hlen3.out
                have := Hm.out
                simp at h1
                omega, Lib.hid (by
                rw [Hl3.out]
                intro v hv
                rcases List.mem_append.1 hv with hv | hv
                · exact Hl0.out v hv
                · simp at hv; subst hv; have := Haz.out; omega), hown3, hbel3⟩
              case measure => simp [Lib.intOf]; omega
    · go_wp2_with fail
      go_ret
      exact Shows.yes (fun _ => trivial) hbel
end Go.Proofs.YtmjdhfbnmmdjiaaGreat
