/- Laid together by a tool from the texts of this seat: HitA HitB HitC HitD HitE. Conditions: each theorem's own. -/
import Derived.Test.YtmjdhfbnmmdjiaaDoorS01
import Derived.Test.YtmjdhfbnmmdjiaaDoorShelf
/- Sets of numbers in memory; whether two have a number together. -/
namespace Go.Proofs.YtmjdhfbnmmdjiaaDoor
open Go.RowKit

/-- A set in memory, as its header says. -/
structure SetAt (w : World) (B : Nat) (v : Option Addr × Nat × Nat) (xs : List Int) : Prop where
  n : v.2.1 = xs.length
  c : xs.length ≤ v.2.2
  r : ReadI w B v.1 xs
def SetsAt (w : World) (B : Nat) (vs : List (Option Addr × Nat × Nat)) (xss : List (List Int)) : Prop :=
  vs.length = xss.length ∧ ∀ (i : Nat) v xs, vs[i]? = some v → xss[i]? = some xs → SetAt w B v xs
section
variable {w w' : World} {B B' : Nat} {v : Option Addr × Nat × Nat} {xs : List Int} {vs : List (Option Addr × Nat × Nat)} {xss : List (List Int)}
theorem SetAt.below (h : SetAt w B v xs) (hb : Below B w w') : SetAt w' B v xs := ⟨h.n, h.c, ReadL.below h.r hb⟩
theorem SetAt.more (h : SetAt w B v xs) (hB : B ≤ B') : SetAt w B' v xs := ⟨h.n, h.c, ReadL.more h.r hB⟩
theorem SetsAt.below (h : SetsAt w B vs xss) (hb : Below B w w') : SetsAt w' B vs xss := ⟨h.1, fun i v xs h1 h2 => (h.2 i v xs h1 h2).below hb⟩
theorem SetsAt.more (h : SetsAt w B vs xss) (hB : B ≤ B') : SetsAt w B' vs xss := ⟨h.1, fun i v xs h1 h2 => (h.2 i v xs h1 h2).more hB⟩
theorem SetsAt.nil : SetsAt w B [] [] := ⟨rfl, fun i v xs h1 h2 => by simp at h1⟩
theorem SetsAt.app {v : Option Addr × Nat × Nat} {xs : List Int} (h : SetsAt w B vs xss) (k : SetAt w B v xs) : SetsAt w B (vs ++ [v]) (xss ++ [xs]) := by
  refine ⟨by simp [h.1], fun i u ys h1 h2 => ?_⟩
  rcases Nat.lt_or_ge i vs.length with hi | hi
  · rw [List.getElem?_append_left hi] at h1
    rw [List.getElem?_append_left (by rw [← h.1]; exact hi)] at h2
    exact h.2 i u ys h1 h2
  · rw [List.getElem?_append_right hi] at h1
    rw [List.getElem?_append_right (by rw [← h.1]; exact hi)] at h2
    rw [h.1] at h1
    cases hk : i - xss.length with
    | zero =>
      rw [hk] at h1 h2
      simp at h1 h2
      subst h1 h2
      exact k
    | succ j =>
      rw [hk] at h1
      simp at h1
end

theorem ReadI.tail {w : World} {B b o : Nat} {x : Int} {xs : List Int} (h : ReadI w B (some ⟨b, o, none⟩) (x :: xs)) : ReadI w B (some ⟨b, o + 1, none⟩) xs := by
  intro hne
  obtain ⟨b', o', e, hb, hc⟩ := h (by simp)
  injection e with e
  injection e with e1 e2
  subst e1 e2
  refine ⟨b, o + 1, rfl, hb, fun i y hy j u hu => ?_⟩
  have := hc (i + 1) y (by simpa using hy) j u hu
  rw [show o + 1 + i * 1 + j = o + (i + 1) * 1 + j by omega]
  exact this
/-- A set without its first number. -/
theorem ReadI.cut {w : World} {B b o c : Nat} {x : Int} {xs : List Int} (h : ReadI w B (some ⟨b, o, none⟩) (x :: xs)) (hc : (x :: xs).length ≤ c) : ReadI w B (if c = 1 then some ⟨b, o, none⟩ else some ⟨b, o + 1, none⟩) xs := by
  by_cases e : c = 1
  · rw [if_pos e]
    have : xs = [] := List.eq_nil_of_length_eq_zero (by simp at hc; omega)
    rw [this]
    exact fun hne => absurd rfl hne
  · rw [if_neg e]
    exact h.tail
theorem ReadI.at0 {w : World} {B : Nat} {A : Option Addr} {x : Int} {xs : List Int} (h : ReadI w B A (x :: xs)) : ∃ b o, A = some ⟨b, o, none⟩ ∧ b < B ∧ w.cell? ⟨b, o, none⟩ = some (.int .i64 x) := by
  obtain ⟨b, o, e, hb, hc⟩ := h (by simp)
  exact ⟨b, o, e, hb, by simpa using hc 0 x rfl 0 _ rfl⟩

/-- How long a slice is. -/
def slN : Value → Nat | .slice _ n _ => n | _ => 0

/-- Whether two rising rows have a number together. -/
def meetsF : Nat → List Int → List Int → Bool
  | 0, _, _ => false
  | _ + 1, [], _ => false
  | _ + 1, _, [] => false
  | f + 1, x :: xs, y :: ys => if (x == y) = true then true else if x < y then meetsF f xs (y :: ys) else meetsF f (x :: xs) ys
def meetsB (xs ys : List Int) : Bool := meetsF (xs.length + ys.length) xs ys

set_option maxRecDepth 100000 in
set_option maxHeartbeats 8000000 in
theorem meets_any (A : Option Addr) (c : Nat) (xs : List Int) (B : Option Addr) (d : Nat) (ys : List Int) (w : World) (hx : SetAt w w.heap.size (A, xs.length, c) xs) (hy : SetAt w w.heap.size (B, ys.length, d) ys) (hl : xs.length ≤ 1000000) (hm : ys.length ≤ 1000000) :
    Calls Tryd.prog 36 #[.slice A xs.length c, .slice B ys.length d] w fun e w' => e = .returned (.bool (meetsB xs ys)) ∧ Below w.heap.size w w' := by
  have H := Lib.hid (And.intro hx hy)
  have HL := Lib.hid (And.intro hl hm)
  clear hx hy hl hm
  go_enter Tryd.func36, Tryd.ntmps36
  go_upto_region 1 with fail
  go_loopw [0, 1] (fun s0 s1 wr => ∃ (A' : Option Addr) (c' : Nat) (xs' : List Int) (B' : Option Addr) (d' : Nat) (ys' : List Int), s0 = .slice A' xs'.length c' ∧ s1 = .slice B' ys'.length d' ∧ Hid (Below w.heap.size w wr) ∧ Hid (SetAt w w.heap.size (A', xs'.length, c') xs' ∧ SetAt w w.heap.size (B', ys'.length, d') ys' ∧ xs'.length ≤ xs.length ∧ ys'.length ≤ ys.length ∧ meetsB xs' ys' = meetsB xs ys))
    (fun s0 s1 _ => slN s0 + slN s1)
  case atStart => exact ⟨A, c, xs, B, d, ys, rfl, rfl, Lib.hid (Below.refl _ _), Lib.hid ⟨H.out.1, H.out.2, Nat.le_refl _, Nat.le_refl _, rfl⟩⟩
  case round =>
    obtain ⟨A', c', xs', B', d', ys', rfl, rfl, HB, HR⟩ := hrel
    cases xs' with
    | nil =>
      have HF : Hid (meetsB xs ys = false) := Lib.hid (by rw [← HR.out.2.2.2.2]; unfold meetsB; cases ys' <;> rfl)
      go_wp2_with fail
      go_ret
      exact ⟨by rw [HF.out]; rfl, HB.out⟩
    | cons x xs' =>
      cases ys' with
      | nil =>
        have HF : Hid (meetsB xs ys = false) := Lib.hid (by rw [← HR.out.2.2.2.2]; rfl)
        go_wp2_with fail
        go_ret
        exact ⟨by rw [HF.out]; rfl, HB.out⟩
      | cons y ys' =>
        obtain ⟨b, o, hA, hb, hc⟩ := HR.out.1.r.at0
        obtain ⟨b2, o2, hB, hb2, hc2⟩ := HR.out.2.1.r.at0
        dsimp only at hA hB
        subst hA hB
        have HC0 := Lib.hid (And.intro hc hc2)
        have c0 : ∀ j, (wr.drewN j).cell? ⟨b, o, none⟩ = some (.int .i64 x) := fun j => ((below_drewN HB.out j).cell (p := ⟨b, o, none⟩) hb).trans hc
        have c1 : ∀ j, (wr.drewN j).cell? ⟨b2, o2, none⟩ = some (.int .i64 y) := fun j => ((below_drewN HB.out j).cell (p := ⟨b2, o2, none⟩) hb2).trans hc2
        have l1 : 0 < (x :: xs').length := Nat.succ_pos _
        have l2 : 0 < (y :: ys').length := Nat.succ_pos _
        have l3 : (x :: xs').length ≤ c' := HR.out.1.c
        have l4 : (y :: ys').length ≤ d' := HR.out.2.1.c
        clear hc hc2
        cases e1 : (x == y) with
        | true =>
          have HF : Hid (meetsB xs ys = true) := Lib.hid (by rw [← HR.out.2.2.2.2]; unfold meetsB; simp [meetsF, e1])
          go_upto_region 3 with fail
          go_quiet (fail)
          go_wp2_with fail
          go_ret
          exact ⟨by rw [HF.out]; rfl, below_drewN HB.out _⟩
        | false =>
          by_cases e2 : x < y
          · have HF : Hid (meetsB xs' (y :: ys') = meetsB xs ys) := Lib.hid (by
              rw [← HR.out.2.2.2.2]
              unfold meetsB
              rw [show (x :: xs').length + (y :: ys').length = (xs'.length + (y :: ys').length) + 1 by simp; omega]
              simp [meetsF, e1, e2])
            have HC : Hid (SetAt w w.heap.size (if c' = 1 then some ⟨b, o, none⟩ else some ⟨b, o + 1, none⟩, xs'.length, c' - 1) xs') := Lib.hid ⟨rfl, by simp at l3 ⊢; omega, HR.out.1.r.cut l3⟩
            go_upto_region 3 with fail
            go_quiet (fail)
            obtain ⟨w5, hw5⟩ : ∃ w5, w5 = wr.drewN nq := ⟨_, rfl⟩
            rw [← hw5]
            have HB5 : Hid (Below w.heap.size w w5) := Lib.hid (by rw [hw5]; exact below_drewN HB.out _)
            clear hw5 c0 c1
            have c0 : ∀ j, (w5.drewN j).cell? ⟨b, o, none⟩ = some (.int .i64 x) := fun j => ((below_drewN HB5.out j).cell (p := ⟨b, o, none⟩) hb).trans HC0.out.1
            have c1 : ∀ j, (w5.drewN j).cell? ⟨b2, o2, none⟩ = some (.int .i64 y) := fun j => ((below_drewN HB5.out j).cell (p := ⟨b2, o2, none⟩) hb2).trans HC0.out.2
            go_upto_region 5 with fail
            go_quiet (fail)
            obtain ⟨w6, hw6⟩ : ∃ w6, w6 = w5.drewN nq := ⟨_, rfl⟩
            rw [← hw6]
            have HB6 : Hid (Below w.heap.size w w6) := Lib.hid (by rw [hw6]; exact below_drewN HB5.out _)
            clear hw6 c0 c1
            go_wp2_with fail
            go_roundw
            case rel => exact ⟨_, _, xs', _, _, y :: ys', rfl, rfl, HB6, Lib.hid ⟨HC.out, HR.out.2.1, by have := HR.out.2.2.1; simp at this; omega, HR.out.2.2.2.1, HF.out⟩⟩
            case measure => simp [slN]
          · have HF : Hid (meetsB (x :: xs') ys' = meetsB xs ys) := Lib.hid (by
              rw [← HR.out.2.2.2.2]
              unfold meetsB
              rw [show (x :: xs').length + (y :: ys').length = ((x :: xs').length + ys'.length) + 1 by simp; omega]
              simp [meetsF, e1, e2])
            have HC : Hid (SetAt w w.heap.size (if d' = 1 then some ⟨b2, o2, none⟩ else some ⟨b2, o2 + 1, none⟩, ys'.length, d' - 1) ys') := Lib.hid ⟨rfl, by simp at l4 ⊢; omega, HR.out.2.1.r.cut l4⟩
            go_upto_region 3 with fail
            go_quiet (fail)
            obtain ⟨w5, hw5⟩ : ∃ w5, w5 = wr.drewN nq := ⟨_, rfl⟩
            rw [← hw5]
            have HB5 : Hid (Below w.heap.size w w5) := Lib.hid (by rw [hw5]; exact below_drewN HB.out _)
            clear hw5 c0 c1
            have c0 : ∀ j, (w5.drewN j).cell? ⟨b, o, none⟩ = some (.int .i64 x) := fun j => ((below_drewN HB5.out j).cell (p := ⟨b, o, none⟩) hb).trans HC0.out.1
            have c1 : ∀ j, (w5.drewN j).cell? ⟨b2, o2, none⟩ = some (.int .i64 y) := fun j => ((below_drewN HB5.out j).cell (p := ⟨b2, o2, none⟩) hb2).trans HC0.out.2
            go_upto_region 5 with fail
            go_quiet (fail)
            obtain ⟨w6, hw6⟩ : ∃ w6, w6 = w5.drewN nq := ⟨_, rfl⟩
            rw [← hw6]
            have HB6 : Hid (Below w.heap.size w w6) := Lib.hid (by rw [hw6]; exact below_drewN HB5.out _)
            clear hw6 c0 c1
            go_wp2_with fail
            go_roundw
            case rel => exact ⟨_, _, x :: xs', _, _, ys', rfl, rfl, HB6, Lib.hid ⟨HR.out.1, HC.out, HR.out.2.2.1, by have := HR.out.2.2.2.1; simp at this; omega, HF.out⟩⟩
            case measure => simp [slN]
end Go.Proofs.YtmjdhfbnmmdjiaaDoor

/- A function asked of each element: the library's ContainsFunc, at numbers and at sets. -/
namespace Go.Proofs.YtmjdhfbnmmdjiaaDoor
open Go.RowKit

/-- A closure over one box, asked of a value. -/
def Asks (w : World) (K : FuncId) (cap : Value) (v : Value) (p : Bool) : Prop := ∀ w', Below w.heap.size w w' → Calls Tryd.prog K #[v, cap] w' fun e w'' => e = .returned (.bool p) ∧ Below w'.heap.size w' w''

theorem any_take {α : Type} {p : α → Bool} {xs : List α} {i : Nat} {x : α} (hx : xs[i]? = some x) (h : (xs.take i).any p = false) : (xs.take (i + 1)).any p = p x := by
  rw [List.take_add_one, hx, List.any_append, h]
  simp

set_option maxRecDepth 100000 in
set_option maxHeartbeats 8000000 in
theorem idxI_any (K : FuncId) (cap : Value) (eg : ∀ args w, (callFunc K args).run Tryd.prog w = .ok (.enter K args) w) (p : Int → Bool) (A : Option Addr) (c : Nat) (xs : List Int) (w : World) (hx : ReadI w w.heap.size A xs) (hl : xs.length ≤ 1000000) (hp : ∀ x ∈ xs, Asks w K cap (.int .i64 x) (p x)) :
    Calls Tryd.prog 21 #[.slice A xs.length c, .func (.func K) #[] #[cap]] w fun e w' => (∃ k : Int, e = .returned (.int .i64 k) ∧ decide (0 ≤ k) = xs.any p ∧ (k < 0 → k = -1)) ∧ Below w.heap.size w w' := by
  have H := Lib.hid hx
  have HP := Lib.hid hp
  clear hx hp
  go_enter Tryd.func21, Tryd.ntmps21
  go_upto_region 2 with fail
  go_loopw [5, 8] (fun _ s8 wr => ∃ i : Nat, s8 = .int .i64 i ∧ i ≤ xs.length ∧ Hid ((xs.take i).any p = false ∧ Below w.heap.size w wr)) (fun _ s8 _ => xs.length - (Lib.intOf s8).toNat)
  case atStart => exact ⟨0, rfl, Nat.zero_le _, Lib.hid ⟨rfl, Below.refl _ _⟩⟩
  case round =>
    obtain ⟨i, rfl, hi, HR⟩ := hrel
    by_cases hl2 : i < xs.length
    · obtain ⟨x, hx⟩ := getq_ex hl2
      obtain ⟨b, o, rfl, hb, hc⟩ := ReadL.below H.out HR.out.2 (fun e => by rw [e] at hx; simp at hx)
      have c0 : wr.cell? ⟨b, o + i, none⟩ = some (.int .i64 x) := by
        have := hc i x hx 0 _ rfl
        rwa [Nat.mul_one, Nat.add_zero] at this
      have HQ := Lib.hid (HP.out x (List.mem_of_getElem? hx) wr HR.out.2)
      have HX := Lib.hid hx
      have hwi : IntKind.i64.wrap ((i : Int) + 1) = ((i + 1 : Nat) : Int) := IntWalk.i64_in _ (by omega)
      clear hc hx
      go_wp2_with fail
      refine HQ.out.mono ?_
      rintro e w1 ⟨rfl, hb1⟩
      have HB1 := Lib.hid (ext_trans HR.out.2 hb1)
      clear hb1
      cases hpx : p x with
      | true =>
        have HA : Hid (xs.any p = true) := Lib.hid (List.any_eq_true.2 ⟨x, List.mem_of_getElem? HX.out, hpx⟩)
        clear hpx
        go_wp2_with fail
        go_ret
        exact ⟨⟨i, rfl, by rw [HA.out]; exact decide_eq_true (by omega), fun h => by omega⟩, HB1.out⟩
      | false =>
        have HA : Hid ((xs.take (i + 1)).any p = false) := Lib.hid (by rw [any_take HX.out HR.out.1, hpx])
        clear hpx
        go_wp2_with fail
        go_roundw
        case rel => exact ⟨i + 1, rfl, hl2, Lib.hid ⟨HA.out, HB1.out⟩⟩
        case measure => simp [Lib.intOf]; omega
    · go_wp2_with fail
      go_ret
      refine ⟨⟨-1, rfl, ?_, fun _ => rfl⟩, HR.out.2⟩
      have := HR.out.1
      rw [List.take_of_length_le (by omega)] at this
      rw [this]
      rfl
set_option maxRecDepth 100000 in
set_option maxHeartbeats 8000000 in
theorem idxS_any (K : FuncId) (cap : Value) (eg : ∀ args w, (callFunc K args).run Tryd.prog w = .ok (.enter K args) w) (p : Nat → Bool) (A : Option Addr) (c : Nat) (xs : List (Option Addr × Nat × Nat)) (w : World) (hx : ReadS w w.heap.size A xs) (hl : xs.length ≤ 1000000) (hp : ∀ (i : Nat) v, xs[i]? = some v → Asks w K cap (.slice v.1 v.2.1 v.2.2) (p i)) :
    Calls Tryd.prog 20 #[.slice A xs.length c, .func (.func K) #[] #[cap]] w fun e w' => (∃ k : Int, e = .returned (.int .i64 k) ∧ decide (0 ≤ k) = (List.range xs.length).any p ∧ (k < 0 → k = -1)) ∧ Below w.heap.size w w' := by
  have H := Lib.hid hx
  have HP := Lib.hid hp
  clear hx hp
  go_enter Tryd.func20, Tryd.ntmps20
  go_upto_region 2 with fail
  go_loopw [5, 8] (fun _ s8 wr => ∃ i : Nat, s8 = .int .i64 i ∧ i ≤ xs.length ∧ Hid ((List.range i).any p = false ∧ Below w.heap.size w wr)) (fun _ s8 _ => xs.length - (Lib.intOf s8).toNat)
  case atStart => exact ⟨0, rfl, Nat.zero_le _, Lib.hid ⟨rfl, Below.refl _ _⟩⟩
  case round =>
    obtain ⟨i, rfl, hi, HR⟩ := hrel
    by_cases hl2 : i < xs.length
    · obtain ⟨x, hx⟩ := getq_ex hl2
      obtain ⟨b, o, rfl, hb, hc⟩ := ReadL.below H.out HR.out.2 (fun e => by rw [e] at hx; simp at hx)
      have c0 : wr.cell? ⟨b, o + i, none⟩ = some (.slice x.1 x.2.1 x.2.2) := by
        have := hc i x hx 0 _ rfl
        rwa [Nat.mul_one, Nat.add_zero] at this
      have HQ := Lib.hid (HP.out i x hx wr HR.out.2)
      have HX := Lib.hid hx
      have hwi : IntKind.i64.wrap ((i : Int) + 1) = ((i + 1 : Nat) : Int) := IntWalk.i64_in _ (by omega)
      clear hc hx
      go_wp2_with fail
      refine HQ.out.mono ?_
      rintro e w1 ⟨rfl, hb1⟩
      have HB1 := Lib.hid (ext_trans HR.out.2 hb1)
      clear hb1
      cases hpx : p i with
      | true =>
        have HA : Hid ((List.range xs.length).any p = true) := Lib.hid (List.any_eq_true.2 ⟨i, List.mem_range.2 hl2, hpx⟩)
        clear hpx
        go_wp2_with fail
        go_ret
        exact ⟨⟨i, rfl, by rw [HA.out]; exact decide_eq_true (by omega), fun h => by omega⟩, HB1.out⟩
      | false =>
        have HA : Hid ((List.range (i + 1)).any p = false) := Lib.hid (by rw [List.range_succ, List.any_append, HR.out.1]; simp [hpx])
        clear hpx
        go_wp2_with fail
        go_roundw
        case rel => exact ⟨i + 1, rfl, hl2, Lib.hid ⟨HA.out, HB1.out⟩⟩
        case measure => simp [Lib.intOf]; omega
    · go_wp2_with fail
      go_ret
      refine ⟨⟨-1, rfl, ?_, fun _ => rfl⟩, HR.out.2⟩
      have := HR.out.1
      rw [show i = xs.length by omega] at this
      rw [this]
      rfl

set_option maxRecDepth 100000 in
set_option maxHeartbeats 8000000 in
theorem consI_any (K : FuncId) (cap : Value) (eg : ∀ args w, (callFunc K args).run Tryd.prog w = .ok (.enter K args) w) (p : Int → Bool) (A : Option Addr) (c : Nat) (xs : List Int) (w : World) (hx : ReadI w w.heap.size A xs) (hl : xs.length ≤ 1000000) (hp : ∀ x ∈ xs, Asks w K cap (.int .i64 x) (p x)) :
    Calls Tryd.prog 14 #[.slice A xs.length c, .func (.func K) #[] #[cap]] w fun e w' => e = .returned (.bool (xs.any p)) ∧ Below w.heap.size w w' := by
  have H := Lib.hid (idxI_any K cap eg p A c xs w hx hl hp)
  clear hx hl hp
  go_enter Tryd.func14, Tryd.ntmps14
  go_wp2_with fail
  refine H.out.mono ?_
  rintro e w1 ⟨⟨k, rfl, hk, _⟩, hb⟩
  go_wp2_with fail
  go_ret
  exact ⟨ret_bool (by rw [← hk]), hb⟩

set_option maxRecDepth 100000 in
set_option maxHeartbeats 8000000 in
theorem consS_any (K : FuncId) (cap : Value) (eg : ∀ args w, (callFunc K args).run Tryd.prog w = .ok (.enter K args) w) (p : Nat → Bool) (A : Option Addr) (c : Nat) (xs : List (Option Addr × Nat × Nat)) (w : World) (hx : ReadS w w.heap.size A xs) (hl : xs.length ≤ 1000000) (hp : ∀ (i : Nat) v, xs[i]? = some v → Asks w K cap (.slice v.1 v.2.1 v.2.2) (p i)) :
    Calls Tryd.prog 12 #[.slice A xs.length c, .func (.func K) #[] #[cap]] w fun e w' => e = .returned (.bool ((List.range xs.length).any p)) ∧ Below w.heap.size w w' := by
  have H := Lib.hid (idxS_any K cap eg p A c xs w hx hl hp)
  clear hx hl hp
  go_enter Tryd.func12, Tryd.ntmps12
  go_wp2_with fail
  refine H.out.mono ?_
  rintro e w1 ⟨⟨k, rfl, hk, _⟩, hb⟩
  go_wp2_with fail
  go_ret
  exact ⟨ret_bool (by rw [← hk]), hb⟩

theorem ReadI.cells {w : World} {B b o : Nat} {xs : List Int} (h : ReadI w B (some ⟨b, o, none⟩) xs) (hne : xs ≠ []) : b < B ∧ ∀ j, j < xs.length → w.cell? ⟨b, o + j, none⟩ = some (.int .i64 (xs.getD j 0)) := by
  obtain ⟨b', o', e, hb, hc⟩ := h hne
  injection e with e
  injection e with e1 e2
  subst e1 e2
  refine ⟨hb, fun j hj => ?_⟩
  have := hc j xs[j] (List.getElem?_eq_getElem hj) 0 _ rfl
  rw [Nat.mul_one, Nat.add_zero] at this
  rw [this]
  simp [List.getD_eq_getElem?_getD, List.getElem?_eq_getElem hj]
/-- The library's Contains at numbers. -/
theorem contI_any (A : Option Addr) (c : Nat) (xs : List Int) (x : Int) (w : World) (hx : ReadI w w.heap.size A xs) (hl : xs.length ≤ 1000000) :
    Calls Tryd.prog 16 #[.slice A xs.length c, .int .i64 x] w fun e w' => e = .returned (.bool (xs.contains x)) ∧ w' = w := by
  cases xs with
  | nil =>
    refine (Tryd.slices_Contains_int_empty A c x w).mono ?_
    rintro e w' ⟨rfl, rfl⟩
    exact ⟨rfl, rfl⟩
  | cons y ys =>
    obtain ⟨b, o, rfl, _, _⟩ := ReadI.at0 hx
    refine (Tryd.slices_Contains_int b o (y :: ys).length c (y :: ys) x w (Nat.le_refl _) (by omega) (ReadI.cells hx (by simp)).2).mono ?_
    rintro e w' ⟨rfl, rfl⟩
    rw [List.take_length]
    exact ⟨rfl, rfl⟩

/-- A box that holds a slice. -/
def BoxS (w : World) (b : Nat) (A : Option Addr) (n c : Nat) : Prop := w.cell? ⟨b, 0, none⟩ = some (.slice A n c) ∧ b < w.heap.size
theorem BoxS.later {w w' : World} {b n c : Nat} {A : Option Addr} (h : BoxS w b A n c) (hb : Below w.heap.size w w') : BoxS w' b A n c := ⟨(hb.cell (p := ⟨b, 0, none⟩) h.2).trans h.1, Nat.lt_of_lt_of_le h.2 hb.size⟩

/-- Is all of a set in another one? -/
def partB (xs ys : List Int) : Bool := !(xs.any fun x => !ys.contains x)

set_option maxRecDepth 100000 in
set_option maxHeartbeats 8000000 in
theorem isPart1_any (x : Int) (bt : Nat) (B : Option Addr) (d : Nat) (ys : List Int) (w : World) (hbx : BoxS w bt B ys.length d) (hy : ReadI w w.heap.size B ys) (hm : ys.length ≤ 1000000) :
    Calls Tryd.prog 61 #[.int .i64 x, .pointer (some ⟨bt, 0, none⟩)] w fun e w' => e = .returned (.bool (!ys.contains x)) ∧ Below w.heap.size w w' := by
  have H := Lib.hid (contI_any B d ys x w hy hm)
  have c0 := hbx.1
  clear hbx hy hm
  go_enter Tryd.func61, Tryd.ntmps61
  go_wp2_with fail
  refine H.out.mono ?_
  rintro e w1 ⟨rfl, rfl⟩
  go_wp2_with fail
  go_ret
  exact ⟨ret_bool (by simp), Below.refl _ _⟩

theorem eg_isPart1 : ∀ args w, (callFunc 61 args).run Tryd.prog w = .ok (.enter 61 args) w := fun _ _ => by kernel_rfl

set_option maxRecDepth 100000 in
set_option maxHeartbeats 8000000 in
theorem isPart_any (A : Option Addr) (c : Nat) (xs : List Int) (B : Option Addr) (d : Nat) (ys : List Int) (w : World) (hx : ReadI w w.heap.size A xs) (hy : ReadI w w.heap.size B ys) (hl : xs.length ≤ 1000000) (hm : ys.length ≤ 1000000) :
    Calls Tryd.prog 51 #[.slice A xs.length c, .slice B ys.length d] w fun e w' => e = .returned (.bool (partB xs ys)) ∧ Below w.heap.size w w' := by
  have hmf : ∀ (fn : Fn) (first cap : Array Value) (w : World), (Instr.makeFunc fn first cap).run Tryd.prog w = .ok (.func fn first cap) w := fun _ _ _ _ => rfl
  obtain ⟨w1, hw1⟩ : ∃ w1, w1 = w.alloc (.cells #[.slice B ys.length d] 29) := ⟨_, rfl⟩
  have hb1 : Below w.heap.size w w1 := by rw [hw1]; exact ext_alloc (Below.refl _ _) _
  have hbox : BoxS w1 w.heap.size B ys.length d := by rw [hw1]; exact ⟨by simp, by simp⟩
  have H := Lib.hid (consI_any 61 (.pointer (some ⟨w.heap.size, 0, none⟩)) eg_isPart1 (fun x => !ys.contains x) A c xs w1 ((ReadL.below hx hb1).more hb1.size) hl fun x _ w' hb => isPart1_any x w.heap.size B d ys w' (hbox.later hb) (ReadL.more (ReadL.below (ReadL.below hy hb1) (hb.mono hb1.size)) (Nat.le_trans hb1.size hb.size)) hm)
  have HB := Lib.hid hb1
  clear hx hy hl hm hbox hb1
  go_enter Tryd.func51, Tryd.ntmps51
  go_upto_region 1 with fail
  rw [← hw1]
  clear hw1
  go_wp2_with fail
  refine H.out.mono ?_
  rintro e w2 ⟨rfl, hb⟩
  go_wp2_with fail
  go_ret
  exact ⟨ret_bool (by unfold partB; simp), ext_trans HB.out hb⟩
end Go.Proofs.YtmjdhfbnmmdjiaaDoor

/- Sets in order: the library's Compare and SortFunc, at sets. -/
namespace Go.Proofs.YtmjdhfbnmmdjiaaDoor
open Go.RowKit

/-- Which of two rows comes first. -/
def cmpL : List Int → List Int → Int
  | [], [] => 0
  | [], _ :: _ => -1
  | _ :: _, [] => 1
  | x :: xs, y :: ys => if x < y then -1 else if y < x then 1 else cmpL xs ys
theorem cmpL_anti : ∀ xs ys : List Int, cmpL ys xs = - cmpL xs ys
  | [], [] => rfl
  | [], _ :: _ => rfl
  | _ :: _, [] => rfl
  | x :: xs, y :: ys => by
    have := cmpL_anti xs ys
    simp only [cmpL]
    by_cases h1 : x < y
    · rw [if_pos h1, if_neg (by omega), if_pos h1]; rfl
    · by_cases h2 : y < x
      · rw [if_pos h2, if_neg h1, if_pos h2]
      · rw [if_neg h2, if_neg h1, if_neg h1, if_neg h2, this]
theorem cmpL_zero : ∀ xs ys : List Int, cmpL xs ys = 0 → xs = ys
  | [], [], _ => rfl
  | [], _ :: _, h => by simp [cmpL] at h
  | _ :: _, [], h => by simp [cmpL] at h
  | x :: xs, y :: ys, h => by
    simp only [cmpL] at h
    by_cases h1 : x < y
    · rw [if_pos h1] at h; omega
    · by_cases h2 : y < x
      · rw [if_neg h1, if_pos h2] at h; omega
      · rw [if_neg h1, if_neg h2] at h
        rw [cmpL_zero xs ys h, show x = y by omega]
theorem cmpL_self (xs : List Int) : cmpL xs xs = 0 := by
  have := cmpL_anti xs xs
  omega
theorem cmpL_trans : ∀ xs ys zs : List Int, cmpL xs ys ≤ 0 → cmpL ys zs ≤ 0 → cmpL xs zs ≤ 0
  | [], _, [], _, _ => by simp [cmpL]
  | [], _, _ :: _, _, _ => by simp [cmpL]
  | _ :: _, [], _, h, _ => by simp [cmpL] at h
  | _ :: _, _ :: _, [], _, h => by simp [cmpL] at h
  | x :: xs, y :: ys, z :: zs, h, k => by
    have ih := cmpL_trans xs ys zs
    simp only [cmpL] at h k ⊢
    by_cases h1 : x < y
    · by_cases k1 : y < z
      · rw [if_pos (by omega)]; omega
      · by_cases k2 : z < y
        · rw [if_neg k1, if_pos k2] at k; omega
        · rw [if_pos (by omega)]; omega
    · by_cases h2 : y < x
      · rw [if_neg h1, if_pos h2] at h; omega
      · rw [if_neg h1, if_neg h2] at h
        by_cases k1 : y < z
        · rw [if_pos (by omega)]; omega
        · by_cases k2 : z < y
          · rw [if_neg k1, if_pos k2] at k; omega
          · rw [if_neg k1, if_neg k2] at k
            rw [if_neg (by omega), if_neg (by omega)]
            exact ih h k
def setQ (xss : List (List Int)) (i : Nat) : List Int := (xss[i]?).getD []
theorem setQ_at {xss : List (List Int)} {i : Nat} {xs : List Int} (h : xss[i]? = some xs) : setQ xss i = xs := by unfold setQ; rw [h]; rfl
def cfL (xss : List (List Int)) (n : Nat) (i j : Fin n) : Int := cmpL (setQ xss i.val) (setQ xss j.val)
theorem ltOf_cfL (xss : List (List Int)) (n : Nat) (i j : Fin n) : ltOf (cfL xss n) i j = decide (cmpL (setQ xss i.val) (setQ xss j.val) < 0) := by
  unfold ltOf cfL
  rfl
theorem swoL (xss : List (List Int)) (n : Nat) : Go.Sort.SWO (ltOf (cfL xss n)) where
  irrefl x := by rw [ltOf_cfL, cmpL_self]; rfl
  trans x y z h k := by
    rw [ltOf_cfL, decide_eq_true_eq] at *
    have h1 := cmpL_trans _ _ _ (Int.le_of_lt h) (Int.le_of_lt k)
    rcases Int.lt_or_eq_of_le h1 with h2 | h2
    · exact h2
    · exfalso
      have e := cmpL_zero _ _ h2
      rw [← e] at k
      rw [cmpL_anti] at k
      omega
  ntrans x y z h k := by
    rw [ltOf_cfL, decide_eq_false_iff_not] at *
    have h' : cmpL (setQ xss y.val) (setQ xss x.val) ≤ 0 := by rw [cmpL_anti]; omega
    have k' : cmpL (setQ xss z.val) (setQ xss y.val) ≤ 0 := by rw [cmpL_anti]; omega
    have := cmpL_trans _ _ _ k' h'
    rw [cmpL_anti] at this
    omega

theorem cmpL_drop {xs ys : List Int} {i : Nat} {x y : Int} (hx : xs[i]? = some x) (hy : ys[i]? = some y) : cmpL (xs.drop i) (ys.drop i) = if x < y then -1 else if y < x then 1 else cmpL (xs.drop (i + 1)) (ys.drop (i + 1)) := by
  obtain ⟨h1, rfl⟩ := List.getElem?_eq_some_iff.1 hx
  obtain ⟨h2, rfl⟩ := List.getElem?_eq_some_iff.1 hy
  rw [List.drop_eq_getElem_cons h1, List.drop_eq_getElem_cons h2]
  rfl

theorem cellI {w : World} {B : Nat} {A : Option Addr} {xs : List Int} (h : ReadI w B A xs) {i : Nat} {x : Int} (hx : xs[i]? = some x) : ∃ b o, A = some ⟨b, o, none⟩ ∧ b < B ∧ w.cell? ⟨b, o + i, none⟩ = some (.int .i64 x) := by
  obtain ⟨b, o, e, hb, hc⟩ := h (fun e => by rw [e] at hx; simp at hx)
  refine ⟨b, o, e, hb, ?_⟩
  have := hc i x hx 0 _ rfl
  rwa [Nat.mul_one, Nat.add_zero] at this

set_option maxRecDepth 100000 in
set_option maxHeartbeats 8000000 in
theorem compareL_any (A : Option Addr) (c : Nat) (xs : List Int) (B : Option Addr) (d : Nat) (ys : List Int) (w : World) (hx : ReadI w w.heap.size A xs) (hy : ReadI w w.heap.size B ys) (hl : xs.length ≤ 1000000) (_hm : ys.length ≤ 1000000) :
    Calls Tryd.prog 43 #[.slice A xs.length c, .slice B ys.length d] w fun e w' => e = .returned (.int .i64 (cmpL xs ys)) ∧ w' = w := by
  have H := Lib.hid (And.intro hx hy)
  clear hx hy
  go_enter Tryd.func43, Tryd.ntmps43
  go_upto_region 2 with fail
  go_loopw [5, 6, 7, 8, 11] (fun _ _ _ _ s11 wr => ∃ i : Nat, s11 = .int .i64 i ∧ i ≤ xs.length ∧ wr = w ∧ Hid (i ≤ ys.length ∧ cmpL (xs.drop i) (ys.drop i) = cmpL xs ys)) (fun _ _ _ _ s11 _ => xs.length - (Lib.intOf s11).toNat)
  case atStart => exact ⟨0, rfl, Nat.zero_le _, rfl, Lib.hid ⟨Nat.zero_le _, rfl⟩⟩
  case round =>
    obtain ⟨i, rfl, hi, rfl, HR⟩ := hrel
    by_cases hl2 : i < xs.length
    · obtain ⟨x, hx⟩ := getq_ex hl2
      obtain ⟨b, o, rfl, _, c0⟩ := cellI H.out.1 hx
      by_cases hl3 : i < ys.length
      · obtain ⟨y, hy⟩ := getq_ex hl3
        obtain ⟨b2, o2, rfl, _, c1⟩ := cellI H.out.2 hy
        have HD := Lib.hid (cmpL_drop hx hy)
        have hwi : IntKind.i64.wrap ((i : Int) + 1) = ((i + 1 : Nat) : Int) := IntWalk.i64_in _ (by omega)
        have Hc := Lib.hid (Tryd.cmp_Compare_int x y wr)
        clear hx hy
        by_cases e1 : x < y
        · have e0 : Lib.compareInt x y = -1 := by unfold Lib.compareInt; rw [if_pos e1]
          rw [e0] at Hc
          have HF : Hid (cmpL xs ys = -1) := Lib.hid (by rw [← HR.out.2, HD.out, if_pos e1])
          clear e0 e1
          go_wp2_with fail
          refine Hc.out.mono ?_
          rintro e w1 ⟨rfl, rfl⟩
          go_wp2_with fail
          go_ret
          exact ⟨by rw [HF.out]; rfl, by first | rfl | trivial⟩
        · by_cases e2 : y < x
          · have e0 : Lib.compareInt x y = 1 := by unfold Lib.compareInt; rw [if_neg e1, if_pos e2]
            rw [e0] at Hc
            have HF : Hid (cmpL xs ys = 1) := Lib.hid (by rw [← HR.out.2, HD.out, if_neg e1, if_pos e2])
            clear e0 e1 e2
            go_wp2_with fail
            refine Hc.out.mono ?_
            rintro e w1 ⟨rfl, rfl⟩
            go_wp2_with fail
            go_ret
            exact ⟨by rw [HF.out]; rfl, by first | rfl | trivial⟩
          · have e0 : Lib.compareInt x y = 0 := by unfold Lib.compareInt; rw [if_neg e1, if_neg e2]
            rw [e0] at Hc
            have HF : Hid (i + 1 ≤ ys.length ∧ cmpL (xs.drop (i + 1)) (ys.drop (i + 1)) = cmpL xs ys) := Lib.hid ⟨hl3, by rw [← HR.out.2, HD.out, if_neg e1, if_neg e2]⟩
            clear e0 e1 e2
            go_wp2_with fail
            refine Hc.out.mono ?_
            rintro e w1 ⟨rfl, rfl⟩
            go_wp2_with fail
            go_roundw
            case rel => exact ⟨i + 1, rfl, hl2, trivial, HF⟩
            case measure => simp [Lib.intOf]; omega
      · have HF : Hid (cmpL xs ys = 1) := Lib.hid (by
          rw [← HR.out.2, List.drop_of_length_le (l := ys) (by omega), List.drop_eq_getElem_cons hl2]
          rfl)
        clear hx
        go_wp2_with fail
        go_ret
        exact ⟨by rw [HF.out]; rfl, by first | rfl | trivial⟩
    · by_cases hl3 : xs.length < ys.length
      · have HF : Hid (cmpL xs ys = -1) := Lib.hid (by
          rw [← HR.out.2, List.drop_of_length_le (l := xs) (by omega), List.drop_eq_getElem_cons (show i < ys.length by omega)]
          rfl)
        go_wp2_with fail
        go_ret
        exact ⟨by rw [HF.out]; rfl, by first | rfl | trivial⟩
      · have HF : Hid (cmpL xs ys = 0) := Lib.hid (by
          have := HR.out.1
          rw [← HR.out.2, List.drop_of_length_le (l := xs) (by omega), List.drop_of_length_le (l := ys) (by omega)]
          rfl)
        go_wp2_with fail
        go_ret
        exact ⟨by rw [HF.out]; rfl, by first | rfl | trivial⟩

/-- A row of sets that a call owns. -/
abbrev OwnR (w : World) (base : Nat) (A : Option Addr) (cap : Nat) (l : List (Option Addr × Nat × Nat)) : Prop := OwnL 29 1 encS w base A cap l
section
variable {α : Type} [Inhabited α] (enc : α → Value) (w : World) (g m : Nat) (d : Array α) (os : Array Obj)

theorem sortWorld_grown : w.grownBy (sortWorld enc w g 0 m d os) (some g) where
  os := rfl
  tape := rfl
  output := rfl
  size := by
    show w.heap.size ≤ ((Go.Sort.putRow enc (Go.Sort.ahead w m) g 0 d).heap ++ os).size
    rw [Array.size_append]
    show w.heap.size ≤ (w.heap.modify g _).size + _
    rw [Array.size_modify]
    omega
  block k hk hne := by
    show ((w.heap.modify g _) ++ os)[k]? = w.heap[k]?
    rw [Array.getElem?_append_left (by rw [Array.size_modify]; exact hk), Array.getElem?_modify, if_neg (fun e => hne (by rw [e]))]

theorem sortWorld_block {c : Array Value} {e : TypeId} {fr : Nat × Nat} (h : w.heap[g]? = some (.cells c e fr)) : (sortWorld enc w g 0 m d os).heap[g]? = some (.cells (Go.Sort.putCells enc 0 d c) e fr) := by
  have hk := lt_of_block h
  show ((w.heap.modify g _) ++ os)[g]? = _
  rw [Array.getElem?_append_left (by rw [Array.size_modify]; exact hk), Array.getElem?_modify, if_pos rfl, h]
  rfl
end

def vq (vs : List (Option Addr × Nat × Nat)) (i : Nat) : Option Addr × Nat × Nat := (vs[i]?).getD (none, 0, 0)
theorem vq_at {vs : List (Option Addr × Nat × Nat)} {i : Nat} (h : i < vs.length) : vs[i]? = some (vq vs i) := by
  unfold vq
  rw [List.getElem?_eq_getElem h]
  rfl
def encV (vs : List (Option Addr × Nat × Nat)) {n : Nat} (i : Fin n) : Value := .slice (vq vs i.val).1 (vq vs i.val).2.1 (vq vs i.val).2.2

theorem flatMap_encS (l : List (Option Addr × Nat × Nat)) : l.flatMap encS = l.map fun v => Value.slice v.1 v.2.1 v.2.2 := by
  induction l with
  | nil => rfl
  | cons a l ih => rw [List.flatMap_cons, ih]; rfl

theorem OwnL.sortedV {n : Nat} {w : World} {base g cap : Nat} {vs : List (Option Addr × Nat × Nat)} (h : OwnR w base (some ⟨g, 0, none⟩) cap vs) (hL : vs.length = n) [Inhabited (Fin n)] (d : Array (Fin n)) (hd : d.size = n) (m : Nat) (os : Array Obj) :
    OwnR (sortWorld (encV vs) w g 0 m d os) base (some ⟨g, 0, none⟩) cap ((d.toList.map Fin.val).map (vq vs)) := by
  have hl2 : ((d.toList.map Fin.val).map (vq vs)).length = vs.length := by simp [hd, hL]
  have h' : w.ownsRow base 29 1 (.slice (some ⟨g, 0, none⟩) vs.length cap) vs.length (vs.flatMap encS) := h
  show (sortWorld (encV vs) w g 0 m d os).ownsRow base 29 1 (.slice (some ⟨g, 0, none⟩) ((d.toList.map Fin.val).map (vq vs)).length cap) ((d.toList.map Fin.val).map (vq vs)).length (((d.toList.map Fin.val).map (vq vs)).flatMap encS)
  rw [hl2]
  rcases h'.2 with ⟨hv, hn⟩ | ⟨g', cap', cur, hv, hbg, hg, hnc, hcm, hcs, htake⟩
  · cases hv
  · injection hv with hA' hl hc'
    injection hA' with hA'
    injection hA' with hA1
    subst hA1 hc'
    refine ⟨by rw [flatMap_len encS_len, hl2], .inr ⟨g, cap, _, rfl, hbg, sortWorld_block (encV vs) w g m d os hg, hnc, hcm, by simp [Go.Sort.putCells]; omega, ?_⟩⟩
    apply List.ext_getElem?
    intro k
    by_cases hk : k < n
    · rw [List.getElem?_take_of_lt (by omega)]
      have hkc : k < cur.size := by omega
      have hkd : k < d.size := by omega
      rw [flatMap_encS]
      simp only [Go.Sort.putCells, Array.getElem?_toList, Array.getElem?_mapIdx, Array.getElem?_eq_getElem hkc, Option.map_some, List.getElem?_map, Array.getElem?_eq_getElem hkd]
      rw [if_pos ⟨Nat.zero_le _, by omega⟩, Nat.sub_zero, getElem!_pos d k hkd]
      rfl
    · rw [List.getElem?_eq_none (by rw [List.length_take]; omega), List.getElem?_eq_none (by rw [flatMap_len encS_len, hl2]; omega)]

set_option maxHeartbeats 1000000 in
theorem sortL_any (vs : List (Option Addr × Nat × Nat)) (xss : List (List Int)) (n g cap base B : Nat) (w : World) (hn : vs.length = n) (hn6 : n ≤ 1000000) (hS : SetsAt w B vs xss) (hB : B ≤ w.heap.size) (hsm : ∀ xs ∈ xss, xs.length ≤ 1000000)
    (hoff : ∀ q ∈ vs, Off (some ⟨g, 0, none⟩) q.1) (hown : OwnR w base (some ⟨g, 0, none⟩) cap vs) :
    Calls Tryd.prog 42 #[.slice (some ⟨g, 0, none⟩) n cap, .func (.func 43) #[] #[]] w fun e w' => e = .returned (.tuple #[]) ∧
      ∃ os : List Nat, os.Perm (List.range n) ∧ os.Pairwise (fun i j => ¬ cmpL (setQ xss j) (setQ xss i) < 0) ∧ OwnR w' base (some ⟨g, 0, none⟩) cap (os.map (vq vs)) ∧ w.grownBy w' (some g) := by
  match n, hn, hn6, hown with
  | 0, hn, _, hown =>
    refine (Tryd.slices_SortFunc_none (α := Nat) (some ⟨g, 0, none⟩) cap _ w).mono ?_
    rintro e w' ⟨rfl, rfl⟩
    have hv : vs = [] := List.eq_nil_of_length_eq_zero hn
    subst hv
    exact ⟨rfl, [], by simp, .nil, hown, ⟨rfl, rfl, rfl, Nat.le_refl _, fun _ _ _ => rfl⟩⟩
  | n + 1, hn, hn6, hown =>
    have hglt := (OwnL.block hown g rfl).2
    have hd : (List.finRange (n + 1)).toArray.size = n + 1 := by simp
    have hdl : ∀ j (hj : j < n + 1), (List.finRange (n + 1)).toArray[j]! = ⟨j, hj⟩ := fun j hj => by
      rw [getElem!_pos _ j (by simpa using hj)]
      simp
    have htl : xss.length = n + 1 := by rw [← hS.1]; exact hn
    have H := Tryd.slices_SortFunc (α := Fin (n + 1)) (encV vs) (fun _ => rfl) (cfL xss (n + 1)) (swoL xss _) 43 #[] g 0 cap (List.finRange (n + 1)).toArray w
      (enters_of Tryd.func43 (by kernel_rfl) rfl)
      (CmpReads.lays fun m os dk hdk x y => by
        rw [hd] at hdk
        have hgr := sortWorld_grown (encV vs) w g m dk os
        have hel : ∀ z : Fin (n + 1), ∃ xs, xss[z.val]? = some xs ∧ (vq vs z.val).2.1 = xs.length ∧ ReadI (sortWorld (encV vs) w g 0 m dk os) (sortWorld (encV vs) w g 0 m dk os).heap.size (vq vs z.val).1 xs := fun z => by
          have hzl : z.val < vs.length := by rw [hn]; exact z.isLt
          obtain ⟨xs, ht⟩ := getq_ex (show z.val < xss.length by rw [htl]; exact z.isLt)
          obtain ⟨h1, _, h2⟩ := hS.2 z.val _ xs (vq_at hzl) ht
          refine ⟨xs, ht, h1, ReadL.more (ReadL.grown (A := some ⟨g, 0, none⟩) (n := 0) (c := 0) h2 hB (by simpa [Value.ownBlock] using hgr) (hoff _ (List.mem_of_getElem? (vq_at hzl)))) (Nat.le_trans hB hgr.size)⟩
        obtain ⟨x1, hx1, hl1, hT1⟩ := hel x
        obtain ⟨x2, hx2, hl2, hT2⟩ := hel y
        have hc := compareL_any (vq vs x.val).1 (vq vs x.val).2.2 x1 (vq vs y.val).1 (vq vs y.val).2.2 x2 _ hT1 hT2 (hsm _ (List.mem_of_getElem? hx1)) (hsm _ (List.mem_of_getElem? hx2))
        show Calls _ _ #[.slice (vq vs x.val).1 (vq vs x.val).2.1 (vq vs x.val).2.2, .slice (vq vs y.val).1 (vq vs y.val).2.1 (vq vs y.val).2.2] _ fun e w' => e = .returned (.int .i64 (cmpL (setQ xss x.val) (setQ xss y.val))) ∧ _
        rw [setQ_at hx1, setQ_at hx2, hl1, hl2]
        exact hc.mono fun e w' h => ⟨h.1, 0, h.2⟩)
      (fun j hj => by
        rw [hd] at hj
        rw [hdl j hj]
        have hj2 : vs[j]? = some (vq vs j) := vq_at (by omega)
        obtain ⟨b, o, hA, _, hc⟩ := ReadL.slice (OwnL.read encS_len hown) hj2
        injection hA with hA
        injection hA with h1 h2 _
        subst h1 h2
        exact ⟨hc, by rw [Nat.zero_add]; exact World.ownsRow.frozenAt hown j⟩)
      hglt (by rw [hd]; omega)
    rw [hd] at H
    refine H.mono ?_
    rintro e w' ⟨rfl, d', k, os, ⟨hs, _, hperm⟩, hsorted, rfl⟩
    rw [hd] at hs
    refine ⟨rfl, d'.toList.map Fin.val, ?_, ?_, OwnL.sortedV hown hn d' hs k os, sortWorld_grown _ _ _ _ _ _⟩
    · have e1 : (d'.extract 0 (n + 1)).toList = d'.toList := by
        rw [Array.toList_extract, List.extract_eq_take_drop, Nat.sub_zero, List.drop_zero]
        exact List.take_of_length_le (by simp; omega)
      have e2 : ((List.finRange (n + 1)).toArray.extract 0 (n + 1)).toList = List.finRange (n + 1) := by
        rw [Array.toList_extract, List.extract_eq_take_drop, Nat.sub_zero, List.drop_zero]
        exact List.take_of_length_le (by simp)
      rw [e1, e2] at hperm
      refine (hperm.map Fin.val).trans (List.Perm.of_eq ?_)
      apply List.ext_getElem
      · simp
      · intro i h1 h2; simp
    · rw [List.pairwise_map, List.pairwise_iff_getElem]
      intro i j hi hj hij
      have hi' : i < d'.size := by simpa using hi
      have hj' : j < d'.size := by simpa using hj
      have := hsorted i j (Nat.zero_le _) hij (by omega)
      rw [ltOf_cfL, getElem!_pos d' i hi', getElem!_pos d' j hj'] at this
      simpa using this
end Go.Proofs.YtmjdhfbnmmdjiaaDoor

/- Rows of sets that a call makes. -/
namespace Go.Proofs.YtmjdhfbnmmdjiaaDoor
open Go.RowKit

theorem infoR : (Tryd.prog.info? 29).map (fun i => (i.zero, i.size, i.bytes)) = some (some (.slice none 0 0), 1, 24) := by kernel_rfl
theorem wpList_appR {w : World} {ops : Array Oper} {rest : List Oper} {o : Oper} {a : Act} {Q : Exit → Act → World → Prop} (hgd : o.guard = none) (s x : Operand)
    (ho : o.op = .call { callee := .builtin .append, args := #[s, x], argTypes := #[25, 25] })
    (base : Nat) {A : Option Addr} {cap : Nat} {l : List (Option Addr × Nat × Nat)} (hs : a.eval s = .slice A l.length cap) (hown : OwnR w base A cap l) {B : Nat} {A2 : Option Addr} {c : Nat} {l2 : List (Option Addr × Nat × Nat)} (hx : a.eval x = .slice A2 l2.length c) (hr : ReadS w B A2 l2)
    (hlen : l.length + l2.length ≤ 10000000) (hbase : base ≤ w.heap.size)
    (h : ∀ A' cap' w', OwnR w' base A' cap' (l ++ l2) → w.grownBy w' ((Value.slice A l.length cap).ownBlock) →
      ((Value.slice A' (l.length + l2.length) cap').ownBlock = (Value.slice A l.length cap).ownBlock ∨ (Value.slice A' (l.length + l2.length) cap').ownBlock = some w.heap.size) → wpList Tryd.prog ops Q rest (a.put o.dst (.slice A' (l.length + l2.length) cap')) w') : wpList Tryd.prog ops Q (o :: rest) a w := by
  obtain ⟨i0, hi, hz0, hz1, hz2⟩ := info_parts infoR
  exact wpList_app w encS_len encS_one hgd s x 25 ho base 29 i0 _ 24 Tryd.underlying25 hi hz0 hz1 hz2 rfl (by decide) hs hown hx hr (by unfold maxLen; omega) (by omega) hbase h
theorem readR_new (w : World) (v : Option Addr × Nat × Nat) : ReadS (w.alloc (.cells #[.slice v.1 v.2.1 v.2.2] 29)) (w.heap.size + 1) (some ⟨w.heap.size, 0, none⟩) [v] := fun _ => by
  refine ⟨w.heap.size, 0, rfl, by omega, fun i y hy j u hu => ?_⟩
  match i, hy with
  | 0, hy =>
    simp only [List.getElem?_cons_zero, Option.some.injEq] at hy
    subst hy
    match j, hu with
    | 0, hu =>
      simp [encS] at hu
      subst hu
      simp
    | j + 1, hu => simp [encS] at hu
  | i + 1, hy => simp at hy

/-- A row of sets that a call owns. -/
structure RowsAt (w : World) (base : Nat) (A : Option Addr) (cap : Nat) (us : List (Option Addr × Nat × Nat)) (xss : List (List Int)) : Prop where
  own : OwnR w base A cap us
  sets : SetsAt w w.heap.size us xss
  off : ∀ u ∈ us, Off A u.1
  low : ∀ u ∈ us, ∀ a, u.1 = some a → a.block < w.heap.size
section
variable {w w' : World} {base cap : Nat} {A : Option Addr} {us : List (Option Addr × Nat × Nat)} {xss : List (List Int)}
theorem RowsAt.nil : RowsAt w base none 0 [] [] := ⟨OwnL.nil, SetsAt.nil, fun u hu => (by cases hu), fun u hu => (by cases hu)⟩
theorem RowsAt.below (h : RowsAt w base A cap us xss) (hb : Below w.heap.size w w') : RowsAt w' base A cap us xss :=
  ⟨h.own.below hb (Nat.le_refl _), (h.sets.below hb).more hb.size, h.off, fun u hu a ha => Nat.lt_of_lt_of_le (h.low u hu a ha) hb.size⟩
theorem RowsAt.app {A' : Option Addr} {cap' N : Nat} {v : Option Addr × Nat × Nat} {xs : List Int} (h : RowsAt w base A cap us xss) (hv : SetAt w w.heap.size v xs) (hlv : ∀ a, v.1 = some a → a.block < N) (ho : Off A v.1) (hN : ∀ u ∈ us, ∀ a, u.1 = some a → a.block < N) (hNw : N ≤ w.heap.size)
    (hown : OwnR w' base A' cap' (us ++ [v])) (hg : w.grownBy w' ((Value.slice A us.length cap).ownBlock)) (hA : (Value.slice A' (us.length + 1) cap').ownBlock = (Value.slice A us.length cap).ownBlock ∨ (Value.slice A' (us.length + 1) cap').ownBlock = some w.heap.size) : RowsAt w' base A' cap' (us ++ [v]) (xss ++ [xs]) := by
  have hN2 : ∀ u ∈ us ++ [v], ∀ a, u.1 = some a → a.block < N := fun u hu a ha => by
    rcases List.mem_append.1 hu with hu | hu
    · exact hN u hu a ha
    · rw [List.mem_singleton] at hu
      subst hu
      exact hlv a ha
  have ho2 : ∀ u ∈ us ++ [v], Off A u.1 := fun u hu => by
    rcases List.mem_append.1 hu with hu | hu
    · exact h.off u hu
    · rw [List.mem_singleton] at hu
      subst hu
      exact ho
  have hs2 : SetsAt w w.heap.size (us ++ [v]) (xss ++ [xs]) := h.sets.app hv
  refine ⟨hown, ⟨hs2.1, fun i u ys h1 h2 => ?_⟩, fun u hu => (ho2 u hu).app hA fun a ha => Nat.lt_of_lt_of_le (hN2 u hu a ha) hNw, fun u hu a ha => Nat.lt_of_lt_of_le (hN2 u hu a ha) (Nat.le_trans hNw hg.size)⟩
  obtain ⟨k1, k2, k3⟩ := hs2.2 i u ys h1 h2
  exact ⟨k1, k2, ReadL.more (k3.grown (Nat.le_refl _) hg (ho2 u (List.mem_of_getElem? h1))) hg.size⟩
theorem RowsAt.read (h : RowsAt w base A cap us xss) : ReadS w w.heap.size A us := OwnL.read encS_len h.own
end

/-- A function that makes a set anew. -/
def MkPost (zs : List Int) (w : World) (e : Ending) (w' : World) : Prop := ∃ (A : Option Addr) (c : Nat), e = .returned (.slice A zs.length c) ∧ SetAt w' w'.heap.size (A, zs.length, c) zs ∧ (∀ a, A = some a → w.heap.size ≤ a.block ∧ a.block < w'.heap.size) ∧ Below w.heap.size w w'

set_option maxRecDepth 100000 in
set_option maxHeartbeats 8000000 in
theorem made_any (K : FuncId) (caps : Array Value) (eg : ∀ args w, (callFunc K args).run Tryd.prog w = .ok (.enter K args) w) (f : List Int → List Int) (A : Option Addr) (c : Nat) (vs : List (Option Addr × Nat × Nat)) (xss : List (List Int)) (w : World) (hr : ReadS w w.heap.size A vs) (hS : SetsAt w w.heap.size vs xss) (hl : vs.length ≤ 100000)
    (hmk : ∀ (i : Nat) v xs, vs[i]? = some v → xss[i]? = some xs → ∀ w', Below w.heap.size w w' → Calls Tryd.prog K (#[.slice v.1 v.2.1 v.2.2] ++ caps) w' (MkPost (f xs) w')) :
    Calls Tryd.prog 38 #[.slice A vs.length c, .func (.func K) #[] caps] w fun e w' => ∃ (A' : Option Addr) (c' : Nat) (us : List (Option Addr × Nat × Nat)), e = .returned (.slice A' us.length c') ∧ RowsAt w' w.heap.size A' c' us (xss.map f) ∧ Below w.heap.size w w' := by
  have HR := Lib.hid (And.intro hr hS)
  have HM := Lib.hid hmk
  have HL := Lib.hid hS.1
  clear hr hS hmk
  go_enter Tryd.func38, Tryd.ntmps38
  go_upto_region 3 with fail
  go_loopw [5, 7, 10] (fun s5 _ s10 wr => ∃ (i : Nat) (A' : Option Addr) (c' : Nat) (us : List (Option Addr × Nat × Nat)), s5 = .slice A' us.length c' ∧ s10 = .int .i64 i ∧ i ≤ vs.length ∧ Hid (us.length = i) ∧ Hid (RowsAt wr w.heap.size A' c' us ((xss.take i).map f) ∧ Below w.heap.size w wr)) (fun _ _ s10 _ => vs.length - (Lib.intOf s10).toNat)
  case atStart => exact ⟨0, none, 0, [], rfl, rfl, Nat.zero_le _, Lib.hid rfl, Lib.hid ⟨RowsAt.nil, Below.refl _ _⟩⟩
  case round =>
    obtain ⟨i, A', c', us, rfl, rfl, hi, HU, HW⟩ := hrel
    by_cases hl2 : i < vs.length
    · obtain ⟨v, hv⟩ := getq_ex hl2
      obtain ⟨xs, hx⟩ := getq_ex (show i < xss.length by rw [← HL.out]; exact hl2)
      obtain ⟨b, o, rfl, hb, c0⟩ := ReadL.slice (ReadL.below HR.out.1 HW.out.2) hv
      have HQ := Lib.hid (HM.out i v xs hv hx wr HW.out.2)
      have HX := Lib.hid hx
      have hwi : IntKind.i64.wrap ((i : Int) + 1) = ((i + 1 : Nat) : Int) := IntWalk.i64_in _ (by omega)
      clear hv hx
      go_wp2_with fail
      refine HQ.out.mono ?_
      rintro e w1 ⟨A3, c3, rfl, hset, hnew, hb1⟩
      obtain ⟨w2, hw2⟩ : ∃ w2, w2 = w1.alloc (.cells #[.slice A3 (f xs).length c3] 29) := ⟨_, rfl⟩
      have hb2 : Below w1.heap.size w1 w2 := by rw [hw2]; exact ext_alloc (Below.refl _ _) _
      have HRow : Hid (RowsAt w2 w.heap.size A' c' us ((xss.take i).map f)) := Lib.hid (HW.out.1.below (ext_trans hb1 hb2))
      have HSet : Hid (SetAt w2 w2.heap.size (A3, (f xs).length, c3) (f xs)) := Lib.hid ((hset.below hb2).more hb2.size)
      have HNew : Hid ((∀ a, A3 = some a → a.block < w1.heap.size) ∧ Off A' A3 ∧ (∀ u ∈ us, ∀ a, u.1 = some a → a.block < w1.heap.size) ∧ w1.heap.size ≤ w2.heap.size) := Lib.hid ⟨fun a ha => (hnew a ha).2, fun a b ha hb' e => by
        have h1 := (OwnL.lt HW.out.1.own a ha).2
        have h2 := (hnew b hb').1
        omega, fun u hu a ha => Nat.lt_of_lt_of_le (HW.out.1.low u hu a ha) hb1.size, hb2.size⟩
      have HBw : Hid (Below w.heap.size w w2) := Lib.hid (ext_trans (ext_trans HW.out.2 hb1) hb2)
      have HN2 : Hid (ReadS w2 (w1.heap.size + 1) (some ⟨w1.heap.size, 0, none⟩) [(A3, (f xs).length, c3)]) := Lib.hid (by rw [hw2]; exact readR_new w1 (A3, (f xs).length, c3))
      have hbase : w.heap.size ≤ w2.heap.size := HBw.out.size
      have hlen : us.length + [(A3, (f xs).length, c3)].length ≤ 10000000 := by have := HU.out; simp; omega
      clear hset hnew hb1 hb2
      go_wp2_with (at_builtin; rw [← hw2]; refine wpList_appR rfl (.tmp 14) (.tmp 18) rfl w.heap.size (l := us) rfl HRow.out.own (l2 := [(A3, (f xs).length, c3)]) rfl HN2.out hlen hbase ?_; intro A4 c4 w3 hown hg hA; clear hw2; have HF := Lib.hid (And.intro hown (And.intro hg hA)); clear hown hg hA)
      have hro := HRow.out.app (v := (A3, (f xs).length, c3)) HSet.out HNew.out.1 HNew.out.2.1 HNew.out.2.2.1 HNew.out.2.2.2 HF.out.1 HF.out.2.1 HF.out.2.2
      refine ⟨⟨i + 1, A4, c4, us ++ [(A3, (f xs).length, c3)], by simp, rfl, hl2, Lib.hid (by simp [HU.out]), Lib.hid ⟨?_, ext_app HBw.out HF.out.2.1 fun k hk => (OwnL.block HRow.out.own k hk).1⟩⟩, by simp [Lib.intOf]; omega⟩
      rw [List.take_add_one, HX.out, List.map_append]
      exact hro
    · have hiv : i = vs.length := by omega
      have HE : Hid (RowsAt wr w.heap.size A' c' us (xss.map f) ∧ Below w.heap.size w wr) := Lib.hid (by
        have := HW.out
        rwa [List.take_of_length_le (by rw [← HL.out]; omega)] at this)
      clear HW hiv
      go_wp2_with fail
      go_ret
      exact ⟨A', c', us, rfl, HE.out.1, HE.out.2⟩
end Go.Proofs.YtmjdhfbnmmdjiaaDoor

/- Sets sorted, none twice; least sets. -/
namespace Go.Proofs.YtmjdhfbnmmdjiaaDoor
open Go.RowKit

set_option maxRecDepth 100000 in
set_option maxHeartbeats 8000000 in
theorem cloneI_any (V : Option Addr) (cv : Nat) (xs : List Int) (w : World) (hr : ReadI w w.heap.size V xs) (hl : xs.length ≤ 1000000) :
    Calls Tryd.prog 26 #[.slice V xs.length cv] w fun e w' => ∃ V' cv', e = .returned (.slice V' xs.length cv') ∧ OwnI w' w.heap.size V' cv' xs ∧ Below w.heap.size w w' := by
  cases V with
  | none =>
    have hv : xs = [] := by
      cases xs with
      | nil => rfl
      | cons v vs =>
        obtain ⟨_, _, h, _⟩ := hr (by simp)
        cases h
    subst hv
    go_enter Tryd.func26, Tryd.ntmps26
    go_wp2_with fail
    rw [Lib.run_eql_slice_nil _ _ _ _ _ _ _ _ Tryd.underlying29]
    go_wp2_with fail
    go_ret
    exact ⟨none, 0, rfl, OwnL.nil, Below.refl _ _⟩
  | some a =>
    have hown0 := own_empty 3 1 encI w
    have hb0 := ext_alloc (Below.refl w.heap.size w) (.cells #[] 3)
    go_enter Tryd.func26, Tryd.ntmps26
    go_wp2_with fail
    rw [Lib.run_eql_slice_nil _ _ _ _ _ _ _ _ Tryd.underlying29]
    go_wp2_with (at_builtin; refine wpList_appI rfl (.tmp 5) (.tmp 6) rfl w.heap.size (l := []) rfl hown0 (l2 := xs) rfl (ReadL.below hr hb0) (by simp; omega) (by simp) ?_; intro A2 cap2 w3 hown3 hg3 _)
    have hbel3 := ext_app hb0 hg3 (fun k hk => (OwnL.block hown0 k hk).1)
    go_wp2_with fail
    go_ret
    exact ⟨A2, cap2, by simp, by simpa using hown3, hbel3⟩

set_option maxRecDepth 100000 in
set_option maxHeartbeats 8000000 in
theorem cloneR_any (V : Option Addr) (cv : Nat) (vs : List (Option Addr × Nat × Nat)) (w : World) (hr : ReadS w w.heap.size V vs) (hl : vs.length ≤ 100000) :
    Calls Tryd.prog 47 #[.slice V vs.length cv] w fun e w' => ∃ V' cv', e = .returned (.slice V' vs.length cv') ∧ OwnR w' w.heap.size V' cv' vs ∧ Below w.heap.size w w' := by
  cases V with
  | none =>
    have hv : vs = [] := by
      cases vs with
      | nil => rfl
      | cons v vs =>
        obtain ⟨_, _, h, _⟩ := hr (by simp)
        cases h
    subst hv
    go_enter Tryd.func47, Tryd.ntmps47
    go_wp2_with fail
    rw [Lib.run_eql_slice_nil _ _ _ _ _ _ _ _ Tryd.underlying25]
    go_wp2_with fail
    go_ret
    exact ⟨none, 0, rfl, OwnL.nil, Below.refl _ _⟩
  | some a =>
    have hown0 := own_empty 29 1 encS w
    have hb0 := ext_alloc (Below.refl w.heap.size w) (.cells #[] 29)
    go_enter Tryd.func47, Tryd.ntmps47
    go_wp2_with fail
    rw [Lib.run_eql_slice_nil _ _ _ _ _ _ _ _ Tryd.underlying25]
    go_wp2_with (at_builtin; refine wpList_appR rfl (.tmp 5) (.tmp 6) rfl w.heap.size (l := []) rfl hown0 (l2 := vs) rfl (ReadL.below hr hb0) (by simp; omega) (by simp) ?_; intro A2 cap2 w3 hown3 hg3 _)
    have hbel3 := ext_app hb0 hg3 (fun k hk => (OwnL.block hown0 k hk).1)
    go_wp2_with fail
    go_ret
    exact ⟨A2, cap2, by simp, by simpa using hown3, hbel3⟩

/-- What a call owns is a set. -/
theorem OwnI.set {w : World} {base cap : Nat} {A : Option Addr} {xs : List Int} (h : OwnI w base A cap xs) : SetAt w w.heap.size (A, xs.length, cap) xs := by
  refine ⟨rfl, ?_, OwnL.read encI_len h⟩
  rcases h.2 with ⟨hv, hn⟩ | ⟨g, cap', cur, hv, hbg, hg, hnc, _⟩
  · omega
  · injection hv with _ _ hc
    subst hc
    exact hnc

set_option maxRecDepth 100000 in
set_option maxHeartbeats 8000000 in
theorem sort1_any (v : Option Addr × Nat × Nat) (xs : List Int) (w : World) (h : SetAt w w.heap.size v xs) (hl : xs.length ≤ 1000000) :
    Calls Tryd.prog 41 #[.slice v.1 v.2.1 v.2.2] w (MkPost xs w) := by
  have H := Lib.hid (cloneI_any v.1 v.2.2 xs w h.r hl)
  rw [h.n]
  clear h hl
  go_enter Tryd.func41, Tryd.ntmps41
  go_wp2_with fail
  refine H.out.mono ?_
  rintro e w1 ⟨A, c, rfl, hown, hb⟩
  go_wp2_with fail
  go_ret
  exact ⟨A, c, rfl, OwnI.set hown, fun a ha => OwnL.lt hown a ha, hb⟩

/-- The library's Equal, at numbers. -/
theorem equalI_any (A : Option Addr) (c : Nat) (xs : List Int) (B : Option Addr) (d : Nat) (ys : List Int) (w : World) (hx : ReadI w w.heap.size A xs) (hy : ReadI w w.heap.size B ys) (hl : xs.length ≤ 1000000) (hm : ys.length ≤ 1000000) :
    Calls Tryd.prog 45 #[.slice A xs.length c, .slice B ys.length d] w fun e w' => e = .returned (.bool (decide (xs = ys))) ∧ ∃ q, w' = w.drewN q := by
  by_cases hne : xs.length = ys.length
  · cases xs with
    | nil =>
      cases ys with
      | nil =>
        refine (Tryd.slices_Equal_int_empty A B c 0 d w (by omega)).mono ?_
        rintro e w' ⟨rfl, rfl⟩
        exact ⟨rfl, 0, rfl⟩
      | cons y ys => simp at hne
    | cons x xs =>
      cases ys with
      | nil => simp at hne
      | cons y ys =>
        obtain ⟨b, o, rfl, _, _⟩ := ReadI.at0 hx
        obtain ⟨b2, o2, rfl, _, _⟩ := ReadI.at0 hy
        refine (Tryd.slices_Equal_int b o (x :: xs).length c b2 o2 (y :: ys).length d (x :: xs) (y :: ys) w (Nat.le_refl _) (Nat.le_refl _) (by omega) (by omega) (ReadI.cells hx (by simp)).2 (ReadI.cells hy (by simp)).2).mono ?_
        rintro e w' ⟨rfl, hq⟩
        refine ⟨?_, hq⟩
        rw [List.take_length, List.take_length, show ((x :: xs) == (y :: ys)) = decide (x :: xs = y :: ys) by rw [Bool.eq_iff_iff]; simp]
  · refine (Tryd.slices_Equal_int_lens A B xs.length c ys.length d w hne).mono ?_
    rintro e w' ⟨rfl, rfl⟩
    exact ⟨by rw [decide_eq_false (fun e => hne (by rw [e]))], 0, rfl⟩

set_option maxRecDepth 100000 in
set_option maxHeartbeats 8000000 in
theorem compactL_any (A : Option Addr) (cap : Nat) (vs : List (Option Addr × Nat × Nat)) (xss : List (List Int)) (w : World) (hr : ReadS w w.heap.size A vs) (hS : SetsAt w w.heap.size vs xss) (hl : vs.length ≤ 100000) (hsm : ∀ xs ∈ xss, xs.length ≤ 1000000)
    (hadj : ∀ j, 1 ≤ j → j < vs.length → setQ xss j ≠ setQ xss (j - 1)) :
    Calls Tryd.prog 44 #[.slice A vs.length cap, .func (.func 45) #[] #[]] w fun e w' => e = .returned (.slice A vs.length cap) ∧ Below w.heap.size w w' := by
  have HR := Lib.hid hr
  have Hask : Hid (∀ (j : Nat) (v1 v0 : Option Addr × Nat × Nat), 1 ≤ j → vs[j]? = some v1 → vs[j - 1]? = some v0 → ∀ W, Below w.heap.size w W → Calls Tryd.prog 45 #[.slice v1.1 v1.2.1 v1.2.2, .slice v0.1 v0.2.1 v0.2.2] W fun e w' => e = .returned (.bool false) ∧ ∃ q, w' = W.drewN q) := Lib.hid fun j v1 v0 hj h1 h0 W hW => by
    have hjl := getq_lt h1
    obtain ⟨x1, hx1⟩ := getq_ex (show j < xss.length by rw [← hS.1]; exact hjl)
    obtain ⟨x0, hx0⟩ := getq_ex (show j - 1 < xss.length by rw [← hS.1]; omega)
    obtain ⟨n1, _, r1⟩ := ((hS.2 j v1 x1 h1 hx1).below hW).more hW.size
    obtain ⟨n0, _, r0⟩ := ((hS.2 (j - 1) v0 x0 h0 hx0).below hW).more hW.size
    have hne := hadj j hj hjl
    rw [setQ_at hx1, setQ_at hx0] at hne
    rw [n1, n0]
    refine (equalI_any v1.1 v1.2.2 x1 v0.1 v0.2.2 x0 W r1 r0 (hsm _ (List.mem_of_getElem? hx1)) (hsm _ (List.mem_of_getElem? hx0))).mono ?_
    rintro e w' ⟨rfl, hq⟩
    exact ⟨by rw [decide_eq_false hne], hq⟩
  clear hr hS hsm hadj
  by_cases h2 : vs.length < 2
  · have h2i : (vs.length : Int) < 2 := by omega
    go_enter Tryd.func44, Tryd.ntmps44
    go_wp2_with fail
    go_ret
    exact ⟨rfl, Below.refl _ _⟩
  · have h2i : ¬ (vs.length : Int) < 2 := by omega
    go_enter Tryd.func44, Tryd.ntmps44
    go_upto_region 4 with fail
    go_loopw [5] (fun s5 wr => ∃ k : Nat, 1 ≤ k ∧ k ≤ vs.length ∧ s5 = .int .i64 k ∧ Hid (Below w.heap.size w wr)) (fun s5 _ => vs.length - (Lib.intOf s5).toNat)
    case atStart => exact ⟨1, Nat.le_refl _, by omega, rfl, Lib.hid (Below.refl _ _)⟩
    case round =>
      obtain ⟨k, hk1, hk, rfl, HB⟩ := hrel
      by_cases hlt : k < vs.length
      · obtain ⟨v1, hv1⟩ := getq_ex hlt
        obtain ⟨v0, hv0⟩ := getq_ex (show k - 1 < vs.length by omega)
        obtain ⟨b, o, rfl, hb, c1⟩ := ReadL.slice HR.out hv1
        obtain ⟨b', o', hA, hb', c0⟩ := ReadL.slice HR.out hv0
        injection hA with hA
        injection hA with hA1 hA2 _
        subst hA1 hA2
        have HC := Lib.hid (And.intro c0 c1)
        have d1 : ∀ j, (wr.drewN j).cell? ⟨b, o + k, none⟩ = some (.slice v1.1 v1.2.1 v1.2.2) := fun j => ((below_drewN HB.out j).cell (p := ⟨b, o + k, none⟩) hb).trans HC.out.2
        have d0 : ∀ j, (wr.drewN j).cell? ⟨b, o + (k - 1), none⟩ = some (.slice v0.1 v0.2.1 v0.2.2) := fun j => ((below_drewN HB.out j).cell (p := ⟨b, o + (k - 1), none⟩) hb).trans HC.out.1
        have hkn : k - 1 < vs.length := by omega
        have hk0 : ((k - 1 : Nat) : Int) = (k : Int) - 1 := by omega
        have hi1 : (0 : Int) ≤ (k : Int) - 1 := by omega
        have hi2 : (k : Int) - 1 < (vs.length : Int) := by omega
        have hi3 : ((k : Int) - 1).toNat = k - 1 := by omega
        have hi4 : (1 : Int) ≤ (k : Int) := by omega
        have hi5 : IntKind.i64.wrap ((k : Int) - 1) = (k : Int) - 1 := IntWalk.i64_in _ (by omega)
        have hwi : IntKind.i64.wrap ((k : Int) + 1) = ((k + 1 : Nat) : Int) := IntWalk.i64_in _ (by omega)
        have Hq := Lib.hid (Hask.out k v1 v0 hk1 hv1 hv0)
        clear hv1 hv0 c0 c1
        go_upto_region 6 with fail
        go_quiet ((go_at_call 45; refine Calls.quiet_of (Hq.out _ ?_); first | exact HB.out | exact below_drewN HB.out _ | exact HB.out.drew | exact (below_drewN HB.out _).drew))
        obtain ⟨w5, hw5⟩ : ∃ w5, w5 = wr.drewN nq := ⟨_, rfl⟩
        rw [← hw5]
        have HB5 : Hid (Below w.heap.size w w5) := Lib.hid (by rw [hw5]; exact below_drewN HB.out _)
        clear hw5 d0 d1 hk0 hi1 hi2 hi3 hi4 hi5
        go_wp2_with fail
        go_roundw
        case rel => exact ⟨k + 1, by omega, hlt, rfl, HB5⟩
        case measure => simp [Lib.intOf]; omega
      · go_wp2_with fail
        go_ret
        exact ⟨rfl, HB.out⟩
end Go.Proofs.YtmjdhfbnmmdjiaaDoor
