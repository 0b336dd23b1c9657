/- Small functions of the laws: In, Few, few, Types. -/
import Derived.Test.YtblfeokjlecgkaaGreatOff
import Derived.Test.YtblfeokjlecgkaaGreatRRight
import Derived.Test.YtblfeokjlecgkaaGreatConcat
namespace Go.Proofs.YtblfeokjlecgkaaGreat
open Go.RowKit

def inFrom (n : Int) (l : List Int) (k : Nat) : Bool := decide (n ∈ l.drop k)

theorem inFrom_step {n m : Int} {l : List Int} {k : Nat} (h : l[k]? = some m) : inFrom n l k = (m == n || inFrom n l (k + 1)) := by
  unfold inFrom
  rw [drop_cons h]
  by_cases e : m = n
  · simp [e]
  · have e' : ¬ n = m := fun h => e h.symm
    simp [e, e']

theorem inFrom_end {n : Int} {l : List Int} {k : Nat} (h : ¬ k < l.length) : inFrom n l k = false := by
  unfold inFrom
  rw [List.drop_eq_nil_of_le (by omega)]
  simp

set_option maxHeartbeats 1000000 in
theorem in_any (A : Option Addr) (c Ba : Nat) (l : List Int) (n : Int) (w : World) (ha : ReadI w Ba A l) (hl : l.length ≤ 9223372036854775807) :
    Calls Tryz.prog 29 #[.slice A l.length c, .int .i64 n] w fun e w' => e = .returned (.bool (decide (n ∈ l))) ∧ w = w' := by
  have h0 : Hid (inFrom n l 0 = decide (n ∈ l)) := Lib.hid (by unfold inFrom; rw [List.drop_zero])
  go_enter Tryz.func29, Tryz.ntmps29
  go_wp2_with fail
  go_loop [5] (fun i => ∃ k : Nat, k ≤ l.length ∧ i = .int .i64 k ∧ Hid (inFrom n l k = decide (n ∈ l))) (fun i => l.length - (intOf i).toNat)
  case atStart => exact ⟨0, Nat.zero_le _, rfl, h0⟩
  case round =>
    clear h0
    obtain ⟨k, hk, rfl, hgood⟩ := hrel
    by_cases hp : k < l.length
    · obtain ⟨m, hm⟩ := getq_ex hp
      have hstep := Lib.hid (inFrom_step (n := n) hm)
      obtain ⟨b, o, rfl, hb, c0⟩ := ReadL.int ha hm
      clear hm
      cases e : (m == n)
      · have E := Lib.hid e
        go_wp2_with fail
        go_round
        case rel => exact ⟨k + 1, hp, by go_num, Lib.hid (by rw [← hgood.out, hstep.out, E.out]; rfl)⟩
        case measure => simp [intOf]; omega
      · have E := Lib.hid e
        go_wp2_with fail
        go_ret
        exact ⟨ret_bool (by rw [← hgood.out, hstep.out, E.out]; rfl), rfl⟩
    · have hend := Lib.hid (inFrom_end (n := n) hp)
      go_wp2_with fail
      go_ret
      exact ⟨ret_bool (by rw [← hgood.out, hend.out]), rfl⟩

def shortB (x : Nd) : Bool := decide (x.s.size ≤ 100)
def fewB (xs : List Nd) (m : Int) : Bool := decide ((xs.length : Int) ≤ m) && (xs.all shortB && rRightB xs)

theorem fewB_parts {xs : List Nd} {m : Int} (h : fewB xs m = true) : (xs.length : Int) ≤ m ∧ (∀ x ∈ xs, x.s.size ≤ 100) ∧ rRightB xs = true := by
  unfold fewB at h
  simp only [Bool.and_eq_true, decide_eq_true_eq, List.all_eq_true] at h
  exact ⟨h.1, fun x hx => of_decide_eq_true (h.2.1 x hx), h.2.2⟩

set_option maxHeartbeats 1000000 in
theorem Few_any (A : Option Addr) (c : Nat) (xs : List Nd) (m : Int) (w : World) (ha : TyA w w.heap.size A xs) (hl : xs.length ≤ 9223372036854775807) (hs : ∀ x ∈ xs, x.s.size ≤ 9223372036854775807) :
    Calls Tryz.prog 17 #[.slice A xs.length c, .int .i64 m] w fun e w' => e = .returned (.bool (fewB xs m)) ∧ Below w.heap.size w w' := by
  have Hs := Lib.hid hs
  clear hs
  by_cases h0 : (xs.length : Int) ≤ m
  · have h0' : ¬ m < (xs.length : Int) := by omega
    have H0 := Lib.hid h0
    clear h0
    go_enter Tryz.func17, Tryz.ntmps17
    go_wp2_with fail
    go_loop [5] (fun i => ∃ k : Nat, k ≤ xs.length ∧ i = .int .i64 k ∧ Hid (allFrom shortB xs k = xs.all shortB)) (fun i => xs.length - (intOf i).toNat)
    case atStart => exact ⟨0, Nat.zero_le _, rfl, Lib.hid rfl⟩
    case round =>
      clear h0'
      obtain ⟨k, hk, rfl, hgood⟩ := hrel
      by_cases hp : k < xs.length
      · obtain ⟨x, hx⟩ := getq_ex hp
        have hstep := Lib.hid (allFrom_step (p := shortB) hx)
        have hxs := Hs.out x (List.mem_of_getElem? hx)
        obtain ⟨b1, o1, rfl, hb1, c10, c11, c12⟩ := ha.at_ hx
        clear hx
        by_cases h100 : x.s.size ≤ 100
        · have h100' : ¬ (100 : Int) < (x.s.size : Int) := by omega
          have H := Lib.hid h100
          clear h100
          go_wp2_with fail
          go_round
          case rel => exact ⟨k + 1, hp, by go_num, Lib.hid (by rw [← hgood.out, hstep.out]; simp [shortB, H.out])⟩
          case measure => simp [intOf]; omega
        · have h100' : (100 : Int) < (x.s.size : Int) := by omega
          have H := Lib.hid h100
          clear h100
          go_wp2_with fail
          go_ret
          exact ⟨ret_bool (by
            have e : xs.all shortB = false := by rw [← hgood.out, hstep.out]; simp [shortB, H.out]
            unfold fewB; rw [e]; simp), Below.refl _ _⟩
      · have hend := Lib.hid (allFrom_end (p := shortB) hp)
        go_wp2_with fail
        refine (rRight_any A c xs _ ha hl Hs.out).mono ?_
        rintro e w1 ⟨rfl, hb⟩
        go_wp2_with fail
        go_ret
        exact ⟨ret_bool (by
          have e : xs.all shortB = true := by rw [← hgood.out, hend.out]
          unfold fewB; rw [e, decide_eq_true H0.out]; simp), hb⟩
  · have h0' : m < (xs.length : Int) := by omega
    have H0 := Lib.hid h0
    clear h0
    go_enter Tryz.func17, Tryz.ntmps17
    go_wp2_with fail
    go_ret
    exact ⟨ret_bool (by unfold fewB; rw [decide_eq_false (by have := H0.out; omega)]; rfl), Below.refl _ _⟩

def few60 (xs : List Nd) : Bool := fewB xs 60
def fewsB (tss : List (List Nd)) : Bool := decide (tss.length ≤ 10) && tss.all few60

theorem fewsFrom {tss : List (List Nd)} {k : Nat} {xs : List Nd} (h : tss[k]? = some xs) : (tss.drop k).all few60 = (few60 xs && (tss.drop (k + 1)).all few60) := by
  rw [drop_cons h, List.all_cons]

/-- Elements that are read as strings are such. -/
def OkS (tss : List (List Nd)) : Prop := ∀ xs ∈ tss, xs.length ≤ 9223372036854775807 ∧ ∀ x ∈ xs, x.s.size ≤ 9223372036854775807

set_option maxHeartbeats 1000000 in
theorem few_any (V : Option Addr) (cv : Nat) (vs : List (Option Addr × Nat × Nat)) (tss : List (List Nd)) (w : World) (hr : ReadS w w.heap.size V vs) (hS : Sls w w.heap.size vs tss) (hl : vs.length ≤ 9223372036854775807) (hok : OkS tss) :
    Calls Tryz.prog 4 #[.slice V vs.length cv] w fun e w' => e = .returned (.bool (fewsB tss)) ∧ Below w.heap.size w w' := by
  have M := Lib.hid (And.intro hr hS)
  have Hl := Lib.hid hS.1
  have Hok := Lib.hid hok
  clear hr hS hok
  go_enter Tryz.func4, Tryz.ntmps4
  go_wp2_with fail
  go_loopw [3] (fun i wr => ∃ k : Nat, k ≤ vs.length ∧ k ≤ 10 ∧ i = .int .i64 k ∧ Hid (Below w.heap.size w wr) ∧ Hid ((tss.drop k).all few60 = tss.all few60)) (fun i _ => vs.length - (intOf i).toNat)
  case atStart => exact ⟨0, Nat.zero_le _, by omega, rfl, Lib.hid (Below.refl _ _), Lib.hid rfl⟩
  case round =>
    obtain ⟨k, hk, hk10, rfl, hB, hgood⟩ := hrel
    by_cases hp : k < vs.length
    · by_cases h10 : k = 10
      · subst h10
        go_wp2_with fail
        go_ret
        exact ⟨ret_bool (by unfold fewsB; rw [decide_eq_false (by have := Hl.out; omega)]; rfl), hB.out⟩
      · have h10' : ((k : Int) == 10) = false := by simp; omega
        have h10b : k < 10 := by omega
        obtain ⟨v, hv⟩ := getq_ex hp
        obtain ⟨xs, hx⟩ := getq_ex (show k < tss.length by have := Hl.out; omega)
        have hstep := Lib.hid (fewsFrom hx)
        obtain ⟨b, o, rfl, hb, c0⟩ := ReadL.slice (ReadL.below M.out.1 hB.out) hv
        obtain ⟨e1, e2⟩ := M.out.2.2 k v xs hv hx
        have hxs := Hok.out xs (List.mem_of_getElem? hx)
        have hF := Lib.hid (fun c => Few_any v.1 c xs 60 wr ((e2.below hB.out).more hB.out.size) hxs.1 hxs.2)
        rw [e1] at c0
        have Hxs := Lib.hid hxs
        clear hv hx e1 e2 h10 hxs
        go_wp2_with fail
        refine (hF.out _).mono ?_
        rintro e w1 ⟨rfl, hb1⟩
        replace hB := Lib.hid (ext_trans hB.out hb1)
        clear hb1
        cases hf : fewB xs 60
        · have HF := Lib.hid hf
          clear hf
          go_wp2_with fail
          go_ret
          exact ⟨ret_bool (by unfold fewsB; rw [← hgood.out, hstep.out, few60, HF.out]; simp), hB.out⟩
        · have HF := Lib.hid hf
          clear hf
          go_wp2_with fail
          go_roundw
          case rel => exact ⟨k + 1, hp, by omega, by go_num, hB, Lib.hid (by rw [← hgood.out, hstep.out, few60, HF.out]; rfl)⟩
          case measure => simp [intOf]; omega
    · go_wp2_with fail
      go_ret
      exact ⟨ret_bool (by
        have hkl : k = tss.length := by have := Hl.out; omega
        unfold fewsB
        rw [← hgood.out, hkl, List.drop_length, decide_eq_true (by omega)]; rfl), hB.out⟩
end Go.Proofs.YtblfeokjlecgkaaGreat
