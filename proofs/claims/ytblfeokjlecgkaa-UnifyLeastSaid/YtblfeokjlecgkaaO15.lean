/- Laid together by a tool from the texts of this seat: UMay KMap UNode. Conditions: each theorem's own. -/
import Derived.Test.YtblfeokjlecgkaaO14
import Derived.Test.YtblfeokjlecgkaaO01
import Derived.MapKept
import Derived.LaidEqlPtr
import Derived.Maps.OwnSet
import Derived.Test.YtblfeokjlecgkaaO11
import Derived.Test.YtblfeokjlecgkaaO02
/- Which steps may be told, walked. -/
namespace Go.Proofs.Ytblfeokjlecgkaa
open Go.RowKit

set_option maxRecDepth 100000 in
set_option maxHeartbeats 8000000 in
theorem may_any (x : Stp) (A B : Option Addr) (ca cb : Nat) (next : Int) (w : World) (hA : TyA w w.heap.size A x.a) (hB : TyA w w.heap.size B x.b) (hok : x.Ok) :
    Calls Try.prog 52 #[stV x A ca B cb, .int .i64 next] w fun e w' => e = .returned (.bool (mayB next x)) ∧ Below w.heap.size w w' := by
  have HBX := Lib.hid (ext_alloc (Below.refl w.heap.size w) (.cells #[.slice A x.a.length ca, .slice B x.b.length cb, .string x.l, .int .i64 x.k, .int .i64 x.n, .int .i64 x.m] 36))
  have HC : Hid (∀ v, Below (w.alloc (.cells #[.slice A x.a.length ca, .slice B x.b.length cb, .string x.l, .int .i64 x.k, .int .i64 x.n, .int .i64 x.m] 36)).heap.size (w.alloc (.cells #[.slice A x.a.length ca, .slice B x.b.length cb, .string x.l, .int .i64 x.k, .int .i64 x.n, .int .i64 x.m] 36)) v → v.cell? ⟨w.heap.size, 0, none⟩ = some (.slice A x.a.length ca) ∧ v.cell? ⟨w.heap.size, 1, none⟩ = some (.slice B x.b.length cb) ∧ v.cell? ⟨w.heap.size, 2, none⟩ = some (.string x.l) ∧ v.cell? ⟨w.heap.size, 3, none⟩ = some (.int .i64 x.k) ∧ v.cell? ⟨w.heap.size, 4, none⟩ = some (.int .i64 x.n) ∧ v.cell? ⟨w.heap.size, 5, none⟩ = some (.int .i64 x.m) ∧ w.heap.size < v.heap.size) := Lib.hid fun v hv => by
    have h := (hv.block w.heap.size (by simp)).trans (heap_alloc_new w (.cells #[.slice A x.a.length ca, .slice B x.b.length cb, .string x.l, .int .i64 x.k, .int .i64 x.n, .int .i64 x.m] 36))
    refine ⟨?_, ?_, ?_, ?_, ?_, ?_, (Array.getElem?_eq_some_iff.1 h).1⟩ <;> simp [World.cell?, h]
  have HT := Lib.hid fun W (hW : Below w.heap.size w W) => told_any A ca x.a next W ((hA.below hW).more hW.size) hok.a.1 (fun y hy => (hok.a.2 y hy).s1)
  have HT2 := Lib.hid fun W (hW : Below w.heap.size w W) => told_any B cb x.b next W ((hB.below hW).more hW.size) hok.b.1 (fun y hy => (hok.b.2 y hy).s1)
  have HR : Hid (∀ W, Below w.heap.size w W → Calls Try.prog 28 #[.slice (some ⟨W.heap.size, 0, none⟩) 2 2] (W.alloc (.cells #[.int .i64 x.k, .string ByteArray.empty, .int .i64 1, .int .i64 1, .string x.l, .int .i64 0] 48)) (fun e w' => e = .returned (.bool (rRightB [⟨x.k, ByteArray.empty, 1⟩, ⟨1, x.l, 0⟩])) ∧ Below w.heap.size w w' ∧ Below W.heap.size W w')) := Lib.hid fun W hW => by
    have h0 := tyA_newL W [⟨x.k, ByteArray.empty, 1⟩, ⟨1, x.l, 0⟩] #[.int .i64 x.k, .string ByteArray.empty, .int .i64 1, .int .i64 1, .string x.l, .int .i64 0] rfl
    have hb := ext_alloc hW (.cells #[.int .i64 x.k, .string ByteArray.empty, .int .i64 1, .int .i64 1, .string x.l, .int .i64 0] 48)
    refine (rRight_any (some ⟨W.heap.size, 0, none⟩) 2 [⟨x.k, ByteArray.empty, 1⟩, ⟨1, x.l, 0⟩] _ (h0.more (by simp)) (by simp) (fun y hy => ?_)).mono ?_
    · simp only [List.mem_cons, List.not_mem_nil, or_false] at hy
      rcases hy with rfl | rfl
      · show ByteArray.empty.size ≤ _
        decide
      · exact hok.l
    · rintro e w' ⟨he, hb2⟩
      exact ⟨he, ext_trans hb hb2, ext_trans (ext_alloc (Below.refl _ _) _) hb2⟩
  have hl := hok.l
  clear hA hB hok
  go_enter Try.func52, Try.ntmps52
  cases hz : (x.l.toList == ([] : List UInt8)) with
  | true =>
    have HZ : Hid (x.l.size = 0) := Lib.hid (by simpa [isEmpty_size] using (show x.l.toList.isEmpty = true by simpa using hz))
    have HZ2 : (x.l.toList != ([] : List UInt8)) = false := by unfold bne; rw [hz]; rfl
    have HM : Hid (mayB next x = (toldB x.a next && toldB x.b next)) := Lib.hid (by unfold mayB; rw [if_neg (by rw [HZ.out]; simp)])
    go_wp2_with fail
    refine (HT.out _ HBX.out).mono ?_
    rintro e w1 ⟨rfl, hb⟩
    have B1 := Lib.hid (ext_trans HBX.out hb)
    obtain ⟨_, q1, _, _, _, _, qz⟩ := HC.out _ hb
    clear hb
    cases ht : toldB x.a next with
    | false =>
      have Ht := Lib.hid ht
      clear ht
      go_wp2_with fail
      go_ret
      exact ⟨ret_bool (by rw [HM.out, Ht.out]; rfl), B1.out⟩
    | true =>
      have Ht := Lib.hid ht
      clear ht
      go_wp2_with fail
      refine (HT2.out _ B1.out).mono ?_
      rintro e w2 ⟨rfl, hb⟩
      go_wp2_with fail
      go_ret
      exact ⟨ret_bool (by rw [HM.out, Ht.out]; rfl), ext_trans B1.out hb⟩
  | false =>
    have HZ : Hid (x.l.size ≠ 0) := Lib.hid (fun h => by
      have := isEmpty_size x.l
      rw [decide_eq_true h] at this
      rw [List.isEmpty_iff.1 this] at hz
      cases hz)
    have HZ2 : (x.l.toList != ([] : List UInt8)) = true := by unfold bne; rw [hz]; rfl
    have HM : Hid (mayB next x = (decide (x.l.size ≤ 50) && ((x.k == 6 || x.k == 7) && (rRightB [⟨x.k, ByteArray.empty, 1⟩, ⟨1, x.l, 0⟩] && (decide (0 ≤ x.n) && decide (x.n < next) && (decide (0 ≤ x.m) && decide (x.m < next))))))) := Lib.hid (by unfold mayB; rw [if_pos HZ.out])
    have HR2 : Hid (Calls Try.prog 28 #[.slice (some ⟨w.heap.size + 1, 0, none⟩) 2 2] ((w.alloc (.cells #[.slice A x.a.length ca, .slice B x.b.length cb, .string x.l, .int .i64 x.k, .int .i64 x.n, .int .i64 x.m] 36)).alloc (.cells #[.int .i64 x.k, .string ⟨#[]⟩, .int .i64 1, .int .i64 1, .string x.l, .int .i64 0] 48)) (fun e w' => e = .returned (.bool (rRightB [⟨x.k, ByteArray.empty, 1⟩, ⟨1, x.l, 0⟩])) ∧ Below w.heap.size w w' ∧ Below (w.alloc (.cells #[.slice A x.a.length ca, .slice B x.b.length cb, .string x.l, .int .i64 x.k, .int .i64 x.n, .int .i64 x.m] 36)).heap.size (w.alloc (.cells #[.slice A x.a.length ca, .slice B x.b.length cb, .string x.l, .int .i64 x.k, .int .i64 x.n, .int .i64 x.m] 36)) w')) := Lib.hid (by
      have h := HR.out _ HBX.out
      rw [show (w.alloc (.cells #[.slice A x.a.length ca, .slice B x.b.length cb, .string x.l, .int .i64 x.k, .int .i64 x.n, .int .i64 x.m] 36)).heap.size = w.heap.size + 1 by simp] at h ⊢
      exact h)
    clear HR
    have HX : Hid (mayB next x = (decide (x.l.size ≤ 50) && ((x.k == 6 || x.k == 7) && (rRightB [⟨x.k, ByteArray.empty, 1⟩, ⟨1, x.l, 0⟩] && (decide (0 ≤ x.n) && decide (x.n < next) && (decide (0 ≤ x.m) && decide (x.m < next))))))) := HM
    by_cases h50 : x.l.size ≤ 50
    · have hk : ((x.k == 6) = true) ∨ ((x.k == 6) = false ∧ (x.k == 7) = true) ∨ ((x.k == 6) = false ∧ (x.k == 7) = false) := by cases (x.k == 6) <;> cases (x.k == 7) <;> simp
      rcases hk with h6 | ⟨h6, h7⟩ | ⟨h6, h7⟩
      · generalize hrr : rRightB [⟨x.k, ByteArray.empty, 1⟩, ⟨1, x.l, 0⟩] = rr at *
        have HK : Hid (mayB next x = (rr && (decide (0 ≤ x.n) && decide (x.n < next) && (decide (0 ≤ x.m) && decide (x.m < next))))) := Lib.hid (by rw [HX.out, decide_eq_true h50]; rw [h6]; simp)
        clear HX hrr
        cases rr with
        | false =>
          go_wp2_with fail
          with_reducible refine HR2.out.mono ?_
          rintro e w9 ⟨rfl, hb9, hb9'⟩
          obtain ⟨_, _, _, _, q4, q5, qz⟩ := HC.out _ hb9'
          clear hb9'
          go_wp2_with fail
          go_ret
          exact ⟨ret_bool (by rw [HK.out]; rfl), hb9⟩
        | true =>
          by_cases c1 : 0 ≤ x.n
          · by_cases c2 : x.n < next
            · by_cases c3 : 0 ≤ x.m
              · by_cases c4 : x.m < next
                · skip
                  go_wp2_with fail
                  with_reducible refine HR2.out.mono ?_
                  rintro e w9 ⟨rfl, hb9, hb9'⟩
                  obtain ⟨_, _, _, _, q4, q5, qz⟩ := HC.out _ hb9'
                  clear hb9'
                  go_wp2_with fail
                  go_ret
                  exact ⟨ret_bool (by rw [HK.out, decide_eq_true (show 0 ≤ x.n by omega), decide_eq_true (show x.n < next by omega), decide_eq_true (show 0 ≤ x.m by omega), decide_eq_true (show x.m < next by omega)]; rfl), hb9⟩
                · skip
                  go_wp2_with fail
                  with_reducible refine HR2.out.mono ?_
                  rintro e w9 ⟨rfl, hb9, hb9'⟩
                  obtain ⟨_, _, _, _, q4, q5, qz⟩ := HC.out _ hb9'
                  clear hb9'
                  go_wp2_with fail
                  go_ret
                  exact ⟨ret_bool (by rw [HK.out, decide_eq_true (show 0 ≤ x.n by omega), decide_eq_true (show x.n < next by omega), decide_eq_true (show 0 ≤ x.m by omega), decide_eq_false (show ¬ (x.m < next) by omega)]; rfl), hb9⟩
              · skip
                go_wp2_with fail
                with_reducible refine HR2.out.mono ?_
                rintro e w9 ⟨rfl, hb9, hb9'⟩
                obtain ⟨_, _, _, _, q4, q5, qz⟩ := HC.out _ hb9'
                clear hb9'
                go_wp2_with fail
                go_ret
                exact ⟨ret_bool (by rw [HK.out, decide_eq_true (show 0 ≤ x.n by omega), decide_eq_true (show x.n < next by omega), decide_eq_false (show ¬ (0 ≤ x.m) by omega)]; rfl), hb9⟩
            · skip
              go_wp2_with fail
              with_reducible refine HR2.out.mono ?_
              rintro e w9 ⟨rfl, hb9, hb9'⟩
              obtain ⟨_, _, _, _, q4, q5, qz⟩ := HC.out _ hb9'
              clear hb9'
              go_wp2_with fail
              go_ret
              exact ⟨ret_bool (by rw [HK.out, decide_eq_true (show 0 ≤ x.n by omega), decide_eq_false (show ¬ (x.n < next) by omega)]; rfl), hb9⟩
          · skip
            go_wp2_with fail
            with_reducible refine HR2.out.mono ?_
            rintro e w9 ⟨rfl, hb9, hb9'⟩
            obtain ⟨_, _, _, _, q4, q5, qz⟩ := HC.out _ hb9'
            clear hb9'
            go_wp2_with fail
            go_ret
            exact ⟨ret_bool (by rw [HK.out, decide_eq_false (show ¬ (0 ≤ x.n) by omega)]; rfl), hb9⟩
      · generalize hrr : rRightB [⟨x.k, ByteArray.empty, 1⟩, ⟨1, x.l, 0⟩] = rr at *
        have HK : Hid (mayB next x = (rr && (decide (0 ≤ x.n) && decide (x.n < next) && (decide (0 ≤ x.m) && decide (x.m < next))))) := Lib.hid (by rw [HX.out, decide_eq_true h50]; rw [h6, h7]; simp)
        clear HX hrr
        cases rr with
        | false =>
          go_wp2_with fail
          with_reducible refine HR2.out.mono ?_
          rintro e w9 ⟨rfl, hb9, hb9'⟩
          obtain ⟨_, _, _, _, q4, q5, qz⟩ := HC.out _ hb9'
          clear hb9'
          go_wp2_with fail
          go_ret
          exact ⟨ret_bool (by rw [HK.out]; rfl), hb9⟩
        | true =>
          by_cases c1 : 0 ≤ x.n
          · by_cases c2 : x.n < next
            · by_cases c3 : 0 ≤ x.m
              · by_cases c4 : x.m < next
                · skip
                  go_wp2_with fail
                  with_reducible refine HR2.out.mono ?_
                  rintro e w9 ⟨rfl, hb9, hb9'⟩
                  obtain ⟨_, _, _, _, q4, q5, qz⟩ := HC.out _ hb9'
                  clear hb9'
                  go_wp2_with fail
                  go_ret
                  exact ⟨ret_bool (by rw [HK.out, decide_eq_true (show 0 ≤ x.n by omega), decide_eq_true (show x.n < next by omega), decide_eq_true (show 0 ≤ x.m by omega), decide_eq_true (show x.m < next by omega)]; rfl), hb9⟩
                · skip
                  go_wp2_with fail
                  with_reducible refine HR2.out.mono ?_
                  rintro e w9 ⟨rfl, hb9, hb9'⟩
                  obtain ⟨_, _, _, _, q4, q5, qz⟩ := HC.out _ hb9'
                  clear hb9'
                  go_wp2_with fail
                  go_ret
                  exact ⟨ret_bool (by rw [HK.out, decide_eq_true (show 0 ≤ x.n by omega), decide_eq_true (show x.n < next by omega), decide_eq_true (show 0 ≤ x.m by omega), decide_eq_false (show ¬ (x.m < next) by omega)]; rfl), hb9⟩
              · skip
                go_wp2_with fail
                with_reducible refine HR2.out.mono ?_
                rintro e w9 ⟨rfl, hb9, hb9'⟩
                obtain ⟨_, _, _, _, q4, q5, qz⟩ := HC.out _ hb9'
                clear hb9'
                go_wp2_with fail
                go_ret
                exact ⟨ret_bool (by rw [HK.out, decide_eq_true (show 0 ≤ x.n by omega), decide_eq_true (show x.n < next by omega), decide_eq_false (show ¬ (0 ≤ x.m) by omega)]; rfl), hb9⟩
            · skip
              go_wp2_with fail
              with_reducible refine HR2.out.mono ?_
              rintro e w9 ⟨rfl, hb9, hb9'⟩
              obtain ⟨_, _, _, _, q4, q5, qz⟩ := HC.out _ hb9'
              clear hb9'
              go_wp2_with fail
              go_ret
              exact ⟨ret_bool (by rw [HK.out, decide_eq_true (show 0 ≤ x.n by omega), decide_eq_false (show ¬ (x.n < next) by omega)]; rfl), hb9⟩
          · skip
            go_wp2_with fail
            with_reducible refine HR2.out.mono ?_
            rintro e w9 ⟨rfl, hb9, hb9'⟩
            obtain ⟨_, _, _, _, q4, q5, qz⟩ := HC.out _ hb9'
            clear hb9'
            go_wp2_with fail
            go_ret
            exact ⟨ret_bool (by rw [HK.out, decide_eq_false (show ¬ (0 ≤ x.n) by omega)]; rfl), hb9⟩
      · go_wp2_with fail
        go_ret
        exact ⟨ret_bool (by rw [HX.out, h6, h7]; simp), ext_alloc HBX.out _⟩
    · go_wp2_with fail
      go_ret
      exact ⟨ret_bool (by rw [HX.out]; simp [h50]), ext_alloc HBX.out _⟩
end Go.Proofs.Ytblfeokjlecgkaa

namespace Go.Proofs.Ytblfeokjlecgkaa
open Go.MapKept Go.ChangeMaps

/-! Maps whose entries are told one by one: keys of ints, texts and pointers; elements whatever they are. -/

section
variable {κ : Type} [DecidableEq κ]

/-- The first entry at a key: where it is, and what. -/
def findL (a : κ) : List (κ × Value) → Nat → Option (Nat × Value)
  | [], _ => none
  | p :: l, i => if a = p.1 then some (i, p.2) else findL a l (i + 1)

def keysAre (kf : κ → Value) (es : List MapEntry) (l : List (κ × Value)) : Prop := es.map (fun e => (e.key, e.val)) = l.map (fun p => (kf p.1, p.2))

/-- What is at a key now. -/
def putL (a : κ) (v : Value) : List (κ × Value) → List (κ × Value)
  | [] => [(a, v)]
  | p :: l => if a = p.1 then (p.1, v) :: l else p :: putL a v l

theorem findL_none {a : κ} {v : Value} : ∀ {l : List (κ × Value)} {n : Nat}, findL a l n = none → putL a v l = l ++ [(a, v)]
  | [], _, _ => rfl
  | p :: l, n, h => by
    simp only [findL] at h
    split at h
    · cases h
    · next e => simp only [putL, if_neg e, findL_none h, List.cons_append]

theorem findL_some {a : κ} {v : Value} : ∀ {l : List (κ × Value)} {n j : Nat} {z : Value}, findL a l n = some (j, z) → ∃ k, j = n + k ∧ k < l.length ∧ l[k]? = some (a, z) ∧ putL a v l = l.set k (a, v)
  | p :: l, n, j, z, h => by
    simp only [findL] at h
    split at h
    · next e =>
      injection h with h
      injection h with h1 h2
      subst h1 h2 e
      exact ⟨0, rfl, by simp, rfl, by simp [putL]⟩
    · next e =>
      obtain ⟨k, h1, h2, h3, h4⟩ := findL_some (v := v) h
      exact ⟨k + 1, by omega, by simp; omega, by simpa using h3, by simp [putL, e, h4]⟩

/-- What is there. -/
def atL (a : κ) (l : List (κ × Value)) : Option Value := (findL a l 0).map (·.2)

theorem findL_val (a : κ) : ∀ (l : List (κ × Value)) (n m : Nat), (findL a l n).map (·.2) = (findL a l m).map (·.2)
  | [], _, _ => rfl
  | p :: l, n, m => by
    simp only [findL]
    split
    · rfl
    · exact findL_val a l (n + 1) (m + 1)

theorem atL_nil (a : κ) : atL a [] = none := rfl
theorem atL_cons (a : κ) (p : κ × Value) (l : List (κ × Value)) : atL a (p :: l) = if a = p.1 then some p.2 else atL a l := by
  unfold atL
  simp only [findL]
  split
  · rfl
  · exact findL_val a l 1 0

theorem atL_put (a b : κ) (v : Value) : ∀ l : List (κ × Value), atL b (putL a v l) = if b = a then some v else atL b l
  | [] => by simp only [putL, atL_cons, atL_nil]
  | p :: l => by
    simp only [putL]
    by_cases e : a = p.1
    · rw [if_pos e, atL_cons, atL_cons]
      simp only
      rw [← e]
      split <;> simp_all
    · rw [if_neg e, atL_cons, atL_cons, atL_put a b v l]
      by_cases e2 : b = p.1
      · rw [if_pos e2, if_pos e2, if_neg]
        rintro rfl
        exact e e2
      · rw [if_neg e2, if_neg e2]

/-- A map in block b: its entries, in the order in which they came. -/
def KMap (kf : κ → Value) (w : World) (b : Nat) (l : List (κ × Value)) : Prop := ∃ es clock, w.heap[b]? = some (.map es clock) ∧ keysAre kf es.toList l

/-- Keys that can be looked for. -/
structure Keyer (P : Program) (kt : TypeId) (kf : κ → Value) (w : World) (a : κ) (l : List (κ × Value)) : Prop where
  find : ∀ es, keysAre kf es l → (Instr.findKey kt (kf a) es).run P w = .ok (findL a l 0) w
  check : ∀ em, (Instr.checkKey em 10000 kt (kf a)).run P w = .ok () w
  same : Instr.sameBits 10000 (kf a) (kf a) = true

variable {P : Program} {w : World} {kt mt et : TypeId} {kf : κ → Value} {a : κ} {b : Nat} {l : List (κ × Value)}

theorem KMap.lookup (hM : KMap kf w b l) (K : Keyer P kt kf w a l) (hm : P.underlying mt = some (.map kt et)) (z : Value) (hz : (zeroValue et).run P w = .ok z w) (ok : Bool) :
    (Instr.lookup mt (.map (some b)) (kf a) ok).run P w = .ok (if ok then .tuple #[(atL a l).getD z, .bool (atL a l).isSome] else (atL a l).getD z) w := by
  obtain ⟨es, clock, hb, hks⟩ := hM
  have hf := K.find es.toList hks
  have hc := K.check es.isEmpty
  have hg : (getObj b).run P w = .ok (.map es clock) w := MapKept.run_getObj_map hb
  unfold Instr.lookup atL
  simp only [Sem.run_bind, run_underlying hm, Result.andThen_ok, hg, Sem.run_pure, hc, hf]
  cases hfl : findL a l 0 with
  | none =>
    simp only [Sem.run_bind, hz, Result.andThen_ok, Sem.run_pure]
    cases ok <;> rfl
  | some r =>
    cases ok <;> rfl

theorem KMap.update (hM : KMap kf w b l) (K : Keyer P kt kf w a l) (hm : P.underlying mt = some (.map kt et)) (v : Value) :
    ∃ w', (Instr.mapUpdate mt (.map (some b)) (kf a) v).run P w = .ok () w' ∧ KMap kf w' b (putL a v l) ∧ w.grownBy w' (some b) := by
  obtain ⟨es, clock, hb, hks⟩ := hM
  have hf := K.find es.toList hks
  have hc := K.check false
  have hg : (getObj b).run P w = .ok (.map es clock) w := MapKept.run_getObj_map hb
  have hgrow : ∀ o, w.grownBy (setBlock w b o) (some b) := fun o => ⟨rfl, rfl, rfl, by simp [setBlock], fun j _ hj => heap_setBlock_other hb _ (fun e => hj (by rw [e]))⟩
  cases hfl : findL a l 0 with
  | none =>
    refine ⟨setBlock w b (.map (es.push { key := kf a, val := v, born := clock }) (clock + 1)), ?_, ⟨_, _, heap_setBlock_same hb _, ?_⟩, hgrow _⟩
    · rw [hfl] at hf
      simp [Instr.mapUpdate, run_underlying hm, hg, hc, hf, MapKept.run_setObj_map _ hb, Result.andThen, setBlock]
    · rw [findL_none hfl]
      unfold keysAre at hks ⊢
      simp [hks]
  | some r =>
    obtain ⟨j, z⟩ := r
    obtain ⟨k, h1, h2, h3, h4⟩ := findL_some (v := v) hfl
    rw [Nat.zero_add] at h1
    subst h1
    rw [hfl] at hf
    have hlen : es.toList.length = l.length := by
      have := congrArg List.length hks
      simpa using this
    have hj : j < es.size := by have := hlen; simp at this; omega
    have hkey : es[j].key = kf a := by
      have h5 := congrArg (fun x : List (Value × Value) => x[j]?) hks
      simp only [List.getElem?_map, h3, Option.map_some] at h5
      rw [Array.getElem?_toList, Array.getElem?_eq_getElem hj] at h5
      simp only [Option.map_some, Option.some.injEq, Prod.mk.injEq] at h5
      exact h5.1
    refine ⟨setBlock w b (.map (es.modify j fun e => { e with key := kf a, val := v }) clock), ?_, ⟨_, _, heap_setBlock_same hb _, ?_⟩, hgrow _⟩
    · simp [Instr.mapUpdate, run_underlying hm, hg, hc, hf, Array.getElem?_eq_getElem hj, hkey, Instr.keyThatStays, K.same, MapKept.run_setObj_map _ hb, Result.andThen, setBlock]
    · rw [h4]
      unfold keysAre at hks ⊢
      apply List.ext_getElem?
      intro q
      have h5 := congrArg (fun x : List (Value × Value) => x[q]?) hks
      simp only [List.getElem?_map, Array.getElem?_toList, Array.getElem?_modify] at h5 ⊢
      rw [List.getElem?_set]
      by_cases hq : j = q
      · subst hq
        rw [if_pos rfl, if_pos rfl, if_pos h2, Array.getElem?_eq_getElem hj]
        rfl
      · rw [if_neg hq, if_neg hq]
        exact h5

omit [DecidableEq κ] in
theorem KMap.kept {w' : World} {row : Option Nat} (hM : KMap kf w b l) (hg : w.grownBy w' row) (hne : row ≠ some b) : KMap kf w' b l := by
  obtain ⟨es, clock, hb, hks⟩ := hM
  refine ⟨es, clock, ?_, hks⟩
  have hlt : b < w.heap.size := (Array.getElem?_eq_some_iff.1 hb).1
  rw [hg.block b hlt (fun e => hne e.symm)]
  exact hb

omit [DecidableEq κ] in
theorem KMap.lt (hM : KMap kf w b l) : b < w.heap.size := by
  obtain ⟨es, clock, hb, _⟩ := hM
  exact (Array.getElem?_eq_some_iff.1 hb).1

/-! ### At the operation -/

theorem wpList_lookM {ops : Array Oper} {rest : List Oper} {o : Oper} {ac : Act} {Q : Exit → Act → World → Prop} (hg : o.guard = none) (m x : Operand) (ok : Bool) (hop : o.op = Op.lookup mt m x ok)
    (hM : KMap kf w b l) (K : Keyer P kt kf w a l) (ht : P.underlying mt = some (.map kt et)) (z : Value) (hz : (zeroValue et).run P w = .ok z w) (hm : ac.eval m = .map (some b)) (hx : ac.eval x = kf a)
    (h : wpList P ops Q rest (ac.put o.dst (if ok then .tuple #[(atL a l).getD z, .bool (atL a l).isSome] else (atL a l).getD z)) w) : wpList P ops Q (o :: rest) ac w := by
  refine wpList_plain hg fun K' hK' => ?_
  have hrun := hM.lookup K ht z hz ok
  unfold Oper.wp
  simp [execOp, hop, hm, hx, hrun, Result.andThen]
  exact hK' _ _ h

theorem wpList_putM {ops : Array Oper} {rest : List Oper} {o : Oper} {ac : Act} {Q : Exit → Act → World → Prop} (hg : o.guard = none) (m x v : Operand) (hop : o.op = Op.mapUpdate mt m x v)
    (hM : KMap kf w b l) (K : Keyer P kt kf w a l) (ht : P.underlying mt = some (.map kt et)) (val : Value) (hm : ac.eval m = .map (some b)) (hx : ac.eval x = kf a) (hv : ac.eval v = val)
    (h : ∀ w', KMap kf w' b (putL a val l) → w.grownBy w' (some b) → wpList P ops Q rest (ac.put o.dst undef) w') : wpList P ops Q (o :: rest) ac w := by
  refine wpList_plain hg fun K' hK' => ?_
  obtain ⟨w', hrun, r1, r2⟩ := hM.update K ht val
  unfold Oper.wp
  simp [execOp, hop, hm, hx, hv, hrun, Result.andThen]
  exact hK' _ _ (h w' r1 r2)
end

/-! ### Ints, texts, pointers -/

def ik (n : Int) : Value := .int .i64 n
def sk (s : ByteArray) : Value := .string s
def pk (b : Nat) : Value := .pointer (some ⟨b, 0, none⟩)

section
variable {P : Program} {w : World} {kt : TypeId}

theorem findNow_run {κ : Type} [DecidableEq κ] {kf : κ → Value} {d : TypeDesc} {a : κ} (hs : ∀ c, Instr.sameNow d (kf a) (kf c) = some (decide (a = c))) : ∀ (es : List MapEntry) (l : List (κ × Value)) (n : Nat), keysAre kf es l → Instr.findNow d (kf a) es n = some (findL a l n)
  | [], [], _, _ => rfl
  | [], _ :: _, _, h => by simp [keysAre] at h
  | _ :: _, [], _, h => by simp [keysAre] at h
  | x :: es, p :: l, n, h => by
    simp only [keysAre, List.map_cons, List.cons.injEq, Prod.mk.injEq] at h
    obtain ⟨⟨h1, h2⟩, h3⟩ := h
    have ih := findNow_run hs es l (n + 1) h3
    unfold Instr.findNow findL
    rw [h1, hs]
    by_cases e : a = p.1
    · rw [if_pos e, decide_eq_true e, h2]
    · rw [if_neg e, decide_eq_false e]
      exact ih

theorem keyer_int (hk : P.underlying kt = some (.int .i64)) (n : Int) (l : List (Int × Value)) : Keyer P kt ik w n l := by
  refine ⟨fun es h => run_findKey hk (findNow_run (fun c => ?_) es l 0 h), fun em => ?_, ?_⟩
  · simp only [Instr.sameNow, ik, if_true]
    congr 1
  · have : ∀ d : Nat, (Instr.checkKey em (d + 1) kt (ik n)).run P w = .ok () w := fun d => by simp [Instr.checkKey, ik, run_underlying hk]
    exact this 9999
  · simp [Instr.sameBits, ik]

theorem keyer_str (hk : P.underlying kt = some .string) (s : ByteArray) (l : List (ByteArray × Value)) : Keyer P kt sk w s l := by
  have hbeq : ∀ a b : ByteArray, (a == b) = decide (a = b) := fun a b => by
    cases a with
    | mk x =>
      cases b with
      | mk y =>
        show (x == y) = _
        rw [Bool.eq_iff_iff]
        simp
  refine ⟨fun es h => run_findKey hk (findNow_run (fun c => ?_) es l 0 h), fun em => ?_, ?_⟩
  · simp only [Instr.sameNow, sk]
    rw [hbeq]
  · have : ∀ d : Nat, (Instr.checkKey em (d + 1) kt (sk s)).run P w = .ok () w := fun d => by simp [Instr.checkKey, sk, run_underlying hk]
    exact this 9999
  · simp [Instr.sameBits, sk, hbeq]

/-- A block of plain cells. -/
def Plain (w : World) (b : Nat) : Prop := ∃ c t, w.heap[b]? = some (.cells c t (0, 0))

variable {e : TypeId} {i : TypeInfo}

theorem run_eqP (hk : P.underlying kt = some (.pointer e)) (hi : P.info? e = some i) (hn : i.size ≠ 0) {a b : Nat} (ha : Plain w a) (hb : Plain w b) : (Op.equal kt (pk a) (pk b)).run P w = .ok (decide (a = b)) w := by
  obtain ⟨ca, ta, ha⟩ := ha
  obtain ⟨cb, tb, hb⟩ := hb
  by_cases h : a = b
  · subst h
    rw [decide_eq_true rfl]
    have : ∀ d : Nat, (Op.equalIn (d + 1) kt (pk a) (pk a)).run P w = .ok true w := fun d => by
      simp [Op.equalIn, pk, run_underlying hk, sizeOf, typeInfo, hi, run_sameAddr_same]
    exact this 9999
  · rw [decide_eq_false h]
    have hne : (⟨a, 0, none⟩ : Addr) ≠ ⟨b, 0, none⟩ := by simp
    have : ∀ d : Nat, (Op.equalIn (d + 1) kt (pk a) (pk b)).run P w = .ok false w := fun d => by
      simp [Op.equalIn, pk, run_underlying hk, sizeOf, typeInfo, hi, hn, run_sameAddr_other w hne ha hb]
    exact this 9999

theorem findAsking_run (hk : P.underlying kt = some (.pointer e)) (hi : P.info? e = some i) (hn : i.size ≠ 0) {a : Nat} (ha : Plain w a) :
    ∀ (es : List MapEntry) (l : List (Nat × Value)) (n : Nat), keysAre pk es l → (∀ p ∈ l, Plain w p.1) → (Instr.findAsking kt (pk a) es n).run P w = .ok (findL a l n) w
  | [], [], _, _, _ => rfl
  | [], _ :: _, _, h, _ => by simp [keysAre] at h
  | _ :: _, [], _, h, _ => by simp [keysAre] at h
  | x :: es, p :: l, n, h, hp => by
    simp only [keysAre, List.map_cons, List.cons.injEq, Prod.mk.injEq] at h
    obtain ⟨⟨h1, h2⟩, h3⟩ := h
    have ih := findAsking_run hk hi hn ha es l (n + 1) h3 fun q hq => hp q (by simp [hq])
    have he := run_eqP hk hi hn ha (hp p (by simp))
    unfold Instr.findAsking findL
    simp only [Sem.run_bind, h1, he, Result.andThen_ok]
    by_cases e : a = p.1
    · rw [if_pos e]
      simp [e, h2]
    · rw [if_neg e]
      simp [e, ih]

theorem keyer_ptr (hk : P.underlying kt = some (.pointer e)) (hi : P.info? e = some i) (hn : i.size ≠ 0) {a : Nat} (ha : Plain w a) {l : List (Nat × Value)} (hp : ∀ p ∈ l, Plain w p.1) : Keyer P kt pk w a l := by
  refine ⟨fun es h => ?_, fun em => ?_, ?_⟩
  · have hf := findAsking_run hk hi hn ha es l 0 h hp
    cases es with
    | nil =>
      cases l with
      | nil => simp [Instr.findKey, run_underlying hk, Instr.findNow, findL]
      | cons p l => simp [keysAre] at h
    | cons x es =>
      cases l with
      | nil => simp [keysAre] at h
      | cons p l =>
        have hx : x.key = pk p.1 := by
          simp only [keysAre, List.map_cons, List.cons.injEq, Prod.mk.injEq] at h
          exact h.1.1
        simp [Instr.findKey, run_underlying hk, Instr.findNow, hx, pk, Instr.sameNow] at hf ⊢
        exact hf
  · have : ∀ d : Nat, (Instr.checkKey em (d + 1) kt (pk a)).run P w = .ok () w := fun d => by simp [Instr.checkKey, pk, run_underlying hk]
    exact this 9999
  · simp [Instr.sameBits, pk]
end
end Go.Proofs.Ytblfeokjlecgkaa

/- Trees in memory: nodes, and what stands while the solver is written. -/
namespace Go.Proofs.Ytblfeokjlecgkaa
open Go.RowKit

/-- All blocks that were there stand, but for those of X. -/
structure Fr (X : Nat → Prop) (w w' : World) : Prop where
  os : w'.os = w.os
  tape : w'.tape = w.tape
  output : w'.output = w.output
  size : w.heap.size ≤ w'.heap.size
  block : ∀ k, k < w.heap.size → ¬ X k → w'.heap[k]? = w.heap[k]?

section
variable {X Y : Nat → Prop} {w w' w2 : World}

theorem Fr.refl (X : Nat → Prop) (w : World) : Fr X w w := ⟨rfl, rfl, rfl, Nat.le_refl _, fun _ _ _ => rfl⟩
theorem Fr.trans (h : Fr X w w') (k : Fr X w' w2) : Fr X w w2 :=
  ⟨k.os.trans h.os, k.tape.trans h.tape, k.output.trans h.output, Nat.le_trans h.size k.size, fun i hi hx => (k.block i (by have := h.size; omega) hx).trans (h.block i hi hx)⟩
theorem Fr.mono (h : Fr X w w') (hxy : ∀ k, X k → Y k) : Fr Y w w' := ⟨h.os, h.tape, h.output, h.size, fun k hk hy => h.block k hk fun hx => hy (hxy k hx)⟩
/-- What is written was not there at first. -/
theorem Fr.new (h : Fr X w w') (k : Fr Y w' w2) (hy : ∀ b, Y b → X b ∨ w.heap.size ≤ b) : Fr X w w2 :=
  ⟨k.os.trans h.os, k.tape.trans h.tape, k.output.trans h.output, Nat.le_trans h.size k.size, fun i hi hx => (k.block i (by have := h.size; omega) fun e => by rcases hy i e with e | e <;> first | exact hx e | omega).trans (h.block i hi hx)⟩
theorem Fr.below (h : Below w.heap.size w w') : Fr X w w' := ⟨h.os, h.tape, h.output, h.size, fun k hk _ => h.block k hk⟩
theorem Fr.grown {row : Option Nat} (h : w.grownBy w' row) (hX : ∀ k, row = some k → X k) : Fr X w w' :=
  ⟨h.os, h.tape, h.output, h.size, fun k hk hx => h.block k hk fun e => hx (hX k e.symm)⟩
theorem Fr.alloc (h : Fr X w w') (o : Obj) : Fr X w (w'.alloc o) := h.trans (Fr.below ((Below.refl _ _).alloc (Nat.le_refl _) o))
theorem Fr.drewN (h : Fr X w w') (n : Nat) : Fr X w (w'.drewN n) := ⟨h.os, h.tape, h.output, h.size, h.block⟩
theorem Fr.setCell (h : Fr X w w') {p : Addr} (hp : X p.block ∨ w.heap.size ≤ p.block) (u : Value) : Fr X w (w'.setCell p u) :=
  ⟨h.os, h.tape, h.output, by have := h.size; simpa [World.setCell] using this, fun k hk hx => by
    rw [Below.heap_setCell _ _ _ _ (by rintro rfl; rcases hp with e | e; exact hx e; omega)]
    exact h.block k hk hx⟩
/-- Nothing that was there is written. -/
theorem Fr.toBelow (h : Fr X w w') (hX : ∀ k, X k → w.heap.size ≤ k) : Below w.heap.size w w' :=
  ⟨h.os, h.tape, h.output, h.size, fun k hk => h.block k hk fun e => by have := hX k e; omega⟩
end

def encB (b : Nat) : List Value := [pk b]
def encL (s : ByteArray) : List Value := [.string s]
def encC (c : ByteArray × Nat) : List Value := [.string c.1, pk c.2]
theorem encB_len (b : Nat) : (encB b).length = 1 := rfl
theorem encL_len (s : ByteArray) : (encL s).length = 1 := rfl
theorem encC_len (c : ByteArray × Nat) : (encC c).length = 2 := rfl
theorem encB_one (b : Nat) : ∀ u ∈ encB b, u.oneCell' = true := by simp [encB, pk, Value.oneCell']
theorem encL_one (s : ByteArray) : ∀ u ∈ encL s, u.oneCell' = true := by simp [encL, Value.oneCell']
theorem encC_one (c : ByteArray × Nat) : ∀ u ∈ encC c, u.oneCell' = true := by simp [encC, pk, Value.oneCell']

/-- A slice that reads as a list, in a block that is not written. -/
def Lies {α : Type} (X : Nat → Prop) (size : Nat) (enc : α → List Value) (w : World) (A : Option Addr) (l : List α) : Prop :=
  l ≠ [] → ∃ b o, A = some ⟨b, o, none⟩ ∧ ¬ X b ∧ b < w.heap.size ∧ ∀ (i : Nat) (x : α), l[i]? = some x → ∀ (j : Nat) (u : Value), (enc x)[j]? = some u → w.cell? ⟨b, o + i * size + j, none⟩ = some u

section
variable {α : Type} {X Y : Nat → Prop} {size : Nat} {enc : α → List Value} {w w' : World} {A : Option Addr} {l : List α}

theorem Lies.nil : Lies X size enc w A ([] : List α) := fun h => absurd rfl h

theorem Lies.fr (h : Lies X size enc w A l) (hf : Fr Y w w') (hY : ∀ k, k < w.heap.size → Y k → X k) : Lies X size enc w' A l := fun hne => by
  obtain ⟨b, o, rfl, hx, hb, hr⟩ := h hne
  refine ⟨b, o, rfl, hx, by have := hf.size; omega, fun i x hi j u hj => ?_⟩
  rw [World.cell?_of_block (w := w) (hf.block b hb fun e => hx (hY b hb e))]
  exact hr i x hi j u hj

theorem Lies.more (h : Lies X size enc w A l) (hY : ∀ k, k < w.heap.size → Y k → X k) : Lies Y size enc w A l := fun hne => by
  obtain ⟨b, o, rfl, hx, hb, hr⟩ := h hne
  exact ⟨b, o, rfl, fun e => hx (hY b hb e), hb, hr⟩

theorem Lies.read (h : Lies X size enc w A l) : ReadL size enc w w.heap.size A l := fun hne => by
  obtain ⟨b, o, e, hx, hb, hr⟩ := h hne
  exact ⟨b, o, e, hb, hr⟩

theorem Lies.of_own {e base cap : Nat} (hk : ∀ x, (enc x).length = size) (h : OwnL e size enc w base A cap l) (hX : ∀ k, base ≤ k → k < w.heap.size → ¬ X k) : Lies X size enc w A l := fun hne => by
  obtain ⟨b, o, rfl, hb, hr⟩ := h.read hk hne
  have hlen : 0 < l.length := List.length_pos_iff.2 hne
  have := h.block b (by rfl)
  exact ⟨b, o, rfl, hX b this.1 this.2, hb, hr⟩
end

/-- A tail's node. -/
def TailAt (X : Nat → Prop) (w : World) (v : Value) : Option Int → Prop
  | none => v = .pointer none
  | some q => ∃ b, v = pk b ∧ ¬ X b ∧ w.heap[b]? = some (.cells #[.int .i64 9, .int .i64 q, .slice none 0 0, .slice none 0 0, .pointer none] 105 (0, 0))

/-- A tree in memory, in blocks that are not written. -/
inductive NodeAt (X : Nat → Prop) (w : World) : Nat → Ut → Prop
  | mk (b : Nat) (k n : Int) (fs : Fl) (tl : Option Int) (A B : Option Addr) (ls : List ByteArray) (bs : List Nat) (ca cb : Nat) (tv : Value)
      (hx : ¬ X b) (hb : w.heap[b]? = some (.cells #[.int .i64 k, .int .i64 n, .slice A ls.length ca, .slice B bs.length cb, tv] 105 (0, 0)))
      (hn : ls.length = bs.length) (hl : isRowB k = true → ls = labsF fs) (hA : Lies X 1 encL w A ls) (hB : Lies X 1 encB w B bs)
      (hlen : bs.length = fs.length) (hk : ∀ (i : Nat) (p : Lb × Ut) (c : Nat), fs[i]? = some p → bs[i]? = some c → NodeAt X w c p.2) (ht : TailAt X w tv tl) : NodeAt X w b (.mk k n fs tl)

section
variable {X Y : Nat → Prop} {w w' : World} {b : Nat} {t : Ut}

theorem TailAt.fr {v : Value} {tl : Option Int} (h : TailAt X w v tl) (hf : Fr Y w w') (hY : ∀ k, k < w.heap.size → Y k → X k) : TailAt X w' v tl := by
  cases tl with
  | none => exact h
  | some q =>
    obtain ⟨b, e, hx, hb⟩ := h
    have hlt : b < w.heap.size := (Array.getElem?_eq_some_iff.1 hb).1
    exact ⟨b, e, hx, (hf.block b hlt fun z => hx (hY b hlt z)).trans hb⟩

theorem TailAt.more {v : Value} {tl : Option Int} (h : TailAt X w v tl) (hY : ∀ k, k < w.heap.size → Y k → X k) : TailAt Y w v tl := by
  cases tl with
  | none => exact h
  | some q =>
    obtain ⟨b, e, hx, hb⟩ := h
    have hlt : b < w.heap.size := (Array.getElem?_eq_some_iff.1 hb).1
    exact ⟨b, e, fun z => hx (hY b hlt z), hb⟩

theorem NodeAt.lt (h : NodeAt X w b t) : b < w.heap.size := by
  cases h with
  | mk _ _ _ _ _ _ _ _ _ _ _ _ _ hb => exact (Array.getElem?_eq_some_iff.1 hb).1

theorem NodeAt.out (h : NodeAt X w b t) : ¬ X b := by
  cases h with
  | mk _ _ _ _ _ _ _ _ _ _ _ _ hx => exact hx

theorem NodeAt.plain (h : NodeAt X w b t) : Plain w b := by
  cases h with
  | mk _ _ _ _ _ _ _ _ _ _ _ _ _ hb => exact ⟨_, _, hb⟩

/-- It stands, whatever is written elsewhere. -/
theorem NodeAt.fr (h : NodeAt X w b t) (hf : Fr Y w w') (hY : ∀ k, k < w.heap.size → Y k → X k) : NodeAt X w' b t := by
  induction h with
  | mk b k n fs tl A B ls bs ca cb tv hx hb hn hl hA hB hlen hk ht ih =>
    have hlt : b < w.heap.size := (Array.getElem?_eq_some_iff.1 hb).1
    exact .mk b k n fs tl A B ls bs ca cb tv hx ((hf.block b hlt fun z => hx (hY b hlt z)).trans hb) hn hl (hA.fr hf hY) (hB.fr hf hY) hlen ih (ht.fr hf hY)

theorem NodeAt.more (h : NodeAt X w b t) (hY : ∀ k, k < w.heap.size → Y k → X k) : NodeAt Y w b t := by
  induction h with
  | mk b k n fs tl A B ls bs ca cb tv hx hb hn hl hA hB hlen hk ht ih =>
    have hlt : b < w.heap.size := (Array.getElem?_eq_some_iff.1 hb).1
    exact .mk b k n fs tl A B ls bs ca cb tv (fun z => hx (hY b hlt z)) hb hn hl (hA.more hY) (hB.more hY) hlen ih (ht.more hY)
end

theorem Lies.det {α : Type} {X X' : Nat → Prop} {size : Nat} {enc : α → List Value} {w : World} {A : Option Addr} {l l' : List α} (h : Lies X size enc w A l) (h' : Lies X' size enc w A l') (hl : l.length = l'.length)
    (inj : ∀ x y, (∀ (j : Nat) (u : Value), (enc x)[j]? = some u → ∀ v, (enc y)[j]? = some v → u = v) → x = y) : l = l' := by
  apply List.ext_getElem?
  intro i
  rcases Nat.lt_or_ge i l.length with hi | hi
  · have hi' : i < l'.length := by omega
    rw [List.getElem?_eq_getElem hi, List.getElem?_eq_getElem hi']
    obtain ⟨b, o, e, _, _, hr⟩ := h (by rintro rfl; simp at hi)
    obtain ⟨b', o', e', _, _, hr'⟩ := h' (by rintro rfl; simp at hi')
    rw [e] at e'
    injection e' with e'
    injection e' with e1 e2 _
    subst e1 e2
    congr 1
    refine inj _ _ fun j u hu v hv => ?_
    have h1 := hr i _ (List.getElem?_eq_getElem hi) j u hu
    have h2 := hr' i _ (List.getElem?_eq_getElem hi') j v hv
    rw [h1] at h2
    injection h2
  · rw [List.getElem?_eq_none hi, List.getElem?_eq_none (by omega)]

theorem encB_inj (x y : Nat) (h : ∀ (j : Nat) (u : Value), (encB x)[j]? = some u → ∀ v, (encB y)[j]? = some v → u = v) : x = y := by
  have := h 0 _ rfl _ rfl
  simpa [pk] using this
theorem encL_inj (x y : ByteArray) (h : ∀ (j : Nat) (u : Value), (encL x)[j]? = some u → ∀ v, (encL y)[j]? = some v → u = v) : x = y := by
  have := h 0 _ rfl _ rfl
  simpa using this

theorem TailAt.det {X X' : Nat → Prop} {w : World} {v : Value} {tl tl' : Option Int} (h : TailAt X w v tl) (h' : TailAt X' w v tl') : tl = tl' := by
  cases tl with
  | none =>
    cases tl' with
    | none => rfl
    | some q =>
      obtain ⟨b, e, _⟩ := h'
      have h : v = .pointer none := h
      rw [h] at e
      simp [pk] at e
  | some q =>
    obtain ⟨b, e, _, hb⟩ := h
    cases tl' with
    | none =>
      have h' : v = .pointer none := h'
      rw [h'] at e
      simp [pk] at e
    | some q' =>
      obtain ⟨b', e', _, hb'⟩ := h'
      rw [e] at e'
      have : b = b' := by simpa [pk] using e'
      subst this
      rw [hb] at hb'
      simp at hb'
      rw [hb']

/-- A block is the node of one tree alone. -/
theorem NodeAt.det {X X' : Nat → Prop} {w : World} {b : Nat} {t t' : Ut} (h : NodeAt X w b t) (h' : NodeAt X' w b t') (hs : shT t) (hs' : shT t') : t = t' := by
  induction h generalizing t' with
  | mk b k n fs tl A B ls bs ca cb tv hx hb hn hl hA hB hlen hk ht ih =>
    cases h' with
    | mk _ k' n' fs' tl' A' B' ls' bs' ca' cb' tv' hx' hb' hn' hl' hA' hB' hlen' hk' ht' =>
      rw [hb] at hb'
      simp only [Option.some.injEq, Obj.cells.injEq, Array.mk.injEq, List.cons.injEq, Value.int.injEq, Value.slice.injEq, true_and, and_true] at hb'
      obtain ⟨rfl, rfl, ⟨rfl, e1, rfl⟩, ⟨rfl, e2, rfl⟩, rfl⟩ := hb'
      have el := hA.det hA' e1 encL_inj
      have eb := hB.det hB' e2 encB_inj
      subst el eb
      have et := ht.det ht'
      subst et
      rw [shT_mk] at hs hs'
      congr 1
      have eLb : labsF fs = labsF fs' := by
        cases hr : isRowB k with
        | true => rw [← hl hr, ← hl' hr]
        | false =>
          obtain ⟨⟨_, _, a5, a6⟩, _⟩ := hs
          obtain ⟨⟨_, _, b5, b6⟩, _⟩ := hs'
          by_cases h5 : k = 5
          · obtain ⟨⟨_, _, rfl⟩, _⟩ := a5 h5
            obtain ⟨⟨_, _, rfl⟩, _⟩ := b5 h5
            rfl
          · rw [(a6 h5 hr).1, (b6 h5 hr).1]
      have elen : fs.length = fs'.length := by omega
      apply List.ext_getElem?
      intro i
      rcases Nat.lt_or_ge i fs.length with hi | hi
      · have hi' : i < fs'.length := by omega
        have h1 := List.getElem?_eq_getElem hi
        have h2 := List.getElem?_eq_getElem hi'
        rw [h1, h2]
        have hc : bs[i]? = some (bs[i]'(by omega)) := List.getElem?_eq_getElem (by omega)
        have e3 := ih i _ _ h1 hc (hk' i _ _ h2 hc) (hs.2 _ (List.getElem_mem hi)) (hs'.2 _ (List.getElem_mem hi'))
        have e4 : fs[i].1 = fs'[i].1 := by
          have a1 : (labsF fs)[i]? = some fs[i].1 := by simp [labsF, h1]
          have a2 : (labsF fs')[i]? = some fs'[i].1 := by simp [labsF, h2]
          rw [eLb, a2] at a1
          injection a1 with a1
          exact a1.symm
        exact congrArg some (Prod.ext e4 e3)
      · rw [List.getElem?_eq_none hi, List.getElem?_eq_none (by omega)]

/-- The solver in memory: its struct in block s, its map in block m; X: what may be written. -/
structure SolAt (X : Nat → Prop) (s m : Nat) (first : Int) (w : World) (S : Kn) : Prop where
  ne : s ≠ m
  xs : X s
  xm : X m
  st : w.heap[s]? = some (.cells #[.int .i64 first, .int .i64 S.m, .map (some m)] 87 (0, 0))
  map : ∃ l, KMap ik w m l ∧ ∀ n : Int, match S.κ n with
    | none => atL n l = none
    | some t => ∃ b, atL n l = some (pk b) ∧ NodeAt X w b t

theorem SolAt.fr {X : Nat → Prop} {s m : Nat} {first : Int} {w w' : World} {S : Kn} {Y : Nat → Prop} (h : SolAt X s m first w S) (hf : Fr Y w w') (hY : ∀ k, k < w.heap.size → Y k → X k ∧ k ≠ s ∧ k ≠ m) : SolAt X s m first w' S := by
  obtain ⟨h1, hx1, hx2, h2, l, ⟨es, clock, h3, h4⟩, h5⟩ := h
  have e : ∀ {b : Nat} {o : Obj}, (b = s ∨ b = m) → w.heap[b]? = some o → w'.heap[b]? = some o := fun {b o} hbs hb => by
    have hlt : b < w.heap.size := (Array.getElem?_eq_some_iff.1 hb).1
    rw [hf.block b hlt fun hy => by
      obtain ⟨_, a1, a2⟩ := hY b hlt hy
      rcases hbs with e | e
      · exact a1 e
      · exact a2 e]
    exact hb
  refine ⟨h1, hx1, hx2, e (.inl rfl) h2, l, ⟨es, clock, e (.inr rfl) h3, h4⟩, fun n => ?_⟩
  have := h5 n
  cases hk : S.κ n with
  | none => rw [hk] at this; exact this
  | some t =>
    rw [hk] at this
    obtain ⟨b, hb, hn⟩ := this
    exact ⟨b, hb, hn.fr hf fun k hk hy => (hY k hk hy).1⟩

theorem SolAt.more {X Y : Nat → Prop} {s m : Nat} {first : Int} {w : World} {S : Kn} (h : SolAt X s m first w S) (hs : Y s) (hm : Y m) (hY : ∀ k, k < w.heap.size → Y k → X k) : SolAt Y s m first w S := by
  obtain ⟨h1, _, _, h2, l, h3, h5⟩ := h
  refine ⟨h1, hs, hm, h2, l, h3, fun n => ?_⟩
  have := h5 n
  cases hk : S.κ n with
  | none => rw [hk] at this; exact this
  | some t =>
    rw [hk] at this
    obtain ⟨b, hb, hn⟩ := this
    exact ⟨b, hb, hn.more hY⟩
end Go.Proofs.Ytblfeokjlecgkaa
