/- Laid together by a tool from the texts of this seat: TrB RegL TrC UniE UWalkA UMake. Conditions: each theorem's own. -/
import Derived.Test.YtblfeokjlecgkaaT01
import Derived.Test.YtblfeokjlecgkaaT08
import Derived.Deep.RegionHeld3
import Derived.Deep.DeepCutAuto
import Derived.Deep.CutRange
import Derived.Deep.DrawnRows
import Derived.OrdersHeld
import Derived.Laws.BytesArg
import Derived.OwnWalk
import Derived.BigQuiet
/- Tokens, as the document reads them: keys and signs. -/
namespace Go.Proofs.Ytblfeokjlecgkaa
open Go.RowKit

attribute [local go_sem ↓] Go.wp_at_zero Go.wp_at_succ

def keysL : List ByteArray := [⟨#[105, 109, 112, 111, 114, 116]⟩, ⟨#[100, 101, 102]⟩, ⟨#[102, 117, 110]⟩, ⟨#[108, 101, 116]⟩, ⟨#[114, 101, 99]⟩, ⟨#[105, 110]⟩, ⟨#[105, 102]⟩, ⟨#[116, 104, 101, 110]⟩, ⟨#[101, 108, 115, 101]⟩, ⟨#[99, 97, 115, 101]⟩, ⟨#[111, 102]⟩, ⟨#[101, 110, 100]⟩, ⟨#[116, 114, 117, 101]⟩, ⟨#[102, 97, 108, 115, 101]⟩, ⟨#[117, 110, 105, 116]⟩, ⟨#[105, 110, 116]⟩, ⟨#[98, 111, 111, 108]⟩, ⟨#[115, 116, 114, 105, 110, 103]⟩]
def signsL : List ByteArray := [⟨#[45, 62]⟩, ⟨#[61, 61]⟩, ⟨#[38, 38]⟩, ⟨#[124, 124]⟩, ⟨#[43, 43]⟩, ⟨#[40]⟩, ⟨#[41]⟩, ⟨#[123]⟩, ⟨#[125]⟩, ⟨#[91]⟩, ⟨#[93]⟩, ⟨#[44]⟩, ⟨#[59]⟩, ⟨#[58]⟩, ⟨#[46]⟩, ⟨#[61]⟩, ⟨#[124]⟩, ⟨#[43]⟩, ⟨#[45]⟩, ⟨#[42]⟩, ⟨#[47]⟩, ⟨#[60]⟩, ⟨#[63]⟩, ⟨#[33]⟩]

theorem readStr_new (w : World) (l : List ByteArray) (c : Array Value) (t : TypeId) (h : c.toList = l.flatMap encL) : ReadL 1 encL (w.alloc (.cells c t)) (w.heap.size + 1) (some ⟨w.heap.size, 0, none⟩) l := fun _ => by
  refine ⟨w.heap.size, 0, rfl, by omega, fun i y hy j u hu => ?_⟩
  have h1 := heap_alloc_new w (.cells c t)
  have h2 := flatMap_at encL_len hy hu
  rw [← h] at h2
  simp only [World.cell?, h1]
  rw [Nat.zero_add]
  simpa using h2

set_option maxRecDepth 100000 in
set_option maxHeartbeats 4000000 in
theorem keys_any (w : World) : Calls Try.prog 151 #[] w fun e w' => e = .returned (.slice (some ⟨w.heap.size, 0, none⟩) 18 18) ∧ ReadL 1 encL w' w'.heap.size (some ⟨w.heap.size, 0, none⟩) keysL ∧ Below w.heap.size w w' := by
  go_enter Try.func151, Try.ntmps151
  go_wp2_with fail
  go_ret
  refine ⟨rfl, ?_, ext_alloc (Below.refl _ _) _⟩
  rw [World.size_alloc]
  refine readStr_new w keysL _ _ ?_
  rfl
set_option maxRecDepth 100000 in
set_option maxHeartbeats 4000000 in
theorem signs_any (w : World) : Calls Try.prog 152 #[] w fun e w' => e = .returned (.slice (some ⟨w.heap.size, 0, none⟩) 24 24) ∧ ReadL 1 encL w' w'.heap.size (some ⟨w.heap.size, 0, none⟩) signsL ∧ Below w.heap.size w w' := by
  go_enter Try.func152, Try.ntmps152
  go_wp2_with fail
  go_ret
  refine ⟨rfl, ?_, ext_alloc (Below.refl _ _) _⟩
  rw [World.size_alloc]
  refine readStr_new w signsL _ _ ?_
  rfl

theorem readL_txt {w : World} {B : Nat} {A : Option Addr} {l : List ByteArray} (h : ReadL 1 encL w B A l) {i : Nat} {x : ByteArray} (hn : l[i]? = some x) : ∃ b o, A = some ⟨b, o, none⟩ ∧ b < B ∧ w.cell? ⟨b, o + i, none⟩ = some (.string x) := by
  obtain ⟨b, o, e, hb, hr⟩ := h (by rintro rfl; simp at hn)
  have := hr i x hn 0 (.string x) rfl
  exact ⟨b, o, e, hb, by simpa using this⟩

def keyFrom (s : ByteArray) (k : Nat) : Bool := (keysL.drop k).any fun x => x.toList == s.toList
def keyB (s : ByteArray) : Bool := keyFrom s 0
theorem keyFrom_succ (s : ByteArray) {k : Nat} {x : ByteArray} (h : keysL[k]? = some x) : keyFrom s k = ((x.toList == s.toList) || keyFrom s (k + 1)) := by
  unfold keyFrom
  obtain ⟨hl, rfl⟩ := List.getElem?_eq_some_iff.1 h
  rw [List.drop_eq_getElem_cons hl, List.any_cons]
theorem keyFrom_end (s : ByteArray) {k : Nat} (h : ¬ k < 18) : keyFrom s k = false := by
  unfold keyFrom
  rw [List.drop_of_length_le (show keysL.length ≤ k by show 18 ≤ k; omega)]
  rfl

set_option maxRecDepth 100000 in
set_option maxHeartbeats 4000000 in
theorem isKey_any (s : ByteArray) (w : World) : Calls Try.prog 118 #[.string s] w fun e w' => e = .returned (.bool (keyB s)) ∧ Below w.heap.size w w' := by
  go_enter Try.func118, Try.ntmps118
  go_wp2_with fail
  refine (keys_any w).mono ?_
  rintro e w1 ⟨rfl, hr, hb⟩
  have HR := Lib.hid hr
  have HB := Lib.hid hb
  clear hr hb
  go_wp2_with fail
  go_loop [4] (fun i => ∃ k : Nat, k ≤ 18 ∧ i = .int .i64 k ∧ Hid (keyFrom s k = keyB s)) (fun i => 18 - (intOf i).toNat)
  case atStart => exact ⟨0, by omega, rfl, Lib.hid rfl⟩
  case round =>
    obtain ⟨k, hk, rfl, hgood⟩ := hrel
    by_cases hp : k < 18
    · obtain ⟨x, hx⟩ := getq_ex (l := keysL) (i := k) hp
      obtain ⟨b, o, hA, hb', hc⟩ := readL_txt HR.out hx
      injection hA with hA
      injection hA with hA1 hA2
      subst hA1 hA2
      have HX := Lib.hid (keyFrom_succ s hx)
      rw [Nat.zero_add] at hc
      clear hx
      cases hm : (x.toList == s.toList) with
      | true =>
        go_wp2_with fail
        go_ret
        exact ⟨ret_bool (by rw [← hgood.out, HX.out, hm]; rfl), HB.out⟩
      | false =>
        have HM := Lib.hid hm
        go_wp2_with fail
        go_round
        case rel => exact ⟨k + 1, hp, by go_num, Lib.hid (by rw [← hgood.out, HX.out, HM.out]; rfl)⟩
        case measure => simp [intOf]; omega
    · have hend := Lib.hid (keyFrom_end s hp)
      go_wp2_with fail
      go_ret
      exact ⟨by rw [← hgood.out, hend.out]; rfl, HB.out⟩

/-- A sign stands at a place. -/
def signAt (s : ByteArray) (k : Nat) (x : ByteArray) : Bool := decide (k + x.size ≤ s.size) && ((s.extract k (k + x.size)).toList == x.toList)
def signFrom (s : ByteArray) (k i : Nat) : ByteArray := ((signsL.drop i).find? (signAt s k)).getD ByteArray.empty
def signB (s : ByteArray) (k : Nat) : ByteArray := signFrom s k 0
theorem signFrom_succ (s : ByteArray) {k i : Nat} {x : ByteArray} (h : signsL[i]? = some x) : signFrom s k i = if signAt s k x = true then x else signFrom s k (i + 1) := by
  unfold signFrom
  obtain ⟨hl, rfl⟩ := List.getElem?_eq_some_iff.1 h
  rw [List.drop_eq_getElem_cons hl, List.find?_cons]
  cases signAt s k signsL[i] <;> simp
theorem signFrom_end (s : ByteArray) {k i : Nat} (h : ¬ i < 24) : signFrom s k i = ByteArray.empty := by
  unfold signFrom
  rw [List.drop_of_length_le (show signsL.length ≤ i by show 24 ≤ i; omega)]
  rfl

set_option maxRecDepth 100000 in
set_option maxHeartbeats 4000000 in
theorem sign_any (s : ByteArray) (k : Nat) (w : World) (hs : s.size ≤ 100000) (hk : k ≤ s.size) : Calls Try.prog 120 #[.string s, .int .i64 k] w fun e w' => e = .returned (.string (signB s k)) ∧ Below w.heap.size w w' := by
  go_enter Try.func120, Try.ntmps120
  go_wp2_with fail
  refine (signs_any w).mono ?_
  rintro e w1 ⟨rfl, hr, hb⟩
  have HR := Lib.hid hr
  have HB := Lib.hid hb
  clear hr hb
  go_wp2_with fail
  go_loopw [6] (fun a wr => ∃ i : Nat, i ≤ 24 ∧ a = .int .i64 i ∧ Hid (signFrom s k i = signB s k) ∧ Hid (Below w1.heap.size w1 wr)) (fun a _ => 24 - (intOf a).toNat)
  case atStart => exact ⟨0, by omega, rfl, Lib.hid rfl, Lib.hid (Below.refl _ _)⟩
  case round =>
    obtain ⟨i, hi, rfl, hgood, HBr⟩ := hrel
    by_cases hp : i < 24
    · obtain ⟨x, hx⟩ := getq_ex (l := signsL) (i := i) hp
      obtain ⟨b, o, hA, hb', hc0⟩ := readL_txt HR.out hx
      injection hA with hA
      injection hA with hA1 hA2
      subst hA1 hA2
      have HX := Lib.hid (signFrom_succ s (k := k) hx)
      rw [Nat.zero_add] at hc0
      have hx64 : x.size ≤ 2 := by
        have : ∀ y ∈ signsL, y.size ≤ 2 := by decide
        exact this x (List.mem_of_getElem? hx)
      have hc : ∀ j, (wr.drewN j).cell? ⟨w.heap.size, i, none⟩ = some (.string x) := fun j => ((below_drewN HBr.out j).cell (p := ⟨w.heap.size, i, none⟩) hb').trans hc0
      clear hx hc0
      by_cases hle : k + x.size ≤ s.size
      · have hle2 : (k : Int) + (x.size : Int) ≤ (s.size : Int) := by omega
        cases hm : ((s.extract k (k + x.size)).toList == x.toList) with
        | true =>
          have HM := Lib.hid (show signAt s k x = true by unfold signAt; rw [hm, decide_eq_true hle]; rfl)
          go_upto_region 5 with fail
          go_quiet (fail)
          go_wp2_with fail
          go_ret
          exact ⟨by rw [← hgood.out, HX.out, if_pos HM.out]; rfl, by first | exact ext_trans HB.out (below_drewN HBr.out _) | exact ext_trans HB.out HBr.out⟩
        | false =>
          have HM := Lib.hid (show ¬ signAt s k x = true by unfold signAt; rw [hm]; simp)
          go_upto_region 5 with fail
          go_quiet (fail)
          go_wp2_with fail
          go_roundw
          case rel => exact ⟨i + 1, hp, by go_num, Lib.hid (by rw [← hgood.out, HX.out, if_neg HM.out]), by first | exact Lib.hid (below_drewN HBr.out _) | exact HBr⟩
          case measure => simp [intOf]; omega
      · have hle2 : ¬ (k : Int) + (x.size : Int) ≤ (s.size : Int) := by omega
        have HM := Lib.hid (show ¬ signAt s k x = true by unfold signAt; rw [decide_eq_false hle]; simp)
        go_upto_region 5 with fail
        go_quiet (fail)
        go_wp2_with fail
        go_roundw
        case rel => exact ⟨i + 1, hp, by go_num, Lib.hid (by rw [← hgood.out, HX.out, if_neg HM.out]), by first | exact Lib.hid (below_drewN HBr.out _) | exact HBr⟩
        case measure => simp [intOf]; omega
    · have hend := Lib.hid (signFrom_end s (k := k) hp)
      go_wp2_with fail
      go_ret
      exact ⟨by rw [← hgood.out, hend.out]; rfl, ext_trans HB.out HBr.out⟩
end Go.Proofs.Ytblfeokjlecgkaa

/- Regions that draw and store what they load: loads are taken first while nothing was stored. -/
namespace Go.Proofs.Ytblfeokjlecgkaa
open Go
section
variable {P : Program} {ops : Array Oper} {Q : Exit → Act → World → Prop} {md : Region.Mode} {S : World → Prop} {Z : List Nat}

/-- Whatever order is picked, and S holds behind each operation until one of Z has come up. -/
def wpAnyL (P : Program) (md : Region.Mode) (ops : Array Oper) (Q : Exit → Act → World → Prop) (S : World → Prop) (Z : List Nat) : Nat → Array Bool → Act → World → Prop
  | 0, listed, a, w => Region.ready md ops listed = [] ∧ Q .normal a w
  | fuel + 1, listed, a, w => (Region.ready md ops listed = [] → Q .normal a w) ∧
    ∀ i ∈ Region.ready md ops listed, wpOp P ops Q i (fun a' w' => ((∀ z ∈ Z, (listed.setIfInBounds i true).getD z true = false) → S w') ∧ wpAnyL P md ops Q S Z fuel (listed.setIfInBounds i true) a' w') a w

theorem wpAny_of_L : ∀ (fuel : Nat) (listed : Array Bool) (a : Act) (w : World), wpAnyL P md ops Q S Z fuel listed a w → wpAny P md ops Q fuel listed a w
  | 0, _, _, _, h => h
  | fuel + 1, _, _, _, h => ⟨h.1, fun i hi => wpOp_mono (fun _ _ h' => wpAny_of_L fuel _ _ _ h'.2) (h.2 i hi)⟩

theorem wpAnyL_first {i : Nat} {oi : Oper} {v : Value} {C : List Nat} (hi : ops[i]? = some oi) (hsel : ∀ (j : Nat) (o : Oper) cs b, ops[j]? = some o → o.op ≠ .select cs b)
    (hQ : ∀ c a w, Q (.panic c) (a.put oi.dst v) w → Q (.panic c) a w) (hZ : ∀ z ∈ Z, z ∈ C) (hiC : i ∉ C)
    (hC : ∀ c ∈ C, ∀ oc, ops[c]? = some oc → ∃ e ∈ oc.after, Region.binds md e = true ∧ (e.on = i ∨ e.on ∈ C)) :
    ∀ (fuel : Nat) (listed : Array Bool) (a : Act) (w : World),
      (∀ j oj, ops[j]? = some oj → j ≠ i → listed.getD j true = false → (∀ e ∈ oj.after, Region.binds md e = true → e.on ≠ i) → oi.apart ops oj = true) →
      (∀ c ∈ C, listed.getD c true = false) → i ∈ Region.ready md ops listed → YieldsIf P ops S oi v a → S w →
      wpAnyL P md ops Q S Z fuel (listed.setIfInBounds i true) (a.put oi.dst v) w → wpAnyL P md ops Q S Z (fuel + 1) listed a w := by
  intro fuel
  induction fuel with
  | zero =>
    intro listed a w _ _ hr hy hS H
    refine ⟨fun h => (by rw [h] at hr; cases hr), fun j hj => ?_⟩
    by_cases hji : j = i
    · subst hji; exact hy.wpOp hi hS ⟨fun _ => hS, H⟩
    · have := ready_mono hj hji
      rw [H.1] at this
      cases this
  | succ fuel ih =>
    intro listed a w hfree hlc hr hy hS H
    refine ⟨fun h => (by rw [h] at hr; cases hr), fun j hj => ?_⟩
    by_cases hji : j = i
    · subst hji; exact hy.wpOp hi hS ⟨fun _ => hS, H⟩
    · have h1 := H.2 j (ready_mono hj hji)
      obtain ⟨hjun, oj, hoj, hall⟩ := mem_ready.1 hj
      have off : ∀ k, listed.getD k true = false → listed.getD k false = true → False := fun k h0 h1 => by
        rcases Nat.lt_or_ge k listed.size with h' | h'
        · simp [h'] at h0 h1; rw [h0] at h1; cases h1
        · simp [Array.getElem?_eq_none h'] at h1
      have hjC : j ∉ C := fun hc => by
        obtain ⟨e, he, hb, hon⟩ := hC j hc oj hoj
        have h1 := hall e he hb
        rcases hon with hon | hon
        · rw [hon] at h1; exact off i (mem_ready.1 hr).1 h1
        · exact off e.on (hlc _ hon) h1
      have hnot : ∀ e ∈ oj.after, Region.binds md e = true → e.on ≠ i := fun e he hb heq => by
        have h1 := hall e he hb
        rw [heq] at h1
        exact off i (mem_ready.1 hr).1 h1
      have hzs : ∀ (l : Array Bool), (∀ c ∈ C, l.getD c true = false) → ∀ k, k ∉ C → ∀ c ∈ C, (l.setIfInBounds k true).getD c true = false := fun l hl k hk c hc => by
        by_cases e : k = c
        · exact absurd (by rw [e]; exact hc) hk
        · rw [getD_set_ne true e]; exact hl c hc
      have h2 := wpOp_putIf hoj (hfree j oj hoj hji hjun hnot) (fun cs b => hsel i oi cs b hi) (fun cs b => hsel j oj cs b hoj) hQ hy h1
      have hfree' : ∀ k ok, ops[k]? = some ok → k ≠ i → (listed.setIfInBounds j true).getD k true = false →
          (∀ e ∈ ok.after, Region.binds md e = true → e.on ≠ i) → oi.apart ops ok = true := fun k ok hk hki hun hno => by
        refine hfree k ok hk hki ?_ hno
        by_cases hjk : j = k
        · subst hjk; exact hjun
        · rw [getD_set_ne true hjk] at hun; exact hun
      refine wpOp_mono (fun a' w' h3 => ?_) h2
      have hS' : S w' := h3.2.1 fun z hz => hzs _ (hzs _ hlc i hiC) j hjC z (hZ z hz)
      refine ⟨fun _ => hS', ih (listed.setIfInBounds j true) a' w' hfree' (hzs _ hlc j hjC) (ready_mono hr (Ne.symm hji)) h3.1 hS' ?_⟩
      rw [Array.setIfInBounds_comm _ _ hji]
      exact h3.2.2

/-- Every one of C waits for i, or for another one of C; none has come up. -/
def waitsL (md : Region.Mode) (ops : Array Oper) (listed : Array Bool) (C Z : List Nat) (i : Nat) : Bool :=
  Z.all (fun z => C.contains z) && !C.contains i && C.all fun c => !listed.getD c true && match ops[c]? with
    | some oc => oc.after.any fun e => Region.binds md e && (e.on == i || C.contains e.on)
    | none => true

theorem wpAnyL_take {i : Nat} {oi : Oper} {v : Value} {fuel : Nat} {listed : Array Bool} {a : Act} {w : World} (C : List Nat) (hi : ops[i]? = some oi)
    (hs : Region.noSelect ops = true) (hf : Region.free md ops listed i = true) (hr : (Region.ready md ops listed).contains i = true) (hc : waitsL md ops listed C Z i = true)
    (hQ : ∀ c a w, Q (.panic c) (a.put oi.dst v) w → Q (.panic c) a w) (hy : YieldsIf P ops S oi v a) (hS : S w)
    (h : wpAnyL P md ops Q S Z fuel (listed.setIfInBounds i true) (a.put oi.dst v) w) : wpAnyL P md ops Q S Z (fuel + 1) listed a w := by
  unfold waitsL at hc
  simp only [Bool.and_eq_true, List.all_eq_true, Bool.not_eq_true', List.contains_eq_mem, decide_eq_true_eq] at hc
  obtain ⟨⟨h1, h2⟩, h3⟩ := hc
  refine wpAnyL_first (C := C) hi (Region.noSelect_spec hs) hQ h1 (by simpa using h2) (fun c hc oc hoc => ?_) fuel listed a w (Region.free_spec hi hf) (fun c hc => (h3 c hc).1) (by simpa using hr) hy hS h
  have := (h3 c hc).2
  rw [hoc] at this
  simp only [Array.any_eq_true', Bool.and_eq_true, Bool.or_eq_true, beq_iff_eq, decide_eq_true_eq] at this
  exact this

theorem wpAnyL_all {rs : List Nat} {fuel : Nat} {listed : Array Bool} {a : Act} {w : World} (hr : Region.ready md ops listed = rs) (hne : rs ≠ [])
    (h : ∀ i ∈ rs, wpOp P ops Q i (fun a' w' => ((∀ z ∈ Z, (listed.setIfInBounds i true).getD z true = false) → S w') ∧ wpAnyL P md ops Q S Z fuel (listed.setIfInBounds i true) a' w') a w) : wpAnyL P md ops Q S Z (fuel + 1) listed a w :=
  ⟨fun h0 => absurd (hr ▸ h0) hne, hr ▸ h⟩

theorem wp_region_L {id : Nat} {a : Act} {w : World} (Z : List Nat) (hm : P.follows .mixedOrders = true)
    (h : wpAnyL P .any ops Q S Z ops.size (Array.replicate ops.size false) a { w with drawn := w.drawn + 1 }) : (Code.region id ops true).wp P Q a w :=
  wp_region_any hm (wpAny_of_L _ _ _ _ h)

/-- An operation that is wanted, and yields; what it comes to is found. -/
theorem onA (i : Nat) (C : List Nat) (d : Option Tmp) {fuel : Nat} {listed : Array Bool} {a a2 : Act} {w : World} {oi : Oper} {v : Value} (hi : ops[i]? = some oi) (hd : oi.dst = d)
    (h : wpAnyL P md ops Q S Z fuel (listed.setIfInBounds i true) a2 w) (hs : Region.noSelect ops = true := by kernel_rfl) (hf : Region.free md ops listed i = true := by kernel_rfl) (hr : (Region.ready md ops listed).contains i = true := by kernel_rfl) (hc : waitsL md ops listed C Z i = true := by kernel_rfl)
    (hw : Region.wanted oi (yielded ops a.tmps) = true := by rfl) (hS : S w := by assumption) (hy : ∀ w, S w → (execOp a.eval oi).run P w = .ok (.value v) w := by (intro w hSw; (try rw [hSS] at hSw); (try dsimp only at hSw); go_simp; try with_reducible rfl))
    (ha : a.put d v = a2 := by ((try simp only [Act.put, List.setIfInBounds_toArray, List.set_cons_zero, List.set_cons_succ]); exact rfl))
    (hQ : ∀ c a w, Q (.panic c) (a.put d v) w → Q (.panic c) a w := by exact fun _ _ _ h => h) : wpAnyL P md ops Q S Z (fuel + 1) listed a w := by
  subst hd ha
  exact wpAnyL_take C hi hs hf hr hc hQ (.inl ⟨hw, hy⟩) hS h
/-- What it comes to is written plainly. -/
theorem putA {fuel : Nat} {listed : Array Bool} {a a2 : Act} {w : World} (h : wpAnyL P md ops Q S Z fuel listed a2 w) (ha : a = a2 := by ((try simp only [Act.put, List.setIfInBounds_toArray, List.set_cons_zero, List.set_cons_succ]); exact rfl)) : wpAnyL P md ops Q S Z fuel listed a w := by
  subst ha
  exact h
/-- An operation that comes up alone, and does what it does. -/
theorem oneL (i : Nat) {fuel : Nat} {listed : Array Bool} {a : Act} {w : World} {oi : Oper} (hi : ops[i]? = some oi) (hr : Region.ready md ops listed = [i]) (hw : Region.wanted oi (yielded ops a.tmps) = true)
    (h : oi.wp P a w (fun a' w' => ((∀ z ∈ Z, (listed.setIfInBounds i true).getD z true = false) → S w') ∧ wpAnyL P md ops Q S Z fuel (listed.setIfInBounds i true) a' w') Q) : wpAnyL P md ops Q S Z (fuel + 1) listed a w := by
  refine wpAnyL_all hr (by simp) fun j hj => ?_
  simp only [List.mem_singleton] at hj
  subst hj
  unfold wpOp
  rw [hi]
  simp only [hw, if_true]
  exact .inl h
/-- A call of a function, alone in its turn. -/
theorem callL (i : Nat) (d : Option Tmp) {fuel : Nat} {listed : Array Bool} {a : Act} {w : World} {oi : Oper} {f : FuncId} {args : Array Value} {post : Ending → World → Prop} (hi : ops[i]? = some oi) (hd : oi.dst = d) (hr : Region.ready md ops listed = [i]) (hw : Region.wanted oi (yielded ops a.tmps) = true)
    (hop : (execOp a.eval oi).run P w = .ok (.enter f args) w) (hc : Calls P f args w post)
    (h : ∀ e w', post e w' → ∃ u, e = .returned u ∧ S w' ∧ wpAnyL P md ops Q S Z fuel (listed.setIfInBounds i true) (a.put d u) w') : wpAnyL P md ops Q S Z (fuel + 1) listed a w := by
  subst hd
  refine oneL i hi hr hw ?_
  unfold Oper.wp
  rw [hop]
  simp only [Oper.upon]
  refine hc.mono fun e w' he => ?_
  obtain ⟨u, rfl, h1, h2⟩ := h e w' he
  exact ⟨fun _ => h1, h2⟩
/-- The beginning, behind the draw. -/
theorem wp_region_L_drew {id : Nat} {a : Act} {w : World} (Z : List Nat) (hm : P.follows .mixedOrders = true) (hS : S w.drew)
    (h : S w.drew → wpAnyL P .any ops Q S Z ops.size (Array.replicate ops.size false) a w.drew) : (Code.region id ops true).wp P Q a w := wp_region_L Z hm (h hS)
/-- One of Z has come up. -/
theorem zL {listed : Array Bool} {w : World} (h : (Z.all fun z => !listed.getD z true) = false) : (∀ z ∈ Z, listed.getD z true = false) → S w := fun hz => by
  have : (Z.all fun z => !listed.getD z true) = true := List.all_eq_true.2 fun z hz' => by rw [hz z hz']; rfl
  rw [this] at h; cases h
/-- An operation that comes up alone and yields a value. -/
theorem valL (i : Nat) (d : Option Tmp) {fuel : Nat} {listed : Array Bool} {a : Act} {w w' : World} {oi : Oper} {v : Value} (hi : ops[i]? = some oi) (hd : oi.dst = d) (hr : Region.ready md ops listed = [i]) (hw : Region.wanted oi (yielded ops a.tmps) = true)
    (hop : (execOp a.eval oi).run P w = .ok (.value v) w') (hz : (∀ z ∈ Z, (listed.setIfInBounds i true).getD z true = false) → S w')
    (h : wpAnyL P md ops Q S Z fuel (listed.setIfInBounds i true) (a.put d v) w') : wpAnyL P md ops Q S Z (fuel + 1) listed a w := by
  subst hd
  refine oneL i hi hr hw ?_
  unfold Oper.wp
  rw [hop]
  exact ⟨hz, h⟩
/-- One that yields none. -/
theorem skipL (i : Nat) (d : Option Tmp) {fuel : Nat} {listed : Array Bool} {a : Act} {w w' : World} {oi : Oper} (hi : ops[i]? = some oi) (hd : oi.dst = d) (hr : Region.ready md ops listed = [i]) (hw : Region.wanted oi (yielded ops a.tmps) = true)
    (hop : (execOp a.eval oi).run P w = .ok .skip w') (hz : (∀ z ∈ Z, (listed.setIfInBounds i true).getD z true = false) → S w')
    (h : wpAnyL P md ops Q S Z fuel (listed.setIfInBounds i true) (a.put d undef) w') : wpAnyL P md ops Q S Z (fuel + 1) listed a w := by
  subst hd
  refine oneL i hi hr hw ?_
  unfold Oper.wp
  rw [hop]
  exact ⟨hz, h⟩
/-- All have come up. -/
theorem doneL {listed : Array Bool} {a : Act} {w : World} (hr : Region.ready md ops listed = []) (h : Q .normal a w) : ∀ fuel, wpAnyL P md ops Q S Z fuel listed a w
  | 0 => ⟨hr, h⟩
  | _ + 1 => ⟨fun _ => h, by rw [hr]; simp⟩
end
end Go.Proofs.Ytblfeokjlecgkaa

/- Tokens, as the document reads them: texts in quotes: how far they go. -/
namespace Go.Proofs.Ytblfeokjlecgkaa
open Go.RowKit

attribute [local go_sem ↓] Go.wp_at_zero Go.wp_at_succ

set_option maxRecDepth 100000 in
set_option maxHeartbeats 4000000 in
theorem cont_any (s : ByteArray) (j a b : Int) (w : World) (h0 : 0 ≤ j) : Calls Try.prog 186 #[.string s, .int .i64 j, .int .u8 a, .int .u8 b] w fun e w' => ∃ r : Bool, e = .returned (.bool r) ∧ (r = true → j < s.size) ∧ w = w' := by
  obtain ⟨i, rfl⟩ := Int.eq_ofNat_of_zero_le h0
  by_cases hp : i < s.size
  · go_enter Try.func186, Try.ntmps186
    go_wp2_with (go_at_call 141; refine (within_any _ _ _ _).mono ?_; rintro e w' ⟨rfl, rfl⟩)
    all_goals go_ret
    all_goals exact ⟨_, rfl, fun _ => by omega, rfl⟩
  · go_enter Try.func186, Try.ntmps186
    go_wp2_with fail
    go_ret
    exact ⟨false, rfl, fun h => (by cases h), rfl⟩

set_option maxRecDepth 100000 in
set_option maxHeartbeats 8000000 in
theorem long_any (s : ByteArray) (i : Nat) (w : World) (hp : i < s.size) (hs : s.size ≤ 100000) : Calls Try.prog 149 #[.string s, .int .i64 i] w fun e w' => ∃ n : Nat, e = .returned (.int .i64 n) ∧ i + n ≤ s.size ∧ w = w' := by
  have hcase : (((s[i]'hp).toNat : Int) < 128) ∨ (¬ ((s[i]'hp).toNat : Int) < 128 ∧ decide ((194 : Int) ≤ ((s[i]'hp).toNat : Int) ∧ ((s[i]'hp).toNat : Int) ≤ 223) = false ∧ decide ((224 : Int) ≤ ((s[i]'hp).toNat : Int) ∧ ((s[i]'hp).toNat : Int) ≤ 239) = false ∧ decide ((240 : Int) ≤ ((s[i]'hp).toNat : Int) ∧ ((s[i]'hp).toNat : Int) ≤ 244) = false ∧ ¬ ((s[i]'hp).toNat : Int) = 224 ∧ ¬ ((s[i]'hp).toNat : Int) = 237 ∧ ¬ ((s[i]'hp).toNat : Int) = 240 ∧ ¬ ((s[i]'hp).toNat : Int) = 244) ∨
      (¬ ((s[i]'hp).toNat : Int) < 128 ∧ decide ((194 : Int) ≤ ((s[i]'hp).toNat : Int) ∧ ((s[i]'hp).toNat : Int) ≤ 223) = true ∧ decide ((224 : Int) ≤ ((s[i]'hp).toNat : Int) ∧ ((s[i]'hp).toNat : Int) ≤ 239) = false ∧ decide ((240 : Int) ≤ ((s[i]'hp).toNat : Int) ∧ ((s[i]'hp).toNat : Int) ≤ 244) = false ∧ ¬ ((s[i]'hp).toNat : Int) = 224 ∧ ¬ ((s[i]'hp).toNat : Int) = 237 ∧ ¬ ((s[i]'hp).toNat : Int) = 240 ∧ ¬ ((s[i]'hp).toNat : Int) = 244) ∨
      (¬ ((s[i]'hp).toNat : Int) < 128 ∧ decide ((194 : Int) ≤ ((s[i]'hp).toNat : Int) ∧ ((s[i]'hp).toNat : Int) ≤ 223) = false ∧ decide ((224 : Int) ≤ ((s[i]'hp).toNat : Int) ∧ ((s[i]'hp).toNat : Int) ≤ 239) = true ∧ decide ((240 : Int) ≤ ((s[i]'hp).toNat : Int) ∧ ((s[i]'hp).toNat : Int) ≤ 244) = false ∧ ¬ ((s[i]'hp).toNat : Int) = 240 ∧ ¬ ((s[i]'hp).toNat : Int) = 244) ∨
      (¬ ((s[i]'hp).toNat : Int) < 128 ∧ decide ((194 : Int) ≤ ((s[i]'hp).toNat : Int) ∧ ((s[i]'hp).toNat : Int) ≤ 223) = false ∧ decide ((224 : Int) ≤ ((s[i]'hp).toNat : Int) ∧ ((s[i]'hp).toNat : Int) ≤ 239) = false ∧ decide ((240 : Int) ≤ ((s[i]'hp).toNat : Int) ∧ ((s[i]'hp).toNat : Int) ≤ 244) = true ∧ ¬ ((s[i]'hp).toNat : Int) = 224 ∧ ¬ ((s[i]'hp).toNat : Int) = 237) := by
    simp only [decide_eq_true_eq, decide_eq_false_iff_not]
    omega
  rcases hcase with h1 | ⟨h1, h2, h3, h4, h5, h6, h7, h8⟩ | ⟨h1, h2, h3, h4, h5, h6, h7, h8⟩ | ⟨h1, h2, h3, h4, h5, h6⟩ | ⟨h1, h2, h3, h4, h5, h6⟩
  all_goals
    go_enter Try.func149, Try.ntmps149
    go_wp2_with (first
      | (go_at_call 141; refine (within_any _ _ _ _).mono ?_; rintro e w' ⟨rfl, rfl⟩; first | rw [h2] | rw [h3] | rw [h4])
      | (go_at_call 186; refine (cont_any s _ _ _ _ (by omega)).mono ?_; rintro e w' ⟨r1, rfl, hr1, rfl⟩; cases r1 <;> simp at hr1))
    all_goals go_ret
    all_goals first | exact ⟨0, rfl, by omega, rfl⟩ | exact ⟨1, rfl, by omega, rfl⟩ | exact ⟨2, rfl, by omega, rfl⟩ | exact ⟨3, rfl, by omega, rfl⟩ | exact ⟨4, rfl, by omega, rfl⟩

def sixN (c : Int) : Int := if 48 ≤ c ∧ c ≤ 57 then c - 48 else if 97 ≤ c ∧ c ≤ 102 then c - 97 + 10 else -1

theorem sixN_le (c : Int) : sixN c ≤ 15 := by
  unfold sixN
  split
  · omega
  · split <;> omega

set_option maxRecDepth 100000 in
set_option maxHeartbeats 4000000 in
theorem sixteen_any (c : Int) (w : World) : Calls Try.prog 187 #[.int .u8 c] w fun e w' => e = .returned (.int .i64 (sixN c)) ∧ w = w' := by
  go_enter Try.func187, Try.ntmps187
  go_wp2_with (go_at_call 141; refine (within_any _ _ _ _).mono ?_; rintro e w' ⟨rfl, rfl⟩)
  all_goals go_ret
  · rename_i h
    exact ⟨by unfold sixN; rw [if_pos h]; rfl, rfl⟩
  · rename_i h h2
    exact ⟨by unfold sixN; rw [if_neg (by omega), if_pos h2]; rfl, rfl⟩
  · rename_i h h2
    exact ⟨by unfold sixN; rw [if_neg (by omega), if_neg (by omega)]; rfl, rfl⟩

theorem cell_new1 (w : World) (u : Value) (t : TypeId) : (w.alloc (.cells #[u] t)).drew.cell? ⟨w.heap.size, 0, none⟩ = some u := by
  have h1 := heap_alloc_new w (.cells #[u] t)
  show World.cell? (w.alloc (.cells #[u] t)) ⟨w.heap.size, 0, none⟩ = some u
  simp only [World.cell?, h1]
  rfl
theorem conv_one (W : World) (b : Nat) (v : Int) (h : W.cell? ⟨b, 0, none⟩ = some (.int .u8 v)) : (Go.convert 217 9 (.slice (some ⟨b, 0, none⟩) 1 1)).run Try.prog W = .ok (.string (strOfNums [v])) W :=
  run_convert_bytes_arg W 217 5 (by kernel_rfl) (by kernel_rfl) b 0 1 1 [v] rfl (fun i hi => by
    have : i = 0 := by omega
    subst this
    exact h) 9 (by kernel_rfl)

set_option maxRecDepth 100000 in
set_option maxHeartbeats 4000000 in
theorem escaped_any (s : ByteArray) (i : Nat) (w : World) (hs : s.size ≤ 100000) (hi : i < s.size) : Calls Try.prog 150 #[.string s, .int .i64 i] w fun e w' => ∃ (x : ByteArray) (n : Nat), e = .returned (.tuple #[.string x, .int .i64 n]) ∧ (n ≠ 0 → i + n ≤ s.size) ∧ x.size ≤ 1 ∧ Below w.heap.size w w' := by
  by_cases h1 : i + 1 < s.size
  · have h1' : ¬ (i : Int) + 1 ≥ s.size := by omega
    go_enter Try.func150, Try.ntmps150
    go_upto_region 12 with fail
    iterate 4
      · go_ret2
        exact ⟨_, 2, rfl, fun _ => by omega, by first | decide | (simp; omega), Below.refl _ _⟩
    · by_cases h3 : i + 3 < s.size
      · have h3' : (i : Int) + 3 < s.size := by omega
        go_upto_region 13 with (go_at_call 187; refine (sixteen_any _ _).mono ?_; rintro e w' ⟨rfl, rfl⟩)
        · have ha := sixN_le ((s[i + 2]'(by omega)).toNat : Int)
          have hb := sixN_le ((s[i + 3]'(by omega)).toNat : Int)
          have h0 : 0 ≤ sixN ((s[i + 2]'(by omega)).toNat : Int) ∧ 0 ≤ sixN ((s[i + 3]'(by omega)).toNat : Int) := ⟨by assumption, by assumption⟩
          have h20 : (0 : Int) ≤ (i : Int) + 2 := by omega
          have h21 : (i : Int) + 2 < s.size := by omega
          have h30 : (0 : Int) ≤ (i : Int) + 3 := by omega
          have hw2 : IntKind.i64.wrap ((i : Int) + 2) = (i : Int) + 2 := IntWalk.i64_in _ (by omega)
          have hw3 : IntKind.i64.wrap ((i : Int) + 3) = (i : Int) + 3 := IntWalk.i64_in _ (by omega)
          have hw4 : IntKind.i64.wrap (16 * sixN ((s[i + 2]'(by omega)).toNat : Int)) = 16 * sixN ((s[i + 2]'(by omega)).toNat : Int) := IntWalk.i64_in _ (by omega)
          have ht2 : ((i : Int) + 2).toNat = i + 2 := by omega
          have ht3 : ((i : Int) + 3).toNat = i + 3 := by omega
          obtain ⟨SS, hSS⟩ : ∃ SS : World → Prop, SS = fun _ => True := ⟨_, rfl⟩
          have SSf : ∀ v, SS v := fun v => by rw [hSS]; trivial
          refine wp_region_L_drew (S := SS) [] (by kernel_rfl) (SSf _) (fun hHeld => ?_)
          refine onA 0 [] (some 51) rfl rfl ?_
          refine onA 1 [] (some 52) rfl rfl ?_
          refine onA 2 [] (some 53) rfl rfl ?_
          refine onA 3 [] (some 54) rfl rfl ?_
          refine onA 6 [] (some 57) rfl rfl ?_
          refine onA 7 [] (some 58) rfl rfl ?_
          refine onA 8 [] (some 59) rfl rfl ?_
          refine onA 9 [] (some 60) rfl rfl ?_
          refine callL 4 (some 55) (args := #[.int .u8 ((s[i + 2]'(by omega)).toNat : Int)]) rfl rfl (by kernel_rfl) (by rfl) (by go_simp) (sixteen_any _ _) ?_
          rintro e w1 ⟨rfl, rfl⟩
          refine ⟨.int .i64 _, rfl, SSf _, ?_⟩
          refine putA ?_
          refine onA 5 [] (some 56) rfl rfl ?_
          refine callL 10 (some 61) (args := #[.int .u8 ((s[i + 3]'(by omega)).toNat : Int)]) rfl rfl (by kernel_rfl) (by rfl) (by go_simp) (sixteen_any _ _) ?_
          rintro e w1 ⟨rfl, rfl⟩
          refine ⟨.int .i64 _, rfl, SSf _, ?_⟩
          refine putA ?_
          refine onA 11 [] (some 62) rfl rfl ?_
          refine onA 12 [] (some 63) rfl rfl ?_
          refine valL 13 (some 64) (v := ?_) (w' := ?_) rfl rfl (by kernel_rfl) (by rfl) ?_ (fun _ => SSf _) ?_
          rotate_left
          rotate_left
          · (go_simp; first | with_reducible rfl | (constructor <;> with_reducible rfl))
          refine putA ?_
          refine valL 14 (some 65) (v := ?_) (w' := ?_) rfl rfl (by kernel_rfl) (by rfl) ?_ (fun _ => SSf _) ?_
          rotate_left
          rotate_left
          · (go_simp; rw [conv_one _ _ _ (cell_new1 _ _ _)]; exact rfl)
          refine putA ?_
          refine onA 15 [] (some 4) rfl rfl ?_ (hS := SSf _)
          refine onA 16 [] (some 5) rfl rfl ?_ (hS := SSf _)
          refine doneL (by kernel_rfl) ?_ _
          go_wp2_with fail
          go_ret2
          exact ⟨_, 4, rfl, fun _ => by omega, by rw [strOfNums_size]; exact Nat.le_refl 1, ext_alloc (Below.refl _ _).drew _⟩
        all_goals
          go_ret2
          exact ⟨_, 0, rfl, fun h => absurd rfl h, by decide, Below.refl _ _⟩
      · have h3' : ¬ (i : Int) + 3 < s.size := by omega
        go_wp2_with fail
        go_ret2
        exact ⟨_, 0, rfl, fun h => absurd rfl h, by decide, Below.refl _ _⟩
    · go_ret2
      exact ⟨_, 0, rfl, fun h => absurd rfl h, by decide, Below.refl _ _⟩
  · go_enter Try.func150, Try.ntmps150
    go_wp2_with fail
    go_ret2
    exact ⟨_, 0, rfl, fun h => absurd rfl h, by decide, Below.refl _ _⟩

set_option maxRecDepth 100000 in
set_option maxHeartbeats 8000000 in
theorem unquote_any (s : ByteArray) (w : World) (hs : s.size ≤ 100000) : Calls Try.prog 116 #[.string s] w fun e w' => ∃ (x : ByteArray) (n : Nat) (e0 : Int), e = .returned (.tuple #[.string x, .int .i64 n, .int .i64 e0]) ∧ (e0 = 0 → 2 ≤ n) ∧ n ≤ s.size ∧ Below w.heap.size w w' := by
  by_cases h0 : 0 < s.size
  · have hz : ((s.size : Int) == 0) = false := by rw [beq_eq_false_iff_ne]; omega
    cases hq34 : (((s[0]'h0).toNat : Int) != 34) with
    | true =>
      go_enter Try.func116, Try.ntmps116
      go_wp2_with fail
      go_ret3
      exact ⟨_, 0, 2, rfl, fun h => (by cases h), Nat.zero_le _, Below.refl _ _⟩
    | false =>
      go_enter Try.func116, Try.ntmps116
      go_wp2_with fail
      go_loopw [5, 6, 7, 8, 9, 10] (fun s5 s6 _ _ _ _ wr => ∃ (out : ByteArray) (i : Nat), s5 = .string out ∧ s6 = .int .i64 i ∧ 1 ≤ i ∧ i ≤ s.size ∧ out.size ≤ 4 * i ∧ Hid (Below w.heap.size w wr)) (fun _ s6 _ _ _ _ _ => s.size - (intOf s6).toNat)
      case atStart => exact ⟨_, 1, rfl, rfl, Nat.le_refl _, h0, by decide, Lib.hid (Below.refl _ _)⟩
      case round =>
        obtain ⟨out, i, rfl, rfl, hi1, hi, hou, HB⟩ := hrel
        by_cases hp : i < s.size
        · go_wp2_with fail
          · go_ret3
            exact ⟨_, i + 1, 0, rfl, fun _ => by omega, by omega, HB.out⟩
          · refine (long_any s i wr hp hs).mono ?_
            rintro e w1 ⟨n, rfl, hn, rfl⟩
            by_cases hn0 : n = 0
            · subst hn0
              go_wp2_with fail
              go_ret3
              exact ⟨_, 0, 2, rfl, fun h => (by cases h), Nat.zero_le _, HB.out⟩
            · have hn0' : ¬ (n : Int) = 0 := by omega
              have hcat : (s.extract i (i + n)).size = n := by simp; omega
              go_wp2_with fail
              · go_ret3
                exact ⟨_, 0, 2, rfl, fun h => (by cases h), Nat.zero_le _, HB.out⟩
              · have hes := escaped_any s i wr hs hp
                refine hes.mono ?_
                rintro e w2 ⟨x, q, rfl, hq, hx1, hb2⟩
                have HB2 := Lib.hid (ext_trans HB.out hb2)
                clear hes hb2
                by_cases hq0 : q = 0
                · subst hq0
                  go_wp2_with fail
                  go_ret3
                  exact ⟨_, 0, 2, rfl, fun h => (by cases h), Nat.zero_le _, HB2.out⟩
                · have hq0' : ¬ (q : Int) = 0 := by omega
                  have hiq := hq hq0
                  go_wp2_with fail
                  clear hcat
                  go_roundw
                  case rel => exact ⟨_, i + q, rfl, by go_num, by omega, hiq, by simp [ByteArray.size_append]; omega, HB2⟩
                  case measure => simp [intOf]; omega
              · clear hcat
                go_roundw
                case rel => exact ⟨_, i + n, rfl, by go_num, by omega, hn, by simp [ByteArray.size_append]; omega, HB⟩
                case measure => simp [intOf]; omega
              · go_ret3
                exact ⟨_, 0, 2, rfl, fun h => (by cases h), Nat.zero_le _, HB.out⟩
        · go_wp2_with fail
          go_ret3
          exact ⟨_, 0, 2, rfl, fun h => (by cases h), Nat.zero_le _, HB.out⟩
  · have h0' : (s.size : Int) = 0 := by omega
    go_enter Try.func116, Try.ntmps116
    go_wp2_with fail
    go_ret3
    exact ⟨_, 0, 2, rfl, fun h => (by cases h), Nat.zero_le _, Below.refl _ _⟩
end Go.Proofs.Ytblfeokjlecgkaa

/- What is known goes in no circle: a rank. -/
namespace Go.Proofs.Ytblfeokjlecgkaa

/-- A number for each variable: what a known one leads to has a smaller one. -/
def Kn.Rk (S : Kn) : Prop :=
  ∃ r : Int → Nat, (∀ v, S.κ v = none → r v = 0) ∧ ∀ v t, S.κ v = some t → 0 < r v ∧ (t.k = 8 → r t.n < r v) ∧ ∀ ls q, S.L v = some ls → t.tl = some q → r q < r v

theorem Kn.Rk.put {S S' : Kn} (h : S.Rk) {v : Int} {t : Ut} (hv : S.κ v = none) (hκ : S'.κ = upd S.κ v t) (hL : ∀ u s, S.κ u = some s → S'.L u = S.L u)
    (h8 : t.k = 8 → S.κ t.n = none ∧ t.n ≠ v) (ht : ∀ ls q, S'.L v = some ls → t.tl = some q → S.κ q = none ∧ q ≠ v) : S'.Rk := by
  obtain ⟨r, h1, h2⟩ := h
  have hz : ∀ u, S.κ u = none → u ≠ v → (if S'.κ u = none then 0 else if u = v then 1 else r u + 1) = 0 := fun u hu hne => by
    rw [hκ, upd_other hne, if_pos hu]
  have hle : ∀ u, (if S'.κ u = none then 0 else if u = v then 1 else r u + 1) ≤ r u + 1 := fun u => by
    split
    · omega
    · split <;> omega
  refine ⟨fun u => if S'.κ u = none then 0 else if u = v then 1 else r u + 1, fun u hu => if_pos hu, fun u s hu => ?_⟩
  have hne : ¬ S'.κ u = none := by rw [hu]; simp
  simp only
  rw [if_neg hne]
  by_cases e : u = v
  · subst e
    rw [hκ, upd_same] at hu
    injection hu with hu
    subst hu
    rw [if_pos rfl]
    refine ⟨by omega, fun h => ?_, fun ls q hls hq => ?_⟩
    · obtain ⟨a, b⟩ := h8 h
      rw [hz _ a b]
      omega
    · obtain ⟨a, b⟩ := ht ls q hls hq
      rw [hz _ a b]
      omega
  · rw [hκ, upd_other e] at hu
    rw [if_neg e]
    obtain ⟨a, b, c⟩ := h2 u s hu
    refine ⟨by omega, fun h => ?_, fun ls q hls hq => ?_⟩
    · have := hle s.n
      have := b h
      omega
    · rw [hL u s hu] at hls
      have := hle q
      have := c ls q hls hq
      omega

end Go.Proofs.Ytblfeokjlecgkaa

/- The solver's small functions: New, fresh, isRow, look. -/
namespace Go.Proofs.Ytblfeokjlecgkaa
open Go.RowKit

theorem NodeAt.cells {X : Nat → Prop} {w : World} {b : Nat} {t : Ut} (h : NodeAt X w b t) : w.cell? ⟨b, 0, none⟩ = some (.int .i64 t.k) ∧ w.cell? ⟨b, 1, none⟩ = some (.int .i64 t.n) := by
  cases h with
  | mk _ k n fs tl A B ls bs ca cb tv hx hb => exact ⟨by simp [World.cell?, hb, Ut.k], by simp [World.cell?, hb, Ut.n]⟩

theorem SolAt.cell {X : Nat → Prop} {s m : Nat} {first : Int} {w : World} {S : Kn} (h : SolAt X s m first w S) : w.cell? ⟨s, 2, none⟩ = some (.map (some m)) ∧ w.cell? ⟨s, 1, none⟩ = some (.int .i64 S.m) ∧ w.cell? ⟨s, 0, none⟩ = some (.int .i64 first) := by
  simp [World.cell?, h.st]

theorem SolAt.bel {X : Nat → Prop} {s m : Nat} {first : Int} {w w' : World} {S : Kn} (h : SolAt X s m first w S) (hb : Below w.heap.size w w') : SolAt X s m first w' S := h.fr (Fr.below (X := fun _ => False) hb) fun _ _ e => e.elim
theorem NodeAt.bel {X : Nat → Prop} {w w' : World} {b : Nat} {t : Ut} (h : NodeAt X w b t) (hb : Below w.heap.size w w') : NodeAt X w' b t := h.fr (Fr.below (X := fun _ => False) hb) fun _ _ e => e.elim

end Go.Proofs.Ytblfeokjlecgkaa

/- Nodes that are being made: their labels and children grow. -/
namespace Go.Proofs.Ytblfeokjlecgkaa
open Go.RowKit

/-- A node whose children grow, in a slice of its own. -/
structure NodeK (base g : Nat) (k n : Int) (lv : Value) (B : Option Addr) (cb : Nat) (bs : List Nat) (tv : Value) (w : World) : Prop where
  lo : base ≤ g
  blk : w.heap[g]? = some (.cells #[.int .i64 k, .int .i64 n, lv, .slice B bs.length cb, tv] 105 (0, 0))
  kb : OwnL 93 1 encB w base B cb bs
  gb : ∀ a, B = some a → a.block ≠ g

theorem heap_set {w : World} {g : Nat} {cs : Array Value} {t : TypeId} (h : w.heap[g]? = some (.cells cs t (0, 0))) (i : Nat) (u : Value) : (w.setCell ⟨g, i, none⟩ u).heap[g]? = some (.cells (cs.setIfInBounds i u) t (0, 0)) := by
  simp only [World.setCell, Array.getElem?_modify, h, if_true, Option.map_some]
  simp

section
variable {base g : Nat} {k n : Int} {lv tv : Value} {B : Option Addr} {cb : Nat} {bs : List Nat} {w w' : World} {Y : Nat → Prop}

theorem OwnL.fr {α : Type} {enc : α → List Value} {e size cap : Nat} {A : Option Addr} {l : List α} (h : OwnL e size enc w base A cap l) (hf : Fr Y w w') (hY : ∀ b, Y b → b < base) : OwnL e size enc w' base A cap l := by
  cases A with
  | none =>
    rcases h.2 with ⟨hv, hn⟩ | ⟨g, cap', cur, hv, _⟩
    · have hl : l = [] := List.eq_nil_of_length_eq_zero hn
      subst hl
      injection hv with _ _ hc
      subst hc
      exact OwnL.nil
    · cases hv
  | some a =>
    rcases h.2 with ⟨hv, hn⟩ | ⟨g, cap', cur, hv, hbg, hg, hr⟩
    · cases hv
    · have hlt : g < w.heap.size := (Array.getElem?_eq_some_iff.1 hg).1
      exact ⟨h.1, .inr ⟨g, cap', cur, hv, hbg, (hf.block g hlt fun e => by have := hY g e; omega).trans hg, hr⟩⟩

theorem NodeK.step (h : NodeK base g k n lv B cb bs tv w) (hf : Fr Y w w') (hY : ∀ b, Y b → b < base) : NodeK base g k n lv B cb bs tv w' := by
  have hlt : g < w.heap.size := (Array.getElem?_eq_some_iff.1 h.blk).1
  exact ⟨h.lo, (hf.block g hlt fun e => by have := hY g e; have := h.lo; omega).trans h.blk, h.kb.fr hf hY, h.gb⟩

theorem NodeK.cells (h : NodeK base g k n lv B cb bs tv w) : w.cell? ⟨g, 0, none⟩ = some (.int .i64 k) ∧ w.cell? ⟨g, 1, none⟩ = some (.int .i64 n) ∧ w.cell? ⟨g, 2, none⟩ = some lv ∧ w.cell? ⟨g, 3, none⟩ = some (.slice B bs.length cb) ∧
    w.frozen? ⟨g, 1, none⟩ = false ∧ w.frozen? ⟨g, 2, none⟩ = false ∧ w.frozen? ⟨g, 3, none⟩ = false ∧ w.frozen? ⟨g, 4, none⟩ = false := by
  simp [World.cell?, World.frozen?, h.blk]
end

/-- A node whose labels grow, too. -/
structure NodeM (base g : Nat) (k n : Int) (A : Option Addr) (ca : Nat) (ls : List ByteArray) (B : Option Addr) (cb : Nat) (bs : List Nat) (tv : Value) (w : World) : Prop where
  nk : NodeK base g k n (.slice A ls.length ca) B cb bs tv w
  la : OwnL 9 1 encL w base A ca ls
  ga : ∀ a, A = some a → a.block ≠ g
  ab : ∀ a b, A = some a → B = some b → a.block ≠ b.block

section
variable {base g : Nat} {k n : Int} {tv : Value} {A B : Option Addr} {ca cb : Nat} {ls : List ByteArray} {bs : List Nat} {w w' : World} {Y : Nat → Prop}

theorem NodeM.step (h : NodeM base g k n A ca ls B cb bs tv w) (hf : Fr Y w w') (hY : ∀ b, Y b → b < base) : NodeM base g k n A ca ls B cb bs tv w' :=
  ⟨h.nk.step hf hY, h.la.fr hf hY, h.ga, h.ab⟩

end

/-! ### Children that were made stand while their node grows -/

section
variable {X : Nat → Prop} {g c o n n' cb cb' : Nat} {A B B' : Option Addr} {W w2 : World} {t : Ut} {v : Value}

end

end Go.Proofs.Ytblfeokjlecgkaa
