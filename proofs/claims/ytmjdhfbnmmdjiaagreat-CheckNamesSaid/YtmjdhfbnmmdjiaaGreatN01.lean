/- Laid together by a tool from the texts of this seat: Same LawCPlain FrA FrP. Conditions: each theorem's own. -/
import Derived.Test.YtmjdhfbnmmdjiaaGreatK01
import Derived.Test.YtmjdhfbnmmdjiaaGreatK02
import Derived.Test.YtmjdhfbnmmdjiaaGreatK03
import Derived.Test.YtmjdhfbnmmdjiaaGreatK04
import Derived.Test.YtmjdhfbnmmdjiaaGreatK05
import Derived.Test.YtmjdhfbnmmdjiaaGreatK06
import Derived.Test.YtmjdhfbnmmdjiaaGreatK07
import Derived.Test.YtmjdhfbnmmdjiaaGreatK08
import Derived.Test.YtmjdhfbnmmdjiaaGreatK09
import Derived.Test.YtmjdhfbnmmdjiaaGreatK10
import Derived.Test.YtmjdhfbnmmdjiaaGreatK11
import Derived.Test.YtmjdhfbnmmdjiaaGreatK12
import Derived.Test.YtmjdhfbnmmdjiaaGreatK13
import Derived.Test.YtmjdhfbnmmdjiaaGreatK14
import Derived.Test.YtmjdhfbnmmdjiaaGreatK15
import Derived.Test.YtmjdhfbnmmdjiaaGreatK16
import Derived.Test.YtmjdhfbnmmdjiaaGreatK17
import Derived.Test.YtmjdhfbnmmdjiaaGreatK18
import Derived.Test.YtmjdhfbnmmdjiaaGreatK19
import Derived.Test.YtmjdhfbnmmdjiaaGreatK20
import Derived.Test.YtmjdhfbnmmdjiaaGreatK21
import Derived.Test.YtmjdhfbnmmdjiaaGreatK22
import Derived.Test.YtmjdhfbnmmdjiaaGreatK23
import Derived.Test.YtmjdhfbnmmdjiaaGreatK24
import Derived.Test.YtmjdhfbnmmdjiaaGreatK25
import Derived.Test.YtmjdhfbnmmdjiaaGreatProg
import Derived.WalkKit
import Derived.WalkSpells
import Derived.WalkLawsBesides
import Derived.Deep.Draws
import Derived.Deep.QuietTactic
import Derived.BigQuiet
import Derived.Lib.Hide
import Derived.Laws.StructEq
/- Nodes of types as data, slices of nodes as lists, and the small facts on worlds that all walks of this seat use. -/
namespace Go.Proofs.YtmjdhfbnmmdjiaaGreat
open Go.RowKit

section
variable {w w' : World} {B B' : Nat} {A : Option Addr} {xs : List Nd} {b o : Nat}

end

end Go.Proofs.YtmjdhfbnmmdjiaaGreat

/- The small functions on one node, each by its contract. -/
namespace Go.Proofs.YtmjdhfbnmmdjiaaGreat
open Go.RowKit

end Go.Proofs.YtmjdhfbnmmdjiaaGreat

/- Words and tags: what the program asks of a text's runes, and the document of its bytes. -/
namespace Go.Proofs.YtmjdhfbnmmdjiaaGreat
open Go.RowKit

end Go.Proofs.YtmjdhfbnmmdjiaaGreat

/- Words and tags as the document has them; labels. -/
namespace Go.Proofs.YtmjdhfbnmmdjiaaGreat
open Go.RowKit

end Go.Proofs.YtmjdhfbnmmdjiaaGreat

/- Functions that read slices of nodes, each by its contract. -/
namespace Go.Proofs.YtmjdhfbnmmdjiaaGreat
open Go.RowKit

theorem run_neNode (x y : Nd) (w : World) : (binOp .neq 49 x.val y.val).run Tryz.prog w = .ok (.bool (!ndEq x y)) w := by
  unfold Nd.val
  rw [run_neq_struct, show (10000 : Nat) = 9998 + 2 from rfl]
  have := eqNode 9998 x y w
  unfold Nd.val at this
  rw [this]
  rfl

theorem drop_eq_succ {xs ys : List Nd} {k : Nat} {x y : Nd} (hx : xs[k]? = some x) (hy : ys[k]? = some y) :
    decide (xs.drop k = ys.drop k) = (ndEq x y && decide (xs.drop (k + 1) = ys.drop (k + 1))) := by
  have h1 : xs.drop k = x :: xs.drop (k + 1) := by
    have hl := getq_lt hx
    rw [List.drop_eq_getElem_cons hl]
    rw [List.getElem?_eq_getElem hl] at hx
    injection hx with hx
    rw [hx]
  have h2 : ys.drop k = y :: ys.drop (k + 1) := by
    have hl := getq_lt hy
    rw [List.drop_eq_getElem_cons hl]
    rw [List.getElem?_eq_getElem hl] at hy
    injection hy with hy
    rw [hy]
  rw [h1, h2, Bool.eq_iff_iff]
  simp [ndEq_iff]

set_option maxHeartbeats 1000000 in
theorem one_any (A B : Option Addr) (c d Ba Bb : Nat) (xs ys : List Nd) (w : World) (ha : TyA w Ba A xs) (hb : TyA w Bb B ys)
    (hl : xs.length ≤ 9223372036854775807) :
    Calls Tryz.prog 17 #[.slice A xs.length c, .slice B ys.length d] w fun e w' => e = .returned (.bool (decide (xs = ys))) ∧ ∃ n, w' = w.drewN n := by
  by_cases hlen : xs.length = ys.length
  · rw [← hlen]
    have Hlen := Lib.hid hlen
    clear hlen
    go_enter Tryz.func17, Tryz.ntmps17
    go_wp2_with fail
    go_loopw [5] (fun i w' => ∃ k n : Nat, k ≤ xs.length ∧ i = .int .i64 k ∧ w' = w.drewN n ∧ Hid (decide (xs.drop k = ys.drop k) = decide (xs = ys))) (fun i _ => xs.length - (intOf i).toNat)
    case atStart => exact ⟨0, 0, Nat.zero_le _, rfl, rfl, Lib.hid rfl⟩
    case round =>
      obtain ⟨k, n, hk, rfl, rfl, hgood⟩ := hrel
      by_cases hp : k < xs.length
      · obtain ⟨x, hx⟩ := getq_ex hp
        obtain ⟨y, hy⟩ := getq_ex (show k < ys.length by rw [← Hlen.out]; exact hp)
        have hstep := Lib.hid (drop_eq_succ hx hy)
        obtain ⟨b1, o1, rfl, hb1, c10, c11, c12⟩ := ha.at_ hx
        obtain ⟨b2, o2, rfl, hb2, c20, c21, c22⟩ := hb.at_ hy
        have hne := run_neNode x y
        unfold Nd.val at hne
        have Hx := Lib.hid hx
        have Hy := Lib.hid hy
        clear hx hy
        cases he : ndEq x y
        all_goals
          have He := Lib.hid he
          rw [he] at hne
          clear he
          go_wp2_with fail
          go_quiet (fail)
          go_wp2_with fail
        · go_ret
          exact ⟨ret_bool (by rw [← hgood.out, hstep.out, He.out]; rfl), _, World.drewN_drewN ..⟩
        · go_roundw
          case rel => exact ⟨k + 1, _, hp, by go_num, rfl, Lib.hid (by rw [← hgood.out, hstep.out, He.out, Bool.true_and])⟩
          case measure => simp [intOf]; omega
      · have hfin := Lib.hid (show decide (xs.drop k = ys.drop k) = true by
          have := Hlen.out
          rw [List.drop_of_length_le (by omega), List.drop_of_length_le (by omega)]
          simp)
        go_wp2_with fail
        go_ret
        exact ⟨ret_bool (by rw [← hgood.out, hfin.out]), _, rfl⟩
  · have hle : ((xs.length : Int) != (ys.length : Int)) = true := by simp; omega
    have hfin := Lib.hid (show decide (xs = ys) = false by simp; rintro rfl; exact hlen rfl)
    clear hlen
    go_enter Tryz.func17, Tryz.ntmps17
    go_wp2_with fail
    go_ret
    exact ⟨ret_bool (by rw [hfin.out]), 0, rfl⟩

end Go.Proofs.YtmjdhfbnmmdjiaaGreat

/- Whether two types are alike: the document's loop, and the program's by a function value. -/
namespace Go.Proofs.YtmjdhfbnmmdjiaaGreat
open Go.RowKit

end Go.Proofs.YtmjdhfbnmmdjiaaGreat

/- The law CheckPlain. -/
namespace Go.Proofs.YtmjdhfbnmmdjiaaGreat
open Go.RowKit

structure CkArgs (w : World) (A EA : Option Addr) (bs : List Bn) (env : Env) (es : List Pt) : Prop where
  rd : ReadB w w.heap.size A bs
  nil : A = none → bs = []
  form : ∀ a, A = some a → ∃ b o, a = ⟨b, o, none⟩
  hv : EnvM w (fun _ => False) bs env
  hx : ExX w (fun _ => False) EA es
  sz : EnvS env
  len : es.length ≤ 9223372036854775807
theorem CkArgs.below {w v : World} {A EA : Option Addr} {bs : List Bn} {env : Env} {es : List Pt} (h : CkArgs w A EA bs env es) (hb : Below w.heap.size w v) : CkArgs v A EA bs env es :=
  ⟨(ReadL.below h.rd hb).more hb.size, h.nil, h.form, h.hv.fr (Fr.below hb : Fr (fun _ => False) w v) fun _q hq => .inl hq, h.hx.fr (Fr.below hb : Fr (fun _ => False) w v) fun _q hq => .inl hq, h.sz, h.len⟩
theorem CkArgs.call {w : World} {A EA : Option Addr} {c ec : Nat} {bs : List Bn} {env : Env} {es : List Pt} (h : CkArgs w A EA bs env es) (hg : GivenF env es) {r : Ans} (hr : chk 60 es env 0 = some r) :
    Calls Tryz.prog 11 #[.slice A bs.length c, .slice EA es.length ec] w (ExPost r w) :=
  expr_any 60 es hg.ok env r A EA c ec bs w h.rd h.nil h.form h.hv h.hx (by have := hg.env.1; omega) (by have := hg.few.1; omega) hr

end Go.Proofs.YtmjdhfbnmmdjiaaGreat

/- The free names of an expression. No program in sight. -/
namespace Go.Proofs.YtmjdhfbnmmdjiaaGreat

theorem strEqI {a b : ByteArray} (h : (a.toList == b.toList) = true) : a = b := Decidable.byContradiction fun hn => by
  have h2 := strNe hn
  rw [bne, h] at h2
  cases h2
def inB (s : ByteArray) (L : List ByteArray) : Bool := L.any fun x => decide (x = s)
theorem inB_true {s : ByteArray} {L : List ByteArray} : inB s L = true ↔ s ∈ L := by
  unfold inB
  rw [List.any_eq_true]
  constructor
  · rintro ⟨x, hx, h⟩
    rw [decide_eq_true_eq] at h
    exact h ▸ hx
  · exact fun h => ⟨s, h, by simp⟩
theorem inB_false {s : ByteArray} {L : List ByteArray} : inB s L = false ↔ s ∉ L := by
  rw [← inB_true]
  cases inB s L <;> simp
def moreB (p : Pt) (k : Nat) : List ByteArray := (if p.k = 2 ∨ p.k = 8 ∨ (p.k = 4 ∧ k = 1) ∨ (p.k = 5 ∧ k = 0) then [p.bd] else []) ++ if p.k = 5 then [p.nm] else []
def freeK (p : Pt) (fr : Nat → List ByteArray → List ByteArray) (bound : List ByteArray) : Nat → List Nat → List ByteArray
  | _, [] => []
  | k, c :: cs => fr c (bound ++ moreB p k) ++ freeK p fr bound (k + 1) cs
def freeM (es : List Pt) : Nat → Nat → List ByteArray → List ByteArray
  | 0, _, _ => []
  | f + 1, i, bound => match es[i]? with
    | none => []
    | some p => if p.k = 1 ∧ inB p.nm bound = false then [p.nm] else freeK p (freeM es f) bound 0 (rKids es (manyE p) (i + 1))
def freeE (es : List Pt) (i : Nat) (bound : List ByteArray) : List ByteArray := freeM es (es.length - i) i bound

theorem rEnd_ge : ∀ (xs : List Pt) (n p : Nat), p ≤ rEnd xs n p
  | _, 0, p => by simp [rEnd]
  | [], n + 1, p => by simp [rEnd]
  | x :: xs, n + 1, p => by
    simp only [rEnd]
    have := rEnd_ge xs (n + manyE x) (p + 1)
    omega
theorem rKids_le {es : List Pt} : ∀ (n a c : Nat), c ∈ rKids es n a → a ≤ c ∧ c < es.length
  | 0, a, c, h => by simp [rKids] at h
  | n + 1, a, c, h => by
    unfold rKids at h
    split at h
    · rcases List.mem_cons.1 h with rfl | h
      · exact ⟨Nat.le_refl _, by assumption⟩
      · have := rKids_le n _ c h
        have := rEnd_ge (es.drop a) 1 a
        omega
    · simp at h
theorem freeK_congr {p : Pt} {fr fr2 : Nat → List ByteArray → List ByteArray} (bound : List ByteArray) : ∀ (l : List Nat) (k : Nat), (∀ c ∈ l, ∀ b, fr c b = fr2 c b) → freeK p fr bound k l = freeK p fr2 bound k l
  | [], _, _ => rfl
  | c :: cs, k, h => by
    unfold freeK
    rw [h c (by simp), freeK_congr bound cs (k + 1) fun c hc => h c (by simp [hc])]
theorem freeM_fuel {es : List Pt} : ∀ (f g i : Nat) (bound : List ByteArray), es.length - i ≤ f → es.length - i ≤ g → freeM es f i bound = freeM es g i bound
  | 0, 0, _, _, _, _ => rfl
  | 0, g + 1, i, bound, h, _ => by
    unfold freeM
    rw [List.getElem?_eq_none (by omega)]
  | f + 1, 0, i, bound, _, h => by
    unfold freeM
    rw [List.getElem?_eq_none (by omega)]
  | f + 1, g + 1, i, bound, h, h2 => by
    unfold freeM
    cases hp : es[i]? with
    | none => rfl
    | some p =>
      dsimp only
      rw [freeK_congr bound _ 0 fun c hc b => freeM_fuel f g c b (by have := rKids_le _ _ _ hc; omega) (by have := rKids_le _ _ _ hc; omega)]
theorem freeE_eq {es : List Pt} {i : Nat} {p : Pt} (hp : es[i]? = some p) (bound : List ByteArray) :
    freeE es i bound = if p.k = 1 ∧ inB p.nm bound = false then [p.nm] else freeK p (freeE es) bound 0 (rKids es (manyE p) (i + 1)) := by
  have hi := getq_lt hp
  obtain ⟨n, hn⟩ : ∃ n, es.length - i = n + 1 := ⟨es.length - i - 1, by omega⟩
  unfold freeE
  rw [hn]
  conv => lhs; unfold freeM
  rw [hp]
  dsimp only
  rw [freeK_congr bound _ 0 fun c hc b => freeM_fuel n (es.length - c) c b (by have := rKids_le _ _ _ hc; omega) (Nat.le_refl _)]
theorem freeK_mem {p : Pt} {fr : Nat → List ByteArray → List ByteArray} {bound : List ByteArray} {s : ByteArray} : ∀ (l : List Nat) (k : Nat), s ∈ freeK p fr bound k l ↔ ∃ j c, l[j]? = some c ∧ s ∈ fr c (bound ++ moreB p (k + j))
  | [], k => by simp [freeK]
  | c :: cs, k => by
    unfold freeK
    rw [List.mem_append, freeK_mem cs (k + 1)]
    constructor
    · rintro (h | ⟨j, d, h1, h2⟩)
      · exact ⟨0, c, rfl, h⟩
      · exact ⟨j + 1, d, h1, by rw [show k + (j + 1) = k + 1 + j from by omega]; exact h2⟩
    · rintro ⟨j, d, h1, h2⟩
      cases j with
      | zero =>
        simp at h1
        subst h1
        exact .inl h2
      | succ j => exact .inr ⟨j, d, h1, by rw [show k + 1 + j = k + (j + 1) from by omega]; exact h2⟩
theorem freeM_bound {es : List Pt} {s : ByteArray} : ∀ (f i : Nat) (bound : List ByteArray), s ∈ freeM es f i bound ↔ s ∈ freeM es f i [] ∧ s ∉ bound
  | 0, _, _ => by simp [freeM]
  | f + 1, i, bound => by
    unfold freeM
    cases hp : es[i]? with
    | none => simp
    | some p =>
      dsimp only
      by_cases h1 : p.k = 1
      · have hm : manyE p = 0 := by unfold manyE; simp [h1]
        rw [hm]
        by_cases h2 : p.nm ∈ bound
        · rw [if_neg (fun h => inB_false.1 h.2 h2), if_pos ⟨h1, rfl⟩]
          simp only [rKids, freeK, List.not_mem_nil, List.mem_singleton, false_iff]
          rintro ⟨rfl, h⟩
          exact h h2
        · rw [if_pos ⟨h1, inB_false.2 h2⟩, if_pos ⟨h1, rfl⟩]
          simp only [List.mem_singleton]
          constructor
          · rintro rfl
            exact ⟨rfl, h2⟩
          · exact fun h => h.1
      · rw [if_neg (fun h => h1 h.1), if_neg (fun h => h1 h.1), freeK_mem, freeK_mem]
        constructor
        · rintro ⟨j, c, k1, k2⟩
          rw [freeM_bound f c] at k2
          simp only [List.mem_append, not_or] at k2
          exact ⟨⟨j, c, k1, by rw [freeM_bound f c]; exact ⟨k2.1, by simpa using k2.2.2⟩⟩, k2.2.1⟩
        · rintro ⟨⟨j, c, k1, k2⟩, k3⟩
          rw [freeM_bound f c] at k2
          exact ⟨j, c, k1, by rw [freeM_bound f c]; exact ⟨k2.1, by simp only [List.mem_append, not_or]; exact ⟨k3, by simpa using k2.2⟩⟩⟩
theorem freeE_bound {es : List Pt} {s : ByteArray} {i : Nat} {bound : List ByteArray} : s ∈ freeE es i bound ↔ s ∈ freeE es i [] ∧ s ∉ bound := freeM_bound _ _ _
theorem free_child {es : List Pt} {a k c : Nat} {p : Pt} {s : ByteArray} (hp : es[a]? = some p) (hc : (rKids es (manyE p) (a + 1))[k]? = some c) (hs : s ∈ freeE es c []) (hn : s ∉ moreB p k) : s ∈ freeE es a [] := by
  rw [freeE_eq hp]
  split
  · rename_i h
    rw [show manyE p = 0 from by unfold manyE; simp [h.1]] at hc
    simp [rKids] at hc
  · rw [freeK_mem]
    exact ⟨k, c, hc, by rw [freeE_bound]; exact ⟨hs, by simpa using hn⟩⟩

theorem rKids_cons {es : List Pt} {n a c : Nat} (h : EA es 1 a c) : rKids es (n + 1) a = a :: rKids es n c := by
  have := h.lt
  rw [rKids, if_pos (by omega), endO_rEnd _ _ _ _ h]
theorem free_len {es : List Pt} : ∀ (n : Nat), (∀ (i b : Nat) (bound : List ByteArray), EA es 1 i b → es.length - i ≤ n → (freeE es i bound).length ≤ b - i) ∧
    ∀ (m k a b : Nat) (p : Pt) (bound : List ByteArray), EA es m a b → es.length - a ≤ n → (freeK p (freeE es) bound k (rKids es m a)).length ≤ b - a
  | 0 => ⟨fun i b bound he hn => by have := he.lt; omega, fun m k a b p bound he hn => by
      have := he.lt
      have hm : m = 0 := by omega
      subst hm
      simp [rKids, freeK]⟩
  | n + 1 => by
    obtain ⟨_, ih2⟩ := free_len (es := es) n
    have h1 : ∀ (i b : Nat) (bound : List ByteArray), EA es 1 i b → es.length - i ≤ n + 1 → (freeE es i bound).length ≤ b - i := fun i b bound he hn => by
      obtain ⟨p, hp, he2⟩ := he.open
      have h1 := he.lt
      have h2 := he2.lt
      rw [freeE_eq hp]
      split
      · simp only [List.length_singleton]; omega
      · have := ih2 (manyE p) 0 (i + 1) b p bound he2 (by omega)
        omega
    refine ⟨h1, fun m => ?_⟩
    induction m with
    | zero => intro k a b p bound he hn; simp [rKids, freeK]
    | succ m ihm =>
      intro k a b p bound he hn
      obtain ⟨c, e1, e2⟩ := he.split
      have l1 := e1.lt
      have l2 := e2.lt
      rw [rKids_cons e1]
      unfold freeK
      rw [List.length_append]
      have h3 := h1 a c (bound ++ moreB p k) e1 hn
      have h4 := ihm (k + 1) c b p bound e2 (by omega)
      omega
end Go.Proofs.YtmjdhfbnmmdjiaaGreat

/- What check tells where names are added. No program in sight. -/
namespace Go.Proofs.YtmjdhfbnmmdjiaaGreat

theorem lookE_app (env add : Env) (s : ByteArray) : lookE (env ++ add) s = (lookE add s).or (lookE env s) := by
  unfold lookE
  rw [List.reverse_append, List.find?_append]
  cases List.find? _ add.reverse <;> simp
theorem lookE_miss {add : Env} {s : ByteArray} (h : lookE add s = none) : s ∉ add.map (·.1) := by
  intro hs
  obtain ⟨e, he, rfl⟩ := List.mem_map.1 hs
  unfold lookE at h
  rw [Option.map_eq_none_iff, List.find?_eq_none] at h
  exact h e (List.mem_reverse.2 he) (by simp)
theorem lookE_out {add : Env} {s : ByteArray} (h : s ∉ add.map (·.1)) : lookE add s = none := by
  unfold lookE
  rw [Option.map_eq_none_iff, List.find?_eq_none]
  intro e he h2
  have : e.1 = s := strEqI h2
  exact h (List.mem_map.2 ⟨e, List.mem_reverse.1 he, this⟩)

def RelE (Q : Prop) (S : List ByteArray) (env env2 : Env) : Prop := ∀ s ∈ S, lookE env s = lookE env2 s ∧ (Q → lookE env s ≠ none)
def RR (Q : Prop) (b : Nat) (x x2 : Option Ans) : Prop := x = x2 ∧ (Q → ∀ i, x ≠ some (.error (i, 5))) ∧ ∀ t c, x = some (.ok (t, c)) → c = b
section
variable {Q : Prop} {b d : Nat} {x x2 : Option Ans}
theorem RR.ok {t : List Nd} : RR Q b (some (.ok (t, b))) (some (.ok (t, b))) := ⟨rfl, fun _ i h => (by cases h), fun t c h => by injection h with h; injection h with h; injection h with _ h; exact h.symm⟩
theorem RR.err {i : Nat} : RR Q b (some (.error (i, 9))) (some (.error (i, 9))) := ⟨rfl, (fun _ j h => by injection h with h; injection h with h; injection h with _ h; cases h), fun t c h => by injection h with h; cases h⟩
theorem RR.no : RR Q b none none := ⟨rfl, fun _ j h => (by cases h), fun t c h => (by cases h)⟩
theorem RR.andA {f f2 : List Nd → Nat → Option Ans} (h : RR Q d x x2) (hf : ∀ t, RR Q b (f t d) (f2 t d)) : RR Q b (andA x f) (andA x2 f2) := by
  obtain ⟨rfl, h2, h3⟩ := h
  match x, h2, h3 with
  | none, _, _ => exact RR.no
  | some (.error (i, e)), h2, _ =>
    exact ⟨rfl, fun hq j h => by
      have : some (.error (i, e)) = some (Except.error (j, (5 : Int)) : Ans) := h
      exact h2 hq j this, fun t c h => by
      have : some (Except.error (i, e) : Ans) = some (.ok (t, c)) := h
      injection this with this; cases this⟩
  | some (.ok (t, c)), _, h3 =>
    have := h3 t c rfl
    subst this
    exact hf t
theorem RR.exit (h : RR Q b x x2) : RR Q b (exitM x) (exitM x2) := by
  obtain ⟨rfl, h2, h3⟩ := h
  refine ⟨rfl, fun hq i h => h2 hq i (exitM_some h), fun t c h => h3 t c (exitM_some h)⟩
end

def KidsF (es : List Pt) : Prop := ∀ (i : Nat) (p : Pt), es[i]? = some p → LabF es p (rKids es (manyE p) (i + 1))
def NxR (Q : Prop) (es : List Pt) (f : Nat) : Prop := ∀ (a b : Nat) (env env2 : Env), EA es 1 a b → RelE Q (freeE es a []) env env2 → env.length + 2 * (b - a) ≤ 1000 → env2.length + 2 * (b - a) ≤ 1000 → RR Q b (chk f es env a) (chk f es env2 a)
structure AtR (Q : Prop) (es : List Pt) (f : Nat) (a b : Nat) (env env2 : Env) (p : Pt) : Prop where
  N : NxR Q es f
  K : KidsF es
  hp : es[a]? = some p
  he : EA es (manyE p) (a + 1) b
  R : RelE Q (freeE es a []) env env2
  l : env.length + 2 * (b - a) ≤ 1000
  l2 : env2.length + 2 * (b - a) ≤ 1000
section
variable {Q : Prop} {es : List Pt} {f a b : Nat} {env env2 : Env} {p : Pt}
theorem RelE.app {S S2 : List ByteArray} {add : Env} (h : RelE Q S env env2) (hs : ∀ s ∈ S2, s ∉ add.map (·.1) → s ∈ S) : RelE Q S2 (env ++ add) (env2 ++ add) := fun s hs2 => by
  rw [lookE_app, lookE_app]
  cases ha : lookE add s with
  | some t => exact ⟨rfl, fun _ => by simp⟩
  | none =>
    have := h s (hs s hs2 (lookE_miss ha))
    simpa using this
theorem AtR.call (h : AtR Q es f a b env env2 p) {k c d : Nat} {add : Env} (hk : (rKids es (manyE p) (a + 1))[k]? = some c) (hc : EA es 1 c d) (hd : d ≤ b) (hb : ∀ s ∈ moreB p k, s ∈ add.map (·.1)) (hl : add.length ≤ 2) : RR Q d (chk f es (env ++ add) c) (chk f es (env2 ++ add) c) := by
  have h1 := (rKids_le _ _ _ (List.mem_of_getElem? hk)).1
  have h2 := h.l
  have h3 := h.l2
  have h4 := hc.lt
  refine h.N c d _ _ hc (h.R.app fun s hs hn => free_child h.hp hk hs fun hm => hn (hb s hm)) ?_ ?_
  · rw [List.length_append]; omega
  · rw [List.length_append]; omega
theorem AtR.call0 (h : AtR Q es f a b env env2 p) {k c d : Nat} (hk : (rKids es (manyE p) (a + 1))[k]? = some c) (hc : EA es 1 c d) (hd : d ≤ b) (hb : moreB p k = []) : RR Q d (chk f es env c) (chk f es env2 c) := by
  have := h.call (add := []) hk hc hd (by rw [hb]; simp) (by simp)
  rwa [List.append_nil, List.append_nil] at this
theorem AtR.one (h : AtR Q es f a b env env2 p) (hm : manyE p = 1) : EA es 1 (a + 1) b ∧ (rKids es (manyE p) (a + 1))[0]? = some (a + 1) := by
  have he := h.he
  rw [hm] at he ⊢
  exact ⟨he, by rw [rKids_cons he]; rfl⟩
theorem AtR.two (h : AtR Q es f a b env env2 p) (hm : manyE p = 2) : ∃ c, EA es 1 (a + 1) c ∧ EA es 1 c b ∧ c ≤ b ∧ (rKids es (manyE p) (a + 1))[0]? = some (a + 1) ∧ (rKids es (manyE p) (a + 1))[1]? = some c := by
  have he := h.he
  rw [hm] at he ⊢
  obtain ⟨c, e1, e2⟩ := he.split
  have := e2.lt
  exact ⟨c, e1, e2, by omega, by rw [rKids_cons e1]; rfl, by rw [rKids_cons e1, rKids_cons e2]; rfl⟩
theorem AtR.three (h : AtR Q es f a b env env2 p) (hm : manyE p = 3) : ∃ c d, EA es 1 (a + 1) c ∧ EA es 1 c d ∧ EA es 1 d b ∧ c ≤ b ∧ d ≤ b ∧ (rKids es (manyE p) (a + 1))[0]? = some (a + 1) ∧ (rKids es (manyE p) (a + 1))[1]? = some c ∧ (rKids es (manyE p) (a + 1))[2]? = some d := by
  have he := h.he
  rw [hm] at he ⊢
  obtain ⟨c, e1, e2⟩ := he.split
  obtain ⟨d, e2, e3⟩ := e2.split
  have := e2.lt
  have := e3.lt
  exact ⟨c, d, e1, e2, e3, by omega, by omega, by rw [rKids_cons e1]; rfl, by rw [rKids_cons e1, rKids_cons e2]; rfl, by rw [rKids_cons e1, rKids_cons e2, rKids_cons e3]; rfl⟩

abbrev AtR.Post (_ : AtR Q es f a b env env2 p) (x x2 : Option Ans) : Prop := RR Q b x x2
theorem AtR.zero (h : AtR Q es f a b env env2 p) (hm : manyE p = 0) : b = a + 1 := by
  have he := h.he
  rw [hm] at he
  exact he.zero
theorem litR (h : AtR Q es f a b env env2 p) (hk : p.k = 0) : h.Post (litM p (a + 1)) (litM p (a + 1)) := by
  have := h.zero (by unfold manyE; simp [hk])
  subst this
  exact RR.ok
theorem nameRR (h : AtR Q es f a b env env2 p) (hk : p.k = 1) : h.Post (nameM env p a (a + 1)) (nameM env2 p a (a + 1)) := by
  have := h.zero (by unfold manyE; simp [hk])
  subst this
  have hs : p.nm ∈ freeE es a [] := by
    rw [freeE_eq h.hp, if_pos ⟨hk, rfl⟩]
    simp
  obtain ⟨h1, h2⟩ := h.R _ hs
  unfold nameM
  rw [← h1]
  cases hl : lookE env p.nm with
  | none => exact ⟨rfl, fun hq => absurd hl (h2 hq), fun t c h => by injection h with h; cases h⟩
  | some t => exact RR.ok
theorem moreB_no {p : Pt} {k : Nat} (h2 : p.k ≠ 2) (h8 : p.k ≠ 8) (h4 : p.k = 4 → k ≠ 1) (h5 : p.k ≠ 5) : moreB p k = [] := by
  unfold moreB
  rw [if_neg (by rintro (h | h | h | h) <;> first | exact h2 h | exact h8 h | exact h4 h.1 h.2 | exact h5 h.1), if_neg h5]
  rfl
theorem funR (h : AtR Q es f a b env env2 p) (hk : p.k = 2) : h.Post (funM (chk f es) env p (a + 1)) (funM (chk f es) env2 p (a + 1)) := by
  obtain ⟨e1, k1⟩ := h.one (by unfold manyE; simp [hk])
  exact (h.call k1 e1 (Nat.le_refl _) (by unfold moreB; simp [hk]) (by simp)).andA fun t => RR.ok
theorem appR (h : AtR Q es f a b env env2 p) (hk : p.k = 3) : h.Post (appM (chk f es) env a (a + 1)) (appM (chk f es) env2 a (a + 1)) := by
  obtain ⟨c, e1, e2, hc, k1, k2⟩ := h.two (by unfold manyE; simp [hk])
  refine (h.call0 k1 e1 hc (moreB_no (by omega) (by omega) (by omega) (by omega))).andA fun t => ?_
  refine (h.call0 k2 e2 (Nat.le_refl _) (moreB_no (by omega) (by omega) (by omega) (by omega))).andA fun x => ?_
  cases callM t with
  | none => exact RR.err
  | some q =>
    dsimp only
    split
    · exact RR.ok
    · exact RR.err
theorem letR (h : AtR Q es f a b env env2 p) (hk : p.k = 4) : h.Post (letM (chk f es) env p a (a + 1)) (letM (chk f es) env2 p a (a + 1)) := by
  obtain ⟨c, e1, e2, hc, k1, k2⟩ := h.two (by unfold manyE; simp [hk])
  refine (h.call0 k1 e1 hc (moreB_no (by omega) (by omega) (by omega) (by omega))).andA fun t => ?_
  unfold agS
  split
  · exact h.call k2 e2 (Nat.le_refl _) (by unfold moreB; simp [hk]) (by simp)
  · exact RR.err
theorem recR (h : AtR Q es f a b env env2 p) (hk : p.k = 5) : h.Post (recM (chk f es) env p a (a + 1)) (recM (chk f es) env2 p a (a + 1)) := by
  obtain ⟨c, e1, e2, hc, k1, k2⟩ := h.two (by unfold manyE; simp [hk])
  refine (h.call k1 e1 hc (by unfold moreB; simp [hk]) (by simp)).andA fun t => ?_
  unfold agS
  split
  · exact h.call k2 e2 (Nat.le_refl _) (by unfold moreB; simp [hk]) (by simp)
  · exact RR.err
theorem meetR {x y : List Nd} {at0 : Nat} : RR Q b (meetA x y at0 b) (meetA x y at0 b) := by
  unfold meetA
  cases met 1 x y with
  | none => exact RR.err
  | some m => exact RR.ok
theorem condR (h : AtR Q es f a b env env2 p) (hk : p.k = 6) : h.Post (condM (chk f es) env a (a + 1)) (condM (chk f es) env2 a (a + 1)) := by
  obtain ⟨c, d, e1, e2, e3, hc, hd, k1, k2, k3⟩ := h.three (by unfold manyE; simp [hk])
  refine (h.call0 k1 e1 hc (moreB_no (by omega) (by omega) (by omega) (by omega))).andA fun t => ?_
  refine (h.call0 k2 e2 hd (moreB_no (by omega) (by omega) (by omega) (by omega))).andA fun x => ?_
  refine (h.call0 k3 e3 (Nat.le_refl _) (moreB_no (by omega) (by omega) (by omega) (by omega))).andA fun y => ?_
  split
  · exact meetR
  · exact RR.err
theorem opR (h : AtR Q es f a b env env2 p) (hk : p.k = 9) : h.Post (opM (chk f es) env p a (a + 1)) (opM (chk f es) env2 p a (a + 1)) := by
  obtain ⟨c, e1, e2, hc, k1, k2⟩ := h.two (by unfold manyE; simp [hk])
  refine (h.call0 k1 e1 hc (moreB_no (by omega) (by omega) (by omega) (by omega))).andA fun t => ?_
  refine (h.call0 k2 e2 (Nat.le_refl _) (moreB_no (by omega) (by omega) (by omega) (by omega))).andA fun x => ?_
  split
  · exact RR.ok
  · exact RR.err
theorem fieldR {t : List Nd} {s : ByteArray} {at0 : Nat} : RR Q b (fieldA t s at0 b) (fieldA t s at0 b) := by
  unfold fieldA
  cases fieldM t s with
  | none => exact RR.err
  | some m => exact RR.ok
theorem getR (h : AtR Q es f a b env env2 p) (hk : p.k = 11) : h.Post (getM (chk f es) env p a (a + 1)) (getM (chk f es) env2 p a (a + 1)) := by
  obtain ⟨e1, k1⟩ := h.one (by unfold manyE; simp [hk])
  exact (h.call0 k1 e1 (Nat.le_refl _) (moreB_no (by omega) (by omega) (by omega) (by omega))).andA fun t => fieldR
theorem injR (h : AtR Q es f a b env env2 p) (hk : p.k = 12) : h.Post (injM (chk f es) env p a (a + 1)) (injM (chk f es) env2 p a (a + 1)) := by
  obtain ⟨e1, k1⟩ := h.one (by unfold manyE; simp [hk])
  refine (h.call0 k1 e1 (Nat.le_refl _) (moreB_no (by omega) (by omega) (by omega) (by omega))).andA fun t => ?_
  refine RR.andA fieldR fun u => ?_
  split
  · exact RR.ok
  · exact RR.err
theorem asR (h : AtR Q es f a b env env2 p) (hk : p.k = 13) : h.Post (asM (chk f es) env p a (a + 1)) (asM (chk f es) env2 p a (a + 1)) := by
  obtain ⟨e1, k1⟩ := h.one (by unfold manyE; simp [hk])
  refine (h.call0 k1 e1 (Nat.le_refl _) (moreB_no (by omega) (by omega) (by omega) (by omega))).andA fun t => ?_
  split
  · exact RR.ok
  · exact RR.err
theorem castR (h : AtR Q es f a b env env2 p) (hk : p.k = 14) : h.Post (castM (chk f es) env p a (a + 1)) (castM (chk f es) env2 p a (a + 1)) := by
  obtain ⟨e1, k1⟩ := h.one (by unfold manyE; simp [hk])
  refine (h.call0 k1 e1 (Nat.le_refl _) (moreB_no (by omega) (by omega) (by omega) (by omega))).andA fun t => ?_
  split
  · exact RR.ok
  · exact RR.err

def RL {α : Type} (Q : Prop) (b : Nat) (x x2 : Option (Except (Nat × Int) (α × Nat))) : Prop := x = x2 ∧ (Q → ∀ i, x ≠ some (.error (i, 5))) ∧ ∀ t c, x = some (.ok (t, c)) → c = b
theorem rowsGoR (h : AtR Q es f a b env env2 p) (hk : p.k = 10) : ∀ (n c j : Nat) (fs : List FsL), EA es n c b → (∀ i d, (rKids es n c)[i]? = some d → (rKids es (manyE p) (a + 1))[j + i]? = some d) → RL Q b (rowsGo (chk f es) es env n c fs) (rowsGo (chk f es) es env2 n c fs)
  | 0, c, j, fs, he, _ => by
    have := he.zero
    subst this
    exact ⟨rfl, (fun _ i h => by cases h), fun t d h => by injection h with h; injection h with h; injection h with _ h; exact h.symm⟩
  | n + 1, c, j, fs, he, hi => by
    obtain ⟨d, e1, e2⟩ := he.split
    have hd := e2.lt
    obtain ⟨x, hx, _⟩ := e1.open
    have hr := h.call0 (hi 0 c (by rw [rKids_cons e1]; rfl)) e1 (by omega) (moreB_no (by omega) (by omega) (by omega) (by omega))
    unfold rowsGo
    rw [hx]
    dsimp only
    obtain ⟨h1, h2, h3⟩ := hr
    rw [← h1]
    cases hc : chk f es env c with
    | none => exact ⟨rfl, fun _ i h => (by cases h), fun t d h => (by cases h)⟩
    | some r =>
      match r, hc with
      | .error q, hc => exact ⟨rfl, fun hq i h => by
          injection h with h
          injection h with h
          subst h
          exact h2 hq i hc, fun t d h => by injection h with h; cases h⟩
      | .ok (t, c2), hc =>
        have := h3 t c2 hc
        subst this
        exact rowsGoR h hk n c2 (j + 1) _ e2 fun i d hid => by
          have := hi (i + 1) d (by rw [rKids_cons e1]; exact hid)
          rwa [show j + (i + 1) = j + 1 + i from by omega] at this
theorem rowsR (h : AtR Q es f a b env env2 p) (hk : p.k = 10) : h.Post (rowsM (chk f es) es env p (a + 1)) (rowsM (chk f es) es env2 p (a + 1)) := by
  have hm : manyE p = p.mn.toNat := by unfold manyE; simp [hk]
  have he := h.he
  rw [hm] at he
  unfold rowsM
  split
  · obtain ⟨h1, h2, h3⟩ := rowsGoR h hk p.mn.toNat (a + 1) 0 [] he fun i d hid => by rw [hm, Nat.zero_add]; exact hid
    rw [← h1]
    cases hc : rowsGo (chk f es) es env p.mn.toNat (a + 1) [] with
    | none => exact RR.no
    | some r =>
      match r, hc with
      | .error q, hc => exact ⟨rfl, fun hq i h => by
          injection h with h
          injection h with h
          subst h
          exact h2 hq i hc, fun t d h => by injection h with h; cases h⟩
      | .ok (fs, c), hc =>
        have := h3 fs c hc
        subst this
        dsimp only
        split
        · exact RR.ok
        · exact RR.no
  · exact RR.no
theorem casesGoR (h : AtR Q es f a b env env2 p) (hk : p.k = 7) {ot : List Nd} : ∀ (n c j : Nat) (ts : List (List Nd)), EA es n c b → a + 1 < c → 0 < j → (∀ i d, (rKids es n c)[i]? = some d → (rKids es (manyE p) (a + 1))[j + i]? = some d) → RL Q b (casesGo (chk f es) es env ot n c ts) (casesGo (chk f es) es env2 ot n c ts)
  | 0, c, j, ts, he, _, _, _ => by
    have := he.zero
    subst this
    exact ⟨rfl, (fun _ i h => by cases h), fun t d h => by injection h with h; injection h with h; injection h with _ h; exact h.symm⟩
  | n + 1, c, j, ts, he, hac, hj, hi => by
    obtain ⟨d, e1, e2⟩ := he.split
    have hd := e2.lt
    have hd1 := e1.lt
    obtain ⟨x, hx, e3⟩ := e1.open
    have hkc := hi 0 c (by rw [rKids_cons e1]; rfl)
    have hx8 : x.k = 8 := ((h.K a p h.hp).kind (j + 0) c x hkc hx).2 ⟨hk, by omega⟩
    have hmx : manyE x = 1 := by unfold manyE; simp [hx8]
    have e4 := e3
    rw [hmx] at e3
    have hl := h.l
    have hl2 := h.l2
    have hr : RR Q d (chk f es (env ++ [(x.bd, (fieldM ot x.lb).getD [])]) (c + 1)) (chk f es (env2 ++ [(x.bd, (fieldM ot x.lb).getD [])]) (c + 1)) := by
      refine h.N (c + 1) d _ _ e3 (h.R.app fun s hs hn => ?_) ?_ ?_
      · have h1 : s ∈ freeE es c [] := free_child (k := 0) hx (by rw [hmx, rKids_cons e3]; rfl) hs fun hm => hn (by
          have hb : moreB x 0 = [x.bd] := by unfold moreB; simp [hx8]
          rw [hb] at hm
          simpa using hm)
        exact free_child h.hp hkc h1 (by rw [moreB_no (by omega) (by omega) (by omega) (by omega)]; simp)
      · rw [List.length_append]; simp only [List.length_singleton]; omega
      · rw [List.length_append]; simp only [List.length_singleton]; omega
    unfold casesGo
    rw [hx]
    dsimp only
    obtain ⟨h1, h2, h3⟩ := hr
    rw [← h1]
    cases hc : chk f es (env ++ [(x.bd, (fieldM ot x.lb).getD [])]) (c + 1) with
    | none => exact ⟨rfl, fun _ i h => (by cases h), fun t d h => (by cases h)⟩
    | some r =>
      match r, hc with
      | .error q, hc => exact ⟨rfl, fun hq i h => by
          injection h with h
          injection h with h
          subst h
          exact h2 hq i hc, fun t d h => by injection h with h; cases h⟩
      | .ok (t, c2), hc =>
        have := h3 t c2 hc
        subst this
        exact casesGoR h hk n c2 (j + 1) _ e2 (by omega) (by omega) fun i d hid => by
          have := hi (i + 1) d (by rw [rKids_cons e1]; exact hid)
          rwa [show j + (i + 1) = j + 1 + i from by omega] at this
theorem meetsM_err {at0 : Nat} : ∀ (ts : List (List Nd)) (m : List Nd) (i : Nat) (e : Int), meetsM at0 m ts = some (.error (i, e)) → e = 9
  | [], m, i, e, h => by injection h with h; cases h
  | t :: ts, m, i, e, h => by
    unfold meetsM at h
    split at h
    · injection h with h; injection h with h; injection h with _ h; exact h.symm
    · split at h
      · exact meetsM_err ts _ i e h
      · cases h
theorem casesR (h : AtR Q es f a b env env2 p) (hk : p.k = 7) : h.Post (casesM (chk f es) es env p a (a + 1)) (casesM (chk f es) es env2 p a (a + 1)) := by
  have hm : manyE p = p.mn.toNat + 1 := by unfold manyE; simp [hk]
  have he := h.he
  have hl := h.l
  have hl2 := h.l2
  rw [hm] at he
  obtain ⟨c1, e1, e2⟩ := he.split
  have hlt := e1.lt
  have hlt2 := e2.lt
  unfold casesM
  by_cases hmn : 1 ≤ p.mn ∧ p.mn ≤ 50
  · rw [if_pos ⟨hmn.1, hmn.2, by omega⟩, if_pos ⟨hmn.1, hmn.2, by omega⟩]
    refine (h.call0 (k := 0) (by rw [hm, rKids_cons e1]; rfl) e1 (by omega) (moreB_no (by omega) (by omega) (by omega) (by omega))).andA fun ot => ?_
    cases htg : tagsOk es ot a with
    | none => exact RR.no
    | some g =>
      cases g with
      | false => exact RR.err
      | true =>
        dsimp only
        obtain ⟨h1, h2, h3⟩ := casesGoR h hk (ot := ot) p.mn.toNat c1 1 [] e2 (by omega) (by omega) fun i d hid => by
          rw [hm, rKids_cons e1, show 1 + i = i + 1 from by omega]
          exact hid
        rw [← h1]
        cases hc : casesGo (chk f es) es env ot p.mn.toNat c1 [] with
        | none => exact RR.no
        | some r =>
          match r, hc with
          | .error q, hc => exact ⟨rfl, fun hq i h => by
              injection h with h
              injection h with h
              subst h
              exact h2 hq i hc, fun t d h => by injection h with h; cases h⟩
          | .ok (ts, c), hc =>
            have := h3 ts c hc
            subst this
            dsimp only
            match ts with
            | [] => exact RR.no
            | t :: ts =>
              dsimp only
              cases hmt : meetsM a t ts with
              | none => exact RR.no
              | some r =>
                match r, hmt with
                | .error (i, e), hmt =>
                  have := meetsM_err _ _ _ _ hmt
                  subst this
                  exact RR.err
                | .ok m, _ => exact RR.ok
  · rw [if_neg (fun h => hmn ⟨h.1, h.2.1⟩), if_neg (fun h => hmn ⟨h.1, h.2.1⟩)]
    exact RR.no
theorem wayR (h : AtR Q es f a b env env2 p) : h.Post (wayM (chk f es) es env p a (a + 1)) (wayM (chk f es) es env2 p a (a + 1)) := by
  unfold wayM
  by_cases h0 : p.k = 0
  · rw [if_pos h0, if_pos h0]; exact litR h h0
  rw [if_neg h0, if_neg h0]
  by_cases h1 : p.k = 1
  · rw [if_pos h1, if_pos h1]; exact nameRR h h1
  rw [if_neg h1, if_neg h1]
  by_cases h2 : p.k = 2
  · rw [if_pos h2, if_pos h2]; exact funR h h2
  rw [if_neg h2, if_neg h2]
  by_cases h3 : p.k = 3
  · rw [if_pos h3, if_pos h3]; exact appR h h3
  rw [if_neg h3, if_neg h3]
  by_cases h4 : p.k = 4
  · rw [if_pos h4, if_pos h4]; exact letR h h4
  rw [if_neg h4, if_neg h4]
  by_cases h5 : p.k = 5
  · rw [if_pos h5, if_pos h5]; exact recR h h5
  rw [if_neg h5, if_neg h5]
  by_cases h6 : p.k = 6
  · rw [if_pos h6, if_pos h6]; exact condR h h6
  rw [if_neg h6, if_neg h6]
  by_cases h7 : p.k = 7
  · rw [if_pos h7, if_pos h7]; exact casesR h h7
  rw [if_neg h7, if_neg h7]
  by_cases h9 : p.k = 9
  · rw [if_pos h9, if_pos h9]; exact opR h h9
  rw [if_neg h9, if_neg h9]
  by_cases h10 : p.k = 10
  · rw [if_pos h10, if_pos h10]; exact rowsR h h10
  rw [if_neg h10, if_neg h10]
  by_cases h11 : p.k = 11
  · rw [if_pos h11, if_pos h11]; exact getR h h11
  rw [if_neg h11, if_neg h11]
  by_cases h12 : p.k = 12
  · rw [if_pos h12, if_pos h12]; exact injR h h12
  rw [if_neg h12, if_neg h12]
  by_cases h13 : p.k = 13
  · rw [if_pos h13, if_pos h13]; exact asR h h13
  rw [if_neg h13, if_neg h13]
  by_cases h14 : p.k = 14
  · rw [if_pos h14, if_pos h14]; exact castR h h14
  rw [if_neg h14, if_neg h14]
  exact RR.no
end
theorem chk_rel {Q : Prop} {es : List Pt} (hK : KidsF es) : ∀ f, NxR Q es f := by
  intro f
  induction f with
  | zero => exact fun a b env env2 _ _ _ _ => RR.no
  | succ f ih =>
    intro a b env env2 he hR hl hl2
    obtain ⟨p, hp, he2⟩ := he.open
    have := he.lt
    have h : AtR Q es f a b env env2 p := ⟨ih, hK, hp, he2, hR, hl, hl2⟩
    unfold chk
    rw [hp]
    dsimp only
    by_cases hp2 : PtOk p
    · rw [if_pos ⟨by omega, hp2⟩, if_pos ⟨by omega, hp2⟩]
      exact (wayR h).exit
    · rw [if_neg (fun h => hp2 h.2), if_neg (fun h => hp2 h.2)]
      exact RR.no

theorem GivenF.names {env : Env} {es : List Pt} (h : GivenF env es) (ha : ∀ s ∈ freeE es 0 [], lookE env s ≠ none) (i : Nat) : chk 60 es env 0 ≠ some (.error (i, 5)) := by
  have h1 := h.few.1
  have h2 := h.env.1
  exact (chk_rel (Q := True) h.right.lab 60 0 es.length env env h.right.whole (fun s hs => ⟨rfl, fun _ => ha s hs⟩) (by omega) (by omega)).2.1 trivial i
theorem GivenF.more {env : Env} {es : List Pt} (h : GivenF env es) {m : ByteArray × List Nd} (hm : m.1 ∉ freeE es 0 []) : chk 60 es (env ++ [m]) 0 = chk 60 es env 0 := by
  have h1 := h.few.1
  have h2 := h.env.1
  refine ((chk_rel (Q := False) h.right.lab 60 0 es.length env (env ++ [m]) h.right.whole (fun s hs => ⟨?_, fun h => h.elim⟩) (by omega) (by rw [List.length_append]; simp only [List.length_singleton]; omega)).1).symm
  rw [lookE_app, lookE_out (add := [m]) (by
    simp only [List.map_cons, List.map_nil, List.mem_singleton]
    intro e
    exact hm (e ▸ hs))]
  simp
end Go.Proofs.YtmjdhfbnmmdjiaaGreat
