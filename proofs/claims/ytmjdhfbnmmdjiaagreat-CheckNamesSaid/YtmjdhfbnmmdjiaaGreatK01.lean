/- Laid together by a tool from the texts of this seat: Same Right. Conditions: each theorem's own. -/
import Derived.Test.YtmjdhfbnmmdjiaaGreatProg
import Derived.WalkKit
import Derived.WalkSpells
import Derived.WalkLawsBesides
import Derived.Deep.Draws
import Derived.Deep.QuietTactic
import Derived.BigQuiet
import Derived.Lib.Hide
import Derived.Laws.StructEq
import Derived.OneCell
import Derived.Laws.EntriesVeiled
/- Nodes of types as data, slices of nodes as lists, and the small facts on worlds that all walks of this seat use. -/
namespace Go.Proofs.YtmjdhfbnmmdjiaaGreat
open Go.RowKit

/-- A node of a type: its kind, its label, its number. -/
structure Nd where
  k : Int
  s : ByteArray
  n : Int
  deriving DecidableEq

instance : Inhabited Nd := ⟨⟨0, ByteArray.empty, 0⟩⟩

/-- A node's number and kind are ints, its label is a string of Go's. -/
structure Nd.Ok (x : Nd) : Prop where
  k0 : -9223372036854775808 ≤ x.k
  k1 : x.k ≤ 9223372036854775807
  n0 : -9223372036854775808 ≤ x.n
  n1 : x.n ≤ 9223372036854775807
  s1 : x.s.size ≤ 9223372036854775807

def Nd.val (x : Nd) : Value := .agg #[.int .i64 x.k, .string x.s, .int .i64 x.n]

/-- From the place (b, o) on the nodes xs lie in memory. -/
structure RT (w : World) (b o : Nat) (xs : List Nd) : Prop where
  c0 : ∀ i x, xs[i]? = some x → w.cell? ⟨b, o + i * 3, none⟩ = some (.int .i64 x.k)
  c1 : ∀ i x, xs[i]? = some x → w.cell? ⟨b, o + i * 3 + 1, none⟩ = some (.string x.s)
  c2 : ∀ i x, xs[i]? = some x → w.cell? ⟨b, o + i * 3 + 2, none⟩ = some (.int .i64 x.n)

/-- A slice's address reads as the nodes xs, which lie below block B. -/
def TyA (w : World) (B : Nat) (A : Option Addr) (xs : List Nd) : Prop :=
  xs ≠ [] → ∃ b o, A = some ⟨b, o, none⟩ ∧ b < B ∧ RT w b o xs

section
variable {w w' : World} {B B' : Nat} {A : Option Addr} {xs : List Nd} {b o : Nat}

theorem getq_lt {α : Type} {l : List α} {i : Nat} {x : α} (h : l[i]? = some x) : i < l.length := by
  rcases Nat.lt_or_ge i l.length with g | g
  · exact g
  · rw [List.getElem?_eq_none g] at h; cases h

theorem getq_ex {α : Type} {l : List α} {i : Nat} (h : i < l.length) : ∃ x, l[i]? = some x := ⟨l[i], List.getElem?_eq_getElem h⟩

theorem RT.mono (h : RT w b o xs) (hk : ∀ off, w'.cell? ⟨b, off, none⟩ = w.cell? ⟨b, off, none⟩) : RT w' b o xs :=
  ⟨fun i x hx => (hk _).trans (h.c0 i x hx), fun i x hx => (hk _).trans (h.c1 i x hx), fun i x hx => (hk _).trans (h.c2 i x hx)⟩

theorem RT.drop (h : RT w b o xs) (i : Nat) : RT w b (o + i * 3) (xs.drop i) := by
  refine ⟨fun j x hx => ?_, fun j x hx => ?_, fun j x hx => ?_⟩ <;> rw [List.getElem?_drop] at hx
  · have := h.c0 _ x hx; rwa [show o + (i + j) * 3 = o + i * 3 + j * 3 by omega] at this
  · have := h.c1 _ x hx; rwa [show o + (i + j) * 3 + 1 = o + i * 3 + j * 3 + 1 by omega] at this
  · have := h.c2 _ x hx; rwa [show o + (i + j) * 3 + 2 = o + i * 3 + j * 3 + 2 by omega] at this

theorem RT.take (h : RT w b o xs) (i : Nat) : RT w b o (xs.take i) := by
  have key : ∀ (j : Nat) (x : Nd), (xs.take i)[j]? = some x → xs[j]? = some x := by
    intro j x hx
    have hl := getq_lt hx
    rw [List.length_take] at hl
    rwa [List.getElem?_take_of_lt (by omega)] at hx
  exact ⟨fun j x hx => h.c0 j x (key j x hx), fun j x hx => h.c1 j x (key j x hx), fun j x hx => h.c2 j x (key j x hx)⟩

theorem TyA.nil : TyA w B A [] := fun h => absurd rfl h

theorem TyA.below (h : TyA w B A xs) (hb : Below B w w') : TyA w' B A xs := fun hx => by
  obtain ⟨b, o, rfl, hlt, hr⟩ := h hx
  exact ⟨b, o, rfl, hlt, hr.mono fun off => hb.cell (p := ⟨b, off, none⟩) hlt⟩

theorem TyA.more (h : TyA w B A xs) (hB : B ≤ B') : TyA w B' A xs := fun hx => by
  obtain ⟨b, o, rfl, hlt, hr⟩ := h hx
  exact ⟨b, o, rfl, by omega, hr⟩

theorem TyA.drewN (h : TyA w B A xs) (n : Nat) : TyA (w.drewN n) B A xs := fun hx => by
  obtain ⟨b, o, rfl, hlt, hr⟩ := h hx
  exact ⟨b, o, rfl, hlt, hr.mono fun _ => rfl⟩
theorem TyA.drew (h : TyA w B A xs) : TyA w.drew B A xs := fun hx => by
  obtain ⟨b, o, rfl, hlt, hr⟩ := h hx
  exact ⟨b, o, rfl, hlt, hr.mono fun _ => rfl⟩

theorem TyA.alloc (h : TyA w B A xs) (hB : B ≤ w.heap.size) (ob : Obj) : TyA (w.alloc ob) B A xs := fun hx => by
  obtain ⟨b, o, rfl, hlt, hr⟩ := h hx
  exact ⟨b, o, rfl, hlt, hr.mono fun off => World.cell?_alloc_lt w ob ⟨b, off, none⟩ (Nat.lt_of_lt_of_le hlt hB)⟩

/-- The node at a place below the length. -/
theorem TyA.at_ (h : TyA w B A xs) {i : Nat} {x : Nd} (hx : xs[i]? = some x) :
    ∃ b o, A = some ⟨b, o, none⟩ ∧ b < B ∧ w.cell? ⟨b, o + i * 3, none⟩ = some (.int .i64 x.k) ∧ w.cell? ⟨b, o + i * 3 + 1, none⟩ = some (.string x.s) ∧
      w.cell? ⟨b, o + i * 3 + 2, none⟩ = some (.int .i64 x.n) := by
  obtain ⟨b, o, rfl, hb, hr⟩ := h (by rintro rfl; simp at hx)
  exact ⟨b, o, rfl, hb, hr.c0 i x hx, hr.c1 i x hx, hr.c2 i x hx⟩
end

/-- What lay below stands. -/
theorem bcell {W w1 : World} {B : Nat} (hb : Below B W w1) : (∀ b o, b < B → w1.cell? ⟨b, o, none⟩ = W.cell? ⟨b, o, none⟩) ∧ (∀ b o, b < B → w1.frozen? ⟨b, o, none⟩ = W.frozen? ⟨b, o, none⟩) :=
  ⟨fun b o h => hb.cell (p := ⟨b, o, none⟩) h, fun b o h => hb.frozen (p := ⟨b, o, none⟩) h⟩

theorem ext_trans {w W w1 : World} (h : Below w.heap.size w W) (k : Below W.heap.size W w1) : Below w.heap.size w w1 := h.trans (k.mono h.size)
theorem ext_alloc {w W : World} (h : Below w.heap.size w W) (o : Obj) : Below w.heap.size w (W.alloc o) := h.alloc h.size o
theorem ext_set {w W : World} (h : Below w.heap.size w W) {p : Addr} (hp : w.heap.size ≤ p.block) (u : Value) : Below w.heap.size w (W.setCell p u) := h.setCell hp u
theorem ext_drewN {w W : World} (h : Below w.heap.size w W) (n : Nat) : Below w.heap.size w (W.drewN n) := ⟨h.os, h.tape, h.output, h.size, h.block⟩

theorem below_drewN {B : Nat} {a w : World} (h : Below B a w) (n : Nat) : Below B a (w.drewN n) := ⟨h.os, h.tape, h.output, h.size, h.block⟩

theorem ret_bool {a b : Bool} (h : a = b) : Ending.returned (.bool a) = .returned (.bool b) := by rw [h]
theorem ret_int {k : IntKind} {a b : Int} (h : a = b) : Ending.returned (.int k a) = .returned (.int k b) := by rw [h]
theorem ret_str {a b : ByteArray} (h : a = b) : Ending.returned (.string a) = .returned (.string b) := by rw [h]
end Go.Proofs.YtmjdhfbnmmdjiaaGreat

/- The small functions on one node, each by its contract. -/
namespace Go.Proofs.YtmjdhfbnmmdjiaaGreat
open Go.RowKit

def isRowB (k : Int) : Bool := k == 6 || k == 7
def isVarB (k : Int) : Bool := k == 8 || k == 9

/-- Whether a node's kind and number may be. -/
def okNode (k n : Int) : Bool :=
  if k = 0 ∨ k = 8 ∨ k = 9 then decide (0 ≤ n) else
  if k = 6 then decide (0 ≤ n ∧ n ≤ 50) else
  if k = 7 then decide (0 < n ∧ n ≤ 50) else decide (0 < k ∧ k ≤ 5 ∧ n = 0)

/-- How many children a node has. -/
def many (k n : Int) : Int := if k = 5 then 2 else if isRowB k = true then n else 0
def manyP (k n : Int) : Int := if k = 5 then 2 else if isRowB k = true then max n 0 else 0

theorem okNode_row {k n : Int} (h : isRowB k = true) : okNode k n = decide ((if k = 7 then 0 < n else 0 ≤ n) ∧ n ≤ 50) := by
  simp [isRowB] at h
  rcases h with rfl | rfl <;> simp [okNode]

theorem manyP_ok {k n : Int} (h : okNode k n = true) : manyP k n = many k n := by
  unfold manyP many
  split
  · rfl
  · split
    · rename_i h6
      rw [okNode_row h6] at h
      simp at h
      obtain ⟨h1, _⟩ := h
      split at h1 <;> omega
    · rfl

set_option maxHeartbeats 400000 in
theorem isRow_any (k n : Int) (s : ByteArray) (w : World) :
    Calls Tryz.prog 128 #[.agg #[.int .i64 k, .string s, .int .i64 n]] w fun e w' => e = .returned (.bool (isRowB k)) ∧ Below w.heap.size w w' := by
  go_enter Tryz.func128, Tryz.ntmps128
  go_wp2
  all_goals go_ret
  all_goals exact ⟨ret_bool (by simp_all [isRowB]), (Below.refl _ _).alloc (Nat.le_refl _) _⟩

set_option maxHeartbeats 400000 in
theorem many_any (k n : Int) (s : ByteArray) (w : World) :
    Calls Tryz.prog 141 #[.agg #[.int .i64 k, .string s, .int .i64 n]] w fun e w' => e = .returned (.int .i64 (manyP k n)) ∧ Below w.heap.size w w' := by
  by_cases h5 : k = 5
  · subst h5
    go_enter Tryz.func141, Tryz.ntmps141
    go_wp2_with fail
    go_ret
    exact ⟨ret_int rfl, (Below.refl _ _).alloc (Nat.le_refl _) _⟩
  · have h5b : (k == 5) = false := by simpa using h5
    go_enter Tryz.func141, Tryz.ntmps141
    go_wp2_with fail
    refine (isRow_any _ _ _ _).mono ?_
    rintro e w1 ⟨rfl, hb⟩
    obtain ⟨hc, hf⟩ := bcell hb
    go_wp2_with fail
    all_goals go_ret
    all_goals refine ⟨ret_int ?_, ext_trans ((Below.refl _ _).alloc (Nat.le_refl _) _) hb⟩
    all_goals (simp_all [manyP]; try omega)

set_option maxHeartbeats 400000 in
theorem rmany_any (k n : Int) (s : ByteArray) (w : World) :
    Calls Tryz.prog 78 #[.agg #[.int .i64 k, .string s, .int .i64 n]] w fun e w' => e = .returned (.int .i64 (many k n)) ∧ Below w.heap.size w w' := by
  go_enter Tryz.func78, Tryz.ntmps78
  go_wp2
  all_goals go_ret
  all_goals exact ⟨ret_int (by simp_all [many, isRowB]), (Below.refl _ _).alloc (Nat.le_refl _) _⟩

set_option maxHeartbeats 1000000 in
theorem numbered_any (k n : Int) (s : ByteArray) (w : World) :
    Calls Tryz.prog 47 #[.agg #[.int .i64 k, .string s, .int .i64 n]] w fun e w' => e = .returned (.bool (okNode k n)) ∧ Below w.heap.size w w' := by
  go_enter Tryz.func47, Tryz.ntmps47
  go_wp2
  all_goals go_ret
  all_goals refine ⟨ret_bool ?_, (Below.refl _ _).alloc (Nat.le_refl _) _⟩
  all_goals go_tidy
  all_goals (unfold okNode; simp_all)
  all_goals first | done | rfl | omega | (split <;> simp <;> omega)

end Go.Proofs.YtmjdhfbnmmdjiaaGreat

/- Words and tags: what the program asks of a text's runes, and the document of its bytes. -/
namespace Go.Proofs.YtmjdhfbnmmdjiaaGreat
open Go.RowKit

def smallC (c : Int) : Bool := decide (97 ≤ c ∧ c ≤ 122)
def greatC (c : Int) : Bool := decide (65 ≤ c ∧ c ≤ 90)
def behindC (c : Int) : Bool := smallC c || greatC c || decide (48 ≤ c ∧ c ≤ 57) || c == 95

/-- Of a text the first byte fits, and all others may stand behind. -/
def fitsL (f : Int → Bool) : List UInt8 → Bool
  | [] => false
  | c :: cs => f c.toNat && cs.all fun d => behindC d.toNat

def wordB (s : ByteArray) : Bool := fitsL smallC s.data.toList
def tagB (s : ByteArray) : Bool := fitsL greatC s.data.toList

theorem isSmall_any (r : Int) (w : World) : Calls Tryz.prog 166 #[.int .i32 r] w fun e w' => e = .returned (.bool (smallC r)) ∧ w = w' := by
  go_enter Tryz.func166, Tryz.ntmps166
  go_wp2
  all_goals go_ret
  all_goals go_tidy
  all_goals exact ⟨ret_bool (by simp_all [smallC] <;> (intros; omega)), rfl⟩

theorem isGreat_any (r : Int) (w : World) : Calls Tryz.prog 167 #[.int .i32 r] w fun e w' => e = .returned (.bool (greatC r)) ∧ w = w' := by
  go_enter Tryz.func167, Tryz.ntmps167
  go_wp2
  all_goals go_ret
  all_goals go_tidy
  all_goals exact ⟨ret_bool (by simp_all [greatC] <;> (intros; omega)), rfl⟩

set_option maxHeartbeats 400000 in
theorem isBehind_any (r : Int) (w : World) : Calls Tryz.prog 181 #[.int .i32 r] w fun e w' => e = .returned (.bool (behindC r)) ∧ w = w' := by
  go_enter Tryz.func181, Tryz.ntmps181
  go_wp2_with (first
    | (go_at_call 166; refine (isSmall_any _ _).mono ?_; rintro e w' ⟨rfl, rfl⟩)
    | (go_at_call 167; refine (isGreat_any _ _).mono ?_; rintro e w' ⟨rfl, rfl⟩))
  all_goals go_ret
  all_goals go_tidy
  all_goals exact ⟨ret_bool (by simp_all [behindC] <;> (intros; omega)), rfl⟩

theorem within_any (c a b : Int) (w : World) : Calls Tryz.prog 92 #[.int .u8 c, .int .u8 a, .int .u8 b] w fun e w' => e = .returned (.bool (decide (a ≤ c ∧ c ≤ b))) ∧ w = w' := by
  go_enter Tryz.func92, Tryz.ntmps92
  go_wp2
  all_goals go_ret
  all_goals go_tidy
  all_goals exact ⟨ret_bool (by simp_all <;> (intros; omega)), rfl⟩

set_option maxHeartbeats 400000 in
theorem behind_any (r : Int) (w : World) : Calls Tryz.prog 118 #[.int .u8 r] w fun e w' => e = .returned (.bool (behindC r)) ∧ w = w' := by
  go_enter Tryz.func118, Tryz.ntmps118
  go_wp2_with (go_at_call 92; refine (within_any _ _ _ _).mono ?_; rintro e w' ⟨rfl, rfl⟩)
  all_goals go_ret
  all_goals go_tidy
  all_goals exact ⟨ret_bool (by simp_all [behindC, smallC, greatC] <;> (intros; omega)), rfl⟩

theorem fitsL_take_succ {f : Int → Bool} (s : ByteArray) {k : Nat} (hk : k < s.size) (h : k = 0 ∨ fitsL f (s.data.toList.take k) = true) :
    fitsL f (s.data.toList.take (k + 1)) = (if k = 0 then f (s[k]'hk).toNat else behindC (s[k]'hk).toNat) := by
  have hl : k < s.data.toList.length := hk
  have e : s.data.toList.take (k + 1) = s.data.toList.take k ++ [s[k]'hk] := by
    rw [List.take_succ_eq_append_getElem hl]; rfl
  rw [e]
  rcases h with rfl | h
  · simp [fitsL]
  · by_cases h0 : k = 0
    · subst h0; simp [fitsL]
    · rw [if_neg h0]
      match hm : s.data.toList.take k, h with
      | c :: cs, h =>
        simp only [fitsL, Bool.and_eq_true] at h
        simp [fitsL, h.1, h.2]

/-- A byte that does not fit, at its place, spoils the text. -/
theorem fitsL_bad {f : Int → Bool} (s : ByteArray) {k : Nat} (hk : k < s.size) (h : (if k = 0 then f (s[k]'hk).toNat else behindC (s[k]'hk).toNat) = false) :
    fitsL f s.data.toList = false := by
  have hl : k < s.data.toList.length := hk
  have e : s.data.toList = s.data.toList.take k ++ (s[k]'hk) :: s.data.toList.drop (k + 1) := by
    have h1 := List.take_append_drop k s.data.toList
    rw [List.drop_eq_getElem_cons hl] at h1
    exact h1.symm
  rw [e]
  by_cases h0 : k = 0
  · subst h0
    simp only [if_true] at h
    simp [fitsL, h]
  · rw [if_neg h0] at h
    match hm : s.data.toList.take k with
    | [] =>
      have := congrArg List.length hm
      rw [List.length_take, List.length_nil] at this
      omega
    | c :: cs => simp [fitsL, h]

theorem behindC_high {r : Int} (h : 128 ≤ r) : behindC r = false := by
  simp [behindC, smallC, greatC]
  omega

theorem iter_ext (w : World) (s : ByteArray) (k : Nat) : Below w.heap.size w (w.iter s k) := (Below.refl _ _).alloc (Nat.le_refl _) (.stringIter s k)

theorem fits_end {f : Int → Bool} (s : ByteArray) {k : Nat} (hk : k ≤ s.size) (hp : ¬ k < s.size) (h : k = 0 ∨ fitsL f (s.data.toList.take k) = true) :
    (!s.toList.isEmpty) = fitsL f s.data.toList := by
  have hl : s.data.toList.length = s.size := rfl
  have hk' : k = s.data.toList.length := by omega
  rw [ByteArray.toList_eq]
  rcases h with rfl | h
  · have : s.data.toList = [] := List.eq_nil_of_length_eq_zero hk'.symm
    rw [this]; rfl
  · rw [List.take_of_length_le (by omega)] at h
    rw [h]
    match s.data.toList, h with
    | c :: cs, _ => rfl

def Fits (f : Int → Bool) (K : Nat) : Prop := ∀ (r : Int) (w : World), Calls Tryz.prog K #[.int .i32 r] w fun e w' => e = .returned (.bool (f r)) ∧ w = w'

set_option maxRecDepth 100000 in
set_option maxHeartbeats 2000000 in
theorem fits_any (f : Int → Bool) (K : Nat) (hK : K = 166 ∨ K = 167) (hf : Hid (Fits f K)) (hhi : ∀ r, 128 ≤ r → f r = false) (s : ByteArray) (w : World) :
    Calls Tryz.prog 165 #[.string s, .func (.func K) #[] #[]] w fun e w' => e = .returned (.bool (fitsL f s.data.toList)) ∧ Below w.heap.size w w' := by
  have Hhi := Lib.hid hhi
  clear hhi
  rcases hK with rfl | rfl
  all_goals
    go_enter Tryz.func165, Tryz.ntmps165
    go_wp2_with fail
    go_loopw [5] (fun _ w' => ∃ k : Nat, k ≤ s.size ∧ w' = w.iter s k ∧ Hid (k = 0 ∨ fitsL f (s.data.toList.take k) = true)) (fun _ w' => s.size - w'.iterPos w.heap.size)
    case atStart => exact ⟨0, Nat.zero_le _, rfl, Lib.hid (.inl rfl)⟩
    case round =>
      obtain ⟨k, hk, rfl, hgood⟩ := hrel
      by_cases hp : k < s.size
      · by_cases ha : (s[k]'hp).toNat < 128
        · have hnx : ∀ ty, (Instr.next (.pointer (some ⟨w.heap.size, 0, none⟩)) true ty).run Tryz.prog (w.iter s k) = _ := fun ty => run_next_ascii w s k ty hp ha
          have hstep := Lib.hid (fitsL_take_succ (f := f) s hp hgood.out)
          have hbad := Lib.hid (fitsL_bad (f := f) s hp)
          generalize hcv : (s[k]'hp).toNat = c at *
          clear hcv
          by_cases h0 : k = 0
          · subst h0
            cases hfr : f c
            all_goals go_wp2_with (first
              | (go_at_call 166; refine (hf.out _ _).mono ?_; rintro e w' ⟨rfl, rfl⟩)
              | (go_at_call 167; refine (hf.out _ _).mono ?_; rintro e w' ⟨rfl, rfl⟩))
            · go_ret
              exact ⟨ret_bool (hbad.out (by simpa using hfr)).symm, iter_ext _ _ _⟩
            · go_roundw
              case rel => exact ⟨1, hp, rfl, Lib.hid (.inr (by rw [hstep.out]; simpa using hfr))⟩
              case measure => simp; omega
          · have h0b : ((k : Int) == 0) = false := by rw [beq_eq_false_iff_ne]; omega
            have h0p : (0 : Int) < k := by omega
            cases hfr : behindC c
            all_goals go_wp2_with (go_at_call 181; refine (isBehind_any _ _).mono ?_; rintro e w' ⟨rfl, rfl⟩)
            · go_ret
              exact ⟨ret_bool (hbad.out (by rw [if_neg h0]; exact hfr)).symm, iter_ext _ _ _⟩
            · go_roundw
              case rel => exact ⟨k + 1, hp, rfl, Lib.hid (.inr (by rw [hstep.out, if_neg h0]; exact hfr))⟩
              case measure => simp; omega
        · have hnx : ∀ ty, (Instr.next (.pointer (some ⟨w.heap.size, 0, none⟩)) true ty).run Tryz.prog (w.iter s k) = _ := fun ty => run_next_any w s k ty hp
          have hhigh := decode_high s k hp (by omega)
          have h128 := hhigh.1
          have hbad := Lib.hid (fitsL_bad (f := f) s hp)
          have hbyte := Lib.hid (show 128 ≤ ((s[k]'hp).toNat : Int) by omega)
          clear hhigh
          generalize hcv : (Utf8.decode s k).1 = c at *
          generalize hdv : (Utf8.decode s k).2 = d at *
          clear hcv hdv
          have hc128 : (128 : Int) ≤ (c : Int) := by omega
          by_cases h0 : k = 0
          · subst h0
            have hfr : f c = false := Hhi.out _ hc128
            go_wp2_with (first
              | (go_at_call 166; refine (hf.out _ _).mono ?_; rintro e w' ⟨rfl, rfl⟩)
              | (go_at_call 167; refine (hf.out _ _).mono ?_; rintro e w' ⟨rfl, rfl⟩))
            go_ret
            exact ⟨ret_bool (hbad.out (by simpa using Hhi.out _ hbyte.out)).symm, iter_ext _ _ _⟩
          · have h0b : ((k : Int) == 0) = false := by rw [beq_eq_false_iff_ne]; omega
            have h0p : (0 : Int) < k := by omega
            have hfr : behindC c = false := behindC_high hc128
            go_wp2_with (go_at_call 181; refine (isBehind_any _ _).mono ?_; rintro e w' ⟨rfl, rfl⟩)
            go_ret
            exact ⟨ret_bool (hbad.out (by rw [if_neg h0]; exact behindC_high hbyte.out)).symm, iter_ext _ _ _⟩
      · have hnx : ∀ ty, (Instr.next (.pointer (some ⟨w.heap.size, 0, none⟩)) true ty).run Tryz.prog (w.iter s k) = _ := fun ty => run_next_end w s k ty hp
        have hend := Lib.hid (fits_end (f := f) s hk hp hgood.out)
        go_wp2_with fail
        go_ret
        exact ⟨ret_bool (by rw [hend.out]), iter_ext _ _ _⟩

theorem isWord_any (s : ByteArray) (w : World) : Calls Tryz.prog 147 #[.string s] w fun e w' => e = .returned (.bool (wordB s)) ∧ Below w.heap.size w w' := by
  have hf := Lib.hid (show Fits smallC 166 from isSmall_any)
  go_enter Tryz.func147, Tryz.ntmps147
  go_wp2_with (go_at_call 165; refine (fits_any smallC _ (.inl rfl) hf (fun r h => by simp [smallC]; omega) s _).mono ?_; rintro e w' ⟨rfl, hb⟩)
  go_ret
  exact ⟨rfl, hb⟩

theorem isTag_any (s : ByteArray) (w : World) : Calls Tryz.prog 148 #[.string s] w fun e w' => e = .returned (.bool (tagB s)) ∧ Below w.heap.size w w' := by
  have hf := Lib.hid (show Fits greatC 167 from isGreat_any)
  go_enter Tryz.func148, Tryz.ntmps148
  go_wp2_with (go_at_call 165; refine (fits_any greatC _ (.inr rfl) hf (fun r h => by simp [greatC]; omega) s _).mono ?_; rintro e w' ⟨rfl, hb⟩)
  go_ret
  exact ⟨rfl, hb⟩
end Go.Proofs.YtmjdhfbnmmdjiaaGreat

/- Words and tags as the document has them; labels. -/
namespace Go.Proofs.YtmjdhfbnmmdjiaaGreat
open Go.RowKit

def restB (s : ByteArray) (k : Nat) : Bool := (s.data.toList.drop k).all fun d => behindC d.toNat

theorem restB_succ (s : ByteArray) {k : Nat} (hk : k < s.size) : restB s k = (behindC (s[k]'hk).toNat && restB s (k + 1)) := by
  have hl : k < s.data.toList.length := hk
  unfold restB
  rw [List.drop_eq_getElem_cons hl, List.all_cons]
  rfl

theorem restB_end (s : ByteArray) {k : Nat} (hk : ¬ k < s.size) : restB s k = true := by
  have hl : s.data.toList.length = s.size := rfl
  unfold restB
  rw [List.drop_of_length_le (by omega)]
  rfl

theorem fitsL_pos (f : Int → Bool) (s : ByteArray) (hk : 0 < s.size) : fitsL f s.data.toList = (f (s[0]'hk).toNat && restB s 1) := by
  have hl : 0 < s.data.toList.length := hk
  have e : s.data.toList = (s[0]'hk) :: s.data.toList.drop 1 := by
    have := List.drop_eq_getElem_cons hl
    rw [List.drop_zero] at this
    exact this
  unfold restB
  rw [e]
  rfl

set_option maxRecDepth 100000 in
set_option maxHeartbeats 1000000 in
theorem all_any (s : ByteArray) (w : World) (hs : s.size ≤ 9223372036854775807) :
    Calls Tryz.prog 93 #[.string s] w fun e w' => e = .returned (.bool (restB s 1)) ∧ w = w' := by
  go_enter Tryz.func93, Tryz.ntmps93
  go_wp2_with fail
  go_loop [3] (fun i => ∃ k : Nat, 1 ≤ k ∧ i = .int .i64 k ∧ Hid (restB s k = restB s 1)) (fun i => s.size - (intOf i).toNat)
  case atStart => exact ⟨1, Nat.le_refl _, rfl, Lib.hid rfl⟩
  case round =>
    obtain ⟨k, hk, rfl, hgood⟩ := hrel
    by_cases hp : k < s.size
    · have hstep := Lib.hid (restB_succ s hp)
      cases hb : behindC (s[k]'hp).toNat
      all_goals
        have Hb := Lib.hid hb
        go_wp2_with (go_at_call 118; refine (behind_any _ _).mono ?_; rintro e w' ⟨rfl, rfl⟩)
      · go_ret
        exact ⟨ret_bool (by rw [← hgood.out, hstep.out, Hb.out]; rfl), rfl⟩
      · go_round
        case rel => exact ⟨k + 1, by omega, by go_num, Lib.hid (by rw [← hgood.out, hstep.out, Hb.out]; rfl)⟩
        case measure => simp [intOf]; omega
    · have hend := Lib.hid (restB_end s hp)
      go_wp2_with fail
      go_ret
      exact ⟨ret_bool (by rw [← hgood.out, hend.out]), rfl⟩

theorem fitsL_none (f : Int → Bool) (s : ByteArray) (hk : ¬ 0 < s.size) : fitsL f s.data.toList = false := by
  have hl : s.data.toList.length = s.size := rfl
  rw [List.eq_nil_of_length_eq_zero (l := s.data.toList) (by omega)]
  rfl

set_option maxRecDepth 100000 in
set_option maxHeartbeats 1000000 in
theorem rIsWord_any (s : ByteArray) (w : World) (hs : s.size ≤ 9223372036854775807) :
    Calls Tryz.prog 57 #[.string s] w fun e w' => e = .returned (.bool (wordB s)) ∧ w = w' := by
  by_cases h0 : 0 < s.size
  · have hfin := Lib.hid (fitsL_pos smallC s h0)
    go_enter Tryz.func57, Tryz.ntmps57
    go_wp2_with (first
      | (go_at_call 92; refine (within_any _ _ _ _).mono ?_; rintro e w' ⟨rfl, rfl⟩)
      | (go_at_call 93; refine (all_any _ _ hs).mono ?_; rintro e w' ⟨rfl, rfl⟩))
    all_goals go_ret
    all_goals go_tidy
    all_goals exact ⟨ret_bool (by unfold wordB; rw [hfin.out]; simp_all [smallC] <;> (intros; omega)), rfl⟩
  · have hfin := Lib.hid (fitsL_none smallC s h0)
    have hz : ¬ (0 : Int) < (s.size : Int) := by omega
    go_enter Tryz.func57, Tryz.ntmps57
    go_wp2_with fail
    go_ret
    exact ⟨ret_bool (by unfold wordB; rw [hfin.out]), rfl⟩

set_option maxRecDepth 100000 in
set_option maxHeartbeats 1000000 in
theorem rIsTag_any (s : ByteArray) (w : World) (hs : s.size ≤ 9223372036854775807) :
    Calls Tryz.prog 58 #[.string s] w fun e w' => e = .returned (.bool (tagB s)) ∧ w = w' := by
  by_cases h0 : 0 < s.size
  · have hfin := Lib.hid (fitsL_pos greatC s h0)
    go_enter Tryz.func58, Tryz.ntmps58
    go_wp2_with (first
      | (go_at_call 92; refine (within_any _ _ _ _).mono ?_; rintro e w' ⟨rfl, rfl⟩)
      | (go_at_call 93; refine (all_any _ _ hs).mono ?_; rintro e w' ⟨rfl, rfl⟩))
    all_goals go_ret
    all_goals go_tidy
    all_goals exact ⟨ret_bool (by unfold tagB; rw [hfin.out]; simp_all [greatC] <;> (intros; omega)), rfl⟩
  · have hfin := Lib.hid (fitsL_none greatC s h0)
    have hz : ¬ (0 : Int) < (s.size : Int) := by omega
    go_enter Tryz.func58, Tryz.ntmps58
    go_wp2_with fail
    go_ret
    exact ⟨ret_bool (by unfold tagB; rw [hfin.out]), rfl⟩

/-- Whether a label may stand in a kind of node. -/
def labelB (k : Int) (s : ByteArray) : Bool := if k = 6 then wordB s else if k = 7 then tagB s else decide (s.size = 0)

theorem isEmpty_size (s : ByteArray) : s.toList.isEmpty = decide (s.size = 0) := by
  have hl : s.data.toList.length = s.size := rfl
  rw [ByteArray.toList_eq, List.isEmpty_iff_length_eq_zero |> fun h => (Bool.eq_iff_iff.2 (by rw [h, hl, decide_eq_true_iff]) : s.data.toList.isEmpty = decide (s.size = 0))]

set_option maxHeartbeats 1000000 in
theorem isLabel_any (k : Int) (s : ByteArray) (w : World) :
    Calls Tryz.prog 127 #[.int .i64 k, .string s] w fun e w' => e = .returned (.bool (labelB k s)) ∧ Below w.heap.size w w' := by
  go_enter Tryz.func127, Tryz.ntmps127
  go_wp2_with (first
    | (go_at_call 147; refine (isWord_any _ _).mono ?_; rintro e w' ⟨rfl, hb⟩)
    | (go_at_call 148; refine (isTag_any _ _).mono ?_; rintro e w' ⟨rfl, hb⟩))
  all_goals go_ret
  all_goals go_tidy
  all_goals first
    | exact ⟨ret_bool (by simp_all [labelB]), hb⟩
    | exact ⟨ret_bool (by have := isEmpty_size s; simp_all [labelB]), Below.refl _ _⟩

end Go.Proofs.YtmjdhfbnmmdjiaaGreat

/- Functions that read slices of nodes, each by its contract. -/
namespace Go.Proofs.YtmjdhfbnmmdjiaaGreat
open Go.RowKit

/-- Go's == on two nodes. -/
def ndEq (x y : Nd) : Bool := x.k == y.k && x.s.toList == y.s.toList && x.n == y.n

theorem ndEq_iff (x y : Nd) : ndEq x y = true ↔ x = y := by
  obtain ⟨k, s, n⟩ := x
  obtain ⟨k', s', n'⟩ := y
  simp only [ndEq, Bool.and_eq_true, beq_iff_eq, Nd.mk.injEq]
  rw [ByteArray.toList_eq, ByteArray.toList_eq]
  obtain ⟨⟨l⟩⟩ := s
  obtain ⟨⟨l'⟩⟩ := s'
  simp [and_assoc]

theorem eqNode (d : Nat) (x y : Nd) (w : World) :
    (Op.equalIn (d + 2) 49 x.val y.val).run Tryz.prog w = .ok (ndEq x y) w := by
  have u3 := Tryz.underlying3
  have u9 := Tryz.underlying9
  have a3 := Tryz.isAgg3
  have z3 := Tryz.sizeOf3
  have a9 := Tryz.isAgg9
  have z9 := Tryz.sizeOf9
  have hS : Tryz.prog.underlying 49 = some (.struct (Tryz.prog.fieldsOf 49)) := by kernel_rfl
  have hp : Tryz.prog.stoodInHeld 49 = false := by kernel_rfl
  unfold Nd.val
  rw [run_equalIn_agg w (d + 1) 49 _ _ hS hp]
  simp only [Program.fieldsOf, Tryz.underlying49]
  go_simp
  by_cases h1 : x.k = y.k <;> by_cases h2 : x.s.toList = y.s.toList <;> by_cases h3 : x.n = y.n <;> simp [ndEq, h1, h2, h3]

theorem run_eqNode (x y : Nd) (w : World) : (binOp .eql 49 x.val y.val).run Tryz.prog w = .ok (.bool (ndEq x y)) w := by
  unfold Nd.val
  rw [run_eql_struct, show (10000 : Nat) = 9998 + 2 from rfl]
  have := eqNode 9998 x y w
  unfold Nd.val at this
  rw [this]
  rfl

def allFrom (p : Nd → Bool) (xs : List Nd) (k : Nat) : Bool := (xs.drop k).all p

theorem allFrom_step {p : Nd → Bool} {xs : List Nd} {k : Nat} {x : Nd} (hx : xs[k]? = some x) : allFrom p xs k = (p x && allFrom p xs (k + 1)) := by
  have hl := getq_lt hx
  unfold allFrom
  rw [List.drop_eq_getElem_cons hl, List.all_cons]
  rw [List.getElem?_eq_getElem hl] at hx
  injection hx with hx
  rw [hx]

theorem allFrom_end {p : Nd → Bool} {xs : List Nd} {k : Nat} (h : ¬ k < xs.length) : allFrom p xs k = true := by
  unfold allFrom
  rw [List.drop_of_length_le (by omega)]
  rfl

def plainB (xs : List Nd) : Bool := xs.all fun x => !isVarB x.k
def staticB (xs : List Nd) : Bool := xs.all fun x => !(x.k == 0)

set_option maxRecDepth 100000 in
set_option maxHeartbeats 1000000 in
theorem rPlain_any (A : Option Addr) (c Ba : Nat) (xs : List Nd) (w : World) (ha : TyA w Ba A xs) (hl : xs.length ≤ 9223372036854775807) :
    Calls Tryz.prog 13 #[.slice A xs.length c] w fun e w' => e = .returned (.bool (plainB xs)) ∧ w = w' := by
  go_enter Tryz.func13, Tryz.ntmps13
  go_wp2_with fail
  go_loop [3] (fun i => ∃ k : Nat, k ≤ xs.length ∧ i = .int .i64 k ∧ Hid (allFrom (fun x => !isVarB x.k) xs k = plainB xs)) (fun i => xs.length - (intOf i).toNat)
  case atStart => exact ⟨0, Nat.zero_le _, rfl, Lib.hid rfl⟩
  case round =>
    obtain ⟨k, hk, rfl, hgood⟩ := hrel
    by_cases hp : k < xs.length
    · obtain ⟨x, hx⟩ := getq_ex hp
      have hstep := Lib.hid (allFrom_step (p := fun x => !isVarB x.k) hx)
      obtain ⟨b1, o1, rfl, hb1, c10, c11, c12⟩ := ha.at_ hx
      clear hx
      by_cases h8 : x.k = 8
      · have h8b : (x.k == 8) = true := by simpa using h8
        have H8 := Lib.hid h8
        clear h8
        go_wp2_with fail
        go_ret
        exact ⟨ret_bool (by rw [← hgood.out, hstep.out]; simp [isVarB, H8.out]), rfl⟩
      · have h8b : (x.k == 8) = false := by simpa using h8
        by_cases h9 : x.k = 9
        · have h9b : (x.k == 9) = true := by simpa using h9
          have H9 := Lib.hid h9
          clear h9 h8
          go_wp2_with fail
          go_ret
          exact ⟨ret_bool (by rw [← hgood.out, hstep.out]; simp [isVarB, H9.out]), rfl⟩
        · have h9b : (x.k == 9) = false := by simpa using h9
          go_wp2_with fail
          go_round
          case rel => exact ⟨k + 1, hp, by go_num, Lib.hid (by rw [← hgood.out, hstep.out]; simp [isVarB, h8b, h9b])⟩
          case measure => simp [intOf]; omega
    · have hend := Lib.hid (allFrom_end (p := fun x => !isVarB x.k) hp)
      go_wp2_with fail
      go_ret
      exact ⟨ret_bool (by rw [← hgood.out, hend.out]), rfl⟩

set_option maxRecDepth 100000 in
set_option maxHeartbeats 1000000 in
theorem rStatic_any (A : Option Addr) (c Ba : Nat) (xs : List Nd) (w : World) (ha : TyA w Ba A xs) (hl : xs.length ≤ 9223372036854775807) :
    Calls Tryz.prog 12 #[.slice A xs.length c] w fun e w' => e = .returned (.bool (staticB xs)) ∧ w = w' := by
  go_enter Tryz.func12, Tryz.ntmps12
  go_wp2_with fail
  go_loop [3] (fun i => ∃ k : Nat, k ≤ xs.length ∧ i = .int .i64 k ∧ Hid (allFrom (fun x => !(x.k == 0)) xs k = staticB xs)) (fun i => xs.length - (intOf i).toNat)
  case atStart => exact ⟨0, Nat.zero_le _, rfl, Lib.hid rfl⟩
  case round =>
    obtain ⟨k, hk, rfl, hgood⟩ := hrel
    by_cases hp : k < xs.length
    · obtain ⟨x, hx⟩ := getq_ex hp
      have hstep := Lib.hid (allFrom_step (p := fun x => !(x.k == 0)) hx)
      obtain ⟨b1, o1, rfl, hb1, c10, c11, c12⟩ := ha.at_ hx
      clear hx
      cases h8 : (x.k == 0)
      all_goals
        have H8 := Lib.hid h8
        go_wp2_with fail
      · go_round
        case rel => exact ⟨k + 1, hp, by go_num, Lib.hid (by rw [← hgood.out, hstep.out, H8.out]; rfl)⟩
        case measure => simp [intOf]; omega
      · go_ret
        exact ⟨ret_bool (by rw [← hgood.out, hstep.out, H8.out]; rfl), rfl⟩
    · have hend := Lib.hid (allFrom_end (p := fun x => !(x.k == 0)) hp)
      go_wp2_with fail
      go_ret
      exact ⟨ret_bool (by rw [← hgood.out, hend.out]), rfl⟩
end Go.Proofs.YtmjdhfbnmmdjiaaGreat

/- Whether two types are alike: the document's loop, and the program's by a function value. -/
namespace Go.Proofs.YtmjdhfbnmmdjiaaGreat
open Go.RowKit

/-- A node without its site. -/
def Nd.bare (x : Nd) : Nd := if x.k = 0 then { x with n := 0 } else x

def sameNd (x y : Nd) : Bool := ndEq x.bare y.bare

def sameFrom (xs ys : List Nd) (k : Nat) : Bool := decide ((xs.drop k).map Nd.bare = (ys.drop k).map Nd.bare)
def sameB (xs ys : List Nd) : Bool := decide (xs.map Nd.bare = ys.map Nd.bare)

theorem drop_cons {α : Type} {xs : List α} {k : Nat} {x : α} (hx : xs[k]? = some x) : xs.drop k = x :: xs.drop (k + 1) := by
  have hl := getq_lt hx
  rw [List.drop_eq_getElem_cons hl]
  rw [List.getElem?_eq_getElem hl] at hx
  injection hx with hx
  rw [hx]

theorem sameFrom_step {xs ys : List Nd} {k : Nat} {x y : Nd} (hx : xs[k]? = some x) (hy : ys[k]? = some y) :
    sameFrom xs ys k = (sameNd x y && sameFrom xs ys (k + 1)) := by
  unfold sameFrom sameNd
  rw [drop_cons hx, drop_cons hy, Bool.eq_iff_iff]
  simp [ndEq_iff]

theorem sameFrom_end {xs ys : List Nd} {k : Nat} (h : xs.length = ys.length) (hk : ¬ k < xs.length) : sameFrom xs ys k = true := by
  unfold sameFrom
  rw [List.drop_of_length_le (by omega), List.drop_of_length_le (by omega)]
  simp

theorem sameB_len {xs ys : List Nd} (h : xs.length ≠ ys.length) : sameB xs ys = false := by
  unfold sameB
  simp only [decide_eq_false_iff_not]
  intro e
  have := congrArg List.length e
  simp at this
  exact h this

end Go.Proofs.YtmjdhfbnmmdjiaaGreat

/- A world in which one block of the call's own has been written, and new ones made. -/
namespace Go.Proofs.YtmjdhfbnmmdjiaaGreat
open Go.RowKit

/-- What was written lies above what was there: nothing of the old has turned. -/
theorem below_of_only {a w : World} {g B : Nat} (h : a.grownBy w (some g)) (hg : B ≤ g) (hB : B ≤ a.heap.size) : Below B a w :=
  ⟨h.os, h.tape, h.output, h.size, fun k hk => h.block k (by omega) (by intro e; injection e with e; omega)⟩

theorem TyA.only {w w' : World} {B : Nat} {A : Option Addr} {xs : List Nd} {g : Nat} (h : TyA w B A xs) (hb : w.grownBy w' (some g)) (hg : B ≤ g) (hB : B ≤ w.heap.size) : TyA w' B A xs :=
  h.below (below_of_only hb hg hB)
end Go.Proofs.YtmjdhfbnmmdjiaaGreat

/- The program's Right: a function value that calls itself. -/
namespace Go.Proofs.YtmjdhfbnmmdjiaaGreat
open Go.RowKit

/-- One text is at most another one (Go's order of strings). -/
def leS (a b : ByteArray) : Bool := Op.bytesLess a.toList b.toList || a.toList == b.toList

/-- Whether a node may be child k of a node, behind a child of that label. -/
def childOk (x : Nd) (k : Int) (last : ByteArray) (y : Nd) : Bool :=
  if y.k = 9 then isRowB x.k && !decide (k < x.n - 1) && decide (y.s.size = 0)
  else labelB x.k y.s && !(isRowB x.k && leS y.s last)

/-- The children of a node, so many still to come. -/
def kidsP (tr : Nat → Option Nat) (xs : List Nd) (x : Nd) : Nat → Int → ByteArray → Nat → Option Nat
  | 0, _, _, at_ => some at_
  | todo + 1, k, last, at_ =>
    match xs[at_]? with
    | none => none
    | some y => if childOk x k last y = true then (match tr at_ with
      | none => none
      | some at' => kidsP tr xs x todo (k + 1) y.s at') else none

/-- A tree, from a place on, at most so deep: where it ends. -/
def treeP (xs : List Nd) : Nat → Nat → Option Nat
  | 0, _ => none
  | f + 1, i =>
    match xs[i]? with
    | none => none
    | some x => if okNode x.k x.n = true then kidsP (treeP xs f) xs x (many x.k x.n).toNat 0 ByteArray.empty (i + 1) else none

theorem many_nat {x : Nd} (h : okNode x.k x.n = true) : ∃ M : Nat, many x.k x.n = (M : Int) ∧ M ≤ 50 ∧ (isRowB x.k = true → x.n = (M : Int)) := by
  unfold many
  by_cases h5 : x.k = 5
  · exact ⟨2, by simp [h5], by omega, by simp [h5, isRowB]⟩
  · by_cases h6 : isRowB x.k = true
    · have h1 := okNode_row (n := x.n) h6
      rw [h] at h1
      have h2 := of_decide_eq_true h1.symm
      obtain ⟨h3, h4⟩ := h2
      have h0 : 0 ≤ x.n := by split at h3 <;> omega
      exact ⟨x.n.toNat, by simp [h5, h6]; omega, by omega, fun _ => by omega⟩
    · exact ⟨0, by simp [h5, h6], by omega, fun h => absurd h h6⟩

end Go.Proofs.YtmjdhfbnmmdjiaaGreat

/- The program's Right. -/
namespace Go.Proofs.YtmjdhfbnmmdjiaaGreat
open Go.RowKit

def rootOk : List Nd → Bool
  | [] => false
  | x :: _ => decide (x.s.size = 0) && !(x.k == 9)

/-- Whether nodes are a type. -/
def rightB (xs : List Nd) : Bool := decide (xs.length ≤ 10000) && rootOk xs && decide (treeP xs 100 0 = some xs.length)


end Go.Proofs.YtmjdhfbnmmdjiaaGreat
