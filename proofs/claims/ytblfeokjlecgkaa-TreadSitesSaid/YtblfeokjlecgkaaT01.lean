/- Laid together by a tool from the texts of this seat: Same TrA. Conditions: each theorem's own. -/
import Derived.Test.YtblfeokjlecgkaaProg
import Derived.WalkKit
import Derived.WalkSpells
import Derived.WalkLawsBesides
import Derived.Deep.Draws
import Derived.Deep.QuietTactic
import Derived.BigQuiet
import Derived.Lib.Hide
import Derived.Laws.StructEq
/- Nodes of types as data, slices of nodes as lists, and the small facts on worlds that all walks of this seat use. -/
namespace Go.Proofs.Ytblfeokjlecgkaa
open Go.RowKit

/-- A node of a type: its kind, its label, its number. -/
structure Nd where
  k : Int
  s : ByteArray
  n : Int
  deriving DecidableEq

instance : Inhabited Nd := ⟨⟨0, ByteArray.empty, 0⟩⟩

/-- A node's number and kind are ints, its label is a string of Go's. -/
structure Nd.Ok (x : Nd) : Prop where
  k0 : -9223372036854775808 ≤ x.k
  k1 : x.k ≤ 9223372036854775807
  n0 : -9223372036854775808 ≤ x.n
  n1 : x.n ≤ 9223372036854775807
  s1 : x.s.size ≤ 9223372036854775807

def Nd.val (x : Nd) : Value := .agg #[.int .i64 x.k, .string x.s, .int .i64 x.n]

/-- From the place (b, o) on the nodes xs lie in memory. -/
structure RT (w : World) (b o : Nat) (xs : List Nd) : Prop where
  c0 : ∀ i x, xs[i]? = some x → w.cell? ⟨b, o + i * 3, none⟩ = some (.int .i64 x.k)
  c1 : ∀ i x, xs[i]? = some x → w.cell? ⟨b, o + i * 3 + 1, none⟩ = some (.string x.s)
  c2 : ∀ i x, xs[i]? = some x → w.cell? ⟨b, o + i * 3 + 2, none⟩ = some (.int .i64 x.n)

/-- A slice's address reads as the nodes xs, which lie below block B. -/
def TyA (w : World) (B : Nat) (A : Option Addr) (xs : List Nd) : Prop :=
  xs ≠ [] → ∃ b o, A = some ⟨b, o, none⟩ ∧ b < B ∧ RT w b o xs

section
variable {w w' : World} {B B' : Nat} {A : Option Addr} {xs : List Nd} {b o : Nat}

theorem getq_lt {α : Type} {l : List α} {i : Nat} {x : α} (h : l[i]? = some x) : i < l.length := by
  rcases Nat.lt_or_ge i l.length with g | g
  · exact g
  · rw [List.getElem?_eq_none g] at h; cases h

theorem getq_ex {α : Type} {l : List α} {i : Nat} (h : i < l.length) : ∃ x, l[i]? = some x := ⟨l[i], List.getElem?_eq_getElem h⟩

theorem RT.mono (h : RT w b o xs) (hk : ∀ off, w'.cell? ⟨b, off, none⟩ = w.cell? ⟨b, off, none⟩) : RT w' b o xs :=
  ⟨fun i x hx => (hk _).trans (h.c0 i x hx), fun i x hx => (hk _).trans (h.c1 i x hx), fun i x hx => (hk _).trans (h.c2 i x hx)⟩

theorem RT.drop (h : RT w b o xs) (i : Nat) : RT w b (o + i * 3) (xs.drop i) := by
  refine ⟨fun j x hx => ?_, fun j x hx => ?_, fun j x hx => ?_⟩ <;> rw [List.getElem?_drop] at hx
  · have := h.c0 _ x hx; rwa [show o + (i + j) * 3 = o + i * 3 + j * 3 by omega] at this
  · have := h.c1 _ x hx; rwa [show o + (i + j) * 3 + 1 = o + i * 3 + j * 3 + 1 by omega] at this
  · have := h.c2 _ x hx; rwa [show o + (i + j) * 3 + 2 = o + i * 3 + j * 3 + 2 by omega] at this

theorem RT.take (h : RT w b o xs) (i : Nat) : RT w b o (xs.take i) := by
  have key : ∀ (j : Nat) (x : Nd), (xs.take i)[j]? = some x → xs[j]? = some x := by
    intro j x hx
    have hl := getq_lt hx
    rw [List.length_take] at hl
    rwa [List.getElem?_take_of_lt (by omega)] at hx
  exact ⟨fun j x hx => h.c0 j x (key j x hx), fun j x hx => h.c1 j x (key j x hx), fun j x hx => h.c2 j x (key j x hx)⟩

theorem TyA.nil : TyA w B A [] := fun h => absurd rfl h

theorem TyA.below (h : TyA w B A xs) (hb : Below B w w') : TyA w' B A xs := fun hx => by
  obtain ⟨b, o, rfl, hlt, hr⟩ := h hx
  exact ⟨b, o, rfl, hlt, hr.mono fun off => hb.cell (p := ⟨b, off, none⟩) hlt⟩

theorem TyA.more (h : TyA w B A xs) (hB : B ≤ B') : TyA w B' A xs := fun hx => by
  obtain ⟨b, o, rfl, hlt, hr⟩ := h hx
  exact ⟨b, o, rfl, by omega, hr⟩

theorem TyA.drewN (h : TyA w B A xs) (n : Nat) : TyA (w.drewN n) B A xs := fun hx => by
  obtain ⟨b, o, rfl, hlt, hr⟩ := h hx
  exact ⟨b, o, rfl, hlt, hr.mono fun _ => rfl⟩
theorem TyA.drew (h : TyA w B A xs) : TyA w.drew B A xs := fun hx => by
  obtain ⟨b, o, rfl, hlt, hr⟩ := h hx
  exact ⟨b, o, rfl, hlt, hr.mono fun _ => rfl⟩

theorem TyA.alloc (h : TyA w B A xs) (hB : B ≤ w.heap.size) (ob : Obj) : TyA (w.alloc ob) B A xs := fun hx => by
  obtain ⟨b, o, rfl, hlt, hr⟩ := h hx
  exact ⟨b, o, rfl, hlt, hr.mono fun off => World.cell?_alloc_lt w ob ⟨b, off, none⟩ (Nat.lt_of_lt_of_le hlt hB)⟩

/-- The node at a place below the length. -/
theorem TyA.at_ (h : TyA w B A xs) {i : Nat} {x : Nd} (hx : xs[i]? = some x) :
    ∃ b o, A = some ⟨b, o, none⟩ ∧ b < B ∧ w.cell? ⟨b, o + i * 3, none⟩ = some (.int .i64 x.k) ∧ w.cell? ⟨b, o + i * 3 + 1, none⟩ = some (.string x.s) ∧
      w.cell? ⟨b, o + i * 3 + 2, none⟩ = some (.int .i64 x.n) := by
  obtain ⟨b, o, rfl, hb, hr⟩ := h (by rintro rfl; simp at hx)
  exact ⟨b, o, rfl, hb, hr.c0 i x hx, hr.c1 i x hx, hr.c2 i x hx⟩
end

/-- What lay below stands. -/
theorem bcell {W w1 : World} {B : Nat} (hb : Below B W w1) : (∀ b o, b < B → w1.cell? ⟨b, o, none⟩ = W.cell? ⟨b, o, none⟩) ∧ (∀ b o, b < B → w1.frozen? ⟨b, o, none⟩ = W.frozen? ⟨b, o, none⟩) :=
  ⟨fun b o h => hb.cell (p := ⟨b, o, none⟩) h, fun b o h => hb.frozen (p := ⟨b, o, none⟩) h⟩

theorem ext_trans {w W w1 : World} (h : Below w.heap.size w W) (k : Below W.heap.size W w1) : Below w.heap.size w w1 := h.trans (k.mono h.size)
theorem ext_alloc {w W : World} (h : Below w.heap.size w W) (o : Obj) : Below w.heap.size w (W.alloc o) := h.alloc h.size o
theorem ext_set {w W : World} (h : Below w.heap.size w W) {p : Addr} (hp : w.heap.size ≤ p.block) (u : Value) : Below w.heap.size w (W.setCell p u) := h.setCell hp u
theorem ext_drewN {w W : World} (h : Below w.heap.size w W) (n : Nat) : Below w.heap.size w (W.drewN n) := ⟨h.os, h.tape, h.output, h.size, h.block⟩

theorem below_drewN {B : Nat} {a w : World} (h : Below B a w) (n : Nat) : Below B a (w.drewN n) := ⟨h.os, h.tape, h.output, h.size, h.block⟩

theorem ret_bool {a b : Bool} (h : a = b) : Ending.returned (.bool a) = .returned (.bool b) := by rw [h]
theorem ret_int {k : IntKind} {a b : Int} (h : a = b) : Ending.returned (.int k a) = .returned (.int k b) := by rw [h]
theorem ret_str {a b : ByteArray} (h : a = b) : Ending.returned (.string a) = .returned (.string b) := by rw [h]
end Go.Proofs.Ytblfeokjlecgkaa

/- The small functions on one node, each by its contract. -/
namespace Go.Proofs.Ytblfeokjlecgkaa
open Go.RowKit

def isRowB (k : Int) : Bool := k == 6 || k == 7
/-- Whether a node's kind and number may be. -/
def okNode (k n : Int) : Bool :=
  if k = 0 ∨ k = 8 ∨ k = 9 then decide (0 ≤ n) else
  if k = 6 then decide (0 ≤ n ∧ n ≤ 50) else
  if k = 7 then decide (0 < n ∧ n ≤ 50) else decide (0 < k ∧ k ≤ 5 ∧ n = 0)

/-- How many children a node has. -/
def many (k n : Int) : Int := if k = 5 then 2 else if isRowB k = true then n else 0
def manyP (k n : Int) : Int := if k = 5 then 2 else if isRowB k = true then max n 0 else 0

theorem okNode_row {k n : Int} (h : isRowB k = true) : okNode k n = decide ((if k = 7 then 0 < n else 0 ≤ n) ∧ n ≤ 50) := by
  simp [isRowB] at h
  rcases h with rfl | rfl <;> simp [okNode]

theorem manyP_ok {k n : Int} (h : okNode k n = true) : manyP k n = many k n := by
  unfold manyP many
  split
  · rfl
  · split
    · rename_i h6
      rw [okNode_row h6] at h
      simp at h
      obtain ⟨h1, _⟩ := h
      split at h1 <;> omega
    · rfl

set_option maxHeartbeats 400000 in
theorem isRow_any (k n : Int) (s : ByteArray) (w : World) :
    Calls Try.prog 126 #[.agg #[.int .i64 k, .string s, .int .i64 n]] w fun e w' => e = .returned (.bool (isRowB k)) ∧ Below w.heap.size w w' := by
  go_enter Try.func126, Try.ntmps126
  go_wp2
  all_goals go_ret
  all_goals exact ⟨ret_bool (by simp_all [isRowB]), (Below.refl _ _).alloc (Nat.le_refl _) _⟩

set_option maxHeartbeats 400000 in
theorem many_any (k n : Int) (s : ByteArray) (w : World) :
    Calls Try.prog 125 #[.agg #[.int .i64 k, .string s, .int .i64 n]] w fun e w' => e = .returned (.int .i64 (manyP k n)) ∧ Below w.heap.size w w' := by
  by_cases h5 : k = 5
  · subst h5
    go_enter Try.func125, Try.ntmps125
    go_wp2_with fail
    go_ret
    exact ⟨ret_int rfl, (Below.refl _ _).alloc (Nat.le_refl _) _⟩
  · have h5b : (k == 5) = false := by simpa using h5
    go_enter Try.func125, Try.ntmps125
    go_wp2_with fail
    refine (isRow_any _ _ _ _).mono ?_
    rintro e w1 ⟨rfl, hb⟩
    obtain ⟨hc, hf⟩ := bcell hb
    go_wp2_with fail
    all_goals go_ret
    all_goals refine ⟨ret_int ?_, ext_trans ((Below.refl _ _).alloc (Nat.le_refl _) _) hb⟩
    all_goals (simp_all [manyP]; try omega)

set_option maxHeartbeats 400000 in
theorem rmany_any (k n : Int) (s : ByteArray) (w : World) :
    Calls Try.prog 107 #[.agg #[.int .i64 k, .string s, .int .i64 n]] w fun e w' => e = .returned (.int .i64 (many k n)) ∧ Below w.heap.size w w' := by
  go_enter Try.func107, Try.ntmps107
  go_wp2
  all_goals go_ret
  all_goals exact ⟨ret_int (by simp_all [many, isRowB]), (Below.refl _ _).alloc (Nat.le_refl _) _⟩

set_option maxHeartbeats 1000000 in
theorem isNode_any (k n : Int) (s : ByteArray) (w : World) :
    Calls Try.prog 124 #[.agg #[.int .i64 k, .string s, .int .i64 n]] w fun e w' => e = .returned (.bool (okNode k n)) ∧ Below w.heap.size w w' := by
  go_enter Try.func124, Try.ntmps124
  go_wp2
  all_goals go_ret
  all_goals refine ⟨ret_bool ?_, (Below.refl _ _).alloc (Nat.le_refl _) _⟩
  all_goals go_tidy
  all_goals (unfold okNode; simp_all)
  all_goals first | done | rfl | omega | (split <;> simp <;> omega)

set_option maxHeartbeats 1000000 in
theorem numbered_any (k n : Int) (s : ByteArray) (w : World) :
    Calls Try.prog 61 #[.agg #[.int .i64 k, .string s, .int .i64 n]] w fun e w' => e = .returned (.bool (okNode k n)) ∧ Below w.heap.size w w' := by
  go_enter Try.func61, Try.ntmps61
  go_wp2
  all_goals go_ret
  all_goals refine ⟨ret_bool ?_, (Below.refl _ _).alloc (Nat.le_refl _) _⟩
  all_goals go_tidy
  all_goals (unfold okNode; simp_all)
  all_goals first | done | rfl | omega | (split <;> simp <;> omega)

end Go.Proofs.Ytblfeokjlecgkaa

/- Words and tags: what the program asks of a text's runes, and the document of its bytes. -/
namespace Go.Proofs.Ytblfeokjlecgkaa
open Go.RowKit

def smallC (c : Int) : Bool := decide (97 ≤ c ∧ c ≤ 122)
def greatC (c : Int) : Bool := decide (65 ≤ c ∧ c ≤ 90)
def behindC (c : Int) : Bool := smallC c || greatC c || decide (48 ≤ c ∧ c ≤ 57) || c == 95

/-- Of a text the first byte fits, and all others may stand behind. -/
def fitsL (f : Int → Bool) : List UInt8 → Bool
  | [] => false
  | c :: cs => f c.toNat && cs.all fun d => behindC d.toNat

def wordB (s : ByteArray) : Bool := fitsL smallC s.data.toList
def tagB (s : ByteArray) : Bool := fitsL greatC s.data.toList

theorem isSmall_any (r : Int) (w : World) : Calls Try.prog 196 #[.int .i32 r] w fun e w' => e = .returned (.bool (smallC r)) ∧ w = w' := by
  go_enter Try.func196, Try.ntmps196
  go_wp2
  all_goals go_ret
  all_goals go_tidy
  all_goals exact ⟨ret_bool (by simp_all [smallC] <;> (intros; omega)), rfl⟩

theorem isGreat_any (r : Int) (w : World) : Calls Try.prog 197 #[.int .i32 r] w fun e w' => e = .returned (.bool (greatC r)) ∧ w = w' := by
  go_enter Try.func197, Try.ntmps197
  go_wp2
  all_goals go_ret
  all_goals go_tidy
  all_goals exact ⟨ret_bool (by simp_all [greatC] <;> (intros; omega)), rfl⟩

set_option maxHeartbeats 400000 in
theorem isBehind_any (r : Int) (w : World) : Calls Try.prog 218 #[.int .i32 r] w fun e w' => e = .returned (.bool (behindC r)) ∧ w = w' := by
  go_enter Try.func218, Try.ntmps218
  go_wp2_with (first
    | (go_at_call 196; refine (isSmall_any _ _).mono ?_; rintro e w' ⟨rfl, rfl⟩)
    | (go_at_call 197; refine (isGreat_any _ _).mono ?_; rintro e w' ⟨rfl, rfl⟩))
  all_goals go_ret
  all_goals go_tidy
  all_goals exact ⟨ret_bool (by simp_all [behindC] <;> (intros; omega)), rfl⟩

theorem within_any (c a b : Int) (w : World) : Calls Try.prog 141 #[.int .u8 c, .int .u8 a, .int .u8 b] w fun e w' => e = .returned (.bool (decide (a ≤ c ∧ c ≤ b))) ∧ w = w' := by
  go_enter Try.func141, Try.ntmps141
  go_wp2
  all_goals go_ret
  all_goals go_tidy
  all_goals exact ⟨ret_bool (by simp_all <;> (intros; omega)), rfl⟩

set_option maxHeartbeats 400000 in
theorem behind_any (r : Int) (w : World) : Calls Try.prog 174 #[.int .u8 r] w fun e w' => e = .returned (.bool (behindC r)) ∧ w = w' := by
  go_enter Try.func174, Try.ntmps174
  go_wp2_with (go_at_call 141; refine (within_any _ _ _ _).mono ?_; rintro e w' ⟨rfl, rfl⟩)
  all_goals go_ret
  all_goals go_tidy
  all_goals exact ⟨ret_bool (by simp_all [behindC, smallC, greatC] <;> (intros; omega)), rfl⟩

theorem fitsL_take_succ {f : Int → Bool} (s : ByteArray) {k : Nat} (hk : k < s.size) (h : k = 0 ∨ fitsL f (s.data.toList.take k) = true) :
    fitsL f (s.data.toList.take (k + 1)) = (if k = 0 then f (s[k]'hk).toNat else behindC (s[k]'hk).toNat) := by
  have hl : k < s.data.toList.length := hk
  have e : s.data.toList.take (k + 1) = s.data.toList.take k ++ [s[k]'hk] := by
    rw [List.take_succ_eq_append_getElem hl]; rfl
  rw [e]
  rcases h with rfl | h
  · simp [fitsL]
  · by_cases h0 : k = 0
    · subst h0; simp [fitsL]
    · rw [if_neg h0]
      match hm : s.data.toList.take k, h with
      | c :: cs, h =>
        simp only [fitsL, Bool.and_eq_true] at h
        simp [fitsL, h.1, h.2]

/-- A byte that does not fit, at its place, spoils the text. -/
theorem fitsL_bad {f : Int → Bool} (s : ByteArray) {k : Nat} (hk : k < s.size) (h : (if k = 0 then f (s[k]'hk).toNat else behindC (s[k]'hk).toNat) = false) :
    fitsL f s.data.toList = false := by
  have hl : k < s.data.toList.length := hk
  have e : s.data.toList = s.data.toList.take k ++ (s[k]'hk) :: s.data.toList.drop (k + 1) := by
    have h1 := List.take_append_drop k s.data.toList
    rw [List.drop_eq_getElem_cons hl] at h1
    exact h1.symm
  rw [e]
  by_cases h0 : k = 0
  · subst h0
    simp only [if_true] at h
    simp [fitsL, h]
  · rw [if_neg h0] at h
    match hm : s.data.toList.take k with
    | [] =>
      have := congrArg List.length hm
      rw [List.length_take, List.length_nil] at this
      omega
    | c :: cs => simp [fitsL, h]

theorem behindC_high {r : Int} (h : 128 ≤ r) : behindC r = false := by
  simp [behindC, smallC, greatC]
  omega

theorem iter_ext (w : World) (s : ByteArray) (k : Nat) : Below w.heap.size w (w.iter s k) := (Below.refl _ _).alloc (Nat.le_refl _) (.stringIter s k)

theorem fits_end {f : Int → Bool} (s : ByteArray) {k : Nat} (hk : k ≤ s.size) (hp : ¬ k < s.size) (h : k = 0 ∨ fitsL f (s.data.toList.take k) = true) :
    (!s.toList.isEmpty) = fitsL f s.data.toList := by
  have hl : s.data.toList.length = s.size := rfl
  have hk' : k = s.data.toList.length := by omega
  rw [ByteArray.toList_eq]
  rcases h with rfl | h
  · have : s.data.toList = [] := List.eq_nil_of_length_eq_zero hk'.symm
    rw [this]; rfl
  · rw [List.take_of_length_le (by omega)] at h
    rw [h]
    match s.data.toList, h with
    | c :: cs, _ => rfl

def Fits (f : Int → Bool) (K : Nat) : Prop := ∀ (r : Int) (w : World), Calls Try.prog K #[.int .i32 r] w fun e w' => e = .returned (.bool (f r)) ∧ w = w'

set_option maxRecDepth 100000 in
set_option maxHeartbeats 2000000 in
theorem fits_any (f : Int → Bool) (K : Nat) (hK : K = 196 ∨ K = 197) (hf : Hid (Fits f K)) (hhi : ∀ r, 128 ≤ r → f r = false) (s : ByteArray) (w : World) :
    Calls Try.prog 195 #[.string s, .func (.func K) #[] #[]] w fun e w' => e = .returned (.bool (fitsL f s.data.toList)) ∧ Below w.heap.size w w' := by
  have Hhi := Lib.hid hhi
  clear hhi
  rcases hK with rfl | rfl
  all_goals
    go_enter Try.func195, Try.ntmps195
    go_wp2_with fail
    go_loopw [5] (fun _ w' => ∃ k : Nat, k ≤ s.size ∧ w' = w.iter s k ∧ Hid (k = 0 ∨ fitsL f (s.data.toList.take k) = true)) (fun _ w' => s.size - w'.iterPos w.heap.size)
    case atStart => exact ⟨0, Nat.zero_le _, rfl, Lib.hid (.inl rfl)⟩
    case round =>
      obtain ⟨k, hk, rfl, hgood⟩ := hrel
      by_cases hp : k < s.size
      · by_cases ha : (s[k]'hp).toNat < 128
        · have hnx : ∀ ty, (Instr.next (.pointer (some ⟨w.heap.size, 0, none⟩)) true ty).run Try.prog (w.iter s k) = _ := fun ty => run_next_ascii w s k ty hp ha
          have hstep := Lib.hid (fitsL_take_succ (f := f) s hp hgood.out)
          have hbad := Lib.hid (fitsL_bad (f := f) s hp)
          generalize hcv : (s[k]'hp).toNat = c at *
          clear hcv
          by_cases h0 : k = 0
          · subst h0
            cases hfr : f c
            all_goals go_wp2_with (first
              | (go_at_call 196; refine (hf.out _ _).mono ?_; rintro e w' ⟨rfl, rfl⟩)
              | (go_at_call 197; refine (hf.out _ _).mono ?_; rintro e w' ⟨rfl, rfl⟩))
            · go_ret
              exact ⟨ret_bool (hbad.out (by simpa using hfr)).symm, iter_ext _ _ _⟩
            · go_roundw
              case rel => exact ⟨1, hp, rfl, Lib.hid (.inr (by rw [hstep.out]; simpa using hfr))⟩
              case measure => simp; omega
          · have h0b : ((k : Int) == 0) = false := by rw [beq_eq_false_iff_ne]; omega
            have h0p : (0 : Int) < k := by omega
            cases hfr : behindC c
            all_goals go_wp2_with (go_at_call 218; refine (isBehind_any _ _).mono ?_; rintro e w' ⟨rfl, rfl⟩)
            · go_ret
              exact ⟨ret_bool (hbad.out (by rw [if_neg h0]; exact hfr)).symm, iter_ext _ _ _⟩
            · go_roundw
              case rel => exact ⟨k + 1, hp, rfl, Lib.hid (.inr (by rw [hstep.out, if_neg h0]; exact hfr))⟩
              case measure => simp; omega
        · have hnx : ∀ ty, (Instr.next (.pointer (some ⟨w.heap.size, 0, none⟩)) true ty).run Try.prog (w.iter s k) = _ := fun ty => run_next_any w s k ty hp
          have hhigh := decode_high s k hp (by omega)
          have h128 := hhigh.1
          have hbad := Lib.hid (fitsL_bad (f := f) s hp)
          have hbyte := Lib.hid (show 128 ≤ ((s[k]'hp).toNat : Int) by omega)
          clear hhigh
          generalize hcv : (Utf8.decode s k).1 = c at *
          generalize hdv : (Utf8.decode s k).2 = d at *
          clear hcv hdv
          have hc128 : (128 : Int) ≤ (c : Int) := by omega
          by_cases h0 : k = 0
          · subst h0
            have hfr : f c = false := Hhi.out _ hc128
            go_wp2_with (first
              | (go_at_call 196; refine (hf.out _ _).mono ?_; rintro e w' ⟨rfl, rfl⟩)
              | (go_at_call 197; refine (hf.out _ _).mono ?_; rintro e w' ⟨rfl, rfl⟩))
            go_ret
            exact ⟨ret_bool (hbad.out (by simpa using Hhi.out _ hbyte.out)).symm, iter_ext _ _ _⟩
          · have h0b : ((k : Int) == 0) = false := by rw [beq_eq_false_iff_ne]; omega
            have h0p : (0 : Int) < k := by omega
            have hfr : behindC c = false := behindC_high hc128
            go_wp2_with (go_at_call 218; refine (isBehind_any _ _).mono ?_; rintro e w' ⟨rfl, rfl⟩)
            go_ret
            exact ⟨ret_bool (hbad.out (by rw [if_neg h0]; exact behindC_high hbyte.out)).symm, iter_ext _ _ _⟩
      · have hnx : ∀ ty, (Instr.next (.pointer (some ⟨w.heap.size, 0, none⟩)) true ty).run Try.prog (w.iter s k) = _ := fun ty => run_next_end w s k ty hp
        have hend := Lib.hid (fits_end (f := f) s hk hp hgood.out)
        go_wp2_with fail
        go_ret
        exact ⟨ret_bool (by rw [hend.out]), iter_ext _ _ _⟩

theorem isWord_any (s : ByteArray) (w : World) : Calls Try.prog 157 #[.string s] w fun e w' => e = .returned (.bool (wordB s)) ∧ Below w.heap.size w w' := by
  have hf := Lib.hid (show Fits smallC 196 from isSmall_any)
  go_enter Try.func157, Try.ntmps157
  go_wp2_with (go_at_call 195; refine (fits_any smallC _ (.inl rfl) hf (fun r h => by simp [smallC]; omega) s _).mono ?_; rintro e w' ⟨rfl, hb⟩)
  go_ret
  exact ⟨rfl, hb⟩

theorem isTag_any (s : ByteArray) (w : World) : Calls Try.prog 158 #[.string s] w fun e w' => e = .returned (.bool (tagB s)) ∧ Below w.heap.size w w' := by
  have hf := Lib.hid (show Fits greatC 197 from isGreat_any)
  go_enter Try.func158, Try.ntmps158
  go_wp2_with (go_at_call 195; refine (fits_any greatC _ (.inr rfl) hf (fun r h => by simp [greatC]; omega) s _).mono ?_; rintro e w' ⟨rfl, hb⟩)
  go_ret
  exact ⟨rfl, hb⟩
end Go.Proofs.Ytblfeokjlecgkaa

/- Words and tags as the document has them; labels. -/
namespace Go.Proofs.Ytblfeokjlecgkaa
open Go.RowKit

def restB (s : ByteArray) (k : Nat) : Bool := (s.data.toList.drop k).all fun d => behindC d.toNat

theorem restB_succ (s : ByteArray) {k : Nat} (hk : k < s.size) : restB s k = (behindC (s[k]'hk).toNat && restB s (k + 1)) := by
  have hl : k < s.data.toList.length := hk
  unfold restB
  rw [List.drop_eq_getElem_cons hl, List.all_cons]
  rfl

theorem restB_end (s : ByteArray) {k : Nat} (hk : ¬ k < s.size) : restB s k = true := by
  have hl : s.data.toList.length = s.size := rfl
  unfold restB
  rw [List.drop_of_length_le (by omega)]
  rfl

theorem fitsL_pos (f : Int → Bool) (s : ByteArray) (hk : 0 < s.size) : fitsL f s.data.toList = (f (s[0]'hk).toNat && restB s 1) := by
  have hl : 0 < s.data.toList.length := hk
  have e : s.data.toList = (s[0]'hk) :: s.data.toList.drop 1 := by
    have := List.drop_eq_getElem_cons hl
    rw [List.drop_zero] at this
    exact this
  unfold restB
  rw [e]
  rfl

set_option maxRecDepth 100000 in
set_option maxHeartbeats 1000000 in
theorem all_any (s : ByteArray) (w : World) (hs : s.size ≤ 9223372036854775807) :
    Calls Try.prog 142 #[.string s] w fun e w' => e = .returned (.bool (restB s 1)) ∧ w = w' := by
  go_enter Try.func142, Try.ntmps142
  go_wp2_with fail
  go_loop [3] (fun i => ∃ k : Nat, 1 ≤ k ∧ i = .int .i64 k ∧ Hid (restB s k = restB s 1)) (fun i => s.size - (intOf i).toNat)
  case atStart => exact ⟨1, Nat.le_refl _, rfl, Lib.hid rfl⟩
  case round =>
    obtain ⟨k, hk, rfl, hgood⟩ := hrel
    by_cases hp : k < s.size
    · have hstep := Lib.hid (restB_succ s hp)
      cases hb : behindC (s[k]'hp).toNat
      all_goals
        have Hb := Lib.hid hb
        go_wp2_with (go_at_call 174; refine (behind_any _ _).mono ?_; rintro e w' ⟨rfl, rfl⟩)
      · go_ret
        exact ⟨ret_bool (by rw [← hgood.out, hstep.out, Hb.out]; rfl), rfl⟩
      · go_round
        case rel => exact ⟨k + 1, by omega, by go_num, Lib.hid (by rw [← hgood.out, hstep.out, Hb.out]; rfl)⟩
        case measure => simp [intOf]; omega
    · have hend := Lib.hid (restB_end s hp)
      go_wp2_with fail
      go_ret
      exact ⟨ret_bool (by rw [← hgood.out, hend.out]), rfl⟩

theorem fitsL_none (f : Int → Bool) (s : ByteArray) (hk : ¬ 0 < s.size) : fitsL f s.data.toList = false := by
  have hl : s.data.toList.length = s.size := rfl
  rw [List.eq_nil_of_length_eq_zero (l := s.data.toList) (by omega)]
  rfl

set_option maxRecDepth 100000 in
set_option maxHeartbeats 1000000 in
theorem rIsWord_any (s : ByteArray) (w : World) (hs : s.size ≤ 9223372036854775807) :
    Calls Try.prog 108 #[.string s] w fun e w' => e = .returned (.bool (wordB s)) ∧ w = w' := by
  by_cases h0 : 0 < s.size
  · have hfin := Lib.hid (fitsL_pos smallC s h0)
    go_enter Try.func108, Try.ntmps108
    go_wp2_with (first
      | (go_at_call 141; refine (within_any _ _ _ _).mono ?_; rintro e w' ⟨rfl, rfl⟩)
      | (go_at_call 142; refine (all_any _ _ hs).mono ?_; rintro e w' ⟨rfl, rfl⟩))
    all_goals go_ret
    all_goals go_tidy
    all_goals exact ⟨ret_bool (by unfold wordB; rw [hfin.out]; simp_all [smallC] <;> (intros; omega)), rfl⟩
  · have hfin := Lib.hid (fitsL_none smallC s h0)
    have hz : ¬ (0 : Int) < (s.size : Int) := by omega
    go_enter Try.func108, Try.ntmps108
    go_wp2_with fail
    go_ret
    exact ⟨ret_bool (by unfold wordB; rw [hfin.out]), rfl⟩

set_option maxRecDepth 100000 in
set_option maxHeartbeats 1000000 in
theorem rIsTag_any (s : ByteArray) (w : World) (hs : s.size ≤ 9223372036854775807) :
    Calls Try.prog 109 #[.string s] w fun e w' => e = .returned (.bool (tagB s)) ∧ w = w' := by
  by_cases h0 : 0 < s.size
  · have hfin := Lib.hid (fitsL_pos greatC s h0)
    go_enter Try.func109, Try.ntmps109
    go_wp2_with (first
      | (go_at_call 141; refine (within_any _ _ _ _).mono ?_; rintro e w' ⟨rfl, rfl⟩)
      | (go_at_call 142; refine (all_any _ _ hs).mono ?_; rintro e w' ⟨rfl, rfl⟩))
    all_goals go_ret
    all_goals go_tidy
    all_goals exact ⟨ret_bool (by unfold tagB; rw [hfin.out]; simp_all [greatC] <;> (intros; omega)), rfl⟩
  · have hfin := Lib.hid (fitsL_none greatC s h0)
    have hz : ¬ (0 : Int) < (s.size : Int) := by omega
    go_enter Try.func109, Try.ntmps109
    go_wp2_with fail
    go_ret
    exact ⟨ret_bool (by unfold tagB; rw [hfin.out]), rfl⟩

/-- Whether a label may stand in a kind of node. -/
def labelB (k : Int) (s : ByteArray) : Bool := if k = 6 then wordB s else if k = 7 then tagB s else decide (s.size = 0)

theorem isEmpty_size (s : ByteArray) : s.toList.isEmpty = decide (s.size = 0) := by
  have hl : s.data.toList.length = s.size := rfl
  rw [ByteArray.toList_eq, List.isEmpty_iff_length_eq_zero |> fun h => (Bool.eq_iff_iff.2 (by rw [h, hl, decide_eq_true_iff]) : s.data.toList.isEmpty = decide (s.size = 0))]

set_option maxHeartbeats 1000000 in
theorem isLabel_any (k : Int) (s : ByteArray) (w : World) :
    Calls Try.prog 127 #[.int .i64 k, .string s] w fun e w' => e = .returned (.bool (labelB k s)) ∧ Below w.heap.size w w' := by
  go_enter Try.func127, Try.ntmps127
  go_wp2_with (first
    | (go_at_call 157; refine (isWord_any _ _).mono ?_; rintro e w' ⟨rfl, hb⟩)
    | (go_at_call 158; refine (isTag_any _ _).mono ?_; rintro e w' ⟨rfl, hb⟩))
  all_goals go_ret
  all_goals go_tidy
  all_goals first
    | exact ⟨ret_bool (by simp_all [labelB]), hb⟩
    | exact ⟨ret_bool (by have := isEmpty_size s; simp_all [labelB]), Below.refl _ _⟩

end Go.Proofs.Ytblfeokjlecgkaa

/- Functions that read slices of nodes, each by its contract. -/
namespace Go.Proofs.Ytblfeokjlecgkaa
open Go.RowKit

def allFrom (p : Nd → Bool) (xs : List Nd) (k : Nat) : Bool := (xs.drop k).all p

theorem allFrom_step {p : Nd → Bool} {xs : List Nd} {k : Nat} {x : Nd} (hx : xs[k]? = some x) : allFrom p xs k = (p x && allFrom p xs (k + 1)) := by
  have hl := getq_lt hx
  unfold allFrom
  rw [List.drop_eq_getElem_cons hl, List.all_cons]
  rw [List.getElem?_eq_getElem hl] at hx
  injection hx with hx
  rw [hx]

theorem allFrom_end {p : Nd → Bool} {xs : List Nd} {k : Nat} (h : ¬ k < xs.length) : allFrom p xs k = true := by
  unfold allFrom
  rw [List.drop_of_length_le (by omega)]
  rfl

end Go.Proofs.Ytblfeokjlecgkaa

/- Whether two types are alike: the document's loop, and the program's by a function value. -/
namespace Go.Proofs.Ytblfeokjlecgkaa
open Go.RowKit

theorem drop_cons {α : Type} {xs : List α} {k : Nat} {x : α} (hx : xs[k]? = some x) : xs.drop k = x :: xs.drop (k + 1) := by
  have hl := getq_lt hx
  rw [List.drop_eq_getElem_cons hl]
  rw [List.getElem?_eq_getElem hl] at hx
  injection hx with hx
  rw [hx]

end Go.Proofs.Ytblfeokjlecgkaa

/- Tokens, as the document reads them: single bytes, and what stands between. -/
namespace Go.Proofs.Ytblfeokjlecgkaa
open Go.RowKit

def figC (c : Int) : Bool := decide (48 ≤ c ∧ c ≤ 57)

theorem goes_any (c : Int) (w : World) : Calls Try.prog 117 #[.int .u8 c] w fun e w' => e = .returned (.bool (behindC c)) ∧ w = w' := by
  go_enter Try.func117, Try.ntmps117
  go_wp2
  all_goals go_ret
  all_goals go_tidy
  all_goals exact ⟨ret_bool (by simp_all [behindC, smallC, greatC] <;> (intros; first | omega | (rw [Bool.eq_iff_iff]; simp; omega))), rfl⟩

theorem figure_any (c : Int) (w : World) : Calls Try.prog 119 #[.int .u8 c] w fun e w' => e = .returned (.bool (figC c)) ∧ w = w' := by
  go_enter Try.func119, Try.ntmps119
  go_wp2
  all_goals go_ret
  all_goals go_tidy
  all_goals exact ⟨ret_bool (by simp_all [figC] <;> (intros; omega)), rfl⟩

/-- How many bytes are skipped; inside a remark: to its end. -/
def btwL : Bool → List UInt8 → Nat
  | _, [] => 0
  | false, c :: cs => if c.toNat = 32 ∨ c.toNat = 9 ∨ c.toNat = 10 then 1 + btwL false cs else if c.toNat = 35 then 1 + btwL true cs else 0
  | true, c :: cs => if c.toNat = 10 then 1 + btwL false cs else 1 + btwL true cs

/-- Where what stands between ends. -/
def btw (s : ByteArray) (k : Nat) : Nat := k + btwL false (s.data.toList.drop k)
/-- The same, inside a remark. -/
def btwR (s : ByteArray) (k : Nat) : Nat := k + btwL true (s.data.toList.drop k)

theorem drop_at (s : ByteArray) {k : Nat} (hk : k < s.size) : s.data.toList.drop k = (s[k]'hk) :: s.data.toList.drop (k + 1) := List.drop_eq_getElem_cons (show k < s.data.toList.length from hk)
theorem drop_end (s : ByteArray) {k : Nat} (hk : ¬ k < s.size) : s.data.toList.drop k = [] := List.drop_of_length_le (by have : s.data.toList.length = s.size := rfl; omega)
theorem btw_end (s : ByteArray) {k : Nat} (hk : ¬ k < s.size) : btw s k = k := by unfold btw; rw [drop_end s hk]; rfl
theorem btwR_end (s : ByteArray) {k : Nat} (hk : ¬ k < s.size) : btwR s k = k := by unfold btwR; rw [drop_end s hk]; rfl
theorem btw_skip (s : ByteArray) {k : Nat} (hk : k < s.size) (h : (s[k]'hk).toNat = 32 ∨ (s[k]'hk).toNat = 9 ∨ (s[k]'hk).toNat = 10) : btw s (k + 1) = btw s k := by
  unfold btw; rw [drop_at s hk]; simp only [btwL, if_pos h]; omega
theorem btw_remark (s : ByteArray) {k : Nat} (hk : k < s.size) (h : (s[k]'hk).toNat = 35) : btwR s k = btw s k := by
  unfold btw btwR; rw [drop_at s hk]
  have h0 : ¬ ((s[k]'hk).toNat = 32 ∨ (s[k]'hk).toNat = 9 ∨ (s[k]'hk).toNat = 10) := by rw [h]; decide
  have h1 : ¬ (s[k]'hk).toNat = 10 := by rw [h]; decide
  simp only [btwL, if_neg h0, if_pos h, if_neg h1]
theorem btwR_skip (s : ByteArray) {k : Nat} (hk : k < s.size) (h : ¬ (s[k]'hk).toNat = 10) : btwR s (k + 1) = btwR s k := by
  unfold btwR; rw [drop_at s hk]; simp only [btwL, if_neg h]; omega
theorem btwR_back (s : ByteArray) {k : Nat} (hk : k < s.size) (h : (s[k]'hk).toNat = 10) : btwR s k = btw s k := by
  unfold btw btwR; rw [drop_at s hk]
  have h0 : (s[k]'hk).toNat = 32 ∨ (s[k]'hk).toNat = 9 ∨ (s[k]'hk).toNat = 10 := .inr (.inr h)
  simp only [btwL, if_pos h0, if_pos h]
theorem btw_stop (s : ByteArray) {k : Nat} (hk : k < s.size) (h : ¬ ((s[k]'hk).toNat = 32 ∨ (s[k]'hk).toNat = 9 ∨ (s[k]'hk).toNat = 10)) (h2 : ¬ (s[k]'hk).toNat = 35) : btw s k = k := by
  unfold btw; rw [drop_at s hk]; simp only [btwL, if_neg h, if_neg h2]; omega
theorem btwL_le : ∀ (b : Bool) (l : List UInt8), btwL b l ≤ l.length
  | _, [] => by simp [btwL]
  | false, c :: cs => by have := btwL_le false cs; have := btwL_le true cs; simp only [btwL, List.length_cons]; split; omega; split <;> omega
  | true, c :: cs => by have := btwL_le false cs; have := btwL_le true cs; simp only [btwL, List.length_cons]; split <;> omega
theorem btw_le (s : ByteArray) {k : Nat} (hk : k ≤ s.size) : k ≤ btw s k ∧ btw s k ≤ s.size := by
  have := btwL_le false (s.data.toList.drop k)
  have hl : s.data.toList.length = s.size := rfl
  rw [List.length_drop] at this
  unfold btw
  omega

set_option maxRecDepth 100000 in
set_option maxHeartbeats 4000000 in
theorem between_any (s : ByteArray) (k0 : Nat) (w : World) (hs : s.size ≤ 100000) (hk0 : k0 ≤ s.size) :
    Calls Try.prog 76 #[.string s, .int .i64 k0] w fun e w' => e = .returned (.int .i64 (btw s k0)) ∧ w = w' := by
  go_enter Try.func76, Try.ntmps76
  go_wp2_with fail
  go_loop [1] (fun i => ∃ k : Nat, k ≤ s.size ∧ i = .int .i64 k ∧ Hid (btw s k = btw s k0)) (fun i => s.size - (intOf i).toNat)
  case atStart => exact ⟨k0, hk0, rfl, Lib.hid rfl⟩
  case round =>
    obtain ⟨k, hk, rfl, hgood⟩ := hrel
    by_cases hp : k < s.size
    · go_wp2_with fail
      · rename_i h1
        exact ⟨⟨k + 1, hp, rfl, Lib.hid ((btw_skip s hp (by omega)).trans hgood.out)⟩, by simp [intOf]; omega⟩
      · rename_i h1 h2
        exact ⟨⟨k + 1, hp, rfl, Lib.hid ((btw_skip s hp (by omega)).trans hgood.out)⟩, by simp [intOf]; omega⟩
      · rename_i h1 h2 h3
        exact ⟨⟨k + 1, hp, rfl, Lib.hid ((btw_skip s hp (by simp at h3; omega)).trans hgood.out)⟩, by simp [intOf]; omega⟩
      · rename_i h1 h2 h3 h4 _
        have HR := Lib.hid ((btw_remark s hp (by simp at h4; omega)).trans hgood.out)
        have HK : Hid ((s[k]'hp).toNat = 35) := Lib.hid (by simp at h4; omega)
        clear h1 h2 h3 h4 hgood
        go_loop [1] (fun i => ∃ j : Nat, k ≤ j ∧ j ≤ s.size ∧ i = .int .i64 j ∧ Hid (btwR s j = btw s k0)) (fun i => s.size - (intOf i).toNat)
        case atStart => exact ⟨k, Nat.le_refl _, hk, rfl, HR⟩
        case round =>
          obtain ⟨j, hj1, hj, rfl, HJ⟩ := hrel
          by_cases hq : j < s.size
          · go_wp2_with fail
            · rename_i h1
              exact ⟨⟨j + 1, by omega, hq, rfl, Lib.hid ((btwR_skip s hq (by simp at h1; omega)).trans HJ.out)⟩, by simp [intOf]; omega⟩
            · rename_i h1
              have hne : k ≠ j := fun e => by subst e; have := HK.out; simp at h1; omega
              exact ⟨⟨j, hj, rfl, Lib.hid ((btwR_back s hq (by simp at h1; omega)).symm.trans HJ.out)⟩, by simp [intOf]; omega⟩
          · have hend := Lib.hid (btwR_end s hq)
            go_wp2_with fail
            exact ⟨⟨j, hj, rfl, Lib.hid ((btw_end s hq).trans (hend.out.symm.trans HJ.out))⟩, by simp [intOf]; omega⟩
      · rename_i h1 h2 h3 h4 _
        go_ret
        refine ⟨?_, rfl⟩
        rw [← hgood.out, btw_stop s hp (by simp at h3; omega) (by simp at h4; omega)]
        rfl
    · have hend := Lib.hid (btw_end s hp)
      go_wp2_with fail
      go_ret
      exact ⟨by rw [← hgood.out, hend.out]; rfl, rfl⟩
end Go.Proofs.Ytblfeokjlecgkaa
