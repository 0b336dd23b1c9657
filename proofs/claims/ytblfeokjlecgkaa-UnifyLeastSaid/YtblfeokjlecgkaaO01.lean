/- Laid together by a tool from the texts of this seat: Same Right. Conditions: each theorem's own. -/
import Derived.Test.YtblfeokjlecgkaaProg
import Derived.WalkKit
import Derived.WalkSpells
import Derived.WalkLawsBesides
import Derived.Deep.Draws
import Derived.Deep.QuietTactic
import Derived.BigQuiet
import Derived.Lib.Hide
import Derived.Laws.StructEq
import Derived.OneCell
import Derived.Laws.EntriesVeiled
/- Nodes of types as data, slices of nodes as lists, and the small facts on worlds that all walks of this seat use. -/
namespace Go.Proofs.Ytblfeokjlecgkaa
open Go.RowKit

/-- A node of a type: its kind, its label, its number. -/
structure Nd where
  k : Int
  s : ByteArray
  n : Int
  deriving DecidableEq

instance : Inhabited Nd := ⟨⟨0, ByteArray.empty, 0⟩⟩

/-- A node's number and kind are ints, its label is a string of Go's. -/
structure Nd.Ok (x : Nd) : Prop where
  k0 : -9223372036854775808 ≤ x.k
  k1 : x.k ≤ 9223372036854775807
  n0 : -9223372036854775808 ≤ x.n
  n1 : x.n ≤ 9223372036854775807
  s1 : x.s.size ≤ 9223372036854775807

def Nd.val (x : Nd) : Value := .agg #[.int .i64 x.k, .string x.s, .int .i64 x.n]

/-- From the place (b, o) on the nodes xs lie in memory. -/
structure RT (w : World) (b o : Nat) (xs : List Nd) : Prop where
  c0 : ∀ i x, xs[i]? = some x → w.cell? ⟨b, o + i * 3, none⟩ = some (.int .i64 x.k)
  c1 : ∀ i x, xs[i]? = some x → w.cell? ⟨b, o + i * 3 + 1, none⟩ = some (.string x.s)
  c2 : ∀ i x, xs[i]? = some x → w.cell? ⟨b, o + i * 3 + 2, none⟩ = some (.int .i64 x.n)

/-- A slice's address reads as the nodes xs, which lie below block B. -/
def TyA (w : World) (B : Nat) (A : Option Addr) (xs : List Nd) : Prop :=
  xs ≠ [] → ∃ b o, A = some ⟨b, o, none⟩ ∧ b < B ∧ RT w b o xs

section
variable {w w' : World} {B B' : Nat} {A : Option Addr} {xs : List Nd} {b o : Nat}

theorem getq_lt {α : Type} {l : List α} {i : Nat} {x : α} (h : l[i]? = some x) : i < l.length := by
  rcases Nat.lt_or_ge i l.length with g | g
  · exact g
  · rw [List.getElem?_eq_none g] at h; cases h

theorem getq_ex {α : Type} {l : List α} {i : Nat} (h : i < l.length) : ∃ x, l[i]? = some x := ⟨l[i], List.getElem?_eq_getElem h⟩

theorem RT.mono (h : RT w b o xs) (hk : ∀ off, w'.cell? ⟨b, off, none⟩ = w.cell? ⟨b, off, none⟩) : RT w' b o xs :=
  ⟨fun i x hx => (hk _).trans (h.c0 i x hx), fun i x hx => (hk _).trans (h.c1 i x hx), fun i x hx => (hk _).trans (h.c2 i x hx)⟩

theorem RT.drop (h : RT w b o xs) (i : Nat) : RT w b (o + i * 3) (xs.drop i) := by
  refine ⟨fun j x hx => ?_, fun j x hx => ?_, fun j x hx => ?_⟩ <;> rw [List.getElem?_drop] at hx
  · have := h.c0 _ x hx; rwa [show o + (i + j) * 3 = o + i * 3 + j * 3 by omega] at this
  · have := h.c1 _ x hx; rwa [show o + (i + j) * 3 + 1 = o + i * 3 + j * 3 + 1 by omega] at this
  · have := h.c2 _ x hx; rwa [show o + (i + j) * 3 + 2 = o + i * 3 + j * 3 + 2 by omega] at this

theorem RT.take (h : RT w b o xs) (i : Nat) : RT w b o (xs.take i) := by
  have key : ∀ (j : Nat) (x : Nd), (xs.take i)[j]? = some x → xs[j]? = some x := by
    intro j x hx
    have hl := getq_lt hx
    rw [List.length_take] at hl
    rwa [List.getElem?_take_of_lt (by omega)] at hx
  exact ⟨fun j x hx => h.c0 j x (key j x hx), fun j x hx => h.c1 j x (key j x hx), fun j x hx => h.c2 j x (key j x hx)⟩

theorem TyA.nil : TyA w B A [] := fun h => absurd rfl h

theorem TyA.below (h : TyA w B A xs) (hb : Below B w w') : TyA w' B A xs := fun hx => by
  obtain ⟨b, o, rfl, hlt, hr⟩ := h hx
  exact ⟨b, o, rfl, hlt, hr.mono fun off => hb.cell (p := ⟨b, off, none⟩) hlt⟩

theorem TyA.more (h : TyA w B A xs) (hB : B ≤ B') : TyA w B' A xs := fun hx => by
  obtain ⟨b, o, rfl, hlt, hr⟩ := h hx
  exact ⟨b, o, rfl, by omega, hr⟩

theorem TyA.drewN (h : TyA w B A xs) (n : Nat) : TyA (w.drewN n) B A xs := fun hx => by
  obtain ⟨b, o, rfl, hlt, hr⟩ := h hx
  exact ⟨b, o, rfl, hlt, hr.mono fun _ => rfl⟩
theorem TyA.drew (h : TyA w B A xs) : TyA w.drew B A xs := fun hx => by
  obtain ⟨b, o, rfl, hlt, hr⟩ := h hx
  exact ⟨b, o, rfl, hlt, hr.mono fun _ => rfl⟩

theorem TyA.alloc (h : TyA w B A xs) (hB : B ≤ w.heap.size) (ob : Obj) : TyA (w.alloc ob) B A xs := fun hx => by
  obtain ⟨b, o, rfl, hlt, hr⟩ := h hx
  exact ⟨b, o, rfl, hlt, hr.mono fun off => World.cell?_alloc_lt w ob ⟨b, off, none⟩ (Nat.lt_of_lt_of_le hlt hB)⟩

/-- The node at a place below the length. -/
theorem TyA.at_ (h : TyA w B A xs) {i : Nat} {x : Nd} (hx : xs[i]? = some x) :
    ∃ b o, A = some ⟨b, o, none⟩ ∧ b < B ∧ w.cell? ⟨b, o + i * 3, none⟩ = some (.int .i64 x.k) ∧ w.cell? ⟨b, o + i * 3 + 1, none⟩ = some (.string x.s) ∧
      w.cell? ⟨b, o + i * 3 + 2, none⟩ = some (.int .i64 x.n) := by
  obtain ⟨b, o, rfl, hb, hr⟩ := h (by rintro rfl; simp at hx)
  exact ⟨b, o, rfl, hb, hr.c0 i x hx, hr.c1 i x hx, hr.c2 i x hx⟩
end

/-- What lay below stands. -/
theorem bcell {W w1 : World} {B : Nat} (hb : Below B W w1) : (∀ b o, b < B → w1.cell? ⟨b, o, none⟩ = W.cell? ⟨b, o, none⟩) ∧ (∀ b o, b < B → w1.frozen? ⟨b, o, none⟩ = W.frozen? ⟨b, o, none⟩) :=
  ⟨fun b o h => hb.cell (p := ⟨b, o, none⟩) h, fun b o h => hb.frozen (p := ⟨b, o, none⟩) h⟩

theorem ext_trans {w W w1 : World} (h : Below w.heap.size w W) (k : Below W.heap.size W w1) : Below w.heap.size w w1 := h.trans (k.mono h.size)
theorem ext_alloc {w W : World} (h : Below w.heap.size w W) (o : Obj) : Below w.heap.size w (W.alloc o) := h.alloc h.size o
theorem ext_set {w W : World} (h : Below w.heap.size w W) {p : Addr} (hp : w.heap.size ≤ p.block) (u : Value) : Below w.heap.size w (W.setCell p u) := h.setCell hp u
theorem ext_drewN {w W : World} (h : Below w.heap.size w W) (n : Nat) : Below w.heap.size w (W.drewN n) := ⟨h.os, h.tape, h.output, h.size, h.block⟩

theorem below_drewN {B : Nat} {a w : World} (h : Below B a w) (n : Nat) : Below B a (w.drewN n) := ⟨h.os, h.tape, h.output, h.size, h.block⟩

theorem ret_bool {a b : Bool} (h : a = b) : Ending.returned (.bool a) = .returned (.bool b) := by rw [h]
theorem ret_int {k : IntKind} {a b : Int} (h : a = b) : Ending.returned (.int k a) = .returned (.int k b) := by rw [h]
end Go.Proofs.Ytblfeokjlecgkaa

/- The small functions on one node, each by its contract. -/
namespace Go.Proofs.Ytblfeokjlecgkaa
open Go.RowKit

def isRowB (k : Int) : Bool := k == 6 || k == 7
def isVarB (k : Int) : Bool := k == 8 || k == 9

/-- Whether a node's kind and number may be. -/
def okNode (k n : Int) : Bool :=
  if k = 0 ∨ k = 8 ∨ k = 9 then decide (0 ≤ n) else
  if k = 6 then decide (0 ≤ n ∧ n ≤ 50) else
  if k = 7 then decide (0 < n ∧ n ≤ 50) else decide (0 < k ∧ k ≤ 5 ∧ n = 0)

/-- How many children a node has. -/
def many (k n : Int) : Int := if k = 5 then 2 else if isRowB k = true then n else 0
def manyP (k n : Int) : Int := if k = 5 then 2 else if isRowB k = true then max n 0 else 0

theorem okNode_row {k n : Int} (h : isRowB k = true) : okNode k n = decide ((if k = 7 then 0 < n else 0 ≤ n) ∧ n ≤ 50) := by
  simp [isRowB] at h
  rcases h with rfl | rfl <;> simp [okNode]

theorem manyP_ok {k n : Int} (h : okNode k n = true) : manyP k n = many k n := by
  unfold manyP many
  split
  · rfl
  · split
    · rename_i h6
      rw [okNode_row h6] at h
      simp at h
      obtain ⟨h1, _⟩ := h
      split at h1 <;> omega
    · rfl

set_option maxHeartbeats 400000 in
theorem isRow_any (k n : Int) (s : ByteArray) (w : World) :
    Calls Try.prog 126 #[.agg #[.int .i64 k, .string s, .int .i64 n]] w fun e w' => e = .returned (.bool (isRowB k)) ∧ Below w.heap.size w w' := by
  go_enter Try.func126, Try.ntmps126
  go_wp2
  all_goals go_ret
  all_goals exact ⟨ret_bool (by simp_all [isRowB]), (Below.refl _ _).alloc (Nat.le_refl _) _⟩

set_option maxHeartbeats 400000 in
theorem many_any (k n : Int) (s : ByteArray) (w : World) :
    Calls Try.prog 125 #[.agg #[.int .i64 k, .string s, .int .i64 n]] w fun e w' => e = .returned (.int .i64 (manyP k n)) ∧ Below w.heap.size w w' := by
  by_cases h5 : k = 5
  · subst h5
    go_enter Try.func125, Try.ntmps125
    go_wp2_with fail
    go_ret
    exact ⟨ret_int rfl, (Below.refl _ _).alloc (Nat.le_refl _) _⟩
  · have h5b : (k == 5) = false := by simpa using h5
    go_enter Try.func125, Try.ntmps125
    go_wp2_with fail
    refine (isRow_any _ _ _ _).mono ?_
    rintro e w1 ⟨rfl, hb⟩
    obtain ⟨hc, hf⟩ := bcell hb
    go_wp2_with fail
    all_goals go_ret
    all_goals refine ⟨ret_int ?_, ext_trans ((Below.refl _ _).alloc (Nat.le_refl _) _) hb⟩
    all_goals (simp_all [manyP]; try omega)

set_option maxHeartbeats 400000 in
theorem rmany_any (k n : Int) (s : ByteArray) (w : World) :
    Calls Try.prog 107 #[.agg #[.int .i64 k, .string s, .int .i64 n]] w fun e w' => e = .returned (.int .i64 (many k n)) ∧ Below w.heap.size w w' := by
  go_enter Try.func107, Try.ntmps107
  go_wp2
  all_goals go_ret
  all_goals exact ⟨ret_int (by simp_all [many, isRowB]), (Below.refl _ _).alloc (Nat.le_refl _) _⟩

set_option maxHeartbeats 1000000 in
theorem numbered_any (k n : Int) (s : ByteArray) (w : World) :
    Calls Try.prog 61 #[.agg #[.int .i64 k, .string s, .int .i64 n]] w fun e w' => e = .returned (.bool (okNode k n)) ∧ Below w.heap.size w w' := by
  go_enter Try.func61, Try.ntmps61
  go_wp2
  all_goals go_ret
  all_goals refine ⟨ret_bool ?_, (Below.refl _ _).alloc (Nat.le_refl _) _⟩
  all_goals go_tidy
  all_goals (unfold okNode; simp_all)
  all_goals first | done | rfl | omega | (split <;> simp <;> omega)

end Go.Proofs.Ytblfeokjlecgkaa

/- Words and tags: what the program asks of a text's runes, and the document of its bytes. -/
namespace Go.Proofs.Ytblfeokjlecgkaa
open Go.RowKit

def smallC (c : Int) : Bool := decide (97 ≤ c ∧ c ≤ 122)
def greatC (c : Int) : Bool := decide (65 ≤ c ∧ c ≤ 90)
def behindC (c : Int) : Bool := smallC c || greatC c || decide (48 ≤ c ∧ c ≤ 57) || c == 95

/-- Of a text the first byte fits, and all others may stand behind. -/
def fitsL (f : Int → Bool) : List UInt8 → Bool
  | [] => false
  | c :: cs => f c.toNat && cs.all fun d => behindC d.toNat

def wordB (s : ByteArray) : Bool := fitsL smallC s.data.toList
def tagB (s : ByteArray) : Bool := fitsL greatC s.data.toList

theorem within_any (c a b : Int) (w : World) : Calls Try.prog 141 #[.int .u8 c, .int .u8 a, .int .u8 b] w fun e w' => e = .returned (.bool (decide (a ≤ c ∧ c ≤ b))) ∧ w = w' := by
  go_enter Try.func141, Try.ntmps141
  go_wp2
  all_goals go_ret
  all_goals go_tidy
  all_goals exact ⟨ret_bool (by simp_all <;> (intros; omega)), rfl⟩

set_option maxHeartbeats 400000 in
theorem behind_any (r : Int) (w : World) : Calls Try.prog 174 #[.int .u8 r] w fun e w' => e = .returned (.bool (behindC r)) ∧ w = w' := by
  go_enter Try.func174, Try.ntmps174
  go_wp2_with (go_at_call 141; refine (within_any _ _ _ _).mono ?_; rintro e w' ⟨rfl, rfl⟩)
  all_goals go_ret
  all_goals go_tidy
  all_goals exact ⟨ret_bool (by simp_all [behindC, smallC, greatC] <;> (intros; omega)), rfl⟩

end Go.Proofs.Ytblfeokjlecgkaa

/- Words and tags as the document has them; labels. -/
namespace Go.Proofs.Ytblfeokjlecgkaa
open Go.RowKit

def restB (s : ByteArray) (k : Nat) : Bool := (s.data.toList.drop k).all fun d => behindC d.toNat

theorem restB_succ (s : ByteArray) {k : Nat} (hk : k < s.size) : restB s k = (behindC (s[k]'hk).toNat && restB s (k + 1)) := by
  have hl : k < s.data.toList.length := hk
  unfold restB
  rw [List.drop_eq_getElem_cons hl, List.all_cons]
  rfl

theorem restB_end (s : ByteArray) {k : Nat} (hk : ¬ k < s.size) : restB s k = true := by
  have hl : s.data.toList.length = s.size := rfl
  unfold restB
  rw [List.drop_of_length_le (by omega)]
  rfl

theorem fitsL_pos (f : Int → Bool) (s : ByteArray) (hk : 0 < s.size) : fitsL f s.data.toList = (f (s[0]'hk).toNat && restB s 1) := by
  have hl : 0 < s.data.toList.length := hk
  have e : s.data.toList = (s[0]'hk) :: s.data.toList.drop 1 := by
    have := List.drop_eq_getElem_cons hl
    rw [List.drop_zero] at this
    exact this
  unfold restB
  rw [e]
  rfl

set_option maxRecDepth 100000 in
set_option maxHeartbeats 1000000 in
theorem all_any (s : ByteArray) (w : World) (hs : s.size ≤ 9223372036854775807) :
    Calls Try.prog 142 #[.string s] w fun e w' => e = .returned (.bool (restB s 1)) ∧ w = w' := by
  go_enter Try.func142, Try.ntmps142
  go_wp2_with fail
  go_loop [3] (fun i => ∃ k : Nat, 1 ≤ k ∧ i = .int .i64 k ∧ Hid (restB s k = restB s 1)) (fun i => s.size - (intOf i).toNat)
  case atStart => exact ⟨1, Nat.le_refl _, rfl, Lib.hid rfl⟩
  case round =>
    obtain ⟨k, hk, rfl, hgood⟩ := hrel
    by_cases hp : k < s.size
    · have hstep := Lib.hid (restB_succ s hp)
      cases hb : behindC (s[k]'hp).toNat
      all_goals
        have Hb := Lib.hid hb
        go_wp2_with (go_at_call 174; refine (behind_any _ _).mono ?_; rintro e w' ⟨rfl, rfl⟩)
      · go_ret
        exact ⟨ret_bool (by rw [← hgood.out, hstep.out, Hb.out]; rfl), rfl⟩
      · go_round
        case rel => exact ⟨k + 1, by omega, by go_num, Lib.hid (by rw [← hgood.out, hstep.out, Hb.out]; rfl)⟩
        case measure => simp [intOf]; omega
    · have hend := Lib.hid (restB_end s hp)
      go_wp2_with fail
      go_ret
      exact ⟨ret_bool (by rw [← hgood.out, hend.out]), rfl⟩

theorem fitsL_none (f : Int → Bool) (s : ByteArray) (hk : ¬ 0 < s.size) : fitsL f s.data.toList = false := by
  have hl : s.data.toList.length = s.size := rfl
  rw [List.eq_nil_of_length_eq_zero (l := s.data.toList) (by omega)]
  rfl

set_option maxRecDepth 100000 in
set_option maxHeartbeats 1000000 in
theorem rIsWord_any (s : ByteArray) (w : World) (hs : s.size ≤ 9223372036854775807) :
    Calls Try.prog 108 #[.string s] w fun e w' => e = .returned (.bool (wordB s)) ∧ w = w' := by
  by_cases h0 : 0 < s.size
  · have hfin := Lib.hid (fitsL_pos smallC s h0)
    go_enter Try.func108, Try.ntmps108
    go_wp2_with (first
      | (go_at_call 141; refine (within_any _ _ _ _).mono ?_; rintro e w' ⟨rfl, rfl⟩)
      | (go_at_call 142; refine (all_any _ _ hs).mono ?_; rintro e w' ⟨rfl, rfl⟩))
    all_goals go_ret
    all_goals go_tidy
    all_goals exact ⟨ret_bool (by unfold wordB; rw [hfin.out]; simp_all [smallC] <;> (intros; omega)), rfl⟩
  · have hfin := Lib.hid (fitsL_none smallC s h0)
    have hz : ¬ (0 : Int) < (s.size : Int) := by omega
    go_enter Try.func108, Try.ntmps108
    go_wp2_with fail
    go_ret
    exact ⟨ret_bool (by unfold wordB; rw [hfin.out]), rfl⟩

set_option maxRecDepth 100000 in
set_option maxHeartbeats 1000000 in
theorem rIsTag_any (s : ByteArray) (w : World) (hs : s.size ≤ 9223372036854775807) :
    Calls Try.prog 109 #[.string s] w fun e w' => e = .returned (.bool (tagB s)) ∧ w = w' := by
  by_cases h0 : 0 < s.size
  · have hfin := Lib.hid (fitsL_pos greatC s h0)
    go_enter Try.func109, Try.ntmps109
    go_wp2_with (first
      | (go_at_call 141; refine (within_any _ _ _ _).mono ?_; rintro e w' ⟨rfl, rfl⟩)
      | (go_at_call 142; refine (all_any _ _ hs).mono ?_; rintro e w' ⟨rfl, rfl⟩))
    all_goals go_ret
    all_goals go_tidy
    all_goals exact ⟨ret_bool (by unfold tagB; rw [hfin.out]; simp_all [greatC] <;> (intros; omega)), rfl⟩
  · have hfin := Lib.hid (fitsL_none greatC s h0)
    have hz : ¬ (0 : Int) < (s.size : Int) := by omega
    go_enter Try.func109, Try.ntmps109
    go_wp2_with fail
    go_ret
    exact ⟨ret_bool (by unfold tagB; rw [hfin.out]), rfl⟩

/-- Whether a label may stand in a kind of node. -/
def labelB (k : Int) (s : ByteArray) : Bool := if k = 6 then wordB s else if k = 7 then tagB s else decide (s.size = 0)

/-- Whether a label is one of a record's or union's. -/
def rowLabelB (k : Int) (s : ByteArray) : Bool := if k = 6 then wordB s else if k = 7 then tagB s else false

theorem isEmpty_size (s : ByteArray) : s.toList.isEmpty = decide (s.size = 0) := by
  have hl : s.data.toList.length = s.size := rfl
  rw [ByteArray.toList_eq, List.isEmpty_iff_length_eq_zero |> fun h => (Bool.eq_iff_iff.2 (by rw [h, hl, decide_eq_true_iff]) : s.data.toList.isEmpty = decide (s.size = 0))]

end Go.Proofs.Ytblfeokjlecgkaa

/- Functions that read slices of nodes, each by its contract. -/
namespace Go.Proofs.Ytblfeokjlecgkaa
open Go.RowKit

/-- Go's == on two nodes. -/
def ndEq (x y : Nd) : Bool := x.k == y.k && x.s.toList == y.s.toList && x.n == y.n

theorem ndEq_iff (x y : Nd) : ndEq x y = true ↔ x = y := by
  obtain ⟨k, s, n⟩ := x
  obtain ⟨k', s', n'⟩ := y
  simp only [ndEq, Bool.and_eq_true, beq_iff_eq, Nd.mk.injEq]
  rw [ByteArray.toList_eq, ByteArray.toList_eq]
  obtain ⟨⟨l⟩⟩ := s
  obtain ⟨⟨l'⟩⟩ := s'
  simp [and_assoc]

theorem eqNode (d : Nat) (x y : Nd) (w : World) :
    (Op.equalIn (d + 2) 48 x.val y.val).run Try.prog w = .ok (ndEq x y) w := by
  have u3 := Try.underlying3
  have u9 := Try.underlying9
  have a3 := Try.isAgg3
  have z3 := Try.sizeOf3
  have a9 := Try.isAgg9
  have z9 := Try.sizeOf9
  have hS : Try.prog.underlying 48 = some (.struct (Try.prog.fieldsOf 48)) := by kernel_rfl
  have hp : Try.prog.stoodInHeld 48 = false := by kernel_rfl
  unfold Nd.val
  rw [run_equalIn_agg w (d + 1) 48 _ _ hS hp]
  simp only [Program.fieldsOf, Try.underlying48]
  go_simp
  by_cases h1 : x.k = y.k <;> by_cases h2 : x.s.toList = y.s.toList <;> by_cases h3 : x.n = y.n <;> simp [ndEq, h1, h2, h3]

theorem run_neNode (x y : Nd) (w : World) : (binOp .neq 48 x.val y.val).run Try.prog w = .ok (.bool (!ndEq x y)) w := by
  unfold Nd.val
  rw [run_neq_struct, show (10000 : Nat) = 9998 + 2 from rfl]
  have := eqNode 9998 x y w
  unfold Nd.val at this
  rw [this]
  rfl

theorem drop_eq_succ {xs ys : List Nd} {k : Nat} {x y : Nd} (hx : xs[k]? = some x) (hy : ys[k]? = some y) :
    decide (xs.drop k = ys.drop k) = (ndEq x y && decide (xs.drop (k + 1) = ys.drop (k + 1))) := by
  have h1 : xs.drop k = x :: xs.drop (k + 1) := by
    have hl := getq_lt hx
    rw [List.drop_eq_getElem_cons hl]
    rw [List.getElem?_eq_getElem hl] at hx
    injection hx with hx
    rw [hx]
  have h2 : ys.drop k = y :: ys.drop (k + 1) := by
    have hl := getq_lt hy
    rw [List.drop_eq_getElem_cons hl]
    rw [List.getElem?_eq_getElem hl] at hy
    injection hy with hy
    rw [hy]
  rw [h1, h2, Bool.eq_iff_iff]
  simp [ndEq_iff]

set_option maxHeartbeats 1000000 in
theorem one_any (A B : Option Addr) (c d Ba Bb : Nat) (xs ys : List Nd) (w : World) (ha : TyA w Ba A xs) (hb : TyA w Bb B ys)
    (hl : xs.length ≤ 9223372036854775807) :
    Calls Try.prog 30 #[.slice A xs.length c, .slice B ys.length d] w fun e w' => e = .returned (.bool (decide (xs = ys))) ∧ ∃ n, w' = w.drewN n := by
  by_cases hlen : xs.length = ys.length
  · rw [← hlen]
    have Hlen := Lib.hid hlen
    clear hlen
    go_enter Try.func30, Try.ntmps30
    go_wp2_with fail
    go_loopw [5] (fun i w' => ∃ k n : Nat, k ≤ xs.length ∧ i = .int .i64 k ∧ w' = w.drewN n ∧ Hid (decide (xs.drop k = ys.drop k) = decide (xs = ys))) (fun i _ => xs.length - (intOf i).toNat)
    case atStart => exact ⟨0, 0, Nat.zero_le _, rfl, rfl, Lib.hid rfl⟩
    case round =>
      obtain ⟨k, n, hk, rfl, rfl, hgood⟩ := hrel
      by_cases hp : k < xs.length
      · obtain ⟨x, hx⟩ := getq_ex hp
        obtain ⟨y, hy⟩ := getq_ex (show k < ys.length by rw [← Hlen.out]; exact hp)
        have hstep := Lib.hid (drop_eq_succ hx hy)
        obtain ⟨b1, o1, rfl, hb1, c10, c11, c12⟩ := ha.at_ hx
        obtain ⟨b2, o2, rfl, hb2, c20, c21, c22⟩ := hb.at_ hy
        have hne := run_neNode x y
        unfold Nd.val at hne
        have Hx := Lib.hid hx
        have Hy := Lib.hid hy
        clear hx hy
        cases he : ndEq x y
        all_goals
          have He := Lib.hid he
          rw [he] at hne
          clear he
          go_wp2_with fail
          go_quiet (fail)
          go_wp2_with fail
        · go_ret
          exact ⟨ret_bool (by rw [← hgood.out, hstep.out, He.out]; rfl), _, World.drewN_drewN ..⟩
        · go_roundw
          case rel => exact ⟨k + 1, _, hp, by go_num, rfl, Lib.hid (by rw [← hgood.out, hstep.out, He.out, Bool.true_and])⟩
          case measure => simp [intOf]; omega
      · have hfin := Lib.hid (show decide (xs.drop k = ys.drop k) = true by
          have := Hlen.out
          rw [List.drop_of_length_le (by omega), List.drop_of_length_le (by omega)]
          simp)
        go_wp2_with fail
        go_ret
        exact ⟨ret_bool (by rw [← hgood.out, hfin.out]), _, rfl⟩
  · have hle : ((xs.length : Int) != (ys.length : Int)) = true := by simp; omega
    have hfin := Lib.hid (show decide (xs = ys) = false by simp; rintro rfl; exact hlen rfl)
    clear hlen
    go_enter Try.func30, Try.ntmps30
    go_wp2_with fail
    go_ret
    exact ⟨ret_bool (by rw [hfin.out]), 0, rfl⟩

def allFrom (p : Nd → Bool) (xs : List Nd) (k : Nat) : Bool := (xs.drop k).all p

theorem allFrom_step {p : Nd → Bool} {xs : List Nd} {k : Nat} {x : Nd} (hx : xs[k]? = some x) : allFrom p xs k = (p x && allFrom p xs (k + 1)) := by
  have hl := getq_lt hx
  unfold allFrom
  rw [List.drop_eq_getElem_cons hl, List.all_cons]
  rw [List.getElem?_eq_getElem hl] at hx
  injection hx with hx
  rw [hx]

theorem allFrom_end {p : Nd → Bool} {xs : List Nd} {k : Nat} (h : ¬ k < xs.length) : allFrom p xs k = true := by
  unfold allFrom
  rw [List.drop_of_length_le (by omega)]
  rfl

end Go.Proofs.Ytblfeokjlecgkaa

/- Whether two types are alike: the document's loop, and the program's by a function value. -/
namespace Go.Proofs.Ytblfeokjlecgkaa
open Go.RowKit

theorem drop_cons {α : Type} {xs : List α} {k : Nat} {x : α} (hx : xs[k]? = some x) : xs.drop k = x :: xs.drop (k + 1) := by
  have hl := getq_lt hx
  rw [List.drop_eq_getElem_cons hl]
  rw [List.getElem?_eq_getElem hl] at hx
  injection hx with hx
  rw [hx]

end Go.Proofs.Ytblfeokjlecgkaa

/- A world in which one block of the call's own has been written, and new ones made. -/
namespace Go.Proofs.Ytblfeokjlecgkaa
open Go.RowKit

theorem only_trans {a b c : World} {row : Option Nat} (h : a.grownBy b row) (k : b.grownBy c row) : a.grownBy c row :=
  ⟨k.os.trans h.os, k.tape.trans h.tape, k.output.trans h.output, Nat.le_trans h.size k.size, fun i hi hne => (k.block i (Nat.lt_of_lt_of_le hi h.size) hne).trans (h.block i hi hne)⟩
theorem only_drewN {a w : World} {row : Option Nat} (h : a.grownBy w row) (n : Nat) : a.grownBy (w.drewN n) row := ⟨h.os, h.tape, h.output, h.size, h.block⟩
theorem only_alloc {a w : World} {row : Option Nat} (h : a.grownBy w row) (o : Obj) : a.grownBy (w.alloc o) row :=
  ⟨h.os, h.tape, h.output, Nat.le_trans h.size (by simp), fun i hi hne => (Below.heap_alloc w o i (Nat.lt_of_lt_of_le hi h.size)).trans (h.block i hi hne)⟩
/-- What was written lies above what was there: nothing of the old has turned. -/
theorem below_of_only {a w : World} {g B : Nat} (h : a.grownBy w (some g)) (hg : B ≤ g) (hB : B ≤ a.heap.size) : Below B a w :=
  ⟨h.os, h.tape, h.output, h.size, fun k hk => h.block k (by omega) (by intro e; injection e with e; omega)⟩

theorem TyA.only {w w' : World} {B : Nat} {A : Option Addr} {xs : List Nd} {g : Nat} (h : TyA w B A xs) (hb : w.grownBy w' (some g)) (hg : B ≤ g) (hB : B ≤ w.heap.size) : TyA w' B A xs :=
  h.below (below_of_only hb hg hB)
end Go.Proofs.Ytblfeokjlecgkaa

/- The program's Right: a function value that calls itself. -/
namespace Go.Proofs.Ytblfeokjlecgkaa
open Go.RowKit

/-- One text is at most another one (Go's order of strings). -/
def leS (a b : ByteArray) : Bool := Op.bytesLess a.toList b.toList || a.toList == b.toList

/-- Whether a node may be child k of a node, behind a child of that label. -/
def childOk (x : Nd) (k : Int) (last : ByteArray) (y : Nd) : Bool :=
  if y.k = 9 then isRowB x.k && !decide (k < x.n - 1) && decide (y.s.size = 0)
  else labelB x.k y.s && !(isRowB x.k && leS y.s last)

/-- The children of a node, so many still to come. -/
def kidsP (tr : Nat → Option Nat) (xs : List Nd) (x : Nd) : Nat → Int → ByteArray → Nat → Option Nat
  | 0, _, _, at_ => some at_
  | todo + 1, k, last, at_ =>
    match xs[at_]? with
    | none => none
    | some y => if childOk x k last y = true then (match tr at_ with
      | none => none
      | some at' => kidsP tr xs x todo (k + 1) y.s at') else none

/-- A tree, from a place on, at most so deep: where it ends. -/
def treeP (xs : List Nd) : Nat → Nat → Option Nat
  | 0, _ => none
  | f + 1, i =>
    match xs[i]? with
    | none => none
    | some x => if okNode x.k x.n = true then kidsP (treeP xs f) xs x (many x.k x.n).toNat 0 ByteArray.empty (i + 1) else none

structure REnv (w : World) (ga gt gf : Nat) (A : Option Addr) (n c : Nat) : Prop where
  t : w.heap[gt]? = some (.cells #[.slice A n c] 34 (0, 0))
  f : w.heap[gf]? = some (.cells #[.func (.func 123) #[] #[.pointer (some ⟨ga, 0, none⟩), .pointer (some ⟨gt, 0, none⟩), .pointer (some ⟨gf, 0, none⟩)]] 145 (0, 0))

theorem REnv.only {w w' : World} {ga gt gf : Nat} {A : Option Addr} {n c : Nat} (h : REnv w ga gt gf A n c) (hb : w.grownBy w' (some ga)) (h1 : gt ≠ ga) (h2 : gf ≠ ga) : REnv w' ga gt gf A n c :=
  ⟨(hb.block gt (lt_of_block h.t) (by intro e; injection e with e; exact h1 e)).trans h.t, (hb.block gf (lt_of_block h.f) (by intro e; injection e with e; exact h2 e)).trans h.f⟩

theorem many_nat {x : Nd} (h : okNode x.k x.n = true) : ∃ M : Nat, many x.k x.n = (M : Int) ∧ M ≤ 50 ∧ (isRowB x.k = true → x.n = (M : Int)) := by
  unfold many
  by_cases h5 : x.k = 5
  · exact ⟨2, by simp [h5], by omega, by simp [h5, isRowB]⟩
  · by_cases h6 : isRowB x.k = true
    · have h1 := okNode_row (n := x.n) h6
      rw [h] at h1
      have h2 := of_decide_eq_true h1.symm
      obtain ⟨h3, h4⟩ := h2
      have h0 : 0 ≤ x.n := by split at h3 <;> omega
      exact ⟨x.n.toNat, by simp [h5, h6]; omega, by omega, fun _ => by omega⟩
    · exact ⟨0, by simp [h5, h6], by omega, fun h => absurd h h6⟩

end Go.Proofs.Ytblfeokjlecgkaa

/- The program's Right. -/
namespace Go.Proofs.Ytblfeokjlecgkaa
open Go.RowKit

def rootOk : List Nd → Bool
  | [] => false
  | x :: _ => decide (x.s.size = 0) && !(x.k == 9)

/-- Whether nodes are a type. -/
def rightB (xs : List Nd) : Bool := decide (xs.length ≤ 10000) && rootOk xs && decide (treeP xs 100 0 = some xs.length)

end Go.Proofs.Ytblfeokjlecgkaa
