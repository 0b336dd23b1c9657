/- Laid together by a tool from the texts of this seat: Gen. Conditions: each theorem's own. -/
import Derived.WalkKit
import Derived.WalkSpells
import Derived.WalkLawsBesides
import Derived.Deep.Draws
import Derived.Deep.QuietTactic
import Derived.BigQuiet
import Derived.Lib.Hide
import Derived.Laws.StructEq
import Derived.Maps.AppendAt
import Derived.Deep.AppendLies
import Derived.Laws.EntriesVeiled
import Derived.MapKept
import Derived.LaidEqlPtr
import Derived.Maps.OwnSet
import Derived.OrdersHeld
import Derived.Deep.DeepCutAuto
import Derived.Deep.CutRange
import Derived.Deep.CutBlock
import Derived.Deep.RegionHeld3
import Derived.Deep.DrawnRows
import Derived.IntWalk
import Derived.SliceStrings
import Derived.OwnWalk
import Derived.Lib.SliceRun
import Derived.Recover
import Derived.Test.YtmjdhfbnmmdjiaaDoorProg
/- What walks share: memory, slices that a call owns, regions. -/
/- Nodes of types as data, slices of nodes as lists, and the small facts on worlds that all walks of this seat use. -/
namespace Go.Proofs.YtmjdhfbnmmdjiaaDoor
open Go.RowKit

/-- A node of a type: its kind, its label, its number. -/
structure Nd where
  k : Int
  s : ByteArray
  n : Int
  deriving DecidableEq

instance : Inhabited Nd := ⟨⟨0, ByteArray.empty, 0⟩⟩

def Nd.val (x : Nd) : Value := .agg #[.int .i64 x.k, .string x.s, .int .i64 x.n]

/-- From the place (b, o) on the nodes xs lie in memory. -/
structure RT (w : World) (b o : Nat) (xs : List Nd) : Prop where
  c0 : ∀ i x, xs[i]? = some x → w.cell? ⟨b, o + i * 3, none⟩ = some (.int .i64 x.k)
  c1 : ∀ i x, xs[i]? = some x → w.cell? ⟨b, o + i * 3 + 1, none⟩ = some (.string x.s)
  c2 : ∀ i x, xs[i]? = some x → w.cell? ⟨b, o + i * 3 + 2, none⟩ = some (.int .i64 x.n)

/-- A slice's address reads as the nodes xs, which lie below block B. -/
def TyA (w : World) (B : Nat) (A : Option Addr) (xs : List Nd) : Prop :=
  xs ≠ [] → ∃ b o, A = some ⟨b, o, none⟩ ∧ b < B ∧ RT w b o xs

section
variable {w w' : World} {B B' : Nat} {A : Option Addr} {xs : List Nd} {b o : Nat}

theorem getq_lt {α : Type} {l : List α} {i : Nat} {x : α} (h : l[i]? = some x) : i < l.length := by
  rcases Nat.lt_or_ge i l.length with g | g
  · exact g
  · rw [List.getElem?_eq_none g] at h; cases h

theorem getq_ex {α : Type} {l : List α} {i : Nat} (h : i < l.length) : ∃ x, l[i]? = some x := ⟨l[i], List.getElem?_eq_getElem h⟩

theorem RT.mono (h : RT w b o xs) (hk : ∀ off, w'.cell? ⟨b, off, none⟩ = w.cell? ⟨b, off, none⟩) : RT w' b o xs :=
  ⟨fun i x hx => (hk _).trans (h.c0 i x hx), fun i x hx => (hk _).trans (h.c1 i x hx), fun i x hx => (hk _).trans (h.c2 i x hx)⟩

theorem RT.drop (h : RT w b o xs) (i : Nat) : RT w b (o + i * 3) (xs.drop i) := by
  refine ⟨fun j x hx => ?_, fun j x hx => ?_, fun j x hx => ?_⟩ <;> rw [List.getElem?_drop] at hx
  · have := h.c0 _ x hx; rwa [show o + (i + j) * 3 = o + i * 3 + j * 3 by omega] at this
  · have := h.c1 _ x hx; rwa [show o + (i + j) * 3 + 1 = o + i * 3 + j * 3 + 1 by omega] at this
  · have := h.c2 _ x hx; rwa [show o + (i + j) * 3 + 2 = o + i * 3 + j * 3 + 2 by omega] at this

theorem RT.take (h : RT w b o xs) (i : Nat) : RT w b o (xs.take i) := by
  have key : ∀ (j : Nat) (x : Nd), (xs.take i)[j]? = some x → xs[j]? = some x := by
    intro j x hx
    have hl := getq_lt hx
    rw [List.length_take] at hl
    rwa [List.getElem?_take_of_lt (by omega)] at hx
  exact ⟨fun j x hx => h.c0 j x (key j x hx), fun j x hx => h.c1 j x (key j x hx), fun j x hx => h.c2 j x (key j x hx)⟩

theorem TyA.nil : TyA w B A [] := fun h => absurd rfl h

theorem TyA.below (h : TyA w B A xs) (hb : Below B w w') : TyA w' B A xs := fun hx => by
  obtain ⟨b, o, rfl, hlt, hr⟩ := h hx
  exact ⟨b, o, rfl, hlt, hr.mono fun off => hb.cell (p := ⟨b, off, none⟩) hlt⟩

theorem TyA.more (h : TyA w B A xs) (hB : B ≤ B') : TyA w B' A xs := fun hx => by
  obtain ⟨b, o, rfl, hlt, hr⟩ := h hx
  exact ⟨b, o, rfl, by omega, hr⟩

theorem TyA.drewN (h : TyA w B A xs) (n : Nat) : TyA (w.drewN n) B A xs := fun hx => by
  obtain ⟨b, o, rfl, hlt, hr⟩ := h hx
  exact ⟨b, o, rfl, hlt, hr.mono fun _ => rfl⟩
theorem TyA.drew (h : TyA w B A xs) : TyA w.drew B A xs := fun hx => by
  obtain ⟨b, o, rfl, hlt, hr⟩ := h hx
  exact ⟨b, o, rfl, hlt, hr.mono fun _ => rfl⟩

theorem TyA.alloc (h : TyA w B A xs) (hB : B ≤ w.heap.size) (ob : Obj) : TyA (w.alloc ob) B A xs := fun hx => by
  obtain ⟨b, o, rfl, hlt, hr⟩ := h hx
  exact ⟨b, o, rfl, hlt, hr.mono fun off => World.cell?_alloc_lt w ob ⟨b, off, none⟩ (Nat.lt_of_lt_of_le hlt hB)⟩

/-- The node at a place below the length. -/
theorem TyA.at_ (h : TyA w B A xs) {i : Nat} {x : Nd} (hx : xs[i]? = some x) :
    ∃ b o, A = some ⟨b, o, none⟩ ∧ b < B ∧ w.cell? ⟨b, o + i * 3, none⟩ = some (.int .i64 x.k) ∧ w.cell? ⟨b, o + i * 3 + 1, none⟩ = some (.string x.s) ∧
      w.cell? ⟨b, o + i * 3 + 2, none⟩ = some (.int .i64 x.n) := by
  obtain ⟨b, o, rfl, hb, hr⟩ := h (by rintro rfl; simp at hx)
  exact ⟨b, o, rfl, hb, hr.c0 i x hx, hr.c1 i x hx, hr.c2 i x hx⟩
end

theorem ext_trans {w W w1 : World} (h : Below w.heap.size w W) (k : Below W.heap.size W w1) : Below w.heap.size w w1 := h.trans (k.mono h.size)
theorem ext_alloc {w W : World} (h : Below w.heap.size w W) (o : Obj) : Below w.heap.size w (W.alloc o) := h.alloc h.size o
theorem ext_drewN {w W : World} (h : Below w.heap.size w W) (n : Nat) : Below w.heap.size w (W.drewN n) := ⟨h.os, h.tape, h.output, h.size, h.block⟩

theorem below_drewN {B : Nat} {a w : World} (h : Below B a w) (n : Nat) : Below B a (w.drewN n) := ⟨h.os, h.tape, h.output, h.size, h.block⟩

theorem ret_bool {a b : Bool} (h : a = b) : Ending.returned (.bool a) = .returned (.bool b) := by rw [h]
end Go.Proofs.YtmjdhfbnmmdjiaaDoor

/- The small functions on one node, each by its contract. -/
namespace Go.Proofs.YtmjdhfbnmmdjiaaDoor
open Go.RowKit

end Go.Proofs.YtmjdhfbnmmdjiaaDoor

/- Words and tags: what the program asks of a text's runes, and the document of its bytes. -/
namespace Go.Proofs.YtmjdhfbnmmdjiaaDoor
open Go.RowKit

end Go.Proofs.YtmjdhfbnmmdjiaaDoor

/- Words and tags as the document has them; labels. -/
namespace Go.Proofs.YtmjdhfbnmmdjiaaDoor
open Go.RowKit

end Go.Proofs.YtmjdhfbnmmdjiaaDoor

/- Functions that read slices of nodes, each by its contract. -/
namespace Go.Proofs.YtmjdhfbnmmdjiaaDoor
open Go.RowKit

end Go.Proofs.YtmjdhfbnmmdjiaaDoor

/- Whether two types are alike: the document's loop, and the program's by a function value. -/
namespace Go.Proofs.YtmjdhfbnmmdjiaaDoor
open Go.RowKit

theorem drop_cons {α : Type} {xs : List α} {k : Nat} {x : α} (hx : xs[k]? = some x) : xs.drop k = x :: xs.drop (k + 1) := by
  have hl := getq_lt hx
  rw [List.drop_eq_getElem_cons hl]
  rw [List.getElem?_eq_getElem hl] at hx
  injection hx with hx
  rw [hx]

end Go.Proofs.YtmjdhfbnmmdjiaaDoor

/- Slices that the call itself makes: what they own, as lists; append. -/
namespace Go.Proofs.YtmjdhfbnmmdjiaaDoor
open Go.RowKit

section
variable {α : Type} {enc : α → List Value} {size e base : Nat} {w w' : World} {A : Option Addr} {cap B : Nat} {l : List α}

/-- The slice (A, the list's length, cap) owns the list, in a row of its own from block base on. -/
def OwnL (e size : Nat) (enc : α → List Value) (w : World) (base : Nat) (A : Option Addr) (cap : Nat) (l : List α) : Prop :=
  w.ownsRow base e size (.slice A l.length cap) l.length (l.flatMap enc)

/-- A slice's address reads as a list, below block B. -/
def ReadL (size : Nat) (enc : α → List Value) (w : World) (B : Nat) (A : Option Addr) (l : List α) : Prop :=
  l ≠ [] → ∃ b o, A = some ⟨b, o, none⟩ ∧ b < B ∧ ∀ (i : Nat) (x : α), l[i]? = some x → ∀ (j : Nat) (u : Value), (enc x)[j]? = some u → w.cell? ⟨b, o + i * size + j, none⟩ = some u

theorem flatMap_at {size : Nat} {enc : α → List Value} (hk : ∀ x, (enc x).length = size) : ∀ {l : List α} {i : Nat} {x : α} {j : Nat} {u : Value}, l[i]? = some x → (enc x)[j]? = some u → (l.flatMap enc)[i * size + j]? = some u := by
  intro l
  induction l with
  | nil => intro i x j u h; simp at h
  | cons y l ih =>
    intro i x j u h hu
    rw [List.flatMap_cons]
    cases i with
    | zero =>
      simp only [List.getElem?_cons_zero, Option.some.injEq] at h
      subst h
      rw [Nat.zero_mul, Nat.zero_add, List.getElem?_append_left (getq_lt hu)]
      exact hu
    | succ i =>
      rw [List.getElem?_cons_succ] at h
      rw [List.getElem?_append_right (by rw [hk]; rw [Nat.succ_mul]; omega), hk, show (i + 1) * size + j - size = i * size + j by rw [Nat.succ_mul]; omega]
      exact ih h hu

theorem flatMap_len {size : Nat} {enc : α → List Value} (hk : ∀ x, (enc x).length = size) : ∀ (l : List α), (l.flatMap enc).length = l.length * size := by
  intro l
  induction l with
  | nil => simp
  | cons y l ih => rw [List.flatMap_cons, List.length_append, ih, hk, List.length_cons, Nat.succ_mul]; omega

theorem OwnL.nil : OwnL (α := α) e size enc w base none 0 [] := World.ownsRow_nil _ _ _ _

theorem OwnL.read (hk : ∀ x, (enc x).length = size) (h : OwnL e size enc w base A cap l) : ReadL size enc w w.heap.size A l := by
  intro hne
  rcases h.2 with ⟨hv, hn⟩ | ⟨g, cap', cur, hv, hbg, hg, hnc, hcm, hcs, htake⟩
  · exact absurd (List.eq_nil_of_length_eq_zero hn) hne
  · injection hv with hA _ _
    subst hA
    refine ⟨g, 0, rfl, lt_of_block hg, fun i x hx j u hu => ?_⟩
    have h1 := flatMap_at hk hx hu
    rw [← htake] at h1
    have h2 := getq_lt h1
    rw [List.length_take] at h2
    rw [List.getElem?_take_of_lt (by omega)] at h1
    simp only [World.cell?, hg, Nat.zero_add]
    simpa using h1

theorem OwnL.block (h : OwnL e size enc w base A cap l) : ∀ k, (Value.slice A l.length cap).ownBlock = some k → base ≤ k ∧ k < w.heap.size := World.ownsRow.lt h

theorem OwnL.kept {row : Option Nat} (h : OwnL e size enc w base A cap l) (hg : w.grownBy w' row) (hne : ∀ k, row = some k → ∀ a, A = some a → a.block ≠ k) : OwnL e size enc w' base A cap l :=
  World.ownsRow.kept h hg (by
    cases A with
    | none => exact .inl rfl
    | some a =>
      refine .inr ?_
      intro heq
      cases row with
      | none => simp [Value.ownBlock] at heq
      | some k => simp only [Value.ownBlock, Option.some.injEq] at heq; exact hne k rfl a rfl heq)

theorem OwnL.below {B : Nat} (h : OwnL e size enc w base A cap l) (hb : Below B w w') (hB : w.heap.size ≤ B) : OwnL e size enc w' base A cap l :=
  OwnL.kept (row := none) h ⟨hb.os, hb.tape, hb.output, hb.size, fun k hk _ => hb.block k (by omega)⟩ (by simp)

theorem OwnL.alloc (h : OwnL e size enc w base A cap l) (o : Obj) : OwnL e size enc (w.alloc o) base A cap l :=
  h.below (ext_alloc (Below.refl _ _) o) (Nat.le_refl _)

theorem OwnL.drewN (h : OwnL e size enc w base A cap l) (n : Nat) : OwnL e size enc (w.drewN n) base A cap l :=
  h.below (ext_drewN (Below.refl _ _) n) (Nat.le_refl _)

theorem ReadL.nil : ReadL (α := α) size enc w B A [] := fun h => absurd rfl h

theorem ReadL.keep (h : ReadL size enc w B A l) (hk : ∀ b off, b < B → w'.cell? ⟨b, off, none⟩ = w.cell? ⟨b, off, none⟩) : ReadL size enc w' B A l := fun hne => by
  obtain ⟨b, o, rfl, hb, hc⟩ := h hne
  exact ⟨b, o, rfl, hb, fun i x hx j u hu => (hk _ _ hb).trans (hc i x hx j u hu)⟩

theorem ReadL.below (h : ReadL size enc w B A l) (hb : Below B w w') : ReadL size enc w' B A l := h.keep fun b off hlt => hb.cell (p := ⟨b, off, none⟩) hlt

theorem ReadL.more {B' : Nat} (h : ReadL size enc w B A l) (hB : B ≤ B') : ReadL size enc w B' A l := fun hne => by
  obtain ⟨b, o, rfl, hb, hc⟩ := h hne
  exact ⟨b, o, rfl, by omega, hc⟩
end

theorem add_addr (b o j : Nat) : (Addr.mk b o none).add j = ⟨b, o + j, none⟩ := by
  unfold Addr.add
  split
  · next h => subst h; rfl
  · rfl

section
variable {α : Type} {P : Program} (w : World)

theorem run_app {size : Nat} {enc : α → List Value} (hk : ∀ x, (enc x).length = size) (h1 : ∀ x, ∀ u ∈ enc x, u.oneCell' = true)
    (base t ty e : Nat) (i : TypeInfo) (z : Value) (bytes : Nat) (ht : P.underlying t = some (.slice e)) (hi : P.info? e = some i) (hz : i.zero = some z)
    (hsize : i.size = size) (hby : i.bytes = bytes) (hzs : z.cells.size = size) (hsz : 0 < size)
    {A : Option Addr} {cap : Nat} {l : List α} (hown : OwnL e size enc w base A cap l) {B : Nat} {A2 : Option Addr} {c : Nat} {l2 : List α} (hr : ReadL size enc w B A2 l2)
    (h63 : l.length + l2.length ≤ maxLen) (hbytes : (l.length + l2.length) * bytes ≤ 140737488355328) (hbase : base ≤ w.heap.size) :
    ∃ A' cap' w', (Builtin.append_ #[t, t] ty #[.slice A l.length cap, .slice A2 l2.length c]).run P w = .ok (.slice A' (l.length + l2.length) cap') w' ∧ OwnL e size enc w' base A' cap' (l ++ l2) ∧
      w.grownBy w' ((Value.slice A l.length cap).ownBlock) ∧ ((Value.slice A' (l.length + l2.length) cap').ownBlock = (Value.slice A l.length cap).ownBlock ∨ (Value.slice A' (l.length + l2.length) cap').ownBlock = some w.heap.size) := by
  have hfl : (l ++ l2).flatMap enc = l.flatMap enc ++ l2.flatMap enc := by simp [List.flatMap_append]
  by_cases hne : l2 = []
  · subst hne
    refine ⟨A, cap, w, ?_, by unfold OwnL at hown ⊢; simpa using hown, World.grownBy.refl w _, .inl (by simp)⟩
    have hl0 : (([] : List α).length) = 0 := rfl
    simp only [List.length_nil, Nat.add_zero]
    rcases hown.2 with ⟨hv, hn⟩ | ⟨g, cap', cur, hv, hbg, hg, hnc, hcm, hcs, htake⟩
    · injection hv with hA hl hc
      subst hA hc
      rw [hn]
      cases A2 <;> simp [Builtin.append_, run_underlying ht, sizeOf, typeInfo, hi, Builtin.lenOf, Builtin.firstCells, loadCells, loadCellsFrom]
    · injection hv with hA hl hc
      subst hA hc
      cases A2 <;> simp [Builtin.append_, run_underlying ht, sizeOf, typeInfo, hi, Builtin.lenOf, Builtin.firstCells, hnc, storeCells, loadCells, loadCellsFrom]
  · obtain ⟨b, o, rfl, hb, hc⟩ := hr hne
    have hnews : ∀ (j : Nat) (u : Value), (l2.flatMap enc)[j]? = some u → w.cell? ((Addr.mk b o none).add j) = some u := by
      intro j u hu
      have hj := getq_lt hu
      rw [flatMap_len hk] at hj
      have hq : j / size < l2.length := Nat.div_lt_of_lt_mul (by rw [Nat.mul_comm]; exact hj)
      obtain ⟨x, hx⟩ := getq_ex hq
      have hm : j % size < (enc x).length := by rw [hk]; exact Nat.mod_lt _ hsz
      obtain ⟨u', hu'⟩ := getq_ex hm
      have e1 := flatMap_at hk hx hu'
      have e2 : j / size * size + j % size = j := by rw [Nat.mul_comm]; exact Nat.div_add_mod j size
      rw [e2, hu] at e1
      injection e1 with e1
      subst e1
      have := hc _ _ hx _ _ hu'
      rw [add_addr]
      rwa [show o + j / size * size + j % size = o + j by omega] at this
    have hall : ∀ u ∈ l2.flatMap enc, u.oneCell' = true := by
      intro u hu
      rw [List.mem_flatMap] at hu
      obtain ⟨x, _, hx⟩ := hu
      exact h1 x u hx
    obtain ⟨v', w', hrun, h2, h3, _, h5⟩ := run_append_own_at (P := P) w base t ty e i z size bytes ht hi hz hsize hby hzs hsz _ _ _ hown ⟨b, o, none⟩ l2.length c (l2.flatMap enc) (flatMap_len hk _) hnews hall h63 hbytes hbase
    have hform : ∃ A' cap', v' = .slice A' (l.length + l2.length) cap' := by
      rcases h2.2 with ⟨hv, hn⟩ | ⟨g, cap', cur, hv, _⟩
      · exact ⟨none, 0, by rw [hv, hn]⟩
      · exact ⟨_, _, hv⟩
    obtain ⟨A', cap', rfl⟩ := hform
    refine ⟨A', cap', w', hrun, ?_, h3, h5⟩
    unfold OwnL
    rw [hfl, List.length_append]
    exact h2

theorem wp_app {size : Nat} {enc : α → List Value} (hk : ∀ x, (enc x).length = size) (h1 : ∀ x, ∀ u ∈ enc x, u.oneCell' = true)
    {o : Oper} {a : Act} {K : Act → World → Prop} {Q : Exit → Act → World → Prop} (s x : Operand) (t : TypeId)
    (ho : o.op = .call { callee := .builtin .append, args := #[s, x], argTypes := #[t, t] })
    (base e : Nat) (i : TypeInfo) (z : Value) (bytes : Nat) (ht : P.underlying t = some (.slice e)) (hi : P.info? e = some i) (hz : i.zero = some z)
    (hsize : i.size = size) (hby : i.bytes = bytes) (hzs : z.cells.size = size) (hsz : 0 < size)
    {A : Option Addr} {cap : Nat} {l : List α} (hs : a.eval s = .slice A l.length cap) (hown : OwnL e size enc w base A cap l) {B : Nat} {A2 : Option Addr} {c : Nat} {l2 : List α} (hx : a.eval x = .slice A2 l2.length c) (hr : ReadL size enc w B A2 l2)
    (h63 : l.length + l2.length ≤ maxLen) (hbytes : (l.length + l2.length) * bytes ≤ 140737488355328) (hbase : base ≤ w.heap.size)
    (h : ∀ A' cap' w', OwnL e size enc w' base A' cap' (l ++ l2) → w.grownBy w' ((Value.slice A l.length cap).ownBlock) →
      ((Value.slice A' (l.length + l2.length) cap').ownBlock = (Value.slice A l.length cap).ownBlock ∨ (Value.slice A' (l.length + l2.length) cap').ownBlock = some w.heap.size) → K (a.put o.dst (.slice A' (l.length + l2.length) cap')) w') : o.wp P a w K Q := by
  obtain ⟨A', cap', w', hrun, h2, h3, h4⟩ := run_app (P := P) w hk h1 base t o.type e i z bytes ht hi hz hsize hby hzs hsz hown (c := c) hr h63 hbytes hbase
  unfold Oper.wp execOp
  simp only [ho, resolve, invoke, builtin, Sem.run_bind, Sem.run_pure, Result.andThen_ok, List.map_toArray, List.map_cons, List.map_nil, hs, hx, hrun]
  exact h A' cap' w' h2 h3 h4

theorem wpList_app {size : Nat} {enc : α → List Value} (hk : ∀ x, (enc x).length = size) (h1 : ∀ x, ∀ u ∈ enc x, u.oneCell' = true)
    {ops : Array Oper} {rest : List Oper} {o : Oper} {a : Act} {Q : Exit → Act → World → Prop} (hgd : o.guard = none) (s x : Operand) (t : TypeId)
    (ho : o.op = .call { callee := .builtin .append, args := #[s, x], argTypes := #[t, t] })
    (base e : Nat) (i : TypeInfo) (z : Value) (bytes : Nat) (ht : P.underlying t = some (.slice e)) (hi : P.info? e = some i) (hz : i.zero = some z)
    (hsize : i.size = size) (hby : i.bytes = bytes) (hzs : z.cells.size = size) (hsz : 0 < size)
    {A : Option Addr} {cap : Nat} {l : List α} (hs : a.eval s = .slice A l.length cap) (hown : OwnL e size enc w base A cap l) {B : Nat} {A2 : Option Addr} {c : Nat} {l2 : List α} (hx : a.eval x = .slice A2 l2.length c) (hr : ReadL size enc w B A2 l2)
    (h63 : l.length + l2.length ≤ maxLen) (hbytes : (l.length + l2.length) * bytes ≤ 140737488355328) (hbase : base ≤ w.heap.size)
    (h : ∀ A' cap' w', OwnL e size enc w' base A' cap' (l ++ l2) → w.grownBy w' ((Value.slice A l.length cap).ownBlock) →
      ((Value.slice A' (l.length + l2.length) cap').ownBlock = (Value.slice A l.length cap).ownBlock ∨ (Value.slice A' (l.length + l2.length) cap').ownBlock = some w.heap.size) → wpList P ops Q rest (a.put o.dst (.slice A' (l.length + l2.length) cap')) w') : wpList P ops Q (o :: rest) a w :=
  wpList_plain hgd fun _ hK => wp_app w hk h1 s x t ho base e i z bytes ht hi hz hsize hby hzs hsz hs hown hx hr h63 hbytes hbase fun A' cap' w' h2 h3 h4 => hK _ _ (h A' cap' w' h2 h3 h4)
end
end Go.Proofs.YtmjdhfbnmmdjiaaDoor

/- Appends onto rows of ints and of nodes, in this translation's numbers. -/
namespace Go.Proofs.YtmjdhfbnmmdjiaaDoor
open Go.RowKit

def encI (n : Int) : List Value := [.int .i64 n]
def encN (x : Nd) : List Value := [.int .i64 x.k, .string x.s, .int .i64 x.n]
/-- A slice as an element. -/
def encS (v : Option Addr × Nat × Nat) : List Value := [.slice v.1 v.2.1 v.2.2]

theorem encI_len (n : Int) : (encI n).length = 1 := rfl
theorem encS_len (v : Option Addr × Nat × Nat) : (encS v).length = 1 := rfl
theorem encI_one (n : Int) : ∀ u ∈ encI n, u.oneCell' = true := by simp [encI, Value.oneCell']
theorem encS_one (v : Option Addr × Nat × Nat) : ∀ u ∈ encS v, u.oneCell' = true := by simp [encS, Value.oneCell']

theorem infoI : (Tryd.prog.info? 3).map (fun i => (i.zero, i.size, i.bytes)) = some (some (.int .i64 0), 1, 8) := by kernel_rfl
abbrev OwnI (w : World) (base : Nat) (A : Option Addr) (cap : Nat) (l : List Int) : Prop := OwnL 3 1 encI w base A cap l
abbrev ReadI (w : World) (B : Nat) (A : Option Addr) (l : List Int) : Prop := ReadL 1 encI w B A l
abbrev ReadS (w : World) (B : Nat) (A : Option Addr) (l : List (Option Addr × Nat × Nat)) : Prop := ReadL 1 encS w B A l

theorem TyA.readL {w : World} {B : Nat} {A : Option Addr} {xs : List Nd} (h : TyA w B A xs) : ReadL 3 encN w B A xs := fun hne => by
  obtain ⟨b, o, rfl, hb, hr⟩ := h hne
  refine ⟨b, o, rfl, hb, fun i x hx j u hu => ?_⟩
  match j, hu with
  | 0, hu => simp [encN] at hu; subst hu; exact hr.c0 i x hx
  | 1, hu => simp [encN] at hu; subst hu; exact hr.c1 i x hx
  | 2, hu => simp [encN] at hu; subst hu; exact hr.c2 i x hx
  | j + 3, hu => simp [encN] at hu

theorem ReadL.tyA {w : World} {B : Nat} {A : Option Addr} {xs : List Nd} (h : ReadL 3 encN w B A xs) : TyA w B A xs := fun hne => by
  obtain ⟨b, o, rfl, hb, hc⟩ := h hne
  exact ⟨b, o, rfl, hb, ⟨fun i x hx => hc i x hx 0 _ rfl, fun i x hx => hc i x hx 1 _ rfl, fun i x hx => hc i x hx 2 _ rfl⟩⟩

/-- The int at a place below the length. -/
theorem ReadL.int {w : World} {B : Nat} {A : Option Addr} {l : List Int} (h : ReadI w B A l) {i : Nat} {n : Int} (hn : l[i]? = some n) :
    ∃ b o, A = some ⟨b, o, none⟩ ∧ b < B ∧ w.cell? ⟨b, o + i, none⟩ = some (.int .i64 n) := by
  obtain ⟨b, o, rfl, hb, hc⟩ := h (by rintro rfl; simp at hn)
  have := hc i n hn 0 _ rfl
  rw [Nat.mul_one, Nat.add_zero] at this
  exact ⟨b, o, rfl, hb, this⟩

/-- The slice at a place below the length. -/
theorem ReadL.slice {w : World} {B : Nat} {A : Option Addr} {l : List (Option Addr × Nat × Nat)} (h : ReadS w B A l) {i : Nat} {v : Option Addr × Nat × Nat} (hn : l[i]? = some v) :
    ∃ b o, A = some ⟨b, o, none⟩ ∧ b < B ∧ w.cell? ⟨b, o + i, none⟩ = some (.slice v.1 v.2.1 v.2.2) := by
  obtain ⟨b, o, rfl, hb, hc⟩ := h (by rintro rfl; simp at hn)
  have := hc i v hn 0 _ rfl
  rw [Nat.mul_one, Nat.add_zero] at this
  exact ⟨b, o, rfl, hb, this⟩

theorem readI_new (w : World) (n : Int) : ReadI (w.alloc (.cells #[.int .i64 n] 3)) (w.heap.size + 1) (some ⟨w.heap.size, 0, none⟩) [n] := fun _ => by
  refine ⟨w.heap.size, 0, rfl, by omega, fun i x hx j u hu => ?_⟩
  match i, hx with
  | 0, hx =>
    simp at hx
    subst hx
    match j, hu with
    | 0, hu => simp [encI] at hu; subst hu; simp
    | j + 1, hu => simp [encI] at hu
  | i + 1, hx => simp at hx

/-- A literal without elements. -/
theorem own_empty {α : Type} (e size : Nat) (enc : α → List Value) (w : World) : OwnL e size enc (w.alloc (.cells #[] e)) w.heap.size (some ⟨w.heap.size, 0, none⟩) 0 ([] : List α) :=
  World.ownsRow_made w #[] 0 (Nat.le_refl _) (by simp [maxLen]) (by simp)

theorem ownBlock_of {A : Option Addr} {n c : Nat} {k : Nat} (h : (Value.slice A n c).ownBlock = some k) : ∃ a, A = some a ∧ a.block = k := by
  cases A with
  | none => simp [Value.ownBlock] at h
  | some a => exact ⟨a, rfl, by simpa [Value.ownBlock] using h⟩

/-- What an append leaves of what was there when the call began. -/
theorem ext_app {w W w1 : World} {A : Option Addr} {n c : Nat} (h : Below w.heap.size w W) (hg : W.grownBy w1 ((Value.slice A n c).ownBlock)) (hA : ∀ k, (Value.slice A n c).ownBlock = some k → w.heap.size ≤ k) : Below w.heap.size w w1 :=
  h.grown hg h.size fun k hk => hA k hk

section
variable {w : World} {ops : Array Oper} {rest : List Oper} {o : Oper} {a : Act} {Q : Exit → Act → World → Prop}

theorem wpList_appI (hgd : o.guard = none) (s x : Operand)
    (ho : o.op = .call { callee := .builtin .append, args := #[s, x], argTypes := #[29, 29] })
    (base : Nat) {A : Option Addr} {cap : Nat} {l : List Int} (hs : a.eval s = .slice A l.length cap) (hown : OwnI w base A cap l) {B : Nat} {A2 : Option Addr} {c : Nat} {l2 : List Int} (hx : a.eval x = .slice A2 l2.length c) (hr : ReadI w B A2 l2)
    (hlen : l.length + l2.length ≤ 10000000) (hbase : base ≤ w.heap.size)
    (h : ∀ A' cap' w', OwnI w' base A' cap' (l ++ l2) → w.grownBy w' ((Value.slice A l.length cap).ownBlock) →
      ((Value.slice A' (l.length + l2.length) cap').ownBlock = (Value.slice A l.length cap).ownBlock ∨ (Value.slice A' (l.length + l2.length) cap').ownBlock = some w.heap.size) → wpList Tryd.prog ops Q rest (a.put o.dst (.slice A' (l.length + l2.length) cap')) w') : wpList Tryd.prog ops Q (o :: rest) a w := by
  obtain ⟨i0, hi, hz0, hz1, hz2⟩ := info_parts infoI
  exact wpList_app w encI_len encI_one hgd s x 29 ho base 3 i0 _ 8 Tryd.underlying29 hi hz0 hz1 hz2 rfl (by decide) hs hown hx hr (by unfold maxLen; omega) (by omega) hbase h

end
end Go.Proofs.YtmjdhfbnmmdjiaaDoor

/- The document's End: pure and walked. -/
namespace Go.Proofs.YtmjdhfbnmmdjiaaDoor
open Go.RowKit

end Go.Proofs.YtmjdhfbnmmdjiaaDoor

/- The document's Kids: pure and walked. -/
namespace Go.Proofs.YtmjdhfbnmmdjiaaDoor
open Go.RowKit

end Go.Proofs.YtmjdhfbnmmdjiaaDoor

/- slices.Grow at nil, slices.Concat, slices.Clone, ty.Arrow. -/
namespace Go.Proofs.YtmjdhfbnmmdjiaaDoor
open Go.RowKit

theorem OwnL.lower {α : Type} {e size : Nat} {enc : α → List Value} {w : World} {base base' : Nat} {A : Option Addr} {cap : Nat} {l : List α} (h : OwnL e size enc w base A cap l) (hb : base' ≤ base) : OwnL e size enc w base' A cap l := by
  refine ⟨h.1, ?_⟩
  rcases h.2 with h | ⟨g, cap', cur, hv, hbg, hr⟩
  · exact .inl h
  · exact .inr ⟨g, cap', cur, hv, Nat.le_trans hb hbg, hr⟩

end Go.Proofs.YtmjdhfbnmmdjiaaDoor

/- The program's Kids. -/
namespace Go.Proofs.YtmjdhfbnmmdjiaaDoor
open Go.RowKit

end Go.Proofs.YtmjdhfbnmmdjiaaDoor

/- ty.Row's parts: odd labels, the order of labels. -/
namespace Go.Proofs.YtmjdhfbnmmdjiaaDoor
open Go.RowKit

end Go.Proofs.YtmjdhfbnmmdjiaaDoor

/- What stands while a law is walked: one fact, carried over each call. -/
namespace Go.Proofs.YtmjdhfbnmmdjiaaDoor
open Go.RowKit

/-- What stands wherever all that was there stands. -/
def Keep (P : World → Prop) : Prop := ∀ w w' : World, P w → Below w.heap.size w w' → P w'

theorem Keep.and {P Q : World → Prop} (h : Keep P) (k : Keep Q) : Keep fun w => P w ∧ Q w := fun w w' hp hb => ⟨h w w' hp.1 hb, k w w' hp.2 hb⟩
/-- The call began in w0; what stands now. -/
structure Mem (w0 : World) (P : World → Prop) (w : World) : Prop where
  ext : Below w0.heap.size w0 w
  p : P w
  keep : Keep P

theorem Mem.step {w0 w w' : World} {P : World → Prop} (h : Mem w0 P w) (hb : Below w.heap.size w w') : Mem w0 P w' := ⟨ext_trans h.ext hb, h.keep _ _ h.p hb, h.keep⟩
theorem Mem.drewN {w0 w : World} {P : World → Prop} (h : Mem w0 P w) (n : Nat) : Mem w0 P (w.drewN n) := h.step (ext_drewN (Below.refl _ _) n)
theorem Mem.add {w0 w : World} {P Q : World → Prop} (h : Mem w0 P w) (q : Q w) (k : Keep Q) : Mem w0 (fun v => P v ∧ Q v) w := ⟨h.ext, ⟨h.p, q⟩, h.keep.and k⟩
theorem Mem.drop {w0 w : World} {P Q : World → Prop} (h : Mem w0 P w) (f : ∀ v, P v → Q v) (k : Keep Q) : Mem w0 Q w := ⟨h.ext, f _ h.p, k⟩

end Go.Proofs.YtmjdhfbnmmdjiaaDoor

/- Rows in blocks of their own: what a write into one leaves of another. -/
namespace Go.Proofs.YtmjdhfbnmmdjiaaDoor
open Go.RowKit

/-- Two addresses lie in two blocks. -/
def Off (A B : Option Addr) : Prop := ∀ a b, A = some a → B = some b → a.block ≠ b.block

theorem Off.symm {A B : Option Addr} (h : Off A B) : Off B A := fun a b ha hb e => h b a hb ha e.symm

theorem ReadL.grown {α : Type} {size : Nat} {enc : α → List Value} {w w' : World} {B : Nat} {A X : Option Addr} {l : List α} {n c : Nat} (h : ReadL size enc w B X l) (hB : B ≤ w.heap.size) (hg : w.grownBy w' ((Value.slice A n c).ownBlock)) (ho : Off A X) : ReadL size enc w' B X l := fun hne => by
  obtain ⟨b, o, rfl, hb, hc⟩ := h hne
  refine ⟨b, o, rfl, hb, fun i x hx j u hu => ?_⟩
  have hblk := hg.block b (by omega) (fun e => by
    obtain ⟨a, ha, hab⟩ := ownBlock_of e.symm
    exact ho a _ ha rfl (by rw [hab]))
  rw [World.cell?_of_block (a := ⟨b, o + i * size + j, none⟩) hblk]
  exact hc i x hx j u hu

theorem TyA.grown {w w' : World} {B : Nat} {A X : Option Addr} {xs : List Nd} {n c : Nat} (h : TyA w B X xs) (hB : B ≤ w.heap.size) (hg : w.grownBy w' ((Value.slice A n c).ownBlock)) (ho : Off A X) : TyA w' B X xs :=
  ReadL.tyA (ReadL.grown h.readL hB hg ho)

theorem Off.app {A A' X : Option Addr} {n c n' c' N : Nat} (h : Off A X) (hA : (Value.slice A' n' c').ownBlock = (Value.slice A n c).ownBlock ∨ (Value.slice A' n' c').ownBlock = some N) (hX : ∀ x, X = some x → x.block < N) : Off A' X := fun a x ha hx e => by
  subst ha hx
  rcases hA with hA | hA
  · obtain ⟨b, hb, hbe⟩ := ownBlock_of (hA.symm.trans (show (Value.slice (some a) n' c').ownBlock = some a.block from rfl))
    exact h b x hb rfl (by rw [hbe, e])
  · have : a.block = N := by simpa [Value.ownBlock] using hA
    have := hX x rfl
    omega

theorem OwnL.lt {α : Type} {e size base : Nat} {enc : α → List Value} {w : World} {A : Option Addr} {cap : Nat} {l : List α} (h : OwnL e size enc w base A cap l) : ∀ a, A = some a → base ≤ a.block ∧ a.block < w.heap.size := fun a ha => by
  subst ha
  exact OwnL.block h a.block rfl

theorem kept_off {α : Type} {e size base n c : Nat} {enc : α → List Value} {A X : Option Addr} {cap : Nat} {l : List α} {w w' : World} (h : OwnL e size enc w base X cap l) (hg : w.grownBy w' ((Value.slice A n c).ownBlock)) (ho : Off A X) : OwnL e size enc w' base X cap l :=
  OwnL.kept h hg fun k hk a ha e2 => by
    obtain ⟨b, hb, hbe⟩ := ownBlock_of hk
    exact ho b a hb ha (by rw [hbe, e2])

theorem below_app {w w' : World} {B n c : Nat} {A : Option Addr} (hg : w.grownBy w' ((Value.slice A n c).ownBlock)) (hB : B ≤ w.heap.size) (hA : ∀ a, A = some a → B ≤ a.block) : Below B w w' :=
  (Below.refl B w).grown hg hB fun k hk => by
    obtain ⟨a, ha, hab⟩ := ownBlock_of hk
    rw [← hab]
    exact hA a ha
end Go.Proofs.YtmjdhfbnmmdjiaaDoor

namespace Go.Proofs.YtmjdhfbnmmdjiaaDoor
open Go.MapKept Go.ChangeMaps

/-! Maps whose entries are told one by one: keys of ints, texts and pointers; elements whatever they are. -/

section
variable {κ : Type} [DecidableEq κ]

/-- The first entry at a key: where it is, and what. -/
def findL (a : κ) : List (κ × Value) → Nat → Option (Nat × Value)
  | [], _ => none
  | p :: l, i => if a = p.1 then some (i, p.2) else findL a l (i + 1)

def keysAre (kf : κ → Value) (es : List MapEntry) (l : List (κ × Value)) : Prop := es.map (fun e => (e.key, e.val)) = l.map (fun p => (kf p.1, p.2))

/-- What is at a key now. -/
def putL (a : κ) (v : Value) : List (κ × Value) → List (κ × Value)
  | [] => [(a, v)]
  | p :: l => if a = p.1 then (p.1, v) :: l else p :: putL a v l

theorem findL_none {a : κ} {v : Value} : ∀ {l : List (κ × Value)} {n : Nat}, findL a l n = none → putL a v l = l ++ [(a, v)]
  | [], _, _ => rfl
  | p :: l, n, h => by
    simp only [findL] at h
    split at h
    · cases h
    · next e => simp only [putL, if_neg e, findL_none h, List.cons_append]

theorem findL_some {a : κ} {v : Value} : ∀ {l : List (κ × Value)} {n j : Nat} {z : Value}, findL a l n = some (j, z) → ∃ k, j = n + k ∧ k < l.length ∧ l[k]? = some (a, z) ∧ putL a v l = l.set k (a, v)
  | p :: l, n, j, z, h => by
    simp only [findL] at h
    split at h
    · next e =>
      injection h with h
      injection h with h1 h2
      subst h1 h2 e
      exact ⟨0, rfl, by simp, rfl, by simp [putL]⟩
    · next e =>
      obtain ⟨k, h1, h2, h3, h4⟩ := findL_some (v := v) h
      exact ⟨k + 1, by omega, by simp; omega, by simpa using h3, by simp [putL, e, h4]⟩

/-- What is there. -/
def atL (a : κ) (l : List (κ × Value)) : Option Value := (findL a l 0).map (·.2)

theorem findL_val (a : κ) : ∀ (l : List (κ × Value)) (n m : Nat), (findL a l n).map (·.2) = (findL a l m).map (·.2)
  | [], _, _ => rfl
  | p :: l, n, m => by
    simp only [findL]
    split
    · rfl
    · exact findL_val a l (n + 1) (m + 1)

theorem atL_nil (a : κ) : atL a [] = none := rfl
theorem atL_cons (a : κ) (p : κ × Value) (l : List (κ × Value)) : atL a (p :: l) = if a = p.1 then some p.2 else atL a l := by
  unfold atL
  simp only [findL]
  split
  · rfl
  · exact findL_val a l 1 0

theorem atL_put (a b : κ) (v : Value) : ∀ l : List (κ × Value), atL b (putL a v l) = if b = a then some v else atL b l
  | [] => by simp only [putL, atL_cons, atL_nil]
  | p :: l => by
    simp only [putL]
    by_cases e : a = p.1
    · rw [if_pos e, atL_cons, atL_cons]
      simp only
      rw [← e]
      split <;> simp_all
    · rw [if_neg e, atL_cons, atL_cons, atL_put a b v l]
      by_cases e2 : b = p.1
      · rw [if_pos e2, if_pos e2, if_neg]
        rintro rfl
        exact e e2
      · rw [if_neg e2, if_neg e2]

/-- A map in block b: its entries, in the order in which they came. -/
def KMap (kf : κ → Value) (w : World) (b : Nat) (l : List (κ × Value)) : Prop := ∃ es clock, w.heap[b]? = some (.map es clock) ∧ keysAre kf es.toList l

/-- Keys that can be looked for. -/
structure Keyer (P : Program) (kt : TypeId) (kf : κ → Value) (w : World) (a : κ) (l : List (κ × Value)) : Prop where
  find : ∀ es, keysAre kf es l → (Instr.findKey kt (kf a) es).run P w = .ok (findL a l 0) w
  check : ∀ em, (Instr.checkKey em 10000 kt (kf a)).run P w = .ok () w
  same : Instr.sameBits 10000 (kf a) (kf a) = true

variable {P : Program} {w : World} {kt mt et : TypeId} {kf : κ → Value} {a : κ} {b : Nat} {l : List (κ × Value)}

theorem KMap.lookup (hM : KMap kf w b l) (K : Keyer P kt kf w a l) (hm : P.underlying mt = some (.map kt et)) (z : Value) (hz : (zeroValue et).run P w = .ok z w) (ok : Bool) :
    (Instr.lookup mt (.map (some b)) (kf a) ok).run P w = .ok (if ok then .tuple #[(atL a l).getD z, .bool (atL a l).isSome] else (atL a l).getD z) w := by
  obtain ⟨es, clock, hb, hks⟩ := hM
  have hf := K.find es.toList hks
  have hc := K.check es.isEmpty
  have hg : (getObj b).run P w = .ok (.map es clock) w := MapKept.run_getObj_map hb
  unfold Instr.lookup atL
  simp only [Sem.run_bind, run_underlying hm, Result.andThen_ok, hg, Sem.run_pure, hc, hf]
  cases hfl : findL a l 0 with
  | none =>
    simp only [Sem.run_bind, hz, Result.andThen_ok, Sem.run_pure]
    cases ok <;> rfl
  | some r =>
    cases ok <;> rfl

theorem KMap.update (hM : KMap kf w b l) (K : Keyer P kt kf w a l) (hm : P.underlying mt = some (.map kt et)) (v : Value) :
    ∃ w', (Instr.mapUpdate mt (.map (some b)) (kf a) v).run P w = .ok () w' ∧ KMap kf w' b (putL a v l) ∧ w.grownBy w' (some b) := by
  obtain ⟨es, clock, hb, hks⟩ := hM
  have hf := K.find es.toList hks
  have hc := K.check false
  have hg : (getObj b).run P w = .ok (.map es clock) w := MapKept.run_getObj_map hb
  have hgrow : ∀ o, w.grownBy (setBlock w b o) (some b) := fun o => ⟨rfl, rfl, rfl, by simp [setBlock], fun j _ hj => heap_setBlock_other hb _ (fun e => hj (by rw [e]))⟩
  cases hfl : findL a l 0 with
  | none =>
    refine ⟨setBlock w b (.map (es.push { key := kf a, val := v, born := clock }) (clock + 1)), ?_, ⟨_, _, heap_setBlock_same hb _, ?_⟩, hgrow _⟩
    · rw [hfl] at hf
      simp [Instr.mapUpdate, run_underlying hm, hg, hc, hf, MapKept.run_setObj_map _ hb, Result.andThen, setBlock]
    · rw [findL_none hfl]
      unfold keysAre at hks ⊢
      simp [hks]
  | some r =>
    obtain ⟨j, z⟩ := r
    obtain ⟨k, h1, h2, h3, h4⟩ := findL_some (v := v) hfl
    rw [Nat.zero_add] at h1
    subst h1
    rw [hfl] at hf
    have hlen : es.toList.length = l.length := by
      have := congrArg List.length hks
      simpa using this
    have hj : j < es.size := by have := hlen; simp at this; omega
    have hkey : es[j].key = kf a := by
      have h5 := congrArg (fun x : List (Value × Value) => x[j]?) hks
      simp only [List.getElem?_map, h3, Option.map_some] at h5
      rw [Array.getElem?_toList, Array.getElem?_eq_getElem hj] at h5
      simp only [Option.map_some, Option.some.injEq, Prod.mk.injEq] at h5
      exact h5.1
    refine ⟨setBlock w b (.map (es.modify j fun e => { e with key := kf a, val := v }) clock), ?_, ⟨_, _, heap_setBlock_same hb _, ?_⟩, hgrow _⟩
    · simp [Instr.mapUpdate, run_underlying hm, hg, hc, hf, Array.getElem?_eq_getElem hj, hkey, Instr.keyThatStays, K.same, MapKept.run_setObj_map _ hb, Result.andThen, setBlock]
    · rw [h4]
      unfold keysAre at hks ⊢
      apply List.ext_getElem?
      intro q
      have h5 := congrArg (fun x : List (Value × Value) => x[q]?) hks
      simp only [List.getElem?_map, Array.getElem?_toList, Array.getElem?_modify] at h5 ⊢
      rw [List.getElem?_set]
      by_cases hq : j = q
      · subst hq
        rw [if_pos rfl, if_pos rfl, if_pos h2, Array.getElem?_eq_getElem hj]
        rfl
      · rw [if_neg hq, if_neg hq]
        exact h5

omit [DecidableEq κ] in
theorem KMap.kept {w' : World} {row : Option Nat} (hM : KMap kf w b l) (hg : w.grownBy w' row) (hne : row ≠ some b) : KMap kf w' b l := by
  obtain ⟨es, clock, hb, hks⟩ := hM
  refine ⟨es, clock, ?_, hks⟩
  have hlt : b < w.heap.size := (Array.getElem?_eq_some_iff.1 hb).1
  rw [hg.block b hlt (fun e => hne e.symm)]
  exact hb

omit [DecidableEq κ] in
theorem KMap.lt (hM : KMap kf w b l) : b < w.heap.size := by
  obtain ⟨es, clock, hb, _⟩ := hM
  exact (Array.getElem?_eq_some_iff.1 hb).1

/-! ### At the operation -/

end

/-! ### Ints, texts, pointers -/

def sk (s : ByteArray) : Value := .string s
section
variable {P : Program} {w : World} {kt : TypeId}

theorem findNow_run {κ : Type} [DecidableEq κ] {kf : κ → Value} {d : TypeDesc} {a : κ} (hs : ∀ c, Instr.sameNow d (kf a) (kf c) = some (decide (a = c))) : ∀ (es : List MapEntry) (l : List (κ × Value)) (n : Nat), keysAre kf es l → Instr.findNow d (kf a) es n = some (findL a l n)
  | [], [], _, _ => rfl
  | [], _ :: _, _, h => by simp [keysAre] at h
  | _ :: _, [], _, h => by simp [keysAre] at h
  | x :: es, p :: l, n, h => by
    simp only [keysAre, List.map_cons, List.cons.injEq, Prod.mk.injEq] at h
    obtain ⟨⟨h1, h2⟩, h3⟩ := h
    have ih := findNow_run hs es l (n + 1) h3
    unfold Instr.findNow findL
    rw [h1, hs]
    by_cases e : a = p.1
    · rw [if_pos e, decide_eq_true e, h2]
    · rw [if_neg e, decide_eq_false e]
      exact ih

theorem keyer_str (hk : P.underlying kt = some .string) (s : ByteArray) (l : List (ByteArray × Value)) : Keyer P kt sk w s l := by
  have hbeq : ∀ a b : ByteArray, (a == b) = decide (a = b) := fun a b => by
    cases a with
    | mk x =>
      cases b with
      | mk y =>
        show (x == y) = _
        rw [Bool.eq_iff_iff]
        simp
  refine ⟨fun es h => run_findKey hk (findNow_run (fun c => ?_) es l 0 h), fun em => ?_, ?_⟩
  · simp only [Instr.sameNow, sk]
    rw [hbeq]
  · have : ∀ d : Nat, (Instr.checkKey em (d + 1) kt (sk s)).run P w = .ok () w := fun d => by simp [Instr.checkKey, sk, run_underlying hk]
    exact this 9999
  · simp [Instr.sameBits, sk, hbeq]

variable {e : TypeId} {i : TypeInfo}

end
end Go.Proofs.YtmjdhfbnmmdjiaaDoor

/- Trees in memory: nodes, and what stands while the solver is written. -/
namespace Go.Proofs.YtmjdhfbnmmdjiaaDoor
open Go.RowKit

/-- All blocks that were there stand, but for those of X. -/
structure Fr (X : Nat → Prop) (w w' : World) : Prop where
  os : w'.os = w.os
  tape : w'.tape = w.tape
  output : w'.output = w.output
  size : w.heap.size ≤ w'.heap.size
  block : ∀ k, k < w.heap.size → ¬ X k → w'.heap[k]? = w.heap[k]?

section
variable {X Y : Nat → Prop} {w w' w2 : World}

theorem Fr.refl (X : Nat → Prop) (w : World) : Fr X w w := ⟨rfl, rfl, rfl, Nat.le_refl _, fun _ _ _ => rfl⟩
theorem Fr.trans (h : Fr X w w') (k : Fr X w' w2) : Fr X w w2 :=
  ⟨k.os.trans h.os, k.tape.trans h.tape, k.output.trans h.output, Nat.le_trans h.size k.size, fun i hi hx => (k.block i (by have := h.size; omega) hx).trans (h.block i hi hx)⟩
theorem Fr.mono (h : Fr X w w') (hxy : ∀ k, X k → Y k) : Fr Y w w' := ⟨h.os, h.tape, h.output, h.size, fun k hk hy => h.block k hk fun hx => hy (hxy k hx)⟩
/-- What is written was not there at first. -/
theorem Fr.new (h : Fr X w w') (k : Fr Y w' w2) (hy : ∀ b, Y b → X b ∨ w.heap.size ≤ b) : Fr X w w2 :=
  ⟨k.os.trans h.os, k.tape.trans h.tape, k.output.trans h.output, Nat.le_trans h.size k.size, fun i hi hx => (k.block i (by have := h.size; omega) fun e => by rcases hy i e with e | e <;> first | exact hx e | omega).trans (h.block i hi hx)⟩
theorem Fr.of_below {B : Nat} (h : Below B w w') (hX : ∀ k, B ≤ k → k < w.heap.size → X k) : Fr X w w' :=
  ⟨h.os, h.tape, h.output, h.size, fun k hk hx => h.block k (by rcases Nat.lt_or_ge k B with e | e; exact e; exact absurd (hX k e hk) hx)⟩
theorem Fr.below (h : Below w.heap.size w w') : Fr X w w' := ⟨h.os, h.tape, h.output, h.size, fun k hk _ => h.block k hk⟩
theorem Fr.grown {row : Option Nat} (h : w.grownBy w' row) (hX : ∀ k, row = some k → X k) : Fr X w w' :=
  ⟨h.os, h.tape, h.output, h.size, fun k hk hx => h.block k hk fun e => hx (hX k e.symm)⟩
theorem Fr.alloc (h : Fr X w w') (o : Obj) : Fr X w (w'.alloc o) := h.trans (Fr.below ((Below.refl _ _).alloc (Nat.le_refl _) o))
theorem Fr.drewN (h : Fr X w w') (n : Nat) : Fr X w (w'.drewN n) := ⟨h.os, h.tape, h.output, h.size, h.block⟩
theorem Fr.setCell (h : Fr X w w') {p : Addr} (hp : X p.block ∨ w.heap.size ≤ p.block) (u : Value) : Fr X w (w'.setCell p u) :=
  ⟨h.os, h.tape, h.output, by have := h.size; simpa [World.setCell] using this, fun k hk hx => by
    rw [Below.heap_setCell _ _ _ _ (by rintro rfl; rcases hp with e | e; exact hx e; omega)]
    exact h.block k hk hx⟩
end

/-- A slice that reads as a list, in a block that is not written. -/
def Lies {α : Type} (X : Nat → Prop) (size : Nat) (enc : α → List Value) (w : World) (A : Option Addr) (l : List α) : Prop :=
  l ≠ [] → ∃ b o, A = some ⟨b, o, none⟩ ∧ ¬ X b ∧ b < w.heap.size ∧ ∀ (i : Nat) (x : α), l[i]? = some x → ∀ (j : Nat) (u : Value), (enc x)[j]? = some u → w.cell? ⟨b, o + i * size + j, none⟩ = some u

section
variable {α : Type} {X Y : Nat → Prop} {size : Nat} {enc : α → List Value} {w w' : World} {A : Option Addr} {l : List α}

theorem Lies.nil : Lies X size enc w A ([] : List α) := fun h => absurd rfl h

theorem Lies.fr (h : Lies X size enc w A l) (hf : Fr Y w w') (hY : ∀ k, k < w.heap.size → Y k → X k) : Lies X size enc w' A l := fun hne => by
  obtain ⟨b, o, rfl, hx, hb, hr⟩ := h hne
  refine ⟨b, o, rfl, hx, by have := hf.size; omega, fun i x hi j u hj => ?_⟩
  rw [World.cell?_of_block (w := w) (hf.block b hb fun e => hx (hY b hb e))]
  exact hr i x hi j u hj

theorem Lies.more (h : Lies X size enc w A l) (hY : ∀ k, k < w.heap.size → Y k → X k) : Lies Y size enc w A l := fun hne => by
  obtain ⟨b, o, rfl, hx, hb, hr⟩ := h hne
  exact ⟨b, o, rfl, fun e => hx (hY b hb e), hb, hr⟩

theorem Lies.read (h : Lies X size enc w A l) : ReadL size enc w w.heap.size A l := fun hne => by
  obtain ⟨b, o, e, hx, hb, hr⟩ := h hne
  exact ⟨b, o, e, hb, hr⟩

end

section
end

end Go.Proofs.YtmjdhfbnmmdjiaaDoor

/- Nodes that are being made: their labels and children grow. -/
namespace Go.Proofs.YtmjdhfbnmmdjiaaDoor
open Go.RowKit

theorem heap_set {w : World} {g : Nat} {cs : Array Value} {t : TypeId} (h : w.heap[g]? = some (.cells cs t (0, 0))) (i : Nat) (u : Value) : (w.setCell ⟨g, i, none⟩ u).heap[g]? = some (.cells (cs.setIfInBounds i u) t (0, 0)) := by
  simp only [World.setCell, Array.getElem?_modify, h, if_true, Option.map_some]
  simp

section
variable {base g : Nat} {k n : Int} {lv tv : Value} {B : Option Addr} {cb : Nat} {bs : List Nat} {w w' : World} {Y : Nat → Prop}

theorem OwnL.fr {α : Type} {enc : α → List Value} {e size cap : Nat} {A : Option Addr} {l : List α} (h : OwnL e size enc w base A cap l) (hf : Fr Y w w') (hY : ∀ b, Y b → b < base) : OwnL e size enc w' base A cap l := by
  cases A with
  | none =>
    rcases h.2 with ⟨hv, hn⟩ | ⟨g, cap', cur, hv, _⟩
    · have hl : l = [] := List.eq_nil_of_length_eq_zero hn
      subst hl
      injection hv with _ _ hc
      subst hc
      exact OwnL.nil
    · cases hv
  | some a =>
    rcases h.2 with ⟨hv, hn⟩ | ⟨g, cap', cur, hv, hbg, hg, hr⟩
    · cases hv
    · have hlt : g < w.heap.size := (Array.getElem?_eq_some_iff.1 hg).1
      exact ⟨h.1, .inr ⟨g, cap', cur, hv, hbg, (hf.block g hlt fun e => by have := hY g e; omega).trans hg, hr⟩⟩

end

section
variable {base g : Nat} {k n : Int} {tv : Value} {A B : Option Addr} {ca cb : Nat} {ls : List ByteArray} {bs : List Nat} {w w' : World} {Y : Nat → Prop}

end

/-! ### Children that were made stand while their node grows -/

section
end

end Go.Proofs.YtmjdhfbnmmdjiaaDoor

/- Regions that draw and store what they load: loads are taken first while nothing was stored. -/
namespace Go.Proofs.YtmjdhfbnmmdjiaaDoor
open Go
section
variable {P : Program} {ops : Array Oper} {Q : Exit → Act → World → Prop} {md : Region.Mode} {S : World → Prop} {Z : List Nat}

/-- Whatever order is picked, and S holds behind each operation until one of Z has come up. -/
def wpAnyL (P : Program) (md : Region.Mode) (ops : Array Oper) (Q : Exit → Act → World → Prop) (S : World → Prop) (Z : List Nat) : Nat → Array Bool → Act → World → Prop
  | 0, listed, a, w => Region.ready md ops listed = [] ∧ Q .normal a w
  | fuel + 1, listed, a, w => (Region.ready md ops listed = [] → Q .normal a w) ∧
    ∀ i ∈ Region.ready md ops listed, wpOp P ops Q i (fun a' w' => ((∀ z ∈ Z, (listed.setIfInBounds i true).getD z true = false) → S w') ∧ wpAnyL P md ops Q S Z fuel (listed.setIfInBounds i true) a' w') a w

theorem wpAny_of_L : ∀ (fuel : Nat) (listed : Array Bool) (a : Act) (w : World), wpAnyL P md ops Q S Z fuel listed a w → wpAny P md ops Q fuel listed a w
  | 0, _, _, _, h => h
  | fuel + 1, _, _, _, h => ⟨h.1, fun i hi => wpOp_mono (fun _ _ h' => wpAny_of_L fuel _ _ _ h'.2) (h.2 i hi)⟩

theorem wpAnyL_first {i : Nat} {oi : Oper} {v : Value} {C : List Nat} (hi : ops[i]? = some oi) (hsel : ∀ (j : Nat) (o : Oper) cs b, ops[j]? = some o → o.op ≠ .select cs b)
    (hQ : ∀ c a w, Q (.panic c) (a.put oi.dst v) w → Q (.panic c) a w) (hZ : ∀ z ∈ Z, z ∈ C) (hiC : i ∉ C)
    (hC : ∀ c ∈ C, ∀ oc, ops[c]? = some oc → ∃ e ∈ oc.after, Region.binds md e = true ∧ (e.on = i ∨ e.on ∈ C)) :
    ∀ (fuel : Nat) (listed : Array Bool) (a : Act) (w : World),
      (∀ j oj, ops[j]? = some oj → j ≠ i → listed.getD j true = false → (∀ e ∈ oj.after, Region.binds md e = true → e.on ≠ i) → oi.apart ops oj = true) →
      (∀ c ∈ C, listed.getD c true = false) → i ∈ Region.ready md ops listed → YieldsIf P ops S oi v a → S w →
      wpAnyL P md ops Q S Z fuel (listed.setIfInBounds i true) (a.put oi.dst v) w → wpAnyL P md ops Q S Z (fuel + 1) listed a w := by
  intro fuel
  induction fuel with
  | zero =>
    intro listed a w _ _ hr hy hS H
    refine ⟨fun h => (by rw [h] at hr; cases hr), fun j hj => ?_⟩
    by_cases hji : j = i
    · subst hji; exact hy.wpOp hi hS ⟨fun _ => hS, H⟩
    · have := ready_mono hj hji
      rw [H.1] at this
      cases this
  | succ fuel ih =>
    intro listed a w hfree hlc hr hy hS H
    refine ⟨fun h => (by rw [h] at hr; cases hr), fun j hj => ?_⟩
    by_cases hji : j = i
    · subst hji; exact hy.wpOp hi hS ⟨fun _ => hS, H⟩
    · have h1 := H.2 j (ready_mono hj hji)
      obtain ⟨hjun, oj, hoj, hall⟩ := mem_ready.1 hj
      have off : ∀ k, listed.getD k true = false → listed.getD k false = true → False := fun k h0 h1 => by
        rcases Nat.lt_or_ge k listed.size with h' | h'
        · simp [h'] at h0 h1; rw [h0] at h1; cases h1
        · simp [Array.getElem?_eq_none h'] at h1
      have hjC : j ∉ C := fun hc => by
        obtain ⟨e, he, hb, hon⟩ := hC j hc oj hoj
        have h1 := hall e he hb
        rcases hon with hon | hon
        · rw [hon] at h1; exact off i (mem_ready.1 hr).1 h1
        · exact off e.on (hlc _ hon) h1
      have hnot : ∀ e ∈ oj.after, Region.binds md e = true → e.on ≠ i := fun e he hb heq => by
        have h1 := hall e he hb
        rw [heq] at h1
        exact off i (mem_ready.1 hr).1 h1
      have hzs : ∀ (l : Array Bool), (∀ c ∈ C, l.getD c true = false) → ∀ k, k ∉ C → ∀ c ∈ C, (l.setIfInBounds k true).getD c true = false := fun l hl k hk c hc => by
        by_cases e : k = c
        · exact absurd (by rw [e]; exact hc) hk
        · rw [getD_set_ne true e]; exact hl c hc
      have h2 := wpOp_putIf hoj (hfree j oj hoj hji hjun hnot) (fun cs b => hsel i oi cs b hi) (fun cs b => hsel j oj cs b hoj) hQ hy h1
      have hfree' : ∀ k ok, ops[k]? = some ok → k ≠ i → (listed.setIfInBounds j true).getD k true = false →
          (∀ e ∈ ok.after, Region.binds md e = true → e.on ≠ i) → oi.apart ops ok = true := fun k ok hk hki hun hno => by
        refine hfree k ok hk hki ?_ hno
        by_cases hjk : j = k
        · subst hjk; exact hjun
        · rw [getD_set_ne true hjk] at hun; exact hun
      refine wpOp_mono (fun a' w' h3 => ?_) h2
      have hS' : S w' := h3.2.1 fun z hz => hzs _ (hzs _ hlc i hiC) j hjC z (hZ z hz)
      refine ⟨fun _ => hS', ih (listed.setIfInBounds j true) a' w' hfree' (hzs _ hlc j hjC) (ready_mono hr (Ne.symm hji)) h3.1 hS' ?_⟩
      rw [Array.setIfInBounds_comm _ _ hji]
      exact h3.2.2

/-- Every one of C waits for i, or for another one of C; none has come up. -/
def waitsL (md : Region.Mode) (ops : Array Oper) (listed : Array Bool) (C Z : List Nat) (i : Nat) : Bool :=
  Z.all (fun z => C.contains z) && !C.contains i && C.all fun c => !listed.getD c true && match ops[c]? with
    | some oc => oc.after.any fun e => Region.binds md e && (e.on == i || C.contains e.on)
    | none => true

theorem wpAnyL_take {i : Nat} {oi : Oper} {v : Value} {fuel : Nat} {listed : Array Bool} {a : Act} {w : World} (C : List Nat) (hi : ops[i]? = some oi)
    (hs : Region.noSelect ops = true) (hf : Region.free md ops listed i = true) (hr : (Region.ready md ops listed).contains i = true) (hc : waitsL md ops listed C Z i = true)
    (hQ : ∀ c a w, Q (.panic c) (a.put oi.dst v) w → Q (.panic c) a w) (hy : YieldsIf P ops S oi v a) (hS : S w)
    (h : wpAnyL P md ops Q S Z fuel (listed.setIfInBounds i true) (a.put oi.dst v) w) : wpAnyL P md ops Q S Z (fuel + 1) listed a w := by
  unfold waitsL at hc
  simp only [Bool.and_eq_true, List.all_eq_true, Bool.not_eq_true', List.contains_eq_mem, decide_eq_true_eq] at hc
  obtain ⟨⟨h1, h2⟩, h3⟩ := hc
  refine wpAnyL_first (C := C) hi (Region.noSelect_spec hs) hQ h1 (by simpa using h2) (fun c hc oc hoc => ?_) fuel listed a w (Region.free_spec hi hf) (fun c hc => (h3 c hc).1) (by simpa using hr) hy hS h
  have := (h3 c hc).2
  rw [hoc] at this
  simp only [Array.any_eq_true', Bool.and_eq_true, Bool.or_eq_true, beq_iff_eq, decide_eq_true_eq] at this
  exact this

theorem wpAnyL_all {rs : List Nat} {fuel : Nat} {listed : Array Bool} {a : Act} {w : World} (hr : Region.ready md ops listed = rs) (hne : rs ≠ [])
    (h : ∀ i ∈ rs, wpOp P ops Q i (fun a' w' => ((∀ z ∈ Z, (listed.setIfInBounds i true).getD z true = false) → S w') ∧ wpAnyL P md ops Q S Z fuel (listed.setIfInBounds i true) a' w') a w) : wpAnyL P md ops Q S Z (fuel + 1) listed a w :=
  ⟨fun h0 => absurd (hr ▸ h0) hne, hr ▸ h⟩

theorem wp_region_L {id : Nat} {a : Act} {w : World} (Z : List Nat) (hm : P.follows .mixedOrders = true)
    (h : wpAnyL P .any ops Q S Z ops.size (Array.replicate ops.size false) a { w with drawn := w.drawn + 1 }) : (Code.region id ops true).wp P Q a w :=
  wp_region_any hm (wpAny_of_L _ _ _ _ h)

/-- An operation that is wanted, and yields; what it comes to is found. -/
theorem onA (i : Nat) (C : List Nat) (d : Option Tmp) {fuel : Nat} {listed : Array Bool} {a a2 : Act} {w : World} {oi : Oper} {v : Value} (hi : ops[i]? = some oi) (hd : oi.dst = d)
    (h : wpAnyL P md ops Q S Z fuel (listed.setIfInBounds i true) a2 w) (hs : Region.noSelect ops = true := by kernel_rfl) (hf : Region.free md ops listed i = true := by kernel_rfl) (hr : (Region.ready md ops listed).contains i = true := by kernel_rfl) (hc : waitsL md ops listed C Z i = true := by kernel_rfl)
    (hw : Region.wanted oi (yielded ops a.tmps) = true := by rfl) (hS : S w := by assumption) (hy : ∀ w, S w → (execOp a.eval oi).run P w = .ok (.value v) w := by (intro w hSw; (try rw [hSS] at hSw); (try dsimp only at hSw); go_simp; try with_reducible rfl))
    (ha : a.put d v = a2 := by ((try simp only [Act.put, List.setIfInBounds_toArray, List.set_cons_zero, List.set_cons_succ]); exact rfl))
    (hQ : ∀ c a w, Q (.panic c) (a.put d v) w → Q (.panic c) a w := by exact fun _ _ _ h => h) : wpAnyL P md ops Q S Z (fuel + 1) listed a w := by
  subst hd ha
  exact wpAnyL_take C hi hs hf hr hc hQ (.inl ⟨hw, hy⟩) hS h
/-- What it comes to is written plainly. -/
theorem putA {fuel : Nat} {listed : Array Bool} {a a2 : Act} {w : World} (h : wpAnyL P md ops Q S Z fuel listed a2 w) (ha : a = a2 := by ((try simp only [Act.put, List.setIfInBounds_toArray, List.set_cons_zero, List.set_cons_succ]); exact rfl)) : wpAnyL P md ops Q S Z fuel listed a w := by
  subst ha
  exact h
/-- An operation that comes up alone, and does what it does. -/
theorem oneL (i : Nat) {fuel : Nat} {listed : Array Bool} {a : Act} {w : World} {oi : Oper} (hi : ops[i]? = some oi) (hr : Region.ready md ops listed = [i]) (hw : Region.wanted oi (yielded ops a.tmps) = true)
    (h : oi.wp P a w (fun a' w' => ((∀ z ∈ Z, (listed.setIfInBounds i true).getD z true = false) → S w') ∧ wpAnyL P md ops Q S Z fuel (listed.setIfInBounds i true) a' w') Q) : wpAnyL P md ops Q S Z (fuel + 1) listed a w := by
  refine wpAnyL_all hr (by simp) fun j hj => ?_
  simp only [List.mem_singleton] at hj
  subst hj
  unfold wpOp
  rw [hi]
  simp only [hw, if_true]
  exact .inl h
/-- A call of a function, alone in its turn. -/
theorem callL (i : Nat) (d : Option Tmp) {fuel : Nat} {listed : Array Bool} {a : Act} {w : World} {oi : Oper} {f : FuncId} {args : Array Value} {post : Ending → World → Prop} (hi : ops[i]? = some oi) (hd : oi.dst = d) (hr : Region.ready md ops listed = [i]) (hw : Region.wanted oi (yielded ops a.tmps) = true)
    (hop : (execOp a.eval oi).run P w = .ok (.enter f args) w) (hc : Calls P f args w post)
    (h : ∀ e w', post e w' → ∃ u, e = .returned u ∧ S w' ∧ wpAnyL P md ops Q S Z fuel (listed.setIfInBounds i true) (a.put d u) w') : wpAnyL P md ops Q S Z (fuel + 1) listed a w := by
  subst hd
  refine oneL i hi hr hw ?_
  unfold Oper.wp
  rw [hop]
  simp only [Oper.upon]
  refine hc.mono fun e w' he => ?_
  obtain ⟨u, rfl, h1, h2⟩ := h e w' he
  exact ⟨fun _ => h1, h2⟩
/-- The beginning, behind the draw. -/
theorem wp_region_L_drew {id : Nat} {a : Act} {w : World} (Z : List Nat) (hm : P.follows .mixedOrders = true) (hS : S w.drew)
    (h : S w.drew → wpAnyL P .any ops Q S Z ops.size (Array.replicate ops.size false) a w.drew) : (Code.region id ops true).wp P Q a w := wp_region_L Z hm (h hS)
/-- One of Z has come up. -/
theorem zL {listed : Array Bool} {w : World} (h : (Z.all fun z => !listed.getD z true) = false) : (∀ z ∈ Z, listed.getD z true = false) → S w := fun hz => by
  have : (Z.all fun z => !listed.getD z true) = true := List.all_eq_true.2 fun z hz' => by rw [hz z hz']; rfl
  rw [this] at h; cases h
/-- One that yields none. -/
theorem skipL (i : Nat) (d : Option Tmp) {fuel : Nat} {listed : Array Bool} {a : Act} {w w' : World} {oi : Oper} (hi : ops[i]? = some oi) (hd : oi.dst = d) (hr : Region.ready md ops listed = [i]) (hw : Region.wanted oi (yielded ops a.tmps) = true)
    (hop : (execOp a.eval oi).run P w = .ok .skip w') (hz : (∀ z ∈ Z, (listed.setIfInBounds i true).getD z true = false) → S w')
    (h : wpAnyL P md ops Q S Z fuel (listed.setIfInBounds i true) (a.put d undef) w') : wpAnyL P md ops Q S Z (fuel + 1) listed a w := by
  subst hd
  refine oneL i hi hr hw ?_
  unfold Oper.wp
  rw [hop]
  exact ⟨hz, h⟩
/-- All have come up. -/
theorem doneL {listed : Array Bool} {a : Act} {w : World} (hr : Region.ready md ops listed = []) (h : Q .normal a w) : ∀ fuel, wpAnyL P md ops Q S Z fuel listed a w
  | 0 => ⟨hr, h⟩
  | _ + 1 => ⟨fun _ => h, by rw [hr]; simp⟩
end
end Go.Proofs.YtmjdhfbnmmdjiaaDoor

/- Regions that draw: two operations that may come up, one by one. -/
namespace Go.Proofs.YtmjdhfbnmmdjiaaDoor
open Go Go.RowKit

section
variable {P : Program} {ops : Array Oper} {Q : Exit → Act → World → Prop} {md : Region.Mode} {S : World → Prop} {Z : List Nat}
end
end Go.Proofs.YtmjdhfbnmmdjiaaDoor

/- Operations of a region that draws, taken one by one, by hand. -/
namespace Go.Proofs.YtmjdhfbnmmdjiaaDoor

section
variable {P : Program} {ops : Array Oper} {Q : Exit → Act → World → Prop} {md : Region.Mode} {S : World → Prop} {fuel : Nat} {listed : Array Bool} {a : Act} {w : World}
end
end Go.Proofs.YtmjdhfbnmmdjiaaDoor
