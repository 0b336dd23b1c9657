/- Slices that the call itself makes: what they own, as lists; append. -/
import Derived.Test.YtblfeokjlecgkaaRight
import Derived.Maps.AppendAt
import Derived.Deep.AppendLies
namespace Go.Proofs.Ytblfeokjlecgkaa
open Go.RowKit

section
variable {α : Type} {enc : α → List Value} {size e base : Nat} {w w' : World} {A : Option Addr} {cap B : Nat} {l : List α}

/-- The slice (A, the list's length, cap) owns the list, in a row of its own from block base on. -/
def OwnL (e size : Nat) (enc : α → List Value) (w : World) (base : Nat) (A : Option Addr) (cap : Nat) (l : List α) : Prop :=
  w.ownsRow base e size (.slice A l.length cap) l.length (l.flatMap enc)

/-- A slice's address reads as a list, below block B. -/
def ReadL (size : Nat) (enc : α → List Value) (w : World) (B : Nat) (A : Option Addr) (l : List α) : Prop :=
  l ≠ [] → ∃ b o, A = some ⟨b, o, none⟩ ∧ b < B ∧ ∀ (i : Nat) (x : α), l[i]? = some x → ∀ (j : Nat) (u : Value), (enc x)[j]? = some u → w.cell? ⟨b, o + i * size + j, none⟩ = some u

theorem flatMap_at {size : Nat} {enc : α → List Value} (hk : ∀ x, (enc x).length = size) : ∀ {l : List α} {i : Nat} {x : α} {j : Nat} {u : Value}, l[i]? = some x → (enc x)[j]? = some u → (l.flatMap enc)[i * size + j]? = some u := by
  intro l
  induction l with
  | nil => intro i x j u h; simp at h
  | cons y l ih =>
    intro i x j u h hu
    rw [List.flatMap_cons]
    cases i with
    | zero =>
      simp only [List.getElem?_cons_zero, Option.some.injEq] at h
      subst h
      rw [Nat.zero_mul, Nat.zero_add, List.getElem?_append_left (getq_lt hu)]
      exact hu
    | succ i =>
      rw [List.getElem?_cons_succ] at h
      rw [List.getElem?_append_right (by rw [hk]; rw [Nat.succ_mul]; omega), hk, show (i + 1) * size + j - size = i * size + j by rw [Nat.succ_mul]; omega]
      exact ih h hu

theorem flatMap_len {size : Nat} {enc : α → List Value} (hk : ∀ x, (enc x).length = size) : ∀ (l : List α), (l.flatMap enc).length = l.length * size := by
  intro l
  induction l with
  | nil => simp
  | cons y l ih => rw [List.flatMap_cons, List.length_append, ih, hk, List.length_cons, Nat.succ_mul]; omega

theorem OwnL.nil : OwnL (α := α) e size enc w base none 0 [] := World.ownsRow_nil _ _ _ _

theorem OwnL.read (hk : ∀ x, (enc x).length = size) (h : OwnL e size enc w base A cap l) : ReadL size enc w w.heap.size A l := by
  intro hne
  rcases h.2 with ⟨hv, hn⟩ | ⟨g, cap', cur, hv, hbg, hg, hnc, hcm, hcs, htake⟩
  · exact absurd (List.eq_nil_of_length_eq_zero hn) hne
  · injection hv with hA _ _
    subst hA
    refine ⟨g, 0, rfl, lt_of_block hg, fun i x hx j u hu => ?_⟩
    have h1 := flatMap_at hk hx hu
    rw [← htake] at h1
    have h2 := getq_lt h1
    rw [List.length_take] at h2
    rw [List.getElem?_take_of_lt (by omega)] at h1
    simp only [World.cell?, hg, Nat.zero_add]
    simpa using h1

theorem OwnL.block (h : OwnL e size enc w base A cap l) : ∀ k, (Value.slice A l.length cap).ownBlock = some k → base ≤ k ∧ k < w.heap.size := World.ownsRow.lt h

theorem OwnL.kept {row : Option Nat} (h : OwnL e size enc w base A cap l) (hg : w.grownBy w' row) (hne : ∀ k, row = some k → ∀ a, A = some a → a.block ≠ k) : OwnL e size enc w' base A cap l :=
  World.ownsRow.kept h hg (by
    cases A with
    | none => exact .inl rfl
    | some a =>
      refine .inr ?_
      intro heq
      cases row with
      | none => simp [Value.ownBlock] at heq
      | some k => simp only [Value.ownBlock, Option.some.injEq] at heq; exact hne k rfl a rfl heq)

theorem OwnL.below {B : Nat} (h : OwnL e size enc w base A cap l) (hb : Below B w w') (hB : w.heap.size ≤ B) : OwnL e size enc w' base A cap l :=
  OwnL.kept (row := none) h ⟨hb.os, hb.tape, hb.output, hb.size, fun k hk _ => hb.block k (by omega)⟩ (by simp)

theorem OwnL.alloc (h : OwnL e size enc w base A cap l) (o : Obj) : OwnL e size enc (w.alloc o) base A cap l :=
  h.below (ext_alloc (Below.refl _ _) o) (Nat.le_refl _)

theorem OwnL.drewN (h : OwnL e size enc w base A cap l) (n : Nat) : OwnL e size enc (w.drewN n) base A cap l :=
  h.below (ext_drewN (Below.refl _ _) n) (Nat.le_refl _)

theorem ReadL.nil : ReadL (α := α) size enc w B A [] := fun h => absurd rfl h

theorem ReadL.keep (h : ReadL size enc w B A l) (hk : ∀ b off, b < B → w'.cell? ⟨b, off, none⟩ = w.cell? ⟨b, off, none⟩) : ReadL size enc w' B A l := fun hne => by
  obtain ⟨b, o, rfl, hb, hc⟩ := h hne
  exact ⟨b, o, rfl, hb, fun i x hx j u hu => (hk _ _ hb).trans (hc i x hx j u hu)⟩

theorem ReadL.below (h : ReadL size enc w B A l) (hb : Below B w w') : ReadL size enc w' B A l := h.keep fun b off hlt => hb.cell (p := ⟨b, off, none⟩) hlt

theorem ReadL.more {B' : Nat} (h : ReadL size enc w B A l) (hB : B ≤ B') : ReadL size enc w B' A l := fun hne => by
  obtain ⟨b, o, rfl, hb, hc⟩ := h hne
  exact ⟨b, o, rfl, by omega, hc⟩
end

theorem add_addr (b o j : Nat) : (Addr.mk b o none).add j = ⟨b, o + j, none⟩ := by
  unfold Addr.add
  split
  · next h => subst h; rfl
  · rfl

section
variable {α : Type} {P : Program} (w : World)

theorem run_app {size : Nat} {enc : α → List Value} (hk : ∀ x, (enc x).length = size) (h1 : ∀ x, ∀ u ∈ enc x, u.oneCell' = true)
    (base t ty e : Nat) (i : TypeInfo) (z : Value) (bytes : Nat) (ht : P.underlying t = some (.slice e)) (hi : P.info? e = some i) (hz : i.zero = some z)
    (hsize : i.size = size) (hby : i.bytes = bytes) (hzs : z.cells.size = size) (hsz : 0 < size)
    {A : Option Addr} {cap : Nat} {l : List α} (hown : OwnL e size enc w base A cap l) {B : Nat} {A2 : Option Addr} {c : Nat} {l2 : List α} (hr : ReadL size enc w B A2 l2)
    (h63 : l.length + l2.length ≤ maxLen) (hbytes : (l.length + l2.length) * bytes ≤ 140737488355328) (hbase : base ≤ w.heap.size) :
    ∃ A' cap' w', (Builtin.append_ #[t, t] ty #[.slice A l.length cap, .slice A2 l2.length c]).run P w = .ok (.slice A' (l.length + l2.length) cap') w' ∧ OwnL e size enc w' base A' cap' (l ++ l2) ∧
      w.grownBy w' ((Value.slice A l.length cap).ownBlock) ∧ ((Value.slice A' (l.length + l2.length) cap').ownBlock = (Value.slice A l.length cap).ownBlock ∨ (Value.slice A' (l.length + l2.length) cap').ownBlock = some w.heap.size) := by
  have hfl : (l ++ l2).flatMap enc = l.flatMap enc ++ l2.flatMap enc := by simp [List.flatMap_append]
  by_cases hne : l2 = []
  · subst hne
    refine ⟨A, cap, w, ?_, by unfold OwnL at hown ⊢; simpa using hown, World.grownBy.refl w _, .inl (by simp)⟩
    have hl0 : (([] : List α).length) = 0 := rfl
    simp only [List.length_nil, Nat.add_zero]
    rcases hown.2 with ⟨hv, hn⟩ | ⟨g, cap', cur, hv, hbg, hg, hnc, hcm, hcs, htake⟩
    · injection hv with hA hl hc
      subst hA hc
      rw [hn]
      cases A2 <;> simp [Builtin.append_, run_underlying ht, sizeOf, typeInfo, hi, Builtin.lenOf, Builtin.firstCells, loadCells, loadCellsFrom]
    · injection hv with hA hl hc
      subst hA hc
      cases A2 <;> simp [Builtin.append_, run_underlying ht, sizeOf, typeInfo, hi, Builtin.lenOf, Builtin.firstCells, hnc, storeCells, loadCells, loadCellsFrom]
  · obtain ⟨b, o, rfl, hb, hc⟩ := hr hne
    have hnews : ∀ (j : Nat) (u : Value), (l2.flatMap enc)[j]? = some u → w.cell? ((Addr.mk b o none).add j) = some u := by
      intro j u hu
      have hj := getq_lt hu
      rw [flatMap_len hk] at hj
      have hq : j / size < l2.length := Nat.div_lt_of_lt_mul (by rw [Nat.mul_comm]; exact hj)
      obtain ⟨x, hx⟩ := getq_ex hq
      have hm : j % size < (enc x).length := by rw [hk]; exact Nat.mod_lt _ hsz
      obtain ⟨u', hu'⟩ := getq_ex hm
      have e1 := flatMap_at hk hx hu'
      have e2 : j / size * size + j % size = j := by rw [Nat.mul_comm]; exact Nat.div_add_mod j size
      rw [e2, hu] at e1
      injection e1 with e1
      subst e1
      have := hc _ _ hx _ _ hu'
      rw [add_addr]
      rwa [show o + j / size * size + j % size = o + j by omega] at this
    have hall : ∀ u ∈ l2.flatMap enc, u.oneCell' = true := by
      intro u hu
      rw [List.mem_flatMap] at hu
      obtain ⟨x, _, hx⟩ := hu
      exact h1 x u hx
    obtain ⟨v', w', hrun, h2, h3, _, h5⟩ := run_append_own_at (P := P) w base t ty e i z size bytes ht hi hz hsize hby hzs hsz _ _ _ hown ⟨b, o, none⟩ l2.length c (l2.flatMap enc) (flatMap_len hk _) hnews hall h63 hbytes hbase
    have hform : ∃ A' cap', v' = .slice A' (l.length + l2.length) cap' := by
      rcases h2.2 with ⟨hv, hn⟩ | ⟨g, cap', cur, hv, _⟩
      · exact ⟨none, 0, by rw [hv, hn]⟩
      · exact ⟨_, _, hv⟩
    obtain ⟨A', cap', rfl⟩ := hform
    refine ⟨A', cap', w', hrun, ?_, h3, h5⟩
    unfold OwnL
    rw [hfl, List.length_append]
    exact h2

theorem wp_app {size : Nat} {enc : α → List Value} (hk : ∀ x, (enc x).length = size) (h1 : ∀ x, ∀ u ∈ enc x, u.oneCell' = true)
    {o : Oper} {a : Act} {K : Act → World → Prop} {Q : Exit → Act → World → Prop} (s x : Operand) (t : TypeId)
    (ho : o.op = .call { callee := .builtin .append, args := #[s, x], argTypes := #[t, t] })
    (base e : Nat) (i : TypeInfo) (z : Value) (bytes : Nat) (ht : P.underlying t = some (.slice e)) (hi : P.info? e = some i) (hz : i.zero = some z)
    (hsize : i.size = size) (hby : i.bytes = bytes) (hzs : z.cells.size = size) (hsz : 0 < size)
    {A : Option Addr} {cap : Nat} {l : List α} (hs : a.eval s = .slice A l.length cap) (hown : OwnL e size enc w base A cap l) {B : Nat} {A2 : Option Addr} {c : Nat} {l2 : List α} (hx : a.eval x = .slice A2 l2.length c) (hr : ReadL size enc w B A2 l2)
    (h63 : l.length + l2.length ≤ maxLen) (hbytes : (l.length + l2.length) * bytes ≤ 140737488355328) (hbase : base ≤ w.heap.size)
    (h : ∀ A' cap' w', OwnL e size enc w' base A' cap' (l ++ l2) → w.grownBy w' ((Value.slice A l.length cap).ownBlock) →
      ((Value.slice A' (l.length + l2.length) cap').ownBlock = (Value.slice A l.length cap).ownBlock ∨ (Value.slice A' (l.length + l2.length) cap').ownBlock = some w.heap.size) → K (a.put o.dst (.slice A' (l.length + l2.length) cap')) w') : o.wp P a w K Q := by
  obtain ⟨A', cap', w', hrun, h2, h3, h4⟩ := run_app (P := P) w hk h1 base t o.type e i z bytes ht hi hz hsize hby hzs hsz hown (c := c) hr h63 hbytes hbase
  unfold Oper.wp execOp
  simp only [ho, resolve, invoke, builtin, Sem.run_bind, Sem.run_pure, Result.andThen_ok, List.map_toArray, List.map_cons, List.map_nil, hs, hx, hrun]
  exact h A' cap' w' h2 h3 h4

theorem wpList_app {size : Nat} {enc : α → List Value} (hk : ∀ x, (enc x).length = size) (h1 : ∀ x, ∀ u ∈ enc x, u.oneCell' = true)
    {ops : Array Oper} {rest : List Oper} {o : Oper} {a : Act} {Q : Exit → Act → World → Prop} (hgd : o.guard = none) (s x : Operand) (t : TypeId)
    (ho : o.op = .call { callee := .builtin .append, args := #[s, x], argTypes := #[t, t] })
    (base e : Nat) (i : TypeInfo) (z : Value) (bytes : Nat) (ht : P.underlying t = some (.slice e)) (hi : P.info? e = some i) (hz : i.zero = some z)
    (hsize : i.size = size) (hby : i.bytes = bytes) (hzs : z.cells.size = size) (hsz : 0 < size)
    {A : Option Addr} {cap : Nat} {l : List α} (hs : a.eval s = .slice A l.length cap) (hown : OwnL e size enc w base A cap l) {B : Nat} {A2 : Option Addr} {c : Nat} {l2 : List α} (hx : a.eval x = .slice A2 l2.length c) (hr : ReadL size enc w B A2 l2)
    (h63 : l.length + l2.length ≤ maxLen) (hbytes : (l.length + l2.length) * bytes ≤ 140737488355328) (hbase : base ≤ w.heap.size)
    (h : ∀ A' cap' w', OwnL e size enc w' base A' cap' (l ++ l2) → w.grownBy w' ((Value.slice A l.length cap).ownBlock) →
      ((Value.slice A' (l.length + l2.length) cap').ownBlock = (Value.slice A l.length cap).ownBlock ∨ (Value.slice A' (l.length + l2.length) cap').ownBlock = some w.heap.size) → wpList P ops Q rest (a.put o.dst (.slice A' (l.length + l2.length) cap')) w') : wpList P ops Q (o :: rest) a w :=
  wpList_plain hgd fun _ hK => wp_app w hk h1 s x t ho base e i z bytes ht hi hz hsize hby hzs hsz hs hown hx hr h63 hbytes hbase fun A' cap' w' h2 h3 h4 => hK _ _ (h A' cap' w' h2 h3 h4)
end
end Go.Proofs.Ytblfeokjlecgkaa
