/- Laid together by a tool from the texts of this seat: KidsR. Conditions: each theorem's own. -/
import Derived.Test.YtmjdhfbnmmdjiaaGreatK01
import Derived.Maps.AppendAt
import Derived.Deep.AppendLies
/- Slices that the call itself makes: what they own, as lists; append. -/
namespace Go.Proofs.YtmjdhfbnmmdjiaaGreat
open Go.RowKit

section
variable {α : Type} {enc : α → List Value} {size e base : Nat} {w w' : World} {A : Option Addr} {cap B : Nat} {l : List α}

/-- The slice (A, the list's length, cap) owns the list, in a row of its own from block base on. -/
def OwnL (e size : Nat) (enc : α → List Value) (w : World) (base : Nat) (A : Option Addr) (cap : Nat) (l : List α) : Prop :=
  w.ownsRow base e size (.slice A l.length cap) l.length (l.flatMap enc)

/-- A slice's address reads as a list, below block B. -/
def ReadL (size : Nat) (enc : α → List Value) (w : World) (B : Nat) (A : Option Addr) (l : List α) : Prop :=
  l ≠ [] → ∃ b o, A = some ⟨b, o, none⟩ ∧ b < B ∧ ∀ (i : Nat) (x : α), l[i]? = some x → ∀ (j : Nat) (u : Value), (enc x)[j]? = some u → w.cell? ⟨b, o + i * size + j, none⟩ = some u

theorem flatMap_at {size : Nat} {enc : α → List Value} (hk : ∀ x, (enc x).length = size) : ∀ {l : List α} {i : Nat} {x : α} {j : Nat} {u : Value}, l[i]? = some x → (enc x)[j]? = some u → (l.flatMap enc)[i * size + j]? = some u := by
  intro l
  induction l with
  | nil => intro i x j u h; simp at h
  | cons y l ih =>
    intro i x j u h hu
    rw [List.flatMap_cons]
    cases i with
    | zero =>
      simp only [List.getElem?_cons_zero, Option.some.injEq] at h
      subst h
      rw [Nat.zero_mul, Nat.zero_add, List.getElem?_append_left (getq_lt hu)]
      exact hu
    | succ i =>
      rw [List.getElem?_cons_succ] at h
      rw [List.getElem?_append_right (by rw [hk]; rw [Nat.succ_mul]; omega), hk, show (i + 1) * size + j - size = i * size + j by rw [Nat.succ_mul]; omega]
      exact ih h hu

theorem flatMap_len {size : Nat} {enc : α → List Value} (hk : ∀ x, (enc x).length = size) : ∀ (l : List α), (l.flatMap enc).length = l.length * size := by
  intro l
  induction l with
  | nil => simp
  | cons y l ih => rw [List.flatMap_cons, List.length_append, ih, hk, List.length_cons, Nat.succ_mul]; omega

theorem OwnL.nil : OwnL (α := α) e size enc w base none 0 [] := World.ownsRow_nil _ _ _ _

theorem OwnL.read (hk : ∀ x, (enc x).length = size) (h : OwnL e size enc w base A cap l) : ReadL size enc w w.heap.size A l := by
  intro hne
  rcases h.2 with ⟨hv, hn⟩ | ⟨g, cap', cur, hv, hbg, hg, hnc, hcm, hcs, htake⟩
  · exact absurd (List.eq_nil_of_length_eq_zero hn) hne
  · injection hv with hA _ _
    subst hA
    refine ⟨g, 0, rfl, lt_of_block hg, fun i x hx j u hu => ?_⟩
    have h1 := flatMap_at hk hx hu
    rw [← htake] at h1
    have h2 := getq_lt h1
    rw [List.length_take] at h2
    rw [List.getElem?_take_of_lt (by omega)] at h1
    simp only [World.cell?, hg, Nat.zero_add]
    simpa using h1

theorem OwnL.block (h : OwnL e size enc w base A cap l) : ∀ k, (Value.slice A l.length cap).ownBlock = some k → base ≤ k ∧ k < w.heap.size := World.ownsRow.lt h

theorem OwnL.kept {row : Option Nat} (h : OwnL e size enc w base A cap l) (hg : w.grownBy w' row) (hne : ∀ k, row = some k → ∀ a, A = some a → a.block ≠ k) : OwnL e size enc w' base A cap l :=
  World.ownsRow.kept h hg (by
    cases A with
    | none => exact .inl rfl
    | some a =>
      refine .inr ?_
      intro heq
      cases row with
      | none => simp [Value.ownBlock] at heq
      | some k => simp only [Value.ownBlock, Option.some.injEq] at heq; exact hne k rfl a rfl heq)

theorem OwnL.below {B : Nat} (h : OwnL e size enc w base A cap l) (hb : Below B w w') (hB : w.heap.size ≤ B) : OwnL e size enc w' base A cap l :=
  OwnL.kept (row := none) h ⟨hb.os, hb.tape, hb.output, hb.size, fun k hk _ => hb.block k (by omega)⟩ (by simp)

theorem OwnL.alloc (h : OwnL e size enc w base A cap l) (o : Obj) : OwnL e size enc (w.alloc o) base A cap l :=
  h.below (ext_alloc (Below.refl _ _) o) (Nat.le_refl _)

theorem OwnL.drewN (h : OwnL e size enc w base A cap l) (n : Nat) : OwnL e size enc (w.drewN n) base A cap l :=
  h.below (ext_drewN (Below.refl _ _) n) (Nat.le_refl _)

theorem ReadL.nil : ReadL (α := α) size enc w B A [] := fun h => absurd rfl h

theorem ReadL.keep (h : ReadL size enc w B A l) (hk : ∀ b off, b < B → w'.cell? ⟨b, off, none⟩ = w.cell? ⟨b, off, none⟩) : ReadL size enc w' B A l := fun hne => by
  obtain ⟨b, o, rfl, hb, hc⟩ := h hne
  exact ⟨b, o, rfl, hb, fun i x hx j u hu => (hk _ _ hb).trans (hc i x hx j u hu)⟩

theorem ReadL.below (h : ReadL size enc w B A l) (hb : Below B w w') : ReadL size enc w' B A l := h.keep fun b off hlt => hb.cell (p := ⟨b, off, none⟩) hlt

theorem ReadL.more {B' : Nat} (h : ReadL size enc w B A l) (hB : B ≤ B') : ReadL size enc w B' A l := fun hne => by
  obtain ⟨b, o, rfl, hb, hc⟩ := h hne
  exact ⟨b, o, rfl, by omega, hc⟩
end

theorem add_addr (b o j : Nat) : (Addr.mk b o none).add j = ⟨b, o + j, none⟩ := by
  unfold Addr.add
  split
  · next h => subst h; rfl
  · rfl

section
variable {α : Type} {P : Program} (w : World)

theorem run_app {size : Nat} {enc : α → List Value} (hk : ∀ x, (enc x).length = size) (h1 : ∀ x, ∀ u ∈ enc x, u.oneCell' = true)
    (base t ty e : Nat) (i : TypeInfo) (z : Value) (bytes : Nat) (ht : P.underlying t = some (.slice e)) (hi : P.info? e = some i) (hz : i.zero = some z)
    (hsize : i.size = size) (hby : i.bytes = bytes) (hzs : z.cells.size = size) (hsz : 0 < size)
    {A : Option Addr} {cap : Nat} {l : List α} (hown : OwnL e size enc w base A cap l) {B : Nat} {A2 : Option Addr} {c : Nat} {l2 : List α} (hr : ReadL size enc w B A2 l2)
    (h63 : l.length + l2.length ≤ maxLen) (hbytes : (l.length + l2.length) * bytes ≤ 140737488355328) (hbase : base ≤ w.heap.size) :
    ∃ A' cap' w', (Builtin.append_ #[t, t] ty #[.slice A l.length cap, .slice A2 l2.length c]).run P w = .ok (.slice A' (l.length + l2.length) cap') w' ∧ OwnL e size enc w' base A' cap' (l ++ l2) ∧
      w.grownBy w' ((Value.slice A l.length cap).ownBlock) ∧ ((Value.slice A' (l.length + l2.length) cap').ownBlock = (Value.slice A l.length cap).ownBlock ∨ (Value.slice A' (l.length + l2.length) cap').ownBlock = some w.heap.size) := by
  have hfl : (l ++ l2).flatMap enc = l.flatMap enc ++ l2.flatMap enc := by simp [List.flatMap_append]
  by_cases hne : l2 = []
  · subst hne
    refine ⟨A, cap, w, ?_, by unfold OwnL at hown ⊢; simpa using hown, World.grownBy.refl w _, .inl (by simp)⟩
    have hl0 : (([] : List α).length) = 0 := rfl
    simp only [List.length_nil, Nat.add_zero]
    rcases hown.2 with ⟨hv, hn⟩ | ⟨g, cap', cur, hv, hbg, hg, hnc, hcm, hcs, htake⟩
    · injection hv with hA hl hc
      subst hA hc
      rw [hn]
      cases A2 <;> simp [Builtin.append_, run_underlying ht, sizeOf, typeInfo, hi, Builtin.lenOf, Builtin.firstCells, loadCells, loadCellsFrom]
    · injection hv with hA hl hc
      subst hA hc
      cases A2 <;> simp [Builtin.append_, run_underlying ht, sizeOf, typeInfo, hi, Builtin.lenOf, Builtin.firstCells, hnc, storeCells, loadCells, loadCellsFrom]
  · obtain ⟨b, o, rfl, hb, hc⟩ := hr hne
    have hnews : ∀ (j : Nat) (u : Value), (l2.flatMap enc)[j]? = some u → w.cell? ((Addr.mk b o none).add j) = some u := by
      intro j u hu
      have hj := getq_lt hu
      rw [flatMap_len hk] at hj
      have hq : j / size < l2.length := Nat.div_lt_of_lt_mul (by rw [Nat.mul_comm]; exact hj)
      obtain ⟨x, hx⟩ := getq_ex hq
      have hm : j % size < (enc x).length := by rw [hk]; exact Nat.mod_lt _ hsz
      obtain ⟨u', hu'⟩ := getq_ex hm
      have e1 := flatMap_at hk hx hu'
      have e2 : j / size * size + j % size = j := by rw [Nat.mul_comm]; exact Nat.div_add_mod j size
      rw [e2, hu] at e1
      injection e1 with e1
      subst e1
      have := hc _ _ hx _ _ hu'
      rw [add_addr]
      rwa [show o + j / size * size + j % size = o + j by omega] at this
    have hall : ∀ u ∈ l2.flatMap enc, u.oneCell' = true := by
      intro u hu
      rw [List.mem_flatMap] at hu
      obtain ⟨x, _, hx⟩ := hu
      exact h1 x u hx
    obtain ⟨v', w', hrun, h2, h3, _, h5⟩ := run_append_own_at (P := P) w base t ty e i z size bytes ht hi hz hsize hby hzs hsz _ _ _ hown ⟨b, o, none⟩ l2.length c (l2.flatMap enc) (flatMap_len hk _) hnews hall h63 hbytes hbase
    have hform : ∃ A' cap', v' = .slice A' (l.length + l2.length) cap' := by
      rcases h2.2 with ⟨hv, hn⟩ | ⟨g, cap', cur, hv, _⟩
      · exact ⟨none, 0, by rw [hv, hn]⟩
      · exact ⟨_, _, hv⟩
    obtain ⟨A', cap', rfl⟩ := hform
    refine ⟨A', cap', w', hrun, ?_, h3, h5⟩
    unfold OwnL
    rw [hfl, List.length_append]
    exact h2

theorem wp_app {size : Nat} {enc : α → List Value} (hk : ∀ x, (enc x).length = size) (h1 : ∀ x, ∀ u ∈ enc x, u.oneCell' = true)
    {o : Oper} {a : Act} {K : Act → World → Prop} {Q : Exit → Act → World → Prop} (s x : Operand) (t : TypeId)
    (ho : o.op = .call { callee := .builtin .append, args := #[s, x], argTypes := #[t, t] })
    (base e : Nat) (i : TypeInfo) (z : Value) (bytes : Nat) (ht : P.underlying t = some (.slice e)) (hi : P.info? e = some i) (hz : i.zero = some z)
    (hsize : i.size = size) (hby : i.bytes = bytes) (hzs : z.cells.size = size) (hsz : 0 < size)
    {A : Option Addr} {cap : Nat} {l : List α} (hs : a.eval s = .slice A l.length cap) (hown : OwnL e size enc w base A cap l) {B : Nat} {A2 : Option Addr} {c : Nat} {l2 : List α} (hx : a.eval x = .slice A2 l2.length c) (hr : ReadL size enc w B A2 l2)
    (h63 : l.length + l2.length ≤ maxLen) (hbytes : (l.length + l2.length) * bytes ≤ 140737488355328) (hbase : base ≤ w.heap.size)
    (h : ∀ A' cap' w', OwnL e size enc w' base A' cap' (l ++ l2) → w.grownBy w' ((Value.slice A l.length cap).ownBlock) →
      ((Value.slice A' (l.length + l2.length) cap').ownBlock = (Value.slice A l.length cap).ownBlock ∨ (Value.slice A' (l.length + l2.length) cap').ownBlock = some w.heap.size) → K (a.put o.dst (.slice A' (l.length + l2.length) cap')) w') : o.wp P a w K Q := by
  obtain ⟨A', cap', w', hrun, h2, h3, h4⟩ := run_app (P := P) w hk h1 base t o.type e i z bytes ht hi hz hsize hby hzs hsz hown (c := c) hr h63 hbytes hbase
  unfold Oper.wp execOp
  simp only [ho, resolve, invoke, builtin, Sem.run_bind, Sem.run_pure, Result.andThen_ok, List.map_toArray, List.map_cons, List.map_nil, hs, hx, hrun]
  exact h A' cap' w' h2 h3 h4

theorem wpList_app {size : Nat} {enc : α → List Value} (hk : ∀ x, (enc x).length = size) (h1 : ∀ x, ∀ u ∈ enc x, u.oneCell' = true)
    {ops : Array Oper} {rest : List Oper} {o : Oper} {a : Act} {Q : Exit → Act → World → Prop} (hgd : o.guard = none) (s x : Operand) (t : TypeId)
    (ho : o.op = .call { callee := .builtin .append, args := #[s, x], argTypes := #[t, t] })
    (base e : Nat) (i : TypeInfo) (z : Value) (bytes : Nat) (ht : P.underlying t = some (.slice e)) (hi : P.info? e = some i) (hz : i.zero = some z)
    (hsize : i.size = size) (hby : i.bytes = bytes) (hzs : z.cells.size = size) (hsz : 0 < size)
    {A : Option Addr} {cap : Nat} {l : List α} (hs : a.eval s = .slice A l.length cap) (hown : OwnL e size enc w base A cap l) {B : Nat} {A2 : Option Addr} {c : Nat} {l2 : List α} (hx : a.eval x = .slice A2 l2.length c) (hr : ReadL size enc w B A2 l2)
    (h63 : l.length + l2.length ≤ maxLen) (hbytes : (l.length + l2.length) * bytes ≤ 140737488355328) (hbase : base ≤ w.heap.size)
    (h : ∀ A' cap' w', OwnL e size enc w' base A' cap' (l ++ l2) → w.grownBy w' ((Value.slice A l.length cap).ownBlock) →
      ((Value.slice A' (l.length + l2.length) cap').ownBlock = (Value.slice A l.length cap).ownBlock ∨ (Value.slice A' (l.length + l2.length) cap').ownBlock = some w.heap.size) → wpList P ops Q rest (a.put o.dst (.slice A' (l.length + l2.length) cap')) w') : wpList P ops Q (o :: rest) a w :=
  wpList_plain hgd fun _ hK => wp_app w hk h1 s x t ho base e i z bytes ht hi hz hsize hby hzs hsz hs hown hx hr h63 hbytes hbase fun A' cap' w' h2 h3 h4 => hK _ _ (h A' cap' w' h2 h3 h4)
end
end Go.Proofs.YtmjdhfbnmmdjiaaGreat

/- Appends onto rows of ints and of nodes, in this translation's numbers. -/
namespace Go.Proofs.YtmjdhfbnmmdjiaaGreat
open Go.RowKit

def encI (n : Int) : List Value := [.int .i64 n]
def encN (x : Nd) : List Value := [.int .i64 x.k, .string x.s, .int .i64 x.n]
/-- A slice as an element. -/
def encS (v : Option Addr × Nat × Nat) : List Value := [.slice v.1 v.2.1 v.2.2]

theorem encI_len (n : Int) : (encI n).length = 1 := rfl
theorem encN_len (x : Nd) : (encN x).length = 3 := rfl
theorem encS_len (v : Option Addr × Nat × Nat) : (encS v).length = 1 := rfl
theorem encI_one (n : Int) : ∀ u ∈ encI n, u.oneCell' = true := by simp [encI, Value.oneCell']
theorem encN_one (x : Nd) : ∀ u ∈ encN x, u.oneCell' = true := by simp [encN, Value.oneCell']
theorem encS_one (v : Option Addr × Nat × Nat) : ∀ u ∈ encS v, u.oneCell' = true := by simp [encS, Value.oneCell']

theorem infoI : (Tryz.prog.info? 3).map (fun i => (i.zero, i.size, i.bytes)) = some (some (.int .i64 0), 1, 8) := by kernel_rfl
theorem infoN : (Tryz.prog.info? 49).map (fun i => (i.zero, i.size, i.bytes)) = some (some (.agg #[.int .i64 0, .string ByteArray.empty, .int .i64 0]), 3, 32) := by kernel_rfl
theorem infoT : (Tryz.prog.info? 28).map (fun i => (i.zero, i.size, i.bytes)) = some (some (.slice none 0 0), 1, 24) := by kernel_rfl

abbrev OwnI (w : World) (base : Nat) (A : Option Addr) (cap : Nat) (l : List Int) : Prop := OwnL 3 1 encI w base A cap l
abbrev ReadI (w : World) (B : Nat) (A : Option Addr) (l : List Int) : Prop := ReadL 1 encI w B A l
abbrev OwnN (w : World) (base : Nat) (A : Option Addr) (cap : Nat) (l : List Nd) : Prop := OwnL 49 3 encN w base A cap l
abbrev OwnS (w : World) (base : Nat) (A : Option Addr) (cap : Nat) (l : List (Option Addr × Nat × Nat)) : Prop := OwnL 28 1 encS w base A cap l
abbrev ReadS (w : World) (B : Nat) (A : Option Addr) (l : List (Option Addr × Nat × Nat)) : Prop := ReadL 1 encS w B A l

theorem TyA.readL {w : World} {B : Nat} {A : Option Addr} {xs : List Nd} (h : TyA w B A xs) : ReadL 3 encN w B A xs := fun hne => by
  obtain ⟨b, o, rfl, hb, hr⟩ := h hne
  refine ⟨b, o, rfl, hb, fun i x hx j u hu => ?_⟩
  match j, hu with
  | 0, hu => simp [encN] at hu; subst hu; exact hr.c0 i x hx
  | 1, hu => simp [encN] at hu; subst hu; exact hr.c1 i x hx
  | 2, hu => simp [encN] at hu; subst hu; exact hr.c2 i x hx
  | j + 3, hu => simp [encN] at hu

theorem ReadL.tyA {w : World} {B : Nat} {A : Option Addr} {xs : List Nd} (h : ReadL 3 encN w B A xs) : TyA w B A xs := fun hne => by
  obtain ⟨b, o, rfl, hb, hc⟩ := h hne
  exact ⟨b, o, rfl, hb, ⟨fun i x hx => hc i x hx 0 _ rfl, fun i x hx => hc i x hx 1 _ rfl, fun i x hx => hc i x hx 2 _ rfl⟩⟩

theorem OwnL.tyA {w : World} {base : Nat} {A : Option Addr} {cap : Nat} {xs : List Nd} (h : OwnN w base A cap xs) : TyA w w.heap.size A xs := ReadL.tyA (OwnL.read encN_len h)

/-- The int at a place below the length. -/
theorem ReadL.int {w : World} {B : Nat} {A : Option Addr} {l : List Int} (h : ReadI w B A l) {i : Nat} {n : Int} (hn : l[i]? = some n) :
    ∃ b o, A = some ⟨b, o, none⟩ ∧ b < B ∧ w.cell? ⟨b, o + i, none⟩ = some (.int .i64 n) := by
  obtain ⟨b, o, rfl, hb, hc⟩ := h (by rintro rfl; simp at hn)
  have := hc i n hn 0 _ rfl
  rw [Nat.mul_one, Nat.add_zero] at this
  exact ⟨b, o, rfl, hb, this⟩

/-- The slice at a place below the length. -/
theorem ReadL.slice {w : World} {B : Nat} {A : Option Addr} {l : List (Option Addr × Nat × Nat)} (h : ReadS w B A l) {i : Nat} {v : Option Addr × Nat × Nat} (hn : l[i]? = some v) :
    ∃ b o, A = some ⟨b, o, none⟩ ∧ b < B ∧ w.cell? ⟨b, o + i, none⟩ = some (.slice v.1 v.2.1 v.2.2) := by
  obtain ⟨b, o, rfl, hb, hc⟩ := h (by rintro rfl; simp at hn)
  have := hc i v hn 0 _ rfl
  rw [Nat.mul_one, Nat.add_zero] at this
  exact ⟨b, o, rfl, hb, this⟩

theorem readI_new (w : World) (n : Int) : ReadI (w.alloc (.cells #[.int .i64 n] 3)) (w.heap.size + 1) (some ⟨w.heap.size, 0, none⟩) [n] := fun _ => by
  refine ⟨w.heap.size, 0, rfl, by omega, fun i x hx j u hu => ?_⟩
  match i, hx with
  | 0, hx =>
    simp at hx
    subst hx
    match j, hu with
    | 0, hu => simp [encI] at hu; subst hu; simp
    | j + 1, hu => simp [encI] at hu
  | i + 1, hx => simp at hx

theorem readS_new (w : World) (v : Option Addr × Nat × Nat) : ReadS (w.alloc (.cells #[.slice v.1 v.2.1 v.2.2] 28)) (w.heap.size + 1) (some ⟨w.heap.size, 0, none⟩) [v] := fun _ => by
  refine ⟨w.heap.size, 0, rfl, by omega, fun i x hx j u hu => ?_⟩
  match i, hx with
  | 0, hx =>
    simp at hx
    subst hx
    match j, hu with
    | 0, hu => simp [encS] at hu; subst hu; simp
    | j + 1, hu => simp [encS] at hu
  | i + 1, hx => simp at hx

/-- A literal without elements. -/
theorem own_empty {α : Type} (e size : Nat) (enc : α → List Value) (w : World) : OwnL e size enc (w.alloc (.cells #[] e)) w.heap.size (some ⟨w.heap.size, 0, none⟩) 0 ([] : List α) :=
  World.ownsRow_made w #[] 0 (Nat.le_refl _) (by simp [maxLen]) (by simp)

theorem ownBlock_of {A : Option Addr} {n c : Nat} {k : Nat} (h : (Value.slice A n c).ownBlock = some k) : ∃ a, A = some a ∧ a.block = k := by
  cases A with
  | none => simp [Value.ownBlock] at h
  | some a => exact ⟨a, rfl, by simpa [Value.ownBlock] using h⟩

/-- What an append leaves of what was there when the call began. -/
theorem ext_app {w W w1 : World} {A : Option Addr} {n c : Nat} (h : Below w.heap.size w W) (hg : W.grownBy w1 ((Value.slice A n c).ownBlock)) (hA : ∀ k, (Value.slice A n c).ownBlock = some k → w.heap.size ≤ k) : Below w.heap.size w w1 :=
  h.grown hg h.size fun k hk => hA k hk

section
variable {w : World} {ops : Array Oper} {rest : List Oper} {o : Oper} {a : Act} {Q : Exit → Act → World → Prop}

theorem wpList_appI (hgd : o.guard = none) (s x : Operand)
    (ho : o.op = .call { callee := .builtin .append, args := #[s, x], argTypes := #[50, 50] })
    (base : Nat) {A : Option Addr} {cap : Nat} {l : List Int} (hs : a.eval s = .slice A l.length cap) (hown : OwnI w base A cap l) {B : Nat} {A2 : Option Addr} {c : Nat} {l2 : List Int} (hx : a.eval x = .slice A2 l2.length c) (hr : ReadI w B A2 l2)
    (hlen : l.length + l2.length ≤ 10000000) (hbase : base ≤ w.heap.size)
    (h : ∀ A' cap' w', OwnI w' base A' cap' (l ++ l2) → w.grownBy w' ((Value.slice A l.length cap).ownBlock) →
      ((Value.slice A' (l.length + l2.length) cap').ownBlock = (Value.slice A l.length cap).ownBlock ∨ (Value.slice A' (l.length + l2.length) cap').ownBlock = some w.heap.size) → wpList Tryz.prog ops Q rest (a.put o.dst (.slice A' (l.length + l2.length) cap')) w') : wpList Tryz.prog ops Q (o :: rest) a w := by
  obtain ⟨i0, hi, hz0, hz1, hz2⟩ := info_parts infoI
  exact wpList_app w encI_len encI_one hgd s x 50 ho base 3 i0 _ 8 Tryz.underlying50 hi hz0 hz1 hz2 rfl (by decide) hs hown hx hr (by unfold maxLen; omega) (by omega) hbase h

theorem wpList_appN (hgd : o.guard = none) (s x : Operand)
    (ho : o.op = .call { callee := .builtin .append, args := #[s, x], argTypes := #[28, 28] })
    (base : Nat) {A : Option Addr} {cap : Nat} {l : List Nd} (hs : a.eval s = .slice A l.length cap) (hown : OwnN w base A cap l) {B : Nat} {A2 : Option Addr} {c : Nat} {l2 : List Nd} (hx : a.eval x = .slice A2 l2.length c) (hr : TyA w B A2 l2)
    (hlen : l.length + l2.length ≤ 1000000000000) (hbase : base ≤ w.heap.size)
    (h : ∀ A' cap' w', OwnN w' base A' cap' (l ++ l2) → w.grownBy w' ((Value.slice A l.length cap).ownBlock) →
      ((Value.slice A' (l.length + l2.length) cap').ownBlock = (Value.slice A l.length cap).ownBlock ∨ (Value.slice A' (l.length + l2.length) cap').ownBlock = some w.heap.size) → wpList Tryz.prog ops Q rest (a.put o.dst (.slice A' (l.length + l2.length) cap')) w') : wpList Tryz.prog ops Q (o :: rest) a w := by
  obtain ⟨i0, hi, hz0, hz1, hz2⟩ := info_parts infoN
  exact wpList_app w encN_len encN_one hgd s x 28 ho base 49 i0 _ 32 Tryz.underlying28 hi hz0 hz1 hz2 rfl (by decide) hs hown hx hr.readL (by unfold maxLen; omega) (by omega) hbase h

theorem wpList_appS (hgd : o.guard = none) (s x : Operand)
    (ho : o.op = .call { callee := .builtin .append, args := #[s, x], argTypes := #[71, 71] })
    (base : Nat) {A : Option Addr} {cap : Nat} {l : List (Option Addr × Nat × Nat)} (hs : a.eval s = .slice A l.length cap) (hown : OwnS w base A cap l) {B : Nat} {A2 : Option Addr} {c : Nat} {l2 : List (Option Addr × Nat × Nat)} (hx : a.eval x = .slice A2 l2.length c) (hr : ReadS w B A2 l2)
    (hlen : l.length + l2.length ≤ 10000000) (hbase : base ≤ w.heap.size)
    (h : ∀ A' cap' w', OwnS w' base A' cap' (l ++ l2) → w.grownBy w' ((Value.slice A l.length cap).ownBlock) →
      ((Value.slice A' (l.length + l2.length) cap').ownBlock = (Value.slice A l.length cap).ownBlock ∨ (Value.slice A' (l.length + l2.length) cap').ownBlock = some w.heap.size) → wpList Tryz.prog ops Q rest (a.put o.dst (.slice A' (l.length + l2.length) cap')) w') : wpList Tryz.prog ops Q (o :: rest) a w := by
  obtain ⟨i0, hi, hz0, hz1, hz2⟩ := info_parts infoT
  exact wpList_app w encS_len encS_one hgd s x 71 ho base 28 i0 _ 24 Tryz.underlying71 hi hz0 hz1 hz2 rfl (by decide) hs hown hx hr (by unfold maxLen; omega) (by omega) hbase h
end
end Go.Proofs.YtmjdhfbnmmdjiaaGreat

/- The document's End: pure and walked. -/
namespace Go.Proofs.YtmjdhfbnmmdjiaaGreat
open Go.RowKit

/-- As many trees as are open are gone over: where that ends. -/
def endGo : List Nd → Int → Nat → Nat
  | [], _, p => p
  | x :: xs, op, p => if op - 1 + many x.k x.n = 0 then p + 1 else endGo xs (op - 1 + many x.k x.n) (p + 1)

/-- Where the node at a place ends. -/
def endR (xs : List Nd) (i : Int) : Int := if i < 0 ∨ (xs.length : Int) ≤ i then -1 else (endGo (xs.drop i.toNat) 1 i.toNat : Nat)

def okAll (xs : List Nd) : Prop := ∀ x ∈ xs, okNode x.k x.n = true

theorem mem_of_getq {α : Type} {l : List α} {i : Nat} {x : α} (h : l[i]? = some x) : x ∈ l := List.mem_of_getElem? h

theorem many_bound {k n : Int} (h : okNode k n = true) : 0 ≤ many k n ∧ many k n ≤ 50 := by
  unfold many
  split
  · omega
  · split
    · rename_i h6
      rw [okNode_row h6] at h
      obtain ⟨h1, h2⟩ := of_decide_eq_true h
      split at h1 <;> omega
    · omega

theorem endGo_step {xs : List Nd} {k : Nat} {x : Nd} (hx : xs[k]? = some x) (op : Int) (p : Nat) :
    endGo (xs.drop k) op p = if op - 1 + many x.k x.n = 0 then p + 1 else endGo (xs.drop (k + 1)) (op - 1 + many x.k x.n) (p + 1) := by
  rw [drop_cons hx]
  rfl

theorem endGo_le : ∀ (xs : List Nd) (op : Int) (p : Nat), endGo xs op p ≤ p + xs.length := by
  intro xs
  induction xs with
  | nil => intro op p; simp [endGo]
  | cons x xs ih =>
    intro op p
    simp only [endGo, List.length_cons]
    split
    · omega
    · have := ih (op - 1 + many x.k x.n) (p + 1)
      omega

set_option maxRecDepth 100000 in
set_option maxHeartbeats 1000000 in
theorem rEndW_any (A : Option Addr) (c : Nat) (xs : List Nd) (i : Int) (w : World) (ha : TyA w w.heap.size A xs) (hl : xs.length ≤ 100000000000) (hok : okAll xs) :
    Calls Tryz.prog 48 #[.slice A xs.length c, .int .i64 i] w fun e w' => e = .returned (.int .i64 (endR xs i)) ∧ Below w.heap.size w w' := by
  have Hok := Lib.hid hok
  clear hok
  by_cases h0 : i < 0
  · have hfin := Lib.hid (show endR xs i = -1 by unfold endR; rw [if_pos (.inl h0)])
    go_enter Tryz.func48, Tryz.ntmps48
    go_wp2_with fail
    go_ret
    exact ⟨ret_int (by rw [hfin.out]), Below.refl _ _⟩
  by_cases h1 : (xs.length : Int) ≤ i
  · have hfin := Lib.hid (show endR xs i = -1 by unfold endR; rw [if_pos (.inr h1)])
    go_enter Tryz.func48, Tryz.ntmps48
    go_wp2_with fail
    go_ret
    exact ⟨ret_int (by rw [hfin.out]), Below.refl _ _⟩
  obtain ⟨n, rfl⟩ := Int.eq_ofNat_of_zero_le (Int.not_lt.1 h0)
  have hn : n < xs.length := by omega
  have hfin := Lib.hid (show endR xs (n : Int) = ((endGo (xs.drop n) 1 n : Nat) : Int) by unfold endR; rw [if_neg (by omega)]; simp)
  have h0' : (0 : Int) ≤ (n : Int) := by omega
  have h1' : (n : Int) < (xs.length : Int) := by omega
  have hd0 : decide ((n : Int) < 0) = false := by simp
  have hd1 : decide (xs.length ≤ n) = false := by simp; omega
  clear h0 h1
  go_enter Tryz.func48, Tryz.ntmps48
  go_wp2_with fail
  go_loopw [5, 6] (fun o5 i6 w' => ∃ (k : Nat) (op : Int), o5 = .int .i64 op ∧ i6 = .int .i64 k ∧ n ≤ k ∧ k ≤ xs.length ∧ 1 ≤ op ∧ op ≤ 1 + 50 * ((k : Int) - n) ∧ Below w.heap.size w w' ∧ Hid (endGo (xs.drop k) op k = endGo (xs.drop n) 1 n))
    (fun _ i6 _ => xs.length - (intOf i6).toNat)
  case atStart => exact ⟨n, 1, rfl, rfl, Nat.le_refl _, by omega, by omega, by omega, Below.refl _ _, Lib.hid rfl⟩
  case round =>
    obtain ⟨k, op, rfl, rfl, hnk, hk, hop0, hop1, hbel, hgood⟩ := hrel
    by_cases hp : k < xs.length
    · obtain ⟨x, hx⟩ := getq_ex hp
      have hstep := Lib.hid (endGo_step hx op k)
      have hmb := many_bound (Hok.out x (mem_of_getq hx))
      obtain ⟨m0, m1⟩ := hmb
      obtain ⟨b1, o1, rfl, hb1, c10, c11, c12⟩ := ((ha.below hbel).more hbel.size).at_ hx
      clear hx
      by_cases hz : op - 1 + many x.k x.n = 0
      · have hzb : (op - 1 + many x.k x.n == 0) = true := by simpa using hz
        have Hz := Lib.hid hz
        clear hz
        go_wp2_with (go_at_call 78; refine (rmany_any _ _ _ _).mono ?_; rintro e w1 ⟨rfl, hbx⟩)
        go_ret
        exact ⟨ret_int (by rw [hfin.out, ← hgood.out, hstep.out, if_pos Hz.out]; omega), ext_trans hbel hbx⟩
      · have hzb : (op - 1 + many x.k x.n == 0) = false := by simpa using hz
        have Hz := Lib.hid hz
        have hz2 : 1 ≤ op - 1 + many x.k x.n := by omega
        clear hz
        go_wp2_with (go_at_call 78; refine (rmany_any _ _ _ _).mono ?_; rintro e w1 ⟨rfl, hbx⟩)
        go_roundw
        case rel => exact ⟨k + 1, op - 1 + many x.k x.n, rfl, by go_num, by omega, hp, hz2, by omega, ext_trans hbel hbx, Lib.hid (by rw [← hgood.out, hstep.out, if_neg Hz.out])⟩
        case measure => simp [intOf]; omega
    · have hend := Lib.hid (show endGo (xs.drop k) op k = xs.length by rw [List.drop_of_length_le (by omega)]; simp [endGo]; omega)
      go_wp2_with fail
      go_ret
      exact ⟨ret_int (by rw [hfin.out, ← hgood.out, hend.out]), hbel⟩
theorem rEnd_any (A : Option Addr) (c : Nat) (xs : List Nd) (i : Int) (w : World) (ha : TyA w w.heap.size A xs) (hl : xs.length ≤ 1000000) (hok : okAll xs) :
    Calls Tryz.prog 48 #[.slice A xs.length c, .int .i64 i] w fun e w' => e = .returned (.int .i64 (endR xs i)) ∧ Below w.heap.size w w' :=
  rEndW_any A c xs i w ha (by omega) hok
end Go.Proofs.YtmjdhfbnmmdjiaaGreat

/- The document's Kids: pure and walked. -/
namespace Go.Proofs.YtmjdhfbnmmdjiaaGreat
open Go.RowKit

def kidsGo (xs : List Nd) : Nat → Nat → List Nat
  | 0, _ => []
  | todo + 1, at_ => if at_ < xs.length then at_ :: kidsGo xs todo (endGo (xs.drop at_) 1 at_) else []

def asI (l : List Nat) : List Int := l.map fun (n : Nat) => (n : Int)

theorem asI_append (a b : List Nat) : asI (a ++ b) = asI a ++ asI b := List.map_append

/-- The children of the node at a place. -/
def kidsR (xs : List Nd) (i : Int) : List Nat :=
  if i < 0 then [] else match xs[i.toNat]? with
    | none => []
    | some x => kidsGo xs (many x.k x.n).toNat (i.toNat + 1)

theorem endR_nat {xs : List Nd} {n : Nat} (h : n < xs.length) : endR xs (n : Int) = ((endGo (xs.drop n) 1 n : Nat) : Int) := by
  unfold endR
  rw [if_neg (by omega)]
  simp

theorem kidsGo_step {xs : List Nd} {d at_ : Nat} (h : at_ < xs.length) : kidsGo xs (d + 1) at_ = at_ :: kidsGo xs d (endGo (xs.drop at_) 1 at_) := by
  simp only [kidsGo, if_pos h]

theorem kidsGo_out {xs : List Nd} {d at_ : Nat} (h : ¬ at_ < xs.length) : kidsGo xs d at_ = [] := by
  cases d with
  | zero => rfl
  | succ d => simp only [kidsGo, if_neg h]

set_option maxRecDepth 100000 in
set_option maxHeartbeats 2000000 in
theorem rKidsW_any (A : Option Addr) (c : Nat) (xs : List Nd) (i : Int) (w : World) (ha : TyA w w.heap.size A xs) (hl : xs.length ≤ 100000000000) (hok : okAll xs) :
    Calls Tryz.prog 55 #[.slice A xs.length c, .int .i64 i] w fun e w' =>
      ∃ A' cap', e = .returned (.slice A' (asI (kidsR xs i)).length cap') ∧ OwnI w' w.heap.size A' cap' (asI (kidsR xs i)) ∧ Below w.heap.size w w' := by
  have Hok := Lib.hid hok
  clear hok
  have hown0 := own_empty 3 1 encI w
  have hb0 := ext_alloc (Below.refl w.heap.size w) (.cells #[] 3)
  by_cases h0 : i < 0
  · have hfin := Lib.hid (show kidsR xs i = [] by unfold kidsR; rw [if_pos h0])
    go_enter Tryz.func55, Tryz.ntmps55
    go_wp2_with fail
    go_ret
    exact ⟨_, _, by rw [hfin.out]; rfl, by rw [hfin.out]; exact hown0, hb0⟩
  by_cases h1 : (xs.length : Int) ≤ i
  · have hfin := Lib.hid (show kidsR xs i = [] by unfold kidsR; rw [if_neg h0, List.getElem?_eq_none (by omega)])
    go_enter Tryz.func55, Tryz.ntmps55
    go_wp2_with fail
    go_ret
    exact ⟨_, _, by rw [hfin.out]; rfl, by rw [hfin.out]; exact hown0, hb0⟩
  obtain ⟨n, rfl⟩ := Int.eq_ofNat_of_zero_le (Int.not_lt.1 h0)
  have hn : n < xs.length := by omega
  obtain ⟨x, hx⟩ := getq_ex hn
  obtain ⟨M, hM, hM50, _⟩ := many_nat (Hok.out x (mem_of_getq hx))
  have hfin := Lib.hid (show kidsR xs (n : Int) = kidsGo xs M (n + 1) by unfold kidsR; rw [if_neg (by omega)]; simp [hx, hM])
  have h0' : (0 : Int) ≤ (n : Int) := by omega
  have h1' : (n : Int) < (xs.length : Int) := by omega
  have hd0 : decide ((n : Int) < 0) = false := by simp
  have hd1 : decide (xs.length ≤ n) = false := by simp; omega
  have HM := Lib.hid hM
  have Hx := Lib.hid hx
  clear h0 h1 hM hx
  go_enter Tryz.func55, Tryz.ntmps55
  go_wp2_with fail
  go_loopw [5, 6, 7] (fun o5 i6 k7 wr => ∃ (k at_ : Nat) (A' : Option Addr) (cap' : Nat) (l : List Int), o5 = .slice A' l.length cap' ∧ i6 = .int .i64 at_ ∧ k7 = .int .i64 k ∧ k ≤ M ∧ at_ ≤ xs.length ∧ l.length ≤ k ∧
      OwnI wr w.heap.size A' cap' l ∧ Below w.heap.size w wr ∧ Hid (l ++ asI (kidsGo xs (M - k) at_) = asI (kidsGo xs M (n + 1))))
    (fun _ _ k7 _ => M - (intOf k7).toNat)
  case atStart => exact ⟨0, n + 1, _, _, [], rfl, rfl, rfl, Nat.zero_le _, hn, Nat.le_refl _, hown0, hb0, Lib.hid rfl⟩
  case round =>
    obtain ⟨k, at_, A', cap', l, rfl, rfl, rfl, hkM, hatl, hlk, hown, hbel, hgood⟩ := hrel
    obtain ⟨b1, o1, rfl, hb1, c10, c11, c12⟩ := ((ha.below hbel).more hbel.size).at_ Hx.out
    by_cases hlt : k < M
    · by_cases hp : at_ < xs.length
      · obtain ⟨d, hd'⟩ : ∃ d, M - k = d + 1 := ⟨M - k - 1, by omega⟩
        have hgood2 : Hid ((l ++ [(at_ : Int)]) ++ asI (kidsGo xs d (endGo (xs.drop at_) 1 at_)) = asI (kidsGo xs M (n + 1))) := Lib.hid (by
          rw [← hgood.out, hd', kidsGo_step hp]; simp [asI])
        have Hd' := Lib.hid hd'
        have hle := endGo_le (xs.drop at_) 1 at_
        rw [List.length_drop] at hle
        have hend := Lib.hid (endR_nat hp)
        clear hd' hgood
        go_wp2_with fail
        refine (rmany_any _ _ _ _).mono ?_
        rintro e w1 ⟨rfl, hbx⟩
        rw [HM.out]
        have hown1 := OwnL.below hown hbx (Nat.le_refl _)
        have hbel1 := ext_trans hbel hbx
        have z1 := hbel1.size
        go_wp2_with (at_builtin; refine wpList_appI rfl (.tmp 35) (.tmp 37) rfl w.heap.size (l := l) rfl (OwnL.alloc hown1 _) (l2 := [(at_ : Int)]) rfl (readI_new _ _) (by simp; omega) (by simp; omega) ?_; intro A2 cap2 w3 hown3 hg3 _)
        have hbel3 := ext_app (ext_alloc hbel1 _) hg3 (fun k hk => (OwnL.block hown1 k hk).1)
        refine (rEndW_any _ c xs at_ _ ((ha.below hbel3).more hbel3.size) hl Hok.out).mono ?_
        rintro e w4 ⟨rfl, hb4⟩
        rw [hend.out]
        have hown4 := OwnL.below hown3 hb4 (Nat.le_refl _)
        go_wp2_with fail
        go_roundw
        case rel => exact ⟨k + 1, _, _, _, l ++ [(at_ : Int)], by simp, rfl, by go_num, by omega, by omega, by simp; omega, hown4, ext_trans hbel3 hb4, Lib.hid (by rw [← hgood2.out, show M - (k + 1) = d by have := Hd'.out; omega])⟩
        case measure => simp [intOf]; omega
      · have hout := Lib.hid (kidsGo_out (d := M - k) hp)
        go_wp2_with fail
        refine (rmany_any _ _ _ _).mono ?_
        rintro e w1 ⟨rfl, hbx⟩
        rw [HM.out]
        have hown1 := OwnL.below hown hbx (Nat.le_refl _)
        have hbel1 := ext_trans hbel hbx
        go_wp2_with fail
        go_ret
        have e : l = asI (kidsR xs n) := by rw [hfin.out, ← hgood.out, hout.out]; simp [asI]
        rw [← e]
        exact ⟨_, _, rfl, hown1, hbel1⟩
    · have hout := Lib.hid (show kidsGo xs (M - k) at_ = [] by rw [show M - k = 0 by omega]; rfl)
      go_wp2_with fail
      refine (rmany_any _ _ _ _).mono ?_
      rintro e w1 ⟨rfl, hbx⟩
      rw [HM.out]
      have hown1 := OwnL.below hown hbx (Nat.le_refl _)
      have hbel1 := ext_trans hbel hbx
      go_wp2_with fail
      go_ret
      have e : l = asI (kidsR xs n) := by rw [hfin.out, ← hgood.out, hout.out]; simp [asI]
      rw [← e]
      exact ⟨_, _, rfl, hown1, hbel1⟩
theorem rKids_any (A : Option Addr) (c : Nat) (xs : List Nd) (i : Int) (w : World) (ha : TyA w w.heap.size A xs) (hl : xs.length ≤ 1000000) (hok : okAll xs) :
    Calls Tryz.prog 55 #[.slice A xs.length c, .int .i64 i] w fun e w' =>
      ∃ A' cap', e = .returned (.slice A' (asI (kidsR xs i)).length cap') ∧ OwnI w' w.heap.size A' cap' (asI (kidsR xs i)) ∧ Below w.heap.size w w' :=
  rKidsW_any A c xs i w ha (by omega) hok
end Go.Proofs.YtmjdhfbnmmdjiaaGreat
