/- Appends onto rows of ints and of nodes, in this translation's numbers. -/
import Derived.Test.YtblfeokjlecgkaaOwn
namespace Go.Proofs.Ytblfeokjlecgkaa
open Go.RowKit

def encI (n : Int) : List Value := [.int .i64 n]
def encN (x : Nd) : List Value := [.int .i64 x.k, .string x.s, .int .i64 x.n]
/-- A slice as an element. -/
def encS (v : Option Addr × Nat × Nat) : List Value := [.slice v.1 v.2.1 v.2.2]

theorem encI_len (n : Int) : (encI n).length = 1 := rfl
theorem encN_len (x : Nd) : (encN x).length = 3 := rfl
theorem encS_len (v : Option Addr × Nat × Nat) : (encS v).length = 1 := rfl
theorem encI_one (n : Int) : ∀ u ∈ encI n, u.oneCell' = true := by simp [encI, Value.oneCell']
theorem encN_one (x : Nd) : ∀ u ∈ encN x, u.oneCell' = true := by simp [encN, Value.oneCell']
theorem encS_one (v : Option Addr × Nat × Nat) : ∀ u ∈ encS v, u.oneCell' = true := by simp [encS, Value.oneCell']

theorem infoI : (Try.prog.info? 3).map (fun i => (i.zero, i.size, i.bytes)) = some (some (.int .i64 0), 1, 8) := by kernel_rfl
theorem infoN : (Try.prog.info? 48).map (fun i => (i.zero, i.size, i.bytes)) = some (some (.agg #[.int .i64 0, .string ByteArray.empty, .int .i64 0]), 3, 32) := by kernel_rfl
theorem infoT : (Try.prog.info? 34).map (fun i => (i.zero, i.size, i.bytes)) = some (some (.slice none 0 0), 1, 24) := by kernel_rfl

abbrev OwnI (w : World) (base : Nat) (A : Option Addr) (cap : Nat) (l : List Int) : Prop := OwnL 3 1 encI w base A cap l
abbrev ReadI (w : World) (B : Nat) (A : Option Addr) (l : List Int) : Prop := ReadL 1 encI w B A l
abbrev OwnN (w : World) (base : Nat) (A : Option Addr) (cap : Nat) (l : List Nd) : Prop := OwnL 48 3 encN w base A cap l
abbrev OwnS (w : World) (base : Nat) (A : Option Addr) (cap : Nat) (l : List (Option Addr × Nat × Nat)) : Prop := OwnL 34 1 encS w base A cap l
abbrev ReadS (w : World) (B : Nat) (A : Option Addr) (l : List (Option Addr × Nat × Nat)) : Prop := ReadL 1 encS w B A l

theorem TyA.readL {w : World} {B : Nat} {A : Option Addr} {xs : List Nd} (h : TyA w B A xs) : ReadL 3 encN w B A xs := fun hne => by
  obtain ⟨b, o, rfl, hb, hr⟩ := h hne
  refine ⟨b, o, rfl, hb, fun i x hx j u hu => ?_⟩
  match j, hu with
  | 0, hu => simp [encN] at hu; subst hu; exact hr.c0 i x hx
  | 1, hu => simp [encN] at hu; subst hu; exact hr.c1 i x hx
  | 2, hu => simp [encN] at hu; subst hu; exact hr.c2 i x hx
  | j + 3, hu => simp [encN] at hu

theorem ReadL.tyA {w : World} {B : Nat} {A : Option Addr} {xs : List Nd} (h : ReadL 3 encN w B A xs) : TyA w B A xs := fun hne => by
  obtain ⟨b, o, rfl, hb, hc⟩ := h hne
  exact ⟨b, o, rfl, hb, ⟨fun i x hx => hc i x hx 0 _ rfl, fun i x hx => hc i x hx 1 _ rfl, fun i x hx => hc i x hx 2 _ rfl⟩⟩

theorem OwnL.tyA {w : World} {base : Nat} {A : Option Addr} {cap : Nat} {xs : List Nd} (h : OwnN w base A cap xs) : TyA w w.heap.size A xs := ReadL.tyA (OwnL.read encN_len h)

/-- The int at a place below the length. -/
theorem ReadL.int {w : World} {B : Nat} {A : Option Addr} {l : List Int} (h : ReadI w B A l) {i : Nat} {n : Int} (hn : l[i]? = some n) :
    ∃ b o, A = some ⟨b, o, none⟩ ∧ b < B ∧ w.cell? ⟨b, o + i, none⟩ = some (.int .i64 n) := by
  obtain ⟨b, o, rfl, hb, hc⟩ := h (by rintro rfl; simp at hn)
  have := hc i n hn 0 _ rfl
  rw [Nat.mul_one, Nat.add_zero] at this
  exact ⟨b, o, rfl, hb, this⟩

/-- The slice at a place below the length. -/
theorem ReadL.slice {w : World} {B : Nat} {A : Option Addr} {l : List (Option Addr × Nat × Nat)} (h : ReadS w B A l) {i : Nat} {v : Option Addr × Nat × Nat} (hn : l[i]? = some v) :
    ∃ b o, A = some ⟨b, o, none⟩ ∧ b < B ∧ w.cell? ⟨b, o + i, none⟩ = some (.slice v.1 v.2.1 v.2.2) := by
  obtain ⟨b, o, rfl, hb, hc⟩ := h (by rintro rfl; simp at hn)
  have := hc i v hn 0 _ rfl
  rw [Nat.mul_one, Nat.add_zero] at this
  exact ⟨b, o, rfl, hb, this⟩

theorem readI_new (w : World) (n : Int) : ReadI (w.alloc (.cells #[.int .i64 n] 3)) (w.heap.size + 1) (some ⟨w.heap.size, 0, none⟩) [n] := fun _ => by
  refine ⟨w.heap.size, 0, rfl, by omega, fun i x hx j u hu => ?_⟩
  match i, hx with
  | 0, hx =>
    simp at hx
    subst hx
    match j, hu with
    | 0, hu => simp [encI] at hu; subst hu; simp
    | j + 1, hu => simp [encI] at hu
  | i + 1, hx => simp at hx

theorem readS_new (w : World) (v : Option Addr × Nat × Nat) : ReadS (w.alloc (.cells #[.slice v.1 v.2.1 v.2.2] 34)) (w.heap.size + 1) (some ⟨w.heap.size, 0, none⟩) [v] := fun _ => by
  refine ⟨w.heap.size, 0, rfl, by omega, fun i x hx j u hu => ?_⟩
  match i, hx with
  | 0, hx =>
    simp at hx
    subst hx
    match j, hu with
    | 0, hu => simp [encS] at hu; subst hu; simp
    | j + 1, hu => simp [encS] at hu
  | i + 1, hx => simp at hx

/-- A literal without elements. -/
theorem own_empty {α : Type} (e size : Nat) (enc : α → List Value) (w : World) : OwnL e size enc (w.alloc (.cells #[] e)) w.heap.size (some ⟨w.heap.size, 0, none⟩) 0 ([] : List α) :=
  World.ownsRow_made w #[] 0 (Nat.le_refl _) (by simp [maxLen]) (by simp)

theorem ownBlock_of {A : Option Addr} {n c : Nat} {k : Nat} (h : (Value.slice A n c).ownBlock = some k) : ∃ a, A = some a ∧ a.block = k := by
  cases A with
  | none => simp [Value.ownBlock] at h
  | some a => exact ⟨a, rfl, by simpa [Value.ownBlock] using h⟩

/-- What an append leaves of what was there when the call began. -/
theorem ext_app {w W w1 : World} {A : Option Addr} {n c : Nat} (h : Below w.heap.size w W) (hg : W.grownBy w1 ((Value.slice A n c).ownBlock)) (hA : ∀ k, (Value.slice A n c).ownBlock = some k → w.heap.size ≤ k) : Below w.heap.size w w1 :=
  h.grown hg h.size fun k hk => hA k hk

section
variable {w : World} {ops : Array Oper} {rest : List Oper} {o : Oper} {a : Act} {Q : Exit → Act → World → Prop}

theorem wpList_appI (hgd : o.guard = none) (s x : Operand)
    (ho : o.op = .call { callee := .builtin .append, args := #[s, x], argTypes := #[76, 76] })
    (base : Nat) {A : Option Addr} {cap : Nat} {l : List Int} (hs : a.eval s = .slice A l.length cap) (hown : OwnI w base A cap l) {B : Nat} {A2 : Option Addr} {c : Nat} {l2 : List Int} (hx : a.eval x = .slice A2 l2.length c) (hr : ReadI w B A2 l2)
    (hlen : l.length + l2.length ≤ 10000000) (hbase : base ≤ w.heap.size)
    (h : ∀ A' cap' w', OwnI w' base A' cap' (l ++ l2) → w.grownBy w' ((Value.slice A l.length cap).ownBlock) →
      ((Value.slice A' (l.length + l2.length) cap').ownBlock = (Value.slice A l.length cap).ownBlock ∨ (Value.slice A' (l.length + l2.length) cap').ownBlock = some w.heap.size) → wpList Try.prog ops Q rest (a.put o.dst (.slice A' (l.length + l2.length) cap')) w') : wpList Try.prog ops Q (o :: rest) a w := by
  obtain ⟨i0, hi, hz0, hz1, hz2⟩ := info_parts infoI
  exact wpList_app w encI_len encI_one hgd s x 76 ho base 3 i0 _ 8 Try.underlying76 hi hz0 hz1 hz2 rfl (by decide) hs hown hx hr (by unfold maxLen; omega) (by omega) hbase h

theorem wpList_appN (hgd : o.guard = none) (s x : Operand)
    (ho : o.op = .call { callee := .builtin .append, args := #[s, x], argTypes := #[34, 34] })
    (base : Nat) {A : Option Addr} {cap : Nat} {l : List Nd} (hs : a.eval s = .slice A l.length cap) (hown : OwnN w base A cap l) {B : Nat} {A2 : Option Addr} {c : Nat} {l2 : List Nd} (hx : a.eval x = .slice A2 l2.length c) (hr : TyA w B A2 l2)
    (hlen : l.length + l2.length ≤ 1000000000000) (hbase : base ≤ w.heap.size)
    (h : ∀ A' cap' w', OwnN w' base A' cap' (l ++ l2) → w.grownBy w' ((Value.slice A l.length cap).ownBlock) →
      ((Value.slice A' (l.length + l2.length) cap').ownBlock = (Value.slice A l.length cap).ownBlock ∨ (Value.slice A' (l.length + l2.length) cap').ownBlock = some w.heap.size) → wpList Try.prog ops Q rest (a.put o.dst (.slice A' (l.length + l2.length) cap')) w') : wpList Try.prog ops Q (o :: rest) a w := by
  obtain ⟨i0, hi, hz0, hz1, hz2⟩ := info_parts infoN
  exact wpList_app w encN_len encN_one hgd s x 34 ho base 48 i0 _ 32 Try.underlying34 hi hz0 hz1 hz2 rfl (by decide) hs hown hx hr.readL (by unfold maxLen; omega) (by omega) hbase h

theorem wpList_appS (hgd : o.guard = none) (s x : Operand)
    (ho : o.op = .call { callee := .builtin .append, args := #[s, x], argTypes := #[40, 40] })
    (base : Nat) {A : Option Addr} {cap : Nat} {l : List (Option Addr × Nat × Nat)} (hs : a.eval s = .slice A l.length cap) (hown : OwnS w base A cap l) {B : Nat} {A2 : Option Addr} {c : Nat} {l2 : List (Option Addr × Nat × Nat)} (hx : a.eval x = .slice A2 l2.length c) (hr : ReadS w B A2 l2)
    (hlen : l.length + l2.length ≤ 10000000) (hbase : base ≤ w.heap.size)
    (h : ∀ A' cap' w', OwnS w' base A' cap' (l ++ l2) → w.grownBy w' ((Value.slice A l.length cap).ownBlock) →
      ((Value.slice A' (l.length + l2.length) cap').ownBlock = (Value.slice A l.length cap).ownBlock ∨ (Value.slice A' (l.length + l2.length) cap').ownBlock = some w.heap.size) → wpList Try.prog ops Q rest (a.put o.dst (.slice A' (l.length + l2.length) cap')) w') : wpList Try.prog ops Q (o :: rest) a w := by
  obtain ⟨i0, hi, hz0, hz1, hz2⟩ := info_parts infoT
  exact wpList_app w encS_len encS_one hgd s x 40 ho base 34 i0 _ 24 Try.underlying40 hi hz0 hz1 hz2 rfl (by decide) hs hown hx hr (by unfold maxLen; omega) (by omega) hbase h
end
end Go.Proofs.Ytblfeokjlecgkaa
