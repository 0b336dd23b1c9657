/- Laid together by a tool from the texts of this seat: Few Fresh CanonW. Conditions: each theorem's own. -/
import Derived.Test.YtblfeokjlecgkaaO08
import Derived.Test.YtblfeokjlecgkaaO03
import Derived.Test.YtblfeokjlecgkaaO04
import Derived.Test.YtblfeokjlecgkaaO09
import Derived.Maps.OwnSet
/- Small functions of the laws: In, Few, few, Types. -/
namespace Go.Proofs.Ytblfeokjlecgkaa
open Go.RowKit

def inFrom (n : Int) (l : List Int) (k : Nat) : Bool := decide (n ∈ l.drop k)

theorem inFrom_step {n m : Int} {l : List Int} {k : Nat} (h : l[k]? = some m) : inFrom n l k = (m == n || inFrom n l (k + 1)) := by
  unfold inFrom
  rw [drop_cons h]
  by_cases e : m = n
  · simp [e]
  · have e' : ¬ n = m := fun h => e h.symm
    simp [e, e']

theorem inFrom_end {n : Int} {l : List Int} {k : Nat} (h : ¬ k < l.length) : inFrom n l k = false := by
  unfold inFrom
  rw [List.drop_eq_nil_of_le (by omega)]
  simp

set_option maxHeartbeats 1000000 in
theorem in_any (A : Option Addr) (c Ba : Nat) (l : List Int) (n : Int) (w : World) (ha : ReadI w Ba A l) (hl : l.length ≤ 9223372036854775807) :
    Calls Try.prog 44 #[.slice A l.length c, .int .i64 n] w fun e w' => e = .returned (.bool (decide (n ∈ l))) ∧ w = w' := by
  have h0 : Hid (inFrom n l 0 = decide (n ∈ l)) := Lib.hid (by unfold inFrom; rw [List.drop_zero])
  go_enter Try.func44, Try.ntmps44
  go_wp2_with fail
  go_loop [5] (fun i => ∃ k : Nat, k ≤ l.length ∧ i = .int .i64 k ∧ Hid (inFrom n l k = decide (n ∈ l))) (fun i => l.length - (intOf i).toNat)
  case atStart => exact ⟨0, Nat.zero_le _, rfl, h0⟩
  case round =>
    clear h0
    obtain ⟨k, hk, rfl, hgood⟩ := hrel
    by_cases hp : k < l.length
    · obtain ⟨m, hm⟩ := getq_ex hp
      have hstep := Lib.hid (inFrom_step (n := n) hm)
      obtain ⟨b, o, rfl, hb, c0⟩ := ReadL.int ha hm
      clear hm
      cases e : (m == n)
      · have E := Lib.hid e
        go_wp2_with fail
        go_round
        case rel => exact ⟨k + 1, hp, by go_num, Lib.hid (by rw [← hgood.out, hstep.out, E.out]; rfl)⟩
        case measure => simp [intOf]; omega
      · have E := Lib.hid e
        go_wp2_with fail
        go_ret
        exact ⟨ret_bool (by rw [← hgood.out, hstep.out, E.out]; rfl), rfl⟩
    · have hend := Lib.hid (inFrom_end (n := n) hp)
      go_wp2_with fail
      go_ret
      exact ⟨ret_bool (by rw [← hgood.out, hend.out]), rfl⟩

def shortB (x : Nd) : Bool := decide (x.s.size ≤ 100)
def fewB (xs : List Nd) (m : Int) : Bool := decide ((xs.length : Int) ≤ m) && (xs.all shortB && rRightB xs)

theorem fewB_parts {xs : List Nd} {m : Int} (h : fewB xs m = true) : (xs.length : Int) ≤ m ∧ (∀ x ∈ xs, x.s.size ≤ 100) ∧ rRightB xs = true := by
  unfold fewB at h
  simp only [Bool.and_eq_true, decide_eq_true_eq, List.all_eq_true] at h
  exact ⟨h.1, fun x hx => of_decide_eq_true (h.2.1 x hx), h.2.2⟩

set_option maxHeartbeats 1000000 in
theorem Few_any (A : Option Addr) (c : Nat) (xs : List Nd) (m : Int) (w : World) (ha : TyA w w.heap.size A xs) (hl : xs.length ≤ 9223372036854775807) (hs : ∀ x ∈ xs, x.s.size ≤ 9223372036854775807) :
    Calls Try.prog 50 #[.slice A xs.length c, .int .i64 m] w fun e w' => e = .returned (.bool (fewB xs m)) ∧ Below w.heap.size w w' := by
  have Hs := Lib.hid hs
  clear hs
  by_cases h0 : (xs.length : Int) ≤ m
  · have h0' : ¬ m < (xs.length : Int) := by omega
    have H0 := Lib.hid h0
    clear h0
    go_enter Try.func50, Try.ntmps50
    go_wp2_with fail
    go_loop [5] (fun i => ∃ k : Nat, k ≤ xs.length ∧ i = .int .i64 k ∧ Hid (allFrom shortB xs k = xs.all shortB)) (fun i => xs.length - (intOf i).toNat)
    case atStart => exact ⟨0, Nat.zero_le _, rfl, Lib.hid rfl⟩
    case round =>
      clear h0'
      obtain ⟨k, hk, rfl, hgood⟩ := hrel
      by_cases hp : k < xs.length
      · obtain ⟨x, hx⟩ := getq_ex hp
        have hstep := Lib.hid (allFrom_step (p := shortB) hx)
        have hxs := Hs.out x (List.mem_of_getElem? hx)
        obtain ⟨b1, o1, rfl, hb1, c10, c11, c12⟩ := ha.at_ hx
        clear hx
        by_cases h100 : x.s.size ≤ 100
        · have h100' : ¬ (100 : Int) < (x.s.size : Int) := by omega
          have H := Lib.hid h100
          clear h100
          go_wp2_with fail
          go_round
          case rel => exact ⟨k + 1, hp, by go_num, Lib.hid (by rw [← hgood.out, hstep.out]; simp [shortB, H.out])⟩
          case measure => simp [intOf]; omega
        · have h100' : (100 : Int) < (x.s.size : Int) := by omega
          have H := Lib.hid h100
          clear h100
          go_wp2_with fail
          go_ret
          exact ⟨ret_bool (by
            have e : xs.all shortB = false := by rw [← hgood.out, hstep.out]; simp [shortB, H.out]
            unfold fewB; rw [e]; simp), Below.refl _ _⟩
      · have hend := Lib.hid (allFrom_end (p := shortB) hp)
        go_wp2_with fail
        refine (rRight_any A c xs _ ha hl Hs.out).mono ?_
        rintro e w1 ⟨rfl, hb⟩
        go_wp2_with fail
        go_ret
        exact ⟨ret_bool (by
          have e : xs.all shortB = true := by rw [← hgood.out, hend.out]
          unfold fewB; rw [e, decide_eq_true H0.out]; simp), hb⟩
  · have h0' : m < (xs.length : Int) := by omega
    have H0 := Lib.hid h0
    clear h0
    go_enter Try.func50, Try.ntmps50
    go_wp2_with fail
    go_ret
    exact ⟨ret_bool (by unfold fewB; rw [decide_eq_false (by have := H0.out; omega)]; rfl), Below.refl _ _⟩

end Go.Proofs.Ytblfeokjlecgkaa

/- Fresh variables, in plain lists. -/
namespace Go.Proofs.Ytblfeokjlecgkaa

/-- Alike but for ?s that became Vars. -/
inductive LikeF : List Nd → List Nd → Prop
  | nil : LikeF [] []
  | cons {y z : Nd} {ys zs : List Nd} (h : z.s = y.s ∧ (z = y ∨ (y.k = 0 ∧ z.k = 8 ∧ 0 ≤ z.n))) (h2 : LikeF ys zs) : LikeF (y :: ys) (z :: zs)

theorem LikeF.split : ∀ (a b zs : List Nd), LikeF (a ++ b) zs → ∃ a' b', zs = a' ++ b' ∧ LikeF a a' ∧ LikeF b b'
  | [], b, zs, h => ⟨[], zs, rfl, .nil, h⟩
  | y :: a, b, _, .cons (z := z) h h2 => by
    obtain ⟨a', b', rfl, h3, h4⟩ := LikeF.split a b _ h2
    exact ⟨z :: a', b', rfl, .cons h h3, h4⟩

theorem LikeF.len {a b : List Nd} (h : LikeF a b) : a.length = b.length := by
  induction h with
  | nil => rfl
  | cons _ _ ih => simp [ih]

theorem RtF.like {f : Nat} {x : Nd} {k : Int} {last : ByteArray} {d : Nat} {ks : List Nd} (h : RtF f x k last d ks) : ∀ ks', LikeF ks ks' → RtF f x k last d ks' := by
  induction h with
  | nil =>
    intro ks' h
    cases h
    exact .nil _ _ _ _
  | @cons f x k last d y ks rs ho hc h1 h2 i1 i2 =>
    intro ks' h
    cases h with
    | @cons _ z _ zs hz hr =>
      obtain ⟨a, b, rfl, ha, hb⟩ := LikeF.split _ _ _ hr
      obtain ⟨hs, hz⟩ := hz
      have hb2 := i2 b hb
      rw [← hs] at hb2
      rcases hz with rfl | ⟨y0, z8, zn⟩
      · exact .cons ho hc (i1 a ha) hb2
      · have hm : manyN y = 0 := by unfold manyN many; simp [y0, isRowB]
        have hmz : manyN z = 0 := by unfold manyN many; simp [z8, isRowB]
        rw [hm] at h1
        have := h1.zero
        subst this
        cases ha
        refine .cons ?_ ?_ ?_ hb2
        · unfold okNode; simp [z8, zn]
        · unfold childOk at hc ⊢
          rw [if_neg (by omega)] at hc ⊢
          rw [hs]
          exact hc
        · rw [hmz]
          exact .nil _ _ _ _

theorem IsR.like {T : List Nd} {y : Nd} {ks : List Nd} (h : IsR T y ks) {T' : List Nd} (hl : LikeF T T') : rightB T' = true := by
  have hlen := hl.len
  rw [h.eq] at hl
  cases hl with
  | @cons _ z _ zs hz hr =>
    obtain ⟨hs, hz⟩ := hz
    have hk := h.k
    have h100 := h.len
    rcases hz with rfl | ⟨y0, z8, zn⟩
    · exact (show IsR (z :: zs) z zs from ⟨rfl, by omega, h.s, hk, h.ok, h.rt.like _ hr⟩).right
    · have hm : manyN y = 0 := by unfold manyN many; simp [y0, isRowB]
      have hmz : manyN z = 0 := by unfold manyN many; simp [z8, isRowB]
      have h1 := h.rt
      rw [hm] at h1
      have := h1.zero
      subst this
      cases hr
      refine (show IsR [z] z [] from ⟨rfl, by simp, by rw [hs]; exact h.s, by omega, ?_, ?_⟩).right
      · unfold okNode; simp [z8, zn]
      · rw [hmz]; exact .nil _ _ _ _

end Go.Proofs.Ytblfeokjlecgkaa

/- term.Fresh, walked. -/
namespace Go.Proofs.Ytblfeokjlecgkaa
open Go.RowKit

theorem flatMap_setM (v : Int) (x : Nd) : ∀ (l : List Nd) (j : Nat), l[j]? = some x → (l.set j ⟨x.k, x.s, v⟩).flatMap encN = (l.flatMap encN).set (j * 3 + 2) (.int .i64 v)
  | [], j, h => by simp at h
  | y :: l, 0, h => by
    simp at h
    subst h
    rw [List.set_cons_zero, List.flatMap_cons, List.flatMap_cons]
    rfl
  | y :: l, j + 1, h => by
    rw [List.getElem?_cons_succ] at h
    rw [List.set_cons_succ, List.flatMap_cons, List.flatMap_cons, flatMap_setM v x l j h, List.set_append_right _ _ (by rw [encN_len]; omega), encN_len, show (j + 1) * 3 + 2 - 3 = j * 3 + 2 by omega]

theorem OwnL.setM {w : World} {base : Nat} {A : Option Addr} {cap : Nat} {l : List Nd} (h : OwnN w base A cap l) {j : Nat} {x : Nd} (hx : l[j]? = some x) (v : Int) :
    ∃ g, A = some ⟨g, 0, none⟩ ∧ base ≤ g ∧ g < w.heap.size ∧ w.cell? ⟨g, j * 3 + 2, none⟩ = some (.int .i64 x.n) ∧ w.frozen? ⟨g, j * 3 + 2, none⟩ = false ∧
      OwnN (w.setCell ⟨g, j * 3 + 2, none⟩ (.int .i64 v)) base A cap (l.set j ⟨x.k, x.s, v⟩) ∧ w.grownBy (w.setCell ⟨g, j * 3 + 2, none⟩ (.int .i64 v)) (some g) := by
  obtain ⟨b, o, hA, hb, c0, c1, c2⟩ := (OwnL.tyA h).at_ hx
  have hc := c2
  have h' : w.ownsRow base 48 3 (.slice A l.length cap) l.length (l.flatMap encN) := h
  rcases h'.2 with ⟨hv, hn⟩ | ⟨g, cap', cur, hv, hbg, hg, hnc, hcm, hcs, htake⟩
  · injection hv with hA' hl hc'
    rw [hA'] at hA
    cases hA
  · injection hv with hA' hl hc'
    subst hA'
    injection hA with hA
    injection hA with hA1 hA2 hA3
    subst hA1
    rw [← hA2, Nat.zero_add] at hc
    obtain ⟨h2, h3⟩ := World.ownsRow.stored h' (j * 3 + 2) (.int .i64 v)
    refine ⟨g, rfl, hbg, hb, hc, World.ownsRow.frozenAt h' _, ?_, h3⟩
    show (w.setCell ⟨g, j * 3 + 2, none⟩ (.int .i64 v)).ownsRow base 48 3 (.slice (some ⟨g, 0, none⟩) (l.set j ⟨x.k, x.s, v⟩).length cap) (l.set j ⟨x.k, x.s, v⟩).length ((l.set j ⟨x.k, x.s, v⟩).flatMap encN)
    rw [List.length_set, flatMap_setM v x l j hx]
    exact h2

theorem set_self {α : Type} {l : List α} {k : Nat} {x : α} (h : l[k]? = some x) : l.set k x = l := by
  refine List.ext_getElem? fun i => ?_
  rw [List.getElem?_set]
  split
  · next e =>
    subst e
    rw [if_pos (getq_lt h), h]
  · rfl

end Go.Proofs.Ytblfeokjlecgkaa

/- The canon of types, in plain lists. -/
namespace Go.Proofs.Ytblfeokjlecgkaa

/-- Where a number stands in a row. -/
def posI (n : Int) : List Int → Nat
  | [] => 0
  | m :: l => if m = n then 0 else posI n l + 1

theorem posI_lt {n : Int} : ∀ {l : List Int}, n ∈ l → posI n l < l.length
  | m :: l, h => by
    unfold posI
    split
    · simp
    · next hne =>
      rcases List.mem_cons.1 h with rfl | h
      · exact absurd rfl hne
      · have := posI_lt h; simp; omega

theorem posI_get {n : Int} : ∀ {l : List Int}, n ∈ l → l[posI n l]? = some n
  | m :: l, h => by
    unfold posI
    split
    · next e => simp [e]
    · next hne =>
      rcases List.mem_cons.1 h with rfl | h
      · exact absurd rfl hne
      · simpa using posI_get h

theorem posI_new {n : Int} : ∀ {l : List Int}, n ∉ l → posI n (l ++ [n]) = l.length
  | [], _ => by simp [posI]
  | m :: l, h => by
    have hne : m ≠ n := fun e => h (by simp [e])
    rw [List.cons_append]
    unfold posI
    rw [if_neg hne, posI_new fun hm => h (by simp [hm])]
    rfl

theorem posI_old {n : Int} : ∀ {l : List Int} (r : List Int), n ∈ l → posI n (l ++ r) = posI n l
  | m :: l, r, h => by
    rw [List.cons_append]
    unfold posI
    split
    · rfl
    · next hne =>
      rcases List.mem_cons.1 h with rfl | h
      · exact absurd rfl hne
      · rw [posI_old r h]

/-- What is seen behind a node. -/
def seen (had : List Int) (x : Nd) : List Int := if isVarB x.k = true ∧ x.n ∉ had then had ++ [x.n] else had

/-- A node, its number as it was seen. -/
def canNd (had : List Int) (x : Nd) : Nd := if isVarB x.k = true then ⟨x.k, x.s, (posI x.n (seen had x) + 1 : Nat)⟩ else x

def seenL (had : List Int) : List Nd → List Int
  | [] => had
  | x :: xs => seenL (seen had x) xs

def canL (had : List Int) : List Nd → List Nd
  | [] => []
  | x :: xs => canNd had x :: canL (seen had x) xs

def seenT (had : List Int) : List (List Nd) → List Int
  | [] => had
  | t :: l => seenT (seenL had t) l

def canT (had : List Int) : List (List Nd) → List (List Nd)
  | [] => []
  | t :: l => canL had t :: canT (seenL had t) l

theorem canL_len : ∀ (had : List Int) (xs : List Nd), (canL had xs).length = xs.length
  | _, [] => rfl
  | had, x :: xs => by simp [canL, canL_len]

theorem canT_len : ∀ (had : List Int) (l : List (List Nd)), (canT had l).length = l.length
  | _, [] => rfl
  | had, t :: l => by simp [canT, canT_len]

theorem seen_len (had : List Int) (x : Nd) : (seen had x).length = if isVarB x.k = true ∧ x.n ∉ had then had.length + 1 else had.length := by
  unfold seen
  split <;> simp

theorem canNd_var {had : List Int} {x : Nd} (h : isVarB x.k = true) : canNd had x = ⟨x.k, x.s, (posI x.n (seen had x) + 1 : Nat)⟩ := by
  unfold canNd
  rw [if_pos h]

end Go.Proofs.Ytblfeokjlecgkaa

/- term.Canon, walked: a map of numbers, a row of types, each copied and numbered anew. -/
namespace Go.Proofs.Ytblfeokjlecgkaa
open Go.RowKit Go.Maps

/-- The map holds each number's place. -/
structure MapOf (had : List Int) (D : DataW Unit) : Prop where
  tidy : Tidy D
  size : Maps.size D = had.length
  has : ∀ n : Int, Maps.has D (.int .i64 n) = decide (n ∈ had)
  at_ : ∀ n : Int, n ∈ had → D.atKey (.int .i64 n) (.lit (.int .i64 0)) = .lit (.int .i64 ((posI n had + 1 : Nat) : Int))

theorem MapOf.put {had : List Int} {D : DataW Unit} (h : MapOf had D) {n : Int} (hn : n ∉ had) : MapOf (had ++ [n]) (D.put (.int .i64 n) (.lit (.int .i64 ((had.length + 1 : Nat) : Int)))) := by
  have hk : Go.WideAt.IsKeyLit (.int .i64 n) := trivial
  refine ⟨h.tidy.put hk _, ?_, fun m => ?_, fun m hm => ?_⟩
  · rw [size_put h.tidy, h.has, if_neg (by simpa using hn), h.size]
    simp
  · by_cases e : m = n
    · subst e
      rw [has_put_same h.tidy.isMap hk]
      simp
    · rw [has_put_other (by intro e2; injection e2 with _ e2; exact e e2), h.has]
      simp [e]
  · by_cases e : m = n
    · subst e
      rw [atKey_put_same h.tidy.isMap hk, posI_new hn]
    · have hm' : m ∈ had := by
        rcases List.mem_append.1 hm with h | h
        · exact h
        · simp at h; exact absurd h e
      rw [atKey_put_other (by intro e2; injection e2 with _ e2; exact e e2), h.at_ m hm', posI_old _ hm']

/-- What Canon holds: the map, the row of types that are done, the one at hand. -/
structure CanM (w0 : World) (B : Nat) (D : DataW Unit) (hn : Nat) (V : Option Addr) (cv : Nat) (vs : List (Option Addr × Nat × Nat)) (outs : List (List Nd)) (U : Option Addr) (uc : Nat) (us : List Nd) (w : World) : Prop where
  map : w.ownsMap Try.prog 3 (plainElem Try.prog 3) B hn D
  row : OwnS w w0.heap.size V cv vs
  sls : Sls w w.heap.size vs outs
  cur : OwnN w w0.heap.size U uc us
  bel : Below w0.heap.size w0 w
  low : w0.heap.size ≤ B
  ub : ∀ a, U = some a → a.block ≠ B
  vb : ∀ a, V = some a → a.block ≠ B
  uv : Off U V
  sb : ∀ v ∈ vs, ∀ a, v.1 = some a → a.block ≠ B
  su : ∀ v ∈ vs, Off v.1 U
  sv : ∀ v ∈ vs, Off v.1 V
  lt : ∀ v ∈ vs, ∀ a, v.1 = some a → a.block < w.heap.size

theorem TyA.keptBy {w w' : World} {X : Option Addr} {xs : List Nd} {row : Option Nat} (h : TyA w w.heap.size X xs) (hg : w.grownBy w' row) (hne : ∀ k, row = some k → ∀ a, X = some a → a.block ≠ k) : TyA w' w'.heap.size X xs := by
  refine TyA.more (B := w.heap.size) (ReadL.tyA fun hx => ?_) hg.size
  obtain ⟨b, o, rfl, hb, hc⟩ := h.readL hx
  refine ⟨b, o, rfl, hb, fun i x hx j u hu => ?_⟩
  have hblk := hg.block b hb (fun e => hne b e.symm _ rfl rfl)
  rw [World.cell?_of_block (a := ⟨b, o + i * 3 + j, none⟩) hblk]
  exact hc i x hx j u hu

theorem Sls.keptBy {w w' : World} {vs : List (Option Addr × Nat × Nat)} {outs : List (List Nd)} {row : Option Nat} (h : Sls w w.heap.size vs outs) (hg : w.grownBy w' row) (hne : ∀ k, row = some k → ∀ v ∈ vs, ∀ a, v.1 = some a → a.block ≠ k) : Sls w' w'.heap.size vs outs :=
  ⟨h.1, fun i v xs hv hx => by
    obtain ⟨h1, h2⟩ := h.2 i v xs hv hx
    exact ⟨h1, h2.keptBy hg fun k hk => hne k hk v (List.mem_of_getElem? hv)⟩⟩

section
variable {w0 w w' : World} {B : Nat} {D : DataW Unit} {hn : Nat} {V : Option Addr} {cv : Nat} {vs : List (Option Addr × Nat × Nat)} {outs : List (List Nd)} {U : Option Addr} {uc : Nat} {us : List Nd}

theorem CanM.step (h : CanM w0 B D hn V cv vs outs U uc us w) (hb : Below w.heap.size w w') : CanM w0 B D hn V cv vs outs U uc us w' :=
  ⟨h.map.kept (below_grown hb none) (by simp), h.row.below hb (Nat.le_refl _), h.sls.keptBy (below_grown hb none) (fun k hk => by cases hk), h.cur.below hb (Nat.le_refl _), ext_trans h.bel hb, h.low, h.ub, h.vb, h.uv, h.sb, h.su, h.sv, fun v hv a ha => Nat.lt_of_lt_of_le (h.lt v hv a ha) hb.size⟩

theorem CanM.alloc (h : CanM w0 B D hn V cv vs outs U uc us w) (o : Obj) : CanM w0 B D hn V cv vs outs U uc us (w.alloc o) := h.step (ext_alloc (Below.refl _ _) o)

/-- A number goes into the map. -/
theorem CanM.put {D' : DataW Unit} {hn' : Nat} (h : CanM w0 B D hn V cv vs outs U uc us w) (hm : w'.ownsMap Try.prog 3 (plainElem Try.prog 3) B hn' D') (hg : w.grownBy w' (some B)) : CanM w0 B D' hn' V cv vs outs U uc us w' :=
  ⟨hm, OwnL.kept h.row hg (fun k hk a ha => by cases hk; exact h.vb a ha), h.sls.keptBy hg (fun k hk v hv a ha => by cases hk; exact h.sb v hv a ha), OwnL.kept h.cur hg (fun k hk a ha => by cases hk; exact h.ub a ha),
    h.bel.grown hg h.bel.size (fun k hk => by cases hk; exact h.low), h.low, h.ub, h.vb, h.uv, h.sb, h.su, h.sv, fun v hv a ha => Nat.lt_of_lt_of_le (h.lt v hv a ha) hg.size⟩

/-- The type at hand is written. -/
theorem CanM.store {g : Nat} (h : CanM w0 B D hn V cv vs outs (some ⟨g, 0, none⟩) uc us w) {j : Nat} {x : Nd} (hx : us[j]? = some x) (v : Int) :
    g < w.heap.size ∧ w.cell? ⟨g, j * 3 + 2, none⟩ = some (.int .i64 x.n) ∧ w.frozen? ⟨g, j * 3 + 2, none⟩ = false ∧
      CanM w0 B D hn V cv vs outs (some ⟨g, 0, none⟩) uc (us.set j ⟨x.k, x.s, v⟩) (w.setCell ⟨g, j * 3 + 2, none⟩ (.int .i64 v)) := by
  obtain ⟨g2, e, hbg, hg, hc, hf, hown, hgr⟩ := OwnL.setM h.cur hx v
  injection e with e
  injection e with e _ _
  subst e
  refine ⟨hg, hc, hf, ⟨h.map.kept hgr (by have := h.ub _ rfl; simpa using fun e => this e.symm), OwnL.kept h.row hgr (fun k hk a ha e => by cases hk; exact h.uv _ a rfl ha e.symm),
    h.sls.keptBy hgr (fun k hk v hv a ha e => by cases hk; exact h.su v hv a _ ha rfl e), hown, h.bel.grown hgr h.bel.size (fun k hk => by cases hk; exact hbg), h.low, h.ub, h.vb, h.uv, h.sb, h.su, h.sv, fun v hv a ha => Nat.lt_of_lt_of_le (h.lt v hv a ha) hgr.size⟩⟩

/-- The copy goes onto the row. -/
theorem CanM.app {V2 : Option Addr} {cv2 : Nat} (h : CanM w0 B D hn V cv vs outs U uc us w) (hown : OwnS w' w0.heap.size V2 cv2 (vs ++ [(U, us.length, uc)])) (hg : w.grownBy w' ((Value.slice V vs.length cv).ownBlock))
    (hA : (Value.slice V2 (vs.length + 1) cv2).ownBlock = (Value.slice V vs.length cv).ownBlock ∨ (Value.slice V2 (vs.length + 1) cv2).ownBlock = some w.heap.size) : CanM w0 B D hn V2 cv2 (vs ++ [(U, us.length, uc)]) (outs ++ [us]) none 0 [] w' := by
  have hBl := h.map.lt
  have hV : ∀ a, V2 = some a → (∃ b, V = some b ∧ a.block = b.block) ∨ a.block = w.heap.size := fun a ha => by
    subst ha
    rcases hA with hA | hA
    · obtain ⟨b, hb, hbe⟩ := ownBlock_of (hA.symm.trans (show (Value.slice (some a) (vs.length + 1) cv2).ownBlock = some a.block from rfl))
      exact .inl ⟨b, hb, hbe.symm⟩
    · exact .inr (by simpa [Value.ownBlock] using hA)
  have hlow : ∀ k, (Value.slice V vs.length cv).ownBlock = some k → ∃ a, V = some a ∧ a.block = k := fun k hk => ownBlock_of hk
  have hU : ∀ a, U = some a → a.block < w.heap.size := fun a ha => (OwnL.lt h.cur a ha).2
  refine ⟨h.map.kept hg ?_, hown, ?_, OwnL.nil, h.bel.grown hg h.bel.size (fun k hk => (OwnL.block h.row k hk).1), h.low, by simp, fun a ha => ?_, (fun a b ha => by cases ha), fun v hv a ha => ?_, (fun v hv a b _ hb => by cases hb), fun v hv a b ha hb e => ?_, fun v hv a ha => ?_⟩
  · intro e
    obtain ⟨a, ha, hab⟩ := hlow B e.symm
    exact h.vb a ha hab
  · have hs := h.sls.keptBy hg (fun k hk v hv a ha e => by
      obtain ⟨b, hb, hbe⟩ := hlow k hk
      exact h.sv v hv a b ha hb (by rw [e, hbe]))
    have hc := (OwnL.tyA h.cur).keptBy hg (fun k hk a ha e => by
      obtain ⟨b, hb, hbe⟩ := hlow k hk
      exact h.uv a b ha hb (by rw [e, hbe]))
    refine ⟨by simp [hs.1], fun i v xs hv hx => ?_⟩
    by_cases hi : i < vs.length
    · rw [List.getElem?_append_left hi] at hv
      rw [List.getElem?_append_left (by rw [← hs.1]; exact hi)] at hx
      exact hs.2 i v xs hv hx
    · have hi2 : i = vs.length := by have := getq_lt hv; simp at this; omega
      subst hi2
      rw [List.getElem?_append_right (Nat.le_refl _), Nat.sub_self] at hv
      rw [List.getElem?_append_right (by rw [hs.1]; exact Nat.le_refl _), hs.1, Nat.sub_self] at hx
      simp at hv hx
      subst hv hx
      exact ⟨rfl, hc⟩
  · rcases hV a ha with ⟨b, hb, hbe⟩ | hbe
    · rw [hbe]; exact h.vb b hb
    · omega
  · rcases List.mem_append.1 hv with hv | hv
    · exact h.sb v hv a ha
    · simp at hv
      subst hv
      exact h.ub a ha
  · rcases hV b hb with ⟨b', hb', hbe⟩ | hbe
    · rcases List.mem_append.1 hv with hv | hv
      · exact h.sv v hv a b' ha hb' (by rw [e, hbe])
      · simp at hv
        subst hv
        exact h.uv a b' ha hb' (by rw [e, hbe])
    · rcases List.mem_append.1 hv with hv | hv
      · have := h.lt v hv a ha; omega
      · simp at hv
        subst hv
        have := hU a ha; omega
  · have := hg.size
    rcases List.mem_append.1 hv with hv | hv
    · have := h.lt v hv a ha; omega
    · simp at hv
      subst hv
      have := hU a ha; omega
end

/-- The first so many nodes numbered. -/
def canTo (had : List Int) (xs : List Nd) (j : Nat) : List Nd := canL had (xs.take j) ++ xs.drop j

theorem canL_append : ∀ (had : List Int) (a b : List Nd), canL had (a ++ b) = canL had a ++ canL (seenL had a) b
  | _, [], _ => rfl
  | had, x :: a, b => by simp only [List.cons_append, canL, seenL, canL_append (seen had x) a b]

theorem seenL_append : ∀ (had : List Int) (a b : List Nd), seenL had (a ++ b) = seenL (seenL had a) b
  | _, [], _ => rfl
  | had, x :: a, b => by simp only [List.cons_append, seenL, seenL_append (seen had x) a b]

theorem canT_append : ∀ (had : List Int) (a b : List (List Nd)), canT had (a ++ b) = canT had a ++ canT (seenT had a) b
  | _, [], _ => rfl
  | had, x :: a, b => by simp only [List.cons_append, canT, seenT, canT_append (seenL had x) a b]

theorem seenT_append : ∀ (had : List Int) (a b : List (List Nd)), seenT had (a ++ b) = seenT (seenT had a) b
  | _, [], _ => rfl
  | had, x :: a, b => by simp only [List.cons_append, seenT, seenT_append (seenL had x) a b]

theorem seenL_le : ∀ (had : List Int) (xs : List Nd), (seenL had xs).length ≤ had.length + xs.length
  | _, [] => Nat.le_refl _
  | had, x :: xs => by
    have h1 := seenL_le (seen had x) xs
    have h2 := seen_len had x
    simp only [seenL, List.length_cons]
    split at h2 <;> omega

theorem seenT_le {m : Nat} : ∀ (had : List Int) (l : List (List Nd)), (∀ xs ∈ l, xs.length ≤ m) → (seenT had l).length ≤ had.length + l.length * m
  | _, [], _ => by simp [seenT]
  | had, x :: l, h => by
    have h1 := seenT_le (seenL had x) l fun xs hx => h xs (by simp [hx])
    have h2 := seenL_le had x
    have h3 := h x (by simp)
    simp only [seenT, List.length_cons, Nat.succ_mul]
    omega

theorem seenL_step {had : List Int} {xs : List Nd} {j : Nat} {x : Nd} (h : xs[j]? = some x) : seenL had (xs.take (j + 1)) = seen (seenL had (xs.take j)) x := by
  rw [List.take_add_one, h, seenL_append]
  rfl

theorem seenT_step {l : List (List Nd)} {k : Nat} {xs : List Nd} (h : l[k]? = some xs) : seenT [] (l.take (k + 1)) = seenL (seenT [] (l.take k)) xs ∧ canT [] (l.take (k + 1)) = canT [] (l.take k) ++ [canL (seenT [] (l.take k)) xs] := by
  rw [List.take_add_one, h, seenT_append, canT_append]
  exact ⟨rfl, rfl⟩

theorem canTo_zero (had : List Int) (xs : List Nd) : canTo had xs 0 = xs := by simp [canTo, canL]
theorem canTo_end (had : List Int) (xs : List Nd) : canTo had xs xs.length = canL had xs := by simp [canTo]
theorem canTo_len (had : List Int) (xs : List Nd) (j : Nat) : (canTo had xs j).length = xs.length := by
  unfold canTo
  rw [List.length_append, canL_len, ← List.length_append, List.take_append_drop]

theorem canTo_at {had : List Int} {xs : List Nd} {j : Nat} {x : Nd} (h : xs[j]? = some x) : (canTo had xs j)[j]? = some x := by
  have hi := getq_lt h
  unfold canTo
  have hl : (canL had (xs.take j)).length = j := by rw [canL_len, List.length_take]; omega
  rw [List.getElem?_append_right (by omega), hl, Nat.sub_self, List.getElem?_drop]
  simpa using h

theorem canTo_step {had : List Int} {xs : List Nd} {j : Nat} {x : Nd} (h : xs[j]? = some x) : canTo had xs (j + 1) = (canTo had xs j).set j (canNd (seenL had (xs.take j)) x) := by
  have hi := getq_lt h
  have hl : (canL had (xs.take j)).length = j := by rw [canL_len, List.length_take]; omega
  unfold canTo
  rw [List.take_add_one, h, canL_append, List.set_append_right _ _ (by omega), hl, Nat.sub_self, drop_cons h, List.append_assoc]
  rfl

theorem can_no {had : List Int} {x : Nd} (h : isVarB x.k = false) : canNd had x = x ∧ seen had x = had := by
  unfold canNd seen
  simp [h]
end Go.Proofs.Ytblfeokjlecgkaa

/- A row of types that is laid type by type: what is done, the one at hand. -/
namespace Go.Proofs.Ytblfeokjlecgkaa
open Go.RowKit

structure RowM (w0 : World) (V : Option Addr) (cv : Nat) (vs : List (Option Addr × Nat × Nat)) (outs : List (List Nd)) (U : Option Addr) (uc : Nat) (us : List Nd) (w : World) : Prop where
  row : OwnS w w0.heap.size V cv vs
  sls : Sls w w.heap.size vs outs
  cur : OwnN w w0.heap.size U uc us
  bel : Below w0.heap.size w0 w
  uv : Off U V
  su : ∀ v ∈ vs, Off v.1 U
  sv : ∀ v ∈ vs, Off v.1 V
  lt : ∀ v ∈ vs, ∀ a, v.1 = some a → a.block < w.heap.size

section
variable {w0 w w' : World} {V : Option Addr} {cv : Nat} {vs : List (Option Addr × Nat × Nat)} {outs : List (List Nd)} {U : Option Addr} {uc : Nat} {us : List Nd}

theorem RowM.step (h : RowM w0 V cv vs outs U uc us w) (hb : Below w.heap.size w w') : RowM w0 V cv vs outs U uc us w' :=
  ⟨h.row.below hb (Nat.le_refl _), h.sls.keptBy (below_grown hb none) (fun k hk => by cases hk), h.cur.below hb (Nat.le_refl _), ext_trans h.bel hb, h.uv, h.su, h.sv, fun v hv a ha => Nat.lt_of_lt_of_le (h.lt v hv a ha) hb.size⟩

theorem RowM.alloc (h : RowM w0 V cv vs outs U uc us w) (o : Obj) : RowM w0 V cv vs outs U uc us (w.alloc o) := h.step (ext_alloc (Below.refl _ _) o)

/-- The type at hand is written. -/
theorem RowM.store {g : Nat} (h : RowM w0 V cv vs outs (some ⟨g, 0, none⟩) uc us w) {j : Nat} {x : Nd} (hx : us[j]? = some x) (v : Int) :
    g < w.heap.size ∧ w.cell? ⟨g, j * 3 + 2, none⟩ = some (.int .i64 x.n) ∧ w.frozen? ⟨g, j * 3 + 2, none⟩ = false ∧
      RowM w0 V cv vs outs (some ⟨g, 0, none⟩) uc (us.set j ⟨x.k, x.s, v⟩) (w.setCell ⟨g, j * 3 + 2, none⟩ (.int .i64 v)) := by
  obtain ⟨g2, e, hbg, hg, hc, hf, hown, hgr⟩ := OwnL.setM h.cur hx v
  injection e with e
  injection e with e _ _
  subst e
  refine ⟨hg, hc, hf, ⟨OwnL.kept h.row hgr (fun k hk a ha e => by cases hk; exact h.uv _ a rfl ha e.symm),
    h.sls.keptBy hgr (fun k hk v hv a ha e => by cases hk; exact h.su v hv a _ ha rfl e), hown, h.bel.grown hgr h.bel.size (fun k hk => by cases hk; exact hbg), h.uv, h.su, h.sv, fun v hv a ha => Nat.lt_of_lt_of_le (h.lt v hv a ha) hgr.size⟩⟩

/-- A copy is made, in a block that is new. -/
theorem RowM.fresh {U2 : Option Addr} {uc2 : Nat} {us2 : List Nd} (h : RowM w0 V cv vs outs U uc us w) (hown : OwnN w' w.heap.size U2 uc2 us2) (hb : Below w.heap.size w w') : RowM w0 V cv vs outs U2 uc2 us2 w' := by
  have hlo : ∀ a, U2 = some a → w.heap.size ≤ a.block := fun a ha => (OwnL.lt hown a ha).1
  have hs := h.step hb
  have hz := h.bel.size
  refine ⟨hs.row, hs.sls, OwnL.lower hown hz, hs.bel, fun a b ha hb e => ?_, fun v hv a b ha hb e => ?_, h.sv, hs.lt⟩
  · have := hlo a ha; have := (OwnL.lt h.row b hb).2; omega
  · have := hlo b hb; have := h.lt v hv a ha; omega

/-- The copy goes onto the row. -/
theorem RowM.app {V2 : Option Addr} {cv2 : Nat} (h : RowM w0 V cv vs outs U uc us w) (hown : OwnS w' w0.heap.size V2 cv2 (vs ++ [(U, us.length, uc)])) (hg : w.grownBy w' ((Value.slice V vs.length cv).ownBlock))
    (hA : (Value.slice V2 (vs.length + 1) cv2).ownBlock = (Value.slice V vs.length cv).ownBlock ∨ (Value.slice V2 (vs.length + 1) cv2).ownBlock = some w.heap.size) : RowM w0 V2 cv2 (vs ++ [(U, us.length, uc)]) (outs ++ [us]) none 0 [] w' := by
  have hV : ∀ a, V2 = some a → (∃ b, V = some b ∧ a.block = b.block) ∨ a.block = w.heap.size := fun a ha => by
    subst ha
    rcases hA with hA | hA
    · obtain ⟨b, hb, hbe⟩ := ownBlock_of (hA.symm.trans (show (Value.slice (some a) (vs.length + 1) cv2).ownBlock = some a.block from rfl))
      exact .inl ⟨b, hb, hbe.symm⟩
    · exact .inr (by simpa [Value.ownBlock] using hA)
  have hlow : ∀ k, (Value.slice V vs.length cv).ownBlock = some k → ∃ a, V = some a ∧ a.block = k := fun k hk => ownBlock_of hk
  have hU : ∀ a, U = some a → a.block < w.heap.size := fun a ha => (OwnL.lt h.cur a ha).2
  refine ⟨hown, ?_, OwnL.nil, h.bel.grown hg h.bel.size (fun k hk => (OwnL.block h.row k hk).1), (fun a b ha => by cases ha), (fun v hv a b _ hb => by cases hb), fun v hv a b ha hb e => ?_, fun v hv a ha => ?_⟩
  · have hs := h.sls.keptBy hg (fun k hk v hv a ha e => by
      obtain ⟨b, hb, hbe⟩ := hlow k hk
      exact h.sv v hv a b ha hb (by rw [e, hbe]))
    have hc := (OwnL.tyA h.cur).keptBy hg (fun k hk a ha e => by
      obtain ⟨b, hb, hbe⟩ := hlow k hk
      exact h.uv a b ha hb (by rw [e, hbe]))
    refine ⟨by simp [hs.1], fun i v xs hv hx => ?_⟩
    by_cases hi : i < vs.length
    · rw [List.getElem?_append_left hi] at hv
      rw [List.getElem?_append_left (by rw [← hs.1]; exact hi)] at hx
      exact hs.2 i v xs hv hx
    · have hi2 : i = vs.length := by have := getq_lt hv; simp at this; omega
      subst hi2
      rw [List.getElem?_append_right (Nat.le_refl _), Nat.sub_self] at hv
      rw [List.getElem?_append_right (by rw [hs.1]; exact Nat.le_refl _), hs.1, Nat.sub_self] at hx
      simp at hv hx
      subst hv hx
      exact ⟨rfl, hc⟩
  · rcases hV b hb with ⟨b', hb', hbe⟩ | hbe
    · rcases List.mem_append.1 hv with hv | hv
      · exact h.sv v hv a b' ha hb' (by rw [e, hbe])
      · simp at hv
        subst hv
        exact h.uv a b' ha hb' (by rw [e, hbe])
    · rcases List.mem_append.1 hv with hv | hv
      · have := h.lt v hv a ha; omega
      · simp at hv
        subst hv
        have := hU a ha; omega
  · have := hg.size
    rcases List.mem_append.1 hv with hv | hv
    · have := h.lt v hv a ha; omega
    · simp at hv
      subst hv
      have := hU a ha; omega
end

theorem RowM.start (w : World) (V : Option Addr) (cv : Nat) {w' : World} (h : OwnS w' w.heap.size V cv []) (hb : Below w.heap.size w w') : RowM w V cv [] [] none 0 [] w' :=
  ⟨h, ⟨rfl, fun i v xs hv => by simp at hv⟩, OwnL.nil, hb, (fun a b ha => by cases ha), (fun v hv => by cases hv), (fun v hv => by cases hv), (fun v hv => by cases hv)⟩

end Go.Proofs.Ytblfeokjlecgkaa

/- term.Canon, walked. -/
namespace Go.Proofs.Ytblfeokjlecgkaa
open Go.RowKit Go.Maps

section
variable {w : World} {ops : Array Oper} {rest : List Oper} {o : Oper} {a : Act} {Q : Exit → Act → World → Prop}

end

/-- What Canon gives back. -/
def CanPost (tss : List (List Nd)) (w : World) (e : Ending) (w' : World) : Prop :=
  ∃ (V : Option Addr) (cv : Nat) (vs : List (Option Addr × Nat × Nat)), e = .returned (.slice V vs.length cv) ∧ OwnS w' w.heap.size V cv vs ∧ Sls w' w'.heap.size vs tss ∧ Below w.heap.size w w'

end Go.Proofs.Ytblfeokjlecgkaa

/- leavenref12.Types, walked. -/
namespace Go.Proofs.Ytblfeokjlecgkaa
open Go.RowKit

theorem drop_eq_step {α : Type} [DecidableEq α] {la lb : List α} {k : Nat} {x y : α} (hx : la[k]? = some x) (hy : lb[k]? = some y) : decide (la.drop k = lb.drop k) = (decide (x = y) && decide (la.drop (k + 1) = lb.drop (k + 1))) := by
  rw [drop_cons hx, drop_cons hy]
  by_cases h : x = y <;> simp [h]

theorem Sls.drewN {w : World} {B : Nat} {vs : List (Option Addr × Nat × Nat)} {tss : List (List Nd)} (h : Sls w B vs tss) (n : Nat) : Sls (w.drewN n) B vs tss := ⟨h.1, fun i v xs hv hx => ⟨(h.2 i v xs hv hx).1, (h.2 i v xs hv hx).2.below (below_drewN (Below.refl _ _) n)⟩⟩
theorem ReadL.drewN {α : Type} {size : Nat} {enc : α → List Value} {w : World} {B : Nat} {A : Option Addr} {l : List α} (h : ReadL size enc w B A l) (n : Nat) : ReadL size enc (w.drewN n) B A l := h.below (below_drewN (Below.refl _ _) n)

set_option maxRecDepth 100000 in
set_option maxHeartbeats 1000000 in
theorem types_any (A B : Option Addr) (c d : Nat) (vs us : List (Option Addr × Nat × Nat)) (ass bss : List (List Nd)) (w : World) (hr : ReadS w w.heap.size A vs) (hr2 : ReadS w w.heap.size B us) (hS : Sls w w.heap.size vs ass) (hS2 : Sls w w.heap.size us bss)
    (hl : vs.length ≤ 1000000) (hok : ∀ xs ∈ ass, xs.length ≤ 1000000) :
    Calls Try.prog 21 #[.slice A vs.length c, .slice B us.length d] w fun e w' => e = .returned (.bool (decide (ass = bss))) ∧ ∃ n, w' = w.drewN n := by
  have e1 := hS.1
  have e2 := hS2.1
  have HA := Lib.hid (And.intro hr hS)
  have HB := Lib.hid (And.intro hr2 hS2)
  have Hok := Lib.hid hok
  clear hr hr2 hS hS2 hok
  by_cases hlen : vs.length = us.length
  · have E := Lib.hid (And.intro e1 (And.intro e2 hlen))
    rw [← hlen]
    clear e1 e2 hlen
    go_enter Try.func21, Try.ntmps21
    go_wp2_with fail
    go_loopw [5] (fun s5 wr => ∃ k : Nat, k ≤ vs.length ∧ s5 = .int .i64 k ∧ Hid (∃ n, wr = w.drewN n) ∧ Hid (decide (ass.drop k = bss.drop k) = decide (ass = bss))) (fun s5 _ => vs.length - (intOf s5).toNat)
    case atStart => exact ⟨0, Nat.zero_le _, rfl, Lib.hid ⟨0, rfl⟩, Lib.hid (by simp only [List.drop_zero])⟩
    case round =>
      obtain ⟨k, hk, rfl, hW, hgood⟩ := hrel
      have hAr : Hid (ReadS wr w.heap.size A vs ∧ Sls wr w.heap.size vs ass) := Lib.hid (by obtain ⟨n, rfl⟩ := hW.out; exact ⟨HA.out.1.drewN n, HA.out.2.drewN n⟩)
      have hBr : Hid (ReadS wr w.heap.size B us ∧ Sls wr w.heap.size us bss) := Lib.hid (by obtain ⟨n, rfl⟩ := hW.out; exact ⟨HB.out.1.drewN n, HB.out.2.drewN n⟩)
      by_cases hp : k < vs.length
      · obtain ⟨v, hv⟩ := getq_ex hp
        obtain ⟨u, hu⟩ := getq_ex (show k < us.length by have := E.out.2.2; omega)
        obtain ⟨xs, hx⟩ := getq_ex (show k < ass.length by have := E.out.1; omega)
        obtain ⟨ys, hy⟩ := getq_ex (show k < bss.length by have := E.out; omega)
        have hstep := Lib.hid (drop_eq_step hx hy)
        obtain ⟨b, o, rfl, hb, c0⟩ := ReadL.slice hAr.out.1 hv
        obtain ⟨b2, o2, rfl, hb2, c02⟩ := ReadL.slice hBr.out.1 hu
        obtain ⟨h1, h2⟩ := hAr.out.2.2 k v xs hv hx
        obtain ⟨h3, h4⟩ := hBr.out.2.2 k u ys hu hy
        have hxl := Hok.out xs (List.mem_of_getElem? hx)
        rw [h1] at c0
        rw [h3] at c02
        have H2 := Lib.hid (fun m => h2.below (below_drewN (Below.refl _ wr) m))
        have H4 := Lib.hid (fun m => h4.below (below_drewN (Below.refl _ wr) m))
        clear hv hu hx hy h1 h2 h3 h4
        cases hd : decide (xs = ys)
        all_goals
          have Hd := Lib.hid hd
          have Hq : Hid (∀ m, Calls Try.prog 30 #[.slice v.1 xs.length v.2.2, .slice u.1 ys.length u.2.2] (wr.drewN m) fun e w' => e = .returned (.bool (decide (xs = ys))) ∧ ∃ z, w' = (wr.drewN m).drewN z) := Lib.hid fun m => one_any v.1 u.1 v.2.2 u.2.2 _ _ xs ys _ (H2.out m) (H4.out m) (by omega)
          rw [hd] at Hq
          clear hd
          go_wp2_with fail
          go_quiet ((go_at_call 30; exact Calls.quiet_of (Hq.out _)))
          go_wp2_with fail
        · go_ret
          obtain ⟨n, rfl⟩ := hW.out
          exact ⟨ret_bool (by rw [← hgood.out, hstep.out, Hd.out]; rfl), _, World.drewN_drewN _ _ _⟩
        · go_roundw
          case rel => exact ⟨k + 1, hp, by go_num, Lib.hid (by obtain ⟨n, rfl⟩ := hW.out; exact ⟨_, World.drewN_drewN _ _ _⟩), Lib.hid (by rw [← hgood.out, hstep.out, Hd.out]; rfl)⟩
          case measure => simp [intOf]; omega
      · have hz : Hid (decide (ass = bss) = true) := Lib.hid (by
          rw [← hgood.out, List.drop_eq_nil_of_le (by have := E.out; omega), List.drop_eq_nil_of_le (by have := E.out; omega)]
          simp)
        go_wp2_with fail
        go_ret
        exact ⟨ret_bool (by rw [hz.out]), hW.out⟩
  · have hne : ((vs.length : Int) != (us.length : Int)) = true := by simpa using fun e => hlen (by omega)
    have hz : Hid (decide (ass = bss) = false) := Lib.hid (by
      rw [decide_eq_false]
      rintro rfl
      omega)
    clear e1 e2 hlen
    go_enter Try.func21, Try.ntmps21
    go_wp2_with fail
    go_ret
    exact ⟨ret_bool (by rw [hz.out]), 0, rfl⟩
end Go.Proofs.Ytblfeokjlecgkaa
