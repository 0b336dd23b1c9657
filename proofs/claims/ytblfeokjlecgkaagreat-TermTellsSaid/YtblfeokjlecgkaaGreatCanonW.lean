/- The canon of types, in plain lists. -/
import Derived.Test.YtblfeokjlecgkaaGreatFresh
import Derived.Test.YtblfeokjlecgkaaGreatTKids
import Derived.Maps.OwnSet
namespace Go.Proofs.YtblfeokjlecgkaaGreat

/-- Where a number stands in a row. -/
def posI (n : Int) : List Int → Nat
  | [] => 0
  | m :: l => if m = n then 0 else posI n l + 1

theorem posI_le (n : Int) : ∀ l : List Int, posI n l ≤ l.length
  | [] => Nat.le_refl _
  | m :: l => by
    unfold posI
    split
    · simp
    · have := posI_le n l; simp; omega

theorem posI_lt {n : Int} : ∀ {l : List Int}, n ∈ l → posI n l < l.length
  | m :: l, h => by
    unfold posI
    split
    · simp
    · next hne =>
      rcases List.mem_cons.1 h with rfl | h
      · exact absurd rfl hne
      · have := posI_lt h; simp; omega

theorem posI_get {n : Int} : ∀ {l : List Int}, n ∈ l → l[posI n l]? = some n
  | m :: l, h => by
    unfold posI
    split
    · next e => simp [e]
    · next hne =>
      rcases List.mem_cons.1 h with rfl | h
      · exact absurd rfl hne
      · simpa using posI_get h

theorem posI_new {n : Int} : ∀ {l : List Int}, n ∉ l → posI n (l ++ [n]) = l.length
  | [], _ => by simp [posI]
  | m :: l, h => by
    have hne : m ≠ n := fun e => h (by simp [e])
    rw [List.cons_append]
    unfold posI
    rw [if_neg hne, posI_new fun hm => h (by simp [hm])]
    rfl

theorem posI_old {n : Int} : ∀ {l : List Int} (r : List Int), n ∈ l → posI n (l ++ r) = posI n l
  | m :: l, r, h => by
    rw [List.cons_append]
    unfold posI
    split
    · rfl
    · next hne =>
      rcases List.mem_cons.1 h with rfl | h
      · exact absurd rfl hne
      · rw [posI_old r h]

/-- What is seen behind a node. -/
def seen (had : List Int) (x : Nd) : List Int := if isVarB x.k = true ∧ x.n ∉ had then had ++ [x.n] else had

/-- A node, its number as it was seen. -/
def canNd (had : List Int) (x : Nd) : Nd := if isVarB x.k = true then ⟨x.k, x.s, (posI x.n (seen had x) + 1 : Nat)⟩ else x

def seenL (had : List Int) : List Nd → List Int
  | [] => had
  | x :: xs => seenL (seen had x) xs

def canL (had : List Int) : List Nd → List Nd
  | [] => []
  | x :: xs => canNd had x :: canL (seen had x) xs

def seenT (had : List Int) : List (List Nd) → List Int
  | [] => had
  | t :: l => seenT (seenL had t) l

def canT (had : List Int) : List (List Nd) → List (List Nd)
  | [] => []
  | t :: l => canL had t :: canT (seenL had t) l

theorem canL_len : ∀ (had : List Int) (xs : List Nd), (canL had xs).length = xs.length
  | _, [] => rfl
  | had, x :: xs => by simp [canL, canL_len]

theorem canT_len : ∀ (had : List Int) (l : List (List Nd)), (canT had l).length = l.length
  | _, [] => rfl
  | had, t :: l => by simp [canT, canT_len]

/-- The numbers that were given so far. -/
def nums (m : Nat) : List Int := (List.range m).map fun (i : Nat) => ((i + 1 : Nat) : Int)

theorem nums_succ (m : Nat) : nums (m + 1) = nums m ++ [((m + 1 : Nat) : Int)] := by
  unfold nums
  rw [List.range_succ, List.map_append]
  rfl

theorem mem_nums {m : Nat} {n : Int} : n ∈ nums m ↔ 1 ≤ n ∧ n ≤ m := by
  unfold nums
  rw [List.mem_map]
  constructor
  · rintro ⟨i, hi, rfl⟩
    have := List.mem_range.1 hi
    omega
  · rintro ⟨h1, h2⟩
    exact ⟨(n - 1).toNat, List.mem_range.2 (by omega), by omega⟩

theorem nums_len (m : Nat) : (nums m).length = m := by simp [nums]

theorem posI_nums : ∀ {m i : Nat}, i < m → posI ((i + 1 : Nat) : Int) (nums m) = i
  | 0, i, h => by omega
  | m + 1, i, h => by
    rw [nums_succ]
    by_cases hi : i < m
    · rw [posI_old _ (mem_nums.2 (by omega)), posI_nums hi]
    · have : i = m := by omega
      subst this
      rw [posI_new (by rw [mem_nums]; omega), nums_len]

theorem seen_len (had : List Int) (x : Nd) : (seen had x).length = if isVarB x.k = true ∧ x.n ∉ had then had.length + 1 else had.length := by
  unfold seen
  split <;> simp

theorem canNd_k (had : List Int) (x : Nd) : (canNd had x).k = x.k ∧ (canNd had x).s = x.s := by
  unfold canNd
  split <;> exact ⟨rfl, rfl⟩

theorem canNd_n {had : List Int} {x : Nd} (h : isVarB x.k = true) : (canNd had x).n = ((posI x.n (seen had x) + 1 : Nat) : Int) := by
  unfold canNd
  rw [if_pos h]

theorem posI_seen {had : List Int} {x : Nd} (h : isVarB x.k = true) : posI x.n (seen had x) = if x.n ∈ had then posI x.n had else had.length := by
  unfold seen
  by_cases hm : x.n ∈ had
  · rw [if_neg (by simp [hm]), if_pos hm]
  · rw [if_pos ⟨h, hm⟩, if_neg hm, posI_new hm]

theorem canNd_var {had : List Int} {x : Nd} (h : isVarB x.k = true) : canNd had x = ⟨x.k, x.s, (posI x.n (seen had x) + 1 : Nat)⟩ := by
  unfold canNd
  rw [if_pos h]

/-- The canon is its own. -/
theorem can_again (had : List Int) (x : Nd) : canNd (nums had.length) (canNd had x) = canNd had x ∧ seen (nums had.length) (canNd had x) = nums (seen had x).length := by
  cases h : isVarB x.k
  · have e : canNd had x = x := by unfold canNd; rw [if_neg (by simp [h])]
    have e2 : seen had x = had := by unfold seen; rw [if_neg (by simp [h])]
    rw [e, e2]
    refine ⟨by unfold canNd; rw [if_neg (by simp [h])], by unfold seen; rw [if_neg (by simp [h])]⟩
  · have hk := canNd_k had x
    have hn := canNd_n (had := had) h
    have hv : isVarB (canNd had x).k = true := by rw [hk.1]; exact h
    rw [posI_seen h] at hn
    by_cases hm : x.n ∈ had
    · rw [if_pos hm] at hn
      have hlt := posI_lt hm
      have hin : (canNd had x).n ∈ nums had.length := by rw [hn, mem_nums]; omega
      have hs : seen (nums had.length) (canNd had x) = nums had.length := by unfold seen; rw [if_neg (by simp [hin])]
      refine ⟨?_, ?_⟩
      · rw [canNd_var (had := nums had.length) hv, hs, hn, posI_nums hlt, ← hn]
      · rw [hs, seen_len, if_neg (by simp [hm])]
    · rw [if_neg hm] at hn
      have hin : (canNd had x).n ∉ nums had.length := by rw [hn, mem_nums]; omega
      have hs : seen (nums had.length) (canNd had x) = nums (had.length + 1) := by
        unfold seen
        rw [if_pos ⟨hv, hin⟩, hn, nums_succ]
      refine ⟨?_, ?_⟩
      · rw [canNd_var (had := nums had.length) hv, hs, hn, posI_nums (by omega), ← hn]
      · rw [hs, seen_len, if_pos ⟨h, hm⟩]

theorem canL_again : ∀ (had : List Int) (xs : List Nd), canL (nums had.length) (canL had xs) = canL had xs ∧ seenL (nums had.length) (canL had xs) = nums (seenL had xs).length
  | had, [] => ⟨rfl, rfl⟩
  | had, x :: xs => by
    obtain ⟨h1, h2⟩ := can_again had x
    obtain ⟨h3, h4⟩ := canL_again (seen had x) xs
    exact ⟨by simp only [canL, h1, h2, h3], by simp only [canL, seenL, h2, h4]⟩

theorem canT_again : ∀ (had : List Int) (l : List (List Nd)), canT (nums had.length) (canT had l) = canT had l
  | had, [] => rfl
  | had, t :: l => by
    obtain ⟨h1, h2⟩ := canL_again had t
    simp only [canT, h1, h2, canT_again (seenL had t) l]

/-- Numbers moved by as much. -/
def movNd (by_ : Int) (x : Nd) : Nd := if isVarB x.k = true then ⟨x.k, x.s, x.n + by_⟩ else x

theorem posI_mov (n b : Int) : ∀ l : List Int, posI (n + b) (l.map (· + b)) = posI n l
  | [] => rfl
  | m :: l => by
    rw [List.map_cons]
    unfold posI
    rw [posI_mov n b l]
    by_cases h : m = n
    · rw [if_pos h, if_pos (by omega)]
    · rw [if_neg h, if_neg (by omega)]

theorem mem_mov {n b : Int} {l : List Int} : n + b ∈ l.map (· + b) ↔ n ∈ l := by
  rw [List.mem_map]
  constructor
  · rintro ⟨m, hm, e⟩
    have : m = n := by omega
    rwa [← this]
  · exact fun h => ⟨n, h, rfl⟩

theorem can_mov (b : Int) (had : List Int) (x : Nd) : canNd (had.map (· + b)) (movNd b x) = canNd had x ∧ seen (had.map (· + b)) (movNd b x) = (seen had x).map (· + b) := by
  cases h : isVarB x.k
  · have e : movNd b x = x := by unfold movNd; rw [if_neg (by simp [h])]
    rw [e]
    unfold canNd seen
    simp [h]
  · have e : movNd b x = ⟨x.k, x.s, x.n + b⟩ := by unfold movNd; rw [if_pos h]
    have hs : seen (had.map (· + b)) (movNd b x) = (seen had x).map (· + b) := by
      rw [e]
      unfold seen
      simp only [h, mem_mov, true_and]
      split <;> simp
    refine ⟨?_, hs⟩
    unfold canNd
    rw [hs]
    rw [e]
    simp only [h, if_true, posI_mov]

theorem canL_mov (b : Int) : ∀ (had : List Int) (xs : List Nd), canL (had.map (· + b)) (xs.map (movNd b)) = canL had xs ∧ seenL (had.map (· + b)) (xs.map (movNd b)) = (seenL had xs).map (· + b)
  | had, [] => ⟨rfl, rfl⟩
  | had, x :: xs => by
    obtain ⟨h1, h2⟩ := can_mov b had x
    obtain ⟨h3, h4⟩ := canL_mov b (seen had x) xs
    exact ⟨by simp only [List.map_cons, canL, h1, h2, h3], by simp only [List.map_cons, seenL, h2, h4]⟩

theorem canT_mov (b : Int) : ∀ (had : List Int) (l : List (List Nd)), canT (had.map (· + b)) (l.map (List.map (movNd b))) = canT had l
  | had, [] => rfl
  | had, t :: l => by
    obtain ⟨h1, h2⟩ := canL_mov b had t
    simp only [List.map_cons, canT, h1, h2, canT_mov b (seenL had t) l]
end Go.Proofs.YtblfeokjlecgkaaGreat

/- term.Canon, walked: a map of numbers, a row of types, each copied and numbered anew. -/
namespace Go.Proofs.YtblfeokjlecgkaaGreat
open Go.RowKit Go.Maps

theorem wfI {n : Int} (h0 : -9223372036854775808 ≤ n) (h1 : n ≤ 9223372036854775807) : (Lit.int .i64 n).wf = true := by
  have e1 : IntKind.i64.min = -9223372036854775808 := rfl
  have e2 : IntKind.i64.max = 9223372036854775807 := rfl
  simp [Lit.wf, e1, e2, h0, h1]

theorem lawI : Keyed Tryz.prog 3 := int_keyed Tryz.underlying3
theorem zeroI (w : World) : (zeroValue 3).run Tryz.prog w = .ok (.int .i64 0) w := by kernel_rfl
theorem keyI {n : Int} (h0 : -9223372036854775808 ≤ n) (h1 : n ≤ 9223372036854775807) : keyOf Tryz.prog 3 (.int .i64 n) = some (.int .i64 n) :=
  keyOf_int_mk Tryz.underlying3 (wfI h0 h1)

/-- The map holds each number's place. -/
structure MapOf (had : List Int) (D : DataW Unit) : Prop where
  tidy : Tidy D
  size : Maps.size D = had.length
  has : ∀ n : Int, Maps.has D (.int .i64 n) = decide (n ∈ had)
  at_ : ∀ n : Int, n ∈ had → D.atKey (.int .i64 n) (.lit (.int .i64 0)) = .lit (.int .i64 ((posI n had + 1 : Nat) : Int))

theorem mapOf_nil : MapOf [] (.map []) := ⟨tidy_empty, rfl, fun n => by simp [Maps.has], fun n h => by simp at h⟩

theorem MapOf.put {had : List Int} {D : DataW Unit} (h : MapOf had D) {n : Int} (hn : n ∉ had) : MapOf (had ++ [n]) (D.put (.int .i64 n) (.lit (.int .i64 ((had.length + 1 : Nat) : Int)))) := by
  have hk : Go.WideAt.IsKeyLit (.int .i64 n) := trivial
  refine ⟨h.tidy.put hk _, ?_, fun m => ?_, fun m hm => ?_⟩
  · rw [size_put h.tidy, h.has, if_neg (by simpa using hn), h.size]
    simp
  · by_cases e : m = n
    · subst e
      rw [has_put_same h.tidy.isMap hk]
      simp
    · rw [has_put_other (by intro e2; injection e2 with _ e2; exact e e2), h.has]
      simp [e]
  · by_cases e : m = n
    · subst e
      rw [atKey_put_same h.tidy.isMap hk, posI_new hn]
    · have hm' : m ∈ had := by
        rcases List.mem_append.1 hm with h | h
        · exact h
        · simp at h; exact absurd h e
      rw [atKey_put_other (by intro e2; injection e2 with _ e2; exact e e2), h.at_ m hm', posI_old _ hm']

/-- What Canon holds: the map, the row of types that are done, the one at hand. -/
structure CanM (w0 : World) (B : Nat) (D : DataW Unit) (hn : Nat) (V : Option Addr) (cv : Nat) (vs : List (Option Addr × Nat × Nat)) (outs : List (List Nd)) (U : Option Addr) (uc : Nat) (us : List Nd) (w : World) : Prop where
  map : w.ownsMap Tryz.prog 3 (plainElem Tryz.prog 3) B hn D
  row : OwnS w w0.heap.size V cv vs
  sls : Sls w w.heap.size vs outs
  cur : OwnN w w0.heap.size U uc us
  bel : Below w0.heap.size w0 w
  low : w0.heap.size ≤ B
  ub : ∀ a, U = some a → a.block ≠ B
  vb : ∀ a, V = some a → a.block ≠ B
  uv : Off U V
  sb : ∀ v ∈ vs, ∀ a, v.1 = some a → a.block ≠ B
  su : ∀ v ∈ vs, Off v.1 U
  sv : ∀ v ∈ vs, Off v.1 V
  lt : ∀ v ∈ vs, ∀ a, v.1 = some a → a.block < w.heap.size

theorem TyA.keptBy {w w' : World} {X : Option Addr} {xs : List Nd} {row : Option Nat} (h : TyA w w.heap.size X xs) (hg : w.grownBy w' row) (hne : ∀ k, row = some k → ∀ a, X = some a → a.block ≠ k) : TyA w' w'.heap.size X xs := by
  refine TyA.more (B := w.heap.size) (ReadL.tyA fun hx => ?_) hg.size
  obtain ⟨b, o, rfl, hb, hc⟩ := h.readL hx
  refine ⟨b, o, rfl, hb, fun i x hx j u hu => ?_⟩
  have hblk := hg.block b hb (fun e => hne b e.symm _ rfl rfl)
  rw [World.cell?_of_block (a := ⟨b, o + i * 3 + j, none⟩) hblk]
  exact hc i x hx j u hu

theorem Sls.keptBy {w w' : World} {vs : List (Option Addr × Nat × Nat)} {outs : List (List Nd)} {row : Option Nat} (h : Sls w w.heap.size vs outs) (hg : w.grownBy w' row) (hne : ∀ k, row = some k → ∀ v ∈ vs, ∀ a, v.1 = some a → a.block ≠ k) : Sls w' w'.heap.size vs outs :=
  ⟨h.1, fun i v xs hv hx => by
    obtain ⟨h1, h2⟩ := h.2 i v xs hv hx
    exact ⟨h1, h2.keptBy hg fun k hk => hne k hk v (List.mem_of_getElem? hv)⟩⟩

section
variable {w0 w w' : World} {B : Nat} {D : DataW Unit} {hn : Nat} {V : Option Addr} {cv : Nat} {vs : List (Option Addr × Nat × Nat)} {outs : List (List Nd)} {U : Option Addr} {uc : Nat} {us : List Nd}

theorem CanM.step (h : CanM w0 B D hn V cv vs outs U uc us w) (hb : Below w.heap.size w w') : CanM w0 B D hn V cv vs outs U uc us w' :=
  ⟨h.map.kept (below_grown hb none) (by simp), h.row.below hb (Nat.le_refl _), h.sls.keptBy (below_grown hb none) (fun k hk => by cases hk), h.cur.below hb (Nat.le_refl _), ext_trans h.bel hb, h.low, h.ub, h.vb, h.uv, h.sb, h.su, h.sv, fun v hv a ha => Nat.lt_of_lt_of_le (h.lt v hv a ha) hb.size⟩

theorem CanM.alloc (h : CanM w0 B D hn V cv vs outs U uc us w) (o : Obj) : CanM w0 B D hn V cv vs outs U uc us (w.alloc o) := h.step (ext_alloc (Below.refl _ _) o)

/-- A number goes into the map. -/
theorem CanM.put {D' : DataW Unit} {hn' : Nat} (h : CanM w0 B D hn V cv vs outs U uc us w) (hm : w'.ownsMap Tryz.prog 3 (plainElem Tryz.prog 3) B hn' D') (hg : w.grownBy w' (some B)) : CanM w0 B D' hn' V cv vs outs U uc us w' :=
  ⟨hm, OwnL.kept h.row hg (fun k hk a ha => by cases hk; exact h.vb a ha), h.sls.keptBy hg (fun k hk v hv a ha => by cases hk; exact h.sb v hv a ha), OwnL.kept h.cur hg (fun k hk a ha => by cases hk; exact h.ub a ha),
    h.bel.grown hg h.bel.size (fun k hk => by cases hk; exact h.low), h.low, h.ub, h.vb, h.uv, h.sb, h.su, h.sv, fun v hv a ha => Nat.lt_of_lt_of_le (h.lt v hv a ha) hg.size⟩

/-- The type at hand is written. -/
theorem CanM.store {g : Nat} (h : CanM w0 B D hn V cv vs outs (some ⟨g, 0, none⟩) uc us w) {j : Nat} {x : Nd} (hx : us[j]? = some x) (v : Int) :
    g < w.heap.size ∧ w.cell? ⟨g, j * 3 + 2, none⟩ = some (.int .i64 x.n) ∧ w.frozen? ⟨g, j * 3 + 2, none⟩ = false ∧
      CanM w0 B D hn V cv vs outs (some ⟨g, 0, none⟩) uc (us.set j ⟨x.k, x.s, v⟩) (w.setCell ⟨g, j * 3 + 2, none⟩ (.int .i64 v)) := by
  obtain ⟨g2, e, hbg, hg, hc, hf, hown, hgr⟩ := OwnL.setM h.cur hx v
  injection e with e
  injection e with e _ _
  subst e
  refine ⟨hg, hc, hf, ⟨h.map.kept hgr (by have := h.ub _ rfl; simpa using fun e => this e.symm), OwnL.kept h.row hgr (fun k hk a ha e => by cases hk; exact h.uv _ a rfl ha e.symm),
    h.sls.keptBy hgr (fun k hk v hv a ha e => by cases hk; exact h.su v hv a _ ha rfl e), hown, h.bel.grown hgr h.bel.size (fun k hk => by cases hk; exact hbg), h.low, h.ub, h.vb, h.uv, h.sb, h.su, h.sv, fun v hv a ha => Nat.lt_of_lt_of_le (h.lt v hv a ha) hgr.size⟩⟩

/-- A copy is made. -/
theorem CanM.clone {U2 : Option Addr} {uc2 : Nat} {us2 : List Nd} (h : CanM w0 B D hn V cv vs outs U uc us w) (hown : OwnN w' w.heap.size U2 uc2 us2) (hb : Below w.heap.size w w') : CanM w0 B D hn V cv vs outs U2 uc2 us2 w' := by
  have hlo : ∀ a, U2 = some a → w.heap.size ≤ a.block := fun a ha => (OwnL.lt hown a ha).1
  have hs := h.step hb
  have hz := h.bel.size
  have hBl := h.map.lt
  refine ⟨hs.map, hs.row, hs.sls, OwnL.lower hown hz, hs.bel, h.low, fun a ha => ?_, h.vb, fun a b ha hb e => ?_, h.sb, fun v hv a b ha hb e => ?_, h.sv, hs.lt⟩
  · have := hlo a ha; omega
  · have := hlo a ha; have := (OwnL.lt h.row b hb).2; omega
  · have := hlo b hb; have := h.lt v hv a ha; omega

/-- The copy goes onto the row. -/
theorem CanM.app {V2 : Option Addr} {cv2 : Nat} (h : CanM w0 B D hn V cv vs outs U uc us w) (hown : OwnS w' w0.heap.size V2 cv2 (vs ++ [(U, us.length, uc)])) (hg : w.grownBy w' ((Value.slice V vs.length cv).ownBlock))
    (hA : (Value.slice V2 (vs.length + 1) cv2).ownBlock = (Value.slice V vs.length cv).ownBlock ∨ (Value.slice V2 (vs.length + 1) cv2).ownBlock = some w.heap.size) : CanM w0 B D hn V2 cv2 (vs ++ [(U, us.length, uc)]) (outs ++ [us]) none 0 [] w' := by
  have hBl := h.map.lt
  have hV : ∀ a, V2 = some a → (∃ b, V = some b ∧ a.block = b.block) ∨ a.block = w.heap.size := fun a ha => by
    subst ha
    rcases hA with hA | hA
    · obtain ⟨b, hb, hbe⟩ := ownBlock_of (hA.symm.trans (show (Value.slice (some a) (vs.length + 1) cv2).ownBlock = some a.block from rfl))
      exact .inl ⟨b, hb, hbe.symm⟩
    · exact .inr (by simpa [Value.ownBlock] using hA)
  have hlow : ∀ k, (Value.slice V vs.length cv).ownBlock = some k → ∃ a, V = some a ∧ a.block = k := fun k hk => ownBlock_of hk
  have hU : ∀ a, U = some a → a.block < w.heap.size := fun a ha => (OwnL.lt h.cur a ha).2
  refine ⟨h.map.kept hg ?_, hown, ?_, OwnL.nil, h.bel.grown hg h.bel.size (fun k hk => (OwnL.block h.row k hk).1), h.low, by simp, fun a ha => ?_, (fun a b ha => by cases ha), fun v hv a ha => ?_, (fun v hv a b _ hb => by cases hb), fun v hv a b ha hb e => ?_, fun v hv a ha => ?_⟩
  · intro e
    obtain ⟨a, ha, hab⟩ := hlow B e.symm
    exact h.vb a ha hab
  · have hs := h.sls.keptBy hg (fun k hk v hv a ha e => by
      obtain ⟨b, hb, hbe⟩ := hlow k hk
      exact h.sv v hv a b ha hb (by rw [e, hbe]))
    have hc := (OwnL.tyA h.cur).keptBy hg (fun k hk a ha e => by
      obtain ⟨b, hb, hbe⟩ := hlow k hk
      exact h.uv a b ha hb (by rw [e, hbe]))
    refine ⟨by simp [hs.1], fun i v xs hv hx => ?_⟩
    by_cases hi : i < vs.length
    · rw [List.getElem?_append_left hi] at hv
      rw [List.getElem?_append_left (by rw [← hs.1]; exact hi)] at hx
      exact hs.2 i v xs hv hx
    · have hi2 : i = vs.length := by have := getq_lt hv; simp at this; omega
      subst hi2
      rw [List.getElem?_append_right (Nat.le_refl _), Nat.sub_self] at hv
      rw [List.getElem?_append_right (by rw [hs.1]; exact Nat.le_refl _), hs.1, Nat.sub_self] at hx
      simp at hv hx
      subst hv hx
      exact ⟨rfl, hc⟩
  · rcases hV a ha with ⟨b, hb, hbe⟩ | hbe
    · rw [hbe]; exact h.vb b hb
    · omega
  · rcases List.mem_append.1 hv with hv | hv
    · exact h.sb v hv a ha
    · simp at hv
      subst hv
      exact h.ub a ha
  · rcases hV b hb with ⟨b', hb', hbe⟩ | hbe
    · rcases List.mem_append.1 hv with hv | hv
      · exact h.sv v hv a b' ha hb' (by rw [e, hbe])
      · simp at hv
        subst hv
        exact h.uv a b' ha hb' (by rw [e, hbe])
    · rcases List.mem_append.1 hv with hv | hv
      · have := h.lt v hv a ha; omega
      · simp at hv
        subst hv
        have := hU a ha; omega
  · have := hg.size
    rcases List.mem_append.1 hv with hv | hv
    · have := h.lt v hv a ha; omega
    · simp at hv
      subst hv
      have := hU a ha; omega
end

/-- The first so many nodes numbered. -/
def canTo (had : List Int) (xs : List Nd) (j : Nat) : List Nd := canL had (xs.take j) ++ xs.drop j

theorem canL_append : ∀ (had : List Int) (a b : List Nd), canL had (a ++ b) = canL had a ++ canL (seenL had a) b
  | _, [], _ => rfl
  | had, x :: a, b => by simp only [List.cons_append, canL, seenL, canL_append (seen had x) a b]

theorem seenL_append : ∀ (had : List Int) (a b : List Nd), seenL had (a ++ b) = seenL (seenL had a) b
  | _, [], _ => rfl
  | had, x :: a, b => by simp only [List.cons_append, seenL, seenL_append (seen had x) a b]

theorem canT_append : ∀ (had : List Int) (a b : List (List Nd)), canT had (a ++ b) = canT had a ++ canT (seenT had a) b
  | _, [], _ => rfl
  | had, x :: a, b => by simp only [List.cons_append, canT, seenT, canT_append (seenL had x) a b]

theorem seenT_append : ∀ (had : List Int) (a b : List (List Nd)), seenT had (a ++ b) = seenT (seenT had a) b
  | _, [], _ => rfl
  | had, x :: a, b => by simp only [List.cons_append, seenT, seenT_append (seenL had x) a b]

theorem seenL_le : ∀ (had : List Int) (xs : List Nd), (seenL had xs).length ≤ had.length + xs.length
  | _, [] => Nat.le_refl _
  | had, x :: xs => by
    have h1 := seenL_le (seen had x) xs
    have h2 := seen_len had x
    simp only [seenL, List.length_cons]
    split at h2 <;> omega

theorem seenT_le {m : Nat} : ∀ (had : List Int) (l : List (List Nd)), (∀ xs ∈ l, xs.length ≤ m) → (seenT had l).length ≤ had.length + l.length * m
  | _, [], _ => by simp [seenT]
  | had, x :: l, h => by
    have h1 := seenT_le (seenL had x) l fun xs hx => h xs (by simp [hx])
    have h2 := seenL_le had x
    have h3 := h x (by simp)
    simp only [seenT, List.length_cons, Nat.succ_mul]
    omega

theorem seenL_step {had : List Int} {xs : List Nd} {j : Nat} {x : Nd} (h : xs[j]? = some x) : seenL had (xs.take (j + 1)) = seen (seenL had (xs.take j)) x := by
  rw [List.take_add_one, h, seenL_append]
  rfl

theorem seenT_step {l : List (List Nd)} {k : Nat} {xs : List Nd} (h : l[k]? = some xs) : seenT [] (l.take (k + 1)) = seenL (seenT [] (l.take k)) xs ∧ canT [] (l.take (k + 1)) = canT [] (l.take k) ++ [canL (seenT [] (l.take k)) xs] := by
  rw [List.take_add_one, h, seenT_append, canT_append]
  exact ⟨rfl, rfl⟩

theorem canTo_zero (had : List Int) (xs : List Nd) : canTo had xs 0 = xs := by simp [canTo, canL]
theorem canTo_end (had : List Int) (xs : List Nd) : canTo had xs xs.length = canL had xs := by simp [canTo]
theorem canTo_len (had : List Int) (xs : List Nd) (j : Nat) : (canTo had xs j).length = xs.length := by
  unfold canTo
  rw [List.length_append, canL_len, ← List.length_append, List.take_append_drop]

theorem canTo_at {had : List Int} {xs : List Nd} {j : Nat} {x : Nd} (h : xs[j]? = some x) : (canTo had xs j)[j]? = some x := by
  have hi := getq_lt h
  unfold canTo
  have hl : (canL had (xs.take j)).length = j := by rw [canL_len, List.length_take]; omega
  rw [List.getElem?_append_right (by omega), hl, Nat.sub_self, List.getElem?_drop]
  simpa using h

theorem canTo_step {had : List Int} {xs : List Nd} {j : Nat} {x : Nd} (h : xs[j]? = some x) : canTo had xs (j + 1) = (canTo had xs j).set j (canNd (seenL had (xs.take j)) x) := by
  have hi := getq_lt h
  have hl : (canL had (xs.take j)).length = j := by rw [canL_len, List.length_take]; omega
  unfold canTo
  rw [List.take_add_one, h, canL_append, List.set_append_right _ _ (by omega), hl, Nat.sub_self, drop_cons h, List.append_assoc]
  rfl

theorem can_no {had : List Int} {x : Nd} (h : isVarB x.k = false) : canNd had x = x ∧ seen had x = had := by
  unfold canNd seen
  simp [h]
end Go.Proofs.YtblfeokjlecgkaaGreat

/- A row of types that is laid type by type: what is done, the one at hand. -/
namespace Go.Proofs.YtblfeokjlecgkaaGreat
open Go.RowKit

structure RowM (w0 : World) (V : Option Addr) (cv : Nat) (vs : List (Option Addr × Nat × Nat)) (outs : List (List Nd)) (U : Option Addr) (uc : Nat) (us : List Nd) (w : World) : Prop where
  row : OwnS w w0.heap.size V cv vs
  sls : Sls w w.heap.size vs outs
  cur : OwnN w w0.heap.size U uc us
  bel : Below w0.heap.size w0 w
  uv : Off U V
  su : ∀ v ∈ vs, Off v.1 U
  sv : ∀ v ∈ vs, Off v.1 V
  lt : ∀ v ∈ vs, ∀ a, v.1 = some a → a.block < w.heap.size

section
variable {w0 w w' : World} {V : Option Addr} {cv : Nat} {vs : List (Option Addr × Nat × Nat)} {outs : List (List Nd)} {U : Option Addr} {uc : Nat} {us : List Nd}

theorem RowM.step (h : RowM w0 V cv vs outs U uc us w) (hb : Below w.heap.size w w') : RowM w0 V cv vs outs U uc us w' :=
  ⟨h.row.below hb (Nat.le_refl _), h.sls.keptBy (below_grown hb none) (fun k hk => by cases hk), h.cur.below hb (Nat.le_refl _), ext_trans h.bel hb, h.uv, h.su, h.sv, fun v hv a ha => Nat.lt_of_lt_of_le (h.lt v hv a ha) hb.size⟩

theorem RowM.alloc (h : RowM w0 V cv vs outs U uc us w) (o : Obj) : RowM w0 V cv vs outs U uc us (w.alloc o) := h.step (ext_alloc (Below.refl _ _) o)

/-- The type at hand is written. -/
theorem RowM.store {g : Nat} (h : RowM w0 V cv vs outs (some ⟨g, 0, none⟩) uc us w) {j : Nat} {x : Nd} (hx : us[j]? = some x) (v : Int) :
    g < w.heap.size ∧ w.cell? ⟨g, j * 3 + 2, none⟩ = some (.int .i64 x.n) ∧ w.frozen? ⟨g, j * 3 + 2, none⟩ = false ∧
      RowM w0 V cv vs outs (some ⟨g, 0, none⟩) uc (us.set j ⟨x.k, x.s, v⟩) (w.setCell ⟨g, j * 3 + 2, none⟩ (.int .i64 v)) := by
  obtain ⟨g2, e, hbg, hg, hc, hf, hown, hgr⟩ := OwnL.setM h.cur hx v
  injection e with e
  injection e with e _ _
  subst e
  refine ⟨hg, hc, hf, ⟨OwnL.kept h.row hgr (fun k hk a ha e => by cases hk; exact h.uv _ a rfl ha e.symm),
    h.sls.keptBy hgr (fun k hk v hv a ha e => by cases hk; exact h.su v hv a _ ha rfl e), hown, h.bel.grown hgr h.bel.size (fun k hk => by cases hk; exact hbg), h.uv, h.su, h.sv, fun v hv a ha => Nat.lt_of_lt_of_le (h.lt v hv a ha) hgr.size⟩⟩

/-- A copy is made, in a block that is new. -/
theorem RowM.fresh {U2 : Option Addr} {uc2 : Nat} {us2 : List Nd} (h : RowM w0 V cv vs outs U uc us w) (hown : OwnN w' w.heap.size U2 uc2 us2) (hb : Below w.heap.size w w') : RowM w0 V cv vs outs U2 uc2 us2 w' := by
  have hlo : ∀ a, U2 = some a → w.heap.size ≤ a.block := fun a ha => (OwnL.lt hown a ha).1
  have hs := h.step hb
  have hz := h.bel.size
  refine ⟨hs.row, hs.sls, OwnL.lower hown hz, hs.bel, fun a b ha hb e => ?_, fun v hv a b ha hb e => ?_, h.sv, hs.lt⟩
  · have := hlo a ha; have := (OwnL.lt h.row b hb).2; omega
  · have := hlo b hb; have := h.lt v hv a ha; omega

/-- The copy goes onto the row. -/
theorem RowM.app {V2 : Option Addr} {cv2 : Nat} (h : RowM w0 V cv vs outs U uc us w) (hown : OwnS w' w0.heap.size V2 cv2 (vs ++ [(U, us.length, uc)])) (hg : w.grownBy w' ((Value.slice V vs.length cv).ownBlock))
    (hA : (Value.slice V2 (vs.length + 1) cv2).ownBlock = (Value.slice V vs.length cv).ownBlock ∨ (Value.slice V2 (vs.length + 1) cv2).ownBlock = some w.heap.size) : RowM w0 V2 cv2 (vs ++ [(U, us.length, uc)]) (outs ++ [us]) none 0 [] w' := by
  have hV : ∀ a, V2 = some a → (∃ b, V = some b ∧ a.block = b.block) ∨ a.block = w.heap.size := fun a ha => by
    subst ha
    rcases hA with hA | hA
    · obtain ⟨b, hb, hbe⟩ := ownBlock_of (hA.symm.trans (show (Value.slice (some a) (vs.length + 1) cv2).ownBlock = some a.block from rfl))
      exact .inl ⟨b, hb, hbe.symm⟩
    · exact .inr (by simpa [Value.ownBlock] using hA)
  have hlow : ∀ k, (Value.slice V vs.length cv).ownBlock = some k → ∃ a, V = some a ∧ a.block = k := fun k hk => ownBlock_of hk
  have hU : ∀ a, U = some a → a.block < w.heap.size := fun a ha => (OwnL.lt h.cur a ha).2
  refine ⟨hown, ?_, OwnL.nil, h.bel.grown hg h.bel.size (fun k hk => (OwnL.block h.row k hk).1), (fun a b ha => by cases ha), (fun v hv a b _ hb => by cases hb), fun v hv a b ha hb e => ?_, fun v hv a ha => ?_⟩
  · have hs := h.sls.keptBy hg (fun k hk v hv a ha e => by
      obtain ⟨b, hb, hbe⟩ := hlow k hk
      exact h.sv v hv a b ha hb (by rw [e, hbe]))
    have hc := (OwnL.tyA h.cur).keptBy hg (fun k hk a ha e => by
      obtain ⟨b, hb, hbe⟩ := hlow k hk
      exact h.uv a b ha hb (by rw [e, hbe]))
    refine ⟨by simp [hs.1], fun i v xs hv hx => ?_⟩
    by_cases hi : i < vs.length
    · rw [List.getElem?_append_left hi] at hv
      rw [List.getElem?_append_left (by rw [← hs.1]; exact hi)] at hx
      exact hs.2 i v xs hv hx
    · have hi2 : i = vs.length := by have := getq_lt hv; simp at this; omega
      subst hi2
      rw [List.getElem?_append_right (Nat.le_refl _), Nat.sub_self] at hv
      rw [List.getElem?_append_right (by rw [hs.1]; exact Nat.le_refl _), hs.1, Nat.sub_self] at hx
      simp at hv hx
      subst hv hx
      exact ⟨rfl, hc⟩
  · rcases hV b hb with ⟨b', hb', hbe⟩ | hbe
    · rcases List.mem_append.1 hv with hv | hv
      · exact h.sv v hv a b' ha hb' (by rw [e, hbe])
      · simp at hv
        subst hv
        exact h.uv a b' ha hb' (by rw [e, hbe])
    · rcases List.mem_append.1 hv with hv | hv
      · have := h.lt v hv a ha; omega
      · simp at hv
        subst hv
        have := hU a ha; omega
  · have := hg.size
    rcases List.mem_append.1 hv with hv | hv
    · have := h.lt v hv a ha; omega
    · simp at hv
      subst hv
      have := hU a ha; omega
end

theorem RowM.start (w : World) (V : Option Addr) (cv : Nat) {w' : World} (h : OwnS w' w.heap.size V cv []) (hb : Below w.heap.size w w') : RowM w V cv [] [] none 0 [] w' :=
  ⟨h, ⟨rfl, fun i v xs hv => by simp at hv⟩, OwnL.nil, hb, (fun a b ha => by cases ha), (fun v hv => by cases hv), (fun v hv => by cases hv), (fun v hv => by cases hv)⟩

/-- The first so many nodes moved. -/
def movTo (n : Int) (xs : List Nd) (j : Nat) : List Nd := (xs.take j).map (movNd n) ++ xs.drop j

theorem movTo_zero (n : Int) (xs : List Nd) : movTo n xs 0 = xs := by simp [movTo]
theorem movTo_end (n : Int) (xs : List Nd) : movTo n xs xs.length = xs.map (movNd n) := by simp [movTo]
theorem movTo_len (n : Int) (xs : List Nd) (j : Nat) : (movTo n xs j).length = xs.length := by
  unfold movTo
  rw [List.length_append, List.length_map, ← List.length_append, List.take_append_drop]

theorem movTo_at {n : Int} {xs : List Nd} {j : Nat} {x : Nd} (h : xs[j]? = some x) : (movTo n xs j)[j]? = some x := by
  have hi := getq_lt h
  unfold movTo
  have hl : ((xs.take j).map (movNd n)).length = j := by rw [List.length_map, List.length_take]; omega
  rw [List.getElem?_append_right (by omega), hl, Nat.sub_self, List.getElem?_drop]
  simpa using h

theorem movTo_step {n : Int} {xs : List Nd} {j : Nat} {x : Nd} (h : xs[j]? = some x) : movTo n xs (j + 1) = (movTo n xs j).set j (movNd n x) := by
  have hi := getq_lt h
  have hl : ((xs.take j).map (movNd n)).length = j := by rw [List.length_map, List.length_take]; omega
  unfold movTo
  rw [List.take_add_one, h, List.map_append, List.set_append_right _ _ (by omega), hl, Nat.sub_self, drop_cons h, List.append_assoc]
  rfl

theorem mov_no {n : Int} {x : Nd} (h : isVarB x.k = false) : movNd n x = x := by
  unfold movNd
  simp [h]

theorem mov_yes {n : Int} {x : Nd} (h : isVarB x.k = true) : movNd n x = ⟨x.k, x.s, x.n + n⟩ := by
  unfold movNd
  simp [h]

/-- How many numbers were seen ahead of a node. -/
def hadAt (l : List (List Nd)) (i k : Nat) : List Int := seenL (seenT [] (l.take i)) ((l.getD i []).take k)

theorem canT_get : ∀ (had : List Int) (l : List (List Nd)) (i : Nat) (xs : List Nd), l[i]? = some xs → (canT had l)[i]? = some (canL (seenT had (l.take i)) xs)
  | _, [], i, xs, h => by simp at h
  | had, t :: l, 0, xs, h => by
    simp at h
    subst h
    rfl
  | had, t :: l, i + 1, xs, h => by
    rw [List.getElem?_cons_succ] at h
    simp only [canT, List.getElem?_cons_succ, List.take_succ_cons, seenT]
    exact canT_get (seenL had t) l i xs h

theorem canL_get : ∀ (had : List Int) (xs : List Nd) (k : Nat) (x : Nd), xs[k]? = some x → (canL had xs)[k]? = some (canNd (seenL had (xs.take k)) x)
  | _, [], k, x, h => by simp at h
  | had, y :: xs, 0, x, h => by
    simp at h
    subst h
    rfl
  | had, y :: xs, k + 1, x, h => by
    rw [List.getElem?_cons_succ] at h
    simp only [canL, List.getElem?_cons_succ, List.take_succ_cons, seenL]
    exact canL_get (seen had y) xs k x h

/-- A variable's number in the canon: at most the next one, which it is just if it is new. -/
theorem can_next {had : List Int} {x : Nd} (h : isVarB x.k = true) : 1 ≤ (canNd had x).n ∧ (canNd had x).n ≤ (had.length : Int) + 1 ∧ ((canNd had x).n = (had.length : Int) + 1 ↔ (seen had x).length = had.length + 1) ∧ ((canNd had x).n ≠ (had.length : Int) + 1 → (seen had x).length = had.length) := by
  have hn := canNd_n (had := had) h
  rw [posI_seen h] at hn
  rw [seen_len]
  by_cases hm : x.n ∈ had
  · rw [if_pos hm] at hn
    have hlt := posI_lt hm
    rw [if_neg (by simp [hm])]
    refine ⟨by omega, by omega, ⟨fun e => by omega, fun e => by omega⟩, fun _ => rfl⟩
  · rw [if_neg hm] at hn
    rw [if_pos ⟨h, hm⟩]
    refine ⟨by omega, by omega, ⟨fun _ => rfl, fun _ => by omega⟩, fun e => absurd (by omega) e⟩
end Go.Proofs.YtblfeokjlecgkaaGreat

/- term.Canon, walked. -/
namespace Go.Proofs.YtblfeokjlecgkaaGreat
open Go.RowKit Go.Maps

section
variable {w : World} {ops : Array Oper} {rest : List Oper} {o : Oper} {a : Act} {Q : Exit → Act → World → Prop}

/-- A look into the map, what is there being known. -/
theorem wpList_lookK (hg : o.guard = none) (m x : Operand) (hop : o.op = Op.lookup 51 m x false) (b n : Nat) (D : DataW Unit) (hm : a.eval m = .map (some b))
    (hown : w.ownsMap Tryz.prog 3 (plainElem Tryz.prog 3) b n D) (key : Int) (hx : a.eval x = .int .i64 key) (hkey : keyOf Tryz.prog 3 (.int .i64 key) = some (.int .i64 key)) (v : Int)
    (hat : D.atKey (.int .i64 key) (.lit (.int .i64 0)) = .lit (.int .i64 v)) (h : wpList Tryz.prog ops Q rest (a.put o.dst (.int .i64 v)) w) : wpList Tryz.prog ops Q (o :: rest) a w :=
  wpList_lookup_own_int w hg m x 51 hop 3 3 .i64 lawI Tryz.underlying51 Tryz.underlying3 (zeroI _) b n D hm hown _ _ hx hkey fun c hc _ => by
    rw [hat] at hc
    injection hc with hc
    injection hc with _ hc
    rw [← hc]
    exact h

theorem wpList_lookOkK (hg : o.guard = none) (m x : Operand) (hop : o.op = Op.lookup 51 m x true) (b n : Nat) (D : DataW Unit) (hm : a.eval m = .map (some b))
    (hown : w.ownsMap Tryz.prog 3 (plainElem Tryz.prog 3) b n D) (key : Int) (hx : a.eval x = .int .i64 key) (hkey : keyOf Tryz.prog 3 (.int .i64 key) = some (.int .i64 key)) (v : Int) (bb : Bool)
    (hat : D.atKey (.int .i64 key) (.lit (.int .i64 0)) = .lit (.int .i64 v)) (hb : Maps.has D (.int .i64 key) = bb) (h : wpList Tryz.prog ops Q rest (a.put o.dst (.tuple #[.int .i64 v, .bool bb])) w) : wpList Tryz.prog ops Q (o :: rest) a w :=
  wpList_lookup_own_ok_int w hg m x 51 hop 3 3 .i64 lawI Tryz.underlying51 Tryz.underlying3 (zeroI _) b n D hm hown _ _ hx hkey fun c hc _ => by
    rw [hat] at hc
    injection hc with hc
    injection hc with _ hc
    rw [← hc, hb]
    exact h

theorem wpList_lenK (hg : o.guard = none) (m : Operand) (hop : o.op = Op.call { callee := Callee.builtin Builtin.len, args := #[m], argTypes := #[51] }) (b n : Nat) (D : DataW Unit) (hm : a.eval m = .map (some b))
    (hown : w.ownsMap Tryz.prog 3 (plainElem Tryz.prog 3) b n D) (z : Nat) (hz : Maps.size D = z) (h : wpList Tryz.prog ops Q rest (a.put o.dst (.int .i64 z)) w) : wpList Tryz.prog ops Q (o :: rest) a w :=
  wpList_len_own w hg m 51 hop 3 3 Tryz.underlying51 _ b n D hm hown (by rw [hz]; exact h)

theorem wpList_putK (hg : o.guard = none) (m x v : Operand) (hop : o.op = Op.mapUpdate 51 m x v) (b n : Nat) (D : DataW Unit) (hm : a.eval m = .map (some b))
    (hown : w.ownsMap Tryz.prog 3 (plainElem Tryz.prog 3) b n D) (hn : n ≤ 1000000) (key : Int) (hx : a.eval x = .int .i64 key) (hkey : keyOf Tryz.prog 3 (.int .i64 key) = some (.int .i64 key)) (z : Int) (hv : a.eval v = .int .i64 z) (hz0 : 0 ≤ z) (hz1 : z ≤ 1000001)
    (h : ∀ w', w'.ownsMap Tryz.prog 3 (plainElem Tryz.prog 3) b (n + 1) (D.put (.int .i64 key) (.lit (.int .i64 z))) → w.grownBy w' (some b) → wpList Tryz.prog ops Q rest (a.put o.dst undef) w') : wpList Tryz.prog ops Q (o :: rest) a w :=
  wpList_mapUpdate_own w hg m x v 51 hop 3 3 lawI Tryz.underlying51 _ b n D hm hown (by unfold maxLen; omega) _ _ _ hx hv hkey _ [] (plainElem_int Tryz.underlying3 (wfI (by omega) (by omega))) h
end

/-- What Canon gives back. -/
def CanPost (tss : List (List Nd)) (w : World) (e : Ending) (w' : World) : Prop :=
  ∃ (V : Option Addr) (cv : Nat) (vs : List (Option Addr × Nat × Nat)), e = .returned (.slice V vs.length cv) ∧ OwnS w' w.heap.size V cv vs ∧ Sls w' w'.heap.size vs tss ∧ Below w.heap.size w w'

theorem grown_cell {w w' : World} {b B : Nat} (hg : w.grownBy w' (some B)) (hb : b < w.heap.size) (hne : b ≠ B) : (∀ o, w'.cell? ⟨b, o, none⟩ = w.cell? ⟨b, o, none⟩) ∧ ∀ o, w'.frozen? ⟨b, o, none⟩ = w.frozen? ⟨b, o, none⟩ := by
  have h := hg.block b hb (fun e => hne (by injection e))
  exact ⟨fun o => World.cell?_of_block (a := ⟨b, o, none⟩) h, fun o => World.frozen?_of_block (a := ⟨b, o, none⟩) h⟩

set_option maxRecDepth 100000 in
set_option maxHeartbeats 4000000 in
theorem canon_any (V0 : Option Addr) (c0 : Nat) (vs0 : List (Option Addr × Nat × Nat)) (xss : List (List Nd)) (w : World) (hr : ReadS w w.heap.size V0 vs0) (hS : Sls w w.heap.size vs0 xss) (hne : ∀ xs ∈ xss, xs ≠ [])
    (hl : vs0.length ≤ 100) (h6 : ∀ xs ∈ xss, xs.length ≤ 1000) (hok : ∀ xs ∈ xss, ∀ x ∈ xs, -9223372036854775808 ≤ x.n ∧ x.n ≤ 9223372036854775807) :
    Calls Tryz.prog 15 #[.slice V0 vs0.length c0] w (CanPost (canT [] xss) w) := by
  have Hr := Lib.hid hr
  have HS := Lib.hid hS
  have Hne := Lib.hid hne
  have H6 := Lib.hid h6
  have Hok := Lib.hid hok
  clear hr hS hne h6 hok
  have hmm := @run_makeMap Tryz.prog
  go_enter Tryz.func15, Tryz.ntmps15
  go_wp2_with fail
  clear hmm
  go_loopw [4, 15] (fun s4 s15 wr => ∃ (k : Nat) (V : Option Addr) (cv : Nat) (vs : List (Option Addr × Nat × Nat)), s4 = .slice V vs.length cv ∧ s15 = .int .i64 k ∧ k ≤ vs0.length ∧ vs.length ≤ k ∧
      Hid (∃ D, MapOf (seenT [] (xss.take k)) D ∧ CanM w w.heap.size D (seenT [] (xss.take k)).length V cv vs (canT [] (xss.take k)) none 0 [] wr))
    (fun _ s15 _ => vs0.length - (intOf s15).toNat)
  case atStart => exact ⟨0, none, 0, [], rfl, rfl, Nat.zero_le _, Nat.le_refl _, Lib.hid ⟨_, mapOf_nil, ⟨World.ownsMap_made _ _ _ _, OwnL.nil, ⟨rfl, fun i v xs hv => by simp at hv⟩, OwnL.nil, ext_alloc (Below.refl _ _) _, Nat.le_refl _, by simp, by simp, fun a b h => (by cases h), by simp, by simp, by simp, by simp⟩⟩⟩
  case round =>
    obtain ⟨k, V, cv, vs, rfl, rfl, hk, hvk, M⟩ := hrel
    by_cases hp : k < vs0.length
    · obtain ⟨D, hmo, M'⟩ := M.out
      obtain ⟨v, hv⟩ := getq_ex hp
      obtain ⟨xs, hxs⟩ := getq_ex (show k < xss.length by rw [← HS.out.1]; exact hp)
      have hmem := List.mem_of_getElem? hxs
      obtain ⟨b, o, rfl, hb, hc⟩ := ReadL.slice (ReadL.more (ReadL.below Hr.out M'.bel) M'.bel.size) hv
      obtain ⟨hvl, hT⟩ := HS.out.2 k v xs hv hxs
      rw [hvl] at hc
      have hxl := H6.out xs hmem
      have hcl := Lib.hid (clone_any v.1 v.2.2 xs wr ((hT.below M'.bel).more M'.bel.size) (Hne.out xs hmem) (by omega))
      have Hokx := Lib.hid (Hok.out xs hmem)
      have Hst := Lib.hid (seenT_step hxs)
      obtain ⟨x0, hx0⟩ := getq_ex (show 0 < xs.length by have := Hne.out xs hmem; cases xs with | nil => exact absurd rfl this | cons => simp)
      have hh5 : (seenT [] (xss.take k)).length ≤ 100000 := by
        have := seenT_le (m := 1000) [] (xss.take k) fun ys hy => H6.out ys (List.mem_of_mem_take hy)
        rw [List.length_take] at this
        simp at this
        omega
      generalize seenT [] (xss.take k) = had at *
      have Hx0 := Lib.hid hx0
      have M0 := Lib.hid (And.intro hmo M')
      have Hh5 := Lib.hid hh5
      clear hmem hv hxs hT hvl M M' hmo hx0 hh5
      go_wp2_with fail
      refine hcl.out.mono ?_
      rintro e w1 ⟨U, uc, rfl, hown, hb1⟩
      obtain ⟨g, rfl, _, _, _, _, _, _⟩ := OwnL.setM hown Hx0.out 0
      have M1 := Lib.hid (M0.out.2.clone hown hb1)
      have Hmo := Lib.hid M0.out.1
      clear hcl hown hb1 M0 hc hb
      go_wp2_with fail
      go_loopw [23] (fun s23 wi => ∃ j : Nat, s23 = .int .i64 j ∧ j ≤ xs.length ∧ Hid (∃ D, MapOf (seenL had (xs.take j)) D ∧ CanM w w.heap.size D (seenL had (xs.take j)).length V cv vs (canT [] (xss.take k)) (some ⟨g, 0, none⟩) uc (canTo had xs j) wi))
        (fun s23 _ => xs.length - (intOf s23).toNat)
      case atStart => exact ⟨0, rfl, Nat.zero_le _, Lib.hid ⟨_, Hmo.out, by rw [canTo_zero]; exact M1.out⟩⟩
      case round =>
        clear M1 Hmo
        obtain ⟨j, rfl, hj, M⟩ := hrel
        by_cases hpj : j < xs.length
        · obtain ⟨D, hmo, M'⟩ := M.out
          obtain ⟨x, hx⟩ := getq_ex hpj
          have hxj := canTo_at (had := had) hx
          obtain ⟨b1, o1, hA, hb1, c10, c11, c12⟩ := (OwnL.tyA M'.cur).at_ hxj
          injection hA with hA
          injection hA with e1 e2 _
          subst e1 e2
          rw [Nat.zero_add] at c10 c11 c12
          have hk0 := (Hokx.out x (List.mem_of_getElem? hx))
          have hkey := keyI hk0.1 hk0.2
          have Hx := Lib.hid hx
          have Hxj := Lib.hid hxj
          have hh6 : (seenL had (xs.take j)).length ≤ 200000 := by
            have h1 := seenL_le had (xs.take j)
            have h2 := Hh5.out
            rw [List.length_take] at h1
            omega
          have hBlt := M'.map.lt
          have M2 := Lib.hid M'
          have Hmo := Lib.hid hmo
          clear hx hxj M M' hmo hk0
          go_wp2_with fail
          refine (tIsVar_any _ _ _ _).mono ?_
          rintro e w2 ⟨rfl, hb2⟩
          obtain ⟨hcb, hfb⟩ := bcell hb2
          have z2 := hb2.size
          simp only [World.size_alloc] at z2
          replace M2 := Lib.hid ((M2.out.alloc _).step hb2)
          have hnc : w2.cell? ⟨wr.heap.size, 2, none⟩ = some (.int .i64 x.n) := by rw [hcb _ _ (by simp)]; simp
          clear hb2 hcb hfb
          cases h8 : isVarB x.k
          · have H8 := Lib.hid h8
            clear hnc
            go_wp2_with fail
            go_roundw
            case rel => exact ⟨j + 1, by go_num, hpj, Lib.hid ⟨D, by rw [seenL_step Hx.out, (can_no H8.out).2]; exact Hmo.out, by rw [seenL_step Hx.out, canTo_step Hx.out, (can_no H8.out).2, (can_no H8.out).1, set_self Hxj.out]; exact M2.out⟩⟩
            case measure => simp [intOf]; omega
          · have H8 := Lib.hid h8
            by_cases hm : x.n ∈ seenL had (xs.take j)
            · have hhas : Maps.has D (.int .i64 x.n) = true := by rw [Hmo.out.has]; simp [hm]
              have hat := Hmo.out.at_ x.n hm
              have Hm := Lib.hid hm
              have hseen : Hid (seen (seenL had (xs.take j)) x = seenL had (xs.take j)) := Lib.hid (by unfold seen; rw [if_neg (by simp [hm])])
              have hnd : Hid (canNd (seenL had (xs.take j)) x = ⟨x.k, x.s, ((posI x.n (seenL had (xs.take j)) + 1 : Nat) : Int)⟩) := Lib.hid (by rw [canNd_var h8, hseen.out])
              generalize hpv : ((posI x.n (seenL had (xs.take j)) + 1 : Nat) : Int) = pv at *
              have Hat := Lib.hid hat
              have Hhas := Lib.hid hhas
              obtain ⟨hgl, hgc, hgf, Mst⟩ := M2.out.store Hxj.out pv
              have M3 := Lib.hid Mst
              clear hm hhas hat hpv Mst
              go_wp2_with (first
                | (at_lookup; refine wpList_lookOkK rfl _ _ rfl w.heap.size _ D rfl M2.out.map x.n rfl hkey pv true Hat.out Hhas.out ?_)
                | (at_lookup; refine wpList_lookK rfl _ _ rfl w.heap.size _ D rfl M2.out.map x.n rfl hkey pv Hat.out ?_))
              go_roundw
              case rel => exact ⟨j + 1, by go_num, hpj, Lib.hid ⟨D, by rw [seenL_step Hx.out, hseen.out]; exact Hmo.out, by rw [seenL_step Hx.out, canTo_step Hx.out, hseen.out, hnd.out]; exact M3.out⟩⟩
              case measure => simp [intOf]; omega
            · have hhas : Maps.has D (.int .i64 x.n) = false := by rw [Hmo.out.has]; simp [hm]
              have Hhas := Lib.hid hhas
              have Hat := Lib.hid (atKey_of_not_has hhas (.lit (.int .i64 0)))
              have Hm := Lib.hid hm
              have hseen : Hid (seen (seenL had (xs.take j)) x = seenL had (xs.take j) ++ [x.n]) := Lib.hid (by unfold seen; rw [if_pos ⟨h8, hm⟩])
              have hnd : Hid (canNd (seenL had (xs.take j)) x = ⟨x.k, x.s, (((seenL had (xs.take j)).length : Nat) : Int) + 1⟩) := Lib.hid (by rw [canNd_var h8, hseen.out, posI_new hm]; rfl)
              have Hmo2 := Lib.hid (Hmo.out.put hm)
              have Hsz := Lib.hid Hmo.out.size
              have hsl : Hid ((seenL had (xs.take (j + 1))).length = (seenL had (xs.take j)).length + 1) := Lib.hid (by rw [seenL_step Hx.out, hseen.out]; simp)
              have Hss := Lib.hid (show seenL had (xs.take (j + 1)) = seenL had (xs.take j) ++ [x.n] by rw [seenL_step Hx.out, hseen.out])
              generalize hnn : (seenL had (xs.take j)).length = nn at *
              have Hnn := Lib.hid hnn
              have Hat2 : Hid ((D.put (.int .i64 x.n) (.lit (.int .i64 ((nn : Int) + 1)))).atKey (.int .i64 x.n) (.lit (.int .i64 0)) = .lit (.int .i64 ((nn : Int) + 1))) := Lib.hid (atKey_put_same Hmo.out.tidy.isMap (show Go.WideAt.IsKeyLit (.int .i64 x.n) from trivial) _ _)
              clear hm hhas hnn
              go_wp2_with (first
                | (at_lookup; refine wpList_lookOkK rfl _ _ rfl w.heap.size _ D rfl M2.out.map x.n rfl hkey 0 false Hat.out Hhas.out ?_)
                | (at_len; refine wpList_lenK rfl _ rfl w.heap.size _ D rfl M2.out.map nn Hsz.out ?_)
                | (at_mapUpdate; refine wpList_putK rfl _ _ _ rfl w.heap.size nn D rfl M2.out.map (by omega) x.n rfl hkey ((nn : Int) + 1) rfl (by omega) (by omega) ?_; intro w3 hm3 hg3
                   have hnc3 : w3.cell? ⟨wr.heap.size, 2, none⟩ = some (.int .i64 x.n) := by rw [(grown_cell hg3 (by omega) (by omega)).1]; exact hnc
                   replace M2 := Lib.hid (M2.out.put hm3 hg3)
                   obtain ⟨hgl, hgc, hgf, Mst⟩ := M2.out.store Hxj.out ((nn : Int) + 1)
                   have z3 := hg3.size
                   have M3 := Lib.hid Mst
                   clear hm3 hg3 Mst hnc)
                | (at_lookup; refine wpList_lookK rfl _ _ rfl w.heap.size _ _ rfl M2.out.map x.n rfl hkey ((nn : Int) + 1) Hat2.out ?_))
              go_roundw
              case rel => exact ⟨j + 1, by go_num, hpj, Lib.hid ⟨_, by rw [Hss.out]; exact Hmo2.out, by rw [hsl.out, canTo_step Hx.out, hnd.out]; exact M3.out⟩⟩
              case measure => simp [intOf]; omega
        · have hjj : j = xs.length := by omega
          have hend := canTo_end had xs
          have e1 : xs.take j = xs := by rw [hjj, List.take_length]
          rw [e1, hjj, hend] at M
          obtain ⟨D, hmo, M'⟩ := M.out
          have Hmo := Lib.hid hmo
          have M2 := Lib.hid M'
          have hcl2 := Lib.hid (canL_len had xs)
          clear M hmo M' e1 hend hjj
          go_wp2_with (at_builtin; refine wpList_appS rfl (.tmp 55) (.tmp 57) rfl w.heap.size (l := vs) rfl (OwnL.alloc M2.out.row _) (l2 := [(some ⟨g, 0, none⟩, xs.length, uc)]) rfl (readS_new _ (some ⟨g, 0, none⟩, xs.length, uc)) (by simp; omega) (by have := M2.out.bel.size; simp; omega) ?_; intro V2 cv2 w8 hown8 hg8 hA8; have M3 := Lib.hid ((M2.out.alloc _).app (by rw [hcl2.out]; exact hown8) hg8 hA8); clear hown8 hg8 hA8)
          go_roundw
          case rel => exact ⟨k + 1, V2, cv2, vs ++ [(some ⟨g, 0, none⟩, xs.length, uc)], by simp, by go_num, hp, by simp; omega, Lib.hid ⟨D, by rw [Hst.out.1]; exact Hmo.out, by rw [Hst.out.1, Hst.out.2]; have h := M3.out; rw [hcl2.out] at h; exact h⟩⟩
          case measure => simp [intOf]; omega
    · have hkk : k = vs0.length := by omega
      have e1 : xss.take k = xss := by rw [hkk, HS.out.1, List.take_length]
      rw [e1] at M
      have M' := Lib.hid M.out
      clear M e1
      go_wp2_with fail
      go_ret
      obtain ⟨D, _, M⟩ := M'.out
      exact ⟨V, cv, vs, rfl, M.row, M.sls, M.bel⟩
end Go.Proofs.YtblfeokjlecgkaaGreat

/- leavenref12.Types, walked. -/
namespace Go.Proofs.YtblfeokjlecgkaaGreat
open Go.RowKit

theorem drop_eq_step {α : Type} [DecidableEq α] {la lb : List α} {k : Nat} {x y : α} (hx : la[k]? = some x) (hy : lb[k]? = some y) : decide (la.drop k = lb.drop k) = (decide (x = y) && decide (la.drop (k + 1) = lb.drop (k + 1))) := by
  rw [drop_cons hx, drop_cons hy]
  by_cases h : x = y <;> simp [h]

theorem Sls.drewN {w : World} {B : Nat} {vs : List (Option Addr × Nat × Nat)} {tss : List (List Nd)} (h : Sls w B vs tss) (n : Nat) : Sls (w.drewN n) B vs tss := ⟨h.1, fun i v xs hv hx => ⟨(h.2 i v xs hv hx).1, (h.2 i v xs hv hx).2.below (below_drewN (Below.refl _ _) n)⟩⟩
theorem ReadL.drewN {α : Type} {size : Nat} {enc : α → List Value} {w : World} {B : Nat} {A : Option Addr} {l : List α} (h : ReadL size enc w B A l) (n : Nat) : ReadL size enc (w.drewN n) B A l := h.below (below_drewN (Below.refl _ _) n)

set_option maxRecDepth 100000 in
set_option maxHeartbeats 1000000 in
theorem types_any (A B : Option Addr) (c d : Nat) (vs us : List (Option Addr × Nat × Nat)) (ass bss : List (List Nd)) (w : World) (hr : ReadS w w.heap.size A vs) (hr2 : ReadS w w.heap.size B us) (hS : Sls w w.heap.size vs ass) (hS2 : Sls w w.heap.size us bss)
    (hl : vs.length ≤ 1000000) (hok : ∀ xs ∈ ass, xs.length ≤ 1000000) :
    Calls Tryz.prog 14 #[.slice A vs.length c, .slice B us.length d] w fun e w' => e = .returned (.bool (decide (ass = bss))) ∧ ∃ n, w' = w.drewN n := by
  have e1 := hS.1
  have e2 := hS2.1
  have HA := Lib.hid (And.intro hr hS)
  have HB := Lib.hid (And.intro hr2 hS2)
  have Hok := Lib.hid hok
  clear hr hr2 hS hS2 hok
  by_cases hlen : vs.length = us.length
  · have E := Lib.hid (And.intro e1 (And.intro e2 hlen))
    rw [← hlen]
    clear e1 e2 hlen
    go_enter Tryz.func14, Tryz.ntmps14
    go_wp2_with fail
    go_loopw [5] (fun s5 wr => ∃ k : Nat, k ≤ vs.length ∧ s5 = .int .i64 k ∧ Hid (∃ n, wr = w.drewN n) ∧ Hid (decide (ass.drop k = bss.drop k) = decide (ass = bss))) (fun s5 _ => vs.length - (intOf s5).toNat)
    case atStart => exact ⟨0, Nat.zero_le _, rfl, Lib.hid ⟨0, rfl⟩, Lib.hid (by simp only [List.drop_zero])⟩
    case round =>
      obtain ⟨k, hk, rfl, hW, hgood⟩ := hrel
      have hAr : Hid (ReadS wr w.heap.size A vs ∧ Sls wr w.heap.size vs ass) := Lib.hid (by obtain ⟨n, rfl⟩ := hW.out; exact ⟨HA.out.1.drewN n, HA.out.2.drewN n⟩)
      have hBr : Hid (ReadS wr w.heap.size B us ∧ Sls wr w.heap.size us bss) := Lib.hid (by obtain ⟨n, rfl⟩ := hW.out; exact ⟨HB.out.1.drewN n, HB.out.2.drewN n⟩)
      by_cases hp : k < vs.length
      · obtain ⟨v, hv⟩ := getq_ex hp
        obtain ⟨u, hu⟩ := getq_ex (show k < us.length by have := E.out.2.2; omega)
        obtain ⟨xs, hx⟩ := getq_ex (show k < ass.length by have := E.out.1; omega)
        obtain ⟨ys, hy⟩ := getq_ex (show k < bss.length by have := E.out; omega)
        have hstep := Lib.hid (drop_eq_step hx hy)
        obtain ⟨b, o, rfl, hb, c0⟩ := ReadL.slice hAr.out.1 hv
        obtain ⟨b2, o2, rfl, hb2, c02⟩ := ReadL.slice hBr.out.1 hu
        obtain ⟨h1, h2⟩ := hAr.out.2.2 k v xs hv hx
        obtain ⟨h3, h4⟩ := hBr.out.2.2 k u ys hu hy
        have hxl := Hok.out xs (List.mem_of_getElem? hx)
        rw [h1] at c0
        rw [h3] at c02
        have H2 := Lib.hid (fun m => h2.below (below_drewN (Below.refl _ wr) m))
        have H4 := Lib.hid (fun m => h4.below (below_drewN (Below.refl _ wr) m))
        clear hv hu hx hy h1 h2 h3 h4
        cases hd : decide (xs = ys)
        all_goals
          have Hd := Lib.hid hd
          have Hq : Hid (∀ m, Calls Tryz.prog 11 #[.slice v.1 xs.length v.2.2, .slice u.1 ys.length u.2.2] (wr.drewN m) fun e w' => e = .returned (.bool (decide (xs = ys))) ∧ ∃ z, w' = (wr.drewN m).drewN z) := Lib.hid fun m => one_any v.1 u.1 v.2.2 u.2.2 _ _ xs ys _ (H2.out m) (H4.out m) (by omega)
          rw [hd] at Hq
          clear hd
          go_wp2_with fail
          go_quiet ((go_at_call 11; exact Calls.quiet_of (Hq.out _)))
          go_wp2_with fail
        · go_ret
          obtain ⟨n, rfl⟩ := hW.out
          exact ⟨ret_bool (by rw [← hgood.out, hstep.out, Hd.out]; rfl), _, World.drewN_drewN _ _ _⟩
        · go_roundw
          case rel => exact ⟨k + 1, hp, by go_num, Lib.hid (by obtain ⟨n, rfl⟩ := hW.out; exact ⟨_, World.drewN_drewN _ _ _⟩), Lib.hid (by rw [← hgood.out, hstep.out, Hd.out]; rfl)⟩
          case measure => simp [intOf]; omega
      · have hz : Hid (decide (ass = bss) = true) := Lib.hid (by
          rw [← hgood.out, List.drop_eq_nil_of_le (by have := E.out; omega), List.drop_eq_nil_of_le (by have := E.out; omega)]
          simp)
        go_wp2_with fail
        go_ret
        exact ⟨ret_bool (by rw [hz.out]), hW.out⟩
  · have hne : ((vs.length : Int) != (us.length : Int)) = true := by simpa using fun e => hlen (by omega)
    have hz : Hid (decide (ass = bss) = false) := Lib.hid (by
      rw [decide_eq_false]
      rintro rfl
      omega)
    clear e1 e2 hlen
    go_enter Tryz.func14, Tryz.ntmps14
    go_wp2_with fail
    go_ret
    exact ⟨ret_bool (by rw [hz.out]), 0, rfl⟩
end Go.Proofs.YtblfeokjlecgkaaGreat
