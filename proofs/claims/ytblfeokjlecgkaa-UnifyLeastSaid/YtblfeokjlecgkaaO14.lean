/- Laid together by a tool from the texts of this seat: UniN Stps UniO UniP UniQ UniR UniS UniT UniU UMayT. Conditions: each theorem's own. -/
import Derived.Test.YtblfeokjlecgkaaO13
import Derived.Test.YtblfeokjlecgkaaO04
import Derived.Test.YtblfeokjlecgkaaO10
import Derived.BigQuiet
/- What a law tells, as rows of nodes: their trees may be told. -/
namespace Go.Proofs.Ytblfeokjlecgkaa

/-- A node that may be told: no tail, a Var below a number. -/
def toldN (m0 : Int) (y : Nd) : Bool := !(y.k == 9) && !(y.k == 8 && decide (m0 ≤ y.n))

theorem mem_labsU {k : Int} {rs : List (List Nd)} {l : Lb} (h : l ∈ labsU k rs) : l = lA ∨ l = lB ∨ l ∈ labsT rs := by
  unfold labsU at h
  split at h
  · simp only [List.mem_cons, List.not_mem_nil, or_false] at h
    rcases h with h | h
    · exact .inl h
    · exact .inr (.inl h)
  · exact .inr (.inr h)

theorem headU_mem {ts : List Nd} (h : ts ≠ []) : headNd ts ∈ ts := by
  cases ts with
  | nil => exact absurd rfl h
  | cons x l => exact List.mem_cons_self ..

theorem lab_of {U : List Lb} (hA : lA ∈ U) (hB : lB ∈ U) {ts : List Nd} (h : GdT ts) : (∀ x ∈ ts, x.s ∈ U) → labU U (utT ts) := by
  induction h with
  | mk x tss ok k9 tr ch row els tl ih =>
    intro hU
    have hin : ∀ ts ∈ lOf tss, ∀ x ∈ ts, x.s ∈ U := fun ts hts y hy => hU y (List.mem_cons_of_mem _ (List.mem_flatten.2 ⟨ts, lOf_mem hts, hy⟩))
    rw [utT_cons tr, labU_mk]
    refine ⟨fun l hl => ?_, fun p hp => ?_⟩
    · obtain ⟨q, hq, rfl⟩ := List.mem_map.1 hl
      rcases mem_labsU (List.of_mem_zip hq).1 with e | e | e
      · rw [e]; exact hA
      · rw [e]; exact hB
      · obtain ⟨t, ht, e⟩ := List.mem_map.1 e
        rw [← e]
        exact hin t ht _ (headU_mem (ch t ht).ne)
    · obtain ⟨t, ht, hpt⟩ := List.mem_map.1 (zip_mem hp)
      rw [← hpt]
      exact ih t ht (hin t ht)

theorem no_of {m0 : Int} {ts : List Nd} (h : GdT ts) : (∀ x ∈ ts, toldN m0 x = true) → noTl m0 (utT ts) := by
  induction h with
  | mk x tss ok k9 tr ch row els tl ih =>
    intro hU
    rw [utT_cons tr, noTl_mk]
    refine ⟨fun h8 => ?_, ?_, fun p hp => ?_⟩
    · have := hU x (List.mem_cons_self ..)
      rw [if_pos h8]
      simp only [toldN, h8, Bool.and_eq_true, Bool.not_eq_true', beq_self_eq_true, Bool.true_and, decide_eq_false_iff_not] at this
      omega
    · unfold tlU
      rcases tOf_one tss with e | ⟨t, e⟩
      · rw [e]; rfl
      · obtain ⟨n, _, ht⟩ := tl t (by rw [e]; simp)
        have hm : (⟨9, ByteArray.empty, n⟩ : Nd) ∈ tss.flatten := List.mem_flatten.2 ⟨t, (by rw [← lOf_tOf tss, e]; simp), by rw [ht]; simp⟩
        have := hU _ (List.mem_cons_of_mem _ hm)
        simp [toldN] at this
    · obtain ⟨t, ht, hpt⟩ := List.mem_map.1 (zip_mem hp)
      rw [← hpt]
      exact ih t ht fun y hy => hU y (List.mem_cons_of_mem _ (List.mem_flatten.2 ⟨t, lOf_mem ht, hy⟩))

theorem dynF_zip : ∀ {ls : List Lb} {us : List Ut}, dynF (ls.zip us) ≤ (us.map dynT).sum
  | [], us => by simp [dynF_nil]
  | l :: ls, [] => by simp [dynF_nil]
  | l :: ls, u :: us => by
    rw [List.zip_cons_cons, dynF_cons, List.map_cons, List.sum_cons]
    have := dynF_zip (ls := ls) (us := us)
    show dynT u + _ ≤ _
    omega
theorem sum_le {α : Type} {f g : α → Nat} : ∀ {l : List α}, (∀ x ∈ l, f x ≤ g x) → (l.map f).sum ≤ (l.map g).sum
  | [], _ => Nat.le_refl _
  | x :: l, h => by
    rw [List.map_cons, List.map_cons, List.sum_cons, List.sum_cons]
    have := h x (by simp)
    have := sum_le (f := f) (g := g) (l := l) fun y hy => h y (by simp [hy])
    omega

/-- A type has no more ?s than nodes. -/
theorem dyn_of {ts : List Nd} (h : GdT ts) : dynT (utT ts) ≤ ts.length := by
  induction h with
  | mk x tss ok k9 tr ch row els tl ih =>
    rw [utT_cons tr]
    rw [dynT_mk]
    have h1 : dynF ((labsU x.k (lOf tss)).zip ((lOf tss).map utT)) ≤ ((lOf tss).map List.length).sum := by
      refine Nat.le_trans dynF_zip ?_
      rw [List.map_map]
      exact sum_le (g := List.length) fun t ht => ih t ht
    have e : tss.flatten.length = ((lOf tss).map List.length).sum + ((tOf tss).map List.length).sum := by
      rw [← List.sum_append, ← List.map_append, lOf_tOf, List.length_flatten]
    simp only [List.length_cons]
    split <;> omega

/-- What is few, without tails and with small Vars, may be told. -/
theorem told_of {U : List Lb} {m0 : Int} {ts : List Nd} (hA : lA ∈ U) (hB : lB ∈ U) (h : GdT ts) (hU : ∀ x ∈ ts, x.s ∈ U) (hn : ∀ x ∈ ts, toldN m0 x = true) : Told U m0 (utT ts) := ⟨gd_wf h, lab_of hA hB h hU, no_of h hn⟩

/-! ### Steps -/
structure Stp where
  a : List Nd
  b : List Nd
  l : Lb
  k : Int
  n : Int
  m : Int

/-- What a step tells. -/
def Stp.cst (x : Stp) : Cst := if x.l.size = 0 then .pair (utT x.a) (utT x.b) else .opn x.k x.l x.n x.m
/-- A step with its two types the other way round. -/
def Stp.swap (x : Stp) : Stp := { x with a := x.b, b := x.a }
theorem Stp.swap_holds (x : Stp) (τ : Va) : x.swap.cst.holds τ ↔ x.cst.holds τ := by
  unfold Stp.cst Stp.swap
  by_cases h : x.l.size = 0
  · simp only [h, if_true]
    exact ⟨fun h => h.symm, fun h => h.symm⟩
  · simp only [h, if_false]

/-- All that is told. -/
def allC (l : List Stp) (τ : Va) : Prop := ∀ x ∈ l, x.cst.holds τ
theorem allC_swap (l : List Stp) (τ : Va) : allC (l.reverse.map Stp.swap) τ ↔ allC l τ := by
  unfold allC
  constructor
  · intro h x hx
    exact (x.swap_holds τ).1 (h _ (List.mem_map.2 ⟨x, List.mem_reverse.2 hx, rfl⟩))
  · intro h y hy
    obtain ⟨x, hx, rfl⟩ := List.mem_map.1 hy
    exact (x.swap_holds τ).2 (h x (List.mem_reverse.1 hx))
theorem allC_snoc (l : List Stp) (x : Stp) (τ : Va) : allC (l ++ [x]) τ ↔ allC l τ ∧ x.cst.holds τ := by
  unfold allC
  constructor
  · intro h; exact ⟨fun y hy => h y (by simp [hy]), h x (by simp)⟩
  · rintro ⟨h1, h2⟩ y hy
    rcases List.mem_append.1 hy with hy | hy
    · exact h1 y hy
    · simp only [List.mem_singleton] at hy
      rw [hy]; exact h2

/-- A step that may be told. -/
structure GoodS (U : List Lb) (m0 : Int) (x : Stp) : Prop where
  c : x.cst.Good U m0
  pair : x.l.size = 0 → GdT x.a ∧ GdT x.b ∧ x.a.length ≤ 30 ∧ x.b.length ≤ 30
theorem GoodS.swap {U : List Lb} {m0 : Int} {x : Stp} (h : GoodS U m0 x) : GoodS U m0 x.swap := by
  obtain ⟨c, p⟩ := h
  unfold Stp.cst at c
  refine ⟨?_, fun e => ?_⟩
  · unfold Stp.cst Stp.swap
    by_cases h : x.l.size = 0
    · simp only [h, if_true] at c ⊢
      exact ⟨c.2, c.1⟩
    · simp only [h, if_false] at c ⊢
      exact c
  · obtain ⟨p1, p2, p3, p4⟩ := p e
    exact ⟨p2, p1, p4, p3⟩

theorem GoodS.low {U : List Lb} {m0 : Int} {x : Stp} (h : GoodS U m0 x) : Low m0 x.cst.holds := fun _ _ e hc => h.c.like e hc
theorem allC_low {U : List Lb} {m0 : Int} {l : List Stp} (h : ∀ x ∈ l, GoodS U m0 x) : Low m0 (allC l) := fun _ _ e hc x hx => (h x hx).low _ _ e (hc x hx)

/-- The row that 'Open' makes. -/
def openL (k : Int) (l : Lb) (x : Nd) (q : Int) : List Nd := [⟨k, ByteArray.empty, 2⟩, { x with s := l }, ⟨9, ByteArray.empty, q⟩]
theorem open_gd {k : Int} {l : Lb} {u q : Int} (hk : isRowB k = true) (hl : rowLabelB k l = true) (hu : 0 ≤ u) (hq : 0 ≤ q) : GdT (openL k l ⟨8, ByteArray.empty, u⟩ q) ∧ utT (openL k l ⟨8, ByteArray.empty, u⟩ q) = openT k l u q := by
  have h67 : k = 6 ∨ k = 7 := by simpa [isRowB] using hk
  have hv : GdT [(⟨8, l, u⟩ : Nd)] := by
    refine .mk ⟨8, l, u⟩ [] ?_ (by show (8 : Int) ≠ 9; decide) ⟨rfl, rfl, by simp⟩ (by simp [lOf, tailB]) (fun e => by simp [isRowB] at e) (fun _ => ⟨rfl, by simp [labsT]⟩) (fun ts hts => by simp [tOf, tailB] at hts)
    show okNode 8 u = true
    unfold okNode
    simp
    omega
  have e1 : lOf [[(⟨8, l, u⟩ : Nd)], [⟨9, ByteArray.empty, q⟩]] = [[⟨8, l, u⟩]] := by simp [lOf, tailB, headNd]
  have e2 : tOf [[(⟨8, l, u⟩ : Nd)], [⟨9, ByteArray.empty, q⟩]] = [[⟨9, ByteArray.empty, q⟩]] := by simp [tOf, tailB, headNd]
  have tr : Trees (manyN ⟨k, ByteArray.empty, 2⟩) [[(⟨8, l, u⟩ : Nd)], [⟨9, ByteArray.empty, q⟩]].flatten [[(⟨8, l, u⟩ : Nd)], [⟨9, ByteArray.empty, q⟩]] := by
    refine ⟨?_, rfl, fun ts hts => ?_⟩
    · unfold manyN many
      rw [if_neg (by show k ≠ 5; omega), if_pos hk]
      rfl
    · simp only [List.mem_cons, List.not_mem_nil, or_false] at hts
      rcases hts with rfl | rfl
      · exact hv.fo
      · rfl
  have hg : GdT (⟨k, ByteArray.empty, 2⟩ :: [[(⟨8, l, u⟩ : Nd)], [⟨9, ByteArray.empty, q⟩]].flatten) := by
    refine .mk _ _ ?_ (by show k ≠ 9; omega) tr (fun ts hts => ?_) (fun _ => ?_) (fun e => by rw [hk] at e; cases e) (fun ts hts => ?_)
    · show okNode k 2 = true
      unfold okNode
      rw [if_neg (by omega)]
      split
      · rfl
      · rw [if_pos (by omega)]; rfl
    · rw [e1] at hts
      simp only [List.mem_singleton] at hts
      rw [hts]; exact hv
    · rw [e1]
      simp [labsT, headNd, hl]
    · rw [e2] at hts
      simp only [List.mem_singleton] at hts
      exact ⟨q, hq, hts⟩
  refine ⟨hg, ?_⟩
  show utT (⟨k, ByteArray.empty, 2⟩ :: [[(⟨8, l, u⟩ : Nd)], [⟨9, ByteArray.empty, q⟩]].flatten) = _
  rw [utT_cons tr, e1]
  have e3 : tlU [[(⟨8, l, u⟩ : Nd)], [⟨9, ByteArray.empty, q⟩]] = some q := by unfold tlU; rw [e2]; rfl
  rw [e3]
  have e4 : utT [(⟨8, l, u⟩ : Nd)] = varT u := rfl
  simp only [List.map_cons, List.map_nil, e4, labsU, labsT, headNd]
  rw [if_neg (by omega), if_neg (by omega)]
  rfl

/-- A Var, alone. -/
theorem var_gd {u : Int} (hu : 0 ≤ u) : GdT [(⟨8, ByteArray.empty, u⟩ : Nd)] ∧ utT [(⟨8, ByteArray.empty, u⟩ : Nd)] = varT u := by
  refine ⟨.mk ⟨8, ByteArray.empty, u⟩ [] ?_ (by show (8 : Int) ≠ 9; decide) ⟨rfl, rfl, by simp⟩ (by simp [lOf, tailB]) (fun e => by simp [isRowB] at e) (fun _ => ⟨rfl, by simp [labsT]⟩) (fun ts hts => by simp [tOf, tailB] at hts), rfl⟩
  show okNode 8 u = true
  unfold okNode
  simp
  omega
end Go.Proofs.Ytblfeokjlecgkaa

/- Steps in memory. -/
namespace Go.Proofs.Ytblfeokjlecgkaa
open Go.RowKit

structure StV where
  a : Option Addr × Nat × Nat
  b : Option Addr × Nat × Nat
  l : ByteArray
  k : Int
  n : Int
  m : Int
instance : Inhabited StV := ⟨⟨(none, 0, 0), (none, 0, 0), ByteArray.empty, 0, 0, 0⟩⟩
instance : Inhabited Stp := ⟨⟨[], [], ByteArray.empty, 0, 0, 0⟩⟩
def encSt (v : StV) : List Value := [.slice v.a.1 v.a.2.1 v.a.2.2, .slice v.b.1 v.b.2.1 v.b.2.2, .string v.l, .int .i64 v.k, .int .i64 v.n, .int .i64 v.m]
theorem encSt_len (v : StV) : (encSt v).length = 6 := rfl
abbrev ReadSt (w : World) (B : Nat) (A : Option Addr) (l : List StV) : Prop := ReadL 6 encSt w B A l
/-- A step in memory. -/
structure StAt (w : World) (B : Nat) (v : StV) (x : Stp) : Prop where
  l : v.l = x.l
  k : v.k = x.k
  n : v.n = x.n
  m : v.m = x.m
  al : v.a.2.1 = x.a.length
  aa : TyA w B v.a.1 x.a
  ac : x.a.length ≤ v.a.2.2
  bl : v.b.2.1 = x.b.length
  ba : TyA w B v.b.1 x.b
  bc : x.b.length ≤ v.b.2.2
def Stps (w : World) (B : Nat) (vs : List StV) (xs : List Stp) : Prop := vs.length = xs.length ∧ ∀ (i : Nat) (v : StV) (x : Stp), vs[i]? = some v → xs[i]? = some x → StAt w B v x
/-- A step's numbers and lengths are such as the machine's are. -/
structure Stp.Ok (x : Stp) : Prop where
  a : x.a.length ≤ 9223372036854775807 ∧ ∀ y ∈ x.a, y.Ok
  b : x.b.length ≤ 9223372036854775807 ∧ ∀ y ∈ x.b, y.Ok
  l : x.l.size ≤ 9223372036854775807
  k : -9223372036854775808 ≤ x.k ∧ x.k ≤ 9223372036854775807
  n : -9223372036854775808 ≤ x.n ∧ x.n ≤ 9223372036854775807
  m : -9223372036854775808 ≤ x.m ∧ x.m ≤ 9223372036854775807
theorem StAt.below {w w' : World} {B : Nat} {v : StV} {x : Stp} (h : StAt w B v x) (hb : Below B w w') : StAt w' B v x :=
  ⟨h.l, h.k, h.n, h.m, h.al, h.aa.below hb, h.ac, h.bl, h.ba.below hb, h.bc⟩
theorem Stps.below {w w' : World} {B : Nat} {vs : List StV} {xs : List Stp} (h : Stps w B vs xs) (hb : Below B w w') : Stps w' B vs xs := ⟨h.1, fun i v x hv hx => (h.2 i v x hv hx).below hb⟩
theorem ReadL.step {w : World} {B : Nat} {A : Option Addr} {l : List StV} (h : ReadSt w B A l) {i : Nat} {v : StV} (hn : l[i]? = some v) :
    ∃ b o, A = some ⟨b, o, none⟩ ∧ b < B ∧ w.cell? ⟨b, o + i * 6, none⟩ = some (.slice v.a.1 v.a.2.1 v.a.2.2) ∧ w.cell? ⟨b, o + i * 6 + 1, none⟩ = some (.slice v.b.1 v.b.2.1 v.b.2.2) ∧ w.cell? ⟨b, o + i * 6 + 2, none⟩ = some (.string v.l) ∧
      w.cell? ⟨b, o + i * 6 + 3, none⟩ = some (.int .i64 v.k) ∧ w.cell? ⟨b, o + i * 6 + 4, none⟩ = some (.int .i64 v.n) ∧ w.cell? ⟨b, o + i * 6 + 5, none⟩ = some (.int .i64 v.m) := by
  obtain ⟨b, o, e, h1, h2⟩ := h (by rintro rfl; simp at hn)
  have h3 := h2 i v hn
  exact ⟨b, o, e, h1, h3 0 _ rfl, h3 1 _ rfl, h3 2 _ rfl, h3 3 _ rfl, h3 4 _ rfl, h3 5 _ rfl⟩
end Go.Proofs.Ytblfeokjlecgkaa

/- Plain types told; fresh variables. -/
namespace Go.Proofs.Ytblfeokjlecgkaa

theorem lAB : ltB lA lB = true := by decide +kernel

theorem wf_rise {k n : Int} {fs : Fl} {tl : Option Int} (h : nodeWf k n fs tl) : Rise fs := by
  by_cases h5 : k = 5
  · obtain ⟨⟨a, b, rfl⟩, _⟩ := h.sh.2.2.1 h5
    unfold Rise
    simp [lAB]
  · cases hr : isRowB k with
    | true => exact (h.row hr).1
    | false =>
      obtain ⟨rfl, _⟩ := h.sh.2.2.2 h5 hr
      exact List.Pairwise.nil

/-- A plain type is itself, whatever is known. -/
theorem plain_inst (τ : Va) : ∀ t, wfT t → noTl 0 t → inst τ t = t := by
  refine Ut.ind fun k n fs tl ih h no => ?_
  have h8 : k ≠ 8 := noTl_k8 no h
  rw [wfT_mk] at h
  rw [noTl_mk] at no
  obtain ⟨_, rfl, nc⟩ := no
  rw [inst_eq, if_neg h8, mapF_id fun p hp => ih p hp (h.2 p hp) (nc p hp)]
  show Ut.mk k n (srtF (fs ++ [])) none = _
  rw [List.append_nil, srtF_of_rise (wf_rise h.1)]

theorem noTl_mono {m m' : Int} (h : m ≤ m') : ∀ t, noTl m t → noTl m' t := by
  refine Ut.ind fun k n fs tl ih no => ?_
  rw [noTl_mk] at no ⊢
  exact ⟨fun e => by have := no.1 e; omega, no.2.1, fun c hc => ih c hc (no.2.2 c hc)⟩
theorem Told.mono {U : List Lb} {m m' : Int} {t : Ut} (h : Told U m t) (hm : m ≤ m') : Told U m' t := ⟨h.wf, h.lb, noTl_mono hm _ h.no⟩

/-! ### Fresh variables -/
/-- An arrow. -/
def arrT (a b : Ut) : Ut := .mk 5 0 [(lA, a), (lB, b)] none
theorem inst_arr (τ : Va) (a b : Ut) : inst τ (arrT a b) = arrT (inst τ a) (inst τ b) := by
  unfold arrT
  rw [inst_eq, if_neg (by decide)]
  show Ut.mk 5 0 (srtF ([(lA, inst τ a), (lB, inst τ b)] ++ [])) none = _
  rw [List.append_nil, srtF_of_rise (by unfold Rise; simp [lAB])]
theorem lA_ne_lB : lA ≠ lB := by decide
theorem co_arr {a b c d : Ut} : Co (arrT a b) (arrT c d) ↔ Co a c ∧ Co b d := by
  unfold arrT
  have := co_zip (ls := [lA, lB]) (us := [a, b]) (vs := [c, d]) (k := 5) (n := 0) rfl rfl (by simp [lA_ne_lB]) (by decide) none
  simp only [List.zip_cons_cons, List.zip_nil_right] at this
  rw [this]
  simp

end Go.Proofs.Ytblfeokjlecgkaa

/- Open rows that were made to agree with one Var: what is known of it. -/
namespace Go.Proofs.Ytblfeokjlecgkaa

/-! ### Two labels of one Var -/
def intT : Ut := .mk 1 0 [] none
theorem intT_st : stT intT ∧ riT intT := by
  unfold intT
  rw [stT_mk, riT_mk]
  exact ⟨⟨by decide, fun p hp => by cases hp⟩, List.Pairwise.nil, fun p hp => by cases hp⟩
end Go.Proofs.Ytblfeokjlecgkaa

/- How long a type is that is told. -/
namespace Go.Proofs.Ytblfeokjlecgkaa

theorem flE_flat (fs : Fl) : flE fs = (fs.map fun p => flT ByteArray.empty p.2).flatten := by
  induction fs with
  | nil => rw [flE_nil]; rfl
  | cons p fs ih => rw [flE_cons, ih, List.map_cons, List.flatten_cons]
theorem fl_cons (s : Lb) (t : Ut) : ∃ ks, flT s t = ⟨t.k, s, (headNd (flT s t)).n⟩ :: ks := by
  obtain ⟨k, n, fs, tl⟩ := t
  rw [flT_mk]
  split <;> exact ⟨_, rfl⟩
theorem fl_pos (s : Lb) (t : Ut) : 1 ≤ (flT s t).length := by
  obtain ⟨ks, h⟩ := fl_cons s t
  rw [h]; simp
theorem fl_ne (s : Lb) (t : Ut) : flT s t ≠ [] := fun h => by
  have := fl_pos s t
  rw [h] at this
  simp at this
theorem flF_le {f : Ut → Nat} : ∀ {fs : Fl}, (∀ p ∈ fs, ∀ s, (flT s p.2).length ≤ f p.2) → (flF fs).length ≤ (fs.map fun p => f p.2).sum ∧ (flE fs).length ≤ (fs.map fun p => f p.2).sum
  | [], _ => by rw [flF_nil, flE_nil]; simp
  | p :: fs, h => by
    have h1 := flF_le (fs := fs) fun q hq => h q (List.mem_cons_of_mem _ hq)
    have h2 := h p (by simp) p.1
    have h3 := h p (by simp) ByteArray.empty
    rw [flF_cons, flE_cons, List.length_append, List.length_append, List.map_cons, List.sum_cons]
    omega
theorem ndF_sum : ∀ (fs : Fl), ndF fs = (fs.map fun p => ndT p.2).sum
  | [] => by rw [ndF_nil]; rfl
  | p :: fs => by rw [ndF_cons, ndF_sum fs]; simp
theorem sum_two {α : Type} (f : α → Nat) (B : Nat) : ∀ l : List α, (l.map fun x => f x * B).sum = (l.map f).sum * B
  | [] => by simp
  | x :: l => by rw [List.map_cons, List.sum_cons, sum_two f B l, List.map_cons, List.sum_cons, Nat.add_mul]
theorem nd_mem {p : Lb × Ut} : ∀ {fs : Fl}, p ∈ fs → ndT p.2 ≤ ndF fs
  | [], h => by cases h
  | q :: fs, h => by
    rw [ndF_cons]
    rcases List.mem_cons.1 h with rfl | h
    · omega
    · have := nd_mem h; omega
/-- A type that is not too large has at most twice as many nodes as it is large. -/
theorem fl_len : ∀ t, ndT t ≤ 10000 → ∀ s, (flT s t).length ≤ ndT t * 2 := by
  refine Ut.ind fun k n fs tl ih h s => ?_
  rw [ndT_mk] at h ⊢
  split at h
  · omega
  · next h50 =>
    rw [if_neg h50]
    have h1 : ∀ p ∈ fs, ∀ s, (flT s p.2).length ≤ ndT p.2 * 2 := fun p hp s => ih p hp (by have := nd_mem hp; omega) s
    have h2 := flF_le (f := fun t => ndT t * 2) h1
    rw [sum_two (fun p : Lb × Ut => ndT p.2) 2 fs, ← ndF_sum] at h2
    have h3 : (tailN tl).length ≤ 1 := by cases tl <;> simp [tailN]
    rw [flT_mk]
    split
    · simp only [List.length_cons, List.length_append]; omega
    · simp only [List.length_cons]; omega

/-- So many children, laid out. -/
def flX (row : Bool) (x : Fl) : List Nd := if row then flF x else flE x
theorem flX_nil (r : Bool) : flX r [] = [] := by cases r <;> simp [flX, flF_nil, flE_nil]
theorem flX_snoc (r : Bool) (x : Fl) (p : Lb × Ut) : flX r (x ++ [p]) = flX r x ++ flT (if r then p.1 else ByteArray.empty) p.2 := by
  cases r <;> simp [flX, flF_flat, flE_flat]
theorem flX_take {r : Bool} {x : Fl} {i : Nat} {p : Lb × Ut} (h : x[i]? = some p) : flX r (x.take (i + 1)) = flX r (x.take i) ++ flT (if r then p.1 else ByteArray.empty) p.2 := by
  rw [List.take_add_one, h]; exact flX_snoc r _ p
theorem flX_le (r : Bool) (x : Fl) (i : Nat) : (flX r (x.take i)).length ≤ (flX r x).length := by
  have h : flX r x = flX r (x.take i) ++ flX r (x.drop i) := by
    have h1 : ∀ a b : Fl, flX r (a ++ b) = flX r a ++ flX r b := fun a b => by cases r <;> simp [flX, flF_flat, flE_flat]
    rw [← h1, List.take_append_drop]
  rw [h]; simp
end Go.Proofs.Ytblfeokjlecgkaa

/- The laws' live question; runs, as the laws tell them. -/
namespace Go.Proofs.Ytblfeokjlecgkaa

def boolT : Ut := .mk 2 0 [] none
def unitT : Ut := .mk 4 0 [] none
def dynU : Ut := .mk 0 0 [] none
def bareNd (k n : Int) : Nd := ⟨k, ByteArray.empty, n⟩
def aliveA : List Nd := [bareNd 5 0, bareNd 8 0, bareNd 0 0]
def aliveB : List Nd := [bareNd 5 0, bareNd 1 0, bareNd 2 0]
def aliveU : List Lb := [lA, lB, ByteArray.empty]
theorem alive_gd : GdT aliveA ∧ GdT aliveB ∧ GdT [bareNd 8 0] ∧ GdT [bareNd 4 0] :=
  ⟨(gd_of (by rfl)).1, (gd_of (by rfl)).1, (gd_of (by rfl)).1, (gd_of (by rfl)).1⟩
theorem alive_ut : utT aliveA = arrT (varT 0) dynU ∧ utT aliveB = arrT intT boolT ∧ utT [bareNd 8 0] = varT 0 ∧ utT [bareNd 4 0] = unitT := by
  refine ⟨rfl, rfl, rfl, rfl⟩
theorem alive_told : Told aliveU 1 (utT aliveA) ∧ Told aliveU 1 (utT aliveB) ∧ Told aliveU 1 (utT [bareNd 8 0]) ∧ Told aliveU 1 (utT [bareNd 4 0]) := by
  have hA : lA ∈ aliveU := by simp [aliveU]
  have hB : lB ∈ aliveU := by simp [aliveU]
  refine ⟨told_of hA hB alive_gd.1 ?_ ?_, told_of hA hB alive_gd.2.1 ?_ ?_, told_of hA hB alive_gd.2.2.1 ?_ ?_, told_of hA hB alive_gd.2.2.2 ?_ ?_⟩ <;> simp [aliveA, aliveB, aliveU, bareNd, toldN]
theorem pair_low {U : List Lb} {m0 : Int} {a b : Ut} (ha : Told U m0 a) (hb : Told U m0 b) : Low m0 (CoI a b) := fun τ τ' h hc => by
  unfold CoI at hc ⊢
  rwa [← ha.no.inst h, ← hb.no.inst h]
theorem alive_good : ¬ Bad 1 fun τ => True ∧ CoI (utT aliveA) (utT aliveB) τ := by
  refine not_bad ((Low.true 1).and (pair_low alive_told.1 alive_told.2.1)) (τ := ⟨fun _ => intT, Va.id.t⟩) (fun n _ => intT_st) ⟨trivial, ?_⟩ (fun n _ _ => ?_)
  · rw [alive_ut.1, alive_ut.2.1]
    unfold CoI
    rw [inst_arr, inst_arr, inst_var, co_arr]
    refine ⟨?_, ?_⟩
    · have : inst ⟨fun _ => intT, Va.id.t⟩ intT = intT := plain_inst _ intT (by rw [intT, wfT_mk]; exact ⟨(wfT_mk.1 (gd_wf (gd_of (T := [bareNd 1 0]) (by rfl)).1)).1, fun p hp => by cases hp⟩) (by rw [intT, noTl_mk]; simp)
      rw [this]
      exact Co.refl _
    · have h1 : inst ⟨fun _ => intT, Va.id.t⟩ dynU = dynU := plain_inst _ dynU (gd_wf (gd_of (T := [bareNd 0 0]) (by rfl)).1) (by rw [dynU, noTl_mk]; simp)
      rw [h1]
      exact .dl _ _ _ _
  · show ndT intT ≤ 10000 ∧ dpT intT ≤ 100
    unfold intT
    rw [ndT_mk, dpT_mk, ndF_nil, dpF_nil]
    simp
theorem plain_leaf {k : Int} (h : rightB [bareNd k 0] = true) (h8 : k ≠ 8) (h5 : k ≠ 5) (hr : isRowB k = false) (τ : Va) : inst τ (.mk k 0 [] none) = .mk k 0 [] none := by
  have hu : utT [bareNd k 0] = .mk k 0 [] none := by
    have tr : Trees (manyN (bareNd k 0)) ([] : List (List Nd)).flatten [] := by
      have : manyN (bareNd k 0) = 0 := by
        unfold manyN many bareNd
        rw [if_neg h5, hr]
        rfl
      rw [this]
      exact ⟨rfl, rfl, fun ts hts => by cases hts⟩
    have := utT_cons tr
    simp only [List.flatten_nil] at this
    rw [this]
    show Ut.mk k (if k = 8 then 0 else 0) ((labsU k (lOf [])).zip ((lOf []).map utT)) (tlU []) = _
    rw [if_neg h8]
    simp [lOf, tailB, tlU, tOf]
  rw [← hu]
  refine plain_inst τ _ (gd_wf (gd_of h).1) ?_
  rw [hu, noTl_mk]
  exact ⟨fun e => absurd e h8, rfl, fun c hc => by cases hc⟩
theorem int_inst (τ : Va) : inst τ intT = intT := plain_leaf (by rfl) (by decide) (by decide) rfl τ
theorem unit_inst (τ : Va) : inst τ unitT = unitT := plain_leaf (by rfl) (by decide) (by decide) rfl τ
theorem alive_known {S S' : Kn} (hL : S.L 0 = none) (hm : 0 < S.m) (s : Step S S' (CoI (utT aliveA) (utT aliveB))) : S'.σ.v 0 = intT := by
  have := s.co _ s.inv.sat
  rw [alive_ut.1, alive_ut.2.1] at this
  unfold CoI at this
  rw [inst_arr, inst_arr, inst_var, int_inst, co_arr] at this
  have oA := s.inv.wf.ok.v 0 (by rw [s.le.L 0 hm]; exact hL)
  exact this.1.eq oA.1 intT_st.1 oA.2 intT_st.2
theorem alive_no {S S' : Kn} (h : S.Inv) (hL : S.L 0 = none) (hk : S.σ.v 0 = intT) (s : Step S S' (CoI (utT [bareNd 8 0]) (utT [bareNd 4 0]))) : False := by
  have h1 := s.co _ s.inv.sat
  rw [alive_ut.2.2.1, alive_ut.2.2.2] at h1
  unfold CoI at h1
  rw [inst_var, unit_inst] at h1
  obtain ⟨τ, h2, ha⟩ := s.le.sat _ s.inv.sat
  have h3 := h.gen τ h2.1 h2.2 (varT 0) (okT_var hL)
  rw [inst_var, inst_var, hk, int_inst] at h3
  have hlt : 0 < S.m := by
    rcases Int.lt_or_le 0 S.m with g | g
    · exact g
    · exfalso
      have := h.unk 0 (h.free g)
      rw [hk] at this
      have h4 := this.1
      unfold intT varT at h4
      injection h4 with h4
      exact absurd h4 (by decide)
  have h4 := (ha 0 hlt).1
  rw [h4, ← h3] at h1
  unfold intT unitT at h1
  cases h1
/-! ### Runs of steps -/
structure RunB (U : List Lb) (m0 : Int) (l : List Stp) (S : Kn) : Prop where
  run : Run U m0 (allC l) S
  m : S.m + (S.un : Int) ≤ 2 * m0 + 1000 * (l.length : Nat)
theorem RunB.start (U : List Lb) {m0 : Int} (h0 : 0 ≤ m0) : RunB U m0 [] (Kn.zero m0) :=
  ⟨(Run.start U h0).congr fun τ => ⟨fun _ x hx => by simp at hx, fun _ => trivial⟩, by rw [zero_un h0]; show m0 + m0 ≤ _; simp; omega⟩
theorem RunB.low {U : List Lb} {m0 : Int} {l : List Stp} {S : Kn} (h : RunB U m0 l S) : m0 ≤ S.m ∧ ∀ x, x < m0 → S.L x = none := ⟨h.run.most.m, h.run.most.sort⟩
/-- What a step's answer is, by what is known behind it. -/
theorem RunB.pair {U : List Lb} {m0 : Int} {l : List Stp} {S S' : Kn} {x : Stp} (h : RunB U m0 l S) (g : GoodS U m0 x) (hx : x.l.size = 0) (d : Done U S S' (CoI (utT x.a) (utT x.b)) (dynT (utT x.a) + dynT (utT x.b))) :
    (fitK m0 S' → RunB U m0 (l ++ [x]) S') ∧ (¬ fitK m0 S' → Bad m0 (allC (l ++ [x]))) := by
  have hc : x.cst = .pair (utT x.a) (utT x.b) := if_pos hx
  have hl : Low m0 (CoI (utT x.a) (utT x.b)) := by have := g.low; rw [hc] at this; exact this
  have e : ∀ τ, (allC l τ ∧ CoI (utT x.a) (utT x.b) τ) ↔ allC (l ++ [x]) τ := fun τ => by rw [allC_snoc, hc]; rfl
  obtain ⟨g1, g2, g3, g4⟩ := g.pair hx
  have d1 := dyn_of g1
  have d2 := dyn_of g2
  refine ⟨fun hf => ⟨(h.run.next d.kg d.st hl hf).congr e, ?_⟩, fun hf => ?_⟩
  · have h1 := d.m
    have h2 := h.m
    simp only [List.length_append, List.length_singleton]
    omega
  · have := h.run.big d.st hl hf
    rwa [show (fun τ => allC l τ ∧ CoI (utT x.a) (utT x.b) τ) = allC (l ++ [x]) from funext fun τ => propext (e τ)] at this
theorem RunB.pairD {U : List Lb} {m0 : Int} {l : List Stp} {S : Kn} {x : Stp} (h : RunB U m0 l S) (g : GoodS U m0 x) (hx : x.l.size = 0) (d : Dis S (utT x.a) (utT x.b)) : Bad m0 (allC (l ++ [x])) := by
  have hc : x.cst = .pair (utT x.a) (utT x.b) := if_pos hx
  have hl : Low m0 (CoI (utT x.a) (utT x.b)) := by have := g.low; rw [hc] at this; exact this
  have e : ∀ τ, (allC l τ ∧ CoI (utT x.a) (utT x.b) τ) ↔ allC (l ++ [x]) τ := fun τ => by rw [allC_snoc, hc]; rfl
  have := h.run.dis d hl
  rwa [show (fun τ => allC l τ ∧ CoI (utT x.a) (utT x.b) τ) = allC (l ++ [x]) from funext fun τ => propext (e τ)] at this
/-- A step that opens. -/
theorem RunB.opn {U : List Lb} {m0 : Int} {l : List Stp} {S S' : Kn} {x : Stp} (h : RunB U m0 l S) (g : GoodS U m0 x) (hx : x.l.size ≠ 0) (d : Done U (S.freshT [x.l]) S' (CoI (varT x.n) (openT x.k x.l x.m S.m)) (dynT (varT x.n) + dynT (openT x.k x.l x.m S.m))) :
    (fitK m0 S' → RunB U m0 (l ++ [x]) S') ∧ (¬ fitK m0 S' → Bad m0 (allC (l ++ [x]))) := by
  have hc : x.cst = .opn x.k x.l x.n x.m := if_neg hx
  have gc := g.c
  have hl := g.low
  rw [hc] at gc hl
  have e : ∀ τ, (allC l τ ∧ (Cst.opn x.k x.l x.n x.m).holds τ) ↔ allC (l ++ [x]) τ := fun τ => by rw [allC_snoc, hc]
  have st := open_done gc h.run.kg h.low.2 h.low.1 d.st
  have hk : x.k ≠ 0 := by
    intro e
    have h1 : isRowB x.k = true := gc.1
    rw [e] at h1
    cases h1
  have hd : dynT (varT x.n) + dynT (openT x.k x.l x.m S.m) = 0 := by
    simp [openT, varT, dynT_mk, dynF_cons, dynF_nil]
    exact hk
  refine ⟨fun hf => ⟨(h.run.next d.kg st hl hf).congr e, ?_⟩, fun hf => ?_⟩
  · have h1 := d.m
    have h2 := h.m
    have h3 := un_freshT h.run.kg.inv h.run.kg.nn [x.l]
    have h4 : (S.freshT [x.l]).m = S.m + 1 := rfl
    rw [hd] at h1
    simp only [List.length_append, List.length_singleton]
    omega
  · have := h.run.big st hl hf
    rwa [show (fun τ => allC l τ ∧ (Cst.opn x.k x.l x.n x.m).holds τ) = allC (l ++ [x]) from funext fun τ => propext (e τ)] at this
theorem RunB.opnD {U : List Lb} {m0 : Int} {l : List Stp} {S : Kn} {x : Stp} (h : RunB U m0 l S) (g : GoodS U m0 x) (hx : x.l.size ≠ 0) (d : Dis (S.freshT [x.l]) (varT x.n) (openT x.k x.l x.m S.m)) : Bad m0 (allC (l ++ [x])) := by
  have hc : x.cst = .opn x.k x.l x.n x.m := if_neg hx
  have gc := g.c
  have hl := g.low
  rw [hc] at gc hl
  have e : ∀ τ, (allC l τ ∧ (Cst.opn x.k x.l x.n x.m).holds τ) ↔ allC (l ++ [x]) τ := fun τ => by rw [allC_snoc, hc]
  have := h.run.dis (open_dis gc h.run.kg h.low.2 h.low.1 d) hl
  rwa [show (fun τ => allC l τ ∧ (Cst.opn x.k x.l x.n x.m).holds τ) = allC (l ++ [x]) from funext fun τ => propext (e τ)] at this
end Go.Proofs.Ytblfeokjlecgkaa

/- Which steps may be told, as a law asks it. -/
namespace Go.Proofs.Ytblfeokjlecgkaa
def toldB (t : List Nd) (next : Int) : Bool := fewB t 30 && t.all (toldN next)
def mayB (next : Int) (x : Stp) : Bool :=
  if x.l.size ≠ 0 then decide (x.l.size ≤ 50) && ((x.k == 6 || x.k == 7) && (rRightB [⟨x.k, ByteArray.empty, 1⟩, ⟨1, x.l, 0⟩] && (decide (0 ≤ x.n) && decide (x.n < next) && (decide (0 ≤ x.m) && decide (x.m < next)))))
  else toldB x.a next && toldB x.b next
def maysB (next : Int) (l : List Stp) : Bool := decide (0 ≤ next) && decide (next ≤ 8) && (decide (l.length ≤ 12) && l.all (mayB next))

theorem label_of {k : Int} {l : Lb} (hk : isRowB k = true) (h : rightB [⟨k, ByteArray.empty, 1⟩, ⟨1, l, 0⟩] = true) : rowLabelB k l = true := by
  have g := (gd_of h).1
  generalize hT : ([⟨k, ByteArray.empty, 1⟩, ⟨1, l, 0⟩] : List Nd) = T at g
  cases g with
  | mk x tss ok k9 tr ch row els tl =>
    injection hT with h1 h2
    subst h1
    have hm : manyN (⟨k, ByteArray.empty, 1⟩ : Nd) = 1 := by
      unfold isRowB at hk
      simp only [Bool.or_eq_true, beq_iff_eq] at hk
      rcases hk with rfl | rfl <;> rfl
    have e := tr.uniq
    rw [hm, ← h2] at e
    have e2 : tss = [[⟨1, l, 0⟩]] := by rw [e]; rfl
    subst e2
    have := (row hk).2 l (by
      show l ∈ labsT (lOf [[⟨1, l, 0⟩]])
      simp [lOf, tailB, labsT, headNd])
    exact this
theorem told_of_B {U : List Lb} {t : List Nd} {next : Int} (hA : lA ∈ U) (hB : lB ∈ U) (hU : ∀ x ∈ t, x.s ∈ U) (h : toldB t next = true) : Told U next (utT t) ∧ GdT t ∧ t.length ≤ 30 ∧ rightB t = true ∧ ∀ x ∈ t, toldN next x = true := by
  unfold toldB at h
  rw [Bool.and_eq_true, List.all_eq_true] at h
  obtain ⟨h1, _, h3⟩ := fewB_parts h.1
  rw [right_eq] at h3
  exact ⟨told_of hA hB (gd_of h3).1 hU h.2, (gd_of h3).1, by omega, h3, h.2⟩
/-- The labels of all that is told. -/
def labsM (l : List Stp) : List Lb := lA :: lB :: l.flatMap fun x => x.l :: (if x.l.size = 0 then x.a.map Nd.s ++ x.b.map Nd.s else [])
theorem mem_labsM {l : List Stp} {x : Stp} (hx : x ∈ l) : x.l ∈ labsM l ∧ (x.l.size = 0 → (∀ y ∈ x.a, y.s ∈ labsM l) ∧ ∀ y ∈ x.b, y.s ∈ labsM l) := by
  unfold labsM
  refine ⟨?_, fun e => ⟨fun y hy => ?_, fun y hy => ?_⟩⟩
  all_goals
    refine List.mem_cons_of_mem _ (List.mem_cons_of_mem _ (List.mem_flatMap.2 ⟨x, hx, ?_⟩))
  · simp
  · rw [if_pos e]
    exact List.mem_cons_of_mem _ (List.mem_append.2 (.inl (List.mem_map.2 ⟨y, hy, rfl⟩)))
  · rw [if_pos e]
    exact List.mem_cons_of_mem _ (List.mem_append.2 (.inr (List.mem_map.2 ⟨y, hy, rfl⟩)))
theorem good_of_may {U : List Lb} {next : Int} {x : Stp} (hA : lA ∈ U) (hB : lB ∈ U) (hl : x.l ∈ U) (hab : x.l.size = 0 → (∀ y ∈ x.a, y.s ∈ U) ∧ ∀ y ∈ x.b, y.s ∈ U) (h : mayB next x = true) : GoodS U next x := by
  unfold mayB at h
  split at h
  · next hx =>
    simp only [Bool.and_eq_true, Bool.or_eq_true, beq_iff_eq, decide_eq_true_eq] at h
    obtain ⟨h1, h2, h3, ⟨h4, h5⟩, h6, h7⟩ := h
    have hr : isRowB x.k = true := by
      unfold isRowB
      rcases h2 with e | e <;> rw [e] <;> rfl
    refine ⟨?_, fun e => absurd e hx⟩
    unfold Stp.cst
    rw [if_neg hx]
    exact ⟨hr, label_of hr (by rw [← right_eq]; exact h3), hl, h4, h5, h6, h7⟩
  · next hx =>
    rw [Bool.and_eq_true] at h
    obtain ⟨ha, hb⟩ := hab (by omega)
    obtain ⟨t1, g1, l1, _⟩ := told_of_B hA hB ha h.1
    obtain ⟨t2, g2, l2, _⟩ := told_of_B hA hB hb h.2
    refine ⟨?_, fun _ => ⟨g1, g2, l1, l2⟩⟩
    unfold Stp.cst
    rw [if_pos (by omega)]
    exact ⟨t1, t2⟩
theorem may_len {next : Int} {x : Stp} (h : mayB next x = true) (hx : x.l.size = 0) : x.a.length ≤ 30 ∧ x.b.length ≤ 30 ∧ rightB x.a = true ∧ rightB x.b = true ∧ (∀ y ∈ x.a, toldN next y = true) ∧ ∀ y ∈ x.b, toldN next y = true := by
  unfold mayB at h
  rw [if_neg (by simpa using hx), Bool.and_eq_true] at h
  have t1 := told_of_B (U := lA :: lB :: x.a.map Nd.s) (by simp) (by simp) (fun y hy => List.mem_cons_of_mem _ (List.mem_cons_of_mem _ (List.mem_map.2 ⟨y, hy, rfl⟩))) h.1
  have t2 := told_of_B (U := lA :: lB :: x.b.map Nd.s) (by simp) (by simp) (fun y hy => List.mem_cons_of_mem _ (List.mem_cons_of_mem _ (List.mem_map.2 ⟨y, hy, rfl⟩))) h.2
  exact ⟨t1.2.2.1, t2.2.2.1, t1.2.2.2.1, t2.2.2.2.1, t1.2.2.2.2, t2.2.2.2.2⟩
theorem labsM_len {next : Int} {l : List Stp} (h : ∀ x ∈ l, mayB next x = true) : (labsM l).length ≤ 2 + l.length * 61 := by
  unfold labsM
  have : ∀ l : List Stp, (∀ x ∈ l, mayB next x = true) → (l.flatMap fun x => x.l :: (if x.l.size = 0 then x.a.map Nd.s ++ x.b.map Nd.s else [])).length ≤ l.length * 61 := by
    intro l
    induction l with
    | nil => intro _; simp
    | cons x l ih =>
      intro h
      have h1 := ih fun y hy => h y (List.mem_cons_of_mem _ hy)
      have h2 : (if x.l.size = 0 then x.a.map Nd.s ++ x.b.map Nd.s else []).length ≤ 60 := by
        split
        · next hx =>
          have := may_len (h x (by simp)) hx
          simp only [List.length_append, List.length_map]
          omega
        · simp
      simp only [List.flatMap_cons, List.length_append, List.length_cons]
      omega
  have := this l h
  simp only [List.length_cons]
  omega
theorem mays_parts {next : Int} {l : List Stp} (h : maysB next l = true) : 0 ≤ next ∧ next ≤ 8 ∧ l.length ≤ 12 ∧ (labsM l).length ≤ 1000 ∧ (∀ x ∈ l, mayB next x = true) ∧ ∀ x ∈ l, GoodS (labsM l) next x := by
  unfold maysB at h
  simp only [Bool.and_eq_true, decide_eq_true_eq, List.all_eq_true] at h
  obtain ⟨⟨h1, h2⟩, h3, h4⟩ := h
  have := labsM_len h4
  refine ⟨h1, h2, h3, by omega, h4, fun x hx => ?_⟩
  obtain ⟨a, b⟩ := mem_labsM hx
  exact good_of_may (by simp [labsM]) (by simp [labsM]) a b (h4 x hx)
end Go.Proofs.Ytblfeokjlecgkaa

/- Which steps may be told, walked. -/
namespace Go.Proofs.Ytblfeokjlecgkaa
open Go.RowKit

theorem all_snoc {α : Type} {f : α → Bool} {l : List α} {i : Nat} {x : α} (h : l[i]? = some x) (h1 : (l.take i).all f = true) (h2 : f x = true) : (l.take (i + 1)).all f = true := by
  rw [List.take_add_one, h, List.all_append, h1]
  simp [h2]
theorem all_no {α : Type} {f : α → Bool} {l : List α} {i : Nat} {x : α} (h : l[i]? = some x) (h2 : f x = false) : l.all f = false := by
  rw [List.all_eq_false]
  exact ⟨x, List.mem_of_getElem? h, by simp [h2]⟩

set_option maxRecDepth 100000 in
set_option maxHeartbeats 4000000 in
theorem told_any (A : Option Addr) (c : Nat) (xs : List Nd) (next : Int) (w : World) (ha : TyA w w.heap.size A xs) (hl : xs.length ≤ 9223372036854775807) (hs : ∀ x ∈ xs, x.s.size ≤ 9223372036854775807) :
    Calls Try.prog 92 #[.slice A xs.length c, .int .i64 next] w fun e w' => e = .returned (.bool (toldB xs next)) ∧ Below w.heap.size w w' := by
  have hf := Lib.hid (Few_any A c xs 30 w ha hl hs)
  have HA := Lib.hid ha
  clear ha hs
  go_enter Try.func92, Try.ntmps92
  go_wp2_with fail
  refine hf.out.mono ?_
  clear hf
  rintro e w1 ⟨rfl, hb⟩
  have HB := Lib.hid hb
  clear hb
  cases hf : fewB xs 30 with
  | false =>
    have HF := Lib.hid hf
    clear hf
    go_wp2_with fail
    go_ret
    exact ⟨ret_bool (by unfold toldB; rw [HF.out]; rfl), HB.out⟩
  | true =>
    have HF := Lib.hid hf
    have hl30 : xs.length ≤ 30 := by have := (fewB_parts hf).1; omega
    clear hf
    go_wp2_with fail
    go_loopw [5] (fun s5 wr => ∃ i : Nat, s5 = .int .i64 i ∧ i ≤ xs.length ∧ wr = w1 ∧ Hid ((xs.take i).all (toldN next) = true)) (fun s5 _ => xs.length - (intOf s5).toNat)
    case atStart => exact ⟨0, rfl, Nat.zero_le _, rfl, Lib.hid (by simp)⟩
    case round =>
      obtain ⟨i, rfl, hi, rfl, M⟩ := hrel
      by_cases hp : i < xs.length
      · obtain ⟨x, hx⟩ := getq_ex hp
        obtain ⟨b1, o1, rfl, hb1, c10, c11, c12⟩ := (HA.out.below HB.out).at_ hx
        have Hx := Lib.hid hx
        clear hx
        have hbw : b1 < wr.heap.size := Nat.lt_of_lt_of_le hb1 HB.out.size
        cases h9 : (x.k == 9) with
        | true =>
          have HN : Hid (toldN next x = false) := Lib.hid (by unfold toldN; rw [h9]; rfl)
          go_wp2_with fail
          go_ret
          exact ⟨ret_bool (by unfold toldB; rw [all_no Hx.out HN.out]; simp), HB.out⟩
        | false =>
          cases h8 : (x.k == 8) with
          | false =>
            have HN : Hid (toldN next x = true) := Lib.hid (by unfold toldN; rw [h9, h8]; rfl)
            go_wp2_with fail
            go_roundw
            case rel => exact ⟨i + 1, by go_num, hp, by first | rfl | trivial, Lib.hid (all_snoc Hx.out M.out HN.out)⟩
            case measure => simp [intOf]; omega
          | true =>
            by_cases hn : next ≤ x.n
            · have HN : Hid (toldN next x = false) := Lib.hid (by unfold toldN; rw [h9, h8, decide_eq_true hn]; rfl)
              go_wp2_with fail
              go_ret
              exact ⟨ret_bool (by unfold toldB; rw [all_no Hx.out HN.out]; simp), HB.out⟩
            · have HN : Hid (toldN next x = true) := Lib.hid (by unfold toldN; rw [h9, h8, decide_eq_false hn]; rfl)
              go_wp2_with fail
              go_roundw
              case rel => exact ⟨i + 1, by go_num, hp, by first | rfl | trivial, Lib.hid (all_snoc Hx.out M.out HN.out)⟩
              case measure => simp [intOf]; omega
      · have e1 : xs.take i = xs := List.take_of_length_le (by omega)
        rw [e1] at M
        go_wp2_with fail
        go_ret
        exact ⟨ret_bool (by unfold toldB; rw [HF.out, M.out]; rfl), HB.out⟩

/-- Nodes that are made just now. -/
theorem tyA_newL (w : World) (xs : List Nd) (c : Array Value) (h : c.toList = xs.flatMap encN) : TyA (w.alloc (.cells c 48)) (w.heap.size + 1) (some ⟨w.heap.size, 0, none⟩) xs := by
  refine ReadL.tyA (fun _ => ⟨w.heap.size, 0, rfl, by omega, fun i y hy j u hu => ?_⟩)
  have h1 := heap_alloc_new w (.cells c 48)
  have h2 := flatMap_at encN_len hy hu
  rw [← h] at h2
  simp only [World.cell?, h1]
  rw [Nat.zero_add]
  simpa using h2

/-- A step as it is handed over. -/
abbrev stV (x : Stp) (A : Option Addr) (ca : Nat) (B : Option Addr) (cb : Nat) : Value := .agg #[.slice A x.a.length ca, .slice B x.b.length cb, .string x.l, .int .i64 x.k, .int .i64 x.n, .int .i64 x.m]

end Go.Proofs.Ytblfeokjlecgkaa
