/- Laid together by a tool from the texts of this seat: ChNm ChD. Conditions: each theorem's own. -/
import Derived.Test.YtmjdhfbnmmdjiaaGreatK15
import Derived.RangeFuncNested
import Derived.RangeFuncBound
import Derived.RangeFuncCalls
import Derived.RangeFuncLeaves
import Derived.Shelf.Abstract
import Derived.Shelf.RegionOpen
import Derived.WalkKit
import Derived.OwnWalkIn
import Derived.TacticsInMore
import Derived.LoopNIn
import Derived.LoopIn
import Derived.Test.YtmjdhfbnmmdjiaaGreatK20
import Derived.Test.YtmjdhfbnmmdjiaaGreatK21
/- The way of a Name: a range over slices.Backward. -/
namespace Go.Proofs.YtmjdhfbnmmdjiaaGreat
open Go.RowKit Go.Shelf

attribute [local go_sem] Oper.semAt_some

instance : Inhabited Bn := ⟨⟨ByteArray.empty, none, 0, 0⟩⟩
abbrev BwX := Nat × Bn
def bwEnc (x : BwX) : Array Value := #[.int .i64 (x.1 : Int), .agg #[.string x.2.s, .slice x.2.A x.2.n x.2.c]]
/-- The k-th name from behind. -/
def bwAt (bs : List Bn) (k : Nat) : BwX := (bs.length - 1 - k, (bs[bs.length - 1 - k]?).getD default)
def bwUpto (bs : List Bn) (k : Nat) : List BwX := (List.range k).map (bwAt bs)
theorem bwUpto_succ (bs : List Bn) (k : Nat) : bwUpto bs (k + 1) = bwUpto bs k ++ [bwAt bs k] := by simp [bwUpto, List.range_succ]
theorem bwUpto_len (bs : List Bn) (k : Nat) : (bwUpto bs k).length = k := by simp [bwUpto]
/-- What a round keeps: what lay below a block, but for one box. -/
structure KpR (N R : Nat) (W W' : World) : Prop where
  size : W.heap.size ≤ W'.heap.size
  block : ∀ k, k < N → k ≠ R → W'.heap[k]? = W.heap[k]?
theorem KpR.refl (N R : Nat) (W : World) : KpR N R W W := ⟨Nat.le_refl _, fun _ _ _ => rfl⟩
theorem KpR.trans {N R : Nat} {A B C : World} (h : KpR N R A B) (k : KpR N R B C) : KpR N R A C := ⟨Nat.le_trans h.size k.size, fun q h1 h2 => (k.block q h1 h2).trans (h.block q h1 h2)⟩
theorem KpR.cell {N R : Nat} {A B : World} (h : KpR N R A B) {b off : Nat} (hb : b < N) (hr : b ≠ R) : B.cell? ⟨b, off, none⟩ = A.cell? ⟨b, off, none⟩ := by simp [World.cell?, h.block b hb hr]
theorem KpR.put {N R : Nat} {w : World} (hN : N ≤ w.heap.size) (W : World) (l : Nat) (o o' : Obj) (hl : w.heap.size ≤ l) (h : W.heap[l]? = some o) (_ : o.isCells = false) (_ : o.isWalk = false) : KpR N R W (W.putObj l o') :=
  ⟨(grownBy_putObj' W l o').size, fun k hk _ => (grownBy_putObj' W l o').block k (by have := (Array.getElem?_eq_some_iff.1 h).1; omega) (fun e => by injection e with e; omega)⟩
theorem KpR.of_below {N R : Nat} {A B : World} (h : Below N A B) : KpR N R A B := ⟨h.size, fun k hk _ => h.block k hk⟩
/-- Names in memory, below a block. -/
def BwM (n0 R : Nat) (W : World) (A : Option Addr) (bs : List Bn) : Prop := bs ≠ [] → ∃ b off, A = some ⟨b, off, none⟩ ∧ b < n0 ∧ b ≠ R ∧ ∀ j, j < bs.length → W.cell? ⟨b, off + j * 2, none⟩ = some (.string ((bs[j]?).getD default).s) ∧ W.cell? ⟨b, off + j * 2 + 1, none⟩ = some (.slice ((bs[j]?).getD default).A ((bs[j]?).getD default).n ((bs[j]?).getD default).c)

set_option maxRecDepth 100000 in
set_option maxHeartbeats 4000000 in
theorem bw1_in (n : Nat) (hn : 1 ≤ n) (l Bs n0 R cap : Nat) (A : Option Addr) (bs : List Bn) (hlen : bs.length ≤ 1000000) (J Jx : List BwX → World → Prop)
    (hY : ∀ pre x W, J pre W → pre.length < bs.length → YieldAt Fence.wide (n - 1) Tryz.prog l (bwEnc x) W fun e W' =>
      (e = .returned (.bool true) ∧ J (pre ++ [x]) W' ∧ KpR n0 R W W') ∨ (e = .returned (.bool false) ∧ Jx (pre ++ [x]) W'))
    (W : World) (hBl : Bs < n0) (hBr : Bs ≠ R) (hBs : W.cell? ⟨Bs, 0, none⟩ = some (.slice A bs.length cap)) (hc : BwM n0 R W A bs) (h0 : J [] W) :
    CallsIn Fence.wide n Tryz.prog 119 #[.func (.yield l) #[] #[], .pointer (some ⟨Bs, 0, none⟩)] W fun e W' => (∃ v, e = .returned v) ∧
      ((∃ ys, ys = bwUpto bs bs.length ∧ J ys W') ∨ (∃ pre, (∃ k, k ≤ bs.length ∧ pre = bwUpto bs k) ∧ Jx pre W')) := by
  refine callsIn_of_wp Tryz.func119 rfl trivial ?_ rfl
  simp only [Tryz.ntmps119, List.size_toArray, List.length_cons, List.length_nil, Nat.reduceAdd, Nat.reduceSub, Array.replicate_succ, Array.replicate_zero, List.push_toArray, List.append_toArray, List.nil_append, List.cons_append]
  obtain ⟨len, hl⟩ : ∃ len, len = bs.length := ⟨_, rfl⟩
  rw [← hl] at hBs hlen ⊢
  have HL := Lib.hid (And.intro hl (And.intro hY hc))
  clear hl hY hc
  gi_wp2
  gi_loopw [3] (fun i wr => ∃ k m : Nat, k + m = len ∧ i = .int .i64 ((m : Int) - 1) ∧ J (bwUpto bs k) wr ∧ KpR n0 R W wr)
    (fun i _ => (intOf i + 1).toNat)
  case atStart => exact ⟨0, len, by omega, by simp, h0, KpR.refl _ _ _⟩
  case round =>
    obtain ⟨k, m, hkm, rfl, hJs, hnx⟩ := hrel
    have hBs2 := (hnx.cell (off := 0) hBl hBr).trans hBs
    cases m with
    | succ m =>
      obtain ⟨y, hy0, hym⟩ : ∃ y, bwAt bs k = (m, y) ∧ y = (bs[m]?).getD default := ⟨_, by unfold bwAt; rw [← HL.out.1, show len - 1 - k = m by omega], rfl⟩
      have hsucc : bwUpto bs (k + 1) = bwUpto bs k ++ [(m, y)] := by rw [bwUpto_succ, hy0]
      obtain ⟨fn, tmps, assign, body, hy, hR⟩ := HL.out.2.1 _ (m, y) wr hJs (by rw [bwUpto_len, ← HL.out.1]; omega)
      dsimp only [bwEnc] at hy
      obtain ⟨b, off, rfl, hbn, hbr, hcs⟩ := HL.out.2.2 (by intro e; have := HL.out.1; rw [e] at this; simp at this; omega)
      obtain ⟨d0, d1⟩ := hcs m (by rw [← HL.out.1]; omega)
      rw [← hym] at d0 d1
      have e0 := (hnx.cell (off := off + m * 2) hbn hbr).trans d0
      have e1 := (hnx.cell (off := off + m * 2 + 1) hbn hbr).trans d1
      have HS := Lib.hid (And.intro hsucc hnx)
      have HR := Lib.hid hR
      have hml : m < len := by omega
      clear hcs d0 d1 hy0 hym hsucc hR hJs hnx
      gi_wp2
      refine HR.out.mono ?_
      rintro e W3 (⟨rfl, hJ3, hk3⟩ | ⟨rfl, hJx3⟩)
      · have HJ := Lib.hid (And.intro hJ3 (HS.out.2.trans hk3))
        clear hJ3 hk3
        gi_wp2
        go_roundw
        case rel => exact ⟨k + 1, m, by omega, by simp, by rw [HS.out.1]; exact HJ.out.1, HJ.out.2⟩
        case measure => simp [intOf]
      · have HJ := Lib.hid hJx3
        clear hJx3
        gi_wp2
        refine bodyPost_ret (results_none rfl _ _ _) rfl ?_
        exact ⟨⟨_, rfl⟩, .inr ⟨_, ⟨k + 1, by omega, HS.out.1.symm⟩, HJ.out⟩⟩
    | zero =>
      obtain rfl : k = len := by omega
      have HJ := Lib.hid hJs
      clear hJs
      gi_wp2
      go_end0
      exact ⟨⟨_, rfl⟩, .inl ⟨_, rfl, by have := HJ.out; rwa [HL.out.1] at this⟩⟩

theorem BwM.keep {n0 R : Nat} {W W' : World} {A : Option Addr} {bs : List Bn} (h : BwM n0 R W A bs) (k : KpR n0 R W W') : BwM n0 R W' A bs := fun hne => by
  obtain ⟨b, off, e, h1, h2, h3⟩ := h hne
  exact ⟨b, off, e, h1, h2, fun j hj => ⟨(k.cell h1 h2).trans (h3 j hj).1, (k.cell h1 h2).trans (h3 j hj).2⟩⟩

/-- slices.Backward's value. -/
theorem bw_stops (n : Nat) (hn : 1 ≤ n) (Bs n0 R cap : Nat) (A : Option Addr) (bs : List Bn) (hlen : bs.length ≤ 1000000) (w : World) (hn0 : n0 ≤ w.heap.size) (hBl : Bs < n0) (hBr : Bs ≠ R) (hBs : w.cell? ⟨Bs, 0, none⟩ = some (.slice A bs.length cap)) (hc : BwM n0 R w A bs) :
    SeqStopsK Fence.wide n Tryz.prog 119 #[.pointer (some ⟨Bs, 0, none⟩)] bwEnc (KpR n0 R) (fun ys => ys = bwUpto bs bs.length) (fun pre => ∃ k, k ≤ bs.length ∧ pre = bwUpto bs k) bs.length w := fun l J Jx W hW _ _ hY h0 =>
  bw1_in n hn l Bs n0 R cap A bs hlen J Jx hY W hBl hBr (((KpR.of_below (R := R) (hW.mono hn0)).cell hBl hBr).trans hBs) (hc.keep (KpR.of_below (hW.mono hn0))) h0

theorem bw_in (n : Nat) (A : Option Addr) (len cap : Nat) (w : World) :
    CallsIn Fence.wide n Tryz.prog 95 #[.slice A len cap] w fun e w' => e = .returned (.func (.func 119) #[] #[.pointer (some ⟨w.heap.size, 0, none⟩)]) ∧ w' = w.alloc (.cells #[.slice A len cap] 22) := by
  refine callsIn_of_wp Tryz.func95 rfl trivial ?_ rfl
  simp only [Tryz.ntmps95, List.size_toArray, List.length_cons, List.length_nil, Nat.reduceAdd, Nat.reduceSub, Array.replicate_succ, Array.replicate_zero, List.push_toArray, List.append_toArray, List.nil_append, List.cons_append]
  gi_wp2
  go_ret
  exact ⟨rfl, rfl⟩

theorem three_at (w : World) (c0 c1 c2 : Array Value) (t0 t1 t2 : TypeId) (W : World) (hW : W = ((w.alloc (.cells c0 t0)).alloc (.cells c1 t1)).alloc (.cells c2 t2)) :
    W.heap[w.heap.size]? = some (.cells c0 t0 (0, 0)) ∧ W.heap[w.heap.size + 1]? = some (.cells c1 t1 (0, 0)) ∧ W.heap[w.heap.size + 1 + 1]? = some (.cells c2 t2 (0, 0)) := by
  subst hW
  obtain ⟨w1, h1⟩ : ∃ w1, w1 = w.alloc (.cells c0 t0) := ⟨_, rfl⟩
  obtain ⟨w2, h2⟩ : ∃ w2, w2 = w1.alloc (.cells c1 t1) := ⟨_, rfl⟩
  have s1 : w1.heap.size = w.heap.size + 1 := by rw [h1]; simp
  have s2 : w2.heap.size = w.heap.size + 1 + 1 := by rw [h2, World.size_alloc, s1]
  rw [← h1, ← h2]
  have n0 := heap_alloc_new w (.cells c0 t0)
  have n1 := heap_alloc_new w1 (.cells c1 t1)
  have n2 := heap_alloc_new w2 (.cells c2 t2)
  have e1 := fun q (hq : q < w1.heap.size) => Below.heap_alloc w1 (.cells c1 t1) q hq
  have e2 := fun q (hq : q < w2.heap.size) => Below.heap_alloc w2 (.cells c2 t2) q hq
  rw [← h1] at n0
  rw [← h2, s1] at n1
  rw [s2] at n2
  rw [← h2] at e1
  exact ⟨by rw [e2 _ (by omega), e1 _ (by omega), n0], by rw [e2 _ (by omega), n1], n2⟩

/-- What speaks of a block of cells alone. -/
theorem blk_own {β : Type} (B b : Nat) (f : β → Obj) (hc : ∀ s, (f s).isCells = true) : OwnFrom B (fun (s : β) W => W.heap[b]? = some (f s)) := fun s W W' row hs hg hr => by
  have hb : b < W.heap.size := (Array.getElem?_eq_some_iff.1 hs).1
  refine (hg.block b hb fun e => ?_).trans hs
  obtain ⟨_, o, ho, hc2⟩ := hr b e.symm
  rw [hs] at ho
  injection ho with ho
  rw [← ho, hc s] at hc2
  cases hc2

def NmI (w : World) (p : Pt) (TA : Option Addr) (tc : Nat) (UA : Option Addr) (uc : Nat) (pre : List BwX) (W : World) : Prop :=
  (∀ x ∈ pre, x.2.s.toList ≠ p.nm.toList) ∧ W.heap[w.heap.size]? = some (.cells #[.int .i64 p.k, .string p.lb, .string p.nm, .string p.bd, .int .i64 p.mn, .int .i64 p.num, .slice TA p.T.length tc, .slice UA p.U.length uc] 33 (0, 0)) ∧ W.heap[w.heap.size + 1]? = some (.cells #[.slice none 0 0] 28 (0, 0)) ∧ Below w.heap.size w W ∧ w.heap.size + 3 ≤ W.heap.size
def NmX (w : World) (p : Pt) (c : Code) (pre : List BwX) (W : World) : Prop :=
  (∃ pre' x, c = .ret ∧ pre = pre' ++ [x] ∧ (∀ y ∈ pre', y.2.s.toList ≠ p.nm.toList) ∧ x.2.s.toList = p.nm.toList ∧ W.heap[w.heap.size + 1]? = some (.cells #[.slice x.2.A x.2.n x.2.c] 28 (0, 0))) ∧ Below w.heap.size w W
theorem nmI_own (w : World) (p : Pt) (TA : Option Addr) (tc : Nat) (UA : Option Addr) (uc : Nat) (B : Nat) (hB : w.heap.size ≤ B) : OwnFrom B (NmI w p TA tc UA uc) := fun _s W W' row hs hg hr =>
  ⟨hs.1, blk_own B _ (fun _ : Unit => _) (fun _ => rfl) () W W' row hs.2.1 hg hr, blk_own B _ (fun _ : Unit => _) (fun _ => rfl) () W W' row hs.2.2.1 hg hr, ownFrom_below (β := Unit) (Nat.le_refl _) hB () W W' row hs.2.2.2.1 hg hr, Nat.le_trans hs.2.2.2.2 hg.size⟩
theorem nmX_own (w : World) (p : Pt) (B : Nat) (hB : w.heap.size ≤ B) (c : Code) : OwnFrom B (NmX w p c) := fun s W W' row hs hg hr => by
  obtain ⟨⟨pre', x, h1, h2, h3, h4, h5⟩, h6⟩ := hs
  exact ⟨⟨pre', x, h1, h2, h3, h4, blk_own B _ (fun _ : Unit => _) (fun _ => rfl) () W W' row h5 hg hr⟩, ownFrom_below (β := Unit) (Nat.le_refl _) hB () W W' row h6 hg hr⟩

theorem ext_alloc' {N : Nat} {w W : World} (h : Below N w W) (o : Obj) (hN : N ≤ w.heap.size := by exact Nat.le_refl _) : Below N w (W.alloc o) := h.alloc (Nat.le_trans hN h.size) o

/-- Blocks of other kinds were written. -/
theorem WkE.frQ {P : Nat} {es : List Pt} {env : Env} {s : StW} {Y Q : Nat → Prop} {w w' : World} (h : WkE P es env s Y w) (k : Fr Q w w') (hQ : ∀ q, Q q → ¬ OfT w q 49 ∧ ¬ OfT w q 33 ∧ ¬ OfT w q 36 ∧ ¬ OfT w q 60 ∧ ¬ OldB Y q) : WkE P es env s Y w' := by
  obtain ⟨a, p, e, ⟨EA, ec, VA, vc, bs, h⟩, hr⟩ := h
  refine ⟨a, p, e, ⟨EA, ec, VA, vc, bs, ?_⟩, hr⟩
  have ty : ∀ {A : Option Addr} {t : List Nd}, TyX w Y A t → TyX w' Y A t := fun {A t} ht hne => by
    obtain ⟨b, o, e, hb, hy, hr, ho⟩ := ht hne
    have hbk := k.block b hb fun h2 => ho.elim (hQ b h2).1 (hQ b h2).2.2.2.2
    exact ⟨b, o, e, Nat.lt_of_lt_of_le hb k.size, hy, hr.mono fun off => by simp [World.cell?, hbk], ho.imp (of_keep hbk) fun h => h⟩
  have hP := h.lt P ((h.y P).2 (.inl rfl))
  refine ⟨(k.block P hP fun h5 => (hQ P h5).2.2.2.1 ⟨_, _, h.blk⟩).trans h.blk, OwnL.fr h.own k (fun a ha h5 => (hQ _ h5).2.2.1 (OwnL.ofT h.own ha)), ?_, ⟨h.en.1, fun i b e hb he => ⟨(h.en.2 i b e hb he).1, (h.en.2 i b e hb he).2.1, ⟨ty (h.en.2 i b e hb he).2.2.ty, (h.en.2 i b e hb he).2.2.cap⟩⟩⟩, h.y, h.np, h.el, h.vl⟩
  intro i p hp
  obtain ⟨b, o, e, hb, hy, hr, ho⟩ := h.ex i p hp
  have hbk := k.block b hb fun h5 => ho.elim (hQ b h5).2.1 (hQ b h5).2.2.2.2
  refine ⟨b, o, e, Nat.lt_of_lt_of_le hb k.size, hy, ?_, ho.imp (of_keep hbk) fun h => h⟩
  obtain ⟨TA, tc, UA, uc, f1, f2, f3⟩ := hr
  refine ⟨TA, tc, UA, uc, ⟨ty f1.ty, f1.cap⟩, ⟨ty f2.ty, f2.cap⟩, ?_⟩
  simp only [World.cell?, hbk] at f3 ⊢
  exact f3

theorem find_at {α : Type} {p : α → Bool} : ∀ {l : List α} {i : Nat} {x : α}, l[i]? = some x → p x = true → (∀ j y, j < i → l[j]? = some y → p y = false) → l.find? p = some x
  | [], i, x, h, _, _ => by simp at h
  | y :: ys, 0, x, h, hp, _ => by
    simp at h
    subst h
    simp [hp]
  | y :: ys, i + 1, x, h, hp, ht => by
    have h0 := ht 0 y (by omega) rfl
    rw [List.getElem?_cons_succ] at h
    simp only [List.find?_cons, h0]
    exact find_at h hp fun j z hj hz => ht (j + 1) z (by omega) (by rw [List.getElem?_cons_succ]; exact hz)

theorem env_at {w : World} {Y : Nat → Prop} {bs : List Bn} {env : Env} (h : EnvM w Y bs env) {j : Nat} (hj : j < bs.length) : ∃ b e, bs[j]? = some b ∧ env.reverse[bs.length - 1 - j]? = some e ∧ b.s = e.1 ∧ b.n = e.2.length ∧ TyV w Y b.A b.c e.2 := by
  obtain ⟨b, hb⟩ := getq_ex hj
  obtain ⟨e, he⟩ := getq_ex (l := env) (i := j) (by rw [← h.1]; exact hj)
  obtain ⟨h1, h2, h3⟩ := h.2 j b e hb he
  refine ⟨b, e, hb, ?_, h1, h2, h3⟩
  rw [List.getElem?_reverse (by rw [← h.1]; omega), ← h.1, show bs.length - 1 - (bs.length - 1 - j) = j by omega]
  exact he
theorem lookE_none {w : World} {Y : Nat → Prop} {bs : List Bn} {env : Env} {s : ByteArray} (h : EnvM w Y bs env) (hn : ∀ x ∈ bwUpto bs bs.length, x.2.s.toList ≠ s.toList) : lookE env s = none := by
  unfold lookE
  rw [Option.map_eq_none_iff, List.find?_eq_none]
  intro e he hq
  obtain ⟨i, hi⟩ := List.getElem?_of_mem he
  have hil := getq_lt hi
  rw [List.length_reverse, ← h.1] at hil
  obtain ⟨b, e2, hb, he2, h1, _, _⟩ := env_at h (j := bs.length - 1 - i) (by omega)
  rw [show bs.length - 1 - (bs.length - 1 - i) = i by omega, hi] at he2
  injection he2 with he2
  subst he2
  have hm : bwAt bs i ∈ bwUpto bs bs.length := List.mem_map.2 ⟨i, List.mem_range.2 hil, rfl⟩
  refine hn _ hm ?_
  unfold bwAt
  rw [hb]
  show b.s.toList = _
  rw [h1]
  exact eq_of_beq hq
theorem lookE_at {w : World} {Y : Nat → Prop} {bs : List Bn} {env : Env} {s : ByteArray} (h : EnvM w Y bs env) {k : Nat} {pre pre' : List BwX} {x : BwX} (hk : k ≤ bs.length) (hp : pre = bwUpto bs k) (he : pre = pre' ++ [x]) (hno : ∀ y ∈ pre', y.2.s.toList ≠ s.toList) (heq : x.2.s.toList = s.toList) :
    ∃ t, lookE env s = some t ∧ x.2.n = t.length ∧ TyV w Y x.2.A x.2.c t := by
  have hl : k = pre'.length + 1 := by
    have := congrArg List.length (hp.symm.trans he)
    rw [bwUpto_len, List.length_append] at this
    exact this
  subst hl
  rw [bwUpto_succ] at hp
  have h2 := List.append_inj' (he.symm.trans hp) rfl
  obtain ⟨h3, h4⟩ := h2
  injection h4 with h4 _
  obtain ⟨b, e, hb, he2, h5, h6, h7⟩ := env_at h (j := bs.length - 1 - pre'.length) (by omega)
  rw [show bs.length - 1 - (bs.length - 1 - pre'.length) = pre'.length by omega] at he2
  have hx2 : x.2 = b := by
    rw [h4]
    unfold bwAt
    rw [hb]
    rfl
  rw [hx2] at heq ⊢
  refine ⟨e.2, ?_, h6, h7⟩
  unfold lookE
  rw [find_at he2 (by rw [← h5]; simp [heq]) ?_]
  · rfl
  · intro j y hj hy
    obtain ⟨b3, e3, hb3, he3, g1, _, _⟩ := env_at h (j := bs.length - 1 - j) (by omega)
    rw [show bs.length - 1 - (bs.length - 1 - j) = j by omega, hy] at he3
    injection he3 with he3
    subst he3
    have hm : bwAt bs j ∈ pre' := by
      rw [h3]
      exact List.mem_map.2 ⟨j, List.mem_range.2 hj, rfl⟩
    have := hno _ hm
    unfold bwAt at this
    rw [hb3] at this
    rw [← g1]
    simpa using this

set_option maxRecDepth 100000 in
set_option maxHeartbeats 8000000 in
theorem name_any (P : Nat) (es : List Pt) (env : Env) (p : Pt) (at0 a : Nat) (r : Ans) (Y : Nat → Prop) (w : World) (TA UA : Option Addr) (tc uc : Nat) (h : WkE P es env (.ok a) Y w) (hT : TyV w Y TA tc p.T) (hU : TyV w Y UA uc p.U) (hm : nameM env p at0 a = some r) :
    Calls Tryz.prog 65 #[pk P, pv p TA tc UA uc, .int .i64 at0] w (WyPost P es env Y r w) := by
  have HPw : Hid (P < w.heap.size) := Lib.hid (h.lt P h.yP)
  have H := Lib.hid (And.intro h (And.intro hT hU))
  obtain ⟨a', p', e', ⟨EA, ec, VA, vc, bs, hmk⟩, ha, hp, he⟩ := h
  have HM := Lib.hid (And.intro hmk hm)
  obtain ⟨_, _, c2, _, _⟩ := hmk.cells
  have hPl := hmk.lt P ((hmk.y P).2 (.inl rfl))
  have hbl : bs.length ≤ 1000000 := by rw [hmk.en.1]; exact hmk.vl
  have h1 : ((w.alloc (.cells #[.int .i64 p.k, .string p.lb, .string p.nm, .string p.bd, .int .i64 p.mn, .int .i64 p.num, .slice TA p.T.length tc, .slice UA p.U.length uc] 33)).alloc (.cells #[.slice none 0 0] 28)).cell? ⟨P, 2, none⟩ = some (.slice VA bs.length vc) := by
    rw [← c2]
    exact (ext_alloc (ext_alloc (Below.refl _ _) _) _ : Below w.heap.size w _).cell hPl
  clear ha hp he hmk hT hU hm c2
  refine (callsIn_wide (n := 9)).1 ?_
  unfold pk pv
  refine callsIn_of_wp_marks Tryz.func65 rfl trivial ?_ rfl
  simp only [Tryz.ntmps65, List.size_toArray, List.length_cons, List.length_nil, Nat.reduceAdd, Nat.reduceSub, Array.replicate_succ, Array.replicate_zero, List.push_toArray, List.append_toArray, List.nil_append, List.cons_append]
  gi_wp2
  refine ⟨trivial, ?_⟩
  refine (bw_in 8 VA bs.length vc _).mono ?_
  rintro e w' ⟨rfl, rfl⟩
  clear h1
  obtain ⟨W0, hW0⟩ : ∃ W0, W0 = ((w.alloc (.cells #[.int .i64 p.k, .string p.lb, .string p.nm, .string p.bd, .int .i64 p.mn, .int .i64 p.num, .slice TA p.T.length tc, .slice UA p.U.length uc] 33)).alloc (.cells #[.slice none 0 0] 28)).alloc (.cells #[.slice VA bs.length vc] 22) := ⟨_, rfl⟩
  have hsz : W0.heap.size = w.heap.size + 3 := by rw [hW0]; simp
  have hB0 : Below w.heap.size w W0 := by rw [hW0]; exact ext_alloc (ext_alloc (ext_alloc (Below.refl _ _) _) _) _
  obtain ⟨q0, q1, q2⟩ := three_at w _ _ _ _ _ _ W0 hW0
  rw [← hW0]
  clear hW0
  gi_wp2
  have HQ := Lib.hid (And.intro hsz (And.intro hB0 (And.intro q0 (And.intro q1 q2))))
  have hbs : W0.cell? ⟨w.heap.size + 1 + 1, 0, none⟩ = some (.slice VA bs.length vc) := by simp [World.cell?, q2]
  have hbw : BwM (w.heap.size + 3) (w.heap.size + 1) W0 VA bs := fun hne => by
    obtain ⟨b, o, e, hb, hr⟩ := (OwnL.read encB_len HM.out.1.own) hne
    refine ⟨b, o, e, by omega, by omega, fun j hj => ?_⟩
    have hx : bs[j]? = some bs[j] := List.getElem?_eq_getElem hj
    have h0 := hr j _ hx 0 _ rfl
    have h1 := hr j _ hx 1 _ rfl
    rw [hx]
    exact ⟨(hB0.cell hb).trans h0, (hB0.cell hb).trans h1⟩
  refine wpIn_rangeFunc_ownH rfl (by decide) (gf := 119) (lb := #[.pointer (some ⟨w.heap.size + 1 + 1, 0, none⟩)]) rfl trivial (enters_of Tryz.func119 (by kernel_rfl) rfl)
    (bw_stops 8 (by decide) (w.heap.size + 1 + 1) (w.heap.size + 3) (w.heap.size + 1) vc VA bs hbl W0 (by omega) (by omega) (by omega) hbs hbw) KpR.trans (KpR.put (by omega)) (Below.refl _ _) (fun _ => rfl)
    (NmI w p TA tc UA uc) (NmX w p) (nmI_own w p TA tc UA uc W0.heap.size (by omega)) (fun c => nmX_own w p W0.heap.size (by omega) c)
    ⟨fun x hx => by simp at hx, q0, q1, hB0, by omega⟩
    (fun x a2 W => ∃ Bx, w.heap.size + 3 ≤ Bx ∧ W.heap[Bx]? = some (.cells #[.string x.2.s, .slice x.2.A x.2.n x.2.c] 36 (0, 0)) ∧ a2 = { tmps := #[.pointer (some ⟨P, 0, none⟩), .agg #[.int .i64 p.k, .string p.lb, .string p.nm, .string p.bd, .int .i64 p.mn, .int .i64 p.num, .slice TA p.T.length tc, .slice UA p.U.length uc], .int .i64 (at0 : Int), undef, .pointer (some ⟨w.heap.size, 0, none⟩), undef, .pointer (some ⟨w.heap.size + 1, 0, none⟩), undef, .pointer (some ⟨Bx, 0, none⟩), .pointer (some ⟨P, 0, none⟩), .pointer (some ⟨P, 0, none⟩), .pointer (some ⟨P, 2, none⟩), .slice VA bs.length vc, .func (.func 119) #[] #[.pointer (some ⟨w.heap.size + 1 + 1, 0, none⟩)], .int .i64 (x.1 : Int), .agg #[.string x.2.s, .slice x.2.A x.2.n x.2.c], undef, undef, undef, undef, undef, undef, undef, undef, undef, undef], defers := [] })
    (fun x a2 _ X Y row hs hg hr => by
      obtain ⟨Bx, e1, e2, e3⟩ := hs
      exact ⟨Bx, e1, blk_own W0.heap.size Bx (fun _ : Unit => _) (fun _ => rfl) () X Y row e2 hg hr, e3⟩)
    ?assign ?body ?done ?stop
  case assign =>
    rintro l pre x W K hI hK
    have HK := Lib.hid (And.intro hI hK)
    clear hI hK
    unfold bwEnc
    gi_wp2
    have hzW := HK.out.1.2.2.2.2
    exact HK.out.2 _ _ ((KeepsOthers.alloc _ _).from _) ⟨by simp, fun k hk _ => Below.heap_alloc _ _ _ (by omega)⟩ ⟨HK.out.1.1, (Below.heap_alloc _ _ _ (by omega)).trans HK.out.1.2.1, (Below.heap_alloc _ _ _ (by omega)).trans HK.out.1.2.2.1, ext_alloc' HK.out.1.2.2.2.1 _, by simp; omega⟩ ⟨W.heap.size, hzW, heap_alloc_new _ _, rfl⟩
  case body =>
    rintro l pre x a2 W hl ⟨r1, hr⟩ hI ⟨Bx, hBx, bX, rfl⟩ hlt
    have b0 : W.cell? ⟨Bx, 0, none⟩ = some (.string x.2.s) := by simp [World.cell?, bX]
    have b1 : W.cell? ⟨Bx, 1, none⟩ = some (.slice x.2.A x.2.n x.2.c) := by simp [World.cell?, bX]
    have n2 : W.cell? ⟨w.heap.size, 2, none⟩ = some (.string p.nm) := by simp [World.cell?, hI.2.1]
    have cR : W.cell? ⟨w.heap.size + 1, 0, none⟩ = some (.slice none 0 0) := by simp [World.cell?, hI.2.2.1]
    have fR : W.frozen? ⟨w.heap.size + 1, 0, none⟩ = false := by simp [World.frozen?, hI.2.2.1]
    have HI := Lib.hid hI
    by_cases heq : x.2.s.toList = p.nm.toList
    · have hq : (x.2.s.toList == p.nm.toList) = true := by simp [heq]
      have HE := Lib.hid heq
      clear heq hI hr hl hlt bX
      gi_wp2
      exact ⟨(KeepsOthers.setCell _ _ _).from _, ⟨pre, x, rfl, rfl, HI.out.1, HE.out, heap_set HI.out.2.2.1 0 _⟩, HI.out.2.2.2.1.setCell (p := ⟨w.heap.size + 1, 0, none⟩) (by simp) _⟩
    · have hq : (x.2.s.toList == p.nm.toList) = false := by simp [heq]
      have HE := Lib.hid heq
      clear heq hI hr hl hlt bX
      gi_wp2
      refine ⟨KeepsFrom.refl _ _, KpR.refl _ _ _, fun y hy => ?_, HI.out.2⟩
      rcases List.mem_append.1 hy with hy | hy
      · exact HI.out.1 y hy
      · simp at hy
        subst hy
        exact HE.out
  case done =>
    rintro D xs W hD hS hI hK
    have cR : W.cell? ⟨w.heap.size + 1, 0, none⟩ = some (.slice none 0 0) := by simp [World.cell?, hI.2.2.1]
    have fR : W.frozen? ⟨w.heap.size + 1, 0, none⟩ = false := by simp [World.frozen?, hI.2.2.1]
    have HI := Lib.hid hI
    have HK := Lib.hid hK
    clear hI
    have HMu := Lib.hid (must_any P es env (.ok a) false at0 5 Y W (.inl (by decide)) (H.out.1.later HI.out.2.2.2.1))
    unfold pk at HMu
    have hRn : lookE env p.nm = none := lookE_none HM.out.1.en (by rw [← hS]; exact HI.out.1)
    have HRn : Hid (r = .error (at0, 5)) := Lib.hid (by
      have := HM.out.2
      unfold nameM at this
      rw [hRn] at this
      injection this with this
      exact this.symm)
    clear hRn hK cR fR
    gi_wp2
    refine ⟨trivial, ?_⟩
    refine (callsIn_wide.2 HMu.out).mono ?_
    rintro e w5 ⟨⟨v5, rfl⟩, hf5, hk5⟩
    have hRY : ¬ Y (w.heap.size + 1) := fun hy => by have := H.out.1.lt _ hy; omega
    have hDY : ¬ Y D := fun hy => by have := H.out.1.lt _ hy; omega
    have hDl : D < W.heap.size := (Array.getElem?_eq_some_iff.1 HK.out).1
    have hRl : w.heap.size + 1 < W.heap.size := by have := HI.out.2.2.2.2; omega
    have r5 : w5.heap[w.heap.size + 1]? = some (.cells #[.slice none 0 0] 28 (0, 0)) := (hf5.block _ hRl hRY).trans HI.out.2.2.1
    have d5 : w5.heap[D]? = some (.deferred (some [])) := (hf5.block _ hDl hDY).trans HK.out
    have cR : w5.cell? ⟨w.heap.size + 1, 0, none⟩ = some (.slice none 0 0) := by simp [World.cell?, r5]
    have fR : w5.frozen? ⟨w.heap.size + 1, 0, none⟩ = false := by simp [World.frozen?, r5]
    have H5 := Lib.hid (And.intro hf5 (And.intro hk5 (And.intro r5 d5)))
    clear hf5 hk5 r5 d5
    gi_wp2
    have hK' := (KeepsOthers.setCell w5 ⟨w.heap.size + 1, 0, none⟩ (.slice none 0 0)).same D _ H5.out.2.2.2 rfl
    refine ⟨by simp, .inl ⟨_, _, rfl, run_takeDeferred hK', ?_⟩⟩
    have hne : D ≠ w.heap.size + 1 := by omega
    have hb6 : (w5.setCell ⟨w.heap.size + 1, 0, none⟩ (.slice none 0 0)).heap[w.heap.size + 1]? = some (.cells #[.slice none 0 0] 28 (0, 0)) := heap_set H5.out.2.2.1 0 _
    have hb7 : ((w5.setCell ⟨w.heap.size + 1, 0, none⟩ (.slice none 0 0)).putObj D (.deferred none)).heap[w.heap.size + 1]? = some (.cells #[.slice none 0 0] 28 (0, 0)) := (World.putObj_heap_other (fun e => hne e.symm)).trans hb6
    have hc5 : ((w5.setCell ⟨w.heap.size + 1, 0, none⟩ (.slice none 0 0)).putObj D (.deferred none)).cell? ⟨w.heap.size + 1, 0, none⟩ = some (.slice none 0 0) := by simp [World.cell?, hb7]
    have hfr : Fr (fun q => q = w.heap.size + 1 ∨ q = D) w5 ((w5.setCell ⟨w.heap.size + 1, 0, none⟩ (.slice none 0 0)).putObj D (.deferred none)) :=
      ((fr_set w5 (w.heap.size + 1) 0 _).mono fun q hq => .inl hq).trans (Fr.grown (grownBy_putObj' _ D _) fun k e => by injection e with e; exact .inr e.symm)
    refine ⟨.slice none 0 0, ?_, ?_⟩
    · simp [results, Tryz.f65, go_sem, hc5]
    · rw [HRn.out]
      refine ⟨Y, ?_, YNew.refl _ _, ?_, _, _, _, rfl⟩
      · exact Fr.new ((Fr.below HI.out.2.2.2.1 : Fr Y w W).trans H5.out.1) hfr fun q hq => .inr (by rcases hq with hq | hq <;> omega)
      · exact WkE.frQ H5.out.2.1 hfr (by
          intro q hq
          rcases hq with rfl | rfl
          · have ho : OfT w5 (w.heap.size + 1) 28 := ⟨_, _, H5.out.2.2.1⟩
            exact ⟨fun h => OfT.ne ho h (by decide) rfl, fun h => OfT.ne ho h (by decide) rfl, fun h => OfT.ne ho h (by decide) rfl, fun h => OfT.ne ho h (by decide) rfl, fun h => by have h1 := h P H5.out.2.1.yP; have h2 := HPw.out; omega⟩
          · have hn : ∀ T, ¬ OfT w5 q T := by
              rintro T ⟨cs, fz, h⟩
              rw [H5.out.2.2.2] at h
              cases h
            exact ⟨hn _, hn _, hn _, hn _, fun h => by have h1 := h P H5.out.2.1.yP; have h2 := HPw.out; omega⟩)
  case stop =>
    rintro D c pre W hD hpre hI hK
    obtain ⟨⟨pre', x, rfl, hpe, hno, heq, hb⟩, hB⟩ := hI
    obtain ⟨kk, hkk, hpk⟩ := hpre
    obtain ⟨t, hlk, hxn, hxc⟩ := lookE_at HM.out.1.en hkk hpk hpe hno heq
    have HRn : Hid (r = .ok (t, a)) := Lib.hid (by
      have := HM.out.2
      unfold nameM at this
      rw [hlk] at this
      injection this with this
      exact this.symm)
    gi_wp2
    refine ⟨by simp, .inl ⟨_, _, rfl, run_takeDeferred hK, ?_⟩⟩
    have hne : D ≠ w.heap.size + 1 := by omega
    have hb7 : (W.putObj D (.deferred none)).heap[w.heap.size + 1]? = some (.cells #[.slice x.2.A x.2.n x.2.c] 28 (0, 0)) := (World.putObj_heap_other (fun e => hne e.symm)).trans hb
    have hc5 : (W.putObj D (.deferred none)).cell? ⟨w.heap.size + 1, 0, none⟩ = some (.slice x.2.A x.2.n x.2.c) := by simp [World.cell?, hb7]
    have hBf : Below w.heap.size w (W.putObj D (.deferred none)) := hB.trans (belowK_b (w := w) (Nat.le_refl _) W D _ _ (by omega) hK rfl rfl)
    refine ⟨.slice x.2.A x.2.n x.2.c, ?_, ?_⟩
    · simp [results, Tryz.f65, go_sem, hc5]
    · rw [HRn.out]
      exact ⟨Y, Fr.below hBf, YNew.refl _ _, H.out.1.later hBf, x.2.A, x.2.c, by rw [hxn], hxc.later hBf⟩
end Go.Proofs.YtmjdhfbnmmdjiaaGreat

/- check's next: every part. -/
namespace Go.Proofs.YtmjdhfbnmmdjiaaGreat
open Go.RowKit

/-- What a part wants of its types. -/
def PtOk (p : Pt) : Prop := ((p.k = 2 ∨ p.k = 4 ∨ p.k = 5 ∨ p.k = 11 ∨ p.k = 12 ∨ p.k = 13 ∨ p.k = 14) → p.k ≠ 11 → Gd p.T) ∧ ((p.k = 5 ∨ p.k = 14) → Gd p.U)
instance (p : Pt) : Decidable (PtOk p) := inferInstanceAs (Decidable (_ ∧ _))
def wayM (nx : Nx) (es : List Pt) (env : Env) (p : Pt) (at0 a : Nat) : Option Ans :=
  if p.k = 0 then litM p a else
  if p.k = 1 then nameM env p at0 a else
  if p.k = 2 then funM nx env p a else
  if p.k = 3 then appM nx env at0 a else
  if p.k = 4 then letM nx env p at0 a else
  if p.k = 5 then recM nx env p at0 a else
  if p.k = 6 then condM nx env at0 a else
  if p.k = 7 then casesM nx es env p at0 a else
  if p.k = 9 then opM nx env p at0 a else
  if p.k = 10 then rowsM nx es env p a else
  if p.k = 11 then getM nx env p at0 a else
  if p.k = 12 then injM nx env p at0 a else
  if p.k = 13 then asM nx env p at0 a else
  if p.k = 14 then castM nx env p at0 a else none
/-- A type that is told is a good one. -/
def exitM : Option Ans → Option Ans
  | some (.ok (t, b)) => if Gd t then some (.ok (t, b)) else none
  | x => x
/-- What check tells of the part at a place; f: how deep it may go. -/
def chk : Nat → List Pt → Nx
  | 0, _ => fun _ _ => none
  | f + 1, es => fun env a =>
    match es[a]? with
    | none => none
    | some p => if env.length ≤ 900000 ∧ PtOk p then exitM (wayM (chk f es) es env p a (a + 1)) else none

theorem exitM_gd {x : Option Ans} {t : List Nd} {b : Nat} (h : exitM x = some (.ok (t, b))) : Gd t := by
  match x, h with
  | some (.ok (t2, b2)), h =>
    simp only [exitM] at h
    split at h
    · rename_i hg
      injection h with h
      injection h with h
      injection h with h1 h2
      rw [← h1]
      exact hg
    · cases h
theorem exitM_some {x : Option Ans} {r : Ans} (h : exitM x = some r) : x = some r := by
  match x, h with
  | none, h => cases h
  | some (.error b), h => exact h
  | some (.ok (t, b)), h =>
    simp only [exitM] at h
    split at h
    · exact h
    · cases h
theorem chk_gd : ∀ (f : Nat) (es : List Pt) (env : Env) (a : Nat) (t : List Nd) (b : Nat), chk f es env a = some (.ok (t, b)) → Gd t
  | 0, _, _, _, _, _, h => by cases h
  | f + 1, es, env, a, t, b, h => by
    unfold chk at h
    split at h
    · cases h
    · split at h
      · exact exitM_gd h
      · cases h

def waysV : Value := .agg #[.func (.func 64) #[] #[], .func (.func 65) #[] #[], .func (.func 66) #[] #[], .func (.func 67) #[] #[], .func (.func 68) #[] #[], .func (.func 69) #[] #[], .func (.func 70) #[] #[], .func (.func 71) #[] #[], .nilFunc, .func (.func 72) #[] #[], .func (.func 73) #[] #[], .func (.func 74) #[] #[], .func (.func 75) #[] #[], .func (.func 76) #[] #[], .func (.func 77) #[] #[]]
theorem ways_any (w : World) : Calls Tryz.prog 46 #[] w fun e w' => e = .returned waysV ∧ Below w.heap.size w w' := by
  go_enter Tryz.func46, Tryz.ntmps46
  go_wp2
  exact bodyPost_ret (v := waysV) (by simp [results, Tryz.results46, go_sem, waysV]) rfl ⟨rfl, ext_alloc (Below.refl _ _) _⟩

/-- Each part's way. -/
theorem way_all (P : Nat) (es : List Pt) (nx : Nx) (HN : Hid (NextC P es nx)) (env : Env) (p : Pt) (at0 : Nat) (r : Ans) (hes : PsOk es) (hp : PtOk p) (hv : env.length ≤ 900000) (hG : ∀ env a t b, nx env a = some (.ok (t, b)) → Gd t) (hm : wayM nx es env p at0 (at0 + 1) = some r) :
    ∃ K : FuncId, (∀ args w, (callFunc K args).run Tryz.prog w = .ok (.enter K args) w) ∧ (∀ w, (Instr.index 77 waysV (.int .i64 p.k)).run Tryz.prog w = .ok (.func (.func K) #[] #[]) w) ∧
      ∀ (w : World) (Y : Nat → Prop) (TA UA : Option Addr) (tc uc : Nat), WkE P es env (.ok (at0 + 1)) Y w → TyV w Y TA tc p.T → TyV w Y UA uc p.U → Calls Tryz.prog K #[pk P, pv p TA tc UA uc, .int .i64 at0] w (WyPost P es env Y r w) := by
  unfold wayM at hm
  by_cases h0 : p.k = 0
  · rw [if_pos h0] at hm
    refine ⟨64, fun _ _ => by kernel_rfl, fun w => by rw [h0]; kernel_rfl, fun w Y TA UA tc uc h hT hU => ?_⟩
    exact lit_any P es env p at0 (at0 + 1) r Y w TA UA tc uc h hT hU hm
  rw [if_neg h0] at hm
  by_cases h1 : p.k = 1
  · rw [if_pos h1] at hm
    refine ⟨65, fun _ _ => by kernel_rfl, fun w => by rw [h1]; kernel_rfl, fun w Y TA UA tc uc h hT hU => ?_⟩
    exact name_any P es env p at0 (at0 + 1) r Y w TA UA tc uc h hT hU hm
  rw [if_neg h1] at hm
  by_cases h2 : p.k = 2
  · rw [if_pos h2] at hm
    refine ⟨66, fun _ _ => by kernel_rfl, fun w => by rw [h2]; kernel_rfl, fun w Y TA UA tc uc h hT hU => ?_⟩
    exact fun_any P es nx HN env p at0 (at0 + 1) r Y w TA UA tc uc h hT hU (hp.1 (by omega) (by omega)) hv hG hm
  rw [if_neg h2] at hm
  by_cases h3 : p.k = 3
  · rw [if_pos h3] at hm
    refine ⟨67, fun _ _ => by kernel_rfl, fun w => by rw [h3]; kernel_rfl, fun w Y TA UA tc uc h hT hU => ?_⟩
    exact app_any P es nx HN env p at0 (at0 + 1) r Y w TA UA tc uc h hT hU hG hm
  rw [if_neg h3] at hm
  by_cases h4 : p.k = 4
  · rw [if_pos h4] at hm
    refine ⟨68, fun _ _ => by kernel_rfl, fun w => by rw [h4]; kernel_rfl, fun w Y TA UA tc uc h hT hU => ?_⟩
    exact let_any P es nx HN env p at0 (at0 + 1) r Y w TA UA tc uc h hT hU (hp.1 (by omega) (by omega)) hv hG hm
  rw [if_neg h4] at hm
  by_cases h5 : p.k = 5
  · rw [if_pos h5] at hm
    refine ⟨69, fun _ _ => by kernel_rfl, fun w => by rw [h5]; kernel_rfl, fun w Y TA UA tc uc h hT hU => ?_⟩
    exact rec_any P es nx HN env p at0 (at0 + 1) r Y w TA UA tc uc h hT hU (hp.1 (by omega) (by omega)) (hp.2 (by omega)) hv hG hm
  rw [if_neg h5] at hm
  by_cases h6 : p.k = 6
  · rw [if_pos h6] at hm
    refine ⟨70, fun _ _ => by kernel_rfl, fun w => by rw [h6]; kernel_rfl, fun w Y TA UA tc uc h hT hU => ?_⟩
    exact cond_any P es nx HN env p at0 (at0 + 1) r Y w TA UA tc uc h hT hU hG hm
  rw [if_neg h6] at hm
  by_cases h7 : p.k = 7
  · rw [if_pos h7] at hm
    refine ⟨71, fun _ _ => by kernel_rfl, fun w => by rw [h7]; kernel_rfl, fun w Y TA UA tc uc h hT hU => ?_⟩
    exact cases_any P es nx HN env p at0 (at0 + 1) r Y w TA UA tc uc hes h hT hU hG hm
  rw [if_neg h7] at hm
  by_cases h9 : p.k = 9
  · rw [if_pos h9] at hm
    refine ⟨72, fun _ _ => by kernel_rfl, fun w => by rw [h9]; kernel_rfl, fun w Y TA UA tc uc h hT hU => ?_⟩
    exact op_any P es nx HN env p at0 (at0 + 1) r Y w TA UA tc uc h hT hU hG hm
  rw [if_neg h9] at hm
  by_cases h10 : p.k = 10
  · rw [if_pos h10] at hm
    refine ⟨73, fun _ _ => by kernel_rfl, fun w => by rw [h10]; kernel_rfl, fun w Y TA UA tc uc h hT hU => ?_⟩
    exact rows_any P es nx HN env p at0 (at0 + 1) r Y w TA UA tc uc h hT hU hG hm
  rw [if_neg h10] at hm
  by_cases h11 : p.k = 11
  · rw [if_pos h11] at hm
    refine ⟨74, fun _ _ => by kernel_rfl, fun w => by rw [h11]; kernel_rfl, fun w Y TA UA tc uc h hT hU => ?_⟩
    exact get_any P es nx HN env p at0 (at0 + 1) r Y w TA UA tc uc h hT hU hG hm
  rw [if_neg h11] at hm
  by_cases h12 : p.k = 12
  · rw [if_pos h12] at hm
    refine ⟨75, fun _ _ => by kernel_rfl, fun w => by rw [h12]; kernel_rfl, fun w Y TA UA tc uc h hT hU => ?_⟩
    exact inject_any P es nx HN env p at0 (at0 + 1) r Y w TA UA tc uc h hT hU (hp.1 (by omega) (by omega)) hG hm
  rw [if_neg h12] at hm
  by_cases h13 : p.k = 13
  · rw [if_pos h13] at hm
    refine ⟨76, fun _ _ => by kernel_rfl, fun w => by rw [h13]; kernel_rfl, fun w Y TA UA tc uc h hT hU => ?_⟩
    exact as_any P es nx HN env p at0 (at0 + 1) r Y w TA UA tc uc h hT hU (hp.1 (by omega) (by omega)) hG hm
  rw [if_neg h13] at hm
  by_cases h14 : p.k = 14
  · rw [if_pos h14] at hm
    refine ⟨77, fun _ _ => by kernel_rfl, fun w => by rw [h14]; kernel_rfl, fun w Y TA UA tc uc h hT hU => ?_⟩
    exact cast_any P es nx HN env p at0 (at0 + 1) r Y w TA UA tc uc h hT hU (hp.1 (by omega) (by omega)) (hp.2 (by omega)) hG hm
  rw [if_neg h14] at hm
  cases hm

set_option maxRecDepth 100000 in
set_option maxHeartbeats 8000000 in
theorem next_ok (P : Nat) (es : List Pt) (nx : Nx) (HN : Hid (NextC P es nx)) (env : Env) (p : Pt) (at0 : Nat) (r : Ans) (hes : PsOk es) (hx : es[at0]? = some p) (hp : PtOk p) (hv : env.length ≤ 900000) (hG : ∀ env a t b, nx env a = some (.ok (t, b)) → Gd t) (hm : wayM nx es env p at0 (at0 + 1) = some r) (Y : Nat → Prop) (w : World) (h : WkE P es env (.ok at0) Y w) :
    Calls Tryz.prog 32 #[pk P] w (NxPost P es env Y r w) := by
  obtain ⟨K, heg, hidx, hK⟩ := way_all P es nx HN env p at0 r hes hp hv hG hm
  have HK := Lib.hid (And.intro hidx hK)
  have HO := Lib.hid (ok_any P es env _ Y w h)
  simp only [okS] at HO
  unfold pk at HO
  obtain ⟨a', p', e', ⟨EA, ec, VA', vc', bs, hm5⟩, ha, hpp, he⟩ := h
  subst ha hpp he
  have HM := Lib.hid hm5
  have HX := Lib.hid hx
  have hel := hm5.el
  have hal := getq_lt hx
  clear hes hx hp hv hG hm hidx hK hm5
  unfold pk
  go_enter Tryz.func32, Tryz.ntmps32
  go_wp2_with fail
  refine HO.out.mono ?_
  rintro e w1 ⟨rfl, hb1⟩
  have HM1 := Lib.hid (HM.out.later hb1)
  have HB1 := Lib.hid hb1
  obtain ⟨c0, c1, _, _, _⟩ := HM1.out.cells
  have f1 := HM1.out.frozen 1 (by omega)
  clear hb1
  go_upto_region 5 with fail
  obtain ⟨w2, hw2⟩ : ∃ w2, w2 = w1.setCell ⟨P, 1, none⟩ (.int .i64 ((a' : Int) + 1)) := ⟨_, rfl⟩
  have H2 : Hid (Fr Y w w2 ∧ WkM P es env (a' + 1) 0 0 EA ec VA' vc' bs Y w2) := Lib.hid (by
    have hb : w2.heap[P]? = some (.cells #[.slice EA es.length ec, .int .i64 ((a' + 1 : Nat) : Int), .slice VA' bs.length vc', .int .i64 0, .int .i64 0] 60 (0, 0)) := by
      rw [hw2, heap_set HM1.out.blk 1]
      rfl
    have hf : Fr (fun q => q = P) w1 w2 := by rw [hw2]; exact fr_set _ _ _ _
    have hp := HM1.out.put hb hf
    exact ⟨(Fr.below HB1.out).trans hp.2, hp.1⟩)
  rw [← hw2]
  clear hw2 c0 c1 f1 HM1
  obtain ⟨c0, c1, _, _, _⟩ := H2.out.2.cells
  obtain ⟨eb, eo, rfl, helb, hey, hpt, _⟩ := H2.out.2.ex _ _ HX.out
  obtain ⟨XA, xc, WA, wc, hxT, hxU, q0, q1, q2, q3, q4, q5, q6, q7⟩ := hpt
  have HT := Lib.hid (And.intro hxT hxU)
  clear hxT hxU
  go_upto_region 6 with fail
  clear c0 c1 q0 q1 q2 q3 q4 q5 q6 q7
  obtain ⟨w3, hw3⟩ : ∃ w3, w3 = w2.alloc (.cells #[.int .i64 p.k, .string p.lb, .string p.nm, .string p.bd, .int .i64 p.mn, .int .i64 p.num, .slice XA p.T.length xc, .slice WA p.U.length wc] 33) := ⟨_, rfl⟩
  have HB3 : Hid (Below w2.heap.size w2 w3) := Lib.hid (by rw [hw3]; exact ext_alloc (Below.refl _ _) _)
  have HP3 : Hid (PtM w3 Y w2.heap.size p XA xc WA wc) := Lib.hid (by rw [hw3]; exact PtM.new H2.out.2.lt HT.out.1 HT.out.2)
  have HK3 : Hid (WkE P es env (.ok (a' + 1)) Y w3) := Lib.hid ⟨_, _, _, ⟨_, _, _, _, _, H2.out.2.later HB3.out⟩, rfl, rfl, rfl⟩
  obtain ⟨gx, hgx⟩ : ∃ gx, gx = w2.heap.size := ⟨_, rfl⟩
  rw [← hgx] at HP3
  rw [← hw3, ← hgx]
  clear hw3 hgx
  obtain ⟨SS, hSS⟩ : ∃ SS : World → Prop, SS = fun v => v.cell? ⟨gx, 0, none⟩ = some (.int .i64 p.k) ∧ v.cell? ⟨gx, 1, none⟩ = some (.string p.lb) ∧ v.cell? ⟨gx, 2, none⟩ = some (.string p.nm) ∧ v.cell? ⟨gx, 3, none⟩ = some (.string p.bd) ∧ v.cell? ⟨gx, 4, none⟩ = some (.int .i64 p.mn) ∧ v.cell? ⟨gx, 5, none⟩ = some (.int .i64 p.num) ∧ v.cell? ⟨gx, 6, none⟩ = some (.slice XA p.T.length xc) ∧ v.cell? ⟨gx, 7, none⟩ = some (.slice WA p.U.length wc) := ⟨_, rfl⟩
  have HS : Hid (∀ v Y', PtM v Y' gx p XA xc WA wc → SS v) := Lib.hid fun v Y' hv => by
    rw [hSS]
    exact ⟨hv.cells.1, hv.cells.2.1, hv.cells.2.2.1, hv.cells.2.2.2.1, hv.cells.2.2.2.2.1, by simp [World.cell?, hv.blk], hv.cells.2.2.2.2.2.1, hv.cells.2.2.2.2.2.2⟩
  obtain ⟨wd, hwd⟩ : ∃ wd, wd = w3.drew := ⟨_, rfl⟩
  have HBd : Hid (Below w3.heap.size w3 wd) := Lib.hid (by rw [hwd]; exact (Below.refl _ _).drew)
  have HPd := Lib.hid (HP3.out.later HBd.out)
  have HKd := Lib.hid (HK3.out.later HBd.out)
  have hsd : SS wd := HS.out _ _ HPd.out
  refine wp_region_L_drew (S := SS) [7] (by kernel_rfl) (by rw [← hwd]; exact hsd) (fun hHeld => ?_)
  rw [← hwd] at hHeld ⊢
  clear hwd
  refine onA 1 [2, 3, 7] (some 28) rfl rfl ?_
  refine onA 2 [3, 7] (some 29) rfl rfl ?_
  refine onA 4 [7] (some 31) rfl rfl ?_
  refine onA 5 [7] (some 32) rfl rfl ?_
  refine onA 6 [7] (some 33) rfl rfl ?_
  refine callL 0 (some 27) rfl rfl (by kernel_rfl) (by rfl) (by kernel_rfl) (ways_any wd) ?_
  rintro e w4 ⟨rfl, hb4⟩
  have HP4 := Lib.hid (HPd.out.later hb4)
  have HK4 := Lib.hid (HKd.out.later hb4)
  have HF4 : Hid (Fr Y w w4) := Lib.hid (((H2.out.1.trans (Fr.below HB3.out)).trans (Fr.below HBd.out)).trans (Fr.below hb4))
  have hs4 : SS w4 := HS.out _ _ HP4.out
  refine ⟨_, rfl, hs4, ?_⟩
  refine putA ?_
  refine valL 3 (some 30) (v := .func (.func K) #[] #[]) (w' := w4) rfl rfl (by kernel_rfl) (by rfl) (by have h := HK.out.1 w4; simp only [execOp]; go_simp; first | done | (rw [h]; first | rfl | go_simp)) (fun _ => hs4) ?_
  refine putA ?_
  have HW := Lib.hid (HK.out.2 w4 Y XA WA xc wc HK4.out HP4.out.T HP4.out.U)
  unfold pk pv at HW
  clear hb4 hsd hHeld
  refine callL 7 (some 34) rfl rfl (by kernel_rfl) (by rfl) (by go_simp) HW.out ?_
  intro e w5 hp
  obtain ⟨v5, rfl⟩ := hp.ret
  obtain ⟨Y5, hf5, hy5, hk5, hv5⟩ := hp
  have HP5 := Lib.hid (HP4.out.fr hf5 hy5)
  have H5 : Hid (Fr Y w w5 ∧ YNew Y Y5 w) := Lib.hid ⟨Fr.new HF4.out hf5 (YNew.refl _ _), YNew.trans (YNew.refl _ _) hy5 HF4.out.size⟩
  refine ⟨_, rfl, HS.out _ _ HP5.out, ?_⟩
  refine putA ?_
  refine valL 8 (some 5) rfl rfl (by kernel_rfl) (by rfl) (by go_simp; first | with_reducible rfl | (constructor <;> with_reducible rfl)) (zL (by kernel_rfl)) ?_
  refine putA ?_
  refine doneL (by kernel_rfl) ?_ _
  have HO5 := Lib.hid (ok_any P es env _ Y5 w5 hk5)
  unfold pk at HO5
  match r, hk5, hv5, HO5 with
  | .ok (t, b), hk5, ⟨A9, c9, hv9, ht9⟩, HO5 =>
    injection hv9 with hv9
    subst hv9
    simp only [Ans.st, okS] at HO5
    go_wp2_with fail
    refine HO5.out.mono ?_
    rintro e w6 ⟨rfl, hb6⟩
    have HQ : Hid (NxPost P es env Y (.ok (t, b)) w (.returned (.slice A9 t.length c9)) w6) := Lib.hid ⟨Y5, H5.out.1.trans (Fr.below hb6), H5.out.2, hk5.later hb6, A9, c9, rfl, ht9.later hb6⟩
    clear hb6 hf5 hy5 hk5 ht9 hs4
    go_wp2_with fail
    go_ret
    exact HQ.out
  | .error x, hk5, hv5, HO5 =>
    obtain ⟨A9, n9, c9, hv9⟩ := hv5
    injection hv9 with hv9
    subst hv9
    simp only [Ans.st, okS] at HO5
    go_wp2_with fail
    refine HO5.out.mono ?_
    rintro e w6 ⟨rfl, hb6⟩
    have HQ : Hid (NxPost P es env Y (.error x) w (.returned (.slice none 0 0)) w6) := Lib.hid ⟨Y5, H5.out.1.trans (Fr.below hb6), H5.out.2, hk5.later hb6, rfl⟩
    clear hb6 hf5 hy5 hk5 hs4
    go_wp2_with fail
    go_ret
    exact HQ.out

/-- Where something is wrong, nothing is done. -/
theorem next_bad (P : Nat) (es : List Pt) (env : Env) (x : Nat × Int) (Y : Nat → Prop) (w : World) (h : WkE P es env (.error x) Y w) :
    Calls Tryz.prog 32 #[pk P] w (NxPost P es env Y (.error x) w) := by
  have H := Lib.hid h
  have HO := Lib.hid (ok_any P es env _ Y w h)
  simp only [okS] at HO
  unfold pk at *
  clear h
  go_enter Tryz.func32, Tryz.ntmps32
  go_wp2_with fail
  refine HO.out.mono ?_
  rintro e w1 ⟨rfl, hb1⟩
  have HB := Lib.hid hb1
  clear hb1
  go_wp2_with fail
  go_ret
  exact ⟨Y, Fr.below HB.out, YNew.refl _ _, H.out.later HB.out, rfl⟩

theorem next_all (P : Nat) (es : List Pt) (hes : PsOk es) : ∀ f : Nat, NextC P es (chk f es) := by
  intro f
  induction f with
  | zero =>
    intro env s r Y w hn h
    match s, hn, h with
    | .ok a, hn, _ => cases hn
    | .error x, hn, h =>
      injection hn with hn
      subst hn
      exact next_bad P es env x Y w h
  | succ f ih =>
    intro env s r Y w hn h
    match s, hn, h with
    | .error x, hn, h =>
      injection hn with hn
      subst hn
      exact next_bad P es env x Y w h
    | .ok a, hn, h =>
      have hn : chk (f + 1) es env a = some r := hn
      unfold chk at hn
      split at hn
      · cases hn
      · rename_i p hp
        split at hn
        · rename_i hc
          exact next_ok P es (chk f es) (Lib.hid ih) env p a r hes hp hc.2 hc.1 (chk_gd f es) (exitM_some hn) Y w h
        · cases hn
end Go.Proofs.YtmjdhfbnmmdjiaaGreat
