/- Laid together by a tool from the texts of this seat: UFits Vars VarsP RVars. Conditions: each theorem's own. -/
import Derived.Test.YtblfeokjlecgkaaO23
import Derived.Test.YtblfeokjlecgkaaO10
import Derived.Test.YtblfeokjlecgkaaO08
import Derived.Test.YtblfeokjlecgkaaO05
/- unify.fits: how large the types are that variables are known as, walked. -/
namespace Go.Proofs.Ytblfeokjlecgkaa
open Go.RowKit

attribute [local go_sem ↓] Go.wp_at_zero Go.wp_at_succ

/-- How large a tree is told to be: how deep it is counts where it is not too large alone. -/
structure SizeOk (T : Ut) (nd d : Int) : Prop where
  en : nd = ((ndT T : Nat) : Int)
  ed : ndT T ≤ 10000 → d = ((dpT T : Nat) : Int)
  lo : -9223372036854775808 ≤ d
  hi : d ≤ 9223372036854775807
/-- So many children's sizes. -/
structure SizesOk (fs : Fl) (i : Nat) (nd d : Int) : Prop where
  en : nd = ((min (1 + ndF (fs.take i)) 10001 : Nat) : Int)
  ed : 1 + ndF (fs.take i) ≤ 10000 → d = ((dpF (fs.take i) : Nat) : Int)
  lo : -9223372036854775808 ≤ d
  hi : d ≤ 9223372036854775807

/-- A tree that is not too large is no deeper than it is large. -/
theorem dp_le_nd : ∀ t, ndT t ≤ 10000 → dpT t ≤ ndT t := by
  refine Ut.ind fun k n fs tl ih h => ?_
  rw [ndT_mk] at h ⊢
  rw [dpT_mk]
  split at h
  · omega
  · next h50 =>
    rw [if_neg h50]
    have hF : ∀ gs : Fl, (∀ p ∈ gs, p ∈ fs) → ndF gs ≤ 10000 → dpF gs ≤ ndF gs := by
      intro gs
      induction gs with
      | nil => intro _ _; rw [dpF_nil, ndF_nil]; exact Nat.le_refl _
      | cons p gs ig =>
        intro hs hn
        rw [ndF_cons] at hn ⊢
        rw [dpF_cons]
        have h1 := ih p (hs p (by simp)) (by omega)
        have h2 := ig (fun q hq => hs q (List.mem_cons_of_mem _ hq)) (by omega)
        have := (ndT_le p.2).1
        omega
    have := hF fs (fun p hp => hp) (by omega)
    omega

theorem SizesOk.start (fs : Fl) : SizesOk fs 0 1 0 := ⟨by simp [ndF_nil], fun _ => by simp [dpF_nil], by omega, by omega⟩
theorem SizesOk.next {fs : Fl} {i : Nat} {nd d nd1 d1 : Int} {p : Lb × Ut} (h : SizesOk fs i nd d) (hp : fs[i]? = some p) (h1 : SizeOk p.2 nd1 d1) : SizesOk fs (i + 1) (min (nd + nd1) 10001) (max d d1) := by
  obtain ⟨e1, e2⟩ := nd_take hp
  obtain ⟨a1, a2, a3, a4⟩ := h
  obtain ⟨b1, b2, b3, b4⟩ := h1
  have hle := (ndT_le p.2)
  refine ⟨?_, fun hn => ?_, by omega, by omega⟩
  · rw [e1, a1, b1]; omega
  · rw [e1] at hn
    rw [e2, a2 (by omega), b2 (by omega)]
    omega
/-- All children's: the tree's. -/
theorem SizesOk.stop {k n : Int} {fs : Fl} {tl : Option Int} {nd d : Int} (h : SizesOk fs fs.length nd d) : SizeOk (.mk k n fs tl) (if 50 < fs.length then 10001 else nd) (wrap64 (d + 1)) := by
  obtain ⟨a1, a2, a3, a4⟩ := h
  rw [List.take_length] at a1 a2
  refine ⟨?_, fun hn => ?_, ?_, ?_⟩
  · rw [ndT_mk]
    split
    · rfl
    · rw [a1]
  · rw [ndT_mk] at hn
    split at hn
    · omega
    · next h50 =>
      rw [dpT_mk, a2 (by omega)]
      have h2 : dpT (.mk k n fs tl) ≤ ndT (.mk k n fs tl) := dp_le_nd _ (by rw [ndT_mk, if_neg h50]; exact hn)
      rw [dpT_mk, ndT_mk, if_neg h50] at h2
      unfold wrap64
      omega
  · unfold wrap64; omega
  · unfold wrap64; omega
theorem mapF_snd (f : Ut → Ut) (fs : Fl) : (mapF f fs).map (·.2) = (fs.map (·.2)).map f := by
  induction fs with
  | nil => rfl
  | cons p fs ih => rw [mapF_cons, List.map_cons, List.map_cons, List.map_cons, ih]

theorem zeroZ (w : World) : (zeroValue 159).run Try.prog w = .ok (.agg #[.int .i64 0, .int .i64 0]) w := by kernel_rfl
def szV (nd d : Int) : Value := .agg #[.int .i64 nd, .int .i64 d]

/-- What was measured. -/
def MemoI (X : Nat → Prop) (S : Kn) (w : World) (dm : Nat) (l : List (Nat × Value)) : Prop :=
  KMap pk w dm l ∧ ∀ q ∈ l, ∃ u nd d, NodeAt X w q.1 u ∧ shT u ∧ q.2 = szV nd d ∧ SizeOk (inst S.σ u) nd d
/-- What 'measure' answers. -/
def MPost (X : Nat → Prop) (S : Kn) (dm : Nat) (t : Ut) (w : World) (e : Ending) (w' : World) : Prop :=
  ∃ nd d, e = .returned (szV nd d) ∧ SizeOk (inst S.σ t) nd d ∧ Fr (fun k => k = dm) w w' ∧ ∃ l', MemoI X S w' dm l'
/-- The variables that 'measure' is closed over. -/
structure MBox (s dm c1 c2 c3 : Nat) (w : World) : Prop where
  s : w.cell? ⟨c1, 0, none⟩ = some (.pointer (some ⟨s, 0, none⟩))
  m : w.cell? ⟨c2, 0, none⟩ = some (.map (some dm))
  f : w.cell? ⟨c3, 0, none⟩ = some (.func (.func 113) #[] #[.pointer (some ⟨c1, 0, none⟩), .pointer (some ⟨c2, 0, none⟩), .pointer (some ⟨c3, 0, none⟩)])
def MeasAt (X : Nat → Prop) (U : List Lb) (S : Kn) (s m : Nat) (first : Int) (dm c1 c2 c3 : Nat) (t : Ut) : Prop :=
  ∀ (b : Nat) (w : World) (l : List (Nat × Value)), (∀ k, X k → k < w.heap.size) → SolAt X s m first w S → NodeAt X w b t → TG U S t → MemoI X S w dm l → MBox s dm c1 c2 c3 w →
    Calls Try.prog 113 #[pk b, .pointer (some ⟨c1, 0, none⟩), .pointer (some ⟨c2, 0, none⟩), .pointer (some ⟨c3, 0, none⟩)] w (MPost X S dm t w)

theorem MBox.fr {s dm c1 c2 c3 : Nat} {w w' : World} (h : MBox s dm c1 c2 c3 w) {es : Array MapEntry} {ck : Nat} (hm : w.heap[dm]? = some (.map es ck)) (hf : Fr (fun k => k = dm) w w') : MBox s dm c1 c2 c3 w' := by
  have key : ∀ (x : Nat) (v : Value), w.cell? ⟨x, 0, none⟩ = some v → w'.cell? ⟨x, 0, none⟩ = some v := fun x v hv => by
    have hlt : x < w.heap.size := by
      rcases Nat.lt_or_ge x w.heap.size with g | g
      · exact g
      · simp [World.cell?, Array.getElem?_eq_none g] at hv
    exact (World.cell?_of_block (a := ⟨x, 0, none⟩) (hf.block x hlt fun e => by
      have e : x = dm := e
      subst e
      rw [map_cell hm] at hv
      cases hv)).trans hv
  exact ⟨key _ _ h.s, key _ _ h.m, key _ _ h.f⟩

theorem MBox.bel {s dm c1 c2 c3 : Nat} {w w' : World} (h : MBox s dm c1 c2 c3 w) (hb : Below w.heap.size w w') : MBox s dm c1 c2 c3 w' :=
  ⟨(hb.cell (p := ⟨c1, 0, none⟩) (World.block_lt_of_cell? w _ h.s)).trans h.s, (hb.cell (p := ⟨c2, 0, none⟩) (World.block_lt_of_cell? w _ h.m)).trans h.m, (hb.cell (p := ⟨c3, 0, none⟩) (World.block_lt_of_cell? w _ h.f)).trans h.f⟩
theorem mem_putL {κ : Type} [DecidableEq κ] {a : κ} {v : Value} {q : κ × Value} : ∀ {l : List (κ × Value)}, q ∈ putL a v l → q ∈ l ∨ q = (a, v)
  | [], h => .inr (by simpa [putL] using h)
  | p :: l, h => by
    unfold putL at h
    split at h
    · next e =>
      rcases List.mem_cons.1 h with h | h
      · right; rw [h, e]
      · exact .inl (List.mem_cons_of_mem _ h)
    · rcases List.mem_cons.1 h with h | h
      · exact .inl (by rw [h]; simp)
      · rcases mem_putL h with h | h
        · exact .inl (List.mem_cons_of_mem _ h)
        · exact .inr h

theorem MemoI.bel {X : Nat → Prop} {S : Kn} {w w' : World} {dm : Nat} {l : List (Nat × Value)} (h : MemoI X S w dm l) (hb : Below w.heap.size w w') : MemoI X S w' dm l :=
  ⟨h.1.later (hb.block dm h.1.lt), fun q hq => by
    obtain ⟨u, nd, d, hu, r⟩ := h.2 q hq
    exact ⟨u, nd, d, hu.bel hb, r⟩⟩
theorem MemoI.plain {X : Nat → Prop} {S : Kn} {w : World} {dm : Nat} {l : List (Nat × Value)} (h : MemoI X S w dm l) : ∀ q ∈ l, Plain w q.1 := fun q hq => by
  obtain ⟨u, _, _, hu, _⟩ := h.2 q hq
  exact hu.plain

/-- The children of a looked-at node, before they are measured. -/
structure KidsM (X : Nat → Prop) (U : List Lb) (S : Kn) (u : Ut) (w : World) (B : Option Addr) (bs : List Nat) : Prop where
  ex : ∃ (xs : List Ut) (k n : Int) (fs : Fl) (tl : Option Int), inst S.σ u = .mk k n fs tl ∧ fs.map (·.2) = xs.map (inst S.σ) ∧ bs.length = xs.length ∧ bs.length ≤ 200000 ∧ (∀ (i c : Nat) (x : Ut), bs[i]? = some c → xs[i]? = some x → NodeAt X w c x) ∧ ∀ x ∈ xs, TG U S x ∧ tsz (inst S.σ x) < tsz (inst S.σ u)
  rd : Lies X 1 encB w B bs

theorem kidsM_plain {X : Nat → Prop} {U : List Lb} {S : Kn} {u : Ut} {w : World} {B : Option Addr} {bs : List Nat} (hi : S.Inv) (g : TG U S u) (hU : U.length ≤ 100000) (h8 : u.k = 8 → S.κ u.n = none) (hr : isRowB u.k = false) (hB : Lies X 1 encB w B bs) (hl : bs.length = u.fs.length)
    (hk : ∀ (i : Nat) (p : Lb × Ut) (c : Nat), u.fs[i]? = some p → bs[i]? = some c → NodeAt X w c p.2) : KidsM X U S u w B bs := by
  have hlen := g.fs_len
  obtain ⟨k, n, fs, tl⟩ := u
  have hr : isRowB k = false := hr
  have hl : bs.length = fs.length := hl
  have hlen : fs.length ≤ U.length + 2 := hlen
  by_cases h8' : k = 8
  · obtain ⟨e, _⟩ := okT_shape g.pend.1 h8'
    unfold varT at e
    injection e with e1 e2 e3 e4
    subst e3 e4
    have hun := h8 h8'
    refine ⟨⟨[], 8, n, [], none, ?_, rfl, hl, by omega, fun i c x hc hx => (by simp at hx), fun x hx => (by cases hx)⟩, hB⟩
    rw [h8', show Ut.mk 8 n [] none = varT n from rfl, inst_var, (hi.unk n hun).1]
  · obtain ⟨rfl, _, hin⟩ := inst_plain (S := S) g.pend.1 g.sh h8' hr
    refine ⟨⟨fs.map (·.2), k, 0, _, none, hin, mapF_snd _ _, by rw [List.length_map]; exact hl, by omega, fun i c x hc hx => ?_, fun x hx => ?_⟩, hB⟩
    · rw [List.getElem?_map] at hx
      cases hp : fs[i]? with
      | none => rw [hp] at hx; cases hx
      | some p =>
        rw [hp] at hx
        simp only [Option.map_some, Option.some.injEq] at hx
        subst hx
        exact hk i p c hp hc
    · obtain ⟨p, hp, rfl⟩ := List.mem_map.1 hx
      exact ⟨g.child hp, plain_less g.pend.1 g.sh h8' hr hp⟩

theorem kidsM_row {X : Nat → Prop} {U : List Lb} {S : Kn} {u : Ut} {w : World} {x : Fl} {p : Option Int} {cl : List (ByteArray × Nat)} {B : Option Addr} (r : RowG U S u x p) (hU : U.length ≤ 100000) (hc : ChAt X w cl x) (hB : Lies X 1 encB w B (cl.map (·.2))) : KidsM X U S u w B (cl.map (·.2)) := by
  have hlen := r.len
  refine ⟨⟨x.map (·.2), u.k, 0, _, p, r.is, mapF_snd _ _, by simpa using hc.1, ?_, fun i c y h1 h2 => ?_, fun y hy => ?_⟩, hB⟩
  · have := hc.1
    simp only [List.length_map]
    omega
  · rw [List.getElem?_map] at h1 h2
    cases e1 : cl[i]? with
    | none => rw [e1] at h1; cases h1
    | some c1 =>
      cases e2 : x[i]? with
      | none => rw [e2] at h2; cases h2
      | some p1 =>
        rw [e1] at h1
        rw [e2] at h2
        simp only [Option.map_some, Option.some.injEq] at h1 h2
        subst h1 h2
        exact (hc.2 i c1 p1 e1 e2).2
  · obtain ⟨q, hq, rfl⟩ := List.mem_map.1 hy
    exact ⟨r.el q hq, r.less hq⟩
theorem KidsM.bel {X : Nat → Prop} {U : List Lb} {S : Kn} {u : Ut} {w w' : World} {B : Option Addr} {bs : List Nat} (h : KidsM X U S u w B bs) (hb : Below w.heap.size w w') : KidsM X U S u w' B bs := by
  obtain ⟨⟨xs, k, n, fs, tl, h1, h2, h3, h4, h5, h6⟩, h7⟩ := h
  exact ⟨⟨xs, k, n, fs, tl, h1, h2, h3, h4, fun i c x hc hx => (h5 i c x hc hx).bel hb, h6⟩, h7.fr (Fr.below (X := fun _ => False) hb) (fun _ _ e => e.elim)⟩

/-! ### Trees lie in no block of two ints -/
def OffB (w : World) (g : Nat) : Prop := ∃ x y t, w.heap[g]? = some (.cells #[.int .i64 x, .int .i64 y] t (0, 0))
section
variable {X : Nat → Prop} {w w' : World} {g dm : Nat}
theorem OffB.cell (h : OffB w g) (o : Nat) (v : Value) (hv : w.cell? ⟨g, o, none⟩ = some v) : ∃ n, v = .int .i64 n := by
  obtain ⟨x, y, t, h⟩ := h
  simp only [World.cell?, h] at hv
  match o, hv with
  | 0, hv => exact ⟨x, by simpa using hv.symm⟩
  | 1, hv => exact ⟨y, by simpa using hv.symm⟩
  | o + 2, hv => simp at hv
theorem Lies.offB {α : Type} {enc : α → List Value} {size : Nat} {A : Option Addr} {l : List α} (h : Lies X size enc w A l) (he : ∀ x, ∃ u us, enc x = u :: us ∧ ∀ n, u ≠ .int .i64 n) (hg : OffB w g) : Lies (fun k => X k ∨ k = g) size enc w A l := fun hl => by
  obtain ⟨b, o, e, h1, h2, h3⟩ := h hl
  refine ⟨b, o, e, fun hb => ?_, h2, h3⟩
  rcases hb with hb | rfl
  · exact h1 hb
  · cases l with
    | nil => exact hl rfl
    | cons x l =>
      obtain ⟨u, us, hx, hu⟩ := he x
      have := h3 0 x rfl 0 u (by rw [hx]; rfl)
      obtain ⟨n, hn⟩ := hg.cell _ _ this
      exact hu n hn
theorem TailAt.offB {v : Value} {tl : Option Int} (h : TailAt X w v tl) (hg : OffB w g) : TailAt (fun k => X k ∨ k = g) w v tl := by
  cases tl with
  | none => exact h
  | some q =>
    obtain ⟨b, e, h1, h2⟩ := h
    refine ⟨b, e, fun hb => ?_, h2⟩
    rcases hb with hb | rfl
    · exact h1 hb
    · obtain ⟨x, y, t, hg⟩ := hg
      rw [hg] at h2
      simp at h2
theorem NodeAt.offB {b : Nat} {t : Ut} (h : NodeAt X w b t) (hg : OffB w g) : NodeAt (fun k => X k ∨ k = g) w b t := by
  induction h with
  | mk b k n fs tl A B ls bs ca cb tv hx hb hn hl hA hB hlen hk ht ih =>
    refine .mk b k n fs tl A B ls bs ca cb tv (fun h => ?_) hb hn hl (hA.offB (fun x => ⟨_, _, rfl, fun n e => by cases e⟩) hg) (hB.offB (fun x => ⟨_, _, rfl, fun n e => by cases e⟩) hg) hlen ih (ht.offB hg)
    rcases h with h | rfl
    · exact hx h
    · obtain ⟨x, y, t, hg⟩ := hg
      rw [hg] at hb
      simp at hb
/-- A map of X and a block of two ints are written: trees stand. -/
theorem NodeAt.pastB {b : Nat} {t : Ut} (h : NodeAt X w b t) (hg : OffB w g) (hX : X dm) (hf : Fr (fun q => q = dm ∨ q = g) w w') : NodeAt X w' b t :=
  ((h.offB hg).fr hf fun k _ e => by
    rcases e with e | e
    · exact .inl (e ▸ hX)
    · exact .inr e).more fun k _ e => .inl e
theorem SolAt.pastB {s m : Nat} {first : Int} {S : Kn} (h : SolAt X s m first w S) (hg : OffB w g) (hX : X dm) (hd : dm ≠ s ∧ dm ≠ m) (hgs : g ≠ s ∧ g ≠ m) (hf : Fr (fun q => q = dm ∨ q = g) w w') : SolAt X s m first w' S := by
  obtain ⟨a1, a2, a3, a4, l, a5, a6⟩ := h
  refine ⟨a1, a2, a3, (hf.block s (Array.getElem?_eq_some_iff.1 a4).1 fun e => ?_).trans a4, l, a5.later (hf.block m a5.lt fun e => ?_), fun n => ?_⟩
  · rcases e with e | e
    · exact hd.1 e.symm
    · exact hgs.1 e.symm
  · rcases e with e | e
    · exact hd.2 e.symm
    · exact hgs.2 e.symm
  · have := a6 n
    cases hk : S.κ n with
    | none => rw [hk] at this; exact this
    | some t =>
      rw [hk] at this
      obtain ⟨b, e, hn⟩ := this
      exact ⟨b, e, hn.pastB hg hX hf⟩
theorem MemoI.wr {S : Kn} {l : List (Nat × Value)} (h : MemoI X S w dm l) (hg : OffB w g) (hne : g ≠ dm) (hf : Fr (fun q => q = g) w w') : MemoI X S w' dm l :=
  ⟨h.1.later (hf.block dm h.1.lt fun e => hne e.symm), fun q hq => by
    obtain ⟨u, nd, d, hu, r⟩ := h.2 q hq
    exact ⟨u, nd, d, ((hu.offB hg).fr hf fun k _ e => .inr e).more fun k _ e => .inl e, r⟩⟩
theorem MBox.wr {s dm c1 c2 c3 : Nat} {g : Nat} (h : MBox s dm c1 c2 c3 w) (hf : Fr (fun q => q = g) w w') (h1 : c1 ≠ g) (h2 : c2 ≠ g) (h3 : c3 ≠ g) : MBox s dm c1 c2 c3 w' :=
  ⟨(World.cell?_of_block (a := ⟨c1, 0, none⟩) (hf.block c1 (World.block_lt_of_cell? w _ h.s) h1)).trans h.s, (World.cell?_of_block (a := ⟨c2, 0, none⟩) (hf.block c2 (World.block_lt_of_cell? w _ h.m) h2)).trans h.m, (World.cell?_of_block (a := ⟨c3, 0, none⟩) (hf.block c3 (World.block_lt_of_cell? w _ h.f) h3)).trans h.f⟩
end

/-- A struct of two cells that is written whole. -/
theorem two_cells {w1 : World} {g : Nat} {x0 x1 a b : Value} {t : TypeId} (h : w1.heap[g]? = some (.cells #[x0, x1] t (0, 0))) :
    ((w1.setCell ⟨g, 0, none⟩ a).setCell ⟨g, 1, none⟩ b).heap[g]? = some (.cells #[a, b] t (0, 0)) := by
  have h1 := heap_set h 0 a
  have h2 := heap_set h1 1 b
  simpa using h2
theorem two_cells_alloc {w1 : World} {g : Nat} {x0 x1 a b : Value} {t : TypeId} (h : w1.heap[g]? = some (.cells #[x0, x1] t (0, 0))) (o : Obj) :
    (((w1.setCell ⟨g, 0, none⟩ a).setCell ⟨g, 1, none⟩ b).alloc o).cell? ⟨g, 0, none⟩ = some a ∧ (((w1.setCell ⟨g, 0, none⟩ a).setCell ⟨g, 1, none⟩ b).alloc o).cell? ⟨g, 1, none⟩ = some b := by
  have h2 := two_cells (a := a) (b := b) h
  have hlt := (Array.getElem?_eq_some_iff.1 h2).1
  have h3 := (Below.heap_alloc _ o g hlt).trans h2
  exact ⟨by simp [World.cell?, h3], by simp [World.cell?, h3]⟩
theorem two_cells_of {w1 : World} {g : Nat} {x0 x1 a b : Value} {t : TypeId} (h : w1.heap[g]? = some (.cells #[x0, x1] t (0, 0))) :
    ((w1.setCell ⟨g, 0, none⟩ a).setCell ⟨g, 1, none⟩ b).cell? ⟨g, 0, none⟩ = some a ∧ ((w1.setCell ⟨g, 0, none⟩ a).setCell ⟨g, 1, none⟩ b).cell? ⟨g, 1, none⟩ = some b := by
  have h2 := two_cells (a := a) (b := b) h
  exact ⟨by simp [World.cell?, h2], by simp [World.cell?, h2]⟩
theorem fr_two {X : Nat → Prop} {w w1 : World} {g : Nat} (h : Fr X w w1) (hg : w.heap.size ≤ g) (a b : Value) : Fr X w ((w1.setCell ⟨g, 0, none⟩ a).setCell ⟨g, 1, none⟩ b) := (h.setCell (p := ⟨g, 0, none⟩) (.inr hg) a).setCell (p := ⟨g, 1, none⟩) (.inr hg) b

/-- Behind the writing of what was measured. -/
theorem end_facts {wr W w5 : World} {g8 g5 dm : Nat} {n' d' : Int} (hf : Fr (fun q => q = g8) wr W) (h8 : W.heap[g8]? = some (.cells #[.int .i64 n', .int .i64 d'] 159 (0, 0))) (h5 : wr.heap[g5]? = some (.cells #[.int .i64 0, .int .i64 0] 159 (0, 0))) (hne : g5 ≠ g8) (h8d : g8 ≠ dm) (h5d : g5 ≠ dm) (hg : W.grownBy w5 (some dm)) :
    w5.cell? ⟨g8, 0, none⟩ = some (.int .i64 n') ∧ w5.cell? ⟨g8, 1, none⟩ = some (.int .i64 d') ∧ w5.cell? ⟨g5, 0, none⟩ = some (.int .i64 0) ∧ w5.cell? ⟨g5, 1, none⟩ = some (.int .i64 0) ∧ w5.frozen? ⟨g5, 0, none⟩ = false ∧ w5.frozen? ⟨g5, 1, none⟩ = false ∧ w5.heap[g5]? = some (.cells #[.int .i64 0, .int .i64 0] 159 (0, 0)) ∧ Fr (fun q => q = dm ∨ q = g8) wr w5 ∧ w5.heap[g8]? = some (.cells #[.int .i64 n', .int .i64 d'] 159 (0, 0)) := by
  have l8 := (Array.getElem?_eq_some_iff.1 h8).1
  have l5 := (Array.getElem?_eq_some_iff.1 h5).1
  have k8 := (hg.block g8 l8 fun e => by injection e with e; exact h8d e).trans h8
  have k5 := (hg.block g5 (Nat.lt_of_lt_of_le l5 hf.size) fun e => by injection e with e; exact h5d e).trans ((hf.block g5 l5 hne).trans h5)
  exact ⟨by simp [World.cell?, k8], by simp [World.cell?, k8], by simp [World.cell?, k5], by simp [World.cell?, k5], by simp [World.frozen?, k5], by simp [World.frozen?, k5], k5, (hf.mono fun k e => .inr e).trans ((Fr.grown (X := fun q => q = dm ∨ q = g8) hg fun k hk => .inl (by injection hk with hk; exact hk.symm))), k8⟩

theorem meas_fin {X : Nat → Prop} {S : Kn} {dm g8 c : Nat} {t u : Ut} {w wr w5 : World} {l2 : List (Nat × Value)} {n' d' : Int} (hX : X dm) (hso : SizeOk (inst S.σ t) n' d') (heq : inst S.σ t = inst S.σ u) (hsu : shT u) (hF : Fr (fun q => q = dm ∨ q = g8) w wr) (hg8 : w.heap.size ≤ g8) (hM : MemoI X S wr dm l2) (h8 : OffB wr g8)
    (hn : NodeAt X wr c u) (hf : Fr (fun q => q = dm ∨ q = g8) wr w5) (h5 : OffB w5 w.heap.size) (hd : dm < w.heap.size) (hM5 : KMap pk w5 dm (putL c (szV n' d') l2)) :
    MPost X S dm t w (.returned (szV n' d')) ((w5.setCell ⟨w.heap.size, 0, none⟩ (.int .i64 n')).setCell ⟨w.heap.size, 1, none⟩ (.int .i64 d')) := by
  have hfg : Fr (fun q => q = w.heap.size) w5 ((w5.setCell ⟨w.heap.size, 0, none⟩ (.int .i64 n')).setCell ⟨w.heap.size, 1, none⟩ (.int .i64 d')) := ((Fr.refl (fun q => q = w.heap.size) w5).setCell (p := ⟨w.heap.size, 0, none⟩) (.inl rfl) _).setCell (p := ⟨w.heap.size, 1, none⟩) (.inl rfl) _
  have hnode : ∀ (b : Nat) (v : Ut), NodeAt X wr b v → NodeAt X ((w5.setCell ⟨w.heap.size, 0, none⟩ (.int .i64 n')).setCell ⟨w.heap.size, 1, none⟩ (.int .i64 d')) b v := fun b v h => (((h.pastB h8 hX hf).offB h5).fr hfg fun k _ e => .inr e).more fun k _ e => .inl e
  refine ⟨n', d', rfl, hso, ?_, putL c (szV n' d') l2, hM5.later (hfg.block dm hM5.lt fun e => by have e : dm = w.heap.size := e; omega), fun q hq => ?_⟩
  · refine (Fr.refl (fun q => q = dm) w).new (((hF.trans hf).mono fun k e => (show (k = dm ∨ k = g8) ∨ k = w.heap.size from .inl e)).trans (hfg.mono fun k e => .inr e)) fun k e => ?_
    rcases e with (e | e) | e
    · exact .inl e
    · exact .inr (by omega)
    · exact .inr (by omega)
  · rcases mem_putL hq with hq | rfl
    · obtain ⟨v, nd, d, h1, h2⟩ := hM.2 q hq
      exact ⟨v, nd, d, hnode _ _ h1, h2⟩
    · exact ⟨u, n', d', hnode _ _ hn, hsu, rfl, by rw [← heq]; exact hso⟩

theorem MPost.of {X : Nat → Prop} {S : Kn} {dm : Nat} {t : Ut} {w w' : World} {l : List (Nat × Value)} {nd d : Int} (hok : SizeOk (inst S.σ t) nd d) (hI : MemoI X S w dm l) (hF : Fr (fun _ => False) w w') : MPost X S dm t w (.returned (szV nd d)) w' :=
  ⟨nd, d, rfl, hok, hF.mono fun _ e => e.elim, l, hI.bel (hF.toBelow fun _ e => e.elim)⟩

set_option maxRecDepth 100000 in
set_option maxHeartbeats 8000000 in
theorem meas_step (X : Nat → Prop) (U : List Lb) (S : Kn) (s m : Nat) (first : Int) (dm c1 c2 c3 : Nat) (hK : KG U S) (hU : U.length ≤ 100000) (hXd : X dm) (hsm : dm ≠ s ∧ dm ≠ m) (t : Ut)
    (ih : ∀ x, TG U S x → tsz (inst S.σ x) < tsz (inst S.σ t) → MeasAt X U S s m first dm c1 c2 c3 x) : MeasAt X U S s m first dm c1 c2 c3 t := by
  intro b w l hX hS hb g hI hB
  obtain ⟨u, hl⟩ := looks_ex hK.rk t
  obtain ⟨gu, _, eu⟩ := hl.good hK g
  have HX := Lib.hid hX
  have HLU := Lib.hid hl
  have HK := Lib.hid hK
  have HS := Lib.hid hS
  have HB := Lib.hid hb
  have HG := Lib.hid gu
  have HE := Lib.hid eu
  have HI := Lib.hid hI
  have HIH := Lib.hid ih
  have HBX := Lib.hid hB
  obtain ⟨x1, x2, x3⟩ := hB
  obtain ⟨es0, ck0, hm0, _⟩ := hI.1
  have HM0 := Lib.hid hm0
  have z1 : c1 < w.heap.size := World.block_lt_of_cell? w _ x1
  have z2 : c2 < w.heap.size := World.block_lt_of_cell? w _ x2
  have z3 : c3 < w.heap.size := World.block_lt_of_cell? w _ x3
  clear hl hK hX hS hb g gu eu hI ih hm0
  unfold pk
  go_enter Try.func113, Try.ntmps113
  go_wp2_with fail
  have hbW := ext_alloc (Below.refl w.heap.size w) (.cells #[.int .i64 0, .int .i64 0] 159)
  have HL := look_any X s m first _ S (HS.out.bel hbW) HK.out.rk b t u (HB.out.bel hbW) HLU.out
  unfold pk at HL
  refine HL.mono ?_
  clear HL
  rintro e w1 ⟨c, rfl, hc, hb1⟩
  have h5 : Hid (w1.heap[w.heap.size]? = some (.cells #[.int .i64 0, .int .i64 0] 159 (0, 0))) := Lib.hid ((hb1.block w.heap.size (by simp)).trans (heap_alloc_new w _))
  have M1 := Lib.hid (And.intro hc (hbW.trans (hb1.mono hbW.size)))
  have BX1 := Lib.hid (HBX.out.fr HM0.out (Fr.below M1.out.2))
  obtain ⟨y1, y2, y3⟩ := BX1.out
  clear hc hb1 hbW x1 x2 x3
  have HI1 := Lib.hid (HI.out.bel M1.out.2)
  have hkey : Hid (Keyer Try.prog 93 pk w1 c l) := Lib.hid (by
    obtain ⟨i, hi, hn⟩ := infoU
    exact keyer_ptr Try.underlying93 hi hn M1.out.1.plain HI1.out.plain)
  cases hat : atL c l with
  | some v =>
    obtain ⟨u', nd, d, hu', hsu', hv, hok⟩ := HI1.out.2 _ (atL_mem hat)
    have hv : v = szV nd d := hv
    subst hv
    have heq : u' = u := hu'.det M1.out.1 hsu' HG.out.sh
    have hget : (atL c l).getD (.agg #[.int .i64 0, .int .i64 0]) = szV nd d := by rw [hat]; rfl
    have hsome : (atL c l).isSome = true := by rw [hat]; rfl
    have HO := Lib.hid (heq ▸ hok)
    clear hat hu' hsu' heq hok
    unfold szV at hget
    have q0 : w1.cell? ⟨w.heap.size, 0, none⟩ = some (.int .i64 0) := by simp [World.cell?, h5.out]
    have q1 : w1.cell? ⟨w.heap.size, 1, none⟩ = some (.int .i64 0) := by simp [World.cell?, h5.out]
    have p0 : w1.frozen? ⟨w.heap.size, 0, none⟩ = false := by simp [World.frozen?, h5.out]
    have p1 : w1.frozen? ⟨w.heap.size, 1, none⟩ = false := by simp [World.frozen?, h5.out]
    have z5 : w.heap.size < w1.heap.size := (Array.getElem?_eq_some_iff.1 h5.out).1
    go_wp2_with (at_lookup; refine wpList_lookM rfl _ _ true rfl HI1.out.1 hkey.out Try.underlying156 _ (zeroZ _) rfl rfl ?_)
    refine bodyPost_ret (v := .agg #[.int .i64 nd, .int .i64 d]) (by simp [results, Try.results113, go_sem, (two_cells_alloc h5.out _).1, (two_cells_alloc h5.out _).2]) rfl ?_
    exact MPost.of (by rw [HE.out]; exact HO.out) HI.out ((fr_two (Fr.below M1.out.2) (Nat.le_refl _) _ _).alloc _)
  | none =>
    have hget : (atL c l).getD (.agg #[.int .i64 0, .int .i64 0]) = .agg #[.int .i64 0, .int .i64 0] := by rw [hat]; rfl
    have hsome : (atL c l).isSome = false := by rw [hat]; rfl
    have Hput := Lib.hid fun v => putL_none (v := v) hat
    clear hat
    obtain ⟨A3, B3, ls, bs, ca, cb, ta, hb3, _, hl3, _, hB3, hbl3, hk3, ht3, _⟩ := M1.out.1.partsU
    have e0 : w1.cell? ⟨c, 0, none⟩ = some (.int .i64 u.k) := by simp [World.cell?, hb3]
    have e3 : w1.cell? ⟨c, 3, none⟩ = some (.slice B3 bs.length cb) := by simp [World.cell?, hb3]
    have zc : c < w1.heap.size := (Array.getElem?_eq_some_iff.1 hb3).1
    have P3 := Lib.hid (And.intro hB3 (And.intro hbl3 hk3))
    have z1' : c1 < w1.heap.size := Nat.lt_of_lt_of_le z1 M1.out.2.size
    clear hb3 hl3 hB3 hbl3 hk3 ht3
    go_upto_if 37 with (first
      | (at_lookup; refine wpList_lookM rfl _ _ true rfl HI1.out.1 hkey.out Try.underlying156 _ (zeroZ _) rfl rfl ?_)
      | (go_at_call 102; refine (uIsRow_any u.k _).mono ?_; rintro e w9 ⟨rfl, rfl⟩))
    have hbw : Below w1.heap.size w1 ((w1.alloc (.cells #[.int .i64 0, .int .i64 0] 159)).alloc (.cells #[.int .i64 1, .int .i64 0] 159)) := ext_alloc (ext_alloc (Below.refl _ _) _) _
    have h8 : ((w1.alloc (.cells #[.int .i64 0, .int .i64 0] 159)).alloc (.cells #[.int .i64 1, .int .i64 0] 159)).heap[w1.heap.size + 1]? = some (.cells #[.int .i64 1, .int .i64 0] 159 (0, 0)) := by
      rw [show w1.heap.size + 1 = (w1.alloc (.cells #[.int .i64 0, .int .i64 0] 159)).heap.size by simp]
      exact heap_alloc_new _ _
    generalize hW2 : (w1.alloc (.cells #[.int .i64 0, .int .i64 0] 159)).alloc (.cells #[.int .i64 1, .int .i64 0] 159) = W2 at *
    have T2 := Lib.hid (And.intro hbw h8)
    have zg8 : w1.heap.size + 1 < W2.heap.size := (Array.getElem?_eq_some_iff.1 h8).1
    clear hW2 hbw h8 hget hsome
    have BX2 := Lib.hid (BX1.out.fr (HI1.out.1.choose_spec.choose_spec.1) (Fr.below T2.out.1))
    clear e0 e3 y1 y2 y3
    go_cut [9] (fun s9 wx => ∃ B bs cb, s9 = .slice B (List.length bs) cb ∧ Hid (KidsM X U S u wx B bs ∧ Below W2.heap.size W2 wx))
    case first => as_aux_lemma =>
      cases hr : isRowB u.k
      · have hR := Lib.hid hr
        go_wp2_with fail
        go_meet
        exact ⟨B3, bs, cb, rfl, Lib.hid ⟨(kidsM_plain HK.out.inv HG.out hU (fun h => HLU.out.end_ h) hR.out P3.out.1 P3.out.2.1 P3.out.2.2).bel T2.out.1, Below.refl _ _⟩⟩
      · have hR := Lib.hid hr
        obtain ⟨bq1, _, _⟩ := BX2.out
        have hrow := row_tg X U s m first W2 S ((HS.out.bel M1.out.2).bel T2.out.1) HK.out hU c u (M1.out.1.bel T2.out.1) HG.out hR.out
        unfold pk at hrow
        go_wp2_with fail
        refine hrow.mono ?_
        clear hrow
        rintro e w3 ⟨A4, cap4, cl, x, p, tv, rfl, k1, k2, k3, k4, k5⟩
        obtain ⟨tb, rfl⟩ := k3.ptr
        have Y := Lib.hid (And.intro k1 (And.intro k2 (And.intro k4 k5)))
        have hcl : cl.length ≤ 100000 := by have := k1.len; have := k2.1; omega
        clear k1 k2 k3 k4 k5 bq1
        go_wp2_with fail
        go_loopw [9, 46] (fun s9 s46 wr => ∃ (i : Nat) (B : Option Addr) (cb : Nat) (bs : List Nat), s46 = .int .i64 i ∧ s9 = .slice B bs.length cb ∧ i ≤ cl.length ∧ Hid (bs = (cl.take i).map (·.2) ∧ OwnL 93 1 encB wr w3.heap.size B cb bs ∧ Below w3.heap.size w3 wr)) (fun _ s46 _ => cl.length - (intOf s46).toNat)
        case atStart => exact ⟨0, none, 0, [], rfl, rfl, Nat.zero_le _, Lib.hid ⟨by simp, OwnL.nil, Below.refl _ _⟩⟩
        case round =>
          obtain ⟨i, B, cb2, bs2, rfl, rfl, hi, M⟩ := hrel
          by_cases hp : i < cl.length
          · obtain ⟨d, hd⟩ := getq_ex (l := cl) (i := i) hp
            obtain ⟨gb, go, rfl, _, hgz, k0, k1⟩ := OwnL.at2 Y.out.2.2.1 hd
            have e0 := (M.out.2.2.cell (p := ⟨gb, go + i * 2, none⟩) hgz).trans k0
            have e1 := (M.out.2.2.cell (p := ⟨gb, go + i * 2 + 1, none⟩) hgz).trans k1
            have hbl : bs2.length ≤ 100000 := by
              have := M.out.1
              rw [this]
              simp
              omega
            have Htk : Hid ((cl.take (i + 1)).map (·.2) = (cl.take i).map (·.2) ++ [d.2]) := Lib.hid (by rw [List.take_add_one, hd]; simp)
            have hwz : w3.heap.size ≤ wr.heap.size := M.out.2.2.size
            clear hd hgz k0 k1
            go_wp2_with (at_builtin; refine wpList_appB rfl (.tmp 50) (.tmp 53) rfl w3.heap.size (l := bs2) rfl (OwnL.alloc (OwnL.alloc M.out.2.1 _) _) (l2 := [d.2]) rfl (readL_newH _ d.2 _ _ rfl (wr.heap.size + 1) (by simp)) (by simp; omega) (by simp; omega) ?_; intro A1 c1 w4 hown1 hg1 _)
            have MJ : Hid (bs2 ++ [d.2] = (cl.take (i + 1)).map (·.2) ∧ OwnL 93 1 encB w4 w3.heap.size A1 c1 (bs2 ++ [d.2]) ∧ Below w3.heap.size w3 w4) := Lib.hid ⟨by rw [Htk.out, M.out.1], hown1, ext_app (ext_alloc (ext_alloc M.out.2.2 _) _) hg1 (fun q hq => (M.out.2.1.block q hq).1)⟩
            clear hown1 hg1 e0 e1
            go_roundw
            case rel => exact ⟨i + 1, A1, c1, bs2 ++ [d.2], by go_num, by simp, hp, MJ⟩
            case measure => simp [intOf]; omega
          · go_wp2_with fail
            go_meet
            have hbe : bs2 = cl.map (·.2) := by
              have := M.out.1
              rw [List.take_of_length_le (by omega)] at this
              exact this
            refine ⟨B, bs2, cb2, rfl, Lib.hid ⟨?_, Y.out.2.2.2.trans (M.out.2.2.mono Y.out.2.2.2.size)⟩⟩
            rw [hbe]
            exact kidsM_row Y.out.1 hU (Y.out.2.1.bel M.out.2.2) (by
              rw [← hbe]
              exact Lies.of_own encB_len M.out.2.1 fun k hk _ hx => by
                have h1 := HX.out k hx
                have h2 := M1.out.2.size
                have h3 := Y.out.2.2.2.size
                have h4 := T2.out.1.size
                omega)
    case rest =>
      obtain ⟨B5, bs5, cb5, rfl, KI⟩ := hcut
      obtain ⟨⟨xs, k, n, fs, tl, hin, hfs, hlen, hle, hnd, hxs⟩, krd⟩ := KI.out.1
      have KC := Lib.hid (And.intro hin (And.intro hfs (And.intro hlen (And.intro hnd (And.intro hxs krd)))))
      have hbel := Lib.hid (T2.out.1.trans (KI.out.2.mono T2.out.1.size))
      have hc8 : Hid (wc.heap[w1.heap.size + 1]? = some (.cells #[.int .i64 1, .int .i64 0] 159 (0, 0))) := Lib.hid ((KI.out.2.block _ zg8).trans T2.out.2)
      have hc5 : Hid (wc.heap[w.heap.size]? = some (.cells #[.int .i64 0, .int .i64 0] 159 (0, 0))) := Lib.hid ((hbel.out.block _ (Array.getElem?_eq_some_iff.1 h5.out).1).trans h5.out)
      have hdmw : Hid (dm < w.heap.size) := Lib.hid HI.out.1.lt
      have hwz : Hid (w.heap.size ≤ w1.heap.size) := Lib.hid M1.out.2.size
      have hg8s : Hid (w1.heap.size + 1 ≠ s ∧ w1.heap.size + 1 ≠ m) := Lib.hid (by
        have h1 := HX.out s HS.out.xs
        have h2 := HX.out m HS.out.xm
        have h3 := hwz.out
        constructor <;> omega)
      clear hin hfs hlen hnd hxs krd KI P3
      go_wp2_with fail
      go_loopw [58] (fun s58 wr => ∃ (i : Nat) (nd d : Int) (l' : List (Nat × Value)), s58 = .int .i64 i ∧ i ≤ bs5.length ∧ Hid (SizesOk fs i nd d ∧ Fr (fun q => q = dm ∨ q = w1.heap.size + 1) wc wr ∧ MemoI X S wr dm l' ∧ wr.heap[w1.heap.size + 1]? = some (.cells #[.int .i64 nd, .int .i64 d] 159 (0, 0)) ∧ MBox s dm c1 c2 c3 wr)) (fun s58 _ => bs5.length - (intOf s58).toNat)
      case atStart =>
        obtain ⟨es1, ck1, hm1, _⟩ := HI1.out.1
        exact ⟨0, 1, 0, l, rfl, Nat.zero_le _, Lib.hid ⟨.start fs, Fr.refl _ _, HI1.out.bel hbel.out, hc8.out, BX1.out.fr hm1 (Fr.below hbel.out)⟩⟩
      case round =>
        obtain ⟨i, nd, d, l2, rfl, hi, M⟩ := hrel
        have zg : w1.heap.size + 1 < wr.heap.size := (Array.getElem?_eq_some_iff.1 M.out.2.2.2.1).1
        have hXw : Hid (∀ k, X k → k < wr.heap.size) := Lib.hid fun k hk => by
          have h1 := HX.out k hk
          have h2 := M.out.2.1.size
          have h3 := hbel.out.size
          have h4 := hwz.out
          omega
        have hbnd : 0 ≤ nd ∧ nd ≤ 10001 ∧ -9223372036854775808 ≤ d ∧ d ≤ 9223372036854775807 := by
          have h1 := M.out.1.en
          have h2 := M.out.1.lo
          have h3 := M.out.1.hi
          omega
        by_cases hp : i < bs5.length
        · obtain ⟨c', hd⟩ := getq_ex hp
          obtain ⟨x, hx⟩ := getq_ex (l := xs) (i := i) (by rw [← KC.out.2.2.1]; exact hp)
          obtain ⟨pf, hpf⟩ := getq_ex (l := fs) (i := i) (by have := congrArg List.length KC.out.2.1; simp only [List.length_map] at this; rw [this, ← KC.out.2.2.1]; exact hp)
          have hpx : Hid (pf.2 = inst S.σ x) := Lib.hid (by
            have := congrArg (·[i]?) KC.out.2.1
            simp only [List.getElem?_map, hpf, hx, Option.map_some, Option.some.injEq] at this
            exact this)
          obtain ⟨bb, oo, rfl, zx, zb, zcl⟩ := (KC.out.2.2.2.2.2.offB (fun x => ⟨_, _, rfl, fun n e => by cases e⟩) (show OffB wc (w1.heap.size + 1) from ⟨_, _, _, hc8.out⟩)).cellB hd
          have e1 := (World.cell?_of_block (w := wc) (M.out.2.1.block bb zb fun e => zx (by
            rcases e with e | e
            · exact .inl (e ▸ hXd)
            · exact .inr e))).trans zcl
          obtain ⟨gx, sx⟩ := KC.out.2.2.2.2.1 x (List.mem_of_getElem? hx)
          have hNw : NodeAt X wr c' x := (KC.out.2.2.2.1 i c' x hd hx).pastB ⟨_, _, _, hc8.out⟩ hXd M.out.2.1
          have hSw : SolAt X s m first wr S := ((HS.out.bel M1.out.2).bel hbel.out).pastB ⟨_, _, _, hc8.out⟩ hXd hsm hg8s.out M.out.2.1
          have hcall := Lib.hid (HIH.out x gx (by rw [HE.out]; exact sx) c' wr l2 hXw.out hSw hNw gx M.out.2.2.1 M.out.2.2.2.2)
          unfold pk at hcall
          obtain ⟨_, _, y3⟩ := M.out.2.2.2.2
          have Hpf := Lib.hid hpf
          clear hd hx zx zb zcl gx sx hNw hSw hpf
          go_wp2_with fail
          refine hcall.out.mono ?_
          clear hcall
          rintro e w4 ⟨nd1, d1, rfl, ok1, f1, l3, m3⟩
          have h4 : w4.heap[w1.heap.size + 1]? = some (.cells #[.int .i64 nd, .int .i64 d] 159 (0, 0)) := (f1.block _ zg fun e => by have e : w1.heap.size + 1 = dm := e; have := hdmw.out; have := hwz.out; omega).trans M.out.2.2.2.1
          have q0 : w4.cell? ⟨w1.heap.size + 1, 0, none⟩ = some (.int .i64 nd) := by simp [World.cell?, h4]
          have q1 : w4.cell? ⟨w1.heap.size + 1, 1, none⟩ = some (.int .i64 d) := by simp [World.cell?, h4]
          have p0 : w4.frozen? ⟨w1.heap.size + 1, 0, none⟩ = false := by simp [World.frozen?, h4]
          have p1 : w4.frozen? ⟨w1.heap.size + 1, 1, none⟩ = false := by simp [World.frozen?, h4]
          have zg4 : w1.heap.size + 1 < w4.heap.size := (Array.getElem?_eq_some_iff.1 h4).1
          have hb1 : 0 ≤ nd1 ∧ nd1 ≤ 10001 := by
            have h1 := ok1.en
            have h2 := (ndT_le (inst S.σ x)).2
            omega
          have hw : IntKind.i64.wrap (nd + nd1) = nd + nd1 := by rw [IntKind.wrap_i64]; omega
          have G := Lib.hid (And.intro ok1 (And.intro f1 (And.intro m3 h4)))
          clear ok1 f1 m3 h4 y3 e1
          unfold szV
          go_wp2_with fail
          go_roundw
          case rel =>
            have hfg : Fr (fun q => q = w1.heap.size + 1) w4 ((w4.setCell ⟨w1.heap.size + 1, 0, none⟩ (.int .i64 (min (nd + nd1) 10001))).setCell ⟨w1.heap.size + 1, 1, none⟩ (.int .i64 (max d d1))) := ((Fr.refl (fun q => q = w1.heap.size + 1) w4).setCell (p := ⟨w1.heap.size + 1, 0, none⟩) (.inl rfl) _).setCell (p := ⟨w1.heap.size + 1, 1, none⟩) (.inl rfl) _
            have hne : w1.heap.size + 1 ≠ dm := by have := hdmw.out; have := hwz.out; omega
            have hmb := M.out.2.2.2.2
            have hm4 := G.out.2.2.1.1
            obtain ⟨es1, ck1, hm1, _⟩ := M.out.2.2.1.1
            have hwzz := hwz.out
            refine ⟨i + 1, min (nd + nd1) 10001, max d d1, l3, by go_num, hp, Lib.hid ⟨M.out.1.next Hpf.out (by rw [hpx.out]; exact G.out.1), ?_, ?_, ?_, ?_⟩⟩
            · exact ((M.out.2.1.trans (G.out.2.1.mono fun k e => .inl e)).trans (hfg.mono fun k e => .inr e)).alloc _
            · exact (G.out.2.2.1.wr ⟨_, _, _, G.out.2.2.2⟩ hne hfg).bel (ext_alloc (Below.refl _ _) _)
            · exact (Below.heap_alloc _ _ _ (by simpa using zg4)).trans (two_cells G.out.2.2.2)
            · exact ((hmb.fr hm1 G.out.2.1).wr hfg (by omega) (by omega) (by omega)).bel (ext_alloc (Below.refl _ _) _)
          case measure => simp [intOf]; omega
        · have HD := Lib.hid (M.out.1)
          have h8 := M.out.2.2.2.1
          have q0 : wr.cell? ⟨w1.heap.size + 1, 0, none⟩ = some (.int .i64 nd) := by simp [World.cell?, h8]
          have q1 : wr.cell? ⟨w1.heap.size + 1, 1, none⟩ = some (.int .i64 d) := by simp [World.cell?, h8]
          have p0 : wr.frozen? ⟨w1.heap.size + 1, 0, none⟩ = false := by simp [World.frozen?, h8]
          have p1 : wr.frozen? ⟨w1.heap.size + 1, 1, none⟩ = false := by simp [World.frozen?, h8]
          obtain ⟨_, y2, _⟩ := M.out.2.2.2.2
          have hwzz := hwz.out
          have hdd := hdmw.out
          have hc2 : c2 ≠ w1.heap.size + 1 := by omega
          have hc2' : w1.heap.size + 1 ≠ c2 := by omega
          have hfl : fs.length = bs5.length := by
            have := congrArg List.length KC.out.2.1
            simp only [List.length_map] at this
            rw [this, KC.out.2.2.1]
          have hib : i = fs.length := by omega
          have hst := Lib.hid ((hib ▸ HD.out : SizesOk fs fs.length nd d).stop (k := k) (n := n) (tl := tl))
          have h5r : Hid (wr.heap[w.heap.size]? = some (.cells #[.int .i64 0, .int .i64 0] 159 (0, 0))) := Lib.hid ((M.out.2.1.block _ (Array.getElem?_eq_some_iff.1 hc5.out).1 fun e => by rcases e with e | e <;> omega).trans hc5.out)
          have HW : Hid (∀ W, Fr (fun q => q = w1.heap.size + 1) wr W → KMap pk W dm l2 ∧ Keyer Try.prog 93 pk W c l2) := Lib.hid fun W hW => by
            have hmw := M.out.2.2.1.wr ⟨_, _, _, M.out.2.2.2.1⟩ (by omega) hW
            have hcn : NodeAt X W c u := (((M1.out.1.bel hbel.out).pastB ⟨_, _, _, hc8.out⟩ hXd M.out.2.1).offB ⟨_, _, _, M.out.2.2.2.1⟩ |>.fr hW fun k _ e => .inr e).more fun k _ e => .inl e
            obtain ⟨i, hi, hn⟩ := infoU
            exact ⟨hmw.1, keyer_ptr Try.underlying93 hi hn hcn.plain hmw.plain⟩
          have HEF := Lib.hid (fun (W w5 : World) (n' d' : Int) (hf : Fr (fun q => q = w1.heap.size + 1) wr W) (h8 : W.heap[w1.heap.size + 1]? = some (.cells #[.int .i64 n', .int .i64 d'] 159 (0, 0))) (hg : W.grownBy w5 (some dm)) => end_facts (g5 := w.heap.size) hf h8 h5r.out (by omega) (by omega) (by omega) hg)
          have HS8 : Hid (∀ v, (wr.setCell ⟨w1.heap.size + 1, 1, none⟩ (.int .i64 v)).heap[w1.heap.size + 1]? = some (.cells #[.int .i64 nd, .int .i64 v] 159 (0, 0))) := Lib.hid fun v => by simpa using heap_set M.out.2.2.2.1 1 (.int .i64 v)
          have HT8 : Hid (∀ v z, ((wr.setCell ⟨w1.heap.size + 1, 1, none⟩ (.int .i64 v)).setCell ⟨w1.heap.size + 1, 0, none⟩ (.int .i64 z)).heap[w1.heap.size + 1]? = some (.cells #[.int .i64 z, .int .i64 v] 159 (0, 0))) := Lib.hid fun v z => by simpa using heap_set (HS8.out v) 0 (.int .i64 z)
          clear h8 hbnd
          have FIN : Hid (∀ (n' d' : Int) (w5 : World), SizeOk (inst S.σ t) n' d' → Fr (fun q => q = dm ∨ q = w1.heap.size + 1) wr w5 → w5.heap[w.heap.size]? = some (.cells #[.int .i64 0, .int .i64 0] 159 (0, 0)) → KMap pk w5 dm (putL c (szV n' d') l2) →
              MPost X S dm t w (.returned (szV n' d')) ((w5.setCell ⟨w.heap.size, 0, none⟩ (.int .i64 n')).setCell ⟨w.heap.size, 1, none⟩ (.int .i64 d'))) := Lib.hid fun n' d' w5 hso hf h5' hM5 =>
            meas_fin hXd hso HE.out HG.out.sh (((Fr.below M1.out.2).trans (Fr.below hbel.out)).trans M.out.2.1) (by omega) M.out.2.2.1 ⟨_, _, _, M.out.2.2.2.1⟩ ((M1.out.1.bel hbel.out).pastB ⟨_, _, _, hc8.out⟩ hXd M.out.2.1) hf ⟨_, _, _, h5'⟩ hdd hM5
          obtain ⟨d2, hd2⟩ : ∃ d2, wrap64 (d + 1) = d2 := ⟨_, rfl⟩
          have hst : Hid (SizeOk (.mk k n fs tl) (if 50 < fs.length then 10001 else nd) d2) := Lib.hid (by rw [← hd2]; exact hst.out)
          by_cases h50 : 50 < bs5.length
          · have h50' : decide (50 < bs5.length) = true := decide_eq_true h50
            go_wp2_with (refine wpList_putM rfl _ _ _ rfl (HW.out _ (((Fr.refl (fun q => q = w1.heap.size + 1) wr).setCell (p := ⟨w1.heap.size + 1, 1, none⟩) (.inl rfl) _).setCell (p := ⟨w1.heap.size + 1, 0, none⟩) (.inl rfl) _)).1 (HW.out _ (((Fr.refl (fun q => q = w1.heap.size + 1) wr).setCell (p := ⟨w1.heap.size + 1, 1, none⟩) (.inl rfl) _).setCell (p := ⟨w1.heap.size + 1, 0, none⟩) (.inl rfl) _)).2 Try.underlying156 (.agg #[.int .i64 10001, .int .i64 d2]) rfl rfl rfl ?_; intro w5 hM5 hg5; obtain ⟨r0, r1, r2, r3, r4, r5, r6, r7, r8⟩ := HEF.out _ _ _ _ (((Fr.refl (fun q => q = w1.heap.size + 1) wr).setCell (p := ⟨w1.heap.size + 1, 1, none⟩) (.inl rfl) _).setCell (p := ⟨w1.heap.size + 1, 0, none⟩) (.inl rfl) _) (HT8.out _ _) hg5; have Z5 := Lib.hid (And.intro hM5 (And.intro r6 (And.intro r7 r8))); clear hM5 hg5 r6 r7 r8)
            refine bodyPost_ret (v := .agg #[.int .i64 10001, .int .i64 d2]) (by simp [results, Try.results113, go_sem, (two_cells_of Z5.out.2.1).1, (two_cells_of Z5.out.2.1).2]) rfl ?_
            have hso : SizeOk (inst S.σ t) 10001 d2 := by
              have h1 := hst.out
              rw [hfl, if_pos h50] at h1
              rw [HE.out, KC.out.1]
              exact h1
            exact FIN.out _ _ w5 hso Z5.out.2.2.1 Z5.out.2.1 Z5.out.1
          · have h50' : decide (50 < bs5.length) = false := decide_eq_false h50
            go_wp2_with (refine wpList_putM rfl _ _ _ rfl (HW.out _ ((Fr.refl (fun q => q = w1.heap.size + 1) wr).setCell (p := ⟨w1.heap.size + 1, 1, none⟩) (.inl rfl) _)).1 (HW.out _ ((Fr.refl (fun q => q = w1.heap.size + 1) wr).setCell (p := ⟨w1.heap.size + 1, 1, none⟩) (.inl rfl) _)).2 Try.underlying156 (.agg #[.int .i64 nd, .int .i64 d2]) rfl rfl rfl ?_; intro w5 hM5 hg5; obtain ⟨r0, r1, r2, r3, r4, r5, r6, r7, r8⟩ := HEF.out _ _ _ _ ((Fr.refl (fun q => q = w1.heap.size + 1) wr).setCell (p := ⟨w1.heap.size + 1, 1, none⟩) (.inl rfl) _) (HS8.out _) hg5; have Z5 := Lib.hid (And.intro hM5 (And.intro r6 (And.intro r7 r8))); clear hM5 hg5 r6 r7 r8)
            refine bodyPost_ret (v := .agg #[.int .i64 nd, .int .i64 d2]) (by simp [results, Try.results113, go_sem, (two_cells_of Z5.out.2.1).1, (two_cells_of Z5.out.2.1).2]) rfl ?_
            have hso : SizeOk (inst S.σ t) nd d2 := by
              have h1 := hst.out
              rw [hfl, if_neg h50] at h1
              rw [HE.out, KC.out.1]
              exact h1
            exact FIN.out _ _ w5 hso Z5.out.2.2.1 Z5.out.2.1 Z5.out.1


theorem meas_any (X : Nat → Prop) (U : List Lb) (S : Kn) (s m : Nat) (first : Int) (dm c1 c2 c3 : Nat) (hK : KG U S) (hU : U.length ≤ 100000) (hXd : X dm) (hsm : dm ≠ s ∧ dm ≠ m) : ∀ (n : Nat) (t : Ut), tsz (inst S.σ t) ≤ n → MeasAt X U S s m first dm c1 c2 c3 t := by
  intro n
  induction n with
  | zero =>
    intro t ht
    cases h : inst S.σ t with
    | mk k n fs tl =>
      rw [h, tsz_mk] at ht
      omega
  | succ n ih => exact fun t ht => meas_step X U S s m first dm c1 c2 c3 hK hU hXd hsm t fun x _ hx => ih x (by omega)
end Go.Proofs.Ytblfeokjlecgkaa

/- The document's Vars, walked. -/
namespace Go.Proofs.Ytblfeokjlecgkaa
open Go.RowKit

theorem rIsVar_any (k n : Int) (s : ByteArray) (w : World) :
    Calls Try.prog 98 #[.agg #[.int .i64 k, .string s, .int .i64 n]] w fun e w' => e = .returned (.bool (isVarB k)) ∧ Below w.heap.size w w' := by
  unfold isVarB
  cases h8 : (k == 8) <;> cases h9 : (k == 9)
  all_goals
    go_enter Try.func98, Try.ntmps98
    go_wp2_with fail
    go_ret
    exact ⟨by simp, ext_alloc (Below.refl _ _) _⟩


end Go.Proofs.Ytblfeokjlecgkaa
