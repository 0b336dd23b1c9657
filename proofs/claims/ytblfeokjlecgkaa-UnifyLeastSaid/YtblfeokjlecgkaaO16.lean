/- Laid together by a tool from the texts of this seat: UWalkA UMake UOf. Conditions: each theorem's own. -/
import Derived.Test.YtblfeokjlecgkaaO15
import Derived.Test.YtblfeokjlecgkaaO11
import Derived.BigQuiet
import Derived.Deep.RegionHeld3
import Derived.Deep.DeepCutAuto
import Derived.Deep.CutRange
import Derived.Deep.DrawnRows
/- The solver's small functions: New, fresh, isRow, look. -/
namespace Go.Proofs.Ytblfeokjlecgkaa
open Go.RowKit

theorem zeroP (w : World) : (zeroValue 93).run Try.prog w = .ok (.pointer none) w := by kernel_rfl

theorem lookup_kn (w : World) (m : Nat) (l : List (Int × Value)) (n : Int) (h : KMap ik w m l) :
    (Instr.lookup 85 (.map (some m)) (.int .i64 n) false).run Try.prog w = .ok ((atL n l).getD (.pointer none)) w :=
  h.lookup (keyer_int Try.underlying3 n l) Try.underlying85 _ (zeroP w) false

set_option maxHeartbeats 400000 in
theorem uIsRow_any (k : Int) (w : World) :
    Calls Try.prog 102 #[.int .i64 k] w fun e w' => e = .returned (.bool (isRowB k)) ∧ w = w' := by
  go_enter Try.func102, Try.ntmps102
  go_wp2
  all_goals go_ret
  all_goals exact ⟨ret_bool (by simp_all [isRowB]), rfl⟩

/-- A node without anything. -/
def bareNode (k n : Int) : Obj := .cells #[.int .i64 k, .int .i64 n, .slice none 0 0, .slice none 0 0, .pointer none] 105 (0, 0)
def solverOf (first next : Int) (m : Nat) : Obj := .cells #[.int .i64 first, .int .i64 next, .map (some m)] 87 (0, 0)

set_option maxHeartbeats 400000 in
theorem new_any (n : Int) (w : World) :
    Calls Try.prog 17 #[.int .i64 n] w fun e w' => ∃ s m, e = .returned (pk s) ∧ w.heap.size ≤ s ∧ w.heap.size ≤ m ∧ s ≠ m ∧ w'.heap[s]? = some (solverOf n n m) ∧ KMap ik w' m [] ∧ Below w.heap.size w w' := by
  have hmm := @run_makeMap Try.prog
  go_enter Try.func17, Try.ntmps17
  go_wp2_with fail
  go_ret
  refine ⟨w.heap.size + 1, w.heap.size, by simp [pk], by omega, by omega, by omega, ?_, ?_, ?_⟩
  · show ((w.alloc (Obj.map #[] 0)).alloc _).heap[w.heap.size + 1]? = _
    rw [show w.heap.size + 1 = (w.alloc (Obj.map #[] 0)).heap.size by simp]
    exact heap_alloc_new _ _
  · exact ⟨#[], 0, (Below.heap_alloc _ _ _ (by simp)).trans (heap_alloc_new w _), rfl⟩
  · exact ((Below.refl _ _).alloc (Nat.le_refl _) _).alloc (by simp) _

set_option maxHeartbeats 400000 in
theorem ufresh_any (s m : Nat) (first next k : Int) (w : World) (hs : w.heap[s]? = some (solverOf first next m)) (h0 : -9223372036854775808 ≤ next) (h1 : next + 1 ≤ 9223372036854775807) :
    Calls Try.prog 70 #[pk s, .int .i64 k] w fun e w' => ∃ b, e = .returned (pk b) ∧ w.heap.size ≤ b ∧ w'.heap[b]? = some (bareNode k next) ∧
      w'.heap[s]? = some (solverOf first (next + 1) m) ∧ Fr (fun x => x = s) w w' := by
  have c1 : w.cell? ⟨s, 1, none⟩ = some (.int .i64 next) := by simp [World.cell?, hs, solverOf]
  have f1 : w.frozen? ⟨s, 1, none⟩ = false := by simp [World.frozen?, hs, solverOf]
  have hlt : s < w.heap.size := (Array.getElem?_eq_some_iff.1 hs).1
  unfold pk
  go_enter Try.func70, Try.ntmps70
  go_wp2_with fail
  go_ret
  refine ⟨w.heap.size, rfl, Nat.le_refl _, ?_, ?_, ?_⟩
  · have := heap_alloc_new (w.setCell ⟨s, 1, none⟩ (.int .i64 (next + 1))) (bareNode k next)
    simpa [World.setCell, bareNode] using this
  · have h2 : ∀ (W : World) (o : Obj), s < W.heap.size → (W.alloc o).heap[s]? = W.heap[s]? := fun W o h => Below.heap_alloc W o s h
    rw [h2 _ _ (by simpa [World.setCell] using hlt)]
    simp only [World.setCell, Array.getElem?_modify, hs, if_true, Option.map_some, solverOf]
    rfl
  · exact ((Fr.refl (fun x => x = s) w).setCell (p := ⟨s, 1, none⟩) (.inl rfl) _).alloc _

/-- The map's reader: what is known of a number. -/
theorem SolAt.known {X : Nat → Prop} {s m : Nat} {first : Int} {w : World} {S : Kn} (h : SolAt X s m first w S) (n : Int) : ∃ v, (∀ j, (Instr.lookup 85 (.map (some m)) (.int .i64 n) false).run Try.prog (w.drewN j) = .ok v (w.drewN j)) ∧
    match S.κ n with
    | none => v = .pointer none
    | some t => ∃ b, v = pk b ∧ NodeAt X w b t := by
  obtain ⟨h1, _, _, h2, l, h3, h4⟩ := h
  refine ⟨_, fun j => lookup_kn (w.drewN j) m l n h3, ?_⟩
  have := h4 n
  cases hk : S.κ n with
  | none => rw [hk] at this; simp only [this]; rfl
  | some t =>
    rw [hk] at this
    obtain ⟨b, e, hn⟩ := this
    exact ⟨b, by simp only [e]; rfl, hn⟩

theorem NodeAt.cells {X : Nat → Prop} {w : World} {b : Nat} {t : Ut} (h : NodeAt X w b t) : w.cell? ⟨b, 0, none⟩ = some (.int .i64 t.k) ∧ w.cell? ⟨b, 1, none⟩ = some (.int .i64 t.n) := by
  cases h with
  | mk _ k n fs tl A B ls bs ca cb tv hx hb => exact ⟨by simp [World.cell?, hb, Ut.k], by simp [World.cell?, hb, Ut.n]⟩

theorem SolAt.cell {X : Nat → Prop} {s m : Nat} {first : Int} {w : World} {S : Kn} (h : SolAt X s m first w S) : w.cell? ⟨s, 2, none⟩ = some (.map (some m)) ∧ w.cell? ⟨s, 1, none⟩ = some (.int .i64 S.m) ∧ w.cell? ⟨s, 0, none⟩ = some (.int .i64 first) := by
  simp [World.cell?, h.st]

def muLook (r : Int → Nat) (v : Value) (w : World) : Nat := match v with
  | .pointer (some a) => (match w.cell? ⟨a.block, 0, none⟩, w.cell? ⟨a.block, 1, none⟩ with
    | some (.int _ k), some (.int _ n) => if k = 8 then r n else 0
    | _, _ => 0)
  | _ => 0

theorem muLook_node {X : Nat → Prop} {w : World} {b : Nat} {t : Ut} (h : NodeAt X w b t) (r : Int → Nat) : muLook r (.pointer (some ⟨b, 0, none⟩)) w = if t.k = 8 then r t.n else 0 := by
  obtain ⟨h1, h2⟩ := h.cells
  simp [muLook, h1, h2]

theorem SolAt.bel {X : Nat → Prop} {s m : Nat} {first : Int} {w w' : World} {S : Kn} (h : SolAt X s m first w S) (hb : Below w.heap.size w w') : SolAt X s m first w' S := h.fr (Fr.below (X := fun _ => False) hb) fun _ _ e => e.elim
theorem NodeAt.bel {X : Nat → Prop} {w w' : World} {b : Nat} {t : Ut} (h : NodeAt X w b t) (hb : Below w.heap.size w w') : NodeAt X w' b t := h.fr (Fr.below (X := fun _ => False) hb) fun _ _ e => e.elim

set_option maxHeartbeats 1000000 in
theorem look_any (X : Nat → Prop) (s m : Nat) (first : Int) (w : World) (S : Kn) (hS : SolAt X s m first w S) (hR : S.Rk) (b : Nat) (t u : Ut) (hb : NodeAt X w b t) (hl : Looks S t u) :
    Calls Try.prog 101 #[pk s, pk b] w fun e w' => ∃ c, e = .returned (pk c) ∧ NodeAt X w' c u ∧ Below w.heap.size w w' := by
  obtain ⟨r, _, hr2⟩ := hR
  have HR := Lib.hid hr2
  have HM := Lib.hid (And.intro hb (And.intro hS (And.intro hl (Below.refl w.heap.size w))))
  clear hS hb hl hr2
  unfold pk
  go_enter Try.func101, Try.ntmps101
  go_wp2_with fail
  go_loopw [1] (fun s1 wr => ∃ (c : Nat) (x : Ut), s1 = .pointer (some ⟨c, 0, none⟩) ∧ Hid (NodeAt X wr c x ∧ SolAt X s m first wr S ∧ Looks S x u ∧ Below w.heap.size w wr)) (fun s1 wr => muLook r s1 wr)
  case atStart => exact ⟨b, t, rfl, HM⟩
  case round =>
    obtain ⟨c, x, rfl, M⟩ := hrel
    obtain ⟨c0, c1⟩ := M.out.1.cells
    obtain ⟨s2, _, _⟩ := M.out.2.1.cell
    obtain ⟨v, hv, hv2⟩ := M.out.2.1.known x.n
    have HV := Lib.hid hv2
    clear HM hv2
    by_cases h8 : x.k = 8
    · have H8 := Lib.hid h8
      have hd : decide (x.k = 8) = true := by simp [h8]
      have hq : (x.k == 8) = true := by simp [h8]
      clear h8
      cases hk : S.κ x.n with
      | none =>
        have hvn : v = .pointer none := by have := HV.out; rw [hk] at this; exact this
        subst hvn
        go_wp2_with fail
        go_quiet (fail)
        go_wp2_with fail
        go_ret
        have hxu : x = u := by
          cases M.out.2.2.1 with
          | here => rfl
          | more _ s _ _ hk2 _ => rw [hk] at hk2; cases hk2
        subst hxu
        exact ⟨c, rfl, M.out.1.bel (below_drewN (Below.refl _ _) _), ext_drewN M.out.2.2.2 _⟩
      | some y =>
        have hy : ∃ d, v = pk d ∧ NodeAt X wr d y := by have := HV.out; rw [hk] at this; exact this
        obtain ⟨d, rfl, hd2⟩ := hy
        have hyu : Looks S y u := by
          cases M.out.2.2.1 with
          | here _ hn => rw [hn H8.out] at hk; cases hk
          | more _ s _ _ hk2 hl2 => rw [hk] at hk2; injection hk2 with e; subst e; exact hl2
        have M2 := Lib.hid (And.intro hd2 (And.intro M.out.2.1 (And.intro hyu M.out.2.2.2)))
        have hlt := Lib.hid (show (if y.k = 8 then r y.n else 0) < r x.n by
          obtain ⟨z1, z2, _⟩ := HR.out x.n y hk
          split
          · next h => exact z2 h
          · exact z1)
        have HC := Lib.hid M.out.1
        clear hd2 hyu HV hk
        unfold pk at hv
        go_wp2_with fail
        go_quiet (fail)
        go_wp2_with fail
        go_quiet (fail)
        go_wp2_with fail
        go_roundw
        case rel => exact ⟨d, y, rfl, Lib.hid ⟨(M2.out.1.bel (below_drewN (Below.refl _ _) _)).bel (below_drewN (Below.refl _ _) _), (M2.out.2.1.bel (below_drewN (Below.refl _ _) _)).bel (below_drewN (Below.refl _ _) _), M2.out.2.2.1, ext_drewN (ext_drewN M2.out.2.2.2 _) _⟩⟩
        case measure =>
          show muLook r (.pointer (some ⟨d, 0, none⟩)) ((wr.drewN _).drewN _) < muLook r (.pointer (some ⟨c, 0, none⟩)) wr
          rw [muLook_node ((M2.out.1.bel (below_drewN (Below.refl _ _) _)).bel (below_drewN (Below.refl _ _) _)), muLook_node HC.out, if_pos H8.out]
          exact hlt.out
    · have hd : decide (x.k = 8) = false := by simp [h8]
      have hq : (x.k == 8) = false := by simp [h8]
      have H8 := Lib.hid h8
      clear h8 hv
      go_wp2_with fail
      go_quiet (fail)
      go_wp2_with fail
      go_ret
      have hxu : x = u := by
        cases M.out.2.2.1 with
        | here => rfl
        | more _ s _ h8 hk2 _ => exact absurd h8 H8.out
      subst hxu
      exact ⟨c, rfl, M.out.1.bel (below_drewN (Below.refl _ _) _), ext_drewN M.out.2.2.2 _⟩
end Go.Proofs.Ytblfeokjlecgkaa

/- Nodes that are being made: their labels and children grow. -/
namespace Go.Proofs.Ytblfeokjlecgkaa
open Go.RowKit

/-- A node whose children grow, in a slice of its own. -/
structure NodeK (base g : Nat) (k n : Int) (lv : Value) (B : Option Addr) (cb : Nat) (bs : List Nat) (tv : Value) (w : World) : Prop where
  lo : base ≤ g
  blk : w.heap[g]? = some (.cells #[.int .i64 k, .int .i64 n, lv, .slice B bs.length cb, tv] 105 (0, 0))
  kb : OwnL 93 1 encB w base B cb bs
  gb : ∀ a, B = some a → a.block ≠ g

theorem setCell_grown (w : World) (p : Addr) (u : Value) : w.grownBy (w.setCell p u) (some p.block) :=
  ⟨rfl, rfl, rfl, by simp [World.setCell], fun k _ hne => Below.heap_setCell _ _ _ _ fun e => hne (by rw [e])⟩

theorem heap_set {w : World} {g : Nat} {cs : Array Value} {t : TypeId} (h : w.heap[g]? = some (.cells cs t (0, 0))) (i : Nat) (u : Value) : (w.setCell ⟨g, i, none⟩ u).heap[g]? = some (.cells (cs.setIfInBounds i u) t (0, 0)) := by
  simp only [World.setCell, Array.getElem?_modify, h, if_true, Option.map_some]
  simp

section
variable {base g : Nat} {k n : Int} {lv tv : Value} {B : Option Addr} {cb : Nat} {bs : List Nat} {w w' : World} {Y : Nat → Prop}

theorem OwnL.fr {α : Type} {enc : α → List Value} {e size cap : Nat} {A : Option Addr} {l : List α} (h : OwnL e size enc w base A cap l) (hf : Fr Y w w') (hY : ∀ b, Y b → b < base) : OwnL e size enc w' base A cap l := by
  cases A with
  | none =>
    rcases h.2 with ⟨hv, hn⟩ | ⟨g, cap', cur, hv, _⟩
    · have hl : l = [] := List.eq_nil_of_length_eq_zero hn
      subst hl
      injection hv with _ _ hc
      subst hc
      exact OwnL.nil
    · cases hv
  | some a =>
    rcases h.2 with ⟨hv, hn⟩ | ⟨g, cap', cur, hv, hbg, hg, hr⟩
    · cases hv
    · have hlt : g < w.heap.size := (Array.getElem?_eq_some_iff.1 hg).1
      exact ⟨h.1, .inr ⟨g, cap', cur, hv, hbg, (hf.block g hlt fun e => by have := hY g e; omega).trans hg, hr⟩⟩

theorem NodeK.step (h : NodeK base g k n lv B cb bs tv w) (hf : Fr Y w w') (hY : ∀ b, Y b → b < base) : NodeK base g k n lv B cb bs tv w' := by
  have hlt : g < w.heap.size := (Array.getElem?_eq_some_iff.1 h.blk).1
  exact ⟨h.lo, (hf.block g hlt fun e => by have := hY g e; have := h.lo; omega).trans h.blk, h.kb.fr hf hY, h.gb⟩

theorem NodeK.push {x cb' : Nat} {B' : Option Addr} (h : NodeK base g k n lv B cb bs tv w) (hown : OwnL 93 1 encB w' base B' cb' (bs ++ [x])) (hg : w.grownBy w' ((Value.slice B bs.length cb).ownBlock))
    (hA : (Value.slice B' (bs.length + 1) cb').ownBlock = (Value.slice B bs.length cb).ownBlock ∨ (Value.slice B' (bs.length + 1) cb').ownBlock = some w.heap.size) :
    NodeK base g k n lv B' cb' (bs ++ [x]) tv (w'.setCell ⟨g, 3, none⟩ (.slice B' (bs.length + 1) cb')) := by
  have hlt : g < w.heap.size := (Array.getElem?_eq_some_iff.1 h.blk).1
  have hne : ∀ a, B' = some a → a.block ≠ g := by
    rintro a rfl
    simp only [Value.ownBlock] at hA
    rcases hA with e | e
    · obtain ⟨a2, rfl, e2⟩ := ownBlock_of e.symm
      rw [← e2]
      exact h.gb a2 rfl
    · injection e with e
      omega
  have hb : w'.heap[g]? = w.heap[g]? := hg.block g hlt fun e => by
    obtain ⟨a2, rfl, e2⟩ := ownBlock_of e.symm
    exact h.gb a2 rfl e2
  refine ⟨h.lo, ?_, hown.kept (setCell_grown w' ⟨g, 3, none⟩ _) (fun q hq a ha => by injection hq with hq; subst hq; exact hne a ha), hne⟩
  rw [heap_set (hb.trans h.blk)]
  simp

theorem NodeK.setTail (h : NodeK base g k n lv B cb bs tv w) (v : Value) : NodeK base g k n lv B cb bs v (w.setCell ⟨g, 4, none⟩ v) := by
  refine ⟨h.lo, ?_, h.kb.kept (setCell_grown w ⟨g, 4, none⟩ _) (fun q hq a ha => by injection hq with hq; subst hq; exact h.gb a ha), h.gb⟩
  rw [heap_set h.blk]
  simp

theorem NodeK.cells (h : NodeK base g k n lv B cb bs tv w) : w.cell? ⟨g, 0, none⟩ = some (.int .i64 k) ∧ w.cell? ⟨g, 1, none⟩ = some (.int .i64 n) ∧ w.cell? ⟨g, 2, none⟩ = some lv ∧ w.cell? ⟨g, 3, none⟩ = some (.slice B bs.length cb) ∧
    w.frozen? ⟨g, 1, none⟩ = false ∧ w.frozen? ⟨g, 2, none⟩ = false ∧ w.frozen? ⟨g, 3, none⟩ = false ∧ w.frozen? ⟨g, 4, none⟩ = false := by
  simp [World.cell?, World.frozen?, h.blk]
end

/-- A node whose labels grow, too. -/
structure NodeM (base g : Nat) (k n : Int) (A : Option Addr) (ca : Nat) (ls : List ByteArray) (B : Option Addr) (cb : Nat) (bs : List Nat) (tv : Value) (w : World) : Prop where
  nk : NodeK base g k n (.slice A ls.length ca) B cb bs tv w
  la : OwnL 9 1 encL w base A ca ls
  ga : ∀ a, A = some a → a.block ≠ g
  ab : ∀ a b, A = some a → B = some b → a.block ≠ b.block

section
variable {base g : Nat} {k n : Int} {tv : Value} {A B : Option Addr} {ca cb : Nat} {ls : List ByteArray} {bs : List Nat} {w w' : World} {Y : Nat → Prop}

theorem NodeM.start (w : World) (k n : Int) (tv : Value) (base : Nat) (hb : base ≤ w.heap.size) : NodeM base w.heap.size k n none 0 [] none 0 [] tv (w.alloc (.cells #[.int .i64 k, .int .i64 n, .slice none 0 0, .slice none 0 0, tv] 105 (0, 0))) :=
  ⟨⟨hb, heap_alloc_new w _, OwnL.nil, fun _ e => by cases e⟩, OwnL.nil, (fun _ e => by cases e), fun _ _ e => by cases e⟩

theorem NodeM.step (h : NodeM base g k n A ca ls B cb bs tv w) (hf : Fr Y w w') (hY : ∀ b, Y b → b < base) : NodeM base g k n A ca ls B cb bs tv w' :=
  ⟨h.nk.step hf hY, h.la.fr hf hY, h.ga, h.ab⟩

theorem NodeM.pushK {x cb' : Nat} {B' : Option Addr} (h : NodeM base g k n A ca ls B cb bs tv w) (hown : OwnL 93 1 encB w' base B' cb' (bs ++ [x])) (hg : w.grownBy w' ((Value.slice B bs.length cb).ownBlock))
    (hA : (Value.slice B' (bs.length + 1) cb').ownBlock = (Value.slice B bs.length cb).ownBlock ∨ (Value.slice B' (bs.length + 1) cb').ownBlock = some w.heap.size) :
    NodeM base g k n A ca ls B' cb' (bs ++ [x]) tv (w'.setCell ⟨g, 3, none⟩ (.slice B' (bs.length + 1) cb')) := by
  refine ⟨h.nk.push hown hg hA, ?_, h.ga, ?_⟩
  · have h1 : OwnL 9 1 encL w' base A ca ls := h.la.kept hg fun q hq a ha => by
      obtain ⟨a2, e1, e2⟩ := ownBlock_of hq
      rw [← e2]
      exact h.ab a a2 ha e1
    exact h1.kept (setCell_grown w' ⟨g, 3, none⟩ _) (fun q hq a ha => by injection hq with hq; subst hq; exact h.ga a ha)
  · rintro a b rfl rfl
    simp only [Value.ownBlock] at hA
    rcases hA with e | e
    · obtain ⟨a2, rfl, e2⟩ := ownBlock_of e.symm
      rw [← e2]
      exact h.ab a a2 rfl rfl
    · injection e with e
      have := (h.la.block a.block rfl).2
      omega

theorem NodeM.pushL {x : ByteArray} {ca' : Nat} {A' : Option Addr} (h : NodeM base g k n A ca ls B cb bs tv w) (hown : OwnL 9 1 encL w' base A' ca' (ls ++ [x])) (hg : w.grownBy w' ((Value.slice A ls.length ca).ownBlock))
    (hA : (Value.slice A' (ls.length + 1) ca').ownBlock = (Value.slice A ls.length ca).ownBlock ∨ (Value.slice A' (ls.length + 1) ca').ownBlock = some w.heap.size) :
    NodeM base g k n A' ca' (ls ++ [x]) B cb bs tv (w'.setCell ⟨g, 2, none⟩ (.slice A' (ls.length + 1) ca')) := by
  have hlt : g < w.heap.size := (Array.getElem?_eq_some_iff.1 h.nk.blk).1
  have hne : ∀ a, A' = some a → a.block ≠ g := by
    rintro a rfl
    simp only [Value.ownBlock] at hA
    rcases hA with e | e
    · obtain ⟨a2, rfl, e2⟩ := ownBlock_of e.symm
      rw [← e2]
      exact h.ga a2 rfl
    · injection e with e
      omega
  have hb : w'.heap[g]? = w.heap[g]? := hg.block g hlt fun e => by
    obtain ⟨a2, rfl, e2⟩ := ownBlock_of e.symm
    exact h.ga a2 rfl e2
  have h1 : OwnL 93 1 encB w' base B cb bs := h.nk.kb.kept hg fun q hq b hb => by
    obtain ⟨a2, e1, e2⟩ := ownBlock_of hq
    rw [← e2]
    exact fun e => h.ab a2 b e1 hb e.symm
  refine ⟨⟨h.nk.lo, ?_, h1.kept (setCell_grown w' ⟨g, 2, none⟩ _) (fun q hq a ha => by injection hq with hq; subst hq; exact h.nk.gb a ha), h.nk.gb⟩, hown.kept (setCell_grown w' ⟨g, 2, none⟩ _) (fun q hq a ha => by injection hq with hq; subst hq; exact hne a ha), hne, ?_⟩
  · rw [heap_set (hb.trans h.nk.blk)]
    simp
  · rintro a b rfl rfl
    simp only [Value.ownBlock] at hA
    rcases hA with e | e
    · obtain ⟨a2, rfl, e2⟩ := ownBlock_of e.symm
      rw [← e2]
      exact h.ab a2 b rfl rfl
    · injection e with e
      have := (h.nk.kb.block b.block rfl).2
      omega

/-- It is whole. -/
theorem NodeM.node {X : Nat → Prop} {fs : Fl} {tl : Option Int} (h : NodeM base g k n A ca ls B cb bs tv w) (hX : ∀ b, X b → b < base) (hl : ls = labsF fs) (hlen : bs.length = fs.length) (hk : ∀ (i : Nat) (p : Lb × Ut) (c : Nat), fs[i]? = some p → bs[i]? = some c → NodeAt X w c p.2) (ht : TailAt X w tv tl) : NodeAt X w g (.mk k n fs tl) := by
  have hn : ∀ q, base ≤ q → q < w.heap.size → ¬ X q := fun q hq _ hx => by have := hX q hx; omega
  have hll : ls.length = bs.length := by rw [hl, hlen]; simp [labsF]
  refine .mk g k n fs tl A B ls bs ca cb tv (fun hx => by have := hX g hx; have := h.nk.lo; omega) h.nk.blk hll (fun _ => hl) (Lies.of_own encL_len h.la hn) (Lies.of_own encB_len h.nk.kb hn) hlen hk ht
end

/-! ### Children that were made stand while their node grows -/

def KidX (X : Nat → Prop) (g : Nat) (A B : Option Addr) : Nat → Prop := fun x => X x ∨ x = g ∨ (∃ a, A = some a ∧ a.block = x) ∨ ∃ a, B = some a ∧ a.block = x

section
variable {X : Nat → Prop} {g c o n n' cb cb' : Nat} {A B B' : Option Addr} {W w2 : World} {t : Ut} {v : Value}

theorem own_block_some {a : Addr} {cb n : Nat} : (Value.slice (some a) n cb).ownBlock = some a.block := rfl

theorem kid_two {Z : Nat → Prop} (h : NodeAt (fun x => Z x ∨ ∃ a, B = some a ∧ a.block = x) W c t) (hZ : Z g) (hg : W.grownBy w2 ((Value.slice B n cb).ownBlock))
    (hA : (Value.slice B' n' cb').ownBlock = (Value.slice B n cb).ownBlock ∨ (Value.slice B' n' cb').ownBlock = some W.heap.size) (v : Value) : NodeAt (fun x => Z x ∨ ∃ a, B' = some a ∧ a.block = x) (w2.setCell ⟨g, o, none⟩ v) c t := by
  have hb : ∀ a, B' = some a → (∃ a2, B = some a2 ∧ a2.block = a.block) ∨ a.block = W.heap.size := by
    rintro a rfl
    rcases hA with e | e
    · exact .inl (ownBlock_of e.symm)
    · rw [own_block_some] at e
      injection e with e
      exact .inr e
  have h1 : NodeAt (fun x => (Z x ∨ ∃ a, B = some a ∧ a.block = x) ∨ ∃ a, B' = some a ∧ a.block = x) W c t := h.more fun k hk hx => by
    rcases hx with hx | ⟨a, ha, rfl⟩
    · exact hx
    · rcases hb a ha with e | e
      · exact .inr e
      · omega
  have h2 := h1.fr (Fr.grown (X := fun x => (Value.slice B n cb).ownBlock = some x) hg fun k hk => hk) fun k _ hk => by
    obtain ⟨a, h3, h4⟩ := ownBlock_of hk
    exact .inl (.inr ⟨a, h3, h4⟩)
  have h3 := h2.fr ((Fr.refl (fun x => x = g) w2).setCell (p := ⟨g, o, none⟩) (.inl rfl) v) fun k _ hk => by
    subst hk
    exact .inl (.inl hZ)
  exact h3.more fun k _ hx => by
    rcases hx with hx | hx
    · exact .inl (.inl hx)
    · exact .inr hx

/-- The children's row grows. -/
theorem kidX_B (h : NodeAt (KidX X g A B) W c t) (hg : W.grownBy w2 ((Value.slice B n cb).ownBlock))
    (hA : (Value.slice B' n' cb').ownBlock = (Value.slice B n cb).ownBlock ∨ (Value.slice B' n' cb').ownBlock = some W.heap.size) (v : Value) : NodeAt (KidX X g A B') (w2.setCell ⟨g, o, none⟩ v) c t := by
  have h1 : NodeAt (fun x => (X x ∨ x = g ∨ ∃ a, A = some a ∧ a.block = x) ∨ ∃ a, B = some a ∧ a.block = x) W c t := h.more fun k _ hx => by
    rcases hx with (hx | hx | hx) | hx
    · exact .inl hx
    · exact .inr (.inl hx)
    · exact .inr (.inr (.inl hx))
    · exact .inr (.inr (.inr hx))
  exact (kid_two (o := o) h1 (.inr (.inl rfl)) hg hA v).more fun k _ hx => by
    rcases hx with hx | hx | hx | hx
    · exact .inl (.inl hx)
    · exact .inl (.inr (.inl hx))
    · exact .inl (.inr (.inr hx))
    · exact .inr hx

/-- The labels' row grows. -/
theorem kidX_A {A' : Option Addr} (h : NodeAt (KidX X g A B) W c t) (hg : W.grownBy w2 ((Value.slice A n cb).ownBlock))
    (hA : (Value.slice A' n' cb').ownBlock = (Value.slice A n cb).ownBlock ∨ (Value.slice A' n' cb').ownBlock = some W.heap.size) (v : Value) : NodeAt (KidX X g A' B) (w2.setCell ⟨g, o, none⟩ v) c t := by
  have h1 : NodeAt (fun x => (X x ∨ x = g ∨ ∃ a, B = some a ∧ a.block = x) ∨ ∃ a, A = some a ∧ a.block = x) W c t := h.more fun k _ hx => by
    rcases hx with (hx | hx | hx) | hx
    · exact .inl hx
    · exact .inr (.inl hx)
    · exact .inr (.inr (.inr hx))
    · exact .inr (.inr (.inl hx))
  exact (kid_two (o := o) h1 (.inr (.inl rfl)) hg hA v).more fun k _ hx => by
    rcases hx with hx | hx | hx | hx
    · exact .inl (.inl hx)
    · exact .inl (.inr (.inl hx))
    · exact .inr hx
    · exact .inl (.inr (.inr hx))

theorem kidX_sub (h : NodeAt (KidX X g A B) W c t) : NodeAt X W c t := h.more fun _ _ hx => .inl hx
end

theorem NodeK.kid {base g : Nat} {k n : Int} {lv tv : Value} {B : Option Addr} {cb : Nat} {bs : List Nat} {w w' : World} (h : NodeK base g k n lv B cb bs tv w) (hg : w.grownBy w' ((Value.slice B bs.length cb).ownBlock)) : w'.heap[g]? = w.heap[g]? := by
  have hlt : g < w.heap.size := (Array.getElem?_eq_some_iff.1 h.blk).1
  exact hg.block g hlt fun e => by
    obtain ⟨a2, rfl, e2⟩ := ownBlock_of e.symm
    exact h.gb a2 rfl e2

/-- Blocks from base on that a node in the making has. -/
theorem NodeK.kx {X : Nat → Prop} {base g : Nat} {k n : Int} {lv tv : Value} {B : Option Addr} {cb : Nat} {bs : List Nat} {w : World} (h : NodeK base g k n lv B cb bs tv w) {x : Nat} (hx : KidX X g none B x) : X x ∨ (base ≤ x ∧ x < w.heap.size) := by
  rcases hx with hx | rfl | ⟨a, ha, _⟩ | ⟨a, rfl, rfl⟩
  · exact .inl hx
  · exact .inr ⟨h.lo, (Array.getElem?_eq_some_iff.1 h.blk).1⟩
  · cases ha
  · exact .inr (h.kb.block a.block rfl)
end Go.Proofs.Ytblfeokjlecgkaa

/- unify.of: a row of children, and a tail. -/
namespace Go.Proofs.Ytblfeokjlecgkaa
open Go.RowKit

attribute [local go_sem ↓] Go.wp_at_zero Go.wp_at_succ

theorem infoB : (Try.prog.info? 93).map (fun i => (i.zero, i.size, i.bytes)) = some (some (.pointer none), 1, 8) := by kernel_rfl
theorem infoStr : (Try.prog.info? 9).map (fun i => (i.zero, i.size, i.bytes)) = some (some (.string ByteArray.empty), 1, 16) := by kernel_rfl

theorem readL_new {α : Type} {enc : α → List Value} (w : World) (x : α) (u : Value) (t : TypeId) (he : enc x = [u]) : ReadL 1 enc (w.alloc (.cells #[u] t)) (w.heap.size + 1) (some ⟨w.heap.size, 0, none⟩) [x] := fun _ => by
  refine ⟨w.heap.size, 0, rfl, by omega, fun i y hi j v hj => ?_⟩
  cases i with
  | succ i => simp at hi
  | zero =>
    simp only [List.getElem?_cons_zero, Option.some.injEq] at hi
    subst hi
    rw [he] at hj
    cases j with
    | succ j => simp at hj
    | zero =>
      simp only [List.getElem?_cons_zero, Option.some.injEq] at hj
      subst hj
      show (w.alloc (.cells #[u] t)).cell? ⟨w.heap.size, 0 + 0 * 1 + 0, none⟩ = some u
      simp only [World.cell?, heap_alloc_new]
      rfl

theorem step_appB {w : World} {ops : Array Oper} {o : Oper} {a : Act} {K : Act → World → Prop} {Q : Exit → Act → World → Prop} {E : Prop} (hgd : o.guard = none) (s x : Operand)
    (ho : o.op = .call { callee := .builtin .append, args := #[s, x], argTypes := #[103, 103] })
    (base : Nat) {A : Option Addr} {cap : Nat} {l : List Nat} (hs : a.eval s = .slice A l.length cap) (hown : OwnL 93 1 encB w base A cap l) {B : Nat} {A2 : Option Addr} {c : Nat} {l2 : List Nat} (hx : a.eval x = .slice A2 l2.length c) (hr : ReadL 1 encB w B A2 l2)
    (hlen : l.length + l2.length ≤ 1000000000000) (hbase : base ≤ w.heap.size)
    (h : ∀ A' cap' w', OwnL 93 1 encB w' base A' cap' (l ++ l2) → w.grownBy w' ((Value.slice A l.length cap).ownBlock) →
      ((Value.slice A' (l.length + l2.length) cap').ownBlock = (Value.slice A l.length cap).ownBlock ∨ (Value.slice A' (l.length + l2.length) cap').ownBlock = some w.heap.size) → K (a.put o.dst (.slice A' (l.length + l2.length) cap')) w') : if Region.wanted o (yielded ops a.tmps) = true then Oper.wp Try.prog o a w K Q else E := by
  obtain ⟨i0, hi, hz0, hz1, hz2⟩ := info_parts infoB
  have hw : Region.wanted o (yielded ops a.tmps) = true := by simp [Region.wanted, hgd]
  rw [if_pos hw]
  exact wp_app w encB_len encB_one s x 103 ho base 93 i0 _ 8 Try.underlying103 hi hz0 hz1 hz2 rfl (by decide) hs hown hx hr (by unfold maxLen; omega) (by omega) hbase h

theorem step_appL {w : World} {ops : Array Oper} {o : Oper} {a : Act} {K : Act → World → Prop} {Q : Exit → Act → World → Prop} {E : Prop} (hgd : o.guard = none) (s x : Operand)
    (ho : o.op = .call { callee := .builtin .append, args := #[s, x], argTypes := #[95, 95] })
    (base : Nat) {A : Option Addr} {cap : Nat} {l : List ByteArray} (hs : a.eval s = .slice A l.length cap) (hown : OwnL 9 1 encL w base A cap l) {B : Nat} {A2 : Option Addr} {c : Nat} {l2 : List ByteArray} (hx : a.eval x = .slice A2 l2.length c) (hr : ReadL 1 encL w B A2 l2)
    (hlen : l.length + l2.length ≤ 1000000000000) (hbase : base ≤ w.heap.size)
    (h : ∀ A' cap' w', OwnL 9 1 encL w' base A' cap' (l ++ l2) → w.grownBy w' ((Value.slice A l.length cap).ownBlock) →
      ((Value.slice A' (l.length + l2.length) cap').ownBlock = (Value.slice A l.length cap).ownBlock ∨ (Value.slice A' (l.length + l2.length) cap').ownBlock = some w.heap.size) → K (a.put o.dst (.slice A' (l.length + l2.length) cap')) w') : if Region.wanted o (yielded ops a.tmps) = true then Oper.wp Try.prog o a w K Q else E := by
  obtain ⟨i0, hi, hz0, hz1, hz2⟩ := info_parts infoStr
  have hw : Region.wanted o (yielded ops a.tmps) = true := by simp [Region.wanted, hgd]
  rw [if_pos hw]
  exact wp_app w encL_len encL_one s x 95 ho base 9 i0 _ 16 Try.underlying95 hi hz0 hz1 hz2 rfl (by decide) hs hown hx hr (by unfold maxLen; omega) (by omega) hbase h

theorem ReadL.child {w : World} {B : Nat} {A : Option Addr} {l : List (ByteArray × Nat)} (h : ReadL 2 encC w B A l) {i : Nat} {c : ByteArray × Nat} (hn : l[i]? = some c) :
    ∃ b o, A = some ⟨b, o, none⟩ ∧ b < B ∧ w.cell? ⟨b, o + i * 2, none⟩ = some (.string c.1) ∧ w.cell? ⟨b, o + i * 2 + 1, none⟩ = some (.pointer (some ⟨c.2, 0, none⟩)) := by
  obtain ⟨b, o, e, hb, hr⟩ := h (by rintro rfl; simp at hn)
  exact ⟨b, o, e, hb, hr i c hn 0 _ rfl, hr i c hn 1 _ rfl⟩

theorem NodeM.lab {base g : Nat} {k n : Int} {tv : Value} {A B : Option Addr} {ca cb : Nat} {ls : List ByteArray} {bs : List Nat} {w w' : World} (h : NodeM base g k n A ca ls B cb bs tv w) (hg : w.grownBy w' ((Value.slice A ls.length ca).ownBlock)) : w'.heap[g]? = w.heap[g]? := by
  have hlt : g < w.heap.size := (Array.getElem?_eq_some_iff.1 h.nk.blk).1
  exact hg.block g hlt fun e => by
    obtain ⟨a2, rfl, e2⟩ := ownBlock_of e.symm
    exact h.ga a2 rfl e2

theorem NodeM.kid {base g : Nat} {k n : Int} {tv : Value} {A B : Option Addr} {ca cb : Nat} {ls : List ByteArray} {bs : List Nat} {w w' : World} (h : NodeM base g k n A ca ls B cb bs tv w) (hg : w.grownBy w' ((Value.slice B bs.length cb).ownBlock)) : w'.heap[g]? = w.heap[g]? := by
  have hlt : g < w.heap.size := (Array.getElem?_eq_some_iff.1 h.nk.blk).1
  exact hg.block g hlt fun e => by
    obtain ⟨a2, rfl, e2⟩ := ownBlock_of e.symm
    exact h.nk.gb a2 rfl e2

/-- What region 5 of 'of' reads. -/
def SL (g x : Nat) (A : Option Addr) (n ca : Nat) (c : ByteArray × Nat) (v : World) : Prop :=
  v.cell? ⟨g, 2, none⟩ = some (.slice A n ca) ∧ v.frozen? ⟨g, 2, none⟩ = false ∧ v.cell? ⟨x, 0, none⟩ = some (.string c.1)

theorem SL.of {g x : Nat} {A : Option Addr} {n ca : Nat} {c : ByteArray × Nat} {w v : World} (h : SL g x A n ca c w) (hg : v.heap[g]? = w.heap[g]?) (hx : v.heap[x]? = w.heap[x]?) : SL g x A n ca c v :=
  ⟨(World.cell?_of_block (w := w) hg).trans h.1, (World.frozen?_of_block (w := w) hg).trans h.2.1, (World.cell?_of_block (w := w) hx).trans h.2.2⟩

theorem SL.bel {g x : Nat} {A : Option Addr} {n ca : Nat} {c : ByteArray × Nat} {w v : World} (h : SL g x A n ca c w) (hb : Below w.heap.size w v) (hg : g < w.heap.size) (hx : x < w.heap.size) : SL g x A n ca c v := h.of (hb.block g hg) (hb.block x hx)

set_option maxHeartbeats 1000000 in
theorem of_any (kind : Int) (C : Option Addr) (cc : Nat) (cl : List (ByteArray × Nat)) (tv : Value) (ht : (∃ a, tv = .pointer a)) (w : World) (hC : ReadL 2 encC w w.heap.size C cl) (hl : cl.length ≤ 1000000) :
    Calls Try.prog 179 #[.int .i64 kind, .slice C cl.length cc, tv] w fun e w' => ∃ g A ca B cb, e = .returned (pk g) ∧ NodeM w.heap.size g kind 0 A ca (cl.map (·.1)) B cb (cl.map (·.2)) tv w' ∧ Below w.heap.size w w' := by
  obtain ⟨ta, rfl⟩ := ht
  have HC := Lib.hid hC
  clear hC
  unfold pk
  have M0 := Lib.hid (NodeM.start w kind 0 (.pointer ta) w.heap.size (Nat.le_refl _))
  go_enter Try.func179, Try.ntmps179
  go_wp2_with fail
  go_loopw [16] (fun s16 wr => ∃ (i : Nat) (A : Option Addr) (ca : Nat) (B : Option Addr) (cb : Nat), s16 = .int .i64 i ∧ i ≤ cl.length ∧ Hid (NodeM w.heap.size w.heap.size kind 0 A ca ((cl.take i).map (·.1)) B cb ((cl.take i).map (·.2)) (.pointer ta) wr ∧ Below w.heap.size w wr)) (fun s16 _ => cl.length - (intOf s16).toNat)
  case atStart => exact ⟨0, none, 0, none, 0, rfl, Nat.zero_le _, Lib.hid ⟨M0.out, (Below.refl _ _).alloc (Nat.le_refl _) _⟩⟩
  case round =>
    obtain ⟨i, A, ca, B, cb, rfl, hi, M⟩ := hrel
    clear M0
    by_cases hp : i < cl.length
    · obtain ⟨c, hc⟩ := getq_ex hp
      obtain ⟨b, o, rfl, hb, k0, k1⟩ := ReadL.child (HC.out.below M.out.2) hc
      have ht1 : cl.take (i + 1) = cl.take i ++ [c] := by rw [List.take_add_one, hc]; rfl
      have Ht1 := Lib.hid ht1
      have hlen : (List.map (fun x => x.1) (cl.take i)).length ≤ 1000000 := by simp; omega
      have hlenB : (List.map (fun x => x.2) (cl.take i)).length ≤ 1000000 := by simp; omega
      have Hc := Lib.hid hc
      clear hc ht1
      generalize hls : List.map (fun x => x.1) (cl.take i) = ls at *
      generalize hbs : List.map (fun x => x.2) (cl.take i) = bs at *
      have Hls := Lib.hid hls
      have Hbs := Lib.hid hbs
      clear hls hbs
      go_wp2_with fail
      clear k0 k1 hb
      have hx := heap_alloc_new wr (.cells #[.string c.1, .pointer (some ⟨c.2, 0, none⟩)] 150)
      have hle := M.out.2.size
      have M5 := Lib.hid (M.out.1.step (Fr.alloc (Fr.refl (fun _ => False) wr) (.cells #[.string c.1, .pointer (some ⟨c.2, 0, none⟩)] 150)) (fun _ e => e.elim))
      have B5 := Lib.hid (ext_alloc M.out.2 (.cells #[.string c.1, .pointer (some ⟨c.2, 0, none⟩)] 150))
      have hz5 : (wr.alloc (.cells #[.string c.1, .pointer (some ⟨c.2, 0, none⟩)] 150)).heap.size = wr.heap.size + 1 := by simp
      generalize hW0 : wr.alloc (.cells #[.string c.1, .pointer (some ⟨c.2, 0, none⟩)] 150) = W0 at *
      have hgl : w.heap.size < W0.heap.size := (Array.getElem?_eq_some_iff.1 M5.out.nk.blk).1
      obtain ⟨_, _, g2, _, _, f2, _, _⟩ := M5.out.nk.cells
      have S5 : Hid (SL w.heap.size wr.heap.size A ls.length ca c W0) := Lib.hid ⟨g2, f2, by simp [World.cell?, hx]⟩
      have HX := Lib.hid hx
      have LA := Lib.hid (fun q (hq : (Value.slice A ls.length ca).ownBlock = some q) => (M.out.1.la.block q hq).2)
      clear hW0 g2 f2 hx
      have HZ5 := Lib.hid hz5
      clear hz5
      obtain ⟨g2, f2, x0⟩ := S5.out
      have fl : Hid (w.heap.size ≠ wr.heap.size) := Lib.hid (by have := HZ5.out; have h7 := (Array.getElem?_eq_some_iff.1 M.out.1.nk.blk).1; omega)
      go_cut [] (fun wx => ∃ (A2 : Option Addr) (ca2 : Nat), Hid (NodeM w.heap.size w.heap.size kind 0 A2 ca2 (ls ++ [c.1]) B cb bs (.pointer ta) wx ∧ Below w.heap.size w wx ∧ wx.heap[wr.heap.size]? = W0.heap[wr.heap.size]?))
      case first =>
        go_region_law
          (first
            | (refine step_appL (by rfl) _ _ (by rfl) w.heap.size (l := ls) (by rfl) (M5.out.step (Fr.below (X := fun _ => False) (by first | exact (ext_alloc (Below.refl _ _) _).drew | exact ext_alloc (Below.refl _ _).drew _ | exact ext_alloc (Below.refl _ _) _)) (fun _ e => e.elim)).la (l2 := [c.1]) (A2 := some ⟨W0.heap.size, 0, none⟩) (c := 1) (B := W0.heap.size + 1) (by rfl) (readL_new _ c.1 _ _ rfl) (by simp; omega) (by simp; omega) ?_; intro A2 ca2 w2 hown2 hg2 hA2; have M6 := Lib.hid (NodeM.pushL (M5.out.step (Fr.below (X := fun _ => False) (by first | exact (ext_alloc (Below.refl _ _) _).drew | exact ext_alloc (Below.refl _ _).drew _ | exact ext_alloc (Below.refl _ _) _)) (fun _ e => e.elim)) hown2 hg2 hA2); have S6 := Lib.hid ((S5.out.bel (by first | exact (ext_alloc (Below.refl _ _) _).drew | exact ext_alloc (Below.refl _ _).drew _ | exact ext_alloc (Below.refl _ _) _) hgl (by have := HZ5.out; omega)).of (NodeM.lab (M5.out.step (Fr.below (X := fun _ => False) (by first | exact (ext_alloc (Below.refl _ _) _).drew | exact ext_alloc (Below.refl _ _).drew _ | exact ext_alloc (Below.refl _ _) _)) (fun _ e => e.elim)) hg2) (hg2.block wr.heap.size (by have := HZ5.out; simp; omega) (fun e => by have := LA.out _ e.symm; omega))); have B6 := Lib.hid (ext_app (B5.out.trans (Below.mono (by first | exact (ext_alloc (Below.refl _ _) _).drew | exact ext_alloc (Below.refl _ _).drew _ | exact ext_alloc (Below.refl _ _) _) (Nat.le_of_lt hgl))) hg2 (fun q hq => (M5.out.la.block q hq).1)); obtain ⟨q1, q2, q3⟩ := S6.out; have X6 := Lib.hid ((hg2.block wr.heap.size (by have := HZ5.out; simp; omega) (fun e => by have := LA.out _ e.symm; omega)).trans (Below.block (B := W0.heap.size) (w := W0) (by first | exact (ext_alloc (Below.refl _ _) _).drew | exact ext_alloc (Below.refl _ _).drew _ | exact ext_alloc (Below.refl _ _) _) wr.heap.size (by have := HZ5.out; omega))); have Z6 := Lib.hid hg2.size; clear hown2 hg2 hA2))
        all_goals
          go_wp2_with fail
          go_meet
          exact ⟨A2, ca2, Lib.hid ⟨M6.out, B6.out.setCell (p := ⟨w.heap.size, 2, none⟩) (Nat.le_refl _) _, (Below.heap_setCell _ _ _ _ (fun e => fl.out e.symm)).trans X6.out⟩⟩
      case rest =>
        obtain ⟨A2, ca2, M6⟩ := hcut
        clear M5 B5 S5 g2 f2 x0 M LA
        have hlc : w.heap.size < wc.heap.size := (Array.getElem?_eq_some_iff.1 M6.out.1.nk.blk).1
        have hx6 := M6.out.2.2.trans HX.out
        have hxl : Hid (wr.heap.size < wc.heap.size) := Lib.hid (Array.getElem?_eq_some_iff.1 hx6).1
        obtain ⟨_, _, _, g3, _, _, f3, _⟩ := M6.out.1.nk.cells
        have x1 : wc.cell? ⟨wr.heap.size, 1, none⟩ = some (.pointer (some ⟨c.2, 0, none⟩)) := by simp [World.cell?, hx6]
        clear hx6
        go_wp2_with fail
        go_region_law
          (first
            | (refine step_appB (by rfl) _ _ (by rfl) w.heap.size (l := bs) (by rfl) (M6.out.1.step (Fr.below (X := fun _ => False) (by first | exact (ext_alloc (Below.refl _ _) _).drew | exact ext_alloc (Below.refl _ _).drew _ | exact ext_alloc (Below.refl _ _) _)) (fun _ e => e.elim)).nk.kb (l2 := [c.2]) (A2 := some ⟨wc.heap.size, 0, none⟩) (c := 1) (B := wc.heap.size + 1) (by rfl) (readL_new _ c.2 _ _ rfl) (by simp; omega) (by simp; omega) ?_; intro B2 cb2 w2 hown2 hg2 hA2; have M7 := Lib.hid (NodeM.pushK (M6.out.1.step (Fr.below (X := fun _ => False) (by first | exact (ext_alloc (Below.refl _ _) _).drew | exact ext_alloc (Below.refl _ _).drew _ | exact ext_alloc (Below.refl _ _) _)) (fun _ e => e.elim)) hown2 hg2 hA2); have e7 := NodeM.kid (M6.out.1.step (Fr.below (X := fun _ => False) (by first | exact (ext_alloc (Below.refl _ _) _).drew | exact ext_alloc (Below.refl _ _).drew _ | exact ext_alloc (Below.refl _ _) _)) (fun _ e => e.elim)) hg2; have e8 := e7.trans (Below.block (B := wc.heap.size) (w := wc) (by first | exact (ext_alloc (Below.refl _ _) _).drew | exact ext_alloc (Below.refl _ _).drew _ | exact ext_alloc (Below.refl _ _) _) w.heap.size hlc); have q5 := (World.cell?_of_block (a := ⟨w.heap.size, 3, none⟩) e8).trans g3; have q6 := (World.frozen?_of_block (a := ⟨w.heap.size, 3, none⟩) e8).trans f3; have B7 := Lib.hid (ext_app (M6.out.2.1.trans (Below.mono (by first | exact (ext_alloc (Below.refl _ _) _).drew | exact ext_alloc (Below.refl _ _).drew _ | exact ext_alloc (Below.refl _ _) _) (Nat.le_of_lt hlc))) hg2 (fun q hq => (M6.out.1.nk.kb.block q hq).1)); clear hown2 hg2 hA2 e7 e8))
        all_goals
          go_wp2_with fail
          go_roundw
          case rel => exact ⟨i + 1, A2, ca2, B2, cb2, by go_num, hp, Lib.hid ⟨by rw [Ht1.out, List.map_append, List.map_append, Hls.out, Hbs.out]; exact M7.out, B7.out.setCell (p := ⟨w.heap.size, 3, none⟩) (Nat.le_refl _) _⟩⟩
          case measure => simp [intOf]; omega
    · go_wp2_with fail
      go_ret
      have e : i = cl.length := by omega
      subst e
      have M1 := M.out
      rw [List.take_length] at M1
      exact ⟨_, A, ca, B, cb, rfl, M1.1, M1.2⟩
end Go.Proofs.Ytblfeokjlecgkaa
