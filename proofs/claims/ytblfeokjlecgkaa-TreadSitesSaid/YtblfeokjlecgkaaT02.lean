/- Laid together by a tool from the texts of this seat: Right. Conditions: each theorem's own. -/
import Derived.Test.YtblfeokjlecgkaaT01
import Derived.OneCell
import Derived.Laws.EntriesVeiled
/- A world in which one block of the call's own has been written, and new ones made. -/
namespace Go.Proofs.Ytblfeokjlecgkaa
open Go.RowKit

theorem only_refl (w : World) (row : Option Nat) : w.grownBy w row := ⟨rfl, rfl, rfl, Nat.le_refl _, fun _ _ _ => rfl⟩
theorem only_trans {a b c : World} {row : Option Nat} (h : a.grownBy b row) (k : b.grownBy c row) : a.grownBy c row :=
  ⟨k.os.trans h.os, k.tape.trans h.tape, k.output.trans h.output, Nat.le_trans h.size k.size, fun i hi hne => (k.block i (Nat.lt_of_lt_of_le hi h.size) hne).trans (h.block i hi hne)⟩
theorem only_alloc {a w : World} {row : Option Nat} (h : a.grownBy w row) (o : Obj) : a.grownBy (w.alloc o) row :=
  ⟨h.os, h.tape, h.output, Nat.le_trans h.size (by simp), fun i hi hne => (Below.heap_alloc w o i (Nat.lt_of_lt_of_le hi h.size)).trans (h.block i hi hne)⟩
theorem only_setCell {a w : World} {g : Nat} (h : a.grownBy w (some g)) {p : Addr} (hp : p.block = g ∨ a.heap.size ≤ p.block) (u : Value) : a.grownBy (w.setCell p u) (some g) :=
  ⟨h.os, h.tape, h.output, by simpa [World.setCell] using h.size, fun i hi hne => (Below.heap_setCell w p u i (by
    rintro rfl
    rcases hp with hp | hp
    · exact hne (by rw [hp])
    · omega)).trans (h.block i hi hne)⟩
theorem only_of_below {a w : World} (h : Below a.heap.size a w) (row : Option Nat) : a.grownBy w row := ⟨h.os, h.tape, h.output, h.size, fun i hi _ => h.block i hi⟩
theorem only_below {a b c : World} {row : Option Nat} (h : a.grownBy b row) (k : Below b.heap.size b c) : a.grownBy c row := only_trans h (only_of_below k row)

/-- What was written lies above what was there: nothing of the old has turned. -/
theorem below_of_only {a w : World} {g B : Nat} (h : a.grownBy w (some g)) (hg : B ≤ g) (hB : B ≤ a.heap.size) : Below B a w :=
  ⟨h.os, h.tape, h.output, h.size, fun k hk => h.block k (by omega) (by intro e; injection e with e; omega)⟩

theorem TyA.only {w w' : World} {B : Nat} {A : Option Addr} {xs : List Nd} {g : Nat} (h : TyA w B A xs) (hb : w.grownBy w' (some g)) (hg : B ≤ g) (hB : B ≤ w.heap.size) : TyA w' B A xs :=
  h.below (below_of_only hb hg hB)
end Go.Proofs.Ytblfeokjlecgkaa

/- The program's Right: a function value that calls itself. -/
namespace Go.Proofs.Ytblfeokjlecgkaa
open Go.RowKit

/-- One text is at most another one (Go's order of strings). -/
def leS (a b : ByteArray) : Bool := Op.bytesLess a.toList b.toList || a.toList == b.toList

/-- Whether a node may be child k of a node, behind a child of that label. -/
def childOk (x : Nd) (k : Int) (last : ByteArray) (y : Nd) : Bool :=
  if y.k = 9 then isRowB x.k && !decide (k < x.n - 1) && decide (y.s.size = 0)
  else labelB x.k y.s && !(isRowB x.k && leS y.s last)

/-- The children of a node, so many still to come. -/
def kidsP (tr : Nat → Option Nat) (xs : List Nd) (x : Nd) : Nat → Int → ByteArray → Nat → Option Nat
  | 0, _, _, at_ => some at_
  | todo + 1, k, last, at_ =>
    match xs[at_]? with
    | none => none
    | some y => if childOk x k last y = true then (match tr at_ with
      | none => none
      | some at' => kidsP tr xs x todo (k + 1) y.s at') else none

/-- A tree, from a place on, at most so deep: where it ends. -/
def treeP (xs : List Nd) : Nat → Nat → Option Nat
  | 0, _ => none
  | f + 1, i =>
    match xs[i]? with
    | none => none
    | some x => if okNode x.k x.n = true then kidsP (treeP xs f) xs x (many x.k x.n).toNat 0 ByteArray.empty (i + 1) else none

theorem kidsP_le {tr : Nat → Option Nat} {xs : List Nd} {x : Nd} (htr : ∀ i j, tr i = some j → j ≤ xs.length) : ∀ (todo : Nat) (k : Int) (last : ByteArray) (at_ j : Nat), at_ ≤ xs.length → kidsP tr xs x todo k last at_ = some j → j ≤ xs.length := by
  intro todo
  induction todo with
  | zero =>
    intro k last at_ j h0 h
    simp only [kidsP, Option.some.injEq] at h
    omega
  | succ todo ih =>
    intro k last at_ j h0 h
    simp only [kidsP] at h
    split at h
    · cases h
    · split at h
      · split at h
        · cases h
        · rename_i at' hat'
          exact ih _ _ _ _ (htr _ _ hat') h
      · cases h

theorem treeP_le {xs : List Nd} : ∀ {f i j : Nat}, treeP xs f i = some j → j ≤ xs.length := by
  intro f
  induction f with
  | zero => intro i j h; cases h
  | succ f ih =>
    intro i j h
    simp only [treeP] at h
    split at h
    · cases h
    · rename_i x hx
      have := getq_lt hx
      split at h
      · exact kidsP_le (fun i j hh => ih hh) _ _ _ _ _ (by omega) h
      · cases h

structure REnv (w : World) (ga gt gf : Nat) (A : Option Addr) (n c : Nat) : Prop where
  t : w.heap[gt]? = some (.cells #[.slice A n c] 34 (0, 0))
  f : w.heap[gf]? = some (.cells #[.func (.func 123) #[] #[.pointer (some ⟨ga, 0, none⟩), .pointer (some ⟨gt, 0, none⟩), .pointer (some ⟨gf, 0, none⟩)]] 145 (0, 0))

theorem REnv.only {w w' : World} {ga gt gf : Nat} {A : Option Addr} {n c : Nat} (h : REnv w ga gt gf A n c) (hb : w.grownBy w' (some ga)) (h1 : gt ≠ ga) (h2 : gf ≠ ga) : REnv w' ga gt gf A n c :=
  ⟨(hb.block gt (lt_of_block h.t) (by intro e; injection e with e; exact h1 e)).trans h.t, (hb.block gf (lt_of_block h.f) (by intro e; injection e with e; exact h2 e)).trans h.f⟩

theorem many_nat {x : Nd} (h : okNode x.k x.n = true) : ∃ M : Nat, many x.k x.n = (M : Int) ∧ M ≤ 50 ∧ (isRowB x.k = true → x.n = (M : Int)) := by
  unfold many
  by_cases h5 : x.k = 5
  · exact ⟨2, by simp [h5], by omega, by simp [h5, isRowB]⟩
  · by_cases h6 : isRowB x.k = true
    · have h1 := okNode_row (n := x.n) h6
      rw [h] at h1
      have h2 := of_decide_eq_true h1.symm
      obtain ⟨h3, h4⟩ := h2
      have h0 : 0 ≤ x.n := by split at h3 <;> omega
      exact ⟨x.n.toNat, by simp [h5, h6]; omega, by omega, fun _ => by omega⟩
    · exact ⟨0, by simp [h5, h6], by omega, fun h => absurd h h6⟩

def RPost (w : World) (ga : Nat) (r : Option Nat) (e : Ending) (w' : World) : Prop :=
  e = .returned (.bool r.isSome) ∧ w.grownBy w' (some ga) ∧ ∀ i', r = some i' → w'.heap[ga]? = some (.cells #[.int .i64 (i' : Int)] 3 (0, 0))

set_option maxRecDepth 100000 in
set_option maxHeartbeats 2000000 in
theorem rightC_any (f : Nat) : ∀ (deep : Int) (i : Nat) (ga gt gf B c : Nat) (A : Option Addr) (xs : List Nd) (w : World), deep + f = 101 → 1 ≤ deep → i ≤ xs.length → xs.length ≤ 1000000 →
    Hid (∀ x ∈ xs, x.s.size ≤ 9223372036854775807) →
    TyA w B A xs → B ≤ ga → REnv w ga gt gf A xs.length c → gt ≠ ga → gf ≠ ga → w.heap[ga]? = some (.cells #[.int .i64 (i : Int)] 3 (0, 0)) →
    Calls Try.prog 123 #[.int .i64 deep, .pointer (some ⟨ga, 0, none⟩), .pointer (some ⟨gt, 0, none⟩), .pointer (some ⟨gf, 0, none⟩)] w (RPost w ga (treeP xs f i)) := by
  induction f with
  | zero =>
    intro deep i ga gt gf B c A xs w hd h1 hi hl hs ha hB henv hn1 hn2 hat
    have hca := cell_of_one hat
    have hct := cell_of_one henv.t
    have hd2 : (100 : Int) < deep := by omega
    have hfin := Lib.hid (show RPost w ga (treeP xs 0 i) (.returned (.bool false)) w from ⟨rfl, only_refl _ _, fun i' h => by cases h⟩)
    clear hat henv
    by_cases hp : i < xs.length
    · go_enter Try.func123, Try.ntmps123
      go_wp2_with fail
      go_ret
      exact hfin.out
    · go_enter Try.func123, Try.ntmps123
      go_wp2_with fail
      go_ret
      exact hfin.out
  | succ f ih =>
    have Ih := Lib.hid ih
    clear ih
    intro deep i ga gt gf B c A xs w hd h1 hi hl hs ha hB henv hn1 hn2 hat
    have hca := cell_of_one hat
    have hfa := free_of_one hat
    have hct := cell_of_one henv.t
    have hcf := cell_of_one henv.f
    have hd2 : ¬ (100 : Int) < deep := by omega
    have hga := lt_of_block hat
    have hgt := lt_of_block henv.t
    have hgf := lt_of_block henv.f
    by_cases hp : i < xs.length
    · obtain ⟨x, hx⟩ := getq_ex hp
      obtain ⟨b1, o1, rfl, hb1, c10, c11, c12⟩ := ha.at_ hx
      have hb1' : b1 < w.heap.size := by omega
      cases hok : okNode x.k x.n
      · have hfin : ∀ w', Hid (w.grownBy w' (some ga) → RPost w ga (treeP xs (f + 1) i) (.returned (.bool false)) w') := fun w' => Lib.hid fun hg => by
          have e : treeP xs (f + 1) i = none := by simp [treeP, hx, hok]
          rw [e]
          exact ⟨rfl, hg, fun i' h => by cases h⟩
        have Hok := Lib.hid hok
        clear hok hx hat henv
        go_enter Try.func123, Try.ntmps123
        go_wp2_with (go_at_call 124; refine (isNode_any _ _ _ _).mono ?_; rintro e w1 ⟨rfl, hb⟩; rw [Hok.out])
        go_ret
        exact (hfin _).out (only_of_below hb _)
      · have Hok := Lib.hid hok
        have hfin : Hid (treeP xs (f + 1) i = kidsP (treeP xs f) xs x (many x.k x.n).toNat 0 ByteArray.empty (i + 1)) := Lib.hid (by simp [treeP, hx, hok])
        have Hx := Lib.hid hx
        have Hmany := Lib.hid (manyP_ok hok)
        clear hok hx
        go_enter Try.func123, Try.ntmps123
        go_wp2_with fail
        refine (isNode_any _ _ _ _).mono ?_
        rintro e w1 ⟨rfl, hb⟩
        rw [Hok.out]
        obtain ⟨hcb, hfb⟩ := bcell hb
        have z1 := hb.size
        have q1 : ga < w1.heap.size := by omega
        have q2 : gt < w1.heap.size := by omega
        have q3 : gf < w1.heap.size := by omega
        have q4 : b1 < w1.heap.size := by omega
        have q5 : ga ≠ w1.heap.size := by omega
        have q6 : w1.heap.size ≠ ga := by omega
        go_wp2_with fail
        refine (many_any _ _ _ _).mono ?_
        rintro e w2 ⟨rfl, hb2⟩
        rw [Hmany.out]
        obtain ⟨M, hM, hM50, hMx⟩ := many_nat Hok.out
        rw [hM] at hfin ⊢
        rw [Int.toNat_natCast] at hfin
        have HMx := Lib.hid hMx
        clear hM hMx Hmany
        have g2 : w.grownBy w2 (some ga) := only_below (only_alloc (only_setCell (only_of_below hb _) (.inl rfl) _) _) hb2
        have hat1 : w1.heap[ga]? = some (.cells #[.int .i64 (i : Int)] 3 (0, 0)) := (hb.block ga hga).trans hat
        have hat2 : w2.heap[ga]? = some (.cells #[.int .i64 ((i + 1 : Nat) : Int)] 3 (0, 0)) :=
          (hb2.block ga (by simp; omega)).trans ((Below.heap_alloc _ _ _ (by simp; omega)).trans (one_setCell hat1))
        have hnd2 : w2.heap[w1.heap.size]? = some (.cells #[.int .i64 x.k, .string x.s, .int .i64 x.n] 48 (0, 0)) :=
          (hb2.block _ (by simp)).trans (by simpa using heap_alloc_new (w1.setCell ⟨ga, 0, none⟩ (.int .i64 ((i : Int) + 1))) (.cells #[.int .i64 x.k, .string x.s, .int .i64 x.n] 48 (0, 0)))
        have z12 : w.heap.size ≤ w1.heap.size := hb.size
        have Hat := Lib.hid hat
        have Hxk := Lib.hid Hok.out
        clear hcb hfb hb hb2 hat1 hat hca hfa hct hcf c10 c11 c12
        generalize hbn : w1.heap.size = bn at *
        clear hbn
        clear w1
        go_wp2_with fail
        go_loopw [34, 7] (fun k7 l7 wr => ∃ (k : Nat) (last : ByteArray) (at_ : Nat), k7 = .int .i64 k ∧ l7 = .string last ∧ k ≤ M ∧ at_ ≤ xs.length ∧ w.grownBy wr (some ga) ∧
            wr.heap[ga]? = some (.cells #[.int .i64 (at_ : Int)] 3 (0, 0)) ∧ wr.heap[bn]? = some (.cells #[.int .i64 x.k, .string x.s, .int .i64 x.n] 48 (0, 0)) ∧
            Hid (kidsP (treeP xs f) xs x (M - k) k last at_ = treeP xs (f + 1) i))
          (fun k7 _ _ => M - (intOf k7).toNat)
        case atStart => exact ⟨0, _, i + 1, rfl, rfl, Nat.zero_le _, hp, g2, hat2, hnd2, Lib.hid hfin.out.symm⟩
        case round =>
          clear hat2 hnd2 g2
          obtain ⟨k, last, at_, rfl, rfl, hkM, hatl, gr, hatr, hndr, hgood⟩ := hrel
          have zr := gr.size
          have q2r : gt < wr.heap.size := by omega
          have q3r : gf < wr.heap.size := by omega
          have qar := lt_of_block hatr
          have qnr := lt_of_block hndr
          have hcar := cell_of_one hatr
          have hfar := free_of_one hatr
          have henvr := henv.only gr hn1 hn2
          have hctr := cell_of_one henvr.t
          have hcfr := cell_of_one henvr.f
          have hn0 : wr.cell? ⟨bn, 0, none⟩ = some (.int .i64 x.k) := by simp [World.cell?, hndr]
          have hns : wr.cell? ⟨bn, 1, none⟩ = some (.string x.s) := by simp [World.cell?, hndr]
          have hnn : wr.cell? ⟨bn, 2, none⟩ = some (.int .i64 x.n) := by simp [World.cell?, hndr]
          have Hatr := Lib.hid hatr
          have Hndr := Lib.hid hndr
          clear hatr hndr
          by_cases hlt : k < M
          · obtain ⟨d, hd'⟩ : ∃ d, M - k = d + 1 := ⟨M - k - 1, by omega⟩
            rw [hd'] at hgood
            have Hd' := Lib.hid hd'
            clear hd'
            by_cases hpl : at_ < xs.length
            · obtain ⟨y, hy⟩ := getq_ex hpl
              have har := ha.only gr hB (by have := Hat.out; omega)
              obtain ⟨_, _, hAe, hb1y, c20, c21, c22⟩ := har.at_ hy
              simp only [Option.some.injEq, Addr.mk.injEq, and_true] at hAe
              obtain ⟨rfl, rfl⟩ := hAe
              have q4r : b1 < wr.heap.size := by omega
              have qa1 : ga < wr.heap.size + 1 := by omega
              have qt1 : gt < wr.heap.size + 1 := by omega
              have qf1 : gf < wr.heap.size + 1 := by omega
              have qn1 : bn < wr.heap.size + 1 := by omega
              have hbad : Hid (childOk x k last y = false → treeP xs (f + 1) i = none) := Lib.hid fun hc => by rw [← hgood.out]; simp [kidsP, hy, hc]
              have hok2 : Hid (childOk x k last y = true → treeP xs (f + 1) i = (match treeP xs f at_ with | none => none | some at' => kidsP (treeP xs f) xs x d (k + 1) y.s at')) :=
                Lib.hid fun hc => by rw [← hgood.out]; simp [kidsP, hy, hc]
              have Hy := Lib.hid hy
              clear hy hgood
              by_cases h9 : y.k = 9
              · have h9b : (y.k == 9) = true := by simpa using h9
                have H9 := Lib.hid h9
                clear h9
                go_wp2_with fail
                refine (isRow_any _ _ _ _).mono ?_
                rintro e W ⟨rfl, hbW⟩
                obtain ⟨hcW, hfW⟩ := bcell hbW
                have zW := hbW.size
                simp only [World.size_alloc] at zW
                have gW : w.grownBy W (some ga) := only_below (only_alloc gr _) hbW
                have hatW := Lib.hid ((hbW.block ga (by simp; omega)).trans ((Below.heap_alloc _ _ _ qar).trans Hatr.out))
                have hndW := Lib.hid ((hbW.block bn (by simp; omega)).trans ((Below.heap_alloc _ _ _ qnr).trans Hndr.out))
                cases hr : isRowB x.k
                · have Hr := Lib.hid hr
                  go_wp2_with fail
                  go_ret
                  rw [hbad.out (by unfold childOk; rw [if_pos H9.out, Hr.out]; rfl)]
                  exact ⟨rfl, gW, fun i' h => by cases h⟩
                · have hxM := Lib.hid (HMx.out hr)
                  have xn0 : 0 ≤ x.n := by rw [hxM.out]; omega
                  have xn1 : x.n ≤ 50 := by rw [hxM.out]; omega
                  have Hr := Lib.hid hr
                  by_cases hk1 : (k : Int) < x.n - 1
                  · go_wp2_with fail
                    go_ret
                    rw [hbad.out (by unfold childOk; rw [if_pos H9.out, Hr.out, decide_eq_true hk1]; rfl)]
                    exact ⟨rfl, gW, fun i' h => by cases h⟩
                  · cases he : y.s.toList.isEmpty
                    · have He := Lib.hid he
                      go_wp2_with fail
                      go_ret
                      rw [hbad.out (by unfold childOk; rw [if_pos H9.out, Hr.out, decide_eq_false (by omega), ← isEmpty_size, He.out]; rfl)]
                      exact ⟨rfl, gW, fun i' h => by cases h⟩
                    · have Hc := Lib.hid (hok2.out (by unfold childOk; rw [if_pos H9.out, Hr.out, decide_eq_false hk1, ← isEmpty_size, he]; rfl))
                      have haW := ha.only gW hB (by have := Hat.out; omega)
                      have henvW := henv.only gW hn1 hn2
                      go_wp2_with fail
                      refine (Ih.out (deep + 1) at_ ga gt gf B c _ xs W (by omega) (by omega) (by omega) hl hs haW hB henvW hn1 hn2 hatW.out).mono ?_
                      rintro e w5 ⟨rfl, g5, h5⟩
                      have H5 := Lib.hid h5
                      clear h5
                      have g5w : w.grownBy w5 (some ga) := only_trans gW g5
                      cases htr : treeP xs f at_
                      · rw [htr] at Hc
                        have Hc' := Lib.hid Hc.out
                        clear Hc htr H5
                        go_wp2_with fail
                        go_ret
                        rw [Hc'.out]
                        exact ⟨rfl, g5w, fun i' h => by cases h⟩
                      · rename_i at'
                        rw [htr] at Hc H5
                        have hle := treeP_le htr
                        have h5a := Lib.hid (H5.out at' rfl)
                        have hnd5 := Lib.hid ((g5.block bn (lt_of_block hndW.out) (by intro e; injection e with e; omega)).trans hndW.out)
                        clear htr H5
                        have qq1 : ga < W.heap.size := lt_of_block hatW.out
                        go_wp2_with fail
                        go_roundw
                        case rel => exact ⟨k + 1, y.s, at', by go_num, rfl, by omega, hle, g5w, h5a.out, hnd5.out, Lib.hid (by rw [Hc.out]; simp [show M - (k + 1) = d by have := Hd'.out; omega])⟩
                        case measure => simp [intOf]; omega
              · have h9b : (y.k == 9) = false := by simpa using h9
                have H9 := Lib.hid h9
                clear h9
                go_wp2_with fail
                refine (isLabel_any _ _ _).mono ?_
                rintro e w3 ⟨rfl, hb3⟩
                obtain ⟨hc3, hf3⟩ := bcell hb3
                have z3 := hb3.size
                simp only [World.size_alloc] at z3
                have g3 : w.grownBy w3 (some ga) := only_below (only_alloc gr _) hb3
                have hat3 := Lib.hid ((hb3.block ga (by simp; omega)).trans ((Below.heap_alloc _ _ _ qar).trans Hatr.out))
                have hnd3 := Lib.hid ((hb3.block bn (by simp; omega)).trans ((Below.heap_alloc _ _ _ qnr).trans Hndr.out))
                cases hlab : labelB x.k y.s
                · have Hl := Lib.hid hlab
                  go_wp2_with fail
                  go_ret
                  rw [hbad.out (by unfold childOk; rw [if_neg H9.out, Hl.out]; rfl)]
                  exact ⟨rfl, g3, fun i' h => by cases h⟩
                · have Hl := Lib.hid hlab
                  have r1 : ga < w3.heap.size := by omega
                  have r2 : gt < w3.heap.size := by omega
                  have r3 : gf < w3.heap.size := by omega
                  have r4 : bn < w3.heap.size := by omega
                  have r5 : wr.heap.size < w3.heap.size := by omega
                  go_wp2_with fail
                  refine (isRow_any _ _ _ _).mono ?_
                  rintro e W ⟨rfl, hbW⟩
                  obtain ⟨hcW, hfW⟩ := bcell hbW
                  have zW := hbW.size
                  have gW : w.grownBy W (some ga) := only_below g3 hbW
                  have hatW := Lib.hid ((hbW.block ga (by omega)).trans hat3.out)
                  have hndW := Lib.hid ((hbW.block bn (by omega)).trans hnd3.out)
                  cases hr : isRowB x.k
                  · have Hc := Lib.hid (hok2.out (by unfold childOk; rw [if_neg H9.out, Hl.out, hr]; rfl))
                    have haW := ha.only gW hB (by have := Hat.out; omega)
                    have henvW := henv.only gW hn1 hn2
                    go_wp2_with fail
                    refine (Ih.out (deep + 1) at_ ga gt gf B c _ xs W (by omega) (by omega) (by omega) hl hs haW hB henvW hn1 hn2 hatW.out).mono ?_
                    rintro e w5 ⟨rfl, g5, h5⟩
                    have H5 := Lib.hid h5
                    clear h5
                    have g5w : w.grownBy w5 (some ga) := only_trans gW g5
                    cases htr : treeP xs f at_
                    · rw [htr] at Hc
                      have Hc' := Lib.hid Hc.out
                      clear Hc htr H5
                      go_wp2_with fail
                      go_ret
                      rw [Hc'.out]
                      exact ⟨rfl, g5w, fun i' h => by cases h⟩
                    · rename_i at'
                      rw [htr] at Hc H5
                      have hle := treeP_le htr
                      have h5a := Lib.hid (H5.out at' rfl)
                      have hnd5 := Lib.hid ((g5.block bn (lt_of_block hndW.out) (by intro e; injection e with e; omega)).trans hndW.out)
                      clear htr H5
                      have qq1 : ga < W.heap.size := lt_of_block hatW.out
                      go_wp2_with fail
                      go_roundw
                      case rel => exact ⟨k + 1, y.s, at', by go_num, rfl, by omega, hle, g5w, h5a.out, hnd5.out, Lib.hid (by rw [Hc.out]; simp [show M - (k + 1) = d by have := Hd'.out; omega])⟩
                      case measure => simp [intOf]; omega
                  · have Hr := Lib.hid hr
                    cases hl1 : Op.bytesLess y.s.toList last.toList
                    · cases hl2 : y.s.toList == last.toList
                      · have Hc := Lib.hid (hok2.out (by unfold childOk leS; rw [if_neg H9.out, Hl.out, Hr.out, hl1, hl2]; rfl))
                        have haW := ha.only gW hB (by have := Hat.out; omega)
                        have henvW := henv.only gW hn1 hn2
                        go_wp2_with fail
                        refine (Ih.out (deep + 1) at_ ga gt gf B c _ xs W (by omega) (by omega) (by omega) hl hs haW hB henvW hn1 hn2 hatW.out).mono ?_
                        rintro e w5 ⟨rfl, g5, h5⟩
                        have H5 := Lib.hid h5
                        clear h5
                        have g5w : w.grownBy w5 (some ga) := only_trans gW g5
                        cases htr : treeP xs f at_
                        · rw [htr] at Hc
                          have Hc' := Lib.hid Hc.out
                          clear Hc htr H5
                          go_wp2_with fail
                          go_ret
                          rw [Hc'.out]
                          exact ⟨rfl, g5w, fun i' h => by cases h⟩
                        · rename_i at'
                          rw [htr] at Hc H5
                          have hle := treeP_le htr
                          have h5a := Lib.hid (H5.out at' rfl)
                          have hnd5 := Lib.hid ((g5.block bn (lt_of_block hndW.out) (by intro e; injection e with e; omega)).trans hndW.out)
                          clear htr H5
                          have qq1 : ga < W.heap.size := lt_of_block hatW.out
                          go_wp2_with fail
                          go_roundw
                          case rel => exact ⟨k + 1, y.s, at', by go_num, rfl, by omega, hle, g5w, h5a.out, hnd5.out, Lib.hid (by rw [Hc.out]; simp [show M - (k + 1) = d by have := Hd'.out; omega])⟩
                          case measure => simp [intOf]; omega
                      · have Hl1 := Lib.hid hl1
                        have Hl2 := Lib.hid hl2
                        go_wp2_with fail
                        go_ret
                        rw [hbad.out (by unfold childOk leS; rw [if_neg H9.out, Hl.out, Hr.out, Hl1.out, Hl2.out]; rfl)]
                        exact ⟨rfl, gW, fun i' h => by cases h⟩
                    · have Hl1 := Lib.hid hl1
                      go_wp2_with fail
                      go_ret
                      rw [hbad.out (by unfold childOk leS; rw [if_neg H9.out, Hl.out, Hr.out, Hl1.out]; rfl)]
                      exact ⟨rfl, gW, fun i' h => by cases h⟩
            · have hno := Lib.hid (List.getElem?_eq_none (show xs.length ≤ at_ by omega))
              go_wp2_with fail
              go_ret
              have e : treeP xs (f + 1) i = none := by rw [← hgood.out]; simp [kidsP, hno.out]
              rw [e]
              exact ⟨rfl, gr, fun i' h => by cases h⟩
          · have hkM' : k = M := by omega
            subst hkM'
            go_wp2_with fail
            go_ret
            have e : treeP xs (f + 1) i = some at_ := by rw [← hgood.out]; simp [kidsP]
            rw [e]
            exact ⟨rfl, gr, fun i' h => by injection h with h; subst h; exact Hatr.out⟩
    · have hfin := Lib.hid (show RPost w ga (treeP xs (f + 1) i) (.returned (.bool false)) w from by
        have e : treeP xs (f + 1) i = none := by simp [treeP, List.getElem?_eq_none (show xs.length ≤ i by omega)]
        rw [e]
        exact ⟨rfl, only_refl _ _, fun i' h => by cases h⟩)
      clear hat henv
      go_enter Try.func123, Try.ntmps123
      go_wp2_with fail
      go_ret
      exact hfin.out
end Go.Proofs.Ytblfeokjlecgkaa

/- The program's Right. -/
namespace Go.Proofs.Ytblfeokjlecgkaa
open Go.RowKit

def rootOk : List Nd → Bool
  | [] => false
  | x :: _ => decide (x.s.size = 0) && !(x.k == 9)

/-- Whether nodes are a type. -/
def rightB (xs : List Nd) : Bool := decide (xs.length ≤ 10000) && rootOk xs && decide (treeP xs 100 0 = some xs.length)

theorem renv_made (w : World) (A : Option Addr) (xs : List Nd) (c : Nat) (ha : TyA w w.heap.size A xs) :
    REnv (((w.alloc (.cells #[.slice A xs.length c] 34)).alloc (.cells #[.int .i64 0] 3)).alloc (.cells #[.func (.func 123) #[] #[.pointer (some ⟨w.heap.size + 1, 0, none⟩), .pointer (some ⟨w.heap.size, 0, none⟩), .pointer (some ⟨w.heap.size + 1 + 1, 0, none⟩)]] 145)) (w.heap.size + 1) w.heap.size (w.heap.size + 1 + 1) A xs.length c ∧
    (((w.alloc (.cells #[.slice A xs.length c] 34)).alloc (.cells #[.int .i64 0] 3)).alloc (.cells #[.func (.func 123) #[] #[.pointer (some ⟨w.heap.size + 1, 0, none⟩), .pointer (some ⟨w.heap.size, 0, none⟩), .pointer (some ⟨w.heap.size + 1 + 1, 0, none⟩)]] 145)).heap[w.heap.size + 1]? = some (.cells #[.int .i64 ((0 : Nat) : Int)] 3 (0, 0)) ∧
    Below w.heap.size w (((w.alloc (.cells #[.slice A xs.length c] 34)).alloc (.cells #[.int .i64 0] 3)).alloc (.cells #[.func (.func 123) #[] #[.pointer (some ⟨w.heap.size + 1, 0, none⟩), .pointer (some ⟨w.heap.size, 0, none⟩), .pointer (some ⟨w.heap.size + 1 + 1, 0, none⟩)]] 145)) ∧
    TyA (((w.alloc (.cells #[.slice A xs.length c] 34)).alloc (.cells #[.int .i64 0] 3)).alloc (.cells #[.func (.func 123) #[] #[.pointer (some ⟨w.heap.size + 1, 0, none⟩), .pointer (some ⟨w.heap.size, 0, none⟩), .pointer (some ⟨w.heap.size + 1 + 1, 0, none⟩)]] 145)) w.heap.size A xs := by
  have hbel := ext_alloc (ext_alloc (ext_alloc (Below.refl w.heap.size w) (.cells #[.slice A xs.length c] 34)) (.cells #[.int .i64 0] 3)) (.cells #[.func (.func 123) #[] #[.pointer (some ⟨w.heap.size + 1, 0, none⟩), .pointer (some ⟨w.heap.size, 0, none⟩), .pointer (some ⟨w.heap.size + 1 + 1, 0, none⟩)]] 145)
  refine ⟨⟨?_, ?_⟩, ?_, hbel, ha.below hbel⟩
  · rw [Below.heap_alloc _ _ _ (by simp; omega), Below.heap_alloc _ _ _ (by simp)]
    exact heap_alloc_new _ _
  · have := heap_alloc_new ((w.alloc (.cells #[.slice A xs.length c] 34)).alloc (.cells #[.int .i64 0] 3)) (.cells #[.func (.func 123) #[] #[.pointer (some ⟨w.heap.size + 1, 0, none⟩), .pointer (some ⟨w.heap.size, 0, none⟩), .pointer (some ⟨w.heap.size + 1 + 1, 0, none⟩)]] 145)
    simpa using this
  · rw [Below.heap_alloc _ _ _ (by simp)]
    have := heap_alloc_new (w.alloc (.cells #[.slice A xs.length c] 34)) (.cells #[.int .i64 0] 3)
    simpa using this

set_option maxRecDepth 100000 in
set_option maxHeartbeats 2000000 in
theorem right_any (A : Option Addr) (c : Nat) (xs : List Nd) (w : World) (ha : TyA w w.heap.size A xs) (hl : xs.length ≤ 9223372036854775807) (hs : ∀ x ∈ xs, x.s.size ≤ 9223372036854775807) :
    Calls Try.prog 79 #[.slice A xs.length c] w fun e w' => e = .returned (.bool (rightB xs)) ∧ Below w.heap.size w w' := by
  match xs, ha, hl, hs with
  | [], ha, hl, hs =>
    go_enter Try.func79, Try.ntmps79
    go_wp2_with fail
    go_ret
    exact ⟨rfl, by repeat (first | exact Below.refl _ _ | refine ext_alloc ?_ _ | refine ext_set ?_ (by simp) _)⟩
  | x :: xs', ha, hl, hs =>
    obtain ⟨b1, o1, rfl, hb1, c10, c11, c12⟩ := ha.at_ (i := 0) (x := x) rfl
    have hlen : (x :: xs').length = xs'.length + 1 := rfl
    simp only [Nat.zero_mul, Nat.add_zero] at c10 c11 c12
    have hn0 : (((x :: xs').length : Int) == 0) = false := by rw [beq_eq_false_iff_ne]; rw [hlen]; omega
    generalize hxs : x :: xs' = xs at *
    have Hxs := Lib.hid hxs
    have Hlen := Lib.hid hlen
    have hpos : 0 < xs.length := by omega
    clear hxs hlen
    have r1 : b1 < w.heap.size + 1 := by omega
    have r2 : b1 < w.heap.size + 1 + 1 := by omega
    by_cases h10 : xs.length ≤ 10000
    · have h10' : ¬ (10000 : Int) < (xs.length : Int) := by omega
      cases he : x.s.toList.isEmpty
      · have He := Lib.hid he
        go_enter Try.func79, Try.ntmps79
        go_wp2_with fail
        go_ret
        refine ⟨ret_bool ?_, by repeat (first | exact Below.refl _ _ | refine ext_alloc ?_ _ | refine ext_set ?_ (by simp) _)⟩
        have : rootOk xs = false := by rw [← Hxs.out]; simp only [rootOk]; rw [← isEmpty_size, He.out]; rfl
        simp [rightB, this]
      · have He := Lib.hid he
        cases h9 : (x.k == 9)
        · have H9 := Lib.hid h9
          have henv := renv_made w (some ⟨b1, o1, none⟩) xs c ha
          have hroot : Hid (rootOk xs = true) := Lib.hid (by rw [← Hxs.out]; simp only [rootOk]; rw [← isEmpty_size, He.out, H9.out]; rfl)
          go_enter Try.func79, Try.ntmps79
          go_wp2_with fail
          refine (rightC_any 100 1 0 _ _ _ w.heap.size c _ xs _ (by omega) (by omega) (Nat.zero_le _) (by omega) (Lib.hid hs) (henv.2.2.2) (by omega) henv.1 (by omega) (by omega) henv.2.1).mono ?_
          rintro e w1 ⟨rfl, g1, h1⟩
          have hb := below_of_only g1 (B := w.heap.size) (by omega) (by simp; omega)
          have hfr : Below w.heap.size w w1 := henv.2.2.1.trans hb
          cases htr : treeP xs 100 0
          · have Htr := Lib.hid htr
            go_wp2_with fail
            go_ret
            exact ⟨ret_bool (by simp [rightB, Htr.out]), hfr⟩
          · rename_i j
            have hat1 := cell_of_one (h1 j htr)
            have ht1 := cell_of_one (henv.1.only g1 (by omega) (by omega)).t
            have Htr := Lib.hid htr
            clear h1 htr
            go_wp2_with fail
            go_ret
            refine ⟨ret_bool ?_, hfr⟩
            unfold rightB
            rw [Htr.out, hroot.out, decide_eq_true h10]
            rw [Bool.eq_iff_iff]
            simp
            omega
        · have H9 := Lib.hid h9
          go_enter Try.func79, Try.ntmps79
          go_wp2_with fail
          go_ret
          refine ⟨ret_bool ?_, by repeat (first | exact Below.refl _ _ | refine ext_alloc ?_ _ | refine ext_set ?_ (by simp) _)⟩
          have : rootOk xs = false := by rw [← Hxs.out]; simp only [rootOk]; rw [H9.out]; simp
          simp [rightB, this]
    · have h10' : (10000 : Int) < (xs.length : Int) := by omega
      go_enter Try.func79, Try.ntmps79
      go_wp2_with fail
      go_ret
      exact ⟨ret_bool (by simp [rightB, h10]), by repeat (first | exact Below.refl _ _ | refine ext_alloc ?_ _ | refine ext_set ?_ (by simp) _)⟩
end Go.Proofs.Ytblfeokjlecgkaa
