/- byLabel, and the function value that asks whether two labels are one. -/
import Derived.Test.YtblfeokjlecgkaaGreatSort
import Derived.Test.YtblfeokjlecgkaaGreatTKids
import Derived.Lib.SliceRun
import Derived.IntWalk
namespace Go.Proofs.YtblfeokjlecgkaaGreat
open Go.RowKit

set_option maxRecDepth 100000 in
set_option maxHeartbeats 1000000 in
theorem byLabel_any (A1 A2 : Option Addr) (n1 n2 c1 c2 B : Nat) (t1 t2 : List Nd) (x y : Nd) (w : World) (h1 : TyA w B A1 t1) (h2 : TyA w B A2 t2) (hx : t1[0]? = some x) (hy : t2[0]? = some y) (l1 : t1.length = n1) (l2 : t2.length = n2) :
    Calls Tryz.prog 33 #[.slice A1 n1 c1, .slice A2 n2 c2] w fun e w' => e = .returned (.int .i64 (cmpS x.s y.s)) ∧ ∃ q, w' = w.drewN q := by
  obtain ⟨b1, o1, rfl, hb1, c10, c11, c12⟩ := h1.at_ hx
  obtain ⟨b2, o2, rfl, hb2, d10, d11, d12⟩ := h2.at_ hy
  have hx0 : 0 < n1 := by have := getq_lt hx; omega
  have hy0 : 0 < n2 := by have := getq_lt hy; omega
  simp only [Nat.zero_mul, Nat.add_zero] at c10 c11 c12 d10 d11 d12
  clear hx hy l1 l2
  go_enter Tryz.func33, Tryz.ntmps33
  go_wp2_with fail
  go_quiet (first
    | (go_at_call 52; refine Calls.quiet_of_same ((compare_any _ _ _).mono fun e w1 h => ⟨h.1, h.2.symm⟩)))
  go_wp2_with fail
  go_ret
  exact ⟨rfl, _, rfl⟩

theorem cmpS_zero (a b : ByteArray) : (cmpS a b == 0) = decide (a = b) := by
  unfold cmpS
  by_cases h : a = b
  · subst h
    have := ltB_irrefl a
    unfold ltB at this
    simp [this]
  · have hne : (a.toList == b.toList) = false := by
      rw [beq_eq_false_iff_ne, ByteArray.toList_eq, ByteArray.toList_eq]
      intro e
      exact h (by obtain ⟨⟨l⟩⟩ := a; obtain ⟨⟨l'⟩⟩ := b; simp only at e; rw [e])
    rw [hne]
    split <;> simp [h]

set_option maxRecDepth 100000 in
set_option maxHeartbeats 1000000 in
theorem same_label_any (A1 A2 : Option Addr) (n1 n2 c1 c2 B g : Nat) (t1 t2 : List Nd) (x y : Nd) (w : World) (h1 : TyA w B A1 t1) (h2 : TyA w B A2 t2) (hx : t1[0]? = some x) (hy : t2[0]? = some y) (l1 : t1.length = n1) (l2 : t2.length = n2)
    (hg : w.cell? ⟨g, 0, none⟩ = some (.func (.func 33) #[] #[])) :
    Calls Tryz.prog 51 #[.slice A1 n1 c1, .slice A2 n2 c2, .pointer (some ⟨g, 0, none⟩)] w fun e w' => e = .returned (.bool (decide (x.s = y.s))) ∧ ∃ q, w' = w.drewN q := by
  have Hc := Lib.hid (byLabel_any A1 A2 n1 n2 c1 c2 B t1 t2 x y w h1 h2 hx hy l1 l2)
  have hz := cmpS_zero x.s y.s
  clear h1 h2 hx hy l1 l2
  cases hd : decide (x.s = y.s)
  all_goals
    rw [hd] at hz
    clear hd
    go_enter Tryz.func51, Tryz.ntmps51
    go_wp2_with fail
    refine Hc.out.mono ?_
    rintro e w1 ⟨rfl, q, rfl⟩
    go_wp2_with fail
    go_ret
    exact ⟨rfl, q, rfl⟩
end Go.Proofs.YtblfeokjlecgkaaGreat

/- Types sorted by their labels. -/
namespace Go.Proofs.YtblfeokjlecgkaaGreat
open Go.RowKit

def vq (vs : List (Option Addr × Nat × Nat)) (i : Nat) : Option Addr × Nat × Nat := (vs[i]?).getD (none, 0, 0)
theorem vq_at {vs : List (Option Addr × Nat × Nat)} {i : Nat} (h : i < vs.length) : vs[i]? = some (vq vs i) := by
  unfold vq
  rw [List.getElem?_eq_getElem h]
  rfl
def encV (vs : List (Option Addr × Nat × Nat)) {n : Nat} (i : Fin n) : Value := .slice (vq vs i.val).1 (vq vs i.val).2.1 (vq vs i.val).2.2

theorem flatMap_encS (l : List (Option Addr × Nat × Nat)) : l.flatMap encS = l.map fun v => Value.slice v.1 v.2.1 v.2.2 := by
  induction l with
  | nil => rfl
  | cons a l ih => rw [List.flatMap_cons, ih]; rfl

/-- The labels of types. -/
def labsT (tss : List (List Nd)) : List ByteArray := tss.map fun t => (headNd t).s

theorem OwnL.sortedV {n : Nat} {w : World} {base g cap : Nat} {vs : List (Option Addr × Nat × Nat)} (h : OwnS w base (some ⟨g, 0, none⟩) cap vs) (hL : vs.length = n) [Inhabited (Fin n)] (d : Array (Fin n)) (hd : d.size = n) (m : Nat) (os : Array Obj) :
    OwnS (sortWorld (encV vs) w g 0 m d os) base (some ⟨g, 0, none⟩) cap ((d.toList.map Fin.val).map (vq vs)) := by
  have hl2 : ((d.toList.map Fin.val).map (vq vs)).length = vs.length := by simp [hd, hL]
  have h' : w.ownsRow base 23 1 (.slice (some ⟨g, 0, none⟩) vs.length cap) vs.length (vs.flatMap encS) := h
  show (sortWorld (encV vs) w g 0 m d os).ownsRow base 23 1 (.slice (some ⟨g, 0, none⟩) ((d.toList.map Fin.val).map (vq vs)).length cap) ((d.toList.map Fin.val).map (vq vs)).length (((d.toList.map Fin.val).map (vq vs)).flatMap encS)
  rw [hl2]
  rcases h'.2 with ⟨hv, hn⟩ | ⟨g', cap', cur, hv, hbg, hg, hnc, hcm, hcs, htake⟩
  · cases hv
  · injection hv with hA' hl hc'
    injection hA' with hA'
    injection hA' with hA1
    subst hA1 hc'
    refine ⟨by rw [flatMap_len encS_len, hl2], .inr ⟨g, cap, _, rfl, hbg, sortWorld_block (encV vs) w g m d os hg, hnc, hcm, by simp [Go.Sort.putCells]; omega, ?_⟩⟩
    apply List.ext_getElem?
    intro k
    by_cases hk : k < n
    · rw [List.getElem?_take_of_lt (by omega)]
      have hkc : k < cur.size := by omega
      have hkd : k < d.size := by omega
      rw [flatMap_encS]
      simp only [Go.Sort.putCells, Array.getElem?_toList, Array.getElem?_mapIdx, Array.getElem?_eq_getElem hkc, Option.map_some, List.getElem?_map, Array.getElem?_eq_getElem hkd]
      rw [if_pos ⟨Nat.zero_le _, by omega⟩, Nat.sub_zero, getElem!_pos d k hkd]
      rfl
    · rw [List.getElem?_eq_none (by rw [List.length_take]; omega), List.getElem?_eq_none (by rw [flatMap_len encS_len, hl2]; omega)]

set_option maxHeartbeats 1000000 in
theorem sortT_any (vs : List (Option Addr × Nat × Nat)) (tss : List (List Nd)) (n g cap base B : Nat) (w : World) (hn : vs.length = n) (hn6 : n ≤ 1000000) (hS : Sls w B vs tss) (hB : B ≤ w.heap.size) (hne : ∀ ts ∈ tss, ts ≠ [])
    (hoff : ∀ q ∈ vs, Off (some ⟨g, 0, none⟩) q.1) (hown : OwnS w base (some ⟨g, 0, none⟩) cap vs) :
    Calls Tryz.prog 49 #[.slice (some ⟨g, 0, none⟩) n cap, .func (.func 33) #[] #[]] w fun e w' => e = .returned (.tuple #[]) ∧
      ∃ os : List Nat, os.Perm (List.range n) ∧ os.Pairwise (fun i j => ltB (lab (labsT tss) j) (lab (labsT tss) i) = false) ∧ OwnS w' base (some ⟨g, 0, none⟩) cap (os.map (vq vs)) ∧ w.grownBy w' (some g) := by
  match n, hn, hn6, hown with
  | 0, hn, _, hown =>
    refine (Tryz.slices_SortFunc_none (α := Nat) (some ⟨g, 0, none⟩) cap _ w).mono ?_
    rintro e w' ⟨rfl, rfl⟩
    have hv : vs = [] := List.eq_nil_of_length_eq_zero hn
    subst hv
    exact ⟨rfl, [], by simp, .nil, hown, ⟨rfl, rfl, rfl, Nat.le_refl _, fun _ _ _ => rfl⟩⟩
  | n + 1, hn, hn6, hown =>
    have hglt := (OwnL.block hown g rfl).2
    have hd : (List.finRange (n + 1)).toArray.size = n + 1 := by simp
    have hdl : ∀ j (hj : j < n + 1), (List.finRange (n + 1)).toArray[j]! = ⟨j, hj⟩ := fun j hj => by
      rw [getElem!_pos _ j (by simpa using hj)]
      simp
    have htl : tss.length = n + 1 := by rw [← hS.1]; exact hn
    have H := Tryz.slices_SortFunc (α := Fin (n + 1)) (encV vs) (fun _ => rfl) (cfF (labsT tss) (n + 1)) (swo (labsT tss) _) 33 #[] g 0 cap (List.finRange (n + 1)).toArray w
      (enters_of Tryz.func33 (by kernel_rfl) rfl)
      (CmpReads.lays fun m os dk hdk x y => by
        rw [hd] at hdk
        have hgr := sortWorld_grown (encV vs) w g m dk os
        have hel : ∀ z : Fin (n + 1), ∃ t q, t ≠ [] ∧ (tss[z.val]?) = some t ∧ q = headNd t ∧ t[0]? = some q ∧ (vq vs z.val).2.1 = t.length ∧ TyA (sortWorld (encV vs) w g 0 m dk os) B (vq vs z.val).1 t := fun z => by
          have hzl : z.val < vs.length := by rw [hn]; exact z.isLt
          obtain ⟨t, ht⟩ := getq_ex (show z.val < tss.length by rw [htl]; exact z.isLt)
          obtain ⟨h1, h2⟩ := hS.2 z.val _ t (vq_at hzl) ht
          have hnt := hne t (List.mem_of_getElem? ht)
          refine ⟨t, headNd t, hnt, ht, rfl, ?_, h1, ?_⟩
          · cases t with
            | nil => exact absurd rfl hnt
            | cons q qs => rfl
          · exact TyA.grown (A := some ⟨g, 0, none⟩) (n := 0) (c := 0) h2 hB (by simpa [Value.ownBlock] using hgr) (hoff _ (List.mem_of_getElem? (vq_at hzl)))
        obtain ⟨t1, q1, _, ht1, hq1, hx1, hl1, hT1⟩ := hel x
        obtain ⟨t2, q2, _, ht2, hq2, hx2, hl2, hT2⟩ := hel y
        have hc := byLabel_any (vq vs x.val).1 (vq vs y.val).1 (vq vs x.val).2.1 (vq vs y.val).2.1 (vq vs x.val).2.2 (vq vs y.val).2.2 B t1 t2 q1 q2 _ hT1 hT2 hx1 hx2 hl1.symm hl2.symm
        have e1 : lab (labsT tss) x.val = q1.s := by unfold lab labsT; rw [List.getElem?_map, ht1, hq1]; rfl
        have e2 : lab (labsT tss) y.val = q2.s := by unfold lab labsT; rw [List.getElem?_map, ht2, hq2]; rfl
        show Calls _ _ _ _ fun e w' => e = .returned (.int .i64 (cmpS (lab (labsT tss) x.val) (lab (labsT tss) y.val))) ∧ _
        rw [e1, e2]
        exact hc)
      (fun j hj => by
        rw [hd] at hj
        rw [hdl j hj]
        have hj2 : vs[j]? = some (vq vs j) := vq_at (by omega)
        obtain ⟨b, o, hA, _, hc⟩ := ReadL.slice (OwnL.read encS_len hown) hj2
        injection hA with hA
        injection hA with h1 h2 _
        subst h1 h2
        exact ⟨hc, by rw [Nat.zero_add]; exact World.ownsRow.frozenAt hown j⟩)
      hglt (by rw [hd]; omega)
    rw [hd] at H
    refine H.mono ?_
    rintro e w' ⟨rfl, d', k, os, ⟨hs, _, hperm⟩, hsorted, rfl⟩
    rw [hd] at hs
    refine ⟨rfl, d'.toList.map Fin.val, ?_, ?_, OwnL.sortedV hown hn d' hs k os, sortWorld_grown _ _ _ _ _ _⟩
    · have e1 : (d'.extract 0 (n + 1)).toList = d'.toList := by
        rw [Array.toList_extract, List.extract_eq_take_drop, Nat.sub_zero, List.drop_zero]
        exact List.take_of_length_le (by simp; omega)
      have e2 : ((List.finRange (n + 1)).toArray.extract 0 (n + 1)).toList = List.finRange (n + 1) := by
        rw [Array.toList_extract, List.extract_eq_take_drop, Nat.sub_zero, List.drop_zero]
        exact List.take_of_length_le (by simp)
      rw [e1, e2] at hperm
      refine (hperm.map Fin.val).trans (List.Perm.of_eq ?_)
      apply List.ext_getElem
      · simp
      · intro i h1 h2; simp
    · rw [List.pairwise_map, List.pairwise_iff_getElem]
      intro i j hi hj hij
      have hi' : i < d'.size := by simpa using hi
      have hj' : j < d'.size := by simpa using hj
      have := hsorted i j (Nat.zero_le _) hij (by omega)
      rw [ltOf_cf, getElem!_pos d' i hi', getElem!_pos d' j hj'] at this
      simpa using this
end Go.Proofs.YtblfeokjlecgkaaGreat

/- slices.Clone and slices.CompactFunc at rows of types. -/
namespace Go.Proofs.YtblfeokjlecgkaaGreat
open Go.RowKit

set_option maxRecDepth 100000 in
theorem cloneS_any (V : Option Addr) (cv : Nat) (vs : List (Option Addr × Nat × Nat)) (w : World) (hr : ReadS w w.heap.size V vs) (hl : vs.length ≤ 100000) :
    Calls Tryz.prog 48 #[.slice V vs.length cv] w fun e w' => ∃ V' cv', e = .returned (.slice V' vs.length cv') ∧ OwnS w' w.heap.size V' cv' vs ∧ Below w.heap.size w w' := by
  cases V with
  | none =>
    have hv : vs = [] := by
      cases vs with
      | nil => rfl
      | cons v vs =>
        obtain ⟨_, _, h, _⟩ := hr (by simp)
        cases h
    subst hv
    go_enter Tryz.func48, Tryz.ntmps48
    go_wp2_with fail
    rw [Lib.run_eql_slice_nil _ _ _ _ _ _ _ _ Tryz.underlying24]
    go_wp2_with fail
    go_ret
    exact ⟨none, 0, rfl, OwnL.nil, Below.refl _ _⟩
  | some a =>
    have hown0 := own_empty 23 1 encS w
    have hb0 := ext_alloc (Below.refl w.heap.size w) (.cells #[] 23)
    go_enter Tryz.func48, Tryz.ntmps48
    go_wp2_with fail
    rw [Lib.run_eql_slice_nil _ _ _ _ _ _ _ _ Tryz.underlying24]
    go_wp2_with (at_builtin; refine wpList_appS rfl (.tmp 5) (.tmp 6) rfl w.heap.size (l := []) rfl hown0 (l2 := vs) rfl (ReadL.below hr hb0) (by simp; omega) (by simp) ?_; intro A2 cap2 w3 hown3 hg3 _)
    have hbel3 := ext_app hb0 hg3 (fun k hk => (OwnL.block hown0 k hk).1)
    go_wp2_with fail
    go_ret
    exact ⟨A2, cap2, by simp, by simpa using hown3, hbel3⟩

/-- A store of a slice into a row of slices. -/
theorem OwnL.setS {w : World} {base : Nat} {A : Option Addr} {cap : Nat} {l : List (Option Addr × Nat × Nat)} (h : OwnS w base A cap l) {j : Nat} (hj : j < l.length) (v : Option Addr × Nat × Nat) :
    ∃ g, A = some ⟨g, 0, none⟩ ∧ base ≤ g ∧ g < w.heap.size ∧ (∃ m, l[j]? = some m ∧ w.cell? ⟨g, j, none⟩ = some (.slice m.1 m.2.1 m.2.2)) ∧ w.frozen? ⟨g, j, none⟩ = false ∧
      OwnS (w.setCell ⟨g, j, none⟩ (.slice v.1 v.2.1 v.2.2)) base A cap (l.set j v) ∧ w.grownBy (w.setCell ⟨g, j, none⟩ (.slice v.1 v.2.1 v.2.2)) (some g) := by
  obtain ⟨m, hm⟩ := getq_ex hj
  obtain ⟨b, o, hA, hb, hc⟩ := ReadL.slice (OwnL.read encS_len h) hm
  have h' : w.ownsRow base 23 1 (.slice A l.length cap) l.length (l.flatMap encS) := h
  rcases h'.2 with ⟨hv, hn⟩ | ⟨g, cap', cur, hv, hbg, hg, hnc, hcm, hcs, htake⟩
  · injection hv with hA' hl hc'
    rw [hA'] at hA
    cases hA
  · injection hv with hA' hl hc'
    subst hA'
    injection hA with hA
    injection hA with hA1 hA2 hA3
    subst hA1
    rw [← hA2, Nat.zero_add] at hc
    obtain ⟨h2, h3⟩ := World.ownsRow.stored h' j (.slice v.1 v.2.1 v.2.2)
    refine ⟨g, rfl, hbg, hb, ⟨m, hm, hc⟩, World.ownsRow.frozenAt h' j, ?_, h3⟩
    show (w.setCell ⟨g, j, none⟩ (.slice v.1 v.2.1 v.2.2)).ownsRow base 23 1 (.slice (some ⟨g, 0, none⟩) (l.set j v).length cap) (l.set j v).length ((l.set j v).flatMap encS)
    rw [List.length_set, flatMap_encS, List.map_set, ← flatMap_encS]
    exact h2

/-- No two neighbours below a place are one. -/
def AdjOk (ls : List ByteArray) (n : Nat) : Prop := ∀ j, 1 ≤ j → j < n → lab ls j ≠ lab ls (j - 1)

theorem AdjOk.one {ls : List ByteArray} {n : Nat} (h : n < 2) : AdjOk ls n := fun j h1 h2 => by omega
theorem AdjOk.step {ls : List ByteArray} {k : Nat} (h : AdjOk ls k) (hne : lab ls k ≠ lab ls (k - 1)) : AdjOk ls (k + 1) := fun j h1 h2 => by
  by_cases hj : j = k
  · subst hj; exact hne
  · exact h j h1 (by omega)

/-- What CompactFunc tells by its length. -/
def CompPost (ls : List ByteArray) (n g cap : Nat) (w : World) (e : Ending) (w' : World) : Prop := ∃ r, e = .returned (.slice (some ⟨g, 0, none⟩) r cap) ∧ (r = n ↔ AdjOk ls n) ∧ w.grownBy w' (some g)

theorem grown_setCells {w : World} {g : Nat} : ∀ (us : List Value) (o : Nat) (w' : World), w.grownBy w' (some g) → w.grownBy (w'.setCells g o us) (some g)
  | [], _, _, h => h
  | u :: us, o, _w', h => grown_setCells us (o + 1) _ (only_setCell h (Or.inl rfl) u)

theorem zeroTy (w : World) : (zeroValue 23).run Tryz.prog w = .ok (.slice none 0 0) w := by kernel_rfl

/-- An element of a row of types: its nodes, its label. -/
theorem elemT {w : World} {B : Nat} {vs : List (Option Addr × Nat × Nat)} {tss : List (List Nd)} (hS : Sls w B vs tss) (hne : ∀ ts ∈ tss, ts ≠ []) {q : Option Addr × Nat × Nat} {i : Nat} (hq : vs[i]? = some q) : ∃ t x, tss[i]? = some t ∧ t[0]? = some x ∧ x.s = lab (labsT tss) i ∧ t.length = q.2.1 ∧ TyA w B q.1 t := by
  have hi := getq_lt hq
  obtain ⟨t, ht⟩ := getq_ex (show i < tss.length by rw [← hS.1]; exact hi)
  obtain ⟨h1, h2⟩ := hS.2 i q t hq ht
  have hnt := hne t (List.mem_of_getElem? ht)
  cases t with
  | nil => exact absurd rfl hnt
  | cons x xs =>
    refine ⟨x :: xs, x, ht, rfl, ?_, h1.symm, h2⟩
    unfold lab labsT
    rw [List.getElem?_map, ht]
    rfl

set_option maxRecDepth 100000 in
set_option maxHeartbeats 4000000 in
theorem compactT_any (vs : List (Option Addr × Nat × Nat)) (tss : List (List Nd)) (n g cap base B gb : Nat) (w : World) (hn : vs.length = n) (hn6 : n ≤ 100000) (hS : Sls w B vs tss) (hB : B ≤ w.heap.size) (hne : ∀ ts ∈ tss, ts ≠ [])
    (hoff : ∀ q ∈ vs, Off (some ⟨g, 0, none⟩) q.1) (hown : OwnS w base (some ⟨g, 0, none⟩) cap vs) (hbox : w.cell? ⟨gb, 0, none⟩ = some (.func (.func 33) #[] #[])) (hgb : gb ≠ g) :
    Calls Tryz.prog 50 #[.slice (some ⟨g, 0, none⟩) n cap, .func (.func 51) #[] #[.pointer (some ⟨gb, 0, none⟩)]] w (CompPost (labsT tss) n g cap w) := by
  have hgbl := World.block_lt_of_cell? w _ hbox
  have hgl := (OwnL.block hown g rfl).2
  -- one question
  have hask : ∀ (W : World) (q1 q2 : Option Addr × Nat × Nat) (i1 i2 : Nat), w.grownBy W (some g) → vs[i1]? = some q1 → vs[i2]? = some q2 →
      Calls Tryz.prog 51 #[.slice q1.1 q1.2.1 q1.2.2, .slice q2.1 q2.2.1 q2.2.2, .pointer (some ⟨gb, 0, none⟩)] W fun e w' => e = .returned (.bool (decide (lab (labsT tss) i1 = lab (labsT tss) i2))) ∧ ∃ q, w' = W.drewN q := fun W q1 q2 i1 i2 hW h1 h2 => by
    obtain ⟨t1, x1, _, hx1, hs1, hl1, hT1⟩ := elemT hS hne h1
    obtain ⟨t2, x2, _, hx2, hs2, hl2, hT2⟩ := elemT hS hne h2
    have hW' : w.grownBy W ((Value.slice (some ⟨g, 0, none⟩) 0 0).ownBlock) := by simpa [Value.ownBlock] using hW
    have hc := same_label_any q1.1 q2.1 q1.2.1 q2.2.1 q1.2.2 q2.2.2 B gb t1 t2 x1 x2 W (hT1.grown hB hW' (hoff _ (List.mem_of_getElem? h1))) (hT2.grown hB hW' (hoff _ (List.mem_of_getElem? h2))) hx1 hx2 hl1 hl2 ((ocell hW).1 gb 0 hgbl hgb ▸ hbox)
    rw [hs1, hs2] at hc
    exact hc
  have Hask := Lib.hid hask
  have Hown := Lib.hid hown
  have Hn := Lib.hid hn
  clear hask hS hne hoff hbox hn
  by_cases h2 : n < 2
  · have h2i : (n : Int) < 2 := by omega
    go_enter Tryz.func50, Tryz.ntmps50
    go_wp2_with fail
    go_ret
    exact ⟨n, rfl, ⟨fun _ => AdjOk.one h2, fun _ => rfl⟩, only_refl _ _⟩
  · have h2i : ¬ (n : Int) < 2 := by omega
    go_enter Tryz.func50, Tryz.ntmps50
    go_wp2_with fail
    go_loopw [5] (fun s5 wr => ∃ k : Nat, 1 ≤ k ∧ k ≤ n ∧ s5 = .int .i64 k ∧ Hid (OwnS wr base (some ⟨g, 0, none⟩) cap vs ∧ w.grownBy wr (some g)) ∧ Hid (AdjOk (labsT tss) k)) (fun s5 _ => n - (intOf s5).toNat)
    case atStart => exact ⟨1, Nat.le_refl _, by omega, rfl, Lib.hid ⟨Hown.out, only_refl _ _⟩, Lib.hid (AdjOk.one (by omega))⟩
    case round =>
      obtain ⟨k, hk1, hk, rfl, M0, hadj⟩ := hrel
      by_cases hlt : k < n
      · obtain ⟨v1, hv1⟩ := getq_ex (show k < vs.length by rw [Hn.out]; exact hlt)
        obtain ⟨v0, hv0⟩ := getq_ex (show k - 1 < vs.length by rw [Hn.out]; omega)
        obtain ⟨_, _, hA, _, c1⟩ := ReadL.slice (OwnL.read encS_len M0.out.1) hv1
        injection hA with hA
        injection hA with hA1 hA2 _
        subst hA1 hA2
        obtain ⟨_, _, hA, _, c0⟩ := ReadL.slice (OwnL.read encS_len M0.out.1) hv0
        injection hA with hA
        injection hA with hA1 hA2 _
        subst hA1 hA2
        rw [Nat.zero_add] at c0 c1
        have hglr : g < wr.heap.size := (OwnL.block M0.out.1 g rfl).2
        have hk0 : ((k - 1 : Nat) : Int) = (k : Int) - 1 := by omega
        have hkn : k - 1 < n := by omega
        have hcap : n ≤ cap := by
          obtain ⟨_, _, _, _, h1, _⟩ := OwnL.form M0.out.1 (by rw [Hn.out]; omega)
          rw [Hn.out] at h1
          exact h1
        have hi1 : (0 : Int) ≤ (k : Int) - 1 := by omega
        have hi2 : (k : Int) - 1 < (n : Int) := by omega
        have hi3 : ((k : Int) - 1).toNat = k - 1 := by omega
        have hi4 : (1 : Int) ≤ (k : Int) := by omega
        have hi5 : IntKind.i64.wrap ((k : Int) - 1) = (k : Int) - 1 := IntWalk.i64_in _ (by omega)
        cases hd : decide (lab (labsT tss) k = lab (labsT tss) (k - 1))
        · have Hq := Lib.hid (fun W hW => by have h := Hask.out W v1 v0 k (k - 1) hW hv1 hv0; rw [hd] at h; exact h)
          have Hd := Lib.hid hd
          clear hv1 hv0 hd hown
          go_wp2_with fail
          go_quiet ((go_at_call 51; refine Calls.quiet_of (Hq.out _ ?_); repeat (first | exact M0.out.2 | refine only_drewN ?_ _ | refine only_drew ?_)))
          go_wp2_with fail
          go_roundw
          case rel => exact ⟨k + 1, by omega, hlt, by go_num, Lib.hid ⟨OwnL.drewN M0.out.1 _, only_drewN M0.out.2 _⟩, Lib.hid (hadj.out.step (by simpa using Hd.out))⟩
          case measure => simp [intOf]; omega
        · have Hq := Lib.hid (fun W hW => by have h := Hask.out W v1 v0 k (k - 1) hW hv1 hv0; rw [hd] at h; exact h)
          have Hd := Lib.hid hd
          clear hv1 hv0 hd hown
          go_wp2_with fail
          go_quiet ((go_at_call 51; refine Calls.quiet_of (Hq.out _ ?_); repeat (first | exact M0.out.2 | refine only_drewN ?_ _ | refine only_drew ?_)))
          have hkc : k < cap := by omega
          have hkn1 : k ≤ n := hk
          go_wp2_with fail
          clear c0 c1 Hq
          go_loopw [5, 7] (fun s5 s7 wr => ∃ (kk k2 : Nat) (us : List (Option Addr × Nat × Nat)), s5 = .int .i64 kk ∧ s7 = .int .i64 k2 ∧ k ≤ kk ∧ kk < k + k2 ∧ 1 ≤ k2 ∧ k + k2 ≤ n ∧ Hid (us.length = n ∧ ∀ u ∈ us, u ∈ vs) ∧ Hid (OwnS wr base (some ⟨g, 0, none⟩) cap us ∧ w.grownBy wr (some g)))
            (fun _ s7 _ => n - (intOf s7).toNat)
          case atStart => exact ⟨k, 1, vs, rfl, rfl, Nat.le_refl _, by omega, Nat.le_refl _, by omega, Lib.hid ⟨Hn.out, fun u hu => hu⟩, Lib.hid ⟨OwnL.drewN M0.out.1 _, only_drewN M0.out.2 _⟩⟩
          case round =>
            obtain ⟨kk, k2, us, rfl, rfl, hkk, hkk2, hk21, hk2n, hus, M⟩ := hrel
            by_cases hlt2 : k + k2 < n
            · obtain ⟨u1, hu1⟩ := getq_ex (show k + k2 < us.length by rw [hus.out.1]; exact hlt2)
              obtain ⟨u0, hu0⟩ := getq_ex (show k + (k2 - 1) < us.length by rw [hus.out.1]; omega)
              obtain ⟨i1, hi1'⟩ := List.getElem?_of_mem (hus.out.2 u1 (List.mem_of_getElem? hu1))
              obtain ⟨i0, hi0'⟩ := List.getElem?_of_mem (hus.out.2 u0 (List.mem_of_getElem? hu0))
              obtain ⟨_, _, hA, _, c1⟩ := ReadL.slice (OwnL.read encS_len M.out.1) hu1
              injection hA with hA
              injection hA with hA1 hA2 _
              subst hA1 hA2
              obtain ⟨_, _, hA, _, c0⟩ := ReadL.slice (OwnL.read encS_len M.out.1) hu0
              injection hA with hA
              injection hA with hA1 hA2 _
              subst hA1 hA2
              rw [Nat.zero_add] at c0 c1
              have gg := M.out.2.size
              have hgl2 : g < wr.heap.size := by omega
              have ha1 : (0 : Int) ≤ (k2 : Int) - 1 := by omega
              have ha2 : (k2 : Int) - 1 < ((n - k : Nat) : Int) := by omega
              have ha3 : ((k2 : Int) - 1).toNat = k2 - 1 := by omega
              have hb1 : (1 : Int) ≤ (k2 : Int) := by omega
              have hb2 : IntKind.i64.wrap ((k2 : Int) - 1) = (k2 : Int) - 1 := IntWalk.i64_in _ (by omega)
              have ha4 : (k2 : Int) < ((n - k : Nat) : Int) := by omega
              have ha5 : k2 < n - k := by omega
              have ha6 : k2 - 1 < n - k := by omega
              have ha7 : kk < n := by omega
              obtain ⟨g', hg', _, _, ⟨m', _, hc'⟩, hfz, hset, hgr⟩ := OwnL.setS M.out.1 (j := kk) (by rw [hus.out.1]; omega) u1
              injection hg' with hg'
              injection hg' with hg1' _ _
              subst hg1'
              have hus' : Hid ((us.set kk u1).length = n ∧ ∀ u ∈ us.set kk u1, u ∈ vs) := Lib.hid ⟨by rw [List.length_set]; exact hus.out.1, fun u hu => by
                rcases List.mem_or_eq_of_mem_set hu with h | h
                · exact hus.out.2 u h
                · rw [h]; exact hus.out.2 u1 (List.mem_of_getElem? hu1)⟩
              clear hu1 hu0 hset hgr
              cases hd2 : decide (lab (labsT tss) i1 = lab (labsT tss) i0)
              · have Hq := Lib.hid (fun W hW => by have h := Hask.out W u1 u0 i1 i0 hW hi1' hi0'; rw [hd2] at h; exact h)
                clear hi1' hi0' hd2
                go_wp2_with fail
                go_quiet ((go_at_call 51; refine Calls.quiet_of (Hq.out _ ?_); repeat (first | exact M.out.2 | refine only_drewN ?_ _ | refine only_drew ?_)))
                go_wp2_with fail
                obtain ⟨g2, hg2, _, _, _, _, hset, hgr⟩ := OwnL.setS (OwnL.drewN M.out.1 nq) (j := kk) (by rw [hus.out.1]; omega) u1
                injection hg2 with hg2
                injection hg2 with hg2 _ _
                subst hg2
                exact ⟨⟨kk + 1, k2 + 1, us.set kk u1, by go_num, by go_num, by omega, by omega, by omega, by omega, hus', Lib.hid ⟨hset, only_trans (only_drewN M.out.2 _) hgr⟩⟩, by simp [intOf]; omega⟩
              · have Hq := Lib.hid (fun W hW => by have h := Hask.out W u1 u0 i1 i0 hW hi1' hi0'; rw [hd2] at h; exact h)
                clear hi1' hi0' hd2
                go_wp2_with fail
                go_quiet ((go_at_call 51; refine Calls.quiet_of (Hq.out _ ?_); repeat (first | exact M.out.2 | refine only_drewN ?_ _ | refine only_drew ?_)))
                go_wp2_with fail
                go_roundw
                case rel => exact ⟨kk, k2 + 1, us, rfl, by go_num, hkk, by omega, by omega, by omega, hus, Lib.hid ⟨OwnL.drewN M.out.1 _, only_drewN M.out.2 _⟩⟩
                case measure => simp [intOf]; omega
            · have hkn2 : kk < n := by omega
              have hcl : ∀ ty, (Builtin.clear_ #[24] ty #[.slice (some ⟨g, kk, none⟩) (n - kk) (cap - kk)]).run Tryz.prog wr = .ok (.tuple #[]) (wr.setCells g kk (List.replicate (n - kk) (.slice none 0 0))) :=
                fun ty => Lib.run_clear_slice wr _ _ ty _ Tryz.underlying24 zeroTy rfl rfl g kk _ _ (by omega) (fun j hj => by
                  obtain ⟨u, hu⟩ := getq_ex (show kk + j < us.length by rw [hus.out.1]; omega)
                  obtain ⟨_, _, hA, _, c1⟩ := ReadL.slice (OwnL.read encS_len M.out.1) hu
                  injection hA with hA
                  injection hA with hA1 hA2 _
                  subst hA1 hA2
                  rw [Nat.zero_add] at c1
                  rw [c1]; rfl) (fun j hj => World.ownsRow.frozenAt M.out.1 (kk + j))
              have hkc2 : kk < cap := by omega
              go_wp2_with fail
              go_ret
              refine ⟨kk, rfl, ⟨fun e => absurd e (by omega), fun h => absurd (by simpa using Hd.out) (h k hk1 hlt)⟩, grown_setCells _ _ _ M.out.2⟩
      · have hkn : k = n := by omega
        have Hkn := Lib.hid hkn
        clear hkn hown
        go_wp2_with fail
        go_ret
        exact ⟨n, rfl, ⟨fun _ => by rw [← Hkn.out]; exact hadj.out, fun _ => rfl⟩, M0.out.2⟩
end Go.Proofs.YtblfeokjlecgkaaGreat
