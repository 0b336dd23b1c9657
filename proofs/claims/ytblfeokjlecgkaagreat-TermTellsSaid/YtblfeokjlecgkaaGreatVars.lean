/- term.Vars, walked. -/
import Derived.Test.YtblfeokjlecgkaaGreatFew
import Derived.Test.YtblfeokjlecgkaaGreatTKids
import Derived.Test.YtblfeokjlecgkaaGreatSort
namespace Go.Proofs.YtblfeokjlecgkaaGreat
open Go.RowKit Go.Sort

/-- The numbers of variables, in their order. -/
def numsV (xs : List Nd) : List Int := (xs.filter fun x => isVarB x.k).map (·.n)

def varsL (xs : List Nd) : List Int := Lib.compact ((numsV xs).mergeSort fun x y => decide (x ≤ y))

theorem numsV_step {xs : List Nd} {k : Nat} {x : Nd} (h : xs[k]? = some x) : numsV (xs.take (k + 1)) = numsV (xs.take k) ++ if isVarB x.k = true then [x.n] else [] := by
  unfold numsV
  rw [List.take_add_one, h, List.filter_append, List.map_append]
  congr 1
  cases h2 : isVarB x.k <;> simp [h2]

theorem compact_mem {zs : List Int} {x : Int} : x ∈ Lib.compact zs ↔ x ∈ zs := by
  constructor
  · intro h
    unfold Lib.compact Lib.compactUpTo at h
    obtain ⟨i, hi, rfl⟩ := List.mem_map.1 h
    have hi' : i < zs.length := List.mem_range.1 (List.mem_filter.1 hi).1
    simp [getElem!_pos, hi']
  · intro h
    have key : ∀ (m : Nat), ∀ j, j < m → zs.toArray[j]! ∈ Lib.compactUpTo zs.toArray m := by
      intro m
      induction m with
      | zero => intro j hj; omega
      | succ m ih =>
        intro j hj
        rw [Lib.compactUpTo_succ]
        by_cases hjm : j < m
        · exact List.mem_append_left _ (ih j hjm)
        · have : j = m := by omega
          subst this
          by_cases hk : Lib.keeps zs.toArray j = true
          · rw [if_pos hk]
            exact List.mem_append_right _ (by simp)
          · have hk' : ¬ (j = 0 ∨ zs.toArray[j]! ≠ zs.toArray[j - 1]!) := by simpa [Lib.keeps] using hk
            have h0 : j ≠ 0 := fun e => hk' (.inl e)
            have he : zs.toArray[j]! = zs.toArray[j - 1]! := Classical.byContradiction fun e => hk' (.inr e)
            rw [he]
            exact List.mem_append_left _ (ih (j - 1) (by omega))
    obtain ⟨i, hi, rfl⟩ := List.getElem_of_mem h
    have := key zs.length i hi
    have e : zs.toArray[i]! = zs[i] := by rw [getElem!_pos _ _ (by simpa using hi)]; simp
    rw [e] at this
    exact this

theorem varsL_mem {xs : List Nd} {n : Int} : n ∈ varsL xs ↔ ∃ y ∈ xs, isVarB y.k = true ∧ y.n = n := by
  unfold varsL
  rw [compact_mem, List.mem_mergeSort]
  unfold numsV
  simp [List.mem_map, List.mem_filter, and_assoc]

theorem numsV_le (xs : List Nd) : (numsV xs).length ≤ xs.length := by
  unfold numsV
  rw [List.length_map]
  exact List.length_filter_le _ _

theorem compact_le (zs : List Int) : (Lib.compact zs).length ≤ zs.length := by
  unfold Lib.compact Lib.compactUpTo
  rw [List.length_map]
  refine Nat.le_trans (List.length_filter_le _ _) ?_
  simp

theorem varsL_le (xs : List Nd) : (varsL xs).length ≤ xs.length := by
  unfold varsL
  have h1 := compact_le ((numsV xs).mergeSort fun x y => decide (x ≤ y))
  have h2 := numsV_le xs
  rw [List.length_mergeSort] at h1
  omega

def VarsPost (L : List Int) (w : World) (e : Ending) (w' : World) : Prop := ∃ A' c', e = .returned (.slice A' L.length c') ∧ ReadI w' w'.heap.size A' L ∧ Below w.heap.size w w'

theorem own_holds {w : World} {base : Nat} {g cap : Nat} {l : List Int} (h : OwnI w base (some ⟨g, 0, none⟩) cap l) : Holds (Value.int .i64) w g 0 l.toArray := fun j hj => by
  have hj' : j < l.length := by simpa using hj
  obtain ⟨b, o, hA, _, hc⟩ := ReadL.int (OwnL.read encI_len h) (List.getElem?_eq_getElem hj')
  injection hA with hA
  injection hA with h1 h2 _
  subst h1 h2
  refine ⟨?_, by rw [Nat.zero_add]; exact World.ownsRow.frozenAt h j⟩
  rw [hc, getElem!_pos l.toArray j hj]
  simp

theorem holds_read {w : World} {g : Nat} {l : List Int} (h : Holds (Value.int .i64) w g 0 l.toArray) (hg : g < w.heap.size) : ReadI w w.heap.size (some ⟨g, 0, none⟩) l := fun _ => by
  refine ⟨g, 0, rfl, hg, fun i x hx j u hu => ?_⟩
  have hi := getq_lt hx
  have hj : j = 0 := by
    have := getq_lt hu
    rw [encI_len] at this
    omega
  subst hj
  simp [encI] at hu
  subst hu
  have := (h i (by simpa using hi)).1
  rw [getElem!_pos l.toArray i (by simpa using hi)] at this
  rw [List.getElem?_eq_getElem hi] at hx
  injection hx with hx
  rw [show 0 + i * 1 + 0 = 0 + i by omega, this]
  simp [← hx]

/-- slices.Sort, slices.Compact, of a row of the call's own. -/
theorem sortI_any {w : World} {base g cap : Nat} {l : List Int} (h : OwnI w base (some ⟨g, 0, none⟩) cap l) (hl : l.length ≤ 1000000) :
    Calls Tryz.prog 22 #[.slice (some ⟨g, 0, none⟩) l.length cap] w fun e w' => e = .returned (.tuple #[]) ∧ Holds (Value.int .i64) w' g 0 (l.mergeSort fun x y => decide (x ≤ y)).toArray ∧ w.grownBy w' (some g) := by
  have hg := (OwnL.block h g rfl).2
  refine (Tryz.slices_Sort_int g 0 cap l w (own_holds h) hg (by omega)).mono ?_
  rintro e w' ⟨rfl, n, os, rfl⟩
  refine ⟨rfl, holds_grow _ _ _ _ _ _ (by simpa [putRow, mapBlock] using hg) (holds_putRow _ _ _ _ l.toArray _ (own_holds h) (by simp)), ?_⟩
  have := sortWorld_grown (Value.int .i64) w g n (l.mergeSort fun x y => decide (x ≤ y)).toArray os
  exact this

theorem compactI_any {w : World} {g cap : Nat} {l : List Int} (h : Holds (Value.int .i64) w g 0 l.toArray) (hg : g < w.heap.size) (hl : l.length ≤ 1000000) (hc : l.length ≤ cap) :
    Calls Tryz.prog 23 #[.slice (some ⟨g, 0, none⟩) l.length cap] w fun e w' => e = .returned (.slice (some ⟨g, 0, none⟩) (Lib.compact l).length cap) ∧ ReadI w' w'.heap.size (some ⟨g, 0, none⟩) (Lib.compact l) ∧ w.grownBy w' (some g) := by
  refine (Tryz.slices_Compact_int g 0 cap l w h (by omega) hc).mono ?_
  rintro e w' ⟨rfl, q, rfl⟩
  have hle := compact_le l
  have hh := holds_putRow (Value.int .i64) (Go.Sort.ahead w q) g 0 l.toArray (Lib.compact l ++ List.replicate (l.length - (Lib.compact l).length) 0).toArray h (by simp; omega)
  have hgr := sortWorld_grown (Value.int .i64) w g q (Lib.compact l ++ List.replicate (l.length - (Lib.compact l).length) 0).toArray #[]
  have hsz : g < (putRow (Value.int .i64) (Go.Sort.ahead w q) g 0 (Lib.compact l ++ List.replicate (l.length - (Lib.compact l).length) 0).toArray).heap.size := by simpa [putRow, mapBlock] using hg
  refine ⟨rfl, fun hne => ?_, ?_⟩
  · obtain ⟨b, o, hA, hb, hc⟩ := holds_read hh hsz (by
      intro e
      simp at e
      exact hne e.1)
    exact ⟨b, o, hA, hb, fun i x hx => hc i x (by rw [List.getElem?_append_left (getq_lt hx)]; exact hx)⟩
  · have e : sortWorld (Value.int .i64) w g 0 q (Lib.compact l ++ List.replicate (l.length - (Lib.compact l).length) 0).toArray #[] = putRow (Value.int .i64) (Go.Sort.ahead w q) g 0 (Lib.compact l ++ List.replicate (l.length - (Lib.compact l).length) 0).toArray := by
      show grow _ #[] = _
      rw [grow_empty]
    rw [← e]
    exact hgr

set_option maxRecDepth 100000 in
set_option maxHeartbeats 4000000 in
theorem vars_any (A : Option Addr) (c : Nat) (xs : List Nd) (w : World) (ha : TyA w w.heap.size A xs) (hl : xs.length ≤ 1000000) :
    Calls Tryz.prog 9 #[.slice A xs.length c] w (VarsPost (varsL xs) w) := by
  have Ha := Lib.hid ha
  clear ha
  go_enter Tryz.func9, Tryz.ntmps9
  go_wp2_with fail
  go_loopw [3, 8] (fun s3 s8 wr => ∃ (k : Nat) (V : Option Addr) (cv : Nat) (l : List Int), s3 = .slice V l.length cv ∧ s8 = .int .i64 k ∧ k ≤ xs.length ∧ l.length ≤ 1000000 ∧ Hid (l = numsV (xs.take k)) ∧ Hid (OwnI wr w.heap.size V cv l ∧ Below w.heap.size w wr))
    (fun _ s8 _ => xs.length - (intOf s8).toNat)
  case atStart => exact ⟨0, none, 0, [], rfl, rfl, Nat.zero_le _, by simp, Lib.hid (by simp [numsV]), Lib.hid ⟨OwnL.nil, Below.refl _ _⟩⟩
  case round =>
    obtain ⟨k, V, cv, l, rfl, rfl, hk, hl6, hgood, M⟩ := hrel
    by_cases hp : k < xs.length
    · obtain ⟨x, hx⟩ := getq_ex hp
      obtain ⟨b1, o1, hA, hb1, c10, c11, c12⟩ := ((Ha.out.below M.out.2).more M.out.2.size).at_ hx
      subst hA
      have hlk : l.length ≤ k := by
        rw [hgood.out]
        have := numsV_le (xs.take k)
        rw [List.length_take] at this
        omega
      have Hx := Lib.hid hx
      clear hx
      go_wp2_with fail
      refine (tIsVar_any _ _ _ _).mono ?_
      rintro e w2 ⟨rfl, hb2⟩
      obtain ⟨hcb, hfb⟩ := bcell hb2
      have z2 := hb2.size
      simp only [World.size_alloc] at z2
      replace M := Lib.hid (And.intro (OwnL.below (OwnL.alloc M.out.1 _) hb2 (Nat.le_refl _)) (ext_trans (ext_alloc M.out.2 _) hb2))
      clear hb2
      cases hv : isVarB x.k
      · have HV := Lib.hid hv
        clear hcb hfb
        go_wp2_with fail
        go_roundw
        case rel => exact ⟨k + 1, V, cv, l, rfl, by go_num, hp, hl6, Lib.hid (by rw [numsV_step Hx.out, HV.out, hgood.out]; simp), M⟩
        case measure => simp [intOf]; omega
      · have HV := Lib.hid hv
        go_wp2_with (at_builtin; refine wpList_appI rfl (.tmp 14) (.tmp 17) rfl w.heap.size (l := l) rfl (OwnL.alloc M.out.1 _) (l2 := [x.n]) rfl (readI_new _ x.n) (by simp; omega) (by have := M.out.2.size; simp; omega) ?_; intro V2 cv2 w8 hown8 hg8 hA8; replace M := Lib.hid (And.intro hown8 (ext_app (ext_alloc M.out.2 _) hg8 (fun k hk => (OwnL.block M.out.1 k hk).1))); clear hown8 hg8 hA8)
        go_roundw
        case rel => exact ⟨k + 1, V2, cv2, _, by simp, by go_num, hp, by simp; omega, Lib.hid (by rw [numsV_step Hx.out, HV.out, hgood.out]; rfl), M⟩
        case measure => simp [intOf]; omega
    · have hkk : k = xs.length := by omega
      have hln : l = numsV xs := by rw [hgood.out, hkk, List.take_length]
      by_cases h0 : l = []
      · subst h0
        have e : varsL xs = [] := by unfold varsL; rw [← hln]; simp [Lib.compact, Lib.compactUpTo]
        have E := Lib.hid e
        have Hkk := Lib.hid hkk
        clear hln e hkk
        go_wp2_with fail
        refine (Tryz.slices_Sort_int_none V cv wr).mono ?_
        rintro e w2 ⟨rfl, rfl⟩
        go_wp2_with fail
        refine (Tryz.slices_Compact_int_empty V cv _).mono ?_
        rintro e w3 ⟨rfl, rfl⟩
        go_wp2_with fail
        go_ret
        unfold VarsPost
        rw [E.out]
        exact ⟨_, _, rfl, ReadL.nil, M.out.2⟩
      · obtain ⟨b, o, rfl, hb, hc⟩ := OwnL.read encI_len M.out.1 h0
        have ho : o = 0 := by
          have h' := M.out.1
          rcases h'.2 with ⟨hv, hn⟩ | ⟨g, cap', cur, hv, _⟩
          · cases hv
          · injection hv with hv
            injection hv with hv
            injection hv
        subst ho
        have hbw := (OwnL.block M.out.1 b rfl)
        have hcap := OwnL.le_cap M.out.1
        have Hln := Lib.hid hln
        have h1 := Lib.hid (sortI_any M.out.1 hl6)
        have Hkk := Lib.hid hkk
        clear hln hkk hc h0
        go_wp2_with fail
        refine h1.out.mono ?_
        rintro e w2 ⟨rfl, hh, hg⟩
        have h2 := compactI_any (cap := cv) hh (Nat.lt_of_lt_of_le hbw.2 hg.size) (by simpa using hl6) (by simpa using hcap)
        rw [List.length_mergeSort] at h2
        have H2 := Lib.hid h2
        have Hg := Lib.hid hg
        clear h2 hg hh h1
        go_wp2_with fail
        refine H2.out.mono ?_
        rintro e w3 ⟨rfl, hr, hg3⟩
        have Hr := Lib.hid (And.intro hr hg3)
        clear hr hg3 H2
        go_wp2_with fail
        go_ret
        unfold VarsPost varsL
        rw [← Hln.out]
        exact ⟨_, _, rfl, Hr.out.1, below_of_only (only_trans (only_trans (only_of_below M.out.2 _) Hg.out) Hr.out.2) hbw.1 (Nat.le_refl _)⟩
end Go.Proofs.YtblfeokjlecgkaaGreat
