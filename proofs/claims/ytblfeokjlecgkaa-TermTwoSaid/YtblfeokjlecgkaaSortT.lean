/- Types sorted by their labels. -/
import Derived.Test.YtblfeokjlecgkaaCmpT
namespace Go.Proofs.Ytblfeokjlecgkaa
open Go.RowKit

def vq (vs : List (Option Addr × Nat × Nat)) (i : Nat) : Option Addr × Nat × Nat := (vs[i]?).getD (none, 0, 0)
theorem vq_at {vs : List (Option Addr × Nat × Nat)} {i : Nat} (h : i < vs.length) : vs[i]? = some (vq vs i) := by
  unfold vq
  rw [List.getElem?_eq_getElem h]
  rfl
def encV (vs : List (Option Addr × Nat × Nat)) {n : Nat} (i : Fin n) : Value := .slice (vq vs i.val).1 (vq vs i.val).2.1 (vq vs i.val).2.2

theorem flatMap_encS (l : List (Option Addr × Nat × Nat)) : l.flatMap encS = l.map fun v => Value.slice v.1 v.2.1 v.2.2 := by
  induction l with
  | nil => rfl
  | cons a l ih => rw [List.flatMap_cons, ih]; rfl

/-- The labels of types. -/
def labsT (tss : List (List Nd)) : List ByteArray := tss.map fun t => (headNd t).s

theorem OwnL.sortedV {n : Nat} {w : World} {base g cap : Nat} {vs : List (Option Addr × Nat × Nat)} (h : OwnS w base (some ⟨g, 0, none⟩) cap vs) (hL : vs.length = n) [Inhabited (Fin n)] (d : Array (Fin n)) (hd : d.size = n) (m : Nat) (os : Array Obj) :
    OwnS (sortWorld (encV vs) w g 0 m d os) base (some ⟨g, 0, none⟩) cap ((d.toList.map Fin.val).map (vq vs)) := by
  have hl2 : ((d.toList.map Fin.val).map (vq vs)).length = vs.length := by simp [hd, hL]
  have h' : w.ownsRow base 34 1 (.slice (some ⟨g, 0, none⟩) vs.length cap) vs.length (vs.flatMap encS) := h
  show (sortWorld (encV vs) w g 0 m d os).ownsRow base 34 1 (.slice (some ⟨g, 0, none⟩) ((d.toList.map Fin.val).map (vq vs)).length cap) ((d.toList.map Fin.val).map (vq vs)).length (((d.toList.map Fin.val).map (vq vs)).flatMap encS)
  rw [hl2]
  rcases h'.2 with ⟨hv, hn⟩ | ⟨g', cap', cur, hv, hbg, hg, hnc, hcm, hcs, htake⟩
  · cases hv
  · injection hv with hA' hl hc'
    injection hA' with hA'
    injection hA' with hA1
    subst hA1 hc'
    refine ⟨by rw [flatMap_len encS_len, hl2], .inr ⟨g, cap, _, rfl, hbg, sortWorld_block (encV vs) w g m d os hg, hnc, hcm, by simp [Go.Sort.putCells]; omega, ?_⟩⟩
    apply List.ext_getElem?
    intro k
    by_cases hk : k < n
    · rw [List.getElem?_take_of_lt (by omega)]
      have hkc : k < cur.size := by omega
      have hkd : k < d.size := by omega
      rw [flatMap_encS]
      simp only [Go.Sort.putCells, Array.getElem?_toList, Array.getElem?_mapIdx, Array.getElem?_eq_getElem hkc, Option.map_some, List.getElem?_map, Array.getElem?_eq_getElem hkd]
      rw [if_pos ⟨Nat.zero_le _, by omega⟩, Nat.sub_zero, getElem!_pos d k hkd]
      rfl
    · rw [List.getElem?_eq_none (by rw [List.length_take]; omega), List.getElem?_eq_none (by rw [flatMap_len encS_len, hl2]; omega)]

set_option maxHeartbeats 1000000 in
theorem sortT_any (vs : List (Option Addr × Nat × Nat)) (tss : List (List Nd)) (n g cap base B : Nat) (w : World) (hn : vs.length = n) (hn6 : n ≤ 1000000) (hS : Sls w B vs tss) (hB : B ≤ w.heap.size) (hne : ∀ ts ∈ tss, ts ≠ [])
    (hoff : ∀ q ∈ vs, Off (some ⟨g, 0, none⟩) q.1) (hown : OwnS w base (some ⟨g, 0, none⟩) cap vs) :
    Calls Try.prog 132 #[.slice (some ⟨g, 0, none⟩) n cap, .func (.func 87) #[] #[]] w fun e w' => e = .returned (.tuple #[]) ∧
      ∃ os : List Nat, os.Perm (List.range n) ∧ os.Pairwise (fun i j => ltB (lab (labsT tss) j) (lab (labsT tss) i) = false) ∧ OwnS w' base (some ⟨g, 0, none⟩) cap (os.map (vq vs)) ∧ w.grownBy w' (some g) := by
  match n, hn, hn6, hown with
  | 0, hn, _, hown =>
    refine (Try.slices_SortFunc_none (α := Nat) (some ⟨g, 0, none⟩) cap _ w).mono ?_
    rintro e w' ⟨rfl, rfl⟩
    have hv : vs = [] := List.eq_nil_of_length_eq_zero hn
    subst hv
    exact ⟨rfl, [], by simp, .nil, hown, ⟨rfl, rfl, rfl, Nat.le_refl _, fun _ _ _ => rfl⟩⟩
  | n + 1, hn, hn6, hown =>
    have hglt := (OwnL.block hown g rfl).2
    have hd : (List.finRange (n + 1)).toArray.size = n + 1 := by simp
    have hdl : ∀ j (hj : j < n + 1), (List.finRange (n + 1)).toArray[j]! = ⟨j, hj⟩ := fun j hj => by
      rw [getElem!_pos _ j (by simpa using hj)]
      simp
    have htl : tss.length = n + 1 := by rw [← hS.1]; exact hn
    have H := Try.slices_SortFunc (α := Fin (n + 1)) (encV vs) (fun _ => rfl) (cfF (labsT tss) (n + 1)) (swo (labsT tss) _) 87 #[] g 0 cap (List.finRange (n + 1)).toArray w
      (enters_of Try.func87 (by kernel_rfl) rfl)
      (CmpReads.lays fun m os dk hdk x y => by
        rw [hd] at hdk
        have hgr := sortWorld_grown (encV vs) w g m dk os
        have hel : ∀ z : Fin (n + 1), ∃ t q, t ≠ [] ∧ (tss[z.val]?) = some t ∧ q = headNd t ∧ t[0]? = some q ∧ (vq vs z.val).2.1 = t.length ∧ TyA (sortWorld (encV vs) w g 0 m dk os) B (vq vs z.val).1 t := fun z => by
          have hzl : z.val < vs.length := by rw [hn]; exact z.isLt
          obtain ⟨t, ht⟩ := getq_ex (show z.val < tss.length by rw [htl]; exact z.isLt)
          obtain ⟨h1, h2⟩ := hS.2 z.val _ t (vq_at hzl) ht
          have hnt := hne t (List.mem_of_getElem? ht)
          refine ⟨t, headNd t, hnt, ht, rfl, ?_, h1, ?_⟩
          · cases t with
            | nil => exact absurd rfl hnt
            | cons q qs => rfl
          · exact TyA.grown (A := some ⟨g, 0, none⟩) (n := 0) (c := 0) h2 hB (by simpa [Value.ownBlock] using hgr) (hoff _ (List.mem_of_getElem? (vq_at hzl)))
        obtain ⟨t1, q1, _, ht1, hq1, hx1, hl1, hT1⟩ := hel x
        obtain ⟨t2, q2, _, ht2, hq2, hx2, hl2, hT2⟩ := hel y
        have hc := byLabel_any (vq vs x.val).1 (vq vs y.val).1 (vq vs x.val).2.1 (vq vs y.val).2.1 (vq vs x.val).2.2 (vq vs y.val).2.2 B t1 t2 q1 q2 _ hT1 hT2 hx1 hx2 hl1.symm hl2.symm
        have e1 : lab (labsT tss) x.val = q1.s := by unfold lab labsT; rw [List.getElem?_map, ht1, hq1]; rfl
        have e2 : lab (labsT tss) y.val = q2.s := by unfold lab labsT; rw [List.getElem?_map, ht2, hq2]; rfl
        show Calls _ _ _ _ fun e w' => e = .returned (.int .i64 (cmpS (lab (labsT tss) x.val) (lab (labsT tss) y.val))) ∧ _
        rw [e1, e2]
        exact hc)
      (fun j hj => by
        rw [hd] at hj
        rw [hdl j hj]
        have hj2 : vs[j]? = some (vq vs j) := vq_at (by omega)
        obtain ⟨b, o, hA, _, hc⟩ := ReadL.slice (OwnL.read encS_len hown) hj2
        injection hA with hA
        injection hA with h1 h2 _
        subst h1 h2
        exact ⟨hc, by rw [Nat.zero_add]; exact World.ownsRow.frozenAt hown j⟩)
      hglt (by rw [hd]; omega)
    rw [hd] at H
    refine H.mono ?_
    rintro e w' ⟨rfl, d', k, os, ⟨hs, _, hperm⟩, hsorted, rfl⟩
    rw [hd] at hs
    refine ⟨rfl, d'.toList.map Fin.val, ?_, ?_, OwnL.sortedV hown hn d' hs k os, sortWorld_grown _ _ _ _ _ _⟩
    · have e1 : (d'.extract 0 (n + 1)).toList = d'.toList := by
        rw [Array.toList_extract, List.extract_eq_take_drop, Nat.sub_zero, List.drop_zero]
        exact List.take_of_length_le (by simp; omega)
      have e2 : ((List.finRange (n + 1)).toArray.extract 0 (n + 1)).toList = List.finRange (n + 1) := by
        rw [Array.toList_extract, List.extract_eq_take_drop, Nat.sub_zero, List.drop_zero]
        exact List.take_of_length_le (by simp)
      rw [e1, e2] at hperm
      refine (hperm.map Fin.val).trans (List.Perm.of_eq ?_)
      apply List.ext_getElem
      · simp
      · intro i h1 h2; simp
    · rw [List.pairwise_map, List.pairwise_iff_getElem]
      intro i j hi hj hij
      have hi' : i < d'.size := by simpa using hi
      have hj' : j < d'.size := by simpa using hj
      have := hsorted i j (Nat.zero_le _) hij (by omega)
      rw [ltOf_cf, getElem!_pos d' i hi', getElem!_pos d' j hj'] at this
      simpa using this
end Go.Proofs.Ytblfeokjlecgkaa
