/- term.cut, term.joined, wrong.error. -/
import Derived.Test.YtblfeokjlecgkaaGreatCompactT
import Derived.ArgAppend
import Derived.Deep.RegionHeld
import Derived.Lib.BufferWrite
namespace Go.Proofs.YtblfeokjlecgkaaGreat
open Go.RowKit

theorem wrongError_any (a b c : Bool) (w : World) :
    Calls Tryz.prog 36 #[.agg #[.bool a, .bool b, .bool c]] w fun e w' => e = .returned (.int .i64 (if a then 1 else if b then 7 else if c then 3 else 0)) ∧ Below w.heap.size w w' := by
  cases a <;> cases b <;> cases c
  all_goals
    go_enter Tryz.func36, Tryz.ntmps36
    go_wp2_with fail
    go_ret
    exact ⟨rfl, ext_alloc (Below.refl _ _) _⟩

/-- Whether the last child is a tail. -/
def tailB (tss : List (List Nd)) : Bool := match tss.getLast? with
  | none => false
  | some t => (headNd t).k == 9

theorem tailB_last {tss : List (List Nd)} {t : List Nd} (h : tss[tss.length - 1]? = some t) : tailB tss = ((headNd t).k == 9) := by
  unfold tailB
  rw [List.getLast?_eq_getElem?, h]

set_option maxRecDepth 100000 in
theorem cut_no (V : Option Addr) (cv B : Nat) (vs : List (Option Addr × Nat × Nat)) (tss : List (List Nd)) (w : World) (hr : ReadS w w.heap.size V vs) (hS : Sls w B vs tss) (hne : ∀ ts ∈ tss, ts ≠ []) (hl : vs.length ≤ 100000) (ht : tailB tss = false) :
    Calls Tryz.prog 25 #[.slice V vs.length cv] w fun e w' => e = .returned (.tuple #[.slice V vs.length cv, .slice none 0 0]) ∧ ∃ q, w' = w.drewN q := by
  by_cases h0 : vs.length = 0
  · rw [h0]
    clear hr hS hne hl ht
    go_enter Tryz.func25, Tryz.ntmps25
    go_wp2_with fail
    go_ret2
    exact ⟨rfl, 0, rfl⟩
  · obtain ⟨v, hv⟩ := getq_ex (show vs.length - 1 < vs.length by omega)
    obtain ⟨t, x, htt, hx, _, hl1, hT⟩ := elemT hS hne hv
    have hhx : headNd t = x := by
      cases t with
      | nil => simp at hx
      | cons y ys => simp at hx; subst hx; rfl
    rw [tailB_last (by rw [← hS.1]; exact htt), hhx] at ht
    obtain ⟨b, o, rfl, hb, c0⟩ := ReadL.slice hr hv
    obtain ⟨b1, o1, hv1, hb1, c10, c11, c12⟩ := hT.at_ hx
    simp only [Nat.zero_mul, Nat.add_zero] at c10 c11 c12
    have ht0 : 0 < v.2.1 := by have := getq_lt hx; omega
    have hi1 : (0 : Int) ≤ (vs.length : Int) - 1 := by omega
    have hi2 : (vs.length : Int) - 1 < (vs.length : Int) := by omega
    have hi3 : ((vs.length : Int) - 1).toNat = vs.length - 1 := by omega
    have hi4 : (1 : Int) ≤ (vs.length : Int) := by omega
    have hi5 : IntKind.i64.wrap ((vs.length : Int) - 1) = (vs.length : Int) - 1 := IntWalk.i64_in _ (by omega)
    have hi6 : vs.length - 1 < vs.length := by omega
    rw [hv1] at c0
    clear hv htt hx hr hS hne hT hhx hv1 hl1
    generalize vs.length = n at *
    go_enter Tryz.func25, Tryz.ntmps25
    go_wp2_with fail
    go_ret2
    exact ⟨rfl, 0, rfl⟩

set_option maxRecDepth 100000 in
theorem cut_yes (V : Option Addr) (cv B : Nat) (vs : List (Option Addr × Nat × Nat)) (tss : List (List Nd)) (w : World) (hr : ReadS w w.heap.size V vs) (hS : Sls w B vs tss) (hne : ∀ ts ∈ tss, ts ≠ []) (hl : vs.length ≤ 100000) (hcv : vs.length ≤ cv) (ht : tailB tss = true) :
    ∃ (b o : Nat), V = some ⟨b, o, none⟩ ∧ 0 < vs.length ∧ Calls Tryz.prog 25 #[.slice V vs.length cv] w fun e w' => e = .returned (.tuple #[.slice V (vs.length - 1) (vs.length - 1), .slice (some ⟨b, o + (vs.length - 1), none⟩) 1 (cv - (vs.length - 1))]) ∧ ∃ q, w' = w.drewN q := by
  have h0 : 0 < vs.length := by
    rcases Nat.eq_zero_or_pos vs.length with h | h
    · have := hS.1
      rw [h] at this
      rw [List.eq_nil_of_length_eq_zero this.symm] at ht
      cases ht
    · exact h
  obtain ⟨v, hv⟩ := getq_ex (show vs.length - 1 < vs.length by omega)
  obtain ⟨t, x, htt, hx, _, hl1, hT⟩ := elemT hS hne hv
  have hhx : headNd t = x := by
    cases t with
    | nil => simp at hx
    | cons y ys => simp at hx; subst hx; rfl
  rw [tailB_last (by rw [← hS.1]; exact htt), hhx] at ht
  obtain ⟨b, o, rfl, hb, c0⟩ := ReadL.slice hr hv
  refine ⟨b, o, rfl, h0, ?_⟩
  obtain ⟨b1, o1, hv1, hb1, c10, c11, c12⟩ := hT.at_ hx
  simp only [Nat.zero_mul, Nat.add_zero] at c10 c11 c12
  have ht0 : 0 < v.2.1 := by have := getq_lt hx; omega
  have hi1 : (0 : Int) ≤ (vs.length : Int) - 1 := by omega
  have hi2 : (vs.length : Int) - 1 < (vs.length : Int) := by omega
  have hi3 : ((vs.length : Int) - 1).toNat = vs.length - 1 := by omega
  have hi4 : (1 : Int) ≤ (vs.length : Int) := by omega
  have hi5 : IntKind.i64.wrap ((vs.length : Int) - 1) = (vs.length : Int) - 1 := IntWalk.i64_in _ (by omega)
  have hi6 : vs.length - 1 < vs.length := by omega
  have hi7 : vs.length - 1 < cv := by omega
  have hi8 : vs.length - (vs.length - 1) = 1 := by omega
  rw [hv1] at c0
  clear hv htt hx hr hS hne hT hhx hv1 hl1
  generalize vs.length = n at *
  go_enter Tryz.func25, Tryz.ntmps25
  go_wp2_with fail
  go_quiet (fail)
  go_wp2_with fail
  go_ret2
  exact ⟨rfl, _, rfl⟩

theorem strict_of' {ls : List ByteArray} {os : List Nat} (h : os.Pairwise (fun i j => ltB (lab ls j) (lab ls i) = false))
    (hd : ∀ (j a b : Nat), os[j]? = some a → os[j + 1]? = some b → lab ls a ≠ lab ls b) : os.Pairwise (fun i j => ltB (lab ls i) (lab ls j) = true) := by
  rw [List.pairwise_iff_getElem] at h ⊢
  intro i j hi hj hij
  cases hlt : ltB (lab ls os[i]) (lab ls os[j])
  · exfalso
    have h1 : i + 1 < os.length := by omega
    have hle1 := h i (i + 1) hi h1 (by omega)
    have hge : ltB (lab ls os[i]) (lab ls os[i + 1]) = false := by
      by_cases hj1 : j = i + 1
      · subst hj1; exact hlt
      · exact ltB_ntrans hlt (h (i + 1) j h1 hj (by omega))
    exact hd i _ _ (List.getElem?_eq_getElem hi) (List.getElem?_eq_getElem h1) (ltB_eq hge hle1)
  · rfl

theorem lab_get' {ls : List ByteArray} {i : Nat} (h : i < ls.length) : lab ls i = ls[i] := by
  unfold lab
  rw [List.getElem?_eq_getElem h]
  rfl

/-- Labels in a sorted order: neighbours are unlike just if no two are alike. -/
theorem adj_nodup {ls : List ByteArray} {os : List Nat} (hp : os.Perm (List.range ls.length)) (hs : os.Pairwise fun i j => ltB (lab ls j) (lab ls i) = false) : AdjOk (os.map (lab ls)) ls.length ↔ ls.Nodup := by
  have hlen : os.length = ls.length := by rw [hp.length_eq]; simp
  have hnd : os.Nodup := (hp.nodup_iff).2 List.nodup_range
  have hget : ∀ j a, os[j]? = some a → lab (os.map (lab ls)) j = lab ls a := fun j a ha => by
    unfold lab
    rw [List.getElem?_map, ha]
    rfl
  constructor
  · intro h
    have hstrict := strict_of' hs fun j a b ha hb e => by
      have hj := getq_lt hb
      exact h (j + 1) (by omega) (by omega) (by rw [hget _ _ hb, Nat.add_sub_cancel, hget _ _ ha, e])
    refine List.pairwise_iff_getElem.2 fun i j hi hj hij he => ?_
    have hio : i ∈ os := (hp.mem_iff).2 (List.mem_range.2 hi)
    have hjo : j ∈ os := (hp.mem_iff).2 (List.mem_range.2 hj)
    obtain ⟨a, ha, hae⟩ := List.getElem_of_mem hio
    obtain ⟨b, hb, hbe⟩ := List.getElem_of_mem hjo
    have hpw := List.pairwise_iff_getElem.1 hstrict
    have hlab : lab ls i = lab ls j := by rw [lab_get' hi, lab_get' hj, he]
    rcases Nat.lt_trichotomy a b with hlt | heq | hlt
    · have := hpw a b ha hb hlt
      rw [hae, hbe, hlab, ltB_irrefl] at this
      cases this
    · subst heq
      omega
    · have := hpw b a hb ha hlt
      rw [hae, hbe, hlab, ltB_irrefl] at this
      cases this
  · intro h j h1 h2 e
    obtain ⟨a, ha⟩ := getq_ex (show j < os.length by omega)
    obtain ⟨b, hb⟩ := getq_ex (show j - 1 < os.length by omega)
    rw [hget _ _ ha, hget _ _ hb] at e
    have hal : a < ls.length := List.mem_range.1 ((hp.mem_iff).1 (List.mem_of_getElem? ha))
    have hbl : b < ls.length := List.mem_range.1 ((hp.mem_iff).1 (List.mem_of_getElem? hb))
    rw [lab_get' hal, lab_get' hbl] at e
    have hab : a = b := by
      rcases Nat.lt_trichotomy a b with hlt | he | hlt
      · exact absurd e ((List.pairwise_iff_getElem.1 h) a b hal hbl hlt)
      · exact he
      · exact absurd e.symm ((List.pairwise_iff_getElem.1 h) b a hbl hal hlt)
    subst hab
    have hne := (List.pairwise_iff_getElem.1 hnd) (j - 1) j (by omega) (by omega) (by omega)
    rw [List.getElem?_eq_getElem (show j < os.length by omega)] at ha
    rw [List.getElem?_eq_getElem (show j - 1 < os.length by omega)] at hb
    injection ha with ha
    injection hb with hb
    exact hne (by rw [ha, hb])

def tq (tss : List (List Nd)) (i : Nat) : List Nd := (tss[i]?).getD []

theorem labsT_perm {tss : List (List Nd)} {os : List Nat} (h : ∀ i ∈ os, i < tss.length) : labsT (os.map (tq tss)) = os.map (lab (labsT tss)) := by
  unfold labsT
  rw [List.map_map]
  refine List.map_congr_left fun i hi => ?_
  have hil := h i hi
  unfold lab tq
  simp only [Function.comp]
  rw [List.getElem?_map, List.getElem?_eq_getElem hil]
  rfl

theorem sls_perm {w : World} {B : Nat} {vs : List (Option Addr × Nat × Nat)} {tss : List (List Nd)} {os : List Nat} (hS : Sls w B vs tss) (h : ∀ i ∈ os, i < tss.length) : Sls w B (os.map (vq vs)) (os.map (tq tss)) := by
  refine ⟨by simp, fun j v ts hv ht => ?_⟩
  rw [List.getElem?_map] at hv ht
  obtain ⟨i, hi⟩ := getq_ex (show j < os.length by
    rcases Nat.lt_or_ge j os.length with h | h
    · exact h
    · rw [List.getElem?_eq_none h] at hv; cases hv)
  rw [hi] at hv ht
  have hil := h i (List.mem_of_getElem? hi)
  simp only [Option.map_some, Option.some.injEq] at hv ht
  subst hv ht
  exact hS.2 i _ _ (vq_at (by rw [hS.1]; exact hil)) (by unfold tq; rw [List.getElem?_eq_getElem hil]; rfl)

theorem sls_append {w : World} {B : Nat} {vs1 vs2 : List (Option Addr × Nat × Nat)} {t1 t2 : List (List Nd)} (h1 : Sls w B vs1 t1) (h2 : Sls w B vs2 t2) : Sls w B (vs1 ++ vs2) (t1 ++ t2) := by
  refine ⟨by simp [h1.1, h2.1], fun i v ts hv ht => ?_⟩
  by_cases hi : i < vs1.length
  · rw [List.getElem?_append_left hi] at hv
    rw [List.getElem?_append_left (by rw [← h1.1]; exact hi)] at ht
    exact h1.2 i v ts hv ht
  · rw [List.getElem?_append_right (by omega)] at hv
    rw [List.getElem?_append_right (by rw [← h1.1]; omega), ← h1.1] at ht
    exact h2.2 _ v ts hv ht

theorem sls_below {w w' : World} {B : Nat} {vs : List (Option Addr × Nat × Nat)} {tss : List (List Nd)} (h : Sls w B vs tss) (hb : Below B w w') : Sls w' B vs tss :=
  ⟨h.1, fun i v ts hv ht => ⟨(h.2 i v ts hv ht).1, (h.2 i v ts hv ht).2.below hb⟩⟩

theorem sls_off {w : World} {B g : Nat} {vs : List (Option Addr × Nat × Nat)} {tss : List (List Nd)} (h : Sls w B vs tss) (hne : ∀ ts ∈ tss, ts ≠ []) (hg : B ≤ g) : ∀ q ∈ vs, Off (some ⟨g, 0, none⟩) q.1 := fun q hq a b ha hb e => by
  obtain ⟨i, hi⟩ := List.getElem?_of_mem hq
  obtain ⟨t, x, _, hx, _, _, hT⟩ := elemT h hne hi
  obtain ⟨b', o', hq', hlt, _⟩ := hT.at_ hx
  rw [hq'] at hb
  injection ha with ha
  injection hb with hb
  rw [← ha, ← hb] at e
  simp at e
  omega

/-- The row that joined makes. -/
def JoinPost (vs : List (Option Addr × Nat × Nat)) (tss : List (List Nd)) (w : World) (e : Ending) (w' : World) : Prop :=
  ∃ (V : Option Addr) (cv : Nat) (os : List Nat), e = .returned (.tuple #[.slice V vs.length cv, .bool (decide (labsT tss).Nodup)]) ∧ os.Perm (List.range vs.length) ∧ os.Pairwise (fun i j => ltB (lab (labsT tss) j) (lab (labsT tss) i) = false) ∧ OwnS w' w.heap.size V cv (os.map (vq vs)) ∧ Below w.heap.size w w'

set_option maxRecDepth 100000 in
set_option maxHeartbeats 4000000 in
theorem joined_any (V1 V2 : Option Addr) (c1 c2 B : Nat) (vs1 vs2 : List (Option Addr × Nat × Nat)) (t1 t2 : List (List Nd)) (w : World) (h1 : ReadS w w.heap.size V1 vs1) (h2 : ReadS w w.heap.size V2 vs2) (S1 : Sls w B vs1 t1) (S2 : Sls w B vs2 t2) (hB : B ≤ w.heap.size)
    (n1 : ∀ ts ∈ t1, ts ≠ []) (n2 : ∀ ts ∈ t2, ts ≠ []) (l1 : vs1.length ≤ 1000) (l2 : vs2.length ≤ 1000) (hpos : 0 < vs1.length + vs2.length) :
    Calls Tryz.prog 32 #[.slice V1 vs1.length c1, .slice V2 vs2.length c2, .func (.func 33) #[] #[]] w (JoinPost (vs1 ++ vs2) (t1 ++ t2) w) := by
  have hb0 := ext_alloc (Below.refl w.heap.size w) (.cells #[.func (.func 33) #[] #[]] 59)
  have hz0 : (w.alloc (.cells #[.func (.func 33) #[] #[]] 59)).heap.size = w.heap.size + 1 := by simp
  have c0 : (w.alloc (.cells #[.func (.func 33) #[] #[]] 59)).cell? ⟨w.heap.size, 0, none⟩ = some (.func (.func 33) #[] #[]) := by simp
  generalize hW : w.alloc (.cells #[.func (.func 33) #[] #[]] 59) = W at *
  have R1 := Lib.hid ((ReadL.below h1 hb0).more hb0.size)
  have R2 := Lib.hid ((ReadL.below h2 hb0).more hb0.size)
  have SW := Lib.hid (sls_append (sls_below S1 (hb0.mono hB)) (sls_below S2 (hb0.mono hB)))
  have Hne : Hid (∀ ts ∈ t1 ++ t2, ts ≠ []) := Lib.hid fun ts h => by exact (List.mem_append.1 h).elim (n1 ts) (n2 ts)
  generalize hgb : w.heap.size = gb at *
  have Hgb := Lib.hid hgb
  have Hb0 := Lib.hid hb0
  have hBW : B ≤ W.heap.size := by omega
  have hgbW : gb < W.heap.size := by omega
  have Hz0 := Lib.hid hz0
  clear h1 h2 S1 S2 n1 n2 hb0 hz0
  go_enter Tryz.func32, Tryz.ntmps32
  go_wp2_with fail
  refine (cloneS_any V1 c1 vs1 _ R1.out (by omega)).mono ?_
  rintro e w1 ⟨Vc, cvc, rfl, hown1, hb1⟩
  clear hW
  have D1 := Lib.hid (And.intro hown1 hb1)
  clear hown1 hb1
  have c1' : w1.cell? ⟨gb, 0, none⟩ = some (.func (.func 33) #[] #[]) := (D1.out.2.cell (p := ⟨gb, 0, none⟩) hgbW).trans c0
  have z1 := D1.out.2.size
  go_wp2_with (at_builtin; refine wpList_appS rfl (.tmp 11) (.tmp 12) rfl W.heap.size (l := vs1) rfl D1.out.1 (l2 := vs2) rfl ((ReadL.below R2.out D1.out.2).more D1.out.2.size) (by omega) (by omega) ?_; intro V2 cv2 w2 hown2 hg2 _; have D2 := Lib.hid (And.intro hown2 hg2); have c2' : w2.cell? ⟨gb, 0, none⟩ = some (.func (.func 33) #[] #[]) := ((below_app hg2 (B := gb + 1) (by omega) (fun a ha => by have := (OwnL.lt D1.out.1 a ha).1; omega)).cell (p := ⟨gb, 0, none⟩) (by simp)).trans c1'; clear hown2 hg2 c1')
  have hlen : (vs1 ++ vs2).length = vs1.length + vs2.length := List.length_append
  obtain ⟨g, hV2, hgW, hgl, hncap, _⟩ := OwnL.form D2.out.1 (by omega)
  subst hV2
  have b12 : Below W.heap.size W w2 := D1.out.2.trans (below_app D2.out.2 D1.out.2.size fun a ha => (OwnL.lt D1.out.1 a ha).1)
  have S2' := Lib.hid (sls_below SW.out (b12.mono hBW))
  have B12 := Lib.hid b12
  have z2 := b12.size
  clear b12
  refine (sortT_any (vs1 ++ vs2) (t1 ++ t2) (vs1.length + vs2.length) g cv2 W.heap.size B w2 hlen (by omega) S2'.out (by omega) Hne.out (sls_off S2'.out Hne.out (by omega)) D2.out.1).mono ?_
  rintro e w3 ⟨rfl, os, hperm, hsort, hown3, hg3⟩
  have P3 := Lib.hid (And.intro hperm hsort)
  have D3 := Lib.hid (And.intro hown3 hg3)
  have hosl : os.length = vs1.length + vs2.length := by rw [hperm.length_eq]; simp
  have c3 : w3.cell? ⟨gb, 0, none⟩ = some (.func (.func 33) #[] #[]) := ((ocell hg3).1 gb 0 (by omega) (by omega)).trans c2'
  have z3 := hg3.size
  have hmaplen : (os.map (vq (vs1 ++ vs2))).length = vs1.length + vs2.length := by rw [List.length_map, hosl]
  have Hml := Lib.hid hmaplen
  have Hosl := Lib.hid hosl
  clear hperm hsort hown3 hg3 c2' hlen
  go_wp2_with fail
  have hcl := cloneS_any (some ⟨g, 0, none⟩) cv2 (os.map (vq (vs1 ++ vs2))) w3 (OwnL.read encS_len D3.out.1) (by omega)
  rw [Hml.out] at hcl
  clear hmaplen hosl
  refine hcl.mono ?_
  rintro e w4 ⟨V4, cv4, rfl, hown4, hb4⟩
  clear hcl
  obtain ⟨g4, hV4, hg4W, hg4l, _, _⟩ := OwnL.form hown4 (by rw [Hml.out]; exact hpos)
  subst hV4
  have D4 := Lib.hid (And.intro hown4 hb4)
  have c4 : w4.cell? ⟨gb, 0, none⟩ = some (.func (.func 33) #[] #[]) := (hb4.cell (p := ⟨gb, 0, none⟩) (by simp; omega)).trans c3
  have z4 := hb4.size
  clear hown4 hb4 c3
  have hosm : ∀ i ∈ os, i < (t1 ++ t2).length := fun i hi => by
    have h1 := List.mem_range.1 ((P3.out.1.mem_iff).1 hi)
    rw [← SW.out.1, List.length_append]; exact h1
  have hS4 : Sls w4 B (os.map (vq (vs1 ++ vs2))) (os.map (tq (t1 ++ t2))) := sls_perm (sls_below (sls_below S2'.out (below_of_only D3.out.2 (by omega) (by omega))) (D4.out.2.mono (by omega))) hosm
  have hne4 : ∀ ts ∈ os.map (tq (t1 ++ t2)), ts ≠ [] := fun ts hts => by
    obtain ⟨i, hi, rfl⟩ := List.mem_map.1 hts
    have hil := hosm i hi
    unfold tq
    rw [List.getElem?_eq_getElem hil]
    exact Hne.out _ (List.getElem_mem hil)
  have hcomp := compactT_any (os.map (vq (vs1 ++ vs2))) (os.map (tq (t1 ++ t2))) (vs1.length + vs2.length) g4 cv4 w3.heap.size B gb w4 Hml.out (by omega) hS4 (by omega) hne4 (sls_off hS4 hne4 (by omega)) D4.out.1 c4 (by omega)
  have Hcomp := Lib.hid hcomp
  have hlabs := labsT_perm hosm
  have hll : (labsT (t1 ++ t2)).length = vs1.length + vs2.length := by
    unfold labsT
    rw [List.length_map, ← SW.out.1, List.length_append]
  have hadj : Hid (AdjOk (labsT (os.map (tq (t1 ++ t2)))) (vs1.length + vs2.length) ↔ (labsT (t1 ++ t2)).Nodup) := Lib.hid (by
    rw [hlabs, ← hll]
    exact adj_nodup (by rw [hll]; exact P3.out.1) P3.out.2)
  clear hosm hS4 hne4 hcomp hlabs hll
  go_wp2_with fail
  refine Hcomp.out.mono ?_
  rintro e w5 ⟨r, rfl, hr, hg5⟩
  have hiff := hr.trans hadj.out
  have Hiff := Lib.hid hiff
  have D5 := Lib.hid hg5
  clear hr hiff hg5 Hcomp hadj
  have hbool : Hid (((r : Int) == (vs1.length : Int) + (vs2.length : Int)) = decide (labsT (t1 ++ t2)).Nodup) := Lib.hid (by
    rw [Bool.eq_iff_iff, beq_iff_eq, decide_eq_true_eq, ← Hiff.out]; omega)
  go_wp2_with fail
  go_ret2
  show JoinPost (vs1 ++ vs2) (t1 ++ t2) w (Ending.returned (.tuple #[.slice (some ⟨g, 0, none⟩) (vs1.length + vs2.length) cv2, .bool ((r : Int) == (vs1.length : Int) + (vs2.length : Int))])) w5
  have q1 : OwnS w5 W.heap.size (some ⟨g, 0, none⟩) cv2 (os.map (vq (vs1 ++ vs2))) := OwnL.kept (D3.out.1.below D4.out.2 (Nat.le_refl _)) D5.out (fun k hk a ha e => by
    injection hk with hk
    injection ha with ha
    rw [← ha] at e
    simp at e
    omega)
  have q2 : Below gb w w5 := ((((Hb0.out.trans (B12.out.mono (by omega))).trans (below_of_only D3.out.2 (by omega) (by omega))).trans (D4.out.2.mono (by omega))).trans (below_of_only D5.out (by omega) (by omega)))
  exact ⟨some ⟨g, 0, none⟩, cv2, os, by rw [List.length_append, hbool.out], by rw [List.length_append]; exact P3.out.1, P3.out.2, by rw [Hgb.out]; exact OwnL.lower q1 (by omega), by rw [Hgb.out]; exact q2⟩
end Go.Proofs.YtblfeokjlecgkaaGreat

/- term.joined of no children at all. -/
namespace Go.Proofs.YtblfeokjlecgkaaGreat
open Go.RowKit

theorem compact0_any (V : Option Addr) (cv : Nat) (f : Value) (w : World) :
    Calls Tryz.prog 50 #[.slice V 0 cv, f] w fun e w' => e = .returned (.slice V 0 cv) ∧ ∃ q, w' = w.drewN q := by
  go_enter Tryz.func50, Tryz.ntmps50
  go_wp2_with fail
  go_ret
  exact ⟨rfl, 0, rfl⟩

set_option maxRecDepth 100000 in
theorem joined_zero (V1 V2 : Option Addr) (c1 c2 : Nat) (w : World) :
    Calls Tryz.prog 32 #[.slice V1 0 c1, .slice V2 0 c2, .func (.func 33) #[] #[]] w fun e w' =>
      ∃ (V : Option Addr) (cv : Nat), e = .returned (.tuple #[.slice V 0 cv, .bool true]) ∧ OwnS w' w.heap.size V cv [] ∧ Below w.heap.size w w' := by
  have hb0 := ext_alloc (Below.refl w.heap.size w) (.cells #[.func (.func 33) #[] #[]] 59)
  have c0 : (w.alloc (.cells #[.func (.func 33) #[] #[]] 59)).cell? ⟨w.heap.size, 0, none⟩ = some (.func (.func 33) #[] #[]) := by simp
  have hz0 : (w.alloc (.cells #[.func (.func 33) #[] #[]] 59)).heap.size = w.heap.size + 1 := by simp
  generalize hW : w.alloc (.cells #[.func (.func 33) #[] #[]] 59) = W at *
  generalize hgb : w.heap.size = gb at *
  have Hgb := Lib.hid hgb
  have Hb0 := Lib.hid hb0
  have hgbW : gb < W.heap.size := by omega
  clear hb0
  go_enter Tryz.func32, Tryz.ntmps32
  go_wp2_with fail
  refine (cloneS_any V1 c1 [] _ ReadL.nil (by simp)).mono ?_
  rintro e w1 ⟨Vc, cvc, rfl, hown1, hb1⟩
  clear hW
  have D1 := Lib.hid (And.intro hown1 hb1)
  clear hown1 hb1
  have c1' : w1.cell? ⟨gb, 0, none⟩ = some (.func (.func 33) #[] #[]) := (D1.out.2.cell (p := ⟨gb, 0, none⟩) hgbW).trans c0
  have z1 := D1.out.2.size
  go_wp2_with (at_builtin; refine wpList_appS rfl (.tmp 11) (.tmp 12) rfl W.heap.size (l := []) rfl D1.out.1 (l2 := []) rfl (ReadL.nil (B := 0)) (by show (0:Nat) + 0 ≤ _; omega) z1 ?_; intro V3 cv3 w2 hown2 hg2 _; have D2 := Lib.hid (And.intro hown2 hg2); have c2' : w2.cell? ⟨gb, 0, none⟩ = some (.func (.func 33) #[] #[]) := ((below_app hg2 (B := gb + 1) (Nat.le_trans hgbW z1) (fun a ha => by have := (OwnL.lt D1.out.1 a ha).1; omega)).cell (p := ⟨gb, 0, none⟩) (by simp)).trans c1'; clear hown2 hg2 c1')
  refine (Tryz.slices_SortFunc_none (α := Nat) V3 cv3 _ w2).mono ?_
  rintro e w3 ⟨rfl, rfl⟩
  have z2 := D2.out.2.size
  go_wp2_with fail
  refine (cloneS_any V3 cv3 [] _ ReadL.nil (by simp)).mono ?_
  rintro e w4 ⟨V4, cv4, rfl, hown4, hb4⟩
  have D4 := Lib.hid (And.intro hown4 hb4)
  clear hown4 hb4
  go_wp2_with fail
  refine (compact0_any V4 cv4 _ w4).mono ?_
  rintro e w5 ⟨rfl, q, rfl⟩
  go_wp2_with fail
  go_ret2
  have b12 : Below W.heap.size W w3 := D1.out.2.trans (below_app D2.out.2 D1.out.2.size fun a ha => (OwnL.lt D1.out.1 a ha).1)
  have b4 := D4.out.2
  exact ⟨V3, cv3, rfl, OwnL.lower (OwnL.drewN (D2.out.1.below b4 (Nat.le_refl _)) q) (by omega), by
    rw [Hgb.out] at *
    exact below_drewN (((Hb0.out.trans (b12.mono (by omega))).trans (b4.mono (by omega)))) q⟩
end Go.Proofs.YtblfeokjlecgkaaGreat

/- An append onto a slice of types that is full: all is copied. -/
namespace Go.Proofs.YtblfeokjlecgkaaGreat
open Go.RowKit

theorem flatMap_encS1 : ∀ (l : List (Option Addr × Nat × Nat)) (j : Nat) (u : Value), (l.flatMap encS)[j]? = some u → ∃ v, l[j]? = some v ∧ u = .slice v.1 v.2.1 v.2.2 := by
  intro l
  induction l with
  | nil => intro j u h; simp at h
  | cons v l ih =>
    intro j u h
    cases j with
    | zero => simp [encS] at h; exact ⟨v, rfl, h.symm⟩
    | succ j => simp [encS] at h; exact ih j u (by simpa using h)

set_option maxRecDepth 100000 in
theorem wpList_appFull {w : World} {ops : Array Oper} {rest : List Oper} {o : Oper} {a : Act} {Q : Exit → Act → World → Prop} (hgd : o.guard = none) (s x : Operand)
    (ho : o.op = .call { callee := .builtin .append, args := #[s, x], argTypes := #[24, 24] })
    {b1 o1 : Nat} {n : Nat} {l : List (Option Addr × Nat × Nat)} (hs : a.eval s = .slice (some ⟨b1, o1, none⟩) n n) (hn : l.length = n) {B : Nat} (hl : ReadS w B (some ⟨b1, o1, none⟩) l)
    {B2 : Nat} {b2 o2 : Nat} {c : Nat} {v : Option Addr × Nat × Nat} (hx : a.eval x = .slice (some ⟨b2, o2, none⟩) 1 c) (hr : ReadS w B2 (some ⟨b2, o2, none⟩) [v]) (hlen : n ≤ 1000000)
    (h : ∀ A' cap' w', OwnS w' w.heap.size A' cap' (l ++ [v]) → Below w.heap.size w w' → wpList Tryz.prog ops Q rest (a.put o.dst (.slice A' (n + 1) cap')) w') : wpList Tryz.prog ops Q (o :: rest) a w := by
  subst hn
  obtain ⟨i0, hi, hz0, hz1, hz2⟩ := info_parts infoT
  refine wpList_append_grows w hgd s x 24 ho 23 i0 _ 1 24 Tryz.underlying24 hi hz0 hz1 hz2 rfl (by decide) (some ⟨b1, o1, none⟩) l.length l.length (l.flatMap encS) hs (by simp) (by rw [flatMap_len encS_len]) ?_
    ⟨b2, o2, none⟩ 1 c [.slice v.1 v.2.1 v.2.2] hx rfl ?_ (by simp [Value.oneCell']) (by omega) (by unfold maxLen; omega) (by omega) ?_
  · intro b hb j u hu
    injection hb with hb
    subst hb
    obtain ⟨q, hq, rfl⟩ := flatMap_encS1 l j u hu
    obtain ⟨b', o', hA, _, hc⟩ := ReadL.slice hl hq
    injection hA with hA
    injection hA with h1 h2
    subst h1 h2
    rw [add_addr]
    exact hc
  · intro j u hu
    match j, hu with
    | 0, hu =>
      simp at hu
      subst hu
      obtain ⟨b', o', hA, _, hc⟩ := ReadL.slice (i := 0) hr rfl
      injection hA with hA
      injection hA with h1 h2
      subst h1 h2
      rw [add_addr]
      exact hc
    | j + 1, hu => simp at hu
  · intro v' w' hown hg
    have hform : ∃ A' cap', v' = .slice A' (l.length + 1) cap' := by
      obtain ⟨g, cap, rfl, _, _⟩ := hown.form (by omega)
      exact ⟨_, _, rfl⟩
    obtain ⟨A', cap', rfl⟩ := hform
    refine h A' cap' w' ?_ ((Below.refl _ w).grown hg (Nat.le_refl _) (by simp))
    unfold OwnS OwnL
    rw [List.length_append, List.flatMap_append]
    exact hown
end Go.Proofs.YtblfeokjlecgkaaGreat

/- What Put's closures see of their boxes; the rows of a put, as data. -/
namespace Go.Proofs.YtblfeokjlecgkaaGreat
open Go.RowKit

/-- The boxes of Put: the number, what is put, the three flags. -/
structure PEnv (w : World) (n : Int) (U : Option Addr) (uc : Nat) (u : List Nd) (gn gb gu : Nat) (k t m : Bool) : Prop where
  cn : w.cell? ⟨gn, 0, none⟩ = some (.int .i64 n)
  cu : w.cell? ⟨gu, 0, none⟩ = some (.slice U u.length uc)
  b0 : w.cell? ⟨gb, 0, none⟩ = some (.bool k)
  b1 : w.cell? ⟨gb, 1, none⟩ = some (.bool t)
  b2 : w.cell? ⟨gb, 2, none⟩ = some (.bool m)
  f0 : w.frozen? ⟨gb, 0, none⟩ = false
  f1 : w.frozen? ⟨gb, 1, none⟩ = false
  f2 : w.frozen? ⟨gb, 2, none⟩ = false
  ln : gn < w.heap.size
  lb : gb < w.heap.size
  lu : gu < w.heap.size
  nb : gn ≠ gb
  ub : gu ≠ gb

theorem PEnv.below {w w' : World} {n : Int} {U : Option Addr} {uc : Nat} {u : List Nd} {gn gb gu : Nat} {k t m : Bool} (h : PEnv w n U uc u gn gb gu k t m) {B : Nat} (hb : Below B w w') (h1 : gn < B) (h2 : gb < B) (h3 : gu < B) : PEnv w' n U uc u gn gb gu k t m :=
  ⟨(hb.cell (p := ⟨gn, 0, none⟩) h1).trans h.cn, (hb.cell (p := ⟨gu, 0, none⟩) h3).trans h.cu, (hb.cell (p := ⟨gb, 0, none⟩) h2).trans h.b0, (hb.cell (p := ⟨gb, 1, none⟩) h2).trans h.b1, (hb.cell (p := ⟨gb, 2, none⟩) h2).trans h.b2,
    (hb.frozen (p := ⟨gb, 0, none⟩) h2).trans h.f0, (hb.frozen (p := ⟨gb, 1, none⟩) h2).trans h.f1, (hb.frozen (p := ⟨gb, 2, none⟩) h2).trans h.f2,
    Nat.lt_of_lt_of_le h.ln hb.size, Nat.lt_of_lt_of_le h.lb hb.size, Nat.lt_of_lt_of_le h.lu hb.size, h.nb, h.ub⟩

theorem PEnv.calls {w w' : World} {n : Int} {U : Option Addr} {uc : Nat} {u : List Nd} {gn gb gu : Nat} {k t m : Bool} (h : PEnv w n U uc u gn gb gu k t m) (hb : Below w.heap.size w w') : PEnv w' n U uc u gn gb gu k t m :=
  h.below hb h.ln h.lb h.lu

theorem PEnv.set {w : World} {n : Int} {U : Option Addr} {uc : Nat} {u : List Nd} {gn gb gu : Nat} {k t m : Bool} (h : PEnv w n U uc u gn gb gu k t m) (j : Nat) (v : Bool) (_hj : j < 3) :
    PEnv (w.setCell ⟨gb, j, none⟩ (.bool v)) n U uc u gn gb gu (if j = 0 then v else k) (if j = 1 then v else t) (if j = 2 then v else m) := by
  have key : ∀ (i : Nat) (a : Bool), i < 3 → w.cell? ⟨gb, i, none⟩ = some (.bool a) → (w.setCell ⟨gb, j, none⟩ (.bool v)).cell? ⟨gb, i, none⟩ = some (.bool (if j = i then v else a)) := by
    intro i a _ ha
    by_cases e : j = i
    · subst e
      rw [if_pos rfl]
      exact World.cell?_setCell_same' _ _ _ (by rw [ha]; rfl)
    · rw [if_neg e]
      have hne : (⟨gb, j, none⟩ : Addr) ≠ ⟨gb, i, none⟩ := fun e2 => by injection e2 with _ e3; exact e e3
      exact Eq.trans (by apply World.cell?_setCell_other; exact hne) ha
  refine ⟨?_, ?_, key 0 k (by omega) h.b0, key 1 t (by omega) h.b1, key 2 m (by omega) h.b2, ?_, ?_, ?_, ?_, ?_, ?_, h.nb, h.ub⟩
  · rw [World.cell?_setCell_far _ _ _ _ (fun e => h.nb (by simpa using e.symm))]; exact h.cn
  · rw [World.cell?_setCell_far _ _ _ _ (fun e => h.ub (by simpa using e.symm))]; exact h.cu
  · rw [World.frozen?_setCell]; exact h.f0
  · rw [World.frozen?_setCell]; exact h.f1
  · rw [World.frozen?_setCell]; exact h.f2
  · have := h.ln; simpa [World.setCell] using this
  · have := h.lb; simpa [World.setCell] using this
  · have := h.lu; simpa [World.setCell] using this

/-- Slices that lie outside of one block. -/
def AllOff (gb : Nat) (vs : List (Option Addr × Nat × Nat)) : Prop := ∀ q ∈ vs, Off (some ⟨gb, 0, none⟩) q.1

theorem TyA.grown1 {w w' : World} {B gb : Nat} {X : Option Addr} {xs : List Nd} (h : TyA w B X xs) (hB : B ≤ w.heap.size) (hg : w.grownBy w' (some gb)) (ho : Off (some ⟨gb, 0, none⟩) X) : TyA w' B X xs :=
  TyA.grown (A := some ⟨gb, 0, none⟩) (n := 0) (c := 0) h hB hg ho

theorem ReadL.grown1 {α : Type} {size : Nat} {enc : α → List Value} {w w' : World} {B gb : Nat} {X : Option Addr} {l : List α} (h : ReadL size enc w B X l) (hB : B ≤ w.heap.size) (hg : w.grownBy w' (some gb)) (ho : Off (some ⟨gb, 0, none⟩) X) : ReadL size enc w' B X l :=
  ReadL.grown (A := some ⟨gb, 0, none⟩) (n := 0) (c := 0) h hB hg ho

theorem sls_grown {w w' : World} {B gb : Nat} {vs : List (Option Addr × Nat × Nat)} {tss : List (List Nd)} (h : Sls w B vs tss) (hB : B ≤ w.heap.size) (hg : w.grownBy w' (some gb)) (ho : AllOff gb vs) : Sls w' B vs tss :=
  ⟨h.1, fun i v ts hv ht => ⟨(h.2 i v ts hv ht).1, (h.2 i v ts hv ht).2.grown1 hB hg (ho v (List.mem_of_getElem? hv))⟩⟩

theorem sls_more {w : World} {B B' : Nat} {vs : List (Option Addr × Nat × Nat)} {tss : List (List Nd)} (h : Sls w B vs tss) (hB : B ≤ B') : Sls w B' vs tss :=
  ⟨h.1, fun i v ts hv ht => ⟨(h.2 i v ts hv ht).1, (h.2 i v ts hv ht).2.more hB⟩⟩

theorem kept_grown1 {α : Type} {e size base gb : Nat} {enc : α → List Value} {X : Option Addr} {cap : Nat} {l : List α} {w w' : World} (h : OwnL e size enc w base X cap l) (hg : w.grownBy w' (some gb)) (ho : gb < base) : OwnL e size enc w' base X cap l :=
  OwnL.kept h hg fun k hk a ha e => by
    injection hk with hk
    have := (OwnL.lt h a ha).1
    omega

/-- The children of a row but for its tail; its tail. -/
def lOf (tss : List (List Nd)) : List (List Nd) := if tailB tss then tss.take (tss.length - 1) else tss
def tOf (tss : List (List Nd)) : List (List Nd) := if tailB tss then tss.drop (tss.length - 1) else []

theorem lOf_tOf (tss : List (List Nd)) : lOf tss ++ tOf tss = tss := by
  unfold lOf tOf
  split
  · exact List.take_append_drop _ _
  · simp

theorem tailB_pos {tss : List (List Nd)} (h : tailB tss = true) : 0 < tss.length := by
  rcases Nat.eq_zero_or_pos tss.length with h0 | h0
  · rw [List.eq_nil_of_length_eq_zero h0] at h; cases h
  · exact h0

theorem tOf_len (tss : List (List Nd)) : (tOf tss).length = if tailB tss then 1 else 0 := by
  unfold tOf
  split
  · next h => have := tailB_pos h; rw [List.length_drop]; omega
  · rfl

/-- Whether the tail bears the number. -/
def hitB (n : Int) (tss : List (List Nd)) : Bool := match tOf tss with
  | [] => false
  | t :: _ => (headNd t).n == n

/-- A row's children and tail behind what is put for its tail. -/
def RowMid (n : Int) (utss outs l tl : List (List Nd)) : Prop :=
  if hitB n outs then tl = tOf utss ∧ ∃ os : List Nat, os.Perm (List.range (lOf outs ++ lOf utss).length) ∧ os.Pairwise (fun i j => ltB (lab (labsT (lOf outs ++ lOf utss)) j) (lab (labsT (lOf outs ++ lOf utss)) i) = false) ∧ l = os.map (tq (lOf outs ++ lOf utss))
  else l = lOf outs ∧ tl = tOf outs

def rowK (n : Int) (uk xk : Int) (outs : List (List Nd)) : Bool := hitB n outs && uk != xk
def rowT (n : Int) (uk xk : Int) (utss outs : List (List Nd)) : Bool := hitB n outs && (!decide (labsT (lOf outs ++ lOf utss)).Nodup && uk == xk)
def rowN (n : Int) (utss outs : List (List Nd)) : Nat := if hitB n outs then (lOf outs ++ lOf utss).length + (tOf utss).length else outs.length
def rowM (n : Int) (utss outs : List (List Nd)) : Bool := decide (50 < rowN n utss outs)

/-- What a row becomes. -/
def RowTo (n : Int) (x : Nd) (utss outs : List (List Nd)) (out : List Nd) : Prop :=
  ∃ l tl, RowMid n utss outs l tl ∧ out = ⟨x.k, x.s, (l.length + tl.length : Nat)⟩ :: (l ++ tl).flatten

theorem RowMid.len {n : Int} {utss outs l tl : List (List Nd)} (h : RowMid n utss outs l tl) : l.length + tl.length = rowN n utss outs := by
  unfold RowMid at h
  unfold rowN
  split at h
  · next hh =>
    obtain ⟨rfl, os, hp, _, rfl⟩ := h
    rw [if_pos hh, List.length_map, hp.length_eq, List.length_range]
  · next hh =>
    obtain ⟨rfl, rfl⟩ := h
    rw [if_neg hh, ← List.length_append, lOf_tOf]

theorem readS_take {w : World} {B : Nat} {V : Option Addr} {vs : List (Option Addr × Nat × Nat)} (h : ReadS w B V vs) (j : Nat) : ReadS w B V (vs.take j) := fun hne => by
  obtain ⟨b, o, rfl, hb, hc⟩ := h (by rintro rfl; simp at hne)
  refine ⟨b, o, rfl, hb, fun i x hx => hc i x ?_⟩
  have hl := getq_lt hx
  rw [List.length_take] at hl
  rwa [List.getElem?_take_of_lt (by omega)] at hx

theorem readS_drop {w : World} {B b o : Nat} {vs : List (Option Addr × Nat × Nat)} (h : ReadS w B (some ⟨b, o, none⟩) vs) (j : Nat) : ReadS w B (some ⟨b, o + j, none⟩) (vs.drop j) := fun hne => by
  obtain ⟨b', o', hA, hb, hc⟩ := h (by rintro rfl; simp at hne)
  injection hA with hA
  injection hA with h1 h2
  subst h1 h2
  refine ⟨b, o + j, rfl, hb, fun i x hx k u hu => ?_⟩
  rw [List.getElem?_drop] at hx
  have := hc _ _ hx k u hu
  rwa [show o + (j + i) * 1 + k = o + j + i * 1 + k by omega] at this

theorem sls_take {w : World} {B : Nat} {vs : List (Option Addr × Nat × Nat)} {tss : List (List Nd)} (h : Sls w B vs tss) (j : Nat) : Sls w B (vs.take j) (tss.take j) := by
  refine ⟨by rw [List.length_take, List.length_take, h.1], fun i v ts hv ht => ?_⟩
  have hl := getq_lt hv
  rw [List.length_take] at hl
  rw [List.getElem?_take_of_lt (by omega)] at hv ht
  exact h.2 i v ts hv ht

theorem sls_drop {w : World} {B : Nat} {vs : List (Option Addr × Nat × Nat)} {tss : List (List Nd)} (h : Sls w B vs tss) (j : Nat) : Sls w B (vs.drop j) (tss.drop j) := by
  refine ⟨by rw [List.length_drop, List.length_drop, h.1], fun i v ts hv ht => ?_⟩
  rw [List.getElem?_drop] at hv ht
  exact h.2 _ v ts hv ht

theorem AllOff.take {gb : Nat} {vs : List (Option Addr × Nat × Nat)} (h : AllOff gb vs) (j : Nat) : AllOff gb (vs.take j) := fun q hq => h q (List.mem_of_mem_take hq)
theorem AllOff.drop {gb : Nat} {vs : List (Option Addr × Nat × Nat)} (h : AllOff gb vs) (j : Nat) : AllOff gb (vs.drop j) := fun q hq => h q (List.mem_of_mem_drop hq)
theorem Off.at_ {X : Option Addr} {b o o' : Nat} (h : Off X (some ⟨b, o, none⟩)) : Off X (some ⟨b, o', none⟩) := fun p q hp hq => by
  injection hq with hq
  subst hq
  exact h p ⟨b, o, none⟩ hp rfl

theorem below_grown {w w' : World} (h : Below w.heap.size w w') (row : Option Nat) : w.grownBy w' row := ⟨h.os, h.tape, h.output, h.size, fun k hk _ => h.block k hk⟩
end Go.Proofs.YtblfeokjlecgkaaGreat

/- slices.Concat of two. -/
namespace Go.Proofs.YtblfeokjlecgkaaGreat
open Go.RowKit

theorem readS_new2 (w : World) (v0 v1 : Option Addr × Nat × Nat) : ReadS (w.alloc (.cells #[.slice v0.1 v0.2.1 v0.2.2, .slice v1.1 v1.2.1 v1.2.2] 23)) (w.heap.size + 1) (some ⟨w.heap.size, 0, none⟩) [v0, v1] := fun _ => by
  refine ⟨w.heap.size, 0, rfl, by omega, fun i x hx j u hu => ?_⟩
  match i, hx with
  | 0, hx =>
    simp at hx
    subst hx
    match j, hu with
    | 0, hu => simp [encS] at hu; subst hu; simp
    | j + 1, hu => simp [encS] at hu
  | 1, hx =>
    simp at hx
    subst hx
    match j, hu with
    | 0, hu => simp [encS] at hu; subst hu; simp
    | j + 1, hu => simp [encS] at hu
  | i + 2, hx => simp at hx

theorem concat2_any (A1 A2 : Option Addr) (n1 n2 c1 c2 : Nat) (a b : List Nd) (W : World) (ha : TyA W W.heap.size A1 a) (hb : TyA W W.heap.size A2 b) (h1 : n1 = a.length) (h2 : n2 = b.length) (hl : a.length + b.length ≤ 1000000) :
    Calls Tryz.prog 34 #[.slice (some ⟨W.heap.size, 0, none⟩) 2 2] (W.alloc (.cells #[.slice A1 n1 c1, .slice A2 n2 c2] 23)) fun e w' =>
      ∃ A' c', e = .returned (.slice A' (a ++ b).length c') ∧ OwnN w' W.heap.size A' c' (a ++ b) ∧ Below W.heap.size W w' := by
  subst h1 h2
  have hS := readS_new2 W (A1, a.length, c1) (A2, b.length, c2)
  have hb0 := ext_alloc (Below.refl W.heap.size W) (.cells #[.slice A1 a.length c1, .slice A2 b.length c2] 23)
  have hz : (W.alloc (.cells #[.slice A1 a.length c1, .slice A2 b.length c2] 23)).heap.size = W.heap.size + 1 := by simp
  have h := concat_any (some ⟨W.heap.size, 0, none⟩) 2 [(A1, a.length, c1), (A2, b.length, c2)] [a, b] _ (ReadL.more hS (by rw [hz]; exact Nat.le_refl _)) ⟨rfl, fun i v xs hv hx => by
    match i, hv, hx with
    | 0, hv, hx => simp at hv hx; subst hv hx; exact ⟨rfl, (ha.below hb0).more hb0.size⟩
    | 1, hv, hx => simp at hv hx; subst hv hx; exact ⟨rfl, (hb.below hb0).more hb0.size⟩
    | i + 2, hv, hx => simp at hv⟩ (by simp) (by simp; omega)
  have hfl : [a, b].flatten = a ++ b := by simp
  rw [hfl] at h
  refine h.mono ?_
  rintro e w1 ⟨A', c', rfl, hown, hbel⟩
  exact ⟨A', c', rfl, OwnL.lower hown hb0.size, ext_trans hb0 hbel⟩
end Go.Proofs.YtblfeokjlecgkaaGreat
