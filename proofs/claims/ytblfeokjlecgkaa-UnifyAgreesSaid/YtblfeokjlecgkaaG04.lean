/- Laid together by a tool from the texts of this seat: UAgP. Conditions: each theorem's own. -/
import Derived.Test.YtblfeokjlecgkaaG03
import Derived.Test.YtblfeokjlecgkaaG02
/- What UnifyAgrees asks: plain. -/
namespace Go.Proofs.Ytblfeokjlecgkaa
open Go.RowKit

theorem gd_mid {ts : List Nd} (h : GdT ts) : Mid ts := by
  induction h with
  | mk x tss ok k9 tr ch row els tl ih =>
    refine .node x _ (fun t ht => ?_) (fun t ht => ?_)
    · rw [← tr.uniq] at ht
      exact gd_k9 (ch t ht)
    · rw [← tr.uniq, ← lOf_tOf tss] at ht
      rcases List.mem_append.1 ht with ht | ht
      · exact ih t ht
      · obtain ⟨n, _, rfl⟩ := tl t ht
        have e : splitF (manyN ⟨9, ByteArray.empty, n⟩) [] = [] := rfl
        exact .node _ _ (fun t ht => by rw [e] at ht; cases ht) (fun t ht => by rw [e] at ht; cases ht)
theorem rGround_gd (A : Option Addr) (c : Nat) (xs : List Nd) (w : World) (ha : TyA w w.heap.size A xs) (hg : GdT xs) (hl : xs.length ≤ 1000000) (hc : xs.length ≤ c) :
    Calls Try.prog 29 #[.slice A xs.length c] w (RetN w (grdT xs)) := by
  have h := Lib.hid (rground_any xs.length A c xs w (Nat.le_refl _) hl hg.trw.fo hg.trw.ok (gd_mid hg) ha hc)
  clear ha hg
  go_enter Try.func29, Try.ntmps29
  go_wp2_with fail
  refine h.out.mono ?_
  rintro e w1 ⟨A', c', rfl, hown, hb⟩
  go_wp2_with fail
  go_ret
  exact ⟨A', c', rfl, hown, hb⟩
section
variable {U : List Lb} {m0 : Int} {S : Kn} {l : List Stp}
theorem pair_known (h : RunB U m0 l S) (hg : ∀ x ∈ l, GoodS U m0 x) (hl : l.length ≤ 12) {x : Stp} (hx : x ∈ l) (hz : x.l.size = 0) :
    wfT (inst S.σ (utT x.a)) ∧ wfT (inst S.σ (utT x.b)) ∧ Co (inst S.σ (utT x.a)) (inst S.σ (utT x.b)) ∧ GdT x.a ∧ GdT x.b ∧ x.a.length ≤ 30 ∧ x.b.length ≤ 30 ∧ Told U m0 (utT x.a) ∧ Told U m0 (utT x.b) := by
  have g := hg x hx
  obtain ⟨g1, g2, g3, g4⟩ := g.pair hz
  have hc := g.c
  have hs := h.run.most.co _ h.run.most.inv.sat x hx
  have e : x.cst = .pair (utT x.a) (utT x.b) := if_pos hz
  rw [e] at hc hs
  have hw : ∀ n, 0 ≤ n → n < m0 → wfT (S.σ.v n) := fun n h0 hn => (run_wf h.run hg hl h0 hn).1
  exact ⟨wf_inst hw _ hc.1.wf hc.1.no, wf_inst hw _ hc.2.wf hc.2.no, hs, g1, g2, g3, g4, hc.1, hc.2⟩
theorem known_len (h : RunB U m0 l S) {t : List Nd} (g : GdT t) (ht : Told U m0 (utT t)) (hl : t.length ≤ 30) (s : Lb) : (flT s (inst S.σ (utT t))).length ≤ 600000 := by
  have hf := h.run.fit
  have h1 := inst_len (m0 := m0) (σ := S.σ) (B := 20000) (by omega) (fun n h0 hm s => by have h2 := (hf n h0 hm).1; have h3 := fl_len (S.σ.v n) h2 s; omega) (utT t) (gd_wf g) ht.no s
  have h2 := gd_fl g
  have h3 : (flT s (utT t)).length = t.length := by
    rw [fl_lab s (headNd t).s, h2, List.length_map]
  rw [h3] at h1
  omega
theorem again_ok (h : RunB U m0 l S) {i : Nat} {x : Stp} (hx : l[i]? = some x) : ¬ Bad m0 (allC (l ++ l.take i ++ [x])) := by
  have e : allC (l ++ l.take i ++ [x]) = allC l := by
    funext τ
    apply propext
    unfold allC
    constructor
    · intro h y hy
      exact h y (by simp [hy])
    · intro h y hy
      rcases List.mem_append.1 hy with hy | hy
      · rcases List.mem_append.1 hy with hy | hy
        · exact h y hy
        · exact h y (List.mem_of_mem_take hy)
      · rw [List.mem_singleton.1 hy]
        exact h x (List.mem_of_getElem? hx)
  rw [e]
  exact h.run.not_bad h.run.low fun _ h => h
theorem take_again {i : Nat} {x : Stp} (hx : l[i]? = some x) : l ++ l.take (i + 1) = l ++ l.take i ++ [x] := by
  rw [List.take_add_one, hx, List.append_assoc]
  rfl
end
theorem loose_gd {t : Ut} (h : wfT t) (s : Lb) : TrW ((flT s t).map looseN) := by
  rw [← loose_fl t h]
  exact (wf_fl _ (loose_wf t h) s).1.trw
theorem lab_fl {U : List Lb} : ∀ t, labT U t → ∀ s, ∀ x ∈ flT s t, x.s = s ∨ x.s = ByteArray.empty ∨ x.s ∈ U := by
  refine Ut.ind fun k n fs tl ih h s => ?_
  rw [labT_mk] at h
  rw [flT_mk]
  split
  · intro x hx
    rcases List.mem_cons.1 hx with rfl | hx
    · exact .inl rfl
    · rcases List.mem_append.1 hx with hx | hx
      · rw [flF_flat] at hx
        obtain ⟨l, hl, hx⟩ := List.mem_flatten.1 hx
        obtain ⟨p, hp, rfl⟩ := List.mem_map.1 hl
        rcases ih p hp (h.2 p hp) p.1 x hx with e | e | e
        · exact .inr (.inr (by rw [e]; exact (h.1 p.1 (List.mem_map.2 ⟨p, hp, rfl⟩)).1))
        · exact .inr (.inl e)
        · exact .inr (.inr e)
      · cases tl with
        | none => cases hx
        | some p => simp only [tailN, List.mem_singleton] at hx; rw [hx]; exact .inr (.inl rfl)
  · intro x hx
    rcases List.mem_cons.1 hx with rfl | hx
    · exact .inl rfl
    · rw [flE_flat] at hx
      obtain ⟨l, hl, hx⟩ := List.mem_flatten.1 hx
      obtain ⟨p, hp, rfl⟩ := List.mem_map.1 hl
      rcases ih p hp (h.2 p hp) _ x hx with e | e | e
      · exact .inr (.inl e)
      · exact .inr (.inl e)
      · exact .inr (.inr e)
theorem gr_lab {U : List Lb} : ∀ t, labT U t → labT U (grT t) := by
  refine Ut.ind fun k n fs tl ih h => ?_
  rw [labT_mk] at h
  rw [grT_mk]
  split
  · unfold unitT
    rw [labT_mk]
    exact ⟨fun l hl => (by cases hl), fun p hp => by cases hp⟩
  · rw [labT_mk, mapF_labs]
    refine ⟨h.1, fun p hp => ?_⟩
    obtain ⟨q, hq, rfl⟩ := List.mem_map.1 hp
    exact ih q hq (h.2 q hq)
theorem labsM_size {xs : List Stp} (hok : ∀ x ∈ xs, x.Ok) : ∀ l ∈ labsM xs, l.size ≤ 9223372036854775807 := by
  intro l hl
  unfold labsM at hl
  simp only [List.mem_cons, List.mem_flatMap] at hl
  rcases hl with rfl | rfl | ⟨x, hx, h⟩
  · decide
  · decide
  · rcases h with rfl | h
    · exact (hok x hx).l
    · split at h
      · rcases List.mem_append.1 h with h | h
        · obtain ⟨y, hy, rfl⟩ := List.mem_map.1 h
          exact ((hok x hx).a.2 y hy).s1
        · obtain ⟨y, hy, rfl⟩ := List.mem_map.1 h
          exact ((hok x hx).b.2 y hy).s1
      · cases h
structure KnownOf (U : List Lb) (S : Kn) (n : Int) : Prop where
  gd : GdT (flT ByteArray.empty (S.σ.v n))
  ut : utT (flT ByteArray.empty (S.σ.v n)) = S.σ.v n
  hd : (headNd (flT ByteArray.empty (S.σ.v n))).s = ByteArray.empty
  tg : TG U S (S.σ.v n)
  self : inst S.σ (S.σ.v n) = S.σ.v n
  len : (flT ByteArray.empty (S.σ.v n)).length ≤ 20000
  st : staticB (flT ByteArray.empty (S.σ.v n)) = true
  gr : rRightB (grdT (flT ByteArray.empty (S.σ.v n))) = true
  gl : ∀ x ∈ grdT (flT ByteArray.empty (S.σ.v n)), x.s.size ≤ 9223372036854775807
theorem known_of {U : List Lb} {m0 : Int} {S : Kn} {l : List Stp} (h : RunB U m0 l S) (hg : ∀ x ∈ l, GoodS U m0 x) (hl : l.length ≤ 12) (hU : ∀ y ∈ U, y.size ≤ 9223372036854775807) {n : Int} (h0 : 0 ≤ n) (hn : n < m0) : KnownOf U S n := by
  obtain ⟨w, tg, self⟩ := run_wf h.run hg hl h0 hn
  obtain ⟨g, u⟩ := wf_fl _ w ByteArray.empty
  have hf := h.run.fit n h0 hn
  have hlen := fl_len _ hf.1 ByteArray.empty
  refine ⟨g, u, (flT_head (t := S.σ.v n) ByteArray.empty).1, tg, self, by omega, ?_, by rw [right_eq]; exact ground_right w hf.2 hf.1, fun x hx => ?_⟩
  · unfold staticB
    rw [List.all_eq_true]
    intro x hx
    have := fl_static _ (h.run.kg.inv.wf.ok.v n (h.run.most.sort n hn)).1 _ x hx
    simpa using this
  · rw [gr_fl _ w] at hx
    rcases lab_fl _ (gr_lab _ tg.lb) _ x hx with e | e | e
    · rw [e]; decide
    · rw [e]; decide
    · exact hU _ e
end Go.Proofs.Ytblfeokjlecgkaa
