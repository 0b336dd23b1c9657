/- term.Ground, walked. -/
import Derived.Test.YtblfeokjlecgkaaGreatFresh
import Derived.Test.YtblfeokjlecgkaaGreatPutP
import Derived.Test.YtblfeokjlecgkaaGreatJoined
import Derived.Deep.DeepCutAuto
import Derived.Deep.CutRange
namespace Go.Proofs.YtblfeokjlecgkaaGreat
open Go.RowKit

/-- The children that are not the tail, as they lie in memory. -/
structure GKids (w0 w : World) (B Bv : Nat) (V : Option Addr) (n : Nat) (vs : List (Option Addr × Nat × Nat)) (l : List (List Nd)) : Prop where
  ext : Below w0.heap.size w0 w
  r : ReadS w Bv V vs
  s : Sls w B vs l
  n : n = vs.length
  caps : ∀ q ∈ vs, q.2.1 ≤ q.2.2
  lo : w0.heap.size ≤ Bv
  hi : Bv ≤ w.heap.size

theorem GKids.step {w0 w w' : World} {B Bv : Nat} {V : Option Addr} {n : Nat} {vs : List (Option Addr × Nat × Nat)} {l : List (List Nd)} (h : GKids w0 w B Bv V n vs l) (hb : Below Bv w w') (hB : B ≤ w0.heap.size) : GKids w0 w' B Bv V n vs l :=
  ⟨h.ext.trans (hb.mono h.lo), ReadL.below h.r hb, sls_below h.s (hb.mono (Nat.le_trans hB h.lo)), h.n, h.caps, h.lo, Nat.le_trans h.hi hb.size⟩

theorem GKids.calls {w0 w w' : World} {B Bv : Nat} {V : Option Addr} {n : Nat} {vs : List (Option Addr × Nat × Nat)} {l : List (List Nd)} (h : GKids w0 w B Bv V n vs l) (hb : Below w.heap.size w w') (hB : B ≤ w0.heap.size) : GKids w0 w' B Bv V n vs l := h.step (hb.mono h.hi) hB

/-- What is put behind one another. -/
def grCat (l : List (List Nd)) (k : Nat) : List Nd := ((l.take k).map grdT).flatten

theorem grCat_step {l : List (List Nd)} {k : Nat} {t : List Nd} (h : l[k]? = some t) : grCat l (k + 1) = grCat l k ++ grdT t := by
  unfold grCat
  rw [List.take_add_one, h, List.map_append, List.flatten_append]
  simp

theorem grCat_end (l : List (List Nd)) : grCat l l.length = (l.map grdT).flatten := by simp [grCat]

theorem grCat_le {l : List (List Nd)} (h : ∀ t ∈ l, Fo 1 t) (k : Nat) : (grCat l k).length ≤ l.flatten.length := by
  unfold grCat
  have h1 := flat_map_le (p := grdT) (l := l.take k) fun t ht => grd_len t (h t (List.mem_of_mem_take ht))
  have h2 := flatten_take_le l k
  omega

def grHd (x : Nd) (m : Nat) : Nd := if isRowB x.k = true then ⟨x.k, x.s, (m : Nat)⟩ else x

set_option maxRecDepth 100000 in
set_option maxHeartbeats 8000000 in
theorem ground_any (N : Nat) : ∀ (A : Option Addr) (c B : Nat) (xs : List Nd) (w : World), xs.length ≤ N → xs.length ≤ 1000000 → Fo 1 xs → okAll xs → TyA w B A xs → B ≤ w.heap.size → xs.length ≤ c →
    Calls Tryz.prog 12 #[.slice A xs.length c] w (RetN w (grdT xs)) := by
  induction N with
  | zero =>
    intro A c B xs w h0 _ hf
    have := hf.pos
    omega
  | succ N ih =>
    have Ih := Lib.hid ih
    clear ih
    intro A c B xs w hN hl hf hok ha hB hc
    match xs, hf with
    | [], hf => cases hf
    | x :: ks0, hf =>
      obtain ⟨ks, rs, hks0, hks, hrs⟩ := hf.uncons
      have := hrs.of_zero
      subst this
      rw [List.append_nil] at hks0
      subst hks0
      obtain ⟨tss, ht⟩ : ∃ tss, Trees (manyN x) ks0 tss := ⟨_, trees_of hks⟩
      have hxo : okNode x.k x.n = true := hok x (by simp)
      have hoks : okAll ks0 := fun y hy => hok y (by simp [hy])
      obtain ⟨b1, o1, rfl, hb1, c10, c11, c12⟩ := ha.at_ (i := 0) (x := x) rfl
      simp only [Nat.zero_mul, Nat.add_zero] at c10 c11 c12
      have hkc := Lib.hid (tkids_any (some ⟨b1, o1, none⟩) c B (x :: ks0) ks0 x tss w ha hB hl hc rfl hxo hoks ht)
      have hgc : Hid (grdT (x :: ks0) = if x.k = 8 ∨ (x.k = 7 ∧ (lOf tss).length = 0) then [⟨4, x.s, 0⟩] else grHd x (lOf tss).length :: ((lOf tss).map grdT).flatten) := Lib.hid (by
        rw [grdT_cons, ← ht.uniq]; rfl)
      have Hne : Hid (∀ ts ∈ tss, ts ≠ []) := Lib.hid fun ts hts => ht.ne hts
      have hmn : manyN x ≤ 50 := manyN_le hxo
      have Hll : Hid ((lOf tss).length ≤ 50 ∧ (lOf tss).flatten.length ≤ ks0.length ∧ (∀ t ∈ lOf tss, Fo 1 t ∧ okAll t)) := Lib.hid ⟨by have := lOf_le tss; rw [ht.len] at this; omega, by have := flat_lOf tss; rwa [ht.flat] at this, fun t hm => ⟨ht.one t (mem_lOf hm), fun y hy => hoks y (by rw [← ht.flat]; exact List.mem_flatten.2 ⟨t, mem_lOf hm, hy⟩)⟩⟩
      have Ha := Lib.hid ha
      have Hk50 := Lib.hid hmn
      have hlx : ks0.length + 1 ≤ c := by simpa using hc
      have hlN : ks0.length ≤ N := by simp at hN; omega
      have hl6 : ks0.length ≤ 1000000 := by simp at hl; omega
      have hx0 : 0 < (x :: ks0).length := by simp
      clear ha hf hok hks hrs ht hxo hoks hmn hN hl hc
      have H1 := Lib.hid (And.intro c10 (And.intro c11 c12))
      clear c10 c11 c12
      generalize hL : (x :: ks0).length = L at *
      have HL := Lib.hid hL
      clear hL
      go_enter Tryz.func12, Tryz.ntmps12
      go_upto_region 1 with fail
      go_cut [3] (fun s3 wx => ∃ V n c3 vs, s3 = .slice V n c3 ∧ Hid (GKids w wx B wx.heap.size V n vs (lOf tss)))
      case first =>
        go_wp2_with fail
        refine hkc.out.mono ?_
        rintro e w1 ⟨V, cv, vs, rfl, hown, hvl, hS, hcap, hb⟩
        clear hkc
        have hr := OwnL.read encS_len hown
        have hv50 : vs.length ≤ 50 := by have := Hk50.out; omega
        have Hvl := Lib.hid hvl
        clear hvl
        cases htb : tailB tss
        · have h := cut_no V cv B vs tss w1 hr hS Hne.out (by omega) htb
          have HT := Lib.hid htb
          have M := Lib.hid (And.intro hr (And.intro hS (And.intro hcap hb)))
          clear htb hr hS hcap hb hown
          go_wp2_with fail
          refine h.mono ?_
          rintro e w2 ⟨rfl, q, rfl⟩
          go_wp2_with fail
          go_meet
          have e : lOf tss = tss := by unfold lOf; rw [HT.out]; rfl
          have hq := ext_drewN (Below.refl _ w1) q
          exact ⟨V, _, cv, vs, rfl, Lib.hid ⟨ext_trans M.out.2.2.2 hq, (ReadL.below M.out.1 hq).more hq.size, by rw [e]; exact sls_below M.out.2.1 (hq.mono (Nat.le_trans hB M.out.2.2.2.size)), rfl, M.out.2.2.1, M.out.2.2.2.size, Nat.le_refl _⟩⟩
        · obtain ⟨b, o, hV, h0, h⟩ := cut_yes V cv B vs tss w1 hr hS Hne.out (by omega) (OwnL.le_cap hown) htb
          have HT := Lib.hid htb
          have M := Lib.hid (And.intro hr (And.intro hS (And.intro hcap hb)))
          have HV := Lib.hid hV
          clear htb hr hS hcap hb hown hV
          go_wp2_with fail
          refine h.mono ?_
          rintro e w2 ⟨rfl, q, rfl⟩
          go_wp2_with fail
          go_meet
          have e : lOf tss = tss.take (vs.length - 1) := by unfold lOf; rw [HT.out, M.out.2.1.1]; rfl
          have hq := ext_drewN (Below.refl _ w1) q
          exact ⟨V, _, _, vs.take (vs.length - 1), rfl, Lib.hid ⟨ext_trans M.out.2.2.2 hq, (readS_take (ReadL.below M.out.1 hq) _).more hq.size, by rw [e]; exact sls_take (sls_below M.out.2.1 (hq.mono (Nat.le_trans hB M.out.2.2.2.size))) _, by rw [List.length_take]; omega, fun q hq => M.out.2.2.1 q (List.mem_of_mem_take hq), M.out.2.2.2.size, Nat.le_refl _⟩⟩
      case rest =>
        obtain ⟨V, n, c3, vs, rfl, G⟩ := hcut
        clear hkc Hne Hk50
        have hnl : n = (lOf tss).length := by rw [G.out.n, G.out.s.1]
        have hn50 : n ≤ 50 := by rw [hnl]; exact Hll.out.1
        have HN := Lib.hid hnl
        clear hnl
        have hbB : b1 < wc.heap.size := Nat.lt_of_lt_of_le hb1 (Nat.le_trans hB G.out.ext.size)
        have c10 := (G.out.ext.cell (p := ⟨b1, o1, none⟩) (by show b1 < _; omega)).trans H1.out.1
        have c11 := (G.out.ext.cell (p := ⟨b1, o1 + 1, none⟩) (by show b1 < _; omega)).trans H1.out.2.1
        have c12 := (G.out.ext.cell (p := ⟨b1, o1 + 2, none⟩) (by show b1 < _; omega)).trans H1.out.2.2
        cases h8 : (x.k == 8)
        · have H8 := Lib.hid h8
          have hcase : ((x.k == 7) = true ∧ ((n : Int) == 0) = true) ∨ ((x.k == 7) = true ∧ ((n : Int) == 0) = false) ∨ (x.k == 7) = false := by
            cases (x.k == 7) <;> cases ((n : Int) == 0) <;> simp
          rcases hcase with ⟨h7, h0⟩ | hcase
          · have H7 := Lib.hid h7
            have H0 := Lib.hid h0
            go_wp2_with fail
            go_ret
            have e : grdT (x :: ks0) = [⟨4, x.s, 0⟩] := by
              rw [hgc.out, if_pos (.inr ⟨by simpa using H7.out, by rw [← HN.out]; simpa using H0.out⟩)]
            unfold RetN
            rw [e]
            exact ⟨_, _, rfl, (own_one wc ⟨4, x.s, 0⟩).lower G.out.ext.size, ext_alloc G.out.ext _⟩
          · have hg : Hid (grdT (x :: ks0) = grHd x n :: ((lOf tss).map grdT).flatten) := Lib.hid (by
              rw [hgc.out, if_neg, HN.out]
              rintro (e | ⟨e7, e0⟩)
              · rw [e] at h8; cases h8
              · rcases hcase with ⟨_, h0⟩ | h7
                · rw [HN.out, e0] at h0; cases h0
                · rw [e7] at h7; cases h7)
            have hcl := Lib.hid (clone_any (some ⟨b1, o1, none⟩) c [x] wc (fun _ => ⟨b1, o1, rfl, hbB, ⟨fun i y hi => by
                match i, hi with
                | 0, hi => simp at hi; subst hi; simpa using c10
                | i + 1, hi => simp at hi, fun i y hi => by
                match i, hi with
                | 0, hi => simp at hi; subst hi; simpa using c11
                | i + 1, hi => simp at hi, fun i y hi => by
                match i, hi with
                | 0, hi => simp at hi; subst hi; simpa using c12
                | i + 1, hi => simp at hi⟩⟩) (by simp) (by simp))
            rcases hcase with ⟨h7, h0⟩ | h7
            all_goals
              obtain ⟨Bv, hBv⟩ : ∃ Bv, Bv = wc.heap.size := ⟨_, rfl⟩
              have G0 := Lib.hid (And.intro hBv G.out)
              have hbv : b1 < Bv := by omega
              clear hBv
              go_upto_region 4 with fail
              go_cut [5] (fun s5 wx => ∃ A3 c3', s5 = .slice A3 1 c3' ∧ Hid (OwnN wx Bv A3 c3' [x] ∧ GKids w wx B Bv V n vs (lOf tss)) ∧ Hid (wx.cell? ⟨b1, o1, none⟩ = some (.int .i64 x.k) ∧ wx.cell? ⟨b1, o1 + 1, none⟩ = some (.string x.s) ∧ wx.cell? ⟨b1, o1 + 2, none⟩ = some (.int .i64 x.n)))
              case first =>
                go_wp2_with fail
                refine hcl.out.mono ?_
                rintro e w3 ⟨A3, c3', rfl, hown3, hb3⟩
                have D := Lib.hid (And.intro ((hb3.cell (p := ⟨b1, o1, none⟩) hbB).trans c10) (And.intro ((hb3.cell (p := ⟨b1, o1 + 1, none⟩) hbB).trans c11) ((hb3.cell (p := ⟨b1, o1 + 2, none⟩) hbB).trans c12)))
                have G3 : Hid (OwnN w3 Bv A3 c3' [x] ∧ GKids w w3 B Bv V n vs (lOf tss)) := Lib.hid (by
                  rw [G0.out.1]
                  exact ⟨hown3, G0.out.2.calls hb3 hB⟩)
                clear hown3 hb3 c10 c11 c12
                go_wp2_with fail
                go_meet
                exact ⟨A3, c3', rfl, G3, D⟩
              case rest =>
                clear G G0 hcl c10 c11 c12 hbB
                obtain ⟨A3, c3', rfl, G, D⟩ := hcut
                have hbB : b1 < wc.heap.size := Nat.lt_of_lt_of_le hbv G.out.2.hi
                have c10 := D.out.1
                have c11 := D.out.2.1
                have c12 := D.out.2.2
                go_upto_region 5 with fail
                go_cut [43] (fun s43 wx => s43 = .bool (isRowB x.k) ∧ Hid (OwnN wx Bv A3 c3' [x] ∧ GKids w wx B Bv V n vs (lOf tss)))
                case first =>
                  go_wp2_with fail
                  refine (tIsRow_any _ _ _ _).mono ?_
                  rintro e w4 ⟨rfl, hb4⟩
                  replace G := Lib.hid (And.intro (OwnL.below G.out.1 hb4 (Nat.le_refl _)) (G.out.2.calls hb4 hB))
                  clear hb4
                  go_wp2_with fail
                  go_meet
                  exact ⟨rfl, G⟩
                case rest =>
                  clear G D c10 c11 c12 hbB
                  obtain ⟨rfl, G⟩ := hcut
                  go_upto_if 43 with fail
                  go_cut [] (fun wx => Hid (OwnN wx Bv A3 c3' [grHd x n] ∧ GKids w wx B Bv V n vs (lOf tss)))
                  case first =>
                    cases hr : isRowB x.k
                    · have HR := Lib.hid hr
                      go_wp2_with fail
                      go_meet
                      have e : grHd x n = x := by unfold grHd; rw [HR.out]; rfl
                      rw [e]
                      exact G
                    · have HR := Lib.hid hr
                      obtain ⟨g, rfl, hbg, hgw, cm, fm, hown5, hgr5⟩ := OwnL.setM G.out.1 (j := 0) (x := x) rfl (n : Int)
                      simp only [Nat.zero_mul, Nat.zero_add] at cm fm hown5 hgr5
                      have M5 := Lib.hid (And.intro hown5 hgr5)
                      clear hown5 hgr5
                      go_wp2_with fail
                      go_meet
                      have e : grHd x n = ⟨x.k, x.s, (n : Int)⟩ := by unfold grHd; rw [HR.out]; rfl
                      rw [e]
                      exact Lib.hid ⟨M5.out.1, G.out.2.step ((Below.refl Bv _).setCell hbg _) hB⟩
                  case rest =>
                    replace G := Lib.hid hcut.out
                    clear hcut
                    go_wp2_with fail
                    go_loopw [5, 51] (fun s5 s51 wr => ∃ (k : Nat) (A5 : Option Addr) (c5 : Nat) (out : List Nd), s5 = .slice A5 out.length c5 ∧ s51 = .int .i64 k ∧ k ≤ n ∧ out.length ≤ 1000001 ∧ Hid (out = grHd x n :: grCat (lOf tss) k) ∧ Hid (OwnN wr Bv A5 c5 out ∧ GKids w wr B Bv V n vs (lOf tss)))
                      (fun _ s51 _ => n - (intOf s51).toNat)
                    case atStart => exact ⟨0, A3, c3', [grHd x n], rfl, rfl, Nat.zero_le _, by simp, Lib.hid (by simp [grCat]), G⟩
                    case round =>
                      clear G
                      obtain ⟨k, A5, c5, out, rfl, rfl, hk, hol, hout, G⟩ := hrel
                      by_cases hp : k < n
                      · obtain ⟨v, hv⟩ := getq_ex (show k < vs.length by rw [← G.out.2.n]; exact hp)
                        obtain ⟨t, ht⟩ := getq_ex (show k < (lOf tss).length by rw [← HN.out]; exact hp)
                        obtain ⟨b, o, rfl, hb, c0⟩ := ReadL.slice G.out.2.r hv
                        obtain ⟨e1, e2⟩ := G.out.2.s.2 k v t hv ht
                        have hmt := Hll.out.2.2 t (List.mem_of_getElem? ht)
                        have hlt : t.length ≤ ks0.length := by
                          have h1 := List.Sublist.length_le (List.sublist_flatten_of_mem (List.mem_of_getElem? ht))
                          have h2 := Hll.out.2.1
                          omega
                        have hcap := G.out.2.caps v (List.mem_of_getElem? hv)
                        rw [e1] at c0 hcap
                        have hI := Lib.hid (Ih.out v.1 v.2.2 B t wr (by omega) (by omega) hmt.1 hmt.2 e2 (Nat.le_trans hB G.out.2.ext.size) hcap)
                        have hgl := grd_len t hmt.1
                        have hout' : Hid (out ++ grdT t = grHd x n :: grCat (lOf tss) (k + 1)) := Lib.hid (by rw [hout.out, grCat_step ht, List.cons_append])
                        have hol' : out.length + (grdT t).length ≤ 1000001 := by
                          have h1 := congrArg List.length hout'.out
                          rw [List.length_append, List.length_cons] at h1
                          have h2 := grCat_le (fun t ht => (Hll.out.2.2 t ht).1) (k + 1)
                          have h3 := Hll.out.2.1
                          omega
                        have hbr : b < wr.heap.size := Nat.lt_of_lt_of_le hb G.out.2.hi
                        clear hv ht e1 e2 hmt hcap hb
                        go_wp2_with fail
                        refine hI.out.mono ?_
                        rintro e w5 ⟨A6, c6, rfl, hown6, hb6⟩
                        replace G := Lib.hid (And.intro (OwnL.below G.out.1 hb6 (Nat.le_refl _)) (G.out.2.calls hb6 hB))
                        have H6 := Lib.hid (OwnL.tyA hown6)
                        clear hown6 hb6 hI c0
                        go_wp2_with (at_builtin; refine wpList_appN rfl (.tmp 55) (.tmp 57) rfl Bv (l := out) rfl G.out.1 (l2 := grdT t) rfl H6.out (by omega) G.out.2.hi ?_; intro A7 c7 w7 hown7 hg7 _; replace G := Lib.hid (And.intro hown7 (G.out.2.step (below_app hg7 G.out.2.hi (fun a ha => (OwnL.lt G.out.1 a ha).1)) hB)); clear hown7 hg7)
                        go_roundw
                        case rel => exact ⟨k + 1, A7, c7, out ++ grdT t, by simp, by go_num, hp, by simp; omega, hout', G⟩
                        case measure => simp [intOf]; omega
                      · have hkn : k = (lOf tss).length := by have := HN.out; omega
                        have e : out = grdT (x :: ks0) := by rw [hg.out, hout.out, hkn, grCat_end]
                        have E := Lib.hid e
                        clear e hkn
                        go_wp2_with fail
                        go_ret
                        unfold RetN
                        rw [← E.out]
                        exact ⟨A5, c5, rfl, OwnL.lower G.out.1 G.out.2.lo, G.out.2.ext⟩
        · have H8 := Lib.hid h8
          go_wp2_with fail
          go_ret
          have e : grdT (x :: ks0) = [⟨4, x.s, 0⟩] := by rw [hgc.out, if_pos (.inl (by simpa using H8.out))]
          unfold RetN
          rw [e]
          exact ⟨_, _, rfl, (own_one wc ⟨4, x.s, 0⟩).lower G.out.ext.size, ext_alloc G.out.ext _⟩
end Go.Proofs.YtblfeokjlecgkaaGreat
