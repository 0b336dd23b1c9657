/- Laid together by a tool from the texts of this seat: RdE RdF RdG RdH. Conditions: each theorem's own. -/
import Derived.Test.YtmjdhfbnmmdjiaaGreatK16
/- The document's labelled of parts. -/
namespace Go.Proofs.YtmjdhfbnmmdjiaaGreat
open Go.RowKit

/-- One child is as it should be. -/
def LabK (es : List Pt) (p : Pt) (l : List Nat) (k : Nat) : Prop := ∀ (a : Nat) (x : Pt), l[k]? = some a → es[a]? = some x → ((x.k = 8) ↔ (p.k = 7 ∧ 0 < k)) ∧ (p.k = 10 → wordB x.lb = true) ∧ (p.k = 7 → 0 < k → tagB x.lb = true) ∧ (p.k ≠ 10 → ¬ (p.k = 7 ∧ 0 < k) → x.lb = ByteArray.empty) ∧
  ∀ (j b : Nat) (y : Pt), j < k → l[j]? = some b → es[b]? = some y → x.lb ≠ ByteArray.empty → y.lb ≠ x.lb
theorem LabF.of {es : List Pt} {p : Pt} {l : List Nat} (hl : l.length = manyE p) (h : ∀ k, k < l.length → LabK es p l k) : LabF es p l where
  len := hl
  kind := fun k a x hk hx => (h k (getq_lt hk) a x hk hx).1
  word := fun k a x hk hx => (h k (getq_lt hk) a x hk hx).2.1
  tag := fun k a x hk hx => (h k (getq_lt hk) a x hk hx).2.2.1
  none := fun k a x hk hx => (h k (getq_lt hk) a x hk hx).2.2.2.1
  diff := fun j k a b x y hj ha hb hx hy hne => (h k (getq_lt hb) b y hb hy).2.2.2.2 j a x hj ha hx hne
theorem rKids_lt {es : List Pt} : ∀ (n a : Nat), ∀ i ∈ rKids es n a, i < es.length
  | 0, a, i, hi => by simp [rKids] at hi
  | n + 1, a, i, hi => by
    unfold rKids at hi
    split at hi
    · rcases List.mem_cons.1 hi with rfl | hi
      · assumption
      · exact rKids_lt n _ i hi
    · simp at hi

theorem lbE {s : ByteArray} (h : (!s.toList.isEmpty) = false) : s = ByteArray.empty := by
  rw [Bool.not_eq_false', isEmpty_size, decide_eq_true_eq] at h
  exact ByteArray.size_eq_zero_iff.1 h
theorem lbN {s : ByteArray} (h : wordB s = true ∨ tagB s = true) : s.toList.isEmpty = false := by
  have hne : s.toList ≠ [] := by
    rcases h with h | h
    · exact label_pos (k := 6) (by decide) (by simpa [labelB] using h)
    · exact label_pos (k := 7) (by decide) (by simpa [labelB] using h)
  cases hs : s.toList with
  | nil => exact absurd hs hne
  | cons => rfl
def LabC (p x : Pt) (k : Nat) : Prop := ((x.k = 8) ↔ (p.k = 7 ∧ 0 < k)) ∧ (p.k = 10 → wordB x.lb = true) ∧ (p.k = 7 → 0 < k → tagB x.lb = true) ∧ (p.k ≠ 10 → ¬ (p.k = 7 ∧ 0 < k) → x.lb = ByteArray.empty)
theorem labK4 {p x : Pt} {k : Nat} {k0 xk : Int} {v7 v10 v8 vk : Bool} (h0 : Hid (k0 = p.k)) (hx : Hid (xk = x.k)) (b7 : (k0 == 7) = v7) (b10 : (k0 == 10) = v10) (b8 : (xk == 8) = v8) (bk : decide (0 < k) = vk)
    (h : (v7 = true ∧ v10 = true) ∨ (v10 = false ∧ (v7 && vk) = false ∧ v8 = false ∧ (!x.lb.toList.isEmpty) = false) ∨ (v10 = false ∧ (v7 && vk) = true ∧ v8 = true ∧ tagB x.lb = true) ∨ (v10 = true ∧ (v7 && vk) = false ∧ v8 = false ∧ wordB x.lb = true)) : Hid (LabC p x k) := by
  refine Lib.hid ?_
  unfold LabC
  rw [← h0.out, ← hx.out]
  subst b7 b10 b8 bk
  simp only [Bool.and_eq_true, Bool.and_eq_false_iff, beq_iff_eq, beq_eq_false_iff_ne, decide_eq_true_eq, decide_eq_false_iff_not] at h
  rcases h with ⟨h1, h2⟩ | ⟨h1, h2, h3, h4⟩ | ⟨h1, h2, h3, h4⟩ | ⟨h1, h2, h3, h4⟩
  · omega
  · exact ⟨by omega, fun h => by omega, fun h h5 => by omega, fun _ _ => lbE h4⟩
  · exact ⟨by omega, fun h => by omega, fun _ _ => h4, fun _ h5 => absurd h2 h5⟩
  · exact ⟨by omega, fun _ => h4, fun h h5 => by omega, fun h => by omega⟩
theorem labK_of {es : List Pt} {p x : Pt} {l : List Nat} {k a : Nat} (H : Hid (l[k]? = some a ∧ es[a]? = some x)) (hc : Hid (LabC p x k)) (hd : ∀ (j b : Nat) (y : Pt), j < k → l[j]? = some b → es[b]? = some y → x.lb ≠ ByteArray.empty → y.lb ≠ x.lb) : LabK es p l k := by
  intro a2 x2 ha hx
  obtain ⟨h1, h2⟩ := H.out
  rw [h1] at ha
  injection ha with ha
  subst ha
  rw [h2] at hx
  injection hx with hx
  subst hx
  exact ⟨hc.out.1, hc.out.2.1, hc.out.2.2.1, hc.out.2.2.2, hd⟩

set_option maxRecDepth 100000 in
set_option maxHeartbeats 4000000 in
theorem rlabelledE_any (Y : Nat → Prop) (A : Option Addr) (c : Nat) (es : List Pt) (i : Nat) (p : Pt) (w : World) (hx : ExX w Y A es) (hl : es.length ≤ 1000000) (hok : PsOk es) (hp : es[i]? = some p) (hs : ∀ x ∈ es, x.lb.size ≤ 1000000) :
    Calls Tryz.prog 43 #[.slice A es.length c, .int .i64 (i : Int)] w (Shows (LabF es p (rKids es (manyE p) (i + 1))) w) := by
  have hi := getq_lt hp
  have H := Lib.hid (And.intro hx (And.intro hok hs))
  have hxo := hok p (List.mem_of_getElem? hp)
  have hm51 := manyE_le hxo.2
  have hKd := rKidsE_any Y A c es i p w hx hl hok hp
  obtain ⟨eb, eo, rfl, hb, hy, ⟨TA, tc, UA, uc, _, _, c0, c1, c2, c3, c4, c5, c6, c7⟩, _⟩ := hx i p hp
  have HM := Lib.hid (fun v => rmanyE_any p TA p.T.length tc UA p.U.length uc v hxo.1 hxo.2)
  have HC := Lib.hid (fun v (hv : Below w.heap.size w v) => And.intro ((hv.cell (p := ⟨eb, eo + i * 8, none⟩) hb).trans c0) (And.intro ((hv.cell (p := ⟨eb, eo + i * 8 + 1, none⟩) hb).trans c1) (And.intro ((hv.cell (p := ⟨eb, eo + i * 8 + 2, none⟩) hb).trans c2) (And.intro ((hv.cell (p := ⟨eb, eo + i * 8 + 3, none⟩) hb).trans c3) (And.intro ((hv.cell (p := ⟨eb, eo + i * 8 + 4, none⟩) hb).trans c4) (And.intro ((hv.cell (p := ⟨eb, eo + i * 8 + 5, none⟩) hb).trans c5) (And.intro ((hv.cell (p := ⟨eb, eo + i * 8 + 6, none⟩) hb).trans c6) ((hv.cell (p := ⟨eb, eo + i * 8 + 7, none⟩) hb).trans c7))))))))
  unfold pvE at HM
  have HKd := Lib.hid hKd
  have h0' : (0 : Int) ≤ (i : Int) := by omega
  have h1' : (i : Int) < (es.length : Int) := by omega
  obtain ⟨l, hll⟩ : ∃ l, l = rKids es (manyE p) (i + 1) := ⟨_, rfl⟩
  rw [← hll] at HKd ⊢
  have HLt : Hid (∀ a ∈ l, a < es.length) := Lib.hid (by rw [hll]; exact rKids_lt _ _)
  obtain ⟨M, hM⟩ : ∃ M, M = manyE p := ⟨_, rfl⟩
  rw [← hM] at HM
  have HF : Hid (l.length = M → (∀ k, k < l.length → LabK es p l k) → LabF es p l) := Lib.hid fun h1 h2 => LabF.of (by rw [h1, hM]) h2
  have Hp := Lib.hid hp
  rw [← hM] at hm51
  obtain ⟨k0, hk0⟩ : ∃ k0, k0 = p.k := ⟨_, rfl⟩
  rw [← hk0] at HC HM
  have HK0 := Lib.hid hk0
  clear hx hok hxo hp hM c0 c1 c2 c3 c4 c5 c6 c7 hy hKd hll hs hk0
  go_enter Tryz.func43, Tryz.ntmps43
  go_wp2_with fail
  refine HKd.out.mono ?_
  rintro e w1 ⟨A1, c1, rfl, hown1, hb1⟩
  have HR1 := Lib.hid (OwnL.read encI_len hown1)
  have HB1 := Lib.hid hb1
  obtain ⟨d0, d1, d2, d3, d4, d5, d6, d7⟩ := HC.out w1 hb1
  have hal : (asI l).length = l.length := by simp [asI]
  rw [hal]
  clear hown1 hb1 hal
  by_cases hlM : l.length = M
  rotate_left
  · have hlb : ((l.length : Int) != (M : Int)) = true := by simp; omega
    clear hlM
    go_wp2_with fail
    refine (HM.out _).mono ?_
    rintro e w2 ⟨rfl, hb2⟩
    have HB2 := Lib.hid (ext_trans HB1.out hb2)
    clear hb2 d0 d1 d2 d3 d4 d5 d6 d7
    go_wp2_with fail
    go_ret
    exact Shows.no HB2.out
  have hlb : ((l.length : Int) != (M : Int)) = false := by simp; omega
  have HlM := Lib.hid hlM
  have hM51 : l.length ≤ 51 := by omega
  clear hlM
  go_wp2_with fail
  refine (HM.out _).mono ?_
  rintro e w2 ⟨rfl, hb2⟩
  have HB2 : Hid (Below w1.heap.size w1 w2) := Lib.hid hb2
  clear hb2 d0 d1 d2 d3 d4 d5 d6 d7
  go_wp2_with fail
  go_loopw [6] (fun o6 wr => ∃ k : Nat, o6 = .int .i64 k ∧ k ≤ l.length ∧ Hid (Below w1.heap.size w1 wr ∧ ∀ j, j < k → LabK es p l j)) (fun o6 _ => l.length - (Lib.intOf o6).toNat)
  case atStart => exact ⟨0, rfl, by omega, Lib.hid ⟨HB2.out, fun j hj => by omega⟩⟩
  case round =>
    obtain ⟨k, rfl, hk, HI⟩ := hrel
    by_cases hlt : k < l.length
    rotate_left
    · go_wp2_with fail
      go_ret
      exact Shows.yes (fun _ => HF.out HlM.out fun j hj => HI.out.2 j (by omega)) (ext_trans HB1.out HI.out.1)
    obtain ⟨a, ha⟩ := getq_ex hlt
    have hae := HLt.out a (List.mem_of_getElem? ha)
    obtain ⟨x, hx⟩ := getq_ex hae
    have hbel : Below w.heap.size w wr := ext_trans HB1.out HI.out.1
    have hread := ReadL.below HR1.out HI.out.1
    obtain ⟨gl, go, hA1, hgl, cl⟩ := ReadL.int hread (i := k) (n := (a : Int)) (by simp [asI, ha])
    subst hA1
    obtain ⟨eb2, eo2, he2, hb2, hy2, ⟨TA2, tc2, UA2, uc2, _, _, f0, f1, f2, f3, f4, f5, f6, f7⟩, _⟩ := (H.out.1.fr (Fr.below hbel : Fr Y w wr) fun q hq => .inl hq) a x hx
    injection he2 with he2
    injection he2 with e1 e2
    subst e1 e2
    obtain ⟨d0, d1, d2, d3, d4, d5, d6, d7⟩ := HC.out wr hbel
    have hsz := H.out.2.2 x (List.mem_of_getElem? hx)
    go_upto_region 8 with fail
    obtain ⟨w3, hw3⟩ : ∃ w3, w3 = wr.alloc (.cells #[.int .i64 x.k, .string x.lb, .string x.nm, .string x.bd, .int .i64 x.mn, .int .i64 x.num, .slice TA2 x.T.length tc2, .slice UA2 x.U.length uc2] 33) := ⟨_, rfl⟩
    have HB3 : Hid (Below w1.heap.size w1 w3) := Lib.hid (by rw [hw3]; exact ext_alloc HI.out.1 _)
    have hbl3 : w3.heap[wr.heap.size]? = some (.cells #[.int .i64 x.k, .string x.lb, .string x.nm, .string x.bd, .int .i64 x.mn, .int .i64 x.num, .slice TA2 x.T.length tc2, .slice UA2 x.U.length uc2] 33 (0, 0)) := by rw [hw3]; exact heap_alloc_new _ _
    rw [← hw3]
    clear hw3 d0 d1 d2 d3 d4 d5 d6 d7 f0 f1 f2 f3 f4 f5 f6 f7 cl
    obtain ⟨d0, _, _, _, _, _, _, _⟩ := HC.out w3 (ext_trans HB1.out HB3.out)
    have g0 : w3.cell? ⟨wr.heap.size, 0, none⟩ = some (.int .i64 x.k) := by simp [World.cell?, hbl3]
    have g1 : w3.cell? ⟨wr.heap.size, 1, none⟩ = some (.string x.lb) := by simp [World.cell?, hbl3]
    have HX := Lib.hid (And.intro ha hx)
    have HBL3 := Lib.hid hbl3
    obtain ⟨xk, hxk⟩ : ∃ xk, xk = x.k := ⟨_, rfl⟩
    rw [← hxk] at g0
    have HXK := Lib.hid hxk
    obtain ⟨gx, hgx⟩ : ∃ gx, gx = wr.heap.size := ⟨_, rfl⟩
    rw [← hgx] at g0 g1 HBL3 ⊢
    clear ha hx hxk hgx hbl3 hread hbel
    have HW := Lib.hid (fun v => rIsWord_any x.lb v (by omega))
    have HG := Lib.hid (fun v => rIsTag_any x.lb v (by omega))
    clear hsz
    cases bk : decide (0 < k)
    all_goals
      cases b7 : (k0 == 7)
      all_goals
        cases b10 : (k0 == 10)
        all_goals
          cases b8 : (xk == 8)
          all_goals
            go_upto_region 14 with (first
              | (go_at_call 57; refine (HW.out _).mono ?_; rintro e w4 ⟨rfl, rfl⟩)
              | (go_at_call 58; refine (HG.out _).mono ?_; rintro e w4 ⟨rfl, rfl⟩))
    all_goals first
    | (go_ret
       exact Shows.no (ext_trans HB1.out HB3.out))
    | (have he0 : (!x.lb.toList.isEmpty) = false := by assumption
       have HKc := labK4 HK0 HXK b7 b10 b8 bk (.inr (.inl ⟨rfl, rfl, rfl, he0⟩))
       clear b7 b10 b8 bk g0 d0
       go_wp2_with fail
       go_loopw [10] (fun o10 wi => ∃ j : Nat, o10 = .int .i64 j ∧ j ≤ k ∧ Hid (Below w3.heap.size w3 wi)) (fun o10 _ => k - (Lib.intOf o10).toNat)
       case atStart => exact ⟨0, rfl, by omega, Lib.hid (Below.refl _ _)⟩
       case round =>
         obtain ⟨j, rfl, hj, HJ⟩ := hrel
         have g1i : wr.cell? ⟨gx, 1, none⟩ = some (.string x.lb) := (HJ.out.cell (p := ⟨gx, 1, none⟩) (Array.getElem?_eq_some_iff.1 HBL3.out).1).trans g1
         by_cases hjl : j < k
         · go_wp2_with fail
           go_quiet (fail)
           go_wp2_with fail
           go_roundw
           case rel => exact ⟨j + 1, by go_num, by omega, Lib.hid (below_drewN HJ.out _)⟩
           case measure => simp [Lib.intOf]; omega
         · go_wp2_with fail
           go_roundw
           case rel => exact ⟨k + 1, by go_num, by omega, Lib.hid ⟨ext_trans HB3.out HJ.out, fun m hm => by
              rcases Nat.lt_or_ge m k with h | h
              · exact HI.out.2 m h
              · have : m = k := by omega
                subst this
                exact labK_of HX HKc (fun _ _ _ _ _ _ h => absurd (lbE he0) h)⟩⟩
           case measure => simp [Lib.intOf]; omega)
    | (have hne : x.lb.toList.isEmpty = false := lbN (by first | exact .inl (by assumption) | exact .inr (by assumption))
       have HKc := labK4 HK0 HXK b7 b10 b8 bk (by first | exact .inl ⟨rfl, rfl⟩ | exact .inr (.inr (.inl ⟨rfl, rfl, rfl, by assumption⟩)) | exact .inr (.inr (.inr ⟨rfl, rfl, rfl, by assumption⟩)))
       clear b7 b10 b8 bk g0 d0
       go_wp2_with fail
       go_loopw [10] (fun o10 wi => ∃ j : Nat, o10 = .int .i64 j ∧ j ≤ k ∧ Hid (Below w3.heap.size w3 wi ∧ ∀ (m b : Nat) (y : Pt), m < j → l[m]? = some b → es[b]? = some y → x.lb ≠ ByteArray.empty → y.lb ≠ x.lb)) (fun o10 _ => k - (Lib.intOf o10).toNat)
       case atStart => exact ⟨0, rfl, by omega, Lib.hid ⟨Below.refl _ _, fun m b y hm => by omega⟩⟩
       case round =>
         obtain ⟨j, rfl, hj, HJ⟩ := hrel
         have g1i : wr.cell? ⟨gx, 1, none⟩ = some (.string x.lb) := (HJ.out.1.cell (p := ⟨gx, 1, none⟩) (Array.getElem?_eq_some_iff.1 HBL3.out).1).trans g1
         by_cases hjl : j < k
         · have hjl2 : j < l.length := by omega
           obtain ⟨b, hb⟩ := getq_ex hjl2
           have hbe := HLt.out b (List.mem_of_getElem? hb)
           obtain ⟨y, hy⟩ := getq_ex hbe
           have hbi : Below w1.heap.size w1 wr := ext_trans HB3.out HJ.out.1
           have hreadi := ReadL.below HR1.out hbi
           obtain ⟨gl2, go2, hA2, hgl2, cl2⟩ := ReadL.int hreadi (i := j) (n := (b : Int)) (by simp [asI, hb])
           injection hA2 with hA2
           injection hA2 with q1 q2
           subst q1 q2
           obtain ⟨eb3, eo3, he3, hb3, hy3, ⟨TA3, tc3, UA3, uc3, _, _, q0, q1, q2, q3, q4, q5, q6, q7⟩, _⟩ := (H.out.1.fr (Fr.below (ext_trans HB1.out hbi) : Fr Y w wr) fun q hq => .inl hq) b y hy
           injection he3 with he3
           injection he3 with e1 e2
           subst e1 e2
           have HY := Lib.hid (And.intro hb hy)
           clear hb hy hbi hreadi
           cases hq : (y.lb.toList == x.lb.toList)
           · go_wp2_with fail
             go_quiet (fail)
             go_wp2_with fail
             go_roundw
             case rel => exact ⟨j + 1, by go_num, by omega, Lib.hid ⟨below_drewN HJ.out.1 _, fun m b2 y2 hm h1 h2 h3 => by
                rcases Nat.lt_or_ge m j with h | h
                · exact HJ.out.2 m b2 y2 h h1 h2 h3
                · have : m = j := by omega
                  subst this
                  rw [HY.out.1] at h1
                  injection h1 with h1
                  subst h1
                  rw [HY.out.2] at h2
                  injection h2 with h2
                  subst h2
                  intro e
                  rw [e] at hq
                  simp at hq⟩⟩
             case measure => simp [Lib.intOf]; omega
           · go_wp2_with fail
             go_quiet (fail)
             go_wp2_with fail
             go_ret
             exact Shows.no (ext_trans HB1.out (ext_trans HB3.out (below_drewN HJ.out.1 _)))
         · go_wp2_with fail
           go_roundw
           case rel => exact ⟨k + 1, by go_num, by omega, Lib.hid ⟨ext_trans HB3.out HJ.out.1, fun m hm => by
              rcases Nat.lt_or_ge m k with h | h
              · exact HI.out.2 m h
              · have : m = k := by omega
                subst this
                exact labK_of HX HKc (fun m2 b2 y2 hm2 h1 h2 h3 => HJ.out.2 m2 b2 y2 (by omega) h1 h2 h3)⟩⟩
           case measure => simp [Lib.intOf]; omega)
end Go.Proofs.YtmjdhfbnmmdjiaaGreat

/- The document's Few and Right of parts. -/
namespace Go.Proofs.YtmjdhfbnmmdjiaaGreat
open Go.RowKit

/-- A part of short types and names. -/
structure FewP (x : Pt) : Prop where
  lb : x.lb.size ≤ 100
  nm : x.nm.size ≤ 200
  bd : x.bd.size ≤ 100
  T : x.T.length ≤ 60
  U : x.U.length ≤ 60
  nT : ∀ y ∈ x.T, y.s.size ≤ 100
  nU : ∀ y ∈ x.U, y.s.size ≤ 100
def FewE (n : Nat) (es : List Pt) : Prop := es.length ≤ n ∧ ∀ x ∈ es, FewP x

theorem all_of_idx {α : Type} {P : α → Prop} {l : List α} (h : ∀ j y, j < l.length → l[j]? = some y → P y) : ∀ y ∈ l, P y := fun y hy => by
  obtain ⟨j, hj⟩ := List.getElem?_of_mem hy
  exact h j y (getq_lt hj) hj

set_option maxRecDepth 100000 in
set_option maxHeartbeats 4000000 in
theorem rfewE_any (Y : Nat → Prop) (A : Option Addr) (c n : Nat) (es : List Pt) (w : World) (hx : ExX w Y A es) (hl : es.length ≤ 9223372036854775807) (hn : n ≤ 1000) :
    Calls Tryz.prog 28 #[.slice A es.length c, .int .i64 (n : Int)] w (Shows (FewE n es) w) := by
  have H := Lib.hid hx
  clear hx
  go_enter Tryz.func28, Tryz.ntmps28
  go_wp2_with fail
  go_loopw [5] (fun o5 wr => ∃ k : Nat, o5 = .int .i64 k ∧ k ≤ n ∧ k ≤ es.length ∧ Hid (wr = w ∧ ∀ j y, j < k → es[j]? = some y → FewP y)) (fun o5 _ => es.length - (Lib.intOf o5).toNat)
  case atStart => exact ⟨0, rfl, by omega, by omega, Lib.hid ⟨rfl, fun j y hj => by omega⟩⟩
  case round =>
    obtain ⟨k, rfl, hkn, hk, HI⟩ := hrel
    obtain ⟨hwr, hF⟩ := HI.out
    have HFF := Lib.hid hF
    subst hwr
    clear hF HI
    by_cases hlt : k < es.length
    rotate_left
    · have hke : k = es.length := by omega
      have HQ : Hid (FewE n es) := Lib.hid ⟨by omega, all_of_idx fun j y hj => HFF.out j y (by omega)⟩
      clear hke
      go_wp2_with fail
      go_ret
      exact Shows.yes (fun _ => HQ.out) (Below.refl _ _)
    obtain ⟨x, hx⟩ := getq_ex hlt
    obtain ⟨eb, eo, rfl, hb, hy, ⟨TA, tc, UA, uc, hT, hU, c0, c1, c2, c3, c4, c5, c6, c7⟩, _⟩ := H.out k x hx
    have HX := Lib.hid hx
    have HT := Lib.hid hT.ty.tyA
    have HU := Lib.hid hU.ty.tyA
    obtain ⟨tn, htn⟩ : ∃ tn, tn = x.T.length := ⟨_, rfl⟩
    obtain ⟨un, hun⟩ : ∃ un, un = x.U.length := ⟨_, rfl⟩
    rw [← htn] at c6
    rw [← hun] at c7
    have HTN := Lib.hid htn
    have HUN := Lib.hid hun
    obtain ⟨s1, hs1⟩ : ∃ s1, s1 = x.lb := ⟨_, rfl⟩
    obtain ⟨s2, hs2⟩ : ∃ s2, s2 = x.nm := ⟨_, rfl⟩
    obtain ⟨s3, hs3⟩ : ∃ s3, s3 = x.bd := ⟨_, rfl⟩
    rw [← hs1] at c1
    rw [← hs2] at c2
    rw [← hs3] at c3
    have HS := Lib.hid (And.intro hs1 (And.intro hs2 hs3))
    clear hx hT hU hy htn hun hs1 hs2 hs3 c0 c4 c5
    by_cases hkn2 : k = n
    · have hknb : ((k : Int) == (n : Int)) = true := by simp; omega
      clear hkn2
      go_wp2_with fail
      go_ret
      exact Shows.no (Below.refl _ _)
    have hknb : ((k : Int) == (n : Int)) = false := by simp; omega
    go_upto_region 6 with fail
    all_goals first
    | (go_ret
       exact Shows.no (Below.refl _ _))
    | skip
    have HZ : Hid (s1.size ≤ 100 ∧ s2.size ≤ 200 ∧ s3.size ≤ 100 ∧ tn ≤ 60 ∧ un ≤ 60) := Lib.hid (by omega)
    have htn60 : tn ≤ 60 := HZ.out.2.2.2.1
    have hun60 : un ≤ 60 := HZ.out.2.2.2.2
    go_wp2_with fail
    go_loopw [6] (fun o6 wi => ∃ j : Nat, o6 = .int .i64 j ∧ j ≤ tn ∧ Hid (wi = wr ∧ ∀ m y, m < j → x.T[m]? = some y → y.s.size ≤ 100)) (fun o6 _ => tn - (Lib.intOf o6).toNat)
    case atStart => exact ⟨0, rfl, by omega, Lib.hid ⟨rfl, fun j y hj => by omega⟩⟩
    case round =>
      obtain ⟨j, rfl, hj, HJ⟩ := hrel
      obtain ⟨hwi, hF⟩ := HJ.out
      have HJF := Lib.hid hF
      subst hwi
      clear hF HJ
      by_cases hjt : j < tn
      · obtain ⟨y, hy⟩ := getq_ex (show j < x.T.length by rw [← HTN.out]; exact hjt)
        obtain ⟨bt, ot, rfl, hbt, cx0, cx1, cx2⟩ := HT.out.at_ hy
        have HY := Lib.hid hy
        clear hy cx0 cx2
        by_cases hsz : y.s.size ≤ 100
        · have hszi : ¬ (100 : Int) < (y.s.size : Int) := by omega
          have HSZ := Lib.hid hsz
          clear hsz
          go_wp2_with fail
          go_roundw
          case rel => exact ⟨j + 1, by go_num, by omega, Lib.hid ⟨by trivial, fun m y2 hm hy2 => by
            rcases Nat.lt_or_ge m j with h | h
            · exact HJF.out m y2 h hy2
            · have : m = j := by omega
              subst this
              rw [HY.out] at hy2
              injection hy2 with hy2
              subst hy2
              exact HSZ.out⟩⟩
          case measure => simp [Lib.intOf]; omega
        · have hszi : (100 : Int) < (y.s.size : Int) := by omega
          clear hsz
          go_wp2_with fail
          go_ret
          exact Shows.no (Below.refl _ _)
      have hje : j = tn := by omega
      have HQT : Hid (∀ y ∈ x.T, y.s.size ≤ 100) := Lib.hid (all_of_idx fun m y hm => HJF.out m y (by rw [hje, HTN.out]; exact hm))
      clear hje
      go_wp2_with fail
      go_loopw [7] (fun o7 wi => ∃ j : Nat, o7 = .int .i64 j ∧ j ≤ un ∧ Hid (wi = wr ∧ ∀ m y, m < j → x.U[m]? = some y → y.s.size ≤ 100)) (fun o7 _ => un - (Lib.intOf o7).toNat)
      case atStart => exact ⟨0, rfl, by omega, Lib.hid ⟨rfl, fun j y hj => by omega⟩⟩
      case round =>
        obtain ⟨j2, rfl, hj2, HJ⟩ := hrel
        obtain ⟨hwi, hF⟩ := HJ.out
        have HUF := Lib.hid hF
        subst hwi
        clear hF HJ
        by_cases hjt2 : j2 < un
        · obtain ⟨y, hy⟩ := getq_ex (show j2 < x.U.length by rw [← HUN.out]; exact hjt2)
          obtain ⟨bt, ot, rfl, hbt, cx0, cx1, cx2⟩ := HU.out.at_ hy
          have HY := Lib.hid hy
          clear hy cx0 cx2
          by_cases hsz : y.s.size ≤ 100
          · have hszi : ¬ (100 : Int) < (y.s.size : Int) := by omega
            have HSZ := Lib.hid hsz
            clear hsz
            go_wp2_with fail
            go_roundw
            case rel => exact ⟨j2 + 1, by go_num, by omega, Lib.hid ⟨by trivial, fun m y2 hm hy2 => by
              rcases Nat.lt_or_ge m j2 with h | h
              · exact HUF.out m y2 h hy2
              · have : m = j2 := by omega
                subst this
                rw [HY.out] at hy2
                injection hy2 with hy2
                subst hy2
                exact HSZ.out⟩⟩
            case measure => simp [Lib.intOf]; omega
          · have hszi : (100 : Int) < (y.s.size : Int) := by omega
            clear hsz
            go_wp2_with fail
            go_ret
            exact Shows.no (Below.refl _ _)
        have hje : j2 = un := by omega
        have HQU : Hid (∀ y ∈ x.U, y.s.size ≤ 100) := Lib.hid (all_of_idx fun m y hm => HUF.out m y (by rw [hje, HUN.out]; exact hm))
        clear hje
        go_wp2_with fail
        go_roundw
        case rel => exact ⟨k + 1, by go_num, by omega, by omega, Lib.hid ⟨by trivial, fun m y hm hy2 => by
          rcases Nat.lt_or_ge m k with h | h
          · exact HFF.out m y h hy2
          · have : m = k := by omega
            subst this
            rw [HX.out] at hy2
            injection hy2 with hy2
            subst hy2
            obtain ⟨z1, z2, z3, z4, z5⟩ := HZ.out
            obtain ⟨e1, e2, e3⟩ := HS.out
            exact ⟨by rw [← e1]; exact z1, by rw [← e2]; exact z2, by rw [← e3]; exact z3, by rw [← HTN.out]; exact z4, by rw [← HUN.out]; exact z5, HQT.out, HQU.out⟩⟩⟩
        case measure => simp [Lib.intOf]; omega
end Go.Proofs.YtmjdhfbnmmdjiaaGreat

/- The document's Right of parts. -/
namespace Go.Proofs.YtmjdhfbnmmdjiaaGreat
open Go.RowKit

/-- What the document's Right shows. -/
structure RightF (es : List Pt) : Prop where
  ne : es ≠ []
  root : ∀ p, es[0]? = some p → p.lb = ByteArray.empty ∧ p.k ≠ 8
  uses : ∀ x ∈ es, UseF x
  fin : rEnd es 1 0 = es.length
  lab : ∀ (i : Nat) (p : Pt), es[i]? = some p → LabF es p (rKids es (manyE p) (i + 1))

set_option maxRecDepth 100000 in
set_option maxHeartbeats 4000000 in
theorem rrightE_any (Y : Nat → Prop) (A : Option Addr) (c : Nat) (es : List Pt) (w : World) (hx : ExX w Y A es) (hf : FewE 1000 es) :
    Calls Tryz.prog 29 #[.slice A es.length c] w (Shows (RightF es) w) := by
  have hl := hf.1
  have H := Lib.hid (And.intro hx hf.2)
  cases hes : es with
  | nil =>
    go_enter Tryz.func29, Tryz.ntmps29
    go_wp2_with fail
    go_ret
    exact Shows.no (Below.refl _ _)
  | cons p0 et =>
  rw [← hes]
  have hp0 : es[0]? = some p0 := by rw [hes]; rfl
  have hpos : 0 < es.length := by rw [hes]; simp
  have hne : es ≠ [] := by rw [hes]; simp
  have hlz : ((es.length : Int) == 0) = false := by simp; omega
  have HP0 := Lib.hid hp0
  obtain ⟨eb, eo, rfl, hb, hy, ⟨TA, tc, UA, uc, hT, hU, c0, c1, c2, c3, c4, c5, c6, c7⟩, _⟩ := hx 0 p0 hp0
  rw [Nat.zero_mul, Nat.add_zero] at c0 c1
  clear hx hf hp0 hes hT hU c2 c3 c4 c5 c6 c7
  have hl' : ¬ (10000 : Int) < (es.length : Int) := by omega
  go_enter Tryz.func29, Tryz.ntmps29
  cases he : p0.lb.toList.isEmpty
  · go_wp2_with fail
    go_ret
    exact Shows.no (Below.refl _ _)
  cases h8 : (p0.k == 8)
  rotate_left
  · go_wp2_with fail
    go_ret
    exact Shows.no (Below.refl _ _)
  have HR : Hid (∀ p, es[0]? = some p → p.lb = ByteArray.empty ∧ p.k ≠ 8) := Lib.hid fun p hp => by
    rw [HP0.out] at hp
    injection hp with hp
    subst hp
    exact ⟨lbE (by rw [he]; rfl), by simpa using h8⟩
  go_upto_region 3 with fail
  clear he h8 c0 c1 hy
  go_wp2_with fail
  go_loopw [3] (fun o3 wr => ∃ k : Nat, o3 = .int .i64 k ∧ k ≤ es.length ∧ Hid (Below w.heap.size w wr ∧ ∀ m y, m < k → es[m]? = some y → UseF y)) (fun o3 _ => es.length - (Lib.intOf o3).toNat)
  case atStart => exact ⟨0, rfl, by omega, Lib.hid ⟨Below.refl _ _, fun m y hm => by omega⟩⟩
  case round =>
    obtain ⟨k, rfl, hk, HI⟩ := hrel
    by_cases hlt : k < es.length
    · obtain ⟨x, hx⟩ := getq_ex hlt
      obtain ⟨eb2, eo2, he2, hb2, _, ⟨TA, tc, UA, uc, hT, hU, c0, c1, c2, c3, c4, c5, c6, c7⟩, _⟩ := (H.out.1.fr (Fr.below HI.out.1 : Fr Y w wr) fun q hq => .inl hq) k x hx
      injection he2 with he2
      injection he2 with e1 e2
      subst e1 e2
      have hfx := H.out.2 x (List.mem_of_getElem? hx)
      have HUs := Lib.hid (rusesE_any x TA x.T.length tc UA x.U.length uc wr hT.ty.tyA hU.ty.tyA (Lib.hid ⟨rfl, rfl⟩) ⟨by have := hfx.T; omega, by have := hfx.U; omega, fun y hy => by have := hfx.nT y hy; omega, fun y hy => by have := hfx.nU y hy; omega, by have := hfx.nm; omega, by have := hfx.bd; omega⟩)
      unfold pvE at HUs
      have HX := Lib.hid hx
      clear hT hU hfx hx
      go_wp2_with fail
      refine HUs.out.mono ?_
      rintro e w1 ⟨b, rfl, hq, hb1⟩
      have HB1 := Lib.hid (ext_trans HI.out.1 hb1)
      have HQ := Lib.hid hq
      clear c0 c1 c2 c3 c4 c5 c6 c7 hq hb1
      cases b
      · go_wp2_with fail
        go_ret
        exact Shows.no HB1.out
      · go_wp2_with fail
        go_roundw
        case rel => exact ⟨k + 1, by go_num, by omega, Lib.hid ⟨HB1.out, fun m y hm hy2 => by
          rcases Nat.lt_or_ge m k with h | h
          · exact HI.out.2 m y h hy2
          · have : m = k := by omega
            subst this
            rw [HX.out] at hy2
            injection hy2 with hy2
            subst hy2
            exact HQ.out (by trivial)⟩⟩
        case measure => simp [Lib.intOf]; omega
    have hke : k = es.length := by omega
    have HUA : Hid (∀ x ∈ es, UseF x) := Lib.hid (all_of_idx fun m y hm => HI.out.2 m y (by omega))
    have HOk : Hid (PsOk es) := Lib.hid fun x hx => ⟨(HUA.out x hx).k, (HUA.out x hx).mn⟩
    have HEx := fun v (hv : Below w.heap.size w v) => (H.out.1.fr (Fr.below hv : Fr Y w v) fun q hq => .inl hq)
    have HEx := Lib.hid HEx
    have HEn := Lib.hid (fun v (hv : Below w.heap.size w v) => rEndE_any Y _ c es 0 v (HEx.out v hv) (by omega) HOk.out hpos)
    rw [List.drop_zero] at HEn
    have HSh := Lib.hid (fun v (hv : Below w.heap.size w v) => rshallowE_any Y _ c es v (HEx.out v hv) (by omega) HOk.out)
    have hre := rEnd_le es 1 0
    clear hke
    go_wp2_with fail
    refine (HEn.out _ HI.out.1).mono ?_
    rintro e w1 ⟨rfl, hb1⟩
    have HB1 := Lib.hid (ext_trans HI.out.1 hb1)
    clear hb1
    by_cases hend : rEnd es 1 0 = es.length
    rotate_left
    · have hendb : ((rEnd es 1 0 : Int) != (es.length : Int)) = true := by simp; omega
      clear hend
      go_wp2_with fail
      go_ret
      exact Shows.no HB1.out
    have HEnd := Lib.hid hend
    have hendb : ((rEnd es 1 0 : Int) != (es.length : Int)) = false := by simp; omega
    clear hend
    go_wp2_with fail
    refine (HSh.out _ HB1.out).mono ?_
    rintro e w2 ⟨b, rfl, _, hb2⟩
    have HB2 := Lib.hid (ext_trans HB1.out hb2)
    clear hb2 hendb hre
    cases b
    · go_wp2_with fail
      go_ret
      exact Shows.no HB2.out
    go_wp2_with fail
    go_loopw [4] (fun o4 wi => ∃ j : Nat, o4 = .int .i64 j ∧ j ≤ es.length ∧ Hid (Below w.heap.size w wi ∧ ∀ m p, m < j → es[m]? = some p → LabF es p (rKids es (manyE p) (m + 1)))) (fun o4 _ => es.length - (Lib.intOf o4).toNat)
    case atStart => exact ⟨0, rfl, by omega, Lib.hid ⟨HB2.out, fun m y hm => by omega⟩⟩
    case round =>
      obtain ⟨j, rfl, hj, HJ⟩ := hrel
      by_cases hjl : j < es.length
      · obtain ⟨x, hx⟩ := getq_ex hjl
        have HLb := Lib.hid (rlabelledE_any Y _ c es j x wr (HEx.out wr HJ.out.1) (by omega) HOk.out hx (fun y hy => by have := (H.out.2 y hy).lb; omega))
        have HX := Lib.hid hx
        clear hx
        go_wp2_with fail
        refine HLb.out.mono ?_
        rintro e w3 ⟨b, rfl, hq, hb3⟩
        have HB3 := Lib.hid (ext_trans HJ.out.1 hb3)
        have HQ := Lib.hid hq
        clear hq hb3
        cases b
        · go_wp2_with fail
          go_ret
          exact Shows.no HB3.out
        · go_wp2_with fail
          go_roundw
          case rel => exact ⟨j + 1, by go_num, by omega, Lib.hid ⟨HB3.out, fun m y hm hy2 => by
            rcases Nat.lt_or_ge m j with h | h
            · exact HJ.out.2 m y h hy2
            · have : m = j := by omega
              subst this
              rw [HX.out] at hy2
              injection hy2 with hy2
              subst hy2
              exact HQ.out (by trivial)⟩⟩
          case measure => simp [Lib.intOf]; omega
      · go_wp2_with fail
        go_ret
        exact Shows.yes (fun _ => ⟨hne, HR.out, HUA.out, HEnd.out, fun m p hm => HJ.out.2 m p (by have := getq_lt hm; omega) hm⟩) HJ.out.1
end Go.Proofs.YtmjdhfbnmmdjiaaGreat

/- The document's Plain of layer 7, Env, and the law's given. -/
namespace Go.Proofs.YtmjdhfbnmmdjiaaGreat
open Go.RowKit

def shortQ (x : Nd) : Bool := decide (x.s.size ≤ 100)
/-- A plain type of so many nodes, with short names. -/
def plainQB (xs : List Nd) (m : Int) : Bool := decide ((xs.length : Int) ≤ m) && (xs.all shortQ && rRightB xs) && plainB xs
theorem plainQ_parts {xs : List Nd} {m : Int} (h : plainQB xs m = true) : (xs.length : Int) ≤ m ∧ (∀ x ∈ xs, x.s.size ≤ 100) ∧ rightB xs = true ∧ plainB xs = true := by
  unfold plainQB at h
  simp only [Bool.and_eq_true, decide_eq_true_eq, List.all_eq_true] at h
  obtain ⟨⟨h1, h2, h3⟩, h4⟩ := h
  exact ⟨h1, fun x hx => by simpa [shortQ] using h2 x hx, by rw [← right_eq]; exact h3, h4⟩
theorem plainQ_of {xs : List Nd} {m : Int} (h1 : (xs.length : Int) ≤ m) (h2 : ∀ x ∈ xs, x.s.size ≤ 100) (h3 : rightB xs = true) (h4 : plainB xs = true) : plainQB xs m = true := by
  unfold plainQB
  simp only [Bool.and_eq_true, decide_eq_true_eq, List.all_eq_true]
  exact ⟨⟨h1, fun x hx => by simp [shortQ, h2 x hx], by rw [right_eq]; exact h3⟩, h4⟩

set_option maxRecDepth 100000 in
set_option maxHeartbeats 2000000 in
theorem plainQ_any (A : Option Addr) (c : Nat) (xs : List Nd) (m : Int) (w : World) (ha : TyA w w.heap.size A xs) (hl : xs.length ≤ 9223372036854775807) (hs : ∀ x ∈ xs, x.s.size ≤ 9223372036854775807) :
    Calls Tryz.prog 14 #[.slice A xs.length c, .int .i64 m] w fun e w' => e = .returned (.bool (plainQB xs m)) ∧ Below w.heap.size w w' := by
  have Hs := Lib.hid hs
  clear hs
  by_cases h0 : (xs.length : Int) ≤ m
  · have h0' : ¬ m < (xs.length : Int) := by omega
    have H0 := Lib.hid h0
    clear h0
    go_enter Tryz.func14, Tryz.ntmps14
    go_wp2_with fail
    go_loop [5] (fun i => ∃ k : Nat, k ≤ xs.length ∧ i = .int .i64 k ∧ Hid (allFrom shortQ xs k = xs.all shortQ)) (fun i => xs.length - (Lib.intOf i).toNat)
    case atStart => exact ⟨0, Nat.zero_le _, rfl, Lib.hid rfl⟩
    case round =>
      clear h0'
      obtain ⟨k, hk, rfl, hgood⟩ := hrel
      by_cases hp : k < xs.length
      · obtain ⟨x, hx⟩ := getq_ex hp
        have hstep := Lib.hid (allFrom_step (p := shortQ) hx)
        have hxs := Hs.out x (List.mem_of_getElem? hx)
        obtain ⟨b1, o1, rfl, hb1, c10, c11, c12⟩ := ha.at_ hx
        clear hx
        by_cases h100 : x.s.size ≤ 100
        · have h100' : ¬ (100 : Int) < (x.s.size : Int) := by omega
          have H := Lib.hid h100
          clear h100
          go_wp2_with fail
          go_round
          case rel => exact ⟨k + 1, hp, by go_num, Lib.hid (by rw [← hgood.out, hstep.out]; simp [shortQ, H.out])⟩
          case measure => simp [Lib.intOf]; omega
        · have h100' : (100 : Int) < (x.s.size : Int) := by omega
          have H := Lib.hid h100
          clear h100
          go_wp2_with fail
          go_ret
          exact ⟨ret_bool (by
            have e : xs.all shortQ = false := by rw [← hgood.out, hstep.out]; simp [shortQ, H.out]
            unfold plainQB; rw [e]; simp), Below.refl _ _⟩
      · have hend := Lib.hid (allFrom_end (p := shortQ) hp)
        go_wp2_with fail
        refine (rRight_any A c xs _ ha hl Hs.out).mono ?_
        rintro e w1 ⟨rfl, hb⟩
        have B1 := Lib.hid hb
        have T1 := Lib.hid ((ha.below hb).more hb.size)
        clear hb
        cases hr : rRightB xs with
        | false =>
          have HR := Lib.hid hr
          clear hr
          go_wp2_with fail
          go_ret
          exact ⟨ret_bool (by unfold plainQB; rw [HR.out]; simp), B1.out⟩
        | true =>
          have HR := Lib.hid hr
          clear hr
          go_wp2_with fail
          refine (rPlain_any A c w1.heap.size xs w1 T1.out hl).mono ?_
          rintro e w2 ⟨rfl, rfl⟩
          go_wp2_with fail
          go_ret
          exact ⟨ret_bool (by
            have e : xs.all shortQ = true := by rw [← hgood.out, hend.out]
            unfold plainQB; rw [e, HR.out, decide_eq_true H0.out]; simp), B1.out⟩
  · have h0' : m < (xs.length : Int) := by omega
    have H0 := Lib.hid h0
    clear h0
    go_enter Tryz.func14, Tryz.ntmps14
    go_wp2_with fail
    go_ret
    exact ⟨ret_bool (by unfold plainQB; rw [decide_eq_false (by have := H0.out; omega)]; rfl), Below.refl _ _⟩

/-- A name and its type in memory. -/
theorem ReadL.bnd {w : World} {B : Nat} {A : Option Addr} {l : List Bn} (h : ReadB w B A l) {i : Nat} {b : Bn} (hn : l[i]? = some b) :
    ∃ g o, A = some ⟨g, o, none⟩ ∧ g < B ∧ w.cell? ⟨g, o + i * 2, none⟩ = some (.string b.s) ∧ w.cell? ⟨g, o + i * 2 + 1, none⟩ = some (.slice b.A b.n b.c) := by
  obtain ⟨g, o, rfl, hb, hc⟩ := h (by rintro rfl; simp at hn)
  exact ⟨g, o, rfl, hb, hc i b hn 0 _ rfl, hc i b hn 1 _ rfl⟩
def EnvQ (env : Env) : Prop := env.length ≤ 20 ∧ ∀ e ∈ env, plainQB e.2 40 = true
/-- Sizes as they may be in memory. -/
def EnvS (env : Env) : Prop := env.length ≤ 9223372036854775807 ∧ ∀ e ∈ env, e.1.size ≤ 9223372036854775807 ∧ e.2.length ≤ 9223372036854775807 ∧ ∀ x ∈ e.2, x.s.size ≤ 9223372036854775807

set_option maxRecDepth 100000 in
set_option maxHeartbeats 2000000 in
theorem renv_any (Y : Nat → Prop) (A : Option Addr) (c : Nat) (bs : List Bn) (env : Env) (w : World) (ha : ReadB w w.heap.size A bs) (hen : EnvM w Y bs env) (hs : EnvS env) :
    Calls Tryz.prog 15 #[.slice A bs.length c] w (Shows (EnvQ env) w) := by
  have hbl : bs.length ≤ 9223372036854775807 := by have := hen.1; have := hs.1; omega
  have hble : bs.length ≤ env.length := by have := hen.1; omega
  have HL := Lib.hid hen.1
  have HR := Lib.hid ha
  have H := Lib.hid (And.intro hen hs)
  clear ha hen hs
  go_enter Tryz.func15, Tryz.ntmps15
  go_wp2_with fail
  go_loopw [3] (fun o3 wr => ∃ k : Nat, o3 = .int .i64 k ∧ k ≤ bs.length ∧ k ≤ 20 ∧ Hid (Below w.heap.size w wr ∧ ∀ m e, m < k → env[m]? = some e → plainQB e.2 40 = true)) (fun o3 _ => bs.length - (Lib.intOf o3).toNat)
  case atStart => exact ⟨0, rfl, by omega, by omega, Lib.hid ⟨Below.refl _ _, fun m e hm => by omega⟩⟩
  case round =>
    obtain ⟨k, rfl, hk, hk20, HI⟩ := hrel
    by_cases hlt : k < bs.length
    rotate_left
    · have hke : k = bs.length := by omega
      have HQ : Hid (EnvQ env) := Lib.hid ⟨by rw [← HL.out, ← hke]; exact hk20, all_of_idx fun m e hm => HI.out.2 m e (by rw [hke, HL.out]; exact hm)⟩
      clear hke
      go_wp2_with fail
      go_ret
      exact Shows.yes (fun _ => HQ.out) HI.out.1
    obtain ⟨b, hb⟩ := getq_ex hlt
    obtain ⟨e0, he0⟩ := getq_ex (show k < env.length by rw [← HL.out]; exact hlt)
    obtain ⟨hbs, hbn, hTV⟩ := (H.out.1.fr (Fr.below HI.out.1 : Fr Y w wr) fun q hq => .inl hq).2 k b e0 hb he0
    obtain ⟨g, o, rfl, hgl, c0, c1⟩ := ReadL.bnd (ReadL.below HR.out HI.out.1) hb
    have hse := H.out.2.2 e0 (List.mem_of_getElem? he0)
    have HPl := Lib.hid (plainQ_any b.A b.c e0.2 40 wr hTV.ty.tyA hse.2.1 hse.2.2)
    rw [← hbn] at HPl
    have HE0 := Lib.hid he0
    obtain ⟨s, hs2⟩ : ∃ s, s = b.s := ⟨_, rfl⟩
    rw [← hs2] at c0
    clear hb he0 hbs hbn hTV hse hs2
    by_cases hk2 : k = 20
    · have hkb : ((k : Int) == 20) = true := by simp; omega
      clear hk2
      go_wp2_with fail
      go_ret
      exact Shows.no HI.out.1
    have hkb : ((k : Int) == 20) = false := by simp; omega
    by_cases hsz : s.size ≤ 100
    rotate_left
    · have hszi : (100 : Int) < (s.size : Int) := by omega
      clear hsz
      go_wp2_with fail
      go_ret
      exact Shows.no HI.out.1
    have hszi : ¬ (100 : Int) < (s.size : Int) := by omega
    clear hsz
    go_wp2_with fail
    refine HPl.out.mono ?_
    rintro e w1 ⟨rfl, hb1⟩
    have HB1 := Lib.hid (ext_trans HI.out.1 hb1)
    clear hb1 c0 c1 hszi
    cases hq : plainQB e0.2 40
    · go_wp2_with fail
      go_ret
      exact Shows.no HB1.out
    · have HQ := Lib.hid hq
      clear hq
      go_wp2_with fail
      go_roundw
      case rel => exact ⟨k + 1, by go_num, by omega, by omega, Lib.hid ⟨HB1.out, fun m y hm hy2 => by
        rcases Nat.lt_or_ge m k with h | h
        · exact HI.out.2 m y h hy2
        · have : m = k := by omega
          subst this
          rw [HE0.out] at hy2
          injection hy2 with hy2
          subst hy2
          exact HQ.out⟩⟩
      case measure => simp [Lib.intOf]; omega

/-- What a law of layer 10 asks. -/
structure GivenF (env : Env) (es : List Pt) : Prop where
  few : FewE 60 es
  right : RightF es
  env : EnvQ env
  len : ∀ x ∈ es, x.T.length ≤ 30 ∧ x.U.length ≤ 30

set_option maxRecDepth 100000 in
set_option maxHeartbeats 2000000 in
theorem given_any (Y : Nat → Prop) (A EA : Option Addr) (c ec : Nat) (bs : List Bn) (env : Env) (es : List Pt) (w : World) (ha : ReadB w w.heap.size A bs) (hen : EnvM w Y bs env) (hs : EnvS env) (hx : ExX w Y EA es) (hl : es.length ≤ 9223372036854775807) :
    Calls Tryz.prog 9 #[.slice A bs.length c, .slice EA es.length ec] w (Shows (GivenF env es) w) := by
  have HF := Lib.hid (rfewE_any Y EA ec 60 es w hx hl (by omega))
  have HRi := Lib.hid (fun v (hv : Below w.heap.size w v) (hf : FewE 60 es) => rrightE_any Y EA ec es v (hx.fr (Fr.below hv : Fr Y w v) fun q hq => .inl hq) ⟨by have := hf.1; omega, hf.2⟩)
  have HEn := Lib.hid (fun v (hv : Below w.heap.size w v) => renv_any Y A c bs env v ((ReadL.below ha hv).more hv.size) (hen.fr (Fr.below hv : Fr Y w v) fun q hq => .inl hq) hs)
  have HX := Lib.hid hx
  clear ha hen hs hx
  go_enter Tryz.func9, Tryz.ntmps9
  go_wp2_with fail
  refine HF.out.mono ?_
  rintro e w1 ⟨b, rfl, hq, hb1⟩
  have HQ := Lib.hid hq
  have HB1 := Lib.hid hb1
  clear hq hb1
  cases b
  · go_wp2_with fail
    go_ret
    exact Shows.no HB1.out
  have hfew := HQ.out rfl
  have HFe := Lib.hid hfew
  have hle := hfew.1
  clear hfew
  go_wp2_with fail
  refine (HRi.out _ HB1.out HFe.out).mono ?_
  rintro e w2 ⟨b, rfl, hq, hb2⟩
  have HQ2 := Lib.hid hq
  have HB2 := Lib.hid (ext_trans HB1.out hb2)
  clear hq hb2
  cases b
  · go_wp2_with fail
    go_ret
    exact Shows.no HB2.out
  have HRt := Lib.hid (HQ2.out rfl)
  go_wp2_with fail
  refine (HEn.out _ HB2.out).mono ?_
  rintro e w3 ⟨b, rfl, hq, hb3⟩
  have HQ3 := Lib.hid hq
  have HB3 := Lib.hid (ext_trans HB2.out hb3)
  clear hq hb3
  cases b
  · go_wp2_with fail
    go_ret
    exact Shows.no HB3.out
  have HEq := Lib.hid (HQ3.out rfl)
  go_wp2_with fail
  go_loopw [5, 6] (fun o5 o6 wr => ∃ (k n : Nat), o5 = .int .i64 n ∧ o6 = .int .i64 k ∧ k ≤ es.length ∧ n ≤ k * 120 ∧ Hid (Below w.heap.size w wr ∧ ∀ m x, m < k → es[m]? = some x → x.T.length ≤ 30 ∧ x.U.length ≤ 30)) (fun _ o6 _ => es.length - (Lib.intOf o6).toNat)
  case atStart => exact ⟨0, 0, rfl, rfl, by omega, by omega, Lib.hid ⟨HB3.out, fun m x hm => by omega⟩⟩
  case round =>
    obtain ⟨k, n, rfl, rfl, hk, hn, HI⟩ := hrel
    by_cases hlt : k < es.length
    rotate_left
    · have HG : Hid (GivenF env es) := Lib.hid ⟨HFe.out, HRt.out, HEq.out, all_of_idx fun m x hm => HI.out.2 m x (by omega)⟩
      go_wp2_with fail
      go_ret
      exact Shows.yes (fun _ => HG.out) HI.out.1
    obtain ⟨x, hx⟩ := getq_ex hlt
    obtain ⟨eb, eo, rfl, hb, _, ⟨TA, tc, UA, uc, _, _, c0, c1, c2, c3, c4, c5, c6, c7⟩, _⟩ := (HX.out.fr (Fr.below HI.out.1 : Fr Y w wr) fun q hq => .inl hq) k x hx
    have hfx := HFe.out.2 x (List.mem_of_getElem? hx)
    have hT60 := hfx.T
    have hU60 := hfx.U
    have HXx := Lib.hid hx
    obtain ⟨tn, htn⟩ : ∃ tn, tn = x.T.length := ⟨_, rfl⟩
    obtain ⟨un, hun⟩ : ∃ un, un = x.U.length := ⟨_, rfl⟩
    rw [← htn] at c6 hT60
    rw [← hun] at c7 hU60
    have HTU := Lib.hid (And.intro htn hun)
    clear hx hfx htn hun c0 c1 c2 c3 c4 c5
    go_wp2_with fail
    go_quiet (fail)
    obtain ⟨wq, hwq⟩ : ∃ wq, wq = wr.drewN nq := ⟨_, rfl⟩
    rw [← hwq]
    have HBq : Hid (Below w.heap.size w wq) := Lib.hid (by rw [hwq]; exact below_drewN HI.out.1 _)
    have c6q : wq.cell? ⟨eb, eo + k * 8 + 6, none⟩ = some (.slice TA tn tc) := by rw [hwq]; simpa using c6
    have c7q : wq.cell? ⟨eb, eo + k * 8 + 7, none⟩ = some (.slice UA un uc) := by rw [hwq]; simpa using c7
    clear hwq c6 c7
    by_cases h1 : tn ≤ 30
    rotate_left
    · have h1i : (30 : Int) < (tn : Int) := by omega
      clear h1
      go_wp2_with fail
      go_ret
      exact Shows.no HBq.out
    have h1i : ¬ (30 : Int) < (tn : Int) := by omega
    by_cases h2 : un ≤ 30
    rotate_left
    · have h2i : (30 : Int) < (un : Int) := by omega
      clear h2
      go_wp2_with fail
      go_ret
      exact Shows.no HBq.out
    have h2i : ¬ (30 : Int) < (un : Int) := by omega
    have HS := Lib.hid (And.intro h1 h2)
    clear h1 h2
    go_wp2_with fail
    go_roundw
    case rel => exact ⟨k + 1, n + tn + un, by go_num, by go_num, by omega, by omega, Lib.hid ⟨HBq.out, fun m y hm hy2 => by
      rcases Nat.lt_or_ge m k with h | h
      · exact HI.out.2 m y h hy2
      · have : m = k := by omega
        subst this
        rw [HXx.out] at hy2
        injection hy2 with hy2
        subst hy2
        rw [← HTU.out.1, ← HTU.out.2]
        exact HS.out⟩⟩
    case measure => simp [Lib.intOf]; omega
end Go.Proofs.YtmjdhfbnmmdjiaaGreat
