/- Laid together by a tool from the texts of this seat: RRight. Conditions: each theorem's own. -/
import Derived.Test.YtmjdhfbnmmdjiaaGreatK02
/- The document's look at how deep a row of nodes is. -/
namespace Go.Proofs.YtmjdhfbnmmdjiaaGreat
open Go.RowKit

section
variable {α : Type} {enc : α → List Value} {size e base : Nat} {w w' : World} {A : Option Addr} {cap B : Nat} {l : List α}

theorem flatMap_take (hk : ∀ x, (enc x).length = size) : ∀ (l : List α) (k : Nat), (l.take k).flatMap enc = (l.flatMap enc).take (k * size) := by
  intro l
  induction l with
  | nil => intro k; simp
  | cons x l ih =>
    intro k
    cases k with
    | zero => simp
    | succ k =>
      rw [List.take_succ_cons, List.flatMap_cons, List.flatMap_cons, ih, List.take_append, hk, show (k + 1) * size - size = k * size by rw [Nat.succ_mul]; omega, List.take_of_length_le (l := enc x) (by rw [hk, Nat.succ_mul]; omega)]

theorem OwnL.cut (hk : ∀ x, (enc x).length = size) (h : OwnL e size enc w base A cap l) {k : Nat} (hkl : k ≤ l.length) : OwnL e size enc w base A cap (l.take k) := by
  unfold OwnL at h ⊢
  have hlen : (l.take k).length = k := by rw [List.length_take]; omega
  refine ⟨flatMap_len hk _, ?_⟩
  rw [hlen]
  rcases h.2 with ⟨hv, hn⟩ | ⟨g, cap', cur, hv, hbg, hg, hnc, hcm, hcs, htake⟩
  · injection hv with hA hl hc
    subst hA hc
    exact .inl ⟨by rw [show k = 0 by omega], by omega⟩
  · injection hv with hA hl hc
    subst hA hc
    refine .inr ⟨g, cap, cur, rfl, hbg, hg, by omega, hcm, hcs, ?_⟩
    rw [flatMap_take hk, ← htake, List.take_take, Nat.min_eq_left (Nat.mul_le_mul_right _ hkl)]
end

theorem flatMap_encI (l : List Int) : l.flatMap encI = l.map fun n => Value.int .i64 n := by
  induction l with
  | nil => rfl
  | cons n l ih => rw [List.flatMap_cons, List.map_cons, ih]; rfl

/-- A store into a row of ints. -/
theorem OwnL.setI {w : World} {base : Nat} {A : Option Addr} {cap : Nat} {l : List Int} (h : OwnI w base A cap l) {j : Nat} (hj : j < l.length) (n : Int) :
    ∃ g, A = some ⟨g, 0, none⟩ ∧ base ≤ g ∧ g < w.heap.size ∧ (∃ m, l[j]? = some m ∧ w.cell? ⟨g, j, none⟩ = some (.int .i64 m)) ∧ w.frozen? ⟨g, j, none⟩ = false ∧
      OwnI (w.setCell ⟨g, j, none⟩ (.int .i64 n)) base A cap (l.set j n) ∧ w.grownBy (w.setCell ⟨g, j, none⟩ (.int .i64 n)) (some g) := by
  obtain ⟨m, hm⟩ := getq_ex hj
  obtain ⟨b, o, hA, hb, hc⟩ := ReadL.int (OwnL.read encI_len h) hm
  have h' : w.ownsRow base 3 1 (.slice A l.length cap) l.length (l.flatMap encI) := h
  rcases h'.2 with ⟨hv, hn⟩ | ⟨g, cap', cur, hv, hbg, hg, hnc, hcm, hcs, htake⟩
  · injection hv with hA' hl hc'
    rw [hA'] at hA
    cases hA
  · injection hv with hA' hl hc'
    subst hA'
    injection hA with hA
    injection hA with hA1 hA2 hA3
    subst hA1
    rw [← hA2, Nat.zero_add] at hc
    obtain ⟨h2, h3⟩ := World.ownsRow.stored h' j (.int .i64 n)
    refine ⟨g, rfl, hbg, hb, ⟨m, hm, hc⟩, World.ownsRow.frozenAt h' j, ?_, h3⟩
    show (w.setCell ⟨g, j, none⟩ (.int .i64 n)).ownsRow base 3 1 (.slice (some ⟨g, 0, none⟩) (l.set j n).length cap) (l.set j n).length ((l.set j n).flatMap encI)
    rw [List.length_set, flatMap_encI, List.map_set, ← flatMap_encI]
    exact h2

/-- What is open when the node on top is through, or not: nodes that are through close those above. -/
def settle : List Int → Int → List Int
  | [], a => if a = 0 then [] else [a]
  | b :: r, a => if a = 0 then settle r (b - 1) else a :: b :: r

def settleL : List Int → List Int
  | [] => []
  | a :: r => settle r a

def shallowGo : List Nd → List Int → Bool
  | [], _ => true
  | x :: xs, st => if 100 ≤ st.length then false else shallowGo xs (settleL (many x.k x.n :: st))

theorem settle_pos {a : Int} (h : a ≠ 0) (r : List Int) : settle r a = a :: r := by cases r <;> simp [settle, h]
theorem settle_len : ∀ (r : List Int) (a : Int), (settle r a).length ≤ r.length + 1 := by
  intro r
  induction r with
  | nil => intro a; simp only [settle]; split <;> simp
  | cons b r ih =>
    intro a
    simp only [settle]
    split
    · have := ih (b - 1)
      simp
      omega
    · simp
end Go.Proofs.YtmjdhfbnmmdjiaaGreat

/- The walk of shallow. -/
namespace Go.Proofs.YtmjdhfbnmmdjiaaGreat
open Go.RowKit

def lenOf : Value → Nat
  | .slice _ n _ => n
  | _ => 0

theorem snoc_of {α : Type} {l : List α} {m : Nat} (h : l.length = m + 1) : ∃ l0 a, l = l0 ++ [a] ∧ l0.length = m := by
  refine ⟨l.take m, l[m], ?_, by rw [List.length_take]; omega⟩
  have h1 : l.take (m + 1) = l := List.take_of_length_le (by omega)
  rw [List.take_succ_eq_append_getElem (by omega)] at h1
  exact h1.symm

theorem OwnL.form {α : Type} {enc : α → List Value} {size e base : Nat} {w : World} {A : Option Addr} {cap : Nat} {l : List α} (h : OwnL e size enc w base A cap l) (hl : 0 < l.length) :
    ∃ g, A = some ⟨g, 0, none⟩ ∧ base ≤ g ∧ g < w.heap.size ∧ l.length ≤ cap ∧ cap ≤ 9223372036854775807 := by
  rcases h.2 with ⟨hv, hn⟩ | ⟨g, cap', cur, hv, hbg, hg, hnc, hcm, hcs, htake⟩
  · omega
  · injection hv with hA hl hc
    subst hA hc
    exact ⟨g, rfl, hbg, lt_of_block hg, hnc, by unfold maxLen at hcm; omega⟩

/-- What is open: on top perhaps nothing more, below always something. -/
def StOk (l : List Int) : Prop := ∀ (l0 : List Int) (a : Int), l = l0 ++ [a] → 0 ≤ a ∧ a ≤ 50 ∧ ∀ v ∈ l0, 1 ≤ v ∧ v ≤ 50

theorem stOk_snoc {l : List Int} {a : Int} (h : ∀ v ∈ l, 1 ≤ v ∧ v ≤ 50) (h0 : 0 ≤ a) (h1 : a ≤ 50) : StOk (l ++ [a]) := by
  intro l0 b e
  obtain ⟨rfl, hb⟩ := List.append_inj' e rfl
  simp at hb
  subst hb
  exact ⟨h0, h1, h⟩

set_option maxRecDepth 100000 in
set_option maxHeartbeats 4000000 in
theorem shallow_any (A : Option Addr) (c : Nat) (xs : List Nd) (w : World) (ha : TyA w w.heap.size A xs) (hl : xs.length ≤ 1000000) (hok : okAll xs) :
    Calls Tryz.prog 49 #[.slice A xs.length c] w fun e w' => e = .returned (.bool (shallowGo xs [])) ∧ Below w.heap.size w w' := by
  have Hok := Lib.hid hok
  clear hok
  have hown0 := own_empty 3 1 encI w
  have hb0 := ext_alloc (Below.refl w.heap.size w) (.cells #[] 3)
  go_enter Tryz.func49, Tryz.ntmps49
  go_wp2_with fail
  go_loopw [3, 4] (fun o3 k4 wr => ∃ (k : Nat) (A' : Option Addr) (cap' : Nat) (l : List Int), o3 = .slice A' l.length cap' ∧ k4 = .int .i64 k ∧ k ≤ xs.length ∧ l.length ≤ 100 ∧ Hid (∀ v ∈ l, 1 ≤ v ∧ v ≤ 50) ∧
      OwnI wr w.heap.size A' cap' l ∧ Below w.heap.size w wr ∧ Hid (shallowGo (xs.drop k) l.reverse = shallowGo xs []))
    (fun _ k4 _ => xs.length - (intOf k4).toNat)
  case atStart => exact ⟨0, _, _, [], rfl, rfl, Nat.zero_le _, by simp, Lib.hid (by simp), hown0, hb0, Lib.hid rfl⟩
  case round =>
    obtain ⟨k, A', cap', l, rfl, rfl, hk, hl100, hpos, hown, hbel, hgood⟩ := hrel
    by_cases hp : k < xs.length
    · obtain ⟨x, hx⟩ := getq_ex hp
      obtain ⟨M, hM, hM50, _⟩ := many_nat (Hok.out x (mem_of_getq hx))
      obtain ⟨b1, o1, rfl, hb1, c10, c11, c12⟩ := ((ha.below hbel).more hbel.size).at_ hx
      have HM := Lib.hid hM
      by_cases h100 : l.length = 100
      · have hfin := Lib.hid (show shallowGo (xs.drop k) l.reverse = false by rw [drop_cons hx]; simp [shallowGo, h100])
        have h100' : (100 : Int) ≤ (l.length : Int) := by omega
        clear hx h100 hM
        go_wp2_with fail
        go_ret
        exact ⟨ret_bool (by rw [← hgood.out, hfin.out]), hbel⟩
      · have hgood2 : Hid (shallowGo (xs.drop (k + 1)) (settleL ((l ++ [(M : Int)]).reverse)) = shallowGo xs []) := Lib.hid (by
          rw [← hgood.out, drop_cons hx]; simp [shallowGo, hM, show ¬ 100 ≤ l.length by omega])
        have h100' : ¬ (100 : Int) ≤ (l.length : Int) := by omega
        have h100n : l.length < 100 := by omega
        clear hx h100 hM hgood
        go_wp2_with fail
        refine (rmany_any _ _ _ _).mono ?_
        rintro e w1 ⟨rfl, hbx⟩
        rw [HM.out]
        have hown1 := OwnL.below hown hbx (Nat.le_refl _)
        have hbel1 := ext_trans hbel hbx
        have z1 := hbel1.size
        go_wp2_with (at_builtin; refine wpList_appI rfl (.tmp 15) (.tmp 21) rfl w.heap.size (l := l) rfl (OwnL.alloc hown1 _) (l2 := [(M : Int)]) rfl (readI_new _ _) (by simp; omega) (by simp; omega) ?_; intro A2 cap2 w3 hown3 hg3 _)
        have hbel3 := ext_app (ext_alloc hbel1 _) hg3 (fun k hk => (OwnL.block hown1 k hk).1)
        clear hg3 hbx hown1
        have hst : Hid (StOk (l ++ [(M : Int)])) := Lib.hid (stOk_snoc hpos.out (by omega) (by omega))
        obtain ⟨wo, rfl⟩ : ∃ wo : World, wo = wr := ⟨_, rfl⟩
        go_loopw [3] (fun o3 wi => ∃ (A3 : Option Addr) (cap3 : Nat) (l3 : List Int), o3 = .slice A3 l3.length cap3 ∧ l3.length ≤ 101 ∧ Hid (StOk l3) ∧ OwnI wi w.heap.size A3 cap3 l3 ∧ Below w.heap.size w wi ∧
            Hid (settleL l3.reverse = settleL ((l ++ [(M : Int)]).reverse)))
          (fun o3 _ => lenOf o3)
        case atStart => exact ⟨_, _, l ++ [(M : Int)], by simp, by simp; omega, hst, hown3, hbel3, Lib.hid rfl⟩
        case round =>
          clear hown3 hbel3 hst
          obtain ⟨A3, cap3, l3, rfl, hl101, hst, hown3, hbel3, hgood3⟩ := hrel
          rcases Nat.eq_zero_or_pos l3.length with hz | hz
          · have hnil : l3 = [] := List.eq_nil_of_length_eq_zero hz
            subst hnil
            go_wp2_with fail
            go_roundw
            case rel => exact ⟨k + 1, A3, cap3, [], rfl, by go_num, hp, by simp, Lib.hid (by simp), hown3, hbel3, Lib.hid (by rw [← hgood2.out, ← hgood3.out]; rfl)⟩
            case measure => simp [intOf]; omega
          · obtain ⟨l0, a, hl3, hm⟩ := snoc_of (show l3.length = (l3.length - 1) + 1 by omega)
            generalize hmm : l3.length - 1 = m at hm
            have hlen3 : l3.length = m + 1 := by omega
            rw [hlen3] at hl101 ⊢
            have hread := OwnL.read encI_len hown3
            obtain ⟨b3, rfl, hbw3, hb3, hcap3, hcapm⟩ := OwnL.form hown3 hz
            obtain ⟨_, _, e3, _, c3⟩ := ReadL.int hread (i := m) (n := a) (by rw [hl3, List.getElem?_append_right (by omega)]; simp [hm])
            simp only [Option.some.injEq, Addr.mk.injEq, and_true] at e3
            obtain ⟨rfl, rfl⟩ := e3
            rw [Nat.zero_add] at c3
            rw [hlen3] at hcap3
            have hbd := hst.out l0 a hl3
            obtain ⟨ha0, ha1, hl0⟩ := hbd
            have Hl3 := Lib.hid hl3
            have Hm := Lib.hid hm
            have Hlen3 := Lib.hid hlen3
            have Hl0 := Lib.hid hl0
            have hm0 := Lib.hid (show m = l0.length from hm.symm)
            clear hl3 hm hlen3 hmm hl0 hz hread
            by_cases haz : a = 0
            · have hazb : (a == 0) = true := by simpa using haz
              have Haz := Lib.hid haz
              clear haz
              have hcut : OwnI wr w.heap.size (some ⟨b3, 0, none⟩) cap3 l0 := by
                have := OwnL.cut encI_len hown3 (k := l0.length) (by rw [Hl3.out]; simp)
                rwa [Hl3.out, List.take_left] at this
              cases m with
              | zero =>
                have hnil : l0 = [] := List.eq_nil_of_length_eq_zero Hm.out
                subst hnil
                go_wp2_with fail
                go_roundw
                case rel => exact ⟨_, cap3, [], rfl, by simp, Lib.hid (fun l0 a h => by simp at h), hcut, hbel3, Lib.hid (by rw [← hgood3.out, Hl3.out, Haz.out]; rfl)⟩
                case measure => simp [lenOf]
              | succ j =>
                obtain ⟨l00, b, hl00, hj⟩ := snoc_of Hm.out
                have hb := Hl0.out b (by rw [hl00]; simp)
                obtain ⟨hb0', hb50⟩ := hb
                obtain ⟨g, hg, _, _, ⟨b', hb', c4⟩, f4, hset, hgr⟩ := OwnL.setI hcut (j := j) (by rw [Hm.out]; omega) (b - 1)
                simp only [Option.some.injEq, Addr.mk.injEq, and_true] at hg
                subst hg
                rw [hl00, List.getElem?_append_right (by omega)] at hb'
                simp [hj] at hb'
                subst hb'
                have Hl00 := Lib.hid hl00
                have Hj := Lib.hid hj
                have Hset := Lib.hid hset
                clear hl00 hj hset
                go_wp2_with fail
                go_roundw
                case rel => exact ⟨some ⟨b3, 0, none⟩, cap3, l00 ++ [b - 1], by simp [Hj.out], by simp [Hj.out]; omega, Lib.hid (stOk_snoc (fun v hv => Hl0.out v (by rw [Hl00.out]; simp [hv])) (by omega) (by omega)), by
                  have h1 := Hset.out
                  rw [Hl00.out] at h1
                  rw [List.set_append_right _ _ (by rw [Hj.out]; omega), Hj.out, Nat.sub_self] at h1
                  exact h1, hbel3.setCell hbw3 _, Lib.hid (by rw [← hgood3.out, Hl3.out, Haz.out, Hl00.out]; simp [settleL, settle])⟩
                case measure => simp [lenOf]
            · have hazb : (a == 0) = false := by simpa using haz
              have Haz := Lib.hid haz
              clear haz
              go_wp2_with fail
              go_roundw
              case rel => exact ⟨k + 1, _, cap3, l3, by rw [Hlen3.out], by go_num, hp, by
                have h1 := settle_len (l.reverse) (M : Int)
                have h2 := hgood3.out
                rw [Hl3.out, List.reverse_append, List.reverse_append] at h2
                have h3 : settle l0.reverse a = settle l.reverse (M : Int) := h2
                rw [settle_pos Haz.out] at h3
                rw [← h3] at h1
                have := Hlen3.out
                have := Hm.out
                simp at h1
                omega, Lib.hid (by
                rw [Hl3.out]
                intro v hv
                rcases List.mem_append.1 hv with hv | hv
                · exact Hl0.out v hv
                · simp at hv; subst hv; have := Haz.out; omega), hown3, hbel3, Lib.hid (by
                rw [← hgood2.out, ← hgood3.out, Hl3.out]
                simp [settleL, settle_pos Haz.out])⟩
              case measure => simp [intOf]; omega
    · have hfin := Lib.hid (show shallowGo (xs.drop k) l.reverse = true by rw [List.drop_of_length_le (by omega)]; rfl)
      go_wp2_with fail
      go_ret
      exact ⟨ret_bool (by rw [← hgood.out, hfin.out]), hbel⟩
end Go.Proofs.YtmjdhfbnmmdjiaaGreat

/- The document's look at the labels of a node's children. -/
namespace Go.Proofs.YtmjdhfbnmmdjiaaGreat
open Go.RowKit

/-- Whether child k of a node, y, is labelled right behind the child prev. -/
def labK (x y prev : Nd) (k n : Nat) : Bool :=
  if y.k = 9 then isRowB x.k && decide (k + 1 = n) && decide (y.s.size = 0)
  else labelB x.k y.s && !(isRowB x.k && decide (0 < k) && !Op.bytesLess prev.s.toList y.s.toList)

def ndAt (xs : List Nd) (l : List Nat) (k : Nat) : Nd := (xs[(l[k]?).getD 0]?).getD default

def labFrom (xs : List Nd) (x : Nd) (l : List Nat) : Nat → Nat → Bool
  | 0, _ => true
  | d + 1, k => labK x (ndAt xs l k) (ndAt xs l (k - 1)) k l.length && labFrom xs x l d (k + 1)

/-- Whether the labels of the children of the node at a place are right, and they are all there. -/
def labelledB (xs : List Nd) (i : Nat) : Bool :=
  match xs[i]? with
  | none => false
  | some x => decide (((kidsR xs i).length : Int) = many x.k x.n) && labFrom xs x (kidsR xs i) (kidsR xs i).length 0

theorem kidsGo_lt {xs : List Nd} : ∀ (d at_ : Nat), ∀ j ∈ kidsGo xs d at_, j < xs.length := by
  intro d
  induction d with
  | zero => intro at_ j h; simp [kidsGo] at h
  | succ d ih =>
    intro at_ j h
    simp only [kidsGo] at h
    split at h
    · rcases List.mem_cons.1 h with rfl | h
      · assumption
      · exact ih _ j h
    · simp at h

theorem kidsR_lt {xs : List Nd} {i : Int} : ∀ j ∈ kidsR xs i, j < xs.length := by
  intro j h
  unfold kidsR at h
  split at h
  · simp at h
  · split at h
    · simp at h
    · exact kidsGo_lt _ _ j h

theorem kidsGo_len {xs : List Nd} : ∀ (d at_ : Nat), (kidsGo xs d at_).length ≤ d := by
  intro d
  induction d with
  | zero => intro at_; simp [kidsGo]
  | succ d ih =>
    intro at_
    simp only [kidsGo]
    split
    · have := ih (endGo (xs.drop at_) 1 at_)
      simp
      omega
    · simp

theorem row_or {a b : Bool} (h : (a || b) = true) : a = false → b = true := by cases a <;> simp_all

theorem asI_get {l : List Nat} {k j : Nat} (h : l[k]? = some j) : (asI l)[k]? = some (j : Int) := by
  unfold asI
  rw [List.getElem?_map, h]
  rfl

theorem asI_len (l : List Nat) : (asI l).length = l.length := by simp [asI]

set_option maxRecDepth 100000 in
set_option maxHeartbeats 4000000 in
theorem labelled_any (A : Option Addr) (c : Nat) (xs : List Nd) (i : Nat) (w : World) (ha : TyA w w.heap.size A xs) (hl : xs.length ≤ 1000000) (hok : okAll xs) (hi : i < xs.length) (hs : ∀ x ∈ xs, x.s.size ≤ 9223372036854775807) :
    Calls Tryz.prog 50 #[.slice A xs.length c, .int .i64 i] w fun e w' => e = .returned (.bool (labelledB xs i)) ∧ Below w.heap.size w w' := by
  have Hok := Lib.hid hok
  have Hs := Lib.hid hs
  clear hok hs
  obtain ⟨x, hx⟩ := getq_ex hi
  obtain ⟨M, hM, hM50, _⟩ := many_nat (Hok.out x (mem_of_getq hx))
  have hfin : Hid (labelledB xs i = (decide (((kidsR xs i).length : Int) = (M : Int)) && labFrom xs x (kidsR xs i) (kidsR xs i).length 0)) := Lib.hid (by unfold labelledB; rw [hx]; simp [hM])
  have HM := Lib.hid hM
  have Hx := Lib.hid hx
  clear hx hM
  go_enter Tryz.func50, Tryz.ntmps50
  go_wp2_with fail
  refine (rKids_any A c xs i w ha hl Hok.out).mono ?_
  rintro e w1 ⟨A', cap', rfl, hown, hbel⟩
  have hlt := Lib.hid (kidsR_lt (xs := xs) (i := i))
  have hklen := Lib.hid (show (kidsR xs i).length ≤ 50 by
    unfold kidsR
    rw [if_neg (by omega)]
    simp only [Int.toNat_natCast, Hx.out, HM.out]
    exact Nat.le_trans (kidsGo_len _ _) hM50)
  rw [asI_len]
  generalize hks : kidsR xs i = l at *
  have hread := OwnL.read encI_len hown
  have ha1 := (ha.below hbel).more hbel.size
  have hll : l.length ≤ 50 := hklen.out
  clear hks hown
  obtain ⟨b1, o1, rfl, hb1, c10, c11, c12⟩ := ha1.at_ Hx.out
  go_wp2_with fail
  refine (rmany_any _ _ _ _).mono ?_
  rintro e w2 ⟨rfl, hb2⟩
  rw [HM.out]
  have hbel2 := ext_trans hbel hb2
  have ha2 := (ha1.below hb2).more hb2.size
  have hread2 := (ReadL.below hread hb2).more hb2.size
  clear c10 c11 c12 hread ha1 hb2 hb1
  clear hbel
  clear w1
  by_cases hlM : l.length = M
  · have hlMb : ((l.length : Int) != (M : Int)) = false := by simp [hlM]
    have HlM := Lib.hid hlM
    clear hlM
    go_wp2_with fail
    go_loopw [6] (fun k6 wr => ∃ k : Nat, k6 = .int .i64 k ∧ k ≤ l.length ∧ Below w2.heap.size w2 wr ∧ Hid (labFrom xs x l (l.length - k) k = labFrom xs x l l.length 0))
      (fun k6 _ => l.length - (intOf k6).toNat)
    case atStart => exact ⟨0, rfl, Nat.zero_le _, Below.refl _ _, Lib.hid rfl⟩
    case round =>
      obtain ⟨k, rfl, hk, hbr, hgood⟩ := hrel
      rw [show decide ((l.length : Int) = (M : Int)) = true by simp [HlM.out], Bool.true_and] at hfin
      by_cases hp : k < l.length
      · obtain ⟨j, hj⟩ := getq_ex hp
        have hjl := hlt.out j (mem_of_getq hj)
        obtain ⟨y, hy⟩ := getq_ex hjl
        have hys := Lib.hid (Hs.out y (mem_of_getq hy))
        have hstep : Hid (labFrom xs x l (l.length - k) k = (labK x y (ndAt xs l (k - 1)) k l.length && labFrom xs x l (l.length - (k + 1)) (k + 1))) := Lib.hid (by
          rw [show l.length - k = (l.length - (k + 1)) + 1 by omega]
          simp [labFrom, ndAt, hj, hy])
        generalize hpv : ndAt xs l (k - 1) = p at hstep
        have hre := (ReadL.below hread2 hbr).more hbr.size
        have hae := (ha2.below hbr).more hbr.size
        obtain ⟨bl, ol, rfl, hbl, cl⟩ := ReadL.int hre (asI_get hj)
        obtain ⟨bt, ot, hte, hbt, cx0, cx1, cx2⟩ := hae.at_ Hx.out
        simp only [Option.some.injEq, Addr.mk.injEq, and_true] at hte
        obtain ⟨rfl, rfl⟩ := hte
        obtain ⟨_, _, hte, _, cy0, cy1, cy2⟩ := hae.at_ hy
        simp only [Option.some.injEq, Addr.mk.injEq, and_true] at hte
        obtain ⟨rfl, rfl⟩ := hte
        have s1 : bl < wr.heap.size + 1 := by omega
        have s2 : b1 < wr.heap.size + 1 := by omega
        have Hj := Lib.hid hj
        have Hy := Lib.hid hy
        have Hpv := Lib.hid hpv
        clear hj hy hpv
        by_cases h9 : y.k = 9
        · have h9b : (y.k == 9) = true := by simpa using h9
          have H9 := Lib.hid h9
          clear h9
          by_cases hrow : isRowB x.k = true
          · have hr67 : (x.k == 6 || x.k == 7) = true := hrow
            have Hrow := Lib.hid hrow
            by_cases hla : k + 1 = l.length
            · have hlab : ((k : Int) == (l.length : Int) - 1) = true := by simp; omega
              have Hla := Lib.hid hla
              cases he : y.s.toList.isEmpty
              · have He := Lib.hid he
                clear hla hrow
                cases h6b : (x.k == 6)
                all_goals
                  have h7b := Lib.hid (row_or hr67)
                  first | (have h7c := h7b.out h6b; clear h7b) | clear h7b
                  go_wp2_with fail
                  go_ret
                  exact ⟨ret_bool (by rw [hfin.out, ← hgood.out, hstep.out, (show labK x y p k l.length = false by unfold labK; rw [if_pos H9.out, ← isEmpty_size, He.out, Bool.and_false]), Bool.false_and]), ext_trans hbel2 (by repeat (first | exact hbr | refine ext_alloc ?_ _ | refine ext_drewN ?_ _ | refine Below.drew ?_))⟩
              · have He := Lib.hid he
                clear hla hrow
                cases h6b : (x.k == 6)
                all_goals
                  have h7b := Lib.hid (row_or hr67)
                  first | (have h7c := h7b.out h6b; clear h7b) | clear h7b
                  go_wp2_with fail
                  go_roundw
                  case rel => exact ⟨k + 1, by go_num, hp, (by repeat (first | exact hbr | refine ext_alloc ?_ _ | refine ext_drewN ?_ _ | refine Below.drew ?_)), Lib.hid (by rw [← hgood.out, hstep.out, (show labK x y p k l.length = true by unfold labK; rw [if_pos H9.out, ← isEmpty_size, He.out, Hrow.out, decide_eq_true Hla.out]; rfl), Bool.true_and])⟩
                  case measure => simp [intOf]; omega
            · have hlab : ((k : Int) == (l.length : Int) - 1) = false := by rw [beq_eq_false_iff_ne]; omega
              have Hla := Lib.hid hla
              clear hla hrow
              cases h6b : (x.k == 6)
              all_goals
                have h7b := Lib.hid (row_or hr67)
                first | (have h7c := h7b.out h6b; clear h7b) | clear h7b
                go_wp2_with fail
                go_ret
                exact ⟨ret_bool (by rw [hfin.out, ← hgood.out, hstep.out, (show labK x y p k l.length = false by unfold labK; rw [if_pos H9.out, decide_eq_false Hla.out]; simp), Bool.false_and]), ext_trans hbel2 (by repeat (first | exact hbr | refine ext_alloc ?_ _ | refine ext_drewN ?_ _ | refine Below.drew ?_))⟩
          · have Hrow := Lib.hid (show isRowB x.k = false by simpa using hrow)
            have h6b : (x.k == 6) = false := by have := Hrow.out; simp [isRowB] at this; simpa using this.1
            have h7b : (x.k == 7) = false := by have := Hrow.out; simp [isRowB] at this; simpa using this.2
            clear hrow
            go_wp2_with fail
            go_ret
            exact ⟨ret_bool (by rw [hfin.out, ← hgood.out, hstep.out, (show labK x y p k l.length = false by unfold labK; rw [if_pos H9.out, Hrow.out]; rfl), Bool.false_and]), ext_trans hbel2 (by repeat (first | exact hbr | refine ext_alloc ?_ _ | refine ext_drewN ?_ _ | refine Below.drew ?_))⟩
        · have h9b : (y.k == 9) = false := by simpa using h9
          have H9 := Lib.hid h9
          clear h9
          by_cases hk0 : 0 < k
          · have hk0i : (0 : Int) < (k : Int) := by omega
            have Hk0 := Lib.hid hk0
            obtain ⟨jp, hjp⟩ := getq_ex (show k - 1 < l.length by omega)
            have hjpl := hlt.out jp (mem_of_getq hjp)
            obtain ⟨q, hq⟩ := getq_ex hjpl
            have hpq : q = p := by have := Hpv.out; simp [ndAt, hjp, hq] at this; exact this
            subst hpq
            obtain ⟨_, _, hte, _, clp⟩ := ReadL.int hre (asI_get hjp)
            simp only [Option.some.injEq, Addr.mk.injEq, and_true] at hte
            obtain ⟨rfl, rfl⟩ := hte
            obtain ⟨_, _, hte, _, cp0, cp1, cp2⟩ := hae.at_ hq
            simp only [Option.some.injEq, Addr.mk.injEq, and_true] at hte
            obtain ⟨rfl, rfl⟩ := hte
            have hkp : k - 1 < l.length := by omega
            clear hjp hq
            by_cases h6 : x.k = 6
            · have h6b : (x.k == 6) = true := by simpa using h6
              have h7b : (x.k == 7) = false := by simp [h6]
              have Hr : Hid (isRowB x.k = true) := Lib.hid (by simp [isRowB, h6])
              cases hw : wordB y.s
              · have Hw := Lib.hid hw
                have Hl : Hid (labelB x.k y.s = false) := Lib.hid (by unfold labelB; rw [if_pos h6, hw])
                clear h6 hw
                go_wp2_with (go_at_call 57; refine (rIsWord_any _ _ hys.out).mono ?_; rintro e w3 ⟨rfl, rfl⟩; rw [Hw.out])
                go_ret
                exact ⟨ret_bool (by rw [hfin.out, ← hgood.out, hstep.out, (show labK x y q k l.length = false by unfold labK; rw [if_neg H9.out, Hl.out]; rfl), Bool.false_and]), ext_trans hbel2 (by repeat (first | exact hbr | refine ext_alloc ?_ _ | refine ext_drewN ?_ _ | refine Below.drew ?_))⟩
              · have Hw := Lib.hid hw
                have Hl : Hid (labelB x.k y.s = true) := Lib.hid (by unfold labelB; rw [if_pos h6, hw])
                clear h6 hw
                cases hlt : Op.bytesLess q.s.toList y.s.toList
                · have Hlt := Lib.hid hlt
                  go_wp2_with (go_at_call 57; refine (rIsWord_any _ _ hys.out).mono ?_; rintro e w3 ⟨rfl, rfl⟩; rw [Hw.out])
                  go_quiet (fail)
                  go_wp2_with fail
                  go_ret
                  exact ⟨ret_bool (by rw [hfin.out, ← hgood.out, hstep.out, (show labK x y q k l.length = false by unfold labK; rw [if_neg H9.out, Hl.out, Hr.out, Hlt.out]; simp [Hk0.out]), Bool.false_and]), ext_trans hbel2 (by repeat (first | exact hbr | refine ext_alloc ?_ _ | refine ext_drewN ?_ _ | refine Below.drew ?_))⟩
                · have Hlt := Lib.hid hlt
                  go_wp2_with (go_at_call 57; refine (rIsWord_any _ _ hys.out).mono ?_; rintro e w3 ⟨rfl, rfl⟩; rw [Hw.out])
                  go_quiet (fail)
                  go_wp2_with fail
                  go_roundw
                  case rel => exact ⟨k + 1, by go_num, hp, (by repeat (first | exact hbr | refine ext_alloc ?_ _ | refine ext_drewN ?_ _ | refine Below.drew ?_)), Lib.hid (by rw [← hgood.out, hstep.out, (show labK x y q k l.length = true by unfold labK; rw [if_neg H9.out, Hl.out, Hlt.out]; simp), Bool.true_and])⟩
                  case measure => simp [intOf]; omega
            · have h6b : (x.k == 6) = false := by simpa using h6
              by_cases h7 : x.k = 7
              · have h7b : (x.k == 7) = true := by simpa using h7
                have Hr : Hid (isRowB x.k = true) := Lib.hid (by simp [isRowB, h7])
                cases hw : tagB y.s
                · have Hw := Lib.hid hw
                  have Hl : Hid (labelB x.k y.s = false) := Lib.hid (by unfold labelB; rw [if_neg h6, if_pos h7, hw])
                  clear h6 h7 hw
                  go_wp2_with (go_at_call 58; refine (rIsTag_any _ _ hys.out).mono ?_; rintro e w3 ⟨rfl, rfl⟩; rw [Hw.out])
                  go_ret
                  exact ⟨ret_bool (by rw [hfin.out, ← hgood.out, hstep.out, (show labK x y q k l.length = false by unfold labK; rw [if_neg H9.out, Hl.out]; rfl), Bool.false_and]), ext_trans hbel2 (by repeat (first | exact hbr | refine ext_alloc ?_ _ | refine ext_drewN ?_ _ | refine Below.drew ?_))⟩
                · have Hw := Lib.hid hw
                  have Hl : Hid (labelB x.k y.s = true) := Lib.hid (by unfold labelB; rw [if_neg h6, if_pos h7, hw])
                  clear h6 h7 hw
                  cases hlt : Op.bytesLess q.s.toList y.s.toList
                  · have Hlt := Lib.hid hlt
                    go_wp2_with (go_at_call 58; refine (rIsTag_any _ _ hys.out).mono ?_; rintro e w3 ⟨rfl, rfl⟩; rw [Hw.out])
                    go_quiet (fail)
                    go_wp2_with fail
                    go_ret
                    exact ⟨ret_bool (by rw [hfin.out, ← hgood.out, hstep.out, (show labK x y q k l.length = false by unfold labK; rw [if_neg H9.out, Hl.out, Hr.out, Hlt.out]; simp [Hk0.out]), Bool.false_and]), ext_trans hbel2 (by repeat (first | exact hbr | refine ext_alloc ?_ _ | refine ext_drewN ?_ _ | refine Below.drew ?_))⟩
                  · have Hlt := Lib.hid hlt
                    go_wp2_with (go_at_call 58; refine (rIsTag_any _ _ hys.out).mono ?_; rintro e w3 ⟨rfl, rfl⟩; rw [Hw.out])
                    go_quiet (fail)
                    go_wp2_with fail
                    go_roundw
                    case rel => exact ⟨k + 1, by go_num, hp, (by repeat (first | exact hbr | refine ext_alloc ?_ _ | refine ext_drewN ?_ _ | refine Below.drew ?_)), Lib.hid (by rw [← hgood.out, hstep.out, (show labK x y q k l.length = true by unfold labK; rw [if_neg H9.out, Hl.out, Hlt.out]; simp), Bool.true_and])⟩
                    case measure => simp [intOf]; omega
              · have h7b : (x.k == 7) = false := by simpa using h7
                have Hr : Hid (isRowB x.k = false) := Lib.hid (by simp [isRowB, h6, h7])
                cases he : y.s.toList.isEmpty
                · have Hl : Hid (labelB x.k y.s = false) := Lib.hid (by unfold labelB; rw [if_neg h6, if_neg h7, ← isEmpty_size, he])
                  clear h6 h7
                  go_wp2_with fail
                  go_ret
                  exact ⟨ret_bool (by rw [hfin.out, ← hgood.out, hstep.out, (show labK x y q k l.length = false by unfold labK; rw [if_neg H9.out, Hl.out]; rfl), Bool.false_and]), ext_trans hbel2 (by repeat (first | exact hbr | refine ext_alloc ?_ _ | refine ext_drewN ?_ _ | refine Below.drew ?_))⟩
                · have Hl : Hid (labelB x.k y.s = true) := Lib.hid (by unfold labelB; rw [if_neg h6, if_neg h7, ← isEmpty_size, he])
                  clear h6 h7
                  go_wp2_with fail
                  go_quiet (fail)
                  go_wp2_with fail
                  go_roundw
                  case rel => exact ⟨k + 1, by go_num, hp, (by repeat (first | exact hbr | refine ext_alloc ?_ _ | refine ext_drewN ?_ _ | refine Below.drew ?_)), Lib.hid (by rw [← hgood.out, hstep.out, (show labK x y q k l.length = true by unfold labK; rw [if_neg H9.out, Hl.out, Hr.out]; rfl), Bool.true_and])⟩
                  case measure => simp [intOf]; omega
          · have hk0i : ¬ (0 : Int) < (k : Int) := by omega
            have Hk0 := Lib.hid (decide_eq_false hk0)
            by_cases h6 : x.k = 6
            · have h6b : (x.k == 6) = true := by simpa using h6
              have h7b : (x.k == 7) = false := by simp [h6]
              have Hr : Hid (isRowB x.k = true) := Lib.hid (by simp [isRowB, h6])
              cases hw : wordB y.s
              · have Hw := Lib.hid hw
                have Hl : Hid (labelB x.k y.s = false) := Lib.hid (by unfold labelB; rw [if_pos h6, hw])
                clear h6 hw
                go_wp2_with (go_at_call 57; refine (rIsWord_any _ _ hys.out).mono ?_; rintro e w3 ⟨rfl, rfl⟩; rw [Hw.out])
                go_ret
                exact ⟨ret_bool (by rw [hfin.out, ← hgood.out, hstep.out, (show labK x y p k l.length = false by unfold labK; rw [if_neg H9.out, Hl.out]; rfl), Bool.false_and]), ext_trans hbel2 (by repeat (first | exact hbr | refine ext_alloc ?_ _ | refine ext_drewN ?_ _ | refine Below.drew ?_))⟩
              · have Hw := Lib.hid hw
                have Hl : Hid (labelB x.k y.s = true) := Lib.hid (by unfold labelB; rw [if_pos h6, hw])
                clear h6 hw
                go_wp2_with (go_at_call 57; refine (rIsWord_any _ _ hys.out).mono ?_; rintro e w3 ⟨rfl, rfl⟩; rw [Hw.out])
                go_quiet (fail)
                go_wp2_with fail
                go_roundw
                case rel => exact ⟨k + 1, by go_num, hp, (by repeat (first | exact hbr | refine ext_alloc ?_ _ | refine ext_drewN ?_ _ | refine Below.drew ?_)), Lib.hid (by rw [← hgood.out, hstep.out, (show labK x y p k l.length = true by unfold labK; rw [if_neg H9.out, Hl.out, Hk0.out]; simp), Bool.true_and])⟩
                case measure => simp [intOf]; omega
            · have h6b : (x.k == 6) = false := by simpa using h6
              by_cases h7 : x.k = 7
              · have h7b : (x.k == 7) = true := by simpa using h7
                have Hr : Hid (isRowB x.k = true) := Lib.hid (by simp [isRowB, h7])
                cases hw : tagB y.s
                · have Hw := Lib.hid hw
                  have Hl : Hid (labelB x.k y.s = false) := Lib.hid (by unfold labelB; rw [if_neg h6, if_pos h7, hw])
                  clear h6 h7 hw
                  go_wp2_with (go_at_call 58; refine (rIsTag_any _ _ hys.out).mono ?_; rintro e w3 ⟨rfl, rfl⟩; rw [Hw.out])
                  go_ret
                  exact ⟨ret_bool (by rw [hfin.out, ← hgood.out, hstep.out, (show labK x y p k l.length = false by unfold labK; rw [if_neg H9.out, Hl.out]; rfl), Bool.false_and]), ext_trans hbel2 (by repeat (first | exact hbr | refine ext_alloc ?_ _ | refine ext_drewN ?_ _ | refine Below.drew ?_))⟩
                · have Hw := Lib.hid hw
                  have Hl : Hid (labelB x.k y.s = true) := Lib.hid (by unfold labelB; rw [if_neg h6, if_pos h7, hw])
                  clear h6 h7 hw
                  go_wp2_with (go_at_call 58; refine (rIsTag_any _ _ hys.out).mono ?_; rintro e w3 ⟨rfl, rfl⟩; rw [Hw.out])
                  go_quiet (fail)
                  go_wp2_with fail
                  go_roundw
                  case rel => exact ⟨k + 1, by go_num, hp, (by repeat (first | exact hbr | refine ext_alloc ?_ _ | refine ext_drewN ?_ _ | refine Below.drew ?_)), Lib.hid (by rw [← hgood.out, hstep.out, (show labK x y p k l.length = true by unfold labK; rw [if_neg H9.out, Hl.out, Hk0.out]; simp), Bool.true_and])⟩
                  case measure => simp [intOf]; omega
              · have h7b : (x.k == 7) = false := by simpa using h7
                have Hr : Hid (isRowB x.k = false) := Lib.hid (by simp [isRowB, h6, h7])
                cases he : y.s.toList.isEmpty
                · have Hl : Hid (labelB x.k y.s = false) := Lib.hid (by unfold labelB; rw [if_neg h6, if_neg h7, ← isEmpty_size, he])
                  clear h6 h7
                  go_wp2_with fail
                  go_ret
                  exact ⟨ret_bool (by rw [hfin.out, ← hgood.out, hstep.out, (show labK x y p k l.length = false by unfold labK; rw [if_neg H9.out, Hl.out]; rfl), Bool.false_and]), ext_trans hbel2 (by repeat (first | exact hbr | refine ext_alloc ?_ _ | refine ext_drewN ?_ _ | refine Below.drew ?_))⟩
                · have Hl : Hid (labelB x.k y.s = true) := Lib.hid (by unfold labelB; rw [if_neg h6, if_neg h7, ← isEmpty_size, he])
                  clear h6 h7
                  go_wp2_with fail
                  go_quiet (fail)
                  go_wp2_with fail
                  go_roundw
                  case rel => exact ⟨k + 1, by go_num, hp, (by repeat (first | exact hbr | refine ext_alloc ?_ _ | refine ext_drewN ?_ _ | refine Below.drew ?_)), Lib.hid (by rw [← hgood.out, hstep.out, (show labK x y p k l.length = true by unfold labK; rw [if_neg H9.out, Hl.out, Hr.out]; rfl), Bool.true_and])⟩
                  case measure => simp [intOf]; omega
      · have hz := Lib.hid (show labFrom xs x l (l.length - k) k = true by rw [show l.length - k = 0 by omega]; rfl)
        go_wp2_with fail
        go_ret
        exact ⟨ret_bool (by rw [hfin.out, ← hgood.out, hz.out]), ext_trans hbel2 hbr⟩
  · have hlMb : ((l.length : Int) != (M : Int)) = true := by simp; omega
    have HlM := Lib.hid hlM
    clear hlM
    go_wp2_with fail
    go_ret
    exact ⟨ret_bool (by rw [hfin.out, decide_eq_false (by have := HlM.out; omega)]; rfl), hbel2⟩
end Go.Proofs.YtmjdhfbnmmdjiaaGreat

/- The document's Right, walked. -/
namespace Go.Proofs.YtmjdhfbnmmdjiaaGreat
open Go.RowKit

def okB (x : Nd) : Bool := okNode x.k x.n

def labAll (xs : List Nd) : Nat → Nat → Bool
  | 0, _ => true
  | d + 1, i => labelledB xs i && labAll xs d (i + 1)

/-- The document's answer: whether nodes are a type. -/
def rRightB (xs : List Nd) : Bool :=
  decide (xs.length ≤ 10000) && rootOk xs && xs.all okB && decide (endR xs 0 = (xs.length : Int)) && shallowGo xs [] && labAll xs xs.length 0

set_option maxRecDepth 100000 in
set_option maxHeartbeats 4000000 in
theorem rRight_any (A : Option Addr) (c : Nat) (xs : List Nd) (w : World) (ha : TyA w w.heap.size A xs) (hl : xs.length ≤ 9223372036854775807) (hs : ∀ x ∈ xs, x.s.size ≤ 9223372036854775807) :
    Calls Tryz.prog 33 #[.slice A xs.length c] w fun e w' => e = .returned (.bool (rRightB xs)) ∧ Below w.heap.size w w' := by
  match hxs0 : xs with
  | [] =>
    go_enter Tryz.func33, Tryz.ntmps33
    go_wp2_with fail
    go_ret
    exact ⟨rfl, Below.refl _ _⟩
  | x :: xs' =>
    obtain ⟨b1, o1, rfl, hb1, c10, c11, c12⟩ := ha.at_ (i := 0) (x := x) rfl
    have hlen : (x :: xs').length = xs'.length + 1 := rfl
    simp only [Nat.zero_mul, Nat.add_zero] at c10 c11 c12
    have hn0 : (((x :: xs').length : Int) == 0) = false := by rw [beq_eq_false_iff_ne]; rw [hlen]; omega
    clear hxs0
    generalize hxs : x :: xs' = xs at *
    have Hxs := Lib.hid hxs
    have hpos : 0 < xs.length := by omega
    clear hxs hlen
    have Hs := Lib.hid hs
    clear hs
    by_cases h10 : xs.length ≤ 10000
    · have h10' : ¬ (10000 : Int) < (xs.length : Int) := by omega
      cases he : x.s.toList.isEmpty
      · have hroot : Hid (rootOk xs = false) := Lib.hid (by rw [← Hxs.out]; simp only [rootOk]; rw [← isEmpty_size, he]; rfl)
        go_enter Tryz.func33, Tryz.ntmps33
        go_wp2_with fail
        go_ret
        exact ⟨ret_bool (by simp [rRightB, hroot.out]), Below.refl _ _⟩
      · cases h9 : (x.k == 9)
        · have hroot : Hid (rootOk xs = true) := Lib.hid (by rw [← Hxs.out]; simp only [rootOk]; rw [← isEmpty_size, he, h9]; rfl)
          go_enter Tryz.func33, Tryz.ntmps33
          go_wp2_with fail
          go_loopw [3] (fun k3 wr => ∃ k : Nat, k3 = .int .i64 k ∧ k ≤ xs.length ∧ Below w.heap.size w wr ∧ Hid (allFrom okB xs k = xs.all okB)) (fun k3 _ => xs.length - (intOf k3).toNat)
          case atStart => exact ⟨0, rfl, Nat.zero_le _, Below.refl _ _, Lib.hid rfl⟩
          case round =>
            obtain ⟨k, rfl, hk, hbr, hgood⟩ := hrel
            by_cases hp : k < xs.length
            · obtain ⟨y, hy⟩ := getq_ex hp
              have hstep := Lib.hid (allFrom_step (p := okB) hy)
              obtain ⟨b2, o2, hte, hb2, c20, c21, c22⟩ := ((ha.below hbr).more hbr.size).at_ hy
              simp only [Option.some.injEq, Addr.mk.injEq, and_true] at hte
              obtain ⟨rfl, rfl⟩ := hte
              clear hy c10 c11 c12
              cases hok : okNode y.k y.n
              · have Hok := Lib.hid hok
                go_wp2_with (go_at_call 47; refine (numbered_any _ _ _ _).mono ?_; rintro e w1 ⟨rfl, hbx⟩; rw [Hok.out])
                go_ret
                exact ⟨ret_bool (by unfold rRightB; rw [← hgood.out, hstep.out, show okB y = false from Hok.out]; simp), ext_trans hbr hbx⟩
              · have Hok := Lib.hid hok
                go_wp2_with (go_at_call 47; refine (numbered_any _ _ _ _).mono ?_; rintro e w1 ⟨rfl, hbx⟩; rw [Hok.out])
                go_roundw
                case rel => exact ⟨k + 1, by go_num, hp, ext_trans hbr hbx, Lib.hid (by rw [← hgood.out, hstep.out, show okB y = true from Hok.out, Bool.true_and])⟩
                case measure => simp [intOf]; omega
            · have hall : Hid (xs.all okB = true) := Lib.hid (by rw [← hgood.out, allFrom_end hp])
              have hokA : okAll xs := fun x hx => List.all_eq_true.1 hall.out x hx
              have HokA := Lib.hid hokA
              have har := (ha.below hbr).more hbr.size
              clear hokA c10 c11 c12
              obtain ⟨wo, rfl⟩ : ∃ wo : World, wo = wr := ⟨_, rfl⟩
              by_cases hend : endR xs 0 = (xs.length : Int)
              · have Hend := Lib.hid hend
                clear hend
                cases hsh : shallowGo xs []
                · have Hsh := Lib.hid hsh
                  clear hsh
                  go_wp2_with fail
                  refine (rEnd_any _ c xs 0 _ har (by omega) HokA.out).mono ?_
                  rintro e w1 ⟨rfl, hb1'⟩
                  rw [Hend.out]
                  have har1 := (har.below hb1').more hb1'.size
                  go_wp2_with fail
                  refine (shallow_any _ c xs _ har1 (by omega) HokA.out).mono ?_
                  rintro e w2 ⟨rfl, hb2'⟩
                  rw [Hsh.out]
                  go_wp2_with fail
                  go_ret
                  exact ⟨ret_bool (by unfold rRightB; rw [Hsh.out]; simp), ext_trans (ext_trans hbr hb1') hb2'⟩
                · have Hsh := Lib.hid hsh
                  clear hsh
                  go_wp2_with fail
                  refine (rEnd_any _ c xs 0 _ har (by omega) HokA.out).mono ?_
                  rintro e w1 ⟨rfl, hb1'⟩
                  rw [Hend.out]
                  have har1 := (har.below hb1').more hb1'.size
                  go_wp2_with fail
                  refine (shallow_any _ c xs _ har1 (by omega) HokA.out).mono ?_
                  rintro e w2 ⟨rfl, hb2'⟩
                  rw [Hsh.out]
                  have hbr2 := ext_trans (ext_trans hbr hb1') hb2'
                  clear hb1' hb2' har1 har
                  go_wp2_with fail
                  go_loopw [4] (fun k4 wi => ∃ j : Nat, k4 = .int .i64 j ∧ j ≤ xs.length ∧ Below w.heap.size w wi ∧ Hid (labAll xs (xs.length - j) j = labAll xs xs.length 0)) (fun k4 _ => xs.length - (intOf k4).toNat)
                  case atStart => exact ⟨0, rfl, Nat.zero_le _, hbr2, Lib.hid rfl⟩
                  case round =>
                    obtain ⟨j, rfl, hj, hbi, hgood2⟩ := hrel
                    by_cases hpj : j < xs.length
                    · have hstep2 : Hid (labAll xs (xs.length - j) j = (labelledB xs j && labAll xs (xs.length - (j + 1)) (j + 1))) := Lib.hid (by rw [show xs.length - j = (xs.length - (j + 1)) + 1 by omega]; rfl)
                      have hai := (ha.below hbi).more hbi.size
                      cases hlb : labelledB xs j
                      · have Hlb := Lib.hid hlb
                        clear hlb
                        go_wp2_with (go_at_call 50; refine (labelled_any _ c xs j _ hai (by omega) HokA.out hpj Hs.out).mono ?_; rintro e w5 ⟨rfl, hbx⟩; rw [Hlb.out])
                        go_ret
                        exact ⟨ret_bool (by unfold rRightB; rw [← hgood2.out, hstep2.out, Hlb.out]; simp), ext_trans hbi hbx⟩
                      · have Hlb := Lib.hid hlb
                        clear hlb
                        go_wp2_with (go_at_call 50; refine (labelled_any _ c xs j _ hai (by omega) HokA.out hpj Hs.out).mono ?_; rintro e w5 ⟨rfl, hbx⟩; rw [Hlb.out])
                        go_roundw
                        case rel => exact ⟨j + 1, by go_num, hpj, ext_trans hbi hbx, Lib.hid (by rw [← hgood2.out, hstep2.out, Hlb.out, Bool.true_and])⟩
                        case measure => simp [intOf]; omega
                    · have hz : Hid (labAll xs xs.length 0 = true) := Lib.hid (by rw [← hgood2.out, show xs.length - j = 0 by omega]; rfl)
                      go_wp2_with fail
                      go_ret
                      exact ⟨ret_bool (by unfold rRightB; rw [hz.out, Hsh.out, Hend.out, hall.out, hroot.out, decide_eq_true h10]; simp), hbi⟩
              · have hendb : (endR xs 0 != (xs.length : Int)) = true := by simpa using hend
                have Hend := Lib.hid hend
                clear hend
                go_wp2_with (go_at_call 48; refine (rEnd_any _ c xs 0 _ har (by omega) HokA.out).mono ?_; rintro e w1 ⟨rfl, hb1'⟩)
                go_ret
                exact ⟨ret_bool (by unfold rRightB; rw [decide_eq_false Hend.out]; simp), ext_trans hbr hb1'⟩
        · have hroot : Hid (rootOk xs = false) := Lib.hid (by rw [← Hxs.out]; simp only [rootOk]; rw [h9]; simp)
          go_enter Tryz.func33, Tryz.ntmps33
          go_wp2_with fail
          go_ret
          exact ⟨ret_bool (by simp [rRightB, hroot.out]), Below.refl _ _⟩
    · have h10' : (10000 : Int) < (xs.length : Int) := by omega
      go_enter Tryz.func33, Tryz.ntmps33
      go_wp2_with fail
      go_ret
      exact ⟨ret_bool (by simp [rRightB, h10]), Below.refl _ _⟩
end Go.Proofs.YtmjdhfbnmmdjiaaGreat

/- Rows of nodes as forests: so many trees, one behind the other. Plain lists. -/
namespace Go.Proofs.YtmjdhfbnmmdjiaaGreat

def manyN (x : Nd) : Nat := (many x.k x.n).toNat

/-- So many trees are passed: what is behind them. -/
def skip : List Nd → Nat → Option (List Nd)
  | xs, 0 => some xs
  | [], _ + 1 => none
  | x :: xs, n + 1 => skip xs (n + manyN x)

theorem skip_zero (xs : List Nd) : skip xs 0 = some xs := by cases xs <;> rfl
theorem skip_nil (n : Nat) : skip [] (n + 1) = none := rfl
theorem skip_cons (x : Nd) (xs : List Nd) (n : Nat) : skip (x :: xs) (n + 1) = skip xs (n + manyN x) := rfl

theorem skip_add : ∀ (xs : List Nd) (a b : Nat), skip xs (a + b) = (skip xs a).bind fun ys => skip ys b := by
  intro xs
  induction xs with
  | nil =>
    intro a b
    cases a with
    | zero => rw [skip_zero, Nat.zero_add]; rfl
    | succ a => rw [skip_nil, show a + 1 + b = (a + b) + 1 by omega, skip_nil]; rfl
  | cons x xs ih =>
    intro a b
    cases a with
    | zero => rw [skip_zero, Nat.zero_add]; rfl
    | succ a =>
      rw [skip_cons, show a + 1 + b = (a + b) + 1 by omega, skip_cons, ← ih]
      congr 1
      omega

/-- So many trees, and nothing else. -/
def Fo (n : Nat) (xs : List Nd) : Prop := skip xs n = some []

theorem skip_append : ∀ (ps ys : List Nd) (n : Nat) (r : List Nd), skip ps n = some r → skip (ps ++ ys) n = some (r ++ ys) := by
  intro ps
  induction ps with
  | nil =>
    intro ys n r h
    cases n with
    | zero => rw [skip_zero] at h ⊢; injection h with h; subst h; rfl
    | succ n => cases h
  | cons x ps ih =>
    intro ys n r h
    cases n with
    | zero => rw [skip_zero] at h ⊢; injection h with h; subst h; rfl
    | succ n => rw [skip_cons] at h; rw [List.cons_append, skip_cons]; exact ih ys _ r h

theorem Fo.pass {n : Nat} {ps : List Nd} (h : Fo n ps) (ys : List Nd) : skip (ps ++ ys) n = some ys := skip_append ps ys n [] h

theorem skip_split : ∀ (xs : List Nd) (n : Nat) (ys : List Nd), skip xs n = some ys → ∃ ps, xs = ps ++ ys ∧ Fo n ps := by
  intro xs
  induction xs with
  | nil =>
    intro n ys h
    cases n with
    | zero => rw [skip_zero] at h; injection h with h; subst h; exact ⟨[], rfl, rfl⟩
    | succ n => cases h
  | cons x xs ih =>
    intro n ys h
    cases n with
    | zero => rw [skip_zero] at h; injection h with h; subst h; exact ⟨[], rfl, rfl⟩
    | succ n =>
      rw [skip_cons] at h
      obtain ⟨ps, rfl, hf⟩ := ih _ _ h
      exact ⟨x :: ps, rfl, hf⟩

theorem Fo.zero : Fo 0 [] := rfl
theorem Fo.nil_of {n : Nat} (h : Fo n []) : n = 0 := by cases n with | zero => rfl | succ n => cases h
theorem Fo.of_zero {xs : List Nd} (h : Fo 0 xs) : xs = [] := by unfold Fo at h; rw [skip_zero] at h; injection h

theorem Fo.append {a b : Nat} {ps qs : List Nd} (h : Fo a ps) (k : Fo b qs) : Fo (a + b) (ps ++ qs) := by
  show skip (ps ++ qs) (a + b) = some []
  rw [skip_add, h.pass]
  exact k

theorem Fo.cons {n : Nat} {x : Nd} {ks rs : List Nd} (h : Fo (manyN x) ks) (k : Fo n rs) : Fo (n + 1) (x :: (ks ++ rs)) := by
  show skip (ks ++ rs) (n + manyN x) = some []
  rw [Nat.add_comm, skip_add, h.pass]
  exact k

/-- A tree's parts, and the other trees. -/
theorem Fo.uncons {n : Nat} {x : Nd} {ys : List Nd} (h : Fo (n + 1) (x :: ys)) : ∃ ks rs, ys = ks ++ rs ∧ Fo (manyN x) ks ∧ Fo n rs := by
  have h' : skip ys (n + manyN x) = some [] := h
  rw [Nat.add_comm, skip_add] at h'
  cases hs : skip ys (manyN x) with
  | none => rw [hs] at h'; cases h'
  | some rs =>
    rw [hs] at h'
    obtain ⟨ks, rfl, hk⟩ := skip_split _ _ _ hs
    exact ⟨ks, rs, rfl, hk, h'⟩

/-- The first of so many trees. -/
theorem Fo.first {n : Nat} {xs : List Nd} (h : Fo (n + 1) xs) : ∃ ts rs, xs = ts ++ rs ∧ Fo 1 ts ∧ Fo n rs := by
  have h' : skip xs (n + 1) = some [] := h
  rw [Nat.add_comm, skip_add] at h'
  cases hs : skip xs 1 with
  | none => rw [hs] at h'; cases h'
  | some rs =>
    rw [hs] at h'
    obtain ⟨ts, rfl, ht⟩ := skip_split _ _ _ hs
    exact ⟨ts, rs, rfl, ht, h'⟩

theorem Fo.pos {n : Nat} {xs : List Nd} (h : Fo (n + 1) xs) : 0 < xs.length := by
  cases xs with
  | nil => cases h
  | cons x xs => simp

theorem manyN_ok {x : Nd} (h : okNode x.k x.n = true) : many x.k x.n = (manyN x : Int) := by
  have := many_bound h
  unfold manyN
  omega

end Go.Proofs.YtmjdhfbnmmdjiaaGreat
