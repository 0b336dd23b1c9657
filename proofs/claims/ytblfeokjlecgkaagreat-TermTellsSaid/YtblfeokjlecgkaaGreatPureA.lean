/- Types and functions' types (no program in sight). -/
import Derived.Test.YtblfeokjlecgkaaGreatPure
import Derived.Test.YtblfeokjlecgkaaGreatSame
import Derived.Test.YtblfeokjlecgkaaGreatPart
namespace Go.Proofs.YtblfeokjlecgkaaGreat

/-- What is known of a type's nodes. -/
structure IsT (T : List Nd) : Prop where
  tree : treeP T 100 0 = some T.length
  len : T.length ≤ 10000
  root : ∃ x ys, T = x :: ys ∧ x.s = ByteArray.empty ∧ x.k ≠ 9
  fo : Fo 1 T
  ok : okAll T
  right : rightB T = true

theorem isT_of {T : List Nd} (h : rightB T = true) : IsT T := by
  obtain ⟨h1, h2, h3⟩ := right_parts h
  obtain ⟨ts, rest, ht⟩ := treeP_sound _ _ _ h1
  have e1 : T = ts ++ rest := ht.at_
  have e2 : T.length = ts.length := by rw [ht.ej, Nat.zero_add]
  have e3 : rest = [] := by
    have := congrArg List.length e1
    rw [List.length_append] at this
    exact List.eq_nil_of_length_eq_zero (by omega)
  rw [e3, List.append_nil] at e1
  subst e1
  exact ⟨h1, h2, h3, ht.fo, ht.ok, h⟩

theorem IsT.ne {T : List Nd} (h : IsT T) : T ≠ [] := by
  obtain ⟨x, ys, rfl, _⟩ := h.root
  simp

theorem IsT.bare {T : List Nd} (h : IsT T) : bareN T = T := by
  obtain ⟨x, ys, rfl, hs, _⟩ := h.root
  unfold bareN Nd.name
  rw [← hs]

section
variable {a b : List Nd}

theorem arrow_treeA (ha : IsT a) (h60 : a.length ≤ 60) : treeP (arrowN a b) 99 1 = some (1 + a.length) := by
  have h1 := (treeP_fuel 100 99 0 a.length ha.tree).2 (by omega)
  exact treeP_shift [⟨5, ByteArray.empty, 0⟩] b 99 0 a.length h1

theorem arrow_treeB (hb : IsT b) (h60 : b.length ≤ 60) : treeP (arrowN a b) 99 (1 + a.length) = some (1 + a.length + b.length) := by
  have h1 := (treeP_fuel 100 99 0 b.length hb.tree).2 (by omega)
  have h2 := treeP_shift (⟨5, ByteArray.empty, 0⟩ :: a) [] 99 0 b.length h1
  have e : (⟨5, ByteArray.empty, 0⟩ :: a : List Nd) ++ (b ++ []) = arrowN a b := by simp [arrowN]
  rw [e] at h2
  rw [show 1 + a.length = (⟨5, ByteArray.empty, 0⟩ :: a : List Nd).length + 0 by simp; omega, show (⟨5, ByteArray.empty, 0⟩ :: a : List Nd).length + 0 + b.length = (⟨5, ByteArray.empty, 0⟩ :: a : List Nd).length + b.length by omega]
  exact h2

theorem arrow_len : (arrowN a b).length = 1 + a.length + b.length := by simp [arrowN]; omega

theorem arrow_at1 (ha : IsT a) : (arrowN a b)[1]? = a[0]? := by
  obtain ⟨x, ys, rfl, _⟩ := ha.root
  rfl

theorem arrow_at2 (hb : IsT b) : (arrowN a b)[1 + a.length]? = b[0]? := by
  obtain ⟨x, ys, rfl, _⟩ := hb.root
  have h2 := getq_mid (T := x :: ys) (i := 0) (x := x) (⟨5, ByteArray.empty, 0⟩ :: a) [] rfl
  have e : (⟨5, ByteArray.empty, 0⟩ :: a : List Nd) ++ ((x :: ys) ++ []) = arrowN a (x :: ys) := by simp [arrowN]
  rw [e] at h2
  simpa [Nat.add_comm] using h2

theorem child_ok {x y : Nd} {k : Int} {last : ByteArray} (hx : x.k = 5) (hs : y.s = ByteArray.empty) (h9 : y.k ≠ 9) : childOk x k last y = true := by
  unfold childOk labelB isRowB
  simp [h9, hx, hs]

theorem arrow_tree (ha : IsT a) (hb : IsT b) (h1 : a.length ≤ 60) (h2 : b.length ≤ 60) : treeP (arrowN a b) 100 0 = some (arrowN a b).length := by
  have e0 : (arrowN a b)[0]? = some ⟨5, ByteArray.empty, 0⟩ := rfl
  obtain ⟨x, xs, hxa, hxs, hx9⟩ := ha.root
  obtain ⟨y, ys, hyb, hys, hy9⟩ := hb.root
  have e1 : (arrowN a b)[1]? = some x := by rw [arrow_at1 ha, hxa]; rfl
  have e2 : (arrowN a b)[1 + a.length]? = some y := by rw [arrow_at2 hb, hyb]; rfl
  have t1 := arrow_treeA (b := b) ha h1
  have t2 := arrow_treeB (a := a) hb h2
  have hstep : ∀ f, treeP (arrowN a b) (f + 1) 0 = kidsP (treeP (arrowN a b) f) (arrowN a b) ⟨5, ByteArray.empty, 0⟩ 2 0 ByteArray.empty 1 := fun f => by
    simp only [treeP, e0]
    exact if_pos rfl
  rw [show (100 : Nat) = 99 + 1 from rfl, hstep 99]
  simp only [kidsP, e1, child_ok (x := ⟨5, ByteArray.empty, 0⟩) rfl hxs hx9, if_true, t1, e2, child_ok (x := ⟨5, ByteArray.empty, 0⟩) rfl hys hy9, t2]
  rw [arrow_len]

theorem arrow_right (ha : IsT a) (hb : IsT b) (h1 : a.length ≤ 60) (h2 : b.length ≤ 60) : rightB (arrowN a b) = true := by
  unfold rightB
  rw [arrow_tree ha hb h1 h2, arrow_len]
  simp [rootOk, arrowN]
  omega

theorem arrow_kids (ha : IsT a) (hb : IsT b) : kidsGo (arrowN a b) 2 1 = [1, 1 + a.length] := by
  have d1 : (arrowN a b).drop 1 = a ++ b := rfl
  have l1 : 1 < (arrowN a b).length := by
    rw [arrow_len]
    have := List.length_pos_iff.2 ha.ne
    omega
  have l2 : 1 + a.length < (arrowN a b).length := by
    rw [arrow_len]
    have := List.length_pos_iff.2 hb.ne
    omega
  rw [kidsGo_step l1, endGo_one d1 ha.ok ha.fo, kidsGo_step l2]
  rfl

theorem arrow_print (ha : IsT a) (hb : IsT b) (h1 : a.length ≤ 60) (h2 : b.length ≤ 60) :
    prS 100 (arrowN a b) = (if (headNd a).k = 5 then 40 :: (prS 100 a ++ [41]) else prS 100 a) ++ ([32, 45, 62, 32] ++ prS 100 b) := by
  have f1 : prS 99 a = prS 100 a := by
    have := (treeP_fuel 100 60 0 a.length ha.tree).2 (by omega)
    have e1 := prS_fuel 60 99 0 a.length (by omega) this
    have e2 := prS_fuel 60 100 0 a.length (by omega) this
    exact e1.trans e2.symm
  have f2 : prS 99 b = prS 100 b := by
    have := (treeP_fuel 100 60 0 b.length hb.tree).2 (by omega)
    have e1 := prS_fuel 60 99 0 b.length (by omega) this
    have e2 := prS_fuel 60 100 0 b.length (by omega) this
    exact e1.trans e2.symm
  have hh : headNd (a ++ b) = headNd a := by
    obtain ⟨x, xs, rfl, _⟩ := ha.root
    rfl
  have e : prS 100 (arrowN a b) = (if (headNd (a ++ b)).k = 5 then 40 :: (prS 99 (a ++ b) ++ [41]) else prS 99 (a ++ b)) ++ ([32, 45, 62, 32] ++ prS 99 (rest1 (a ++ b))) := by
    show prS (99 + 1) (⟨5, ByteArray.empty, 0⟩ :: (a ++ b)) = _
    simp only [prS, if_true]
  rw [e, hh, rest1_fo ha.fo, prS_rest 99 a b ha.fo, f1, f2]

theorem arrow_plain : plainB (arrowN a b) = (plainB a && plainB b) := by
  unfold plainB arrowN
  rw [List.all_cons, List.all_append]
  rfl

theorem arrow_static : staticB (arrowN a b) = (staticB a && staticB b) := by
  unfold staticB arrowN
  rw [List.all_cons, List.all_append]
  rfl
end

theorem bytes_join {x : List UInt8} {s : ByteArray} (h : x = s.data.toList) : (⟨x.toArray⟩ : ByteArray) = s := by
  rw [h]

theorem OwnL.le_cap {α : Type} {e size : Nat} {enc : α → List Value} {w : World} {base : Nat} {A : Option Addr} {cap : Nat} {l : List α} (h : OwnL e size enc w base A cap l) : l.length ≤ cap := by
  rcases h.2 with ⟨hv, hn⟩ | ⟨g, cap', cur, hv, _, _, hnc, _⟩
  · rw [hn]; exact Nat.zero_le _
  · injection hv with _ _ hc
    rw [hc]
    exact hnc
end Go.Proofs.YtblfeokjlecgkaaGreat
