/- Fresh variables, in plain lists. -/
import Derived.Test.YtblfeokjlecgkaaGreatPutP
import Derived.Test.YtblfeokjlecgkaaGreatFew
namespace Go.Proofs.YtblfeokjlecgkaaGreat

/-- Each ? a fresh Var. -/
def freshL : Int → List Nd → List Nd
  | _, [] => []
  | n, x :: xs => if x.k = 0 then ⟨8, x.s, n⟩ :: freshL (n + 1) xs else x :: freshL n xs

/-- How many ?s. -/
def dynN : List Nd → Nat
  | [] => 0
  | x :: xs => (if x.k = 0 then 1 else 0) + dynN xs

theorem dynN_cons (x : Nd) (xs : List Nd) : dynN (x :: xs) = (if x.k = 0 then 1 else 0) + dynN xs := rfl
theorem freshL_cons (n : Int) (x : Nd) (xs : List Nd) : freshL n (x :: xs) = if x.k = 0 then ⟨8, x.s, n⟩ :: freshL (n + 1) xs else x :: freshL n xs := rfl

theorem freshL_len : ∀ (n : Int) (xs : List Nd), (freshL n xs).length = xs.length
  | _, [] => rfl
  | n, x :: xs => by
    unfold freshL
    split <;> simp [freshL_len]

theorem dynN_le : ∀ xs : List Nd, dynN xs ≤ xs.length
  | [] => Nat.le_refl _
  | x :: xs => by
    have := dynN_le xs
    unfold dynN
    split <;> simp <;> omega

theorem dynN_append : ∀ (a b : List Nd), dynN (a ++ b) = dynN a + dynN b
  | [], b => by simp [dynN]
  | x :: a, b => by
    rw [List.cons_append, dynN_cons, dynN_cons, dynN_append a b]
    omega

theorem dynN_step {xs : List Nd} {i : Nat} {x : Nd} (h : xs[i]? = some x) : dynN (xs.take (i + 1)) = dynN (xs.take i) + if x.k = 0 then 1 else 0 := by
  rw [List.take_add_one, h, dynN_append]
  simp [dynN]

theorem freshL_get : ∀ (n : Int) (xs : List Nd) (i : Nat) (x : Nd), xs[i]? = some x → (freshL n xs)[i]? = some (if x.k = 0 then ⟨8, x.s, n + (dynN (xs.take i) : Nat)⟩ else x)
  | _, [], i, x, h => by simp at h
  | n, y :: ys, 0, x, h => by
    simp at h
    subst h
    unfold freshL
    split <;> simp [dynN]
  | n, y :: ys, i + 1, x, h => by
    simp only [List.getElem?_cons_succ] at h
    rw [freshL_cons]
    by_cases hy : y.k = 0
    · rw [if_pos hy, List.getElem?_cons_succ, freshL_get (n + 1) ys i x h, List.take_succ_cons, dynN_cons, if_pos hy]
      have e : n + 1 + (dynN (ys.take i) : Nat) = n + ((1 + dynN (ys.take i) : Nat) : Int) := by push_cast; omega
      rw [e]
    · rw [if_neg hy, List.getElem?_cons_succ, freshL_get n ys i x h, List.take_succ_cons, dynN_cons, if_neg hy, Nat.zero_add]

/-- The first so many nodes made fresh. -/
def freshTo (n : Int) (xs : List Nd) (i : Nat) : List Nd := freshL n (xs.take i) ++ xs.drop i

theorem freshL_append : ∀ (n : Int) (a b : List Nd), freshL n (a ++ b) = freshL n a ++ freshL (n + (dynN a : Nat)) b
  | n, [], b => by simp [freshL, dynN]
  | n, x :: a, b => by
    rw [List.cons_append, freshL_cons, freshL_cons, dynN_cons]
    by_cases hx : x.k = 0
    · have e : n + 1 + (dynN a : Nat) = n + ((1 + dynN a : Nat) : Int) := by push_cast; omega
      rw [if_pos hx, if_pos hx, if_pos hx, freshL_append (n + 1) a b, List.cons_append, e]
    · rw [if_neg hx, if_neg hx, if_neg hx, freshL_append n a b, List.cons_append, Nat.zero_add]

theorem freshTo_zero (n : Int) (xs : List Nd) : freshTo n xs 0 = xs := by simp [freshTo, freshL]
theorem freshTo_end (n : Int) (xs : List Nd) : freshTo n xs xs.length = freshL n xs := by simp [freshTo]
theorem freshTo_len (n : Int) (xs : List Nd) (i : Nat) : (freshTo n xs i).length = xs.length := by
  unfold freshTo
  rw [List.length_append, freshL_len, ← List.length_append, List.take_append_drop]

theorem freshTo_at {n : Int} {xs : List Nd} {i : Nat} {x : Nd} (h : xs[i]? = some x) : (freshTo n xs i)[i]? = some x := by
  have hi := getq_lt h
  unfold freshTo
  have hl : (freshL n (xs.take i)).length = i := by rw [freshL_len, List.length_take]; omega
  rw [List.getElem?_append_right (by omega), hl, Nat.sub_self, List.getElem?_drop]
  simpa using h

theorem freshTo_step {n : Int} {xs : List Nd} {i : Nat} {x : Nd} (h : xs[i]? = some x) : freshTo n xs (i + 1) = (freshTo n xs i).set i (if x.k = 0 then ⟨8, x.s, n + (dynN (xs.take i) : Nat)⟩ else x) := by
  have hi := getq_lt h
  have hl : (freshL n (xs.take i)).length = i := by rw [freshL_len, List.length_take]; omega
  unfold freshTo
  rw [List.take_add_one, h, freshL_append, List.set_append_right _ _ (by omega), hl, Nat.sub_self, drop_cons h, List.append_assoc]
  congr 1
  by_cases hx : x.k = 0
  · simp [freshL, hx]
  · simp [freshL, hx]

/-- Alike but for ?s that became Vars. -/
inductive LikeF : List Nd → List Nd → Prop
  | nil : LikeF [] []
  | cons {y z : Nd} {ys zs : List Nd} (h : z.s = y.s ∧ (z = y ∨ (y.k = 0 ∧ z.k = 8 ∧ 0 ≤ z.n))) (h2 : LikeF ys zs) : LikeF (y :: ys) (z :: zs)

theorem likeF_fresh : ∀ (n : Int) (xs : List Nd), 0 ≤ n → LikeF xs (freshL n xs)
  | _, [], _ => .nil
  | n, x :: xs, h => by
    unfold freshL
    split
    · next hx => exact .cons ⟨rfl, .inr ⟨hx, rfl, h⟩⟩ (likeF_fresh (n + 1) xs (by omega))
    · exact .cons ⟨rfl, .inl rfl⟩ (likeF_fresh n xs h)

theorem LikeF.split : ∀ (a b zs : List Nd), LikeF (a ++ b) zs → ∃ a' b', zs = a' ++ b' ∧ LikeF a a' ∧ LikeF b b'
  | [], b, zs, h => ⟨[], zs, rfl, .nil, h⟩
  | y :: a, b, _, .cons (z := z) h h2 => by
    obtain ⟨a', b', rfl, h3, h4⟩ := LikeF.split a b _ h2
    exact ⟨z :: a', b', rfl, .cons h h3, h4⟩

theorem LikeF.len {a b : List Nd} (h : LikeF a b) : a.length = b.length := by
  induction h with
  | nil => rfl
  | cons _ _ ih => simp [ih]

theorem RtF.like {f : Nat} {x : Nd} {k : Int} {last : ByteArray} {d : Nat} {ks : List Nd} (h : RtF f x k last d ks) : ∀ ks', LikeF ks ks' → RtF f x k last d ks' := by
  induction h with
  | nil =>
    intro ks' h
    cases h
    exact .nil _ _ _ _
  | @cons f x k last d y ks rs ho hc h1 h2 i1 i2 =>
    intro ks' h
    cases h with
    | @cons _ z _ zs hz hr =>
      obtain ⟨a, b, rfl, ha, hb⟩ := LikeF.split _ _ _ hr
      obtain ⟨hs, hz⟩ := hz
      have hb2 := i2 b hb
      rw [← hs] at hb2
      rcases hz with rfl | ⟨y0, z8, zn⟩
      · exact .cons ho hc (i1 a ha) hb2
      · have hm : manyN y = 0 := by unfold manyN many; simp [y0, isRowB]
        have hmz : manyN z = 0 := by unfold manyN many; simp [z8, isRowB]
        rw [hm] at h1
        have := h1.zero
        subst this
        cases ha
        refine .cons ?_ ?_ ?_ hb2
        · unfold okNode; simp [z8, zn]
        · unfold childOk at hc ⊢
          rw [if_neg (by omega)] at hc ⊢
          rw [hs]
          exact hc
        · rw [hmz]
          exact .nil _ _ _ _

theorem IsR.like {T : List Nd} {y : Nd} {ks : List Nd} (h : IsR T y ks) {T' : List Nd} (hl : LikeF T T') : rightB T' = true := by
  have hlen := hl.len
  rw [h.eq] at hl
  cases hl with
  | @cons _ z _ zs hz hr =>
    obtain ⟨hs, hz⟩ := hz
    have hk := h.k
    have h100 := h.len
    rcases hz with rfl | ⟨y0, z8, zn⟩
    · exact (show IsR (z :: zs) z zs from ⟨rfl, by omega, h.s, hk, h.ok, h.rt.like _ hr⟩).right
    · have hm : manyN y = 0 := by unfold manyN many; simp [y0, isRowB]
      have hmz : manyN z = 0 := by unfold manyN many; simp [z8, isRowB]
      have h1 := h.rt
      rw [hm] at h1
      have := h1.zero
      subst this
      cases hr
      refine (show IsR [z] z [] from ⟨rfl, by simp, by rw [hs]; exact h.s, by omega, ?_, ?_⟩).right
      · unfold okNode; simp [z8, zn]
      · rw [hmz]; exact .nil _ _ _ _

theorem fresh_static : ∀ (n : Int) (xs : List Nd), staticB (freshL n xs) = true
  | _, [] => rfl
  | n, x :: xs => by
    have h1 := fresh_static (n + 1) xs
    have h2 := fresh_static n xs
    unfold staticB at *
    unfold freshL
    split
    · simp only [List.all_cons, h1]; decide
    · next hx => simp only [List.all_cons, h2]; simp [hx]

theorem dynN_static : ∀ xs : List Nd, staticB xs = decide (dynN xs = 0)
  | [] => rfl
  | x :: xs => by
    have := dynN_static xs
    unfold staticB at *
    unfold dynN
    rw [List.all_cons, this]
    by_cases hx : x.k = 0 <;> simp [hx]
end Go.Proofs.YtblfeokjlecgkaaGreat

/- term.Fresh, walked. -/
namespace Go.Proofs.YtblfeokjlecgkaaGreat
open Go.RowKit

theorem flatMap_setK (v : Int) (x : Nd) : ∀ (l : List Nd) (j : Nat), l[j]? = some x → (l.set j ⟨v, x.s, x.n⟩).flatMap encN = (l.flatMap encN).set (j * 3) (.int .i64 v)
  | [], j, h => by simp at h
  | y :: l, 0, h => by
    simp at h
    subst h
    rw [List.set_cons_zero, List.flatMap_cons, List.flatMap_cons]
    rfl
  | y :: l, j + 1, h => by
    rw [List.getElem?_cons_succ] at h
    rw [List.set_cons_succ, List.flatMap_cons, List.flatMap_cons, flatMap_setK v x l j h, List.set_append_right _ _ (by rw [encN_len]; omega), encN_len, show (j + 1) * 3 - 3 = j * 3 by omega]

theorem OwnL.setK {w : World} {base : Nat} {A : Option Addr} {cap : Nat} {l : List Nd} (h : OwnN w base A cap l) {j : Nat} {x : Nd} (hx : l[j]? = some x) (v : Int) :
    ∃ g, A = some ⟨g, 0, none⟩ ∧ base ≤ g ∧ g < w.heap.size ∧ w.cell? ⟨g, j * 3, none⟩ = some (.int .i64 x.k) ∧ w.frozen? ⟨g, j * 3, none⟩ = false ∧
      OwnN (w.setCell ⟨g, j * 3, none⟩ (.int .i64 v)) base A cap (l.set j ⟨v, x.s, x.n⟩) ∧ w.grownBy (w.setCell ⟨g, j * 3, none⟩ (.int .i64 v)) (some g) := by
  obtain ⟨b, o, hA, hb, c0, c1, c2⟩ := (OwnL.tyA h).at_ hx
  have hc := c0
  have h' : w.ownsRow base 39 3 (.slice A l.length cap) l.length (l.flatMap encN) := h
  rcases h'.2 with ⟨hv, hn⟩ | ⟨g, cap', cur, hv, hbg, hg, hnc, hcm, hcs, htake⟩
  · injection hv with hA' hl hc'
    rw [hA'] at hA
    cases hA
  · injection hv with hA' hl hc'
    subst hA'
    injection hA with hA
    injection hA with hA1 hA2 hA3
    subst hA1
    rw [← hA2, Nat.zero_add] at hc
    obtain ⟨h2, h3⟩ := World.ownsRow.stored h' (j * 3) (.int .i64 v)
    refine ⟨g, rfl, hbg, hb, hc, World.ownsRow.frozenAt h' _, ?_, h3⟩
    show (w.setCell ⟨g, j * 3, none⟩ (.int .i64 v)).ownsRow base 39 3 (.slice (some ⟨g, 0, none⟩) (l.set j ⟨v, x.s, x.n⟩).length cap) (l.set j ⟨v, x.s, x.n⟩).length ((l.set j ⟨v, x.s, x.n⟩).flatMap encN)
    rw [List.length_set, flatMap_setK v x l j hx]
    exact h2

theorem flatMap_setM (v : Int) (x : Nd) : ∀ (l : List Nd) (j : Nat), l[j]? = some x → (l.set j ⟨x.k, x.s, v⟩).flatMap encN = (l.flatMap encN).set (j * 3 + 2) (.int .i64 v)
  | [], j, h => by simp at h
  | y :: l, 0, h => by
    simp at h
    subst h
    rw [List.set_cons_zero, List.flatMap_cons, List.flatMap_cons]
    rfl
  | y :: l, j + 1, h => by
    rw [List.getElem?_cons_succ] at h
    rw [List.set_cons_succ, List.flatMap_cons, List.flatMap_cons, flatMap_setM v x l j h, List.set_append_right _ _ (by rw [encN_len]; omega), encN_len, show (j + 1) * 3 + 2 - 3 = j * 3 + 2 by omega]

theorem OwnL.setM {w : World} {base : Nat} {A : Option Addr} {cap : Nat} {l : List Nd} (h : OwnN w base A cap l) {j : Nat} {x : Nd} (hx : l[j]? = some x) (v : Int) :
    ∃ g, A = some ⟨g, 0, none⟩ ∧ base ≤ g ∧ g < w.heap.size ∧ w.cell? ⟨g, j * 3 + 2, none⟩ = some (.int .i64 x.n) ∧ w.frozen? ⟨g, j * 3 + 2, none⟩ = false ∧
      OwnN (w.setCell ⟨g, j * 3 + 2, none⟩ (.int .i64 v)) base A cap (l.set j ⟨x.k, x.s, v⟩) ∧ w.grownBy (w.setCell ⟨g, j * 3 + 2, none⟩ (.int .i64 v)) (some g) := by
  obtain ⟨b, o, hA, hb, c0, c1, c2⟩ := (OwnL.tyA h).at_ hx
  have hc := c2
  have h' : w.ownsRow base 39 3 (.slice A l.length cap) l.length (l.flatMap encN) := h
  rcases h'.2 with ⟨hv, hn⟩ | ⟨g, cap', cur, hv, hbg, hg, hnc, hcm, hcs, htake⟩
  · injection hv with hA' hl hc'
    rw [hA'] at hA
    cases hA
  · injection hv with hA' hl hc'
    subst hA'
    injection hA with hA
    injection hA with hA1 hA2 hA3
    subst hA1
    rw [← hA2, Nat.zero_add] at hc
    obtain ⟨h2, h3⟩ := World.ownsRow.stored h' (j * 3 + 2) (.int .i64 v)
    refine ⟨g, rfl, hbg, hb, hc, World.ownsRow.frozenAt h' _, ?_, h3⟩
    show (w.setCell ⟨g, j * 3 + 2, none⟩ (.int .i64 v)).ownsRow base 39 3 (.slice (some ⟨g, 0, none⟩) (l.set j ⟨x.k, x.s, v⟩).length cap) (l.set j ⟨x.k, x.s, v⟩).length ((l.set j ⟨x.k, x.s, v⟩).flatMap encN)
    rw [List.length_set, flatMap_setM v x l j hx]
    exact h2

theorem set_self {α : Type} {l : List α} {k : Nat} {x : α} (h : l[k]? = some x) : l.set k x = l := by
  refine List.ext_getElem? fun i => ?_
  rw [List.getElem?_set]
  split
  · next e =>
    subst e
    rw [if_pos (getq_lt h), h]
  · rfl

/-- A node's kind and number stored, behind a new block. -/
theorem OwnL.setKM {w : World} {base : Nat} {A : Option Addr} {cap : Nat} {l : List Nd} (h : OwnN w base A cap l) {j : Nat} {x : Nd} (hx : l[j]? = some x) (k n : Int) (ob : Obj) (w0 : World) (hb : Below w0.heap.size w0 w) (hbase : w0.heap.size ≤ base) :
    ∃ g, A = some ⟨g, 0, none⟩ ∧ base ≤ g ∧ g < w.heap.size ∧ w.cell? ⟨g, j * 3, none⟩ = some (.int .i64 x.k) ∧ w.frozen? ⟨g, j * 3, none⟩ = false ∧ w.cell? ⟨g, j * 3 + 2, none⟩ = some (.int .i64 x.n) ∧ w.frozen? ⟨g, j * 3 + 2, none⟩ = false ∧
      Hid (OwnN (((w.setCell ⟨g, j * 3, none⟩ (.int .i64 k)).setCell ⟨g, j * 3 + 2, none⟩ (.int .i64 n)).alloc ob) base A cap (l.set j ⟨k, x.s, n⟩) ∧ Below w0.heap.size w0 (((w.setCell ⟨g, j * 3, none⟩ (.int .i64 k)).setCell ⟨g, j * 3 + 2, none⟩ (.int .i64 n)).alloc ob)) := by
  obtain ⟨g, rfl, hbg, hg, ck, fk, _, _⟩ := OwnL.setK h hx k
  obtain ⟨g2, e2, _, _, cm, fm, _, _⟩ := OwnL.setM h hx n
  injection e2 with e2
  injection e2 with e2 _ _
  subst e2
  refine ⟨g, rfl, hbg, hg, ck, fk, cm, fm, ?_⟩
  obtain ⟨g3, e3, _, _, _, _, h3, _⟩ := OwnL.setK h hx k
  injection e3 with e3
  injection e3 with e3 _ _
  subst e3
  have hx2 : (l.set j ⟨k, x.s, x.n⟩)[j]? = some ⟨k, x.s, x.n⟩ := by rw [List.getElem?_set_self (getq_lt hx)]
  obtain ⟨g4, e4, _, _, _, _, h4, _⟩ := OwnL.setM h3 hx2 n
  injection e4 with e4
  injection e4 with e4 _ _
  subst e4
  rw [List.set_set] at h4
  exact Lib.hid ⟨OwnL.alloc h4 ob, ext_alloc (ext_set (ext_set hb (by show w0.heap.size ≤ g; omega) _) (by show w0.heap.size ≤ g; omega) _) ob⟩

/-- A slice and a number. -/
def RetN2 (w : World) (xs : List Nd) (n : Int) (e : Ending) (w' : World) : Prop := ∃ A' cap', e = .returned (.tuple #[.slice A' xs.length cap', .int .i64 n]) ∧ OwnN w' w.heap.size A' cap' xs ∧ Below w.heap.size w w'

set_option maxRecDepth 100000 in
set_option maxHeartbeats 4000000 in
theorem fresh_any (A : Option Addr) (c : Nat) (xs : List Nd) (n : Int) (w : World) (ha : TyA w w.heap.size A xs) (hne : xs ≠ []) (hl : xs.length ≤ 1000000) (hn0 : 0 ≤ n) (hn1 : n ≤ 1000000) :
    Calls Tryz.prog 6 #[.slice A xs.length c, .int .i64 n] w (RetN2 w (freshL n xs) (n + (dynN xs : Nat))) := by
  have hcl := Lib.hid (clone_any A c xs w ha hne hl)
  have Ha := Lib.hid ha
  clear ha hne
  go_enter Tryz.func6, Tryz.ntmps6
  go_wp2_with fail
  refine hcl.out.mono ?_
  rintro e w1 ⟨A1, c1, rfl, hown, hb⟩
  have M := Lib.hid (And.intro hown hb)
  clear hcl hown hb
  go_wp2_with fail
  go_loopw [1, 13] (fun s1 s13 wr => ∃ k d : Nat, s1 = .int .i64 (n + d) ∧ s13 = .int .i64 k ∧ k ≤ xs.length ∧ d ≤ 1000000 ∧ Hid (d = dynN (xs.take k)) ∧ Hid (OwnN wr w.heap.size A1 c1 (freshTo n xs k) ∧ Below w.heap.size w wr))
    (fun _ s13 _ => xs.length - (intOf s13).toNat)
  case atStart => exact ⟨0, 0, by simp, rfl, Nat.zero_le _, by omega, Lib.hid (by simp [dynN]), Lib.hid ⟨by rw [freshTo_zero]; exact M.out.1, M.out.2⟩⟩
  case round =>
    clear M
    obtain ⟨k, d, rfl, rfl, hk, hd6, hd, M⟩ := hrel
    by_cases hp : k < xs.length
    · obtain ⟨x, hx⟩ := getq_ex hp
      obtain ⟨b1, o1, hA, hb1, c10, c11, c12⟩ := ((Ha.out.below M.out.2).more M.out.2.size).at_ hx
      subst hA
      have Hx := Lib.hid hx
      have hfl := Lib.hid (freshTo_len n xs k)
      clear hx
      cases h0 : (x.k == 0)
      · have H0 := Lib.hid h0
        go_wp2_with fail
        go_roundw
        case rel => exact ⟨k + 1, d, rfl, by go_num, hp, hd6, Lib.hid (by
          rw [hd.out, dynN_step Hx.out, if_neg (by simpa using H0.out)]; rfl), Lib.hid ⟨by
          rw [freshTo_step Hx.out, if_neg (by simpa using H0.out), set_self (freshTo_at Hx.out)]
          exact OwnL.alloc M.out.1 _, ext_alloc M.out.2 _⟩⟩
        case measure => simp [intOf]; omega
      · have H0 := Lib.hid h0
        obtain ⟨g, rfl, hbg, hg, ck, fk, cm, fm, M2⟩ := OwnL.setKM M.out.1 (freshTo_at (n := n) Hx.out) 8 (n + d) (.cells #[.int .i64 x.k, .string x.s, .int .i64 x.n] 39) w M.out.2 (Nat.le_refl _)
        have hdx : d ≤ k := by
          have := dynN_le (xs.take k)
          rw [List.length_take] at this
          have := hd.out
          omega
        go_wp2_with fail
        go_roundw
        case rel => exact ⟨k + 1, d + 1, by go_num, by go_num, hp, by omega, Lib.hid (by
          rw [hd.out, dynN_step Hx.out, if_pos (by simpa using H0.out)]), Lib.hid ⟨by
          rw [freshTo_step Hx.out, if_pos (by simpa using H0.out), ← hd.out]
          exact M2.out.1, M2.out.2⟩⟩
        case measure => simp [intOf]; omega
    · have hkk : k = xs.length := by omega
      subst hkk
      go_wp2_with fail
      go_ret2
      have e := freshTo_end n xs
      refine ⟨A1, c1, ?_, ?_, M.out.2⟩
      · rw [freshL_len, hd.out, List.take_length]
        rfl
      · rw [← e]; exact M.out.1
end Go.Proofs.YtblfeokjlecgkaaGreat
