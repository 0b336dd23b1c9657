/- ty.Arrow, slices.Clone, ty.Part, and the document's. -/
import Derived.Test.YtblfeokjlecgkaaGreatConcat
import Derived.Test.YtblfeokjlecgkaaGreatKidsR
import Derived.Lib.SliceRun
namespace Go.Proofs.YtblfeokjlecgkaaGreat
open Go.RowKit

/-- A node under another label. -/
def Nd.name (x : Nd) (s : ByteArray) : Nd := ⟨x.k, s, x.n⟩

theorem flatMap_setN (s : ByteArray) (x : Nd) : ∀ (l : List Nd) (j : Nat), l[j]? = some x → (l.set j (x.name s)).flatMap encN = (l.flatMap encN).set (j * 3 + 1) (.string s)
  | [], j, h => by simp at h
  | y :: l, 0, h => by
    simp at h
    subst h
    rw [List.set_cons_zero, List.flatMap_cons, List.flatMap_cons]
    rfl
  | y :: l, j + 1, h => by
    rw [List.getElem?_cons_succ] at h
    rw [List.set_cons_succ, List.flatMap_cons, List.flatMap_cons, flatMap_setN s x l j h, List.set_append_right _ _ (by rw [encN_len]; omega), encN_len, show (j + 1) * 3 + 1 - 3 = j * 3 + 1 by omega]

/-- A store of a node's label. -/
theorem OwnL.setN {w : World} {base : Nat} {A : Option Addr} {cap : Nat} {l : List Nd} (h : OwnN w base A cap l) {j : Nat} {x : Nd} (hx : l[j]? = some x) (s : ByteArray) :
    ∃ g, A = some ⟨g, 0, none⟩ ∧ base ≤ g ∧ g < w.heap.size ∧ w.cell? ⟨g, j * 3 + 1, none⟩ = some (.string x.s) ∧ w.frozen? ⟨g, j * 3 + 1, none⟩ = false ∧
      OwnN (w.setCell ⟨g, j * 3 + 1, none⟩ (.string s)) base A cap (l.set j (x.name s)) ∧ w.grownBy (w.setCell ⟨g, j * 3 + 1, none⟩ (.string s)) (some g) := by
  obtain ⟨b, o, hA, hb, _, hc, _⟩ := (OwnL.tyA h).at_ hx
  have h' : w.ownsRow base 39 3 (.slice A l.length cap) l.length (l.flatMap encN) := h
  rcases h'.2 with ⟨hv, hn⟩ | ⟨g, cap', cur, hv, hbg, hg, hnc, hcm, hcs, htake⟩
  · injection hv with hA' hl hc'
    rw [hA'] at hA
    cases hA
  · injection hv with hA' hl hc'
    subst hA'
    injection hA with hA
    injection hA with hA1 hA2 hA3
    subst hA1
    rw [← hA2, Nat.zero_add] at hc
    obtain ⟨h2, h3⟩ := World.ownsRow.stored h' (j * 3 + 1) (.string s)
    refine ⟨g, rfl, hbg, hb, hc, World.ownsRow.frozenAt h' _, ?_, h3⟩
    show (w.setCell ⟨g, j * 3 + 1, none⟩ (.string s)).ownsRow base 39 3 (.slice (some ⟨g, 0, none⟩) (l.set j (x.name s)).length cap) (l.set j (x.name s)).length ((l.set j (x.name s)).flatMap encN)
    rw [List.length_set, flatMap_setN s x l j hx]
    exact h2

theorem TyA.part {w : World} {B b o : Nat} {T ts rest : List Nd} {i : Nat} (h : TyA w B (some ⟨b, o, none⟩) T) (hd : T.drop i = ts ++ rest) : TyA w B (some ⟨b, o + i * 3, none⟩) ts := fun hne => by
  have hT : T ≠ [] := by rintro rfl; simp at hd; exact hne hd.1
  obtain ⟨b', o', hA, hB, hr⟩ := h hT
  injection hA with hA
  injection hA with h1 h2 h3
  subst h1 h2
  have key : ∀ (j : Nat) (x : Nd), ts[j]? = some x → T[i + j]? = some x := fun j x hx => by
    rw [← List.getElem?_drop, hd, List.getElem?_append_left (getq_lt hx)]
    exact hx
  refine ⟨b, o + i * 3, rfl, hB, ⟨fun j x hx => ?_, fun j x hx => ?_, fun j x hx => ?_⟩⟩
  · have := hr.c0 (i + j) x (key j x hx); rw [show o + (i + j) * 3 = o + i * 3 + j * 3 by omega] at this; exact this
  · have := hr.c1 (i + j) x (key j x hx); rw [show o + (i + j) * 3 = o + i * 3 + j * 3 by omega] at this; exact this
  · have := hr.c2 (i + j) x (key j x hx); rw [show o + (i + j) * 3 = o + i * 3 + j * 3 by omega] at this; exact this

/-- What an answer of nodes is. -/
def RetN (w : World) (xs : List Nd) (e : Ending) (w' : World) : Prop := ∃ A' cap', e = .returned (.slice A' xs.length cap') ∧ OwnN w' w.heap.size A' cap' xs ∧ Below w.heap.size w w'

set_option maxRecDepth 100000 in
set_option maxHeartbeats 2000000 in
theorem clone_any (A : Option Addr) (c : Nat) (xs : List Nd) (w : World) (ha : TyA w w.heap.size A xs) (hne : xs ≠ []) (hl : xs.length ≤ 1000000) :
    Calls Tryz.prog 20 #[.slice A xs.length c] w (RetN w xs) := by
  obtain ⟨b, o, hA, _, _⟩ := ha hne
  subst hA
  have hown0 := own_empty 39 3 encN w
  have hb0 := ext_alloc (Below.refl w.heap.size w) (.cells #[] 39)
  clear hne
  go_enter Tryz.func20, Tryz.ntmps20
  go_wp2_with fail
  rw [Lib.run_eql_slice_nil _ _ _ _ _ _ _ _ Tryz.underlying23]
  go_wp2_with (at_builtin; refine wpList_appN rfl (.tmp 5) (.tmp 6) rfl w.heap.size (l := []) rfl hown0 (l2 := xs) rfl (ha.below hb0) (by simp; omega) (by simp) ?_; intro A2 cap2 w3 hown3 hg3 _)
  have hbel3 := ext_app hb0 hg3 (fun k hk => (OwnL.block hown0 k hk).1)
  go_wp2_with fail
  go_ret
  exact ⟨A2, cap2, by simp, by simpa using hown3, hbel3⟩

/-- A function's type, of two. -/
def arrowN (a b : List Nd) : List Nd := ⟨5, ByteArray.empty, 0⟩ :: (a ++ b)

theorem tyA_new (w : World) (x : Nd) : TyA (w.alloc (.cells #[.int .i64 x.k, .string x.s, .int .i64 x.n] 39)) (w.heap.size + 1) (some ⟨w.heap.size, 0, none⟩) [x] := by
  refine ReadL.tyA (fun _ => ⟨w.heap.size, 0, rfl, by omega, fun i y hy j u hu => ?_⟩)
  match i, hy with
  | 0, hy =>
    simp at hy
    subst hy
    match j, hu with
    | 0, hu => simp [encN] at hu; subst hu; simp
    | 1, hu => simp [encN] at hu; subst hu; simp
    | 2, hu => simp [encN] at hu; subst hu; simp
    | j + 3, hu => simp [encN] at hu
  | i + 1, hy => simp at hy

theorem readS_new3 (w : World) (v1 v2 v3 : Option Addr × Nat × Nat) : ReadS (w.alloc (.cells #[.slice v1.1 v1.2.1 v1.2.2, .slice v2.1 v2.2.1 v2.2.2, .slice v3.1 v3.2.1 v3.2.2] 23)) (w.heap.size + 1) (some ⟨w.heap.size, 0, none⟩) [v1, v2, v3] := fun _ => by
  refine ⟨w.heap.size, 0, rfl, by omega, fun i x hx j u hu => ?_⟩
  have hj : j = 0 := by
    have := getq_lt hu
    rw [encS_len] at this
    omega
  subst hj
  simp [encS] at hu
  subst hu
  match i, hx with
  | 0, hx => simp at hx; subst hx; simp
  | 1, hx => simp at hx; subst hx; simp
  | 2, hx => simp at hx; subst hx; simp
  | i + 3, hx => simp at hx

theorem own_one (w : World) (x : Nd) : OwnN (w.alloc (.cells #[.int .i64 x.k, .string x.s, .int .i64 x.n] 39)) w.heap.size (some ⟨w.heap.size, 0, none⟩) 1 [x] :=
  ⟨rfl, .inr ⟨w.heap.size, 1, _, rfl, Nat.le_refl _, heap_alloc_new w _, Nat.le_refl _, by simp [maxLen], rfl, rfl⟩⟩

end Go.Proofs.YtblfeokjlecgkaaGreat
