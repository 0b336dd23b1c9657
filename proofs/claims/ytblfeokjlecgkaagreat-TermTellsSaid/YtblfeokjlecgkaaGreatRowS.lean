/- Rows of types, as they lie; what may be asked of few types; the canon's numbers are ints. -/
import Derived.Test.YtblfeokjlecgkaaGreatCanonW
import Derived.Test.YtblfeokjlecgkaaGreatMem
namespace Go.Proofs.YtblfeokjlecgkaaGreat
open Go.RowKit

theorem Sls.moreB {w w' : World} {vs : List (Option Addr × Nat × Nat)} {tss : List (List Nd)} {B : Nat} (h : Sls w B vs tss) (hb : Below B w w') (hB : B ≤ w'.heap.size) : Sls w' w'.heap.size vs tss := ⟨h.1, fun i v xs hv hx => ⟨(h.2 i v xs hv hx).1, ((h.2 i v xs hv hx).2.below hb).more hB⟩⟩

theorem keep_sls (vs : List (Option Addr × Nat × Nat)) (tss : List (List Nd)) : Keep fun w => Sls w w.heap.size vs tss := fun _ _ h hb => h.moreB hb hb.size

/-- A row of types, as it lies. -/
def RowS (V : Option Addr) (vs : List (Option Addr × Nat × Nat)) (tss : List (List Nd)) (w : World) : Prop := ReadS w w.heap.size V vs ∧ Sls w w.heap.size vs tss
theorem keep_rowS (V : Option Addr) (vs : List (Option Addr × Nat × Nat)) (tss : List (List Nd)) : Keep (RowS V vs tss) := (keep_read _ _ _ _).and (keep_sls _ _)

theorem fews_parts {xss : List (List Nd)} (h : fewsB xss = true) : xss.length ≤ 10 ∧ ∀ xs ∈ xss, xs.length ≤ 60 ∧ xs ≠ [] := by
  unfold fewsB at h
  simp only [Bool.and_eq_true, decide_eq_true_eq, List.all_eq_true] at h
  refine ⟨h.1, fun xs hx => ?_⟩
  have h2 := h.2 xs hx
  unfold few60 at h2
  obtain ⟨h1, _, h3⟩ := fewB_parts h2
  have h4 : rightB xs = true := by rw [← right_eq]; exact h3
  exact ⟨by omega, (isT_of h4).ne⟩

theorem rowS_get {b o k n : Nat} {vs : List (Option Addr × Nat × Nat)} {tss : List (List Nd)} {w : World} {A : Option Addr} {m c : Nat} {xs : List Nd} (h : RowS (some ⟨b, o, none⟩) vs tss w) (hv : vs[k]? = some (A, m, c)) (hx : tss[k]? = some xs) (hn : xs.length = n) : b < w.heap.size ∧ w.cell? ⟨b, o + k, none⟩ = some (.slice A n c) ∧ TyA w w.heap.size A xs := by
  obtain ⟨b2, o2, hA, hb, hc⟩ := ReadL.slice h.1 hv
  injection hA with hA
  injection hA with e1 e2 _
  subst e1 e2
  obtain ⟨h1, h2⟩ := h.2.2 k _ xs hv hx
  refine ⟨hb, ?_, h2⟩
  rw [hc, ← hn, ← h1]

def I64 (n : Int) : Prop := -9223372036854775808 ≤ n ∧ n ≤ 9223372036854775807

theorem canL_ok : ∀ (had : List Int) (xs : List Nd), (∀ x ∈ xs, I64 x.n) → had.length + xs.length ≤ 1000000 → ∀ y ∈ canL had xs, I64 y.n
  | _, [], _, _, y, hy => by simp [canL] at hy
  | had, x :: xs, h, hl, y, hy => by
    have h1 := seen_len had x
    simp only [List.length_cons] at hl
    rcases List.mem_cons.1 hy with rfl | hy
    · cases hv : isVarB x.k
      · rw [(can_no hv).1]; exact h x (by simp)
      · have hn := can_next (had := had) hv
        unfold I64
        omega
    · exact canL_ok (seen had x) xs (fun z hz => h z (by simp [hz])) (by split at h1 <;> omega) y hy

theorem canT_ok {m : Nat} : ∀ (had : List Int) (l : List (List Nd)), (∀ xs ∈ l, xs.length ≤ m ∧ ∀ x ∈ xs, I64 x.n) → had.length + l.length * m ≤ 1000000 → ∀ t ∈ canT had l, ∀ y ∈ t, I64 y.n
  | _, [], _, _, t, ht => by simp [canT] at ht
  | had, x :: l, h, hl, t, ht => by
    obtain ⟨h1, h2⟩ := h x (by simp)
    have h3 := seenL_le had x
    simp only [List.length_cons, Nat.succ_mul] at hl
    rcases List.mem_cons.1 ht with rfl | ht
    · exact canL_ok had x h2 (by omega)
    · exact canT_ok (seenL had x) l (fun z hz => h z (by simp [hz])) (by omega) t ht

theorem canT_lens {m : Nat} {l : List (List Nd)} (h : ∀ xs ∈ l, xs.length ≤ m ∧ xs ≠ []) : ∀ had, ∀ t ∈ canT had l, t.length ≤ m ∧ t ≠ [] := by
  induction l with
  | nil => intro had t ht; simp [canT] at ht
  | cons x l ih =>
    intro had t ht
    rcases List.mem_cons.1 ht with rfl | ht
    · obtain ⟨h1, h2⟩ := h x (by simp)
      refine ⟨by rw [canL_len]; exact h1, fun e => h2 ?_⟩
      have := congrArg List.length e
      rw [canL_len] at this
      exact List.eq_nil_of_length_eq_zero this
    · exact ih (fun z hz => h z (by simp [hz])) (seenL had x) t ht
end Go.Proofs.YtblfeokjlecgkaaGreat
