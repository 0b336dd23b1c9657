/- What stands while a law is walked: one fact, carried over each call. -/
import Derived.Test.YtblfeokjlecgkaaGreatPureA
namespace Go.Proofs.YtblfeokjlecgkaaGreat
open Go.RowKit

/-- What stands wherever all that was there stands. -/
def Keep (P : World → Prop) : Prop := ∀ w w' : World, P w → Below w.heap.size w w' → P w'

theorem Keep.and {P Q : World → Prop} (h : Keep P) (k : Keep Q) : Keep fun w => P w ∧ Q w := fun w w' hp hb => ⟨h w w' hp.1 hb, k w w' hp.2 hb⟩
theorem keep_ty (A : Option Addr) (xs : List Nd) : Keep fun w => TyA w w.heap.size A xs := fun _ _ h hb => (h.below hb).more hb.size
theorem keep_read {α : Type} (size : Nat) (enc : α → List Value) (A : Option Addr) (l : List α) : Keep fun w => ReadL size enc w w.heap.size A l := fun _ _ h hb => (h.below hb).more hb.size
theorem keep_own {α : Type} (e size : Nat) (enc : α → List Value) (base : Nat) (A : Option Addr) (cap : Nat) (l : List α) : Keep fun w => OwnL e size enc w base A cap l := fun _ _ h hb => OwnL.below h hb (Nat.le_refl _)

/-- The call began in w0; what stands now. -/
structure Mem (w0 : World) (P : World → Prop) (w : World) : Prop where
  ext : Below w0.heap.size w0 w
  p : P w
  keep : Keep P

theorem Mem.start {P : World → Prop} {w : World} (h : P w) (k : Keep P) : Mem w P w := ⟨Below.refl _ _, h, k⟩
theorem Mem.step {w0 w w' : World} {P : World → Prop} (h : Mem w0 P w) (hb : Below w.heap.size w w') : Mem w0 P w' := ⟨ext_trans h.ext hb, h.keep _ _ h.p hb, h.keep⟩
theorem Mem.drewN {w0 w : World} {P : World → Prop} (h : Mem w0 P w) (n : Nat) : Mem w0 P (w.drewN n) := h.step (ext_drewN (Below.refl _ _) n)
theorem Mem.add {w0 w : World} {P Q : World → Prop} (h : Mem w0 P w) (q : Q w) (k : Keep Q) : Mem w0 (fun v => P v ∧ Q v) w := ⟨h.ext, ⟨h.p, q⟩, h.keep.and k⟩
theorem Mem.drop {w0 w : World} {P Q : World → Prop} (h : Mem w0 P w) (f : ∀ v, P v → Q v) (k : Keep Q) : Mem w0 Q w := ⟨h.ext, f _ h.p, k⟩

theorem cost_le {xs : List Nd} (h : ∀ x ∈ xs, x.s.size ≤ 200) : cost xs ≤ 232 * xs.length := by
  induction xs with
  | nil => simp [cost_nil]
  | cons x xs ih =>
    have h1 := h x (by simp)
    have h2 := ih fun y hy => h y (by simp [hy])
    rw [cost_cons, List.length_cons]
    omega

theorem named_parts {xs : List Nd} (h : namedB xs = true) : xs.length ≤ 200 ∧ ∀ x ∈ xs, x.s.size ≤ 200 := by
  unfold namedB at h
  simp only [Bool.and_eq_true, decide_eq_true_eq, List.all_eq_true] at h
  exact h

/-- A type's text is short. -/
theorem IsT.short {T : List Nd} (h : IsT T) (hn : ∀ x ∈ T, x.s.size ≤ 200) (hl : T.length ≤ 200) (hok : ∀ x ∈ T, x.Ok) : (prS 100 T).length ≤ 46400 := by
  have h1 := prS_len 100 T [] h.fo h.ok (fun x hx => (hok x hx).n1)
  rw [List.append_nil] at h1
  have h2 := cost_le hn
  omega

/-- A type that may be asked about: its text, as bytes. -/
theorem text_of {T : List Nd} (h : rRightB T = true) (hn : namedB T = true) (hok : ∀ x ∈ T, x.Ok) :
    IsT T ∧ T.length ≤ 200 ∧ (∀ x ∈ T, x.s.size ≤ 200) ∧ ∃ s : ByteArray, s = ⟨(prS 100 T).toArray⟩ ∧ s.size ≤ 46400 := by
  have hi := isT_of (by rw [← right_eq]; exact h : rightB T = true)
  obtain ⟨l2, n2⟩ := named_parts hn
  refine ⟨hi, l2, n2, _, rfl, ?_⟩
  have := hi.short n2 l2 hok
  simpa [ByteArray.size] using this

theorem bytes_inj {a b : List UInt8} : (⟨a.toArray⟩ : ByteArray) = ⟨b.toArray⟩ ↔ a = b := by
  constructor
  · intro h
    injection h with h
    simpa using h
  · rintro rfl; rfl
end Go.Proofs.YtblfeokjlecgkaaGreat
