/- Laid together by a tool from the texts of this seat: Joined PutP Few Fresh CanonW UniD KMap UNode. Conditions: each theorem's own. -/
import Derived.Test.YtblfeokjlecgkaaT07
import Derived.ArgAppend
import Derived.Deep.RegionHeld
import Derived.Lib.BufferWrite
import Derived.Test.YtblfeokjlecgkaaT04
import Derived.Test.YtblfeokjlecgkaaT05
import Derived.Maps.OwnSet
import Derived.Test.YtblfeokjlecgkaaT01
import Derived.MapKept
import Derived.LaidEqlPtr
import Derived.Test.YtblfeokjlecgkaaT03
/- term.cut, term.joined, wrong.error. -/
namespace Go.Proofs.Ytblfeokjlecgkaa
open Go.RowKit

/-- Whether the last child is a tail. -/
def tailB (tss : List (List Nd)) : Bool := match tss.getLast? with
  | none => false
  | some t => (headNd t).k == 9

def tq (tss : List (List Nd)) (i : Nat) : List Nd := (tss[i]?).getD []

end Go.Proofs.Ytblfeokjlecgkaa

/- term.joined of no children at all. -/
namespace Go.Proofs.Ytblfeokjlecgkaa
open Go.RowKit

end Go.Proofs.Ytblfeokjlecgkaa

/- An append onto a slice of types that is full: all is copied. -/
namespace Go.Proofs.Ytblfeokjlecgkaa
open Go.RowKit

end Go.Proofs.Ytblfeokjlecgkaa

/- What Put's closures see of their boxes; the rows of a put, as data. -/
namespace Go.Proofs.Ytblfeokjlecgkaa
open Go.RowKit

/-- The boxes of Put: the number, what is put, the three flags. -/
structure PEnv (w : World) (n : Int) (U : Option Addr) (uc : Nat) (u : List Nd) (gn gb gu : Nat) (k t m : Bool) : Prop where
  cn : w.cell? ⟨gn, 0, none⟩ = some (.int .i64 n)
  cu : w.cell? ⟨gu, 0, none⟩ = some (.slice U u.length uc)
  b0 : w.cell? ⟨gb, 0, none⟩ = some (.bool k)
  b1 : w.cell? ⟨gb, 1, none⟩ = some (.bool t)
  b2 : w.cell? ⟨gb, 2, none⟩ = some (.bool m)
  f0 : w.frozen? ⟨gb, 0, none⟩ = false
  f1 : w.frozen? ⟨gb, 1, none⟩ = false
  f2 : w.frozen? ⟨gb, 2, none⟩ = false
  ln : gn < w.heap.size
  lb : gb < w.heap.size
  lu : gu < w.heap.size
  nb : gn ≠ gb
  ub : gu ≠ gb

theorem PEnv.below {w w' : World} {n : Int} {U : Option Addr} {uc : Nat} {u : List Nd} {gn gb gu : Nat} {k t m : Bool} (h : PEnv w n U uc u gn gb gu k t m) {B : Nat} (hb : Below B w w') (h1 : gn < B) (h2 : gb < B) (h3 : gu < B) : PEnv w' n U uc u gn gb gu k t m :=
  ⟨(hb.cell (p := ⟨gn, 0, none⟩) h1).trans h.cn, (hb.cell (p := ⟨gu, 0, none⟩) h3).trans h.cu, (hb.cell (p := ⟨gb, 0, none⟩) h2).trans h.b0, (hb.cell (p := ⟨gb, 1, none⟩) h2).trans h.b1, (hb.cell (p := ⟨gb, 2, none⟩) h2).trans h.b2,
    (hb.frozen (p := ⟨gb, 0, none⟩) h2).trans h.f0, (hb.frozen (p := ⟨gb, 1, none⟩) h2).trans h.f1, (hb.frozen (p := ⟨gb, 2, none⟩) h2).trans h.f2,
    Nat.lt_of_lt_of_le h.ln hb.size, Nat.lt_of_lt_of_le h.lb hb.size, Nat.lt_of_lt_of_le h.lu hb.size, h.nb, h.ub⟩

theorem PEnv.set {w : World} {n : Int} {U : Option Addr} {uc : Nat} {u : List Nd} {gn gb gu : Nat} {k t m : Bool} (h : PEnv w n U uc u gn gb gu k t m) (j : Nat) (v : Bool) (_hj : j < 3) :
    PEnv (w.setCell ⟨gb, j, none⟩ (.bool v)) n U uc u gn gb gu (if j = 0 then v else k) (if j = 1 then v else t) (if j = 2 then v else m) := by
  have key : ∀ (i : Nat) (a : Bool), i < 3 → w.cell? ⟨gb, i, none⟩ = some (.bool a) → (w.setCell ⟨gb, j, none⟩ (.bool v)).cell? ⟨gb, i, none⟩ = some (.bool (if j = i then v else a)) := by
    intro i a _ ha
    by_cases e : j = i
    · subst e
      rw [if_pos rfl]
      exact World.cell?_setCell_same' _ _ _ (by rw [ha]; rfl)
    · rw [if_neg e]
      have hne : (⟨gb, j, none⟩ : Addr) ≠ ⟨gb, i, none⟩ := fun e2 => by injection e2 with _ e3; exact e e3
      exact Eq.trans (by apply World.cell?_setCell_other; exact hne) ha
  refine ⟨?_, ?_, key 0 k (by omega) h.b0, key 1 t (by omega) h.b1, key 2 m (by omega) h.b2, ?_, ?_, ?_, ?_, ?_, ?_, h.nb, h.ub⟩
  · rw [World.cell?_setCell_far _ _ _ _ (fun e => h.nb (by simpa using e.symm))]; exact h.cn
  · rw [World.cell?_setCell_far _ _ _ _ (fun e => h.ub (by simpa using e.symm))]; exact h.cu
  · rw [World.frozen?_setCell]; exact h.f0
  · rw [World.frozen?_setCell]; exact h.f1
  · rw [World.frozen?_setCell]; exact h.f2
  · have := h.ln; simpa [World.setCell] using this
  · have := h.lb; simpa [World.setCell] using this
  · have := h.lu; simpa [World.setCell] using this

/-- Slices that lie outside of one block. -/
def AllOff (gb : Nat) (vs : List (Option Addr × Nat × Nat)) : Prop := ∀ q ∈ vs, Off (some ⟨gb, 0, none⟩) q.1

/-- The children of a row but for its tail; its tail. -/
def lOf (tss : List (List Nd)) : List (List Nd) := if tailB tss then tss.take (tss.length - 1) else tss
def tOf (tss : List (List Nd)) : List (List Nd) := if tailB tss then tss.drop (tss.length - 1) else []

theorem lOf_tOf (tss : List (List Nd)) : lOf tss ++ tOf tss = tss := by
  unfold lOf tOf
  split
  · exact List.take_append_drop _ _
  · simp

/-- Whether the tail bears the number. -/
def hitB (n : Int) (tss : List (List Nd)) : Bool := match tOf tss with
  | [] => false
  | t :: _ => (headNd t).n == n

/-- A row's children and tail behind what is put for its tail. -/
def RowMid (n : Int) (utss outs l tl : List (List Nd)) : Prop :=
  if hitB n outs then tl = tOf utss ∧ ∃ os : List Nat, os.Perm (List.range (lOf outs ++ lOf utss).length) ∧ os.Pairwise (fun i j => ltB (lab (labsT (lOf outs ++ lOf utss)) j) (lab (labsT (lOf outs ++ lOf utss)) i) = false) ∧ l = os.map (tq (lOf outs ++ lOf utss))
  else l = lOf outs ∧ tl = tOf outs

def rowK (n : Int) (uk xk : Int) (outs : List (List Nd)) : Bool := hitB n outs && uk != xk
def rowT (n : Int) (uk xk : Int) (utss outs : List (List Nd)) : Bool := hitB n outs && (!decide (labsT (lOf outs ++ lOf utss)).Nodup && uk == xk)
def rowN (n : Int) (utss outs : List (List Nd)) : Nat := if hitB n outs then (lOf outs ++ lOf utss).length + (tOf utss).length else outs.length
def rowM (n : Int) (utss outs : List (List Nd)) : Bool := decide (50 < rowN n utss outs)

/-- What a row becomes. -/
def RowTo (n : Int) (x : Nd) (utss outs : List (List Nd)) (out : List Nd) : Prop :=
  ∃ l tl, RowMid n utss outs l tl ∧ out = ⟨x.k, x.s, (l.length + tl.length : Nat)⟩ :: (l ++ tl).flatten

theorem RowMid.len {n : Int} {utss outs l tl : List (List Nd)} (h : RowMid n utss outs l tl) : l.length + tl.length = rowN n utss outs := by
  unfold RowMid at h
  unfold rowN
  split at h
  · next hh =>
    obtain ⟨rfl, os, hp, _, rfl⟩ := h
    rw [if_pos hh, List.length_map, hp.length_eq, List.length_range]
  · next hh =>
    obtain ⟨rfl, rfl⟩ := h
    rw [if_neg hh, ← List.length_append, lOf_tOf]

theorem AllOff.take {gb : Nat} {vs : List (Option Addr × Nat × Nat)} (h : AllOff gb vs) (j : Nat) : AllOff gb (vs.take j) := fun q hq => h q (List.mem_of_mem_take hq)
theorem AllOff.drop {gb : Nat} {vs : List (Option Addr × Nat × Nat)} (h : AllOff gb vs) (j : Nat) : AllOff gb (vs.drop j) := fun q hq => h q (List.mem_of_mem_drop hq)
theorem Off.at_ {X : Option Addr} {b o o' : Nat} (h : Off X (some ⟨b, o, none⟩)) : Off X (some ⟨b, o', none⟩) := fun p q hp hq => by
  injection hq with hq
  subst hq
  exact h p ⟨b, o, none⟩ hp rfl

theorem below_grown {w w' : World} (h : Below w.heap.size w w') (row : Option Nat) : w.grownBy w' row := ⟨h.os, h.tape, h.output, h.size, fun k hk _ => h.block k hk⟩
end Go.Proofs.Ytblfeokjlecgkaa

/- slices.Concat of two. -/
namespace Go.Proofs.Ytblfeokjlecgkaa
open Go.RowKit

end Go.Proofs.Ytblfeokjlecgkaa

/- Right trees by their structure: no places, no program. -/
namespace Go.Proofs.Ytblfeokjlecgkaa

/-- So many right children of a node, from the k-th one on, at most so deep. -/
inductive RtF : Nat → Nd → Int → ByteArray → Nat → List Nd → Prop
  | nil (f : Nat) (x : Nd) (k : Int) (last : ByteArray) : RtF f x k last 0 []
  | cons {f : Nat} {x : Nd} {k : Int} {last : ByteArray} {d : Nat} {y : Nd} {ks rs : List Nd} (ho : okNode y.k y.n = true) (hc : childOk x k last y = true)
      (h1 : RtF f y 0 ByteArray.empty (manyN y) ks) (h2 : RtF (f + 1) x (k + 1) y.s d rs) : RtF (f + 1) x k last (d + 1) (y :: (ks ++ rs))

theorem RtF.fo {f : Nat} {x : Nd} {k : Int} {last : ByteArray} {d : Nat} {ks : List Nd} (h : RtF f x k last d ks) : Fo d ks := by
  induction h with
  | nil => exact Fo.zero
  | cons ho hc h1 h2 i1 i2 => exact Fo.cons i1 i2

theorem RtF.ok {f : Nat} {x : Nd} {k : Int} {last : ByteArray} {d : Nat} {ks : List Nd} (h : RtF f x k last d ks) : okAll ks := by
  induction h with
  | nil => intro y hy; simp at hy
  | cons ho hc h1 h2 i1 i2 =>
    intro z hz
    simp only [List.mem_cons, List.mem_append] at hz
    rcases hz with rfl | hz | hz
    · exact ho
    · exact i1 z hz
    · exact i2 z hz

theorem RtF.kidsP {f : Nat} {x : Nd} {k : Int} {last : ByteArray} {d : Nat} {ks : List Nd} (h : RtF f x k last d ks) :
    ∀ (T rest : List Nd) (i : Nat), T.drop i = ks ++ rest → kidsP (treeP T f) T x d k last i = some (i + ks.length) := by
  induction h with
  | nil => intro T rest i hd; simp [Go.Proofs.Ytblfeokjlecgkaa.kidsP]
  | @cons f x k last d y ks rs ho hc h1 h2 i1 i2 =>
    intro T rest i hd
    have hd0 : T.drop i = y :: (ks ++ (rs ++ rest)) := by rw [hd]; simp
    have hy : T[i]? = some y := by
      have := congrArg (fun l => l[0]?) hd0
      simpa using this
    have hd1 : T.drop (i + 1) = ks ++ (rs ++ rest) := by
      rw [drop_cons hy] at hd0
      injection hd0
    have hd2 : T.drop (i + 1 + ks.length) = rs ++ rest := by rw [← List.drop_drop, hd1, List.drop_left]
    have ht : treeP T (f + 1) i = some (i + 1 + ks.length) := by
      simp only [treeP, hy]
      rw [if_pos ho]
      exact i1 T _ _ hd1
    simp only [Go.Proofs.Ytblfeokjlecgkaa.kidsP, hy, ht]
    rw [if_pos hc, i2 T rest _ hd2]
    simp
    omega

theorem RtF.mono {f : Nat} {x : Nd} {k : Int} {last : ByteArray} {d : Nat} {ks : List Nd} (h : RtF f x k last d ks) : ∀ g, f ≤ g → RtF g x k last d ks := by
  induction h with
  | nil => intro g _; exact .nil _ _ _ _
  | cons ho hc h1 h2 i1 i2 =>
    intro g hg
    obtain ⟨g', rfl⟩ : ∃ g', g = g' + 1 := ⟨g - 1, by omega⟩
    exact .cons ho hc (i1 g' (by omega)) (i2 _ hg)

/-- A type by its structure. -/
structure IsR (T : List Nd) (y : Nd) (ks : List Nd) : Prop where
  eq : T = y :: ks
  len : T.length ≤ 10000
  s : y.s = ByteArray.empty
  k : y.k ≠ 9
  ok : okNode y.k y.n = true
  rt : RtF 99 y 0 ByteArray.empty (manyN y) ks

theorem IsR.right {T : List Nd} {y : Nd} {ks : List Nd} (h : IsR T y ks) : rightB T = true := by
  have key : ∀ f, RtF f y 0 ByteArray.empty (manyN y) ks → treeP T (f + 1) 0 = some T.length := by
    intro f hf
    have hd : T.drop 1 = ks ++ [] := by rw [h.eq]; simp
    have := hf.kidsP T [] 1 hd
    have hy : T[0]? = some y := by rw [h.eq]; rfl
    have hlen : T.length = 1 + ks.length := by rw [h.eq]; simp; omega
    simp only [treeP, hy]
    rw [if_pos h.ok, hlen]
    exact this
  have ht : treeP T 100 0 = some T.length := key 99 h.rt
  unfold rightB
  simp only [Bool.and_eq_true, decide_eq_true_eq]
  refine ⟨⟨h.len, ?_⟩, ht⟩
  rw [h.eq]
  unfold rootOk
  simp [h.s, h.k]

end Go.Proofs.Ytblfeokjlecgkaa

/- What a put comes to, as data. -/
namespace Go.Proofs.Ytblfeokjlecgkaa

def nameN (s : ByteArray) : List Nd → List Nd
  | [] => []
  | x :: ys => x.name s :: ys

/-- Into a row that rises by labels. -/
def insT (t : List Nd) : List (List Nd) → List (List Nd)
  | [] => [t]
  | s :: l => if ltB (headNd s).s (headNd t).s = true then s :: insT t l else t :: s :: l

/-- Rising by labels. -/
def srtT : List (List Nd) → List (List Nd)
  | [] => []
  | t :: l => insT t (srtT l)

/-- What a row becomes. -/
def rowOut (n : Int) (x : Nd) (utss outs : List (List Nd)) : List Nd :=
  if hitB n outs then ⟨x.k, x.s, ((lOf outs ++ lOf utss).length + (tOf utss).length : Nat)⟩ :: (srtT (lOf outs ++ lOf utss) ++ tOf utss).flatten
  else ⟨x.k, x.s, (outs.length : Nat)⟩ :: outs.flatten

/-- A type with another one for a number; and the three flags. -/
def putG (n : Int) (u : List Nd) (utss : List (List Nd)) : Nat → List Nd → List Nd × Bool × Bool × Bool
  | 0, _ => ([], false, false, false)
  | _ + 1, [] => ([], false, false, false)
  | f + 1, x :: ks =>
    if x.k = 8 ∧ x.n = n then (nameN x.s u, false, false, false)
    else
      let rs := (splitF (manyN x) ks).map (putG n u utss f)
      let outs := rs.map (·.1)
      if isRowB x.k = true then (rowOut n x utss outs, rs.any (·.2.1) || rowK n (headNd u).k x.k outs, rs.any (·.2.2.1) || rowT n (headNd u).k x.k utss outs, rs.any (·.2.2.2) || rowM n utss outs)
      else (x :: outs.flatten, rs.any (·.2.1), rs.any (·.2.2.1), rs.any (·.2.2.2))

/-- Whether heads are told by heads alone. -/
theorem tailB_heads {a b : List (List Nd)} (h : a.map headNd = b.map headNd) : tailB a = tailB b := by
  unfold tailB
  have e := congrArg List.getLast? h
  rw [List.getLast?_map, List.getLast?_map] at e
  cases ha : a.getLast? <;> cases hb : b.getLast? <;> rw [ha, hb] at e <;> simp at e
  simp [e]

theorem len_heads {a b : List (List Nd)} (h : a.map headNd = b.map headNd) : a.length = b.length := by
  have := congrArg List.length h
  simpa using this

theorem lOf_heads {a b : List (List Nd)} (h : a.map headNd = b.map headNd) : (lOf a).map headNd = (lOf b).map headNd := by
  unfold lOf
  rw [tailB_heads h, len_heads h]
  split
  · rw [List.map_take, List.map_take, h]
  · exact h

theorem tOf_heads {a b : List (List Nd)} (h : a.map headNd = b.map headNd) : (tOf a).map headNd = (tOf b).map headNd := by
  unfold tOf
  rw [tailB_heads h, len_heads h]
  split
  · rw [List.map_drop, List.map_drop, h]
  · rfl

theorem hitB_heads {n : Int} {a b : List (List Nd)} (h : a.map headNd = b.map headNd) : hitB n a = hitB n b := by
  have e := tOf_heads h
  unfold hitB
  cases ha : tOf a <;> cases hb : tOf b <;> rw [ha, hb] at e <;> simp at e
  simp [e.1]

theorem labsT_heads (a : List (List Nd)) : labsT a = (a.map headNd).map (·.s) := by
  unfold labsT
  simp

theorem rowK_heads {n : Int} {uk xk : Int} {a b : List (List Nd)} (h : a.map headNd = b.map headNd) : rowK n uk xk a = rowK n uk xk b := by
  unfold rowK
  rw [hitB_heads h]

theorem rowT_heads {n : Int} {uk xk : Int} {utss a b : List (List Nd)} (h : a.map headNd = b.map headNd) : rowT n uk xk utss a = rowT n uk xk utss b := by
  unfold rowT
  rw [hitB_heads h, labsT_heads, labsT_heads, List.map_append, List.map_append (f := headNd), lOf_heads h]

theorem rowN_heads {n : Int} {utss a b : List (List Nd)} (h : a.map headNd = b.map headNd) : rowN n utss a = rowN n utss b := by
  unfold rowN
  rw [hitB_heads h, List.length_append, List.length_append, len_heads h, len_heads (lOf_heads h)]

theorem rowM_heads {n : Int} {utss a b : List (List Nd)} (h : a.map headNd = b.map headNd) : rowM n utss a = rowM n utss b := by
  unfold rowM
  rw [rowN_heads h]

theorem insT_perm (t : List Nd) : ∀ l : List (List Nd), (insT t l).Perm (t :: l)
  | [] => .refl _
  | s :: l => by
    unfold insT
    split
    · exact ((insT_perm t l).cons s).trans (.swap t s l)
    · exact .refl _

theorem srtT_perm : ∀ l : List (List Nd), (srtT l).Perm l
  | [] => .refl _
  | t :: l => (insT_perm t _).trans ((srtT_perm l).cons t)

def leT (a b : List Nd) : Prop := ltB (headNd b).s (headNd a).s = false

theorem ltB_asym {a b : ByteArray} (h : ltB a b = true) : ltB b a = false := by
  cases h2 : ltB b a
  · rfl
  · have := ltB_trans h h2
    rw [ltB_irrefl] at this
    cases this

theorem insT_sorted (t : List Nd) : ∀ l : List (List Nd), l.Pairwise leT → (insT t l).Pairwise leT
  | [], _ => by simp [insT]
  | s :: l, h => by
    rw [List.pairwise_cons] at h
    unfold insT
    split
    · next hlt =>
      rw [List.pairwise_cons]
      refine ⟨fun b hb => ?_, insT_sorted t l h.2⟩
      rcases List.mem_cons.1 ((insT_perm t l).mem_iff.1 hb) with rfl | hb
      · exact ltB_asym hlt
      · exact h.1 b hb
    · next hlt =>
      have hlt' : ltB (headNd s).s (headNd t).s = false := by simpa using hlt
      rw [List.pairwise_cons]
      refine ⟨fun b hb => ?_, by rw [List.pairwise_cons]; exact h⟩
      rcases List.mem_cons.1 hb with rfl | hb
      · exact hlt'
      · exact ltB_ntrans (h.1 b hb) hlt'

theorem srtT_sorted : ∀ l : List (List Nd), (srtT l).Pairwise leT
  | [] => .nil
  | t :: l => insT_sorted t _ (srtT_sorted l)

theorem nodup_labs {t : List Nd} {l : List (List Nd)} (h : (labsT (t :: l)).Nodup) : (∀ s ∈ l, (headNd s).s ≠ (headNd t).s) ∧ (labsT l).Nodup := by
  unfold labsT at h ⊢
  rw [List.map_cons, List.nodup_cons] at h
  exact ⟨fun s hs e => h.1 (List.mem_map.2 ⟨s, hs, e⟩), h.2⟩

/-- Rows that rise, of the same children, with labels apart, are one. -/
theorem sorted_uniq : ∀ (l r : List (List Nd)), l.Perm r → l.Pairwise leT → r.Pairwise leT → (labsT l).Nodup → l = r
  | [], r, h, _, _, _ => (List.nil_perm.1 h).symm
  | a :: l, r, h, hl, hr, hn => by
    cases r with
    | nil => exact absurd h.length_eq (by simp)
    | cons b r =>
      obtain ⟨h1, h2⟩ := nodup_labs hn
      rw [List.pairwise_cons] at hl hr
      by_cases e : a = b
      · subst e
        rw [sorted_uniq l r h.cons_inv hl.2 hr.2 h2]
      · have hb : b ∈ l := by
          rcases List.mem_cons.1 (h.mem_iff.2 (List.mem_cons_self ..)) with e2 | hb
          · exact absurd e2.symm e
          · exact hb
        have ha : a ∈ r := by
          rcases List.mem_cons.1 (h.mem_iff.1 (List.mem_cons_self ..)) with e2 | ha
          · exact absurd e2 e
          · exact ha
        exact absurd (ltB_eq (hl.1 b hb) (hr.1 a ha)) (h1 b hb)

theorem lab_tq {L : List (List Nd)} {i : Nat} (h : i < L.length) : lab (labsT L) i = (headNd (tq L i)).s := by
  unfold lab labsT tq
  simp [List.getElem?_eq_getElem h]

theorem map_tq_perm {L : List (List Nd)} {os : List Nat} (h : os.Perm (List.range L.length)) : (os.map (tq L)).Perm L := by
  have h1 := h.map (tq L)
  have h2 : (List.range L.length).map (tq L) = L := by
    refine List.ext_getElem (by simp) fun i h1 h2 => ?_
    rw [List.getElem_map, List.getElem_range]
    unfold tq
    rw [List.getElem?_eq_getElem h2]
    rfl
  rwa [h2] at h1

theorem sorted_is {L : List (List Nd)} {os : List Nat} (h : os.Perm (List.range L.length)) (hs : os.Pairwise (fun i j => ltB (lab (labsT L) j) (lab (labsT L) i) = false)) (hn : (labsT L).Nodup) : os.map (tq L) = srtT L := by
  have hp := map_tq_perm h
  refine sorted_uniq _ _ (hp.trans (srtT_perm L).symm) ?_ (srtT_sorted L) ?_
  · rw [List.pairwise_map]
    refine List.Pairwise.imp_of_mem ?_ hs
    intro i j hi hj hij
    have h1 : i < L.length := List.mem_range.1 (h.mem_iff.1 hi)
    have h2 : j < L.length := List.mem_range.1 (h.mem_iff.1 hj)
    rw [lab_tq h1, lab_tq h2] at hij
    exact hij
  · exact (hp.map _).nodup_iff.2 hn

/-- A put and its flags: as told; but that a row with a label twice may stand in any order. -/
structure PG (n : Int) (u : List Nd) (utss : List (List Nd)) (f : Nat) (ts out : List Nd) (bk bt bm : Bool) : Prop where
  k : bk = (putG n u utss f ts).2.1
  t : bt = (putG n u utss f ts).2.2.1
  m : bm = (putG n u utss f ts).2.2.2
  hd : headNd out = headNd (putG n u utss f ts).1
  ne : out ≠ []
  len : out.length ≤ ts.length * (u.length + 1)
  eq : bk = false → bt = false → out = (putG n u utss f ts).1

structure PGs (n : Int) (u : List Nd) (utss : List (List Nd)) (f : Nat) (tss outs : List (List Nd)) (bk bt bm : Bool) : Prop where
  k : bk = (tss.map (putG n u utss f)).any (·.2.1)
  t : bt = (tss.map (putG n u utss f)).any (·.2.2.1)
  m : bm = (tss.map (putG n u utss f)).any (·.2.2.2)
  hd : outs.map headNd = ((tss.map (putG n u utss f)).map (·.1)).map headNd
  ne : ∀ o ∈ outs, o ≠ []
  len : outs.flatten.length ≤ tss.flatten.length * (u.length + 1)
  eq : bk = false → bt = false → outs = (tss.map (putG n u utss f)).map (·.1)

section
variable {n : Int} {u : List Nd} {utss : List (List Nd)} {f : Nat} {ts out : List Nd} {tss outs : List (List Nd)} {k t m k' t' m' : Bool} {x : Nd} {ks : List Nd}

theorem PGs.nil (n : Int) (u : List Nd) (utss : List (List Nd)) (f : Nat) : PGs n u utss f [] [] false false false :=
  ⟨rfl, rfl, rfl, rfl, fun o h => by simp at h, by simp, fun _ _ => rfl⟩

theorem PGs.length (h : PGs n u utss f tss outs k t m) : outs.length = tss.length := by
  have := congrArg List.length h.hd
  simpa using this

theorem RowMid.flat {l tl : List (List Nd)} (h : RowMid n utss outs l tl) : (l ++ tl).flatten.length ≤ outs.flatten.length + utss.flatten.length := by
  unfold RowMid at h
  split at h
  · obtain ⟨rfl, os, hp, _, rfl⟩ := h
    have h1 : ((os.map (tq (lOf outs ++ lOf utss))).flatten).length = ((lOf outs ++ lOf utss).flatten).length := (map_tq_perm hp).flatten.length_eq
    have h2 := congrArg (fun z => (List.flatten z).length) (lOf_tOf utss)
    have h3 := congrArg (fun z => (List.flatten z).length) (lOf_tOf outs)
    simp only [List.flatten_append, List.length_append] at h1 h2 h3 ⊢
    omega
  · obtain ⟨rfl, rfl⟩ := h
    rw [lOf_tOf]
    omega

theorem PG.row (hv : ¬ (x.k = 8 ∧ x.n = n)) (hr : isRowB x.k = true) (ht : Trees (manyN x) tss.flatten tss) (h : PGs n u utss f tss outs k t m)
    (hu : utss.flatten.length < u.length) (hto : RowTo n x utss outs out) :
    PG n u utss (f + 1) (x :: tss.flatten) out (k || rowK n (headNd u).k x.k outs) (t || rowT n (headNd u).k x.k utss outs) (m || rowM n utss outs) := by
  have e : putG n u utss (f + 1) (x :: tss.flatten) = (rowOut n x utss ((tss.map (putG n u utss f)).map (·.1)), (tss.map (putG n u utss f)).any (·.2.1) || rowK n (headNd u).k x.k ((tss.map (putG n u utss f)).map (·.1)),
      (tss.map (putG n u utss f)).any (·.2.2.1) || rowT n (headNd u).k x.k utss ((tss.map (putG n u utss f)).map (·.1)), (tss.map (putG n u utss f)).any (·.2.2.2) || rowM n utss ((tss.map (putG n u utss f)).map (·.1))) := by
    simp only [putG]
    rw [if_neg hv, ← ht.uniq, if_pos hr]
  obtain ⟨l, tl, hm, rfl⟩ := hto
  have hhd : ∀ outs', headNd (rowOut n x utss outs') = ⟨x.k, x.s, (rowN n utss outs' : Nat)⟩ := fun outs' => by
    unfold rowOut rowN
    split <;> rfl
  refine ⟨by rw [e, h.k, rowK_heads h.hd], by rw [e, h.t, rowT_heads h.hd], by rw [e, h.m, rowM_heads h.hd], ?_, by simp, ?_, fun ek et => ?_⟩
  · rw [e]
    show _ = headNd (rowOut n x utss _)
    rw [hhd, hm.len, rowN_heads h.hd]
    rfl
  · have h1 := h.len
    have h2 := hm.flat
    simp only [List.length_cons, Nat.add_mul]
    omega
  · simp only [Bool.or_eq_false_iff] at ek et
    have hos := h.eq ek.1 et.1
    rw [e, ← hos]
    unfold rowOut
    unfold RowMid at hm
    split at hm
    · next hh =>
      rw [if_pos hh]
      obtain ⟨rfl, os, hp, hs, rfl⟩ := hm
      have hkind : ((headNd u).k == x.k) = true := by
        have := ek.2
        unfold rowK at this
        rw [hh, Bool.true_and] at this
        simpa using this
      have hnd : (labsT (lOf outs ++ lOf utss)).Nodup := by
        have := et.2
        unfold rowT at this
        rw [hh, hkind] at this
        simpa using this
      rw [← sorted_is hp hs hnd]
      have hle : (os.map (tq (lOf outs ++ lOf utss))).length = (lOf outs ++ lOf utss).length := (map_tq_perm hp).length_eq
      rw [hle]
    · next hh =>
      rw [if_neg hh]
      obtain ⟨rfl, rfl⟩ := hm
      rw [lOf_tOf, ← List.length_append, lOf_tOf]
end
end Go.Proofs.Ytblfeokjlecgkaa

/- Laws of a put, in plain lists. -/
namespace Go.Proofs.Ytblfeokjlecgkaa

section
variable {n : Int} {u : List Nd} {utss : List (List Nd)}

end

theorem RtF.zero {f : Nat} {x : Nd} {k : Int} {last : ByteArray} {ks : List Nd} (h : RtF f x k last 0 ks) : ks = [] := h.fo.of_zero

end Go.Proofs.Ytblfeokjlecgkaa

/- Two puts, in any order. -/
namespace Go.Proofs.Ytblfeokjlecgkaa

section
variable {n : Int} {u : List Nd} {utss : List (List Nd)}

end

section
variable {n0 n1 : Int} {u0 u1 : List Nd} {ut0 ut1 : List (List Nd)}

end
end Go.Proofs.Ytblfeokjlecgkaa

/- What is ground, in plain lists. -/
namespace Go.Proofs.Ytblfeokjlecgkaa

end Go.Proofs.Ytblfeokjlecgkaa

/- Fresh variables, in plain lists. -/
namespace Go.Proofs.Ytblfeokjlecgkaa

/-- Alike but for ?s that became Vars. -/
inductive LikeF : List Nd → List Nd → Prop
  | nil : LikeF [] []
  | cons {y z : Nd} {ys zs : List Nd} (h : z.s = y.s ∧ (z = y ∨ (y.k = 0 ∧ z.k = 8 ∧ 0 ≤ z.n))) (h2 : LikeF ys zs) : LikeF (y :: ys) (z :: zs)

theorem LikeF.split : ∀ (a b zs : List Nd), LikeF (a ++ b) zs → ∃ a' b', zs = a' ++ b' ∧ LikeF a a' ∧ LikeF b b'
  | [], b, zs, h => ⟨[], zs, rfl, .nil, h⟩
  | y :: a, b, _, .cons (z := z) h h2 => by
    obtain ⟨a', b', rfl, h3, h4⟩ := LikeF.split a b _ h2
    exact ⟨z :: a', b', rfl, .cons h h3, h4⟩

theorem LikeF.len {a b : List Nd} (h : LikeF a b) : a.length = b.length := by
  induction h with
  | nil => rfl
  | cons _ _ ih => simp [ih]

end Go.Proofs.Ytblfeokjlecgkaa

/- term.Fresh, walked. -/
namespace Go.Proofs.Ytblfeokjlecgkaa
open Go.RowKit

end Go.Proofs.Ytblfeokjlecgkaa

/- The canon of types, in plain lists. -/
namespace Go.Proofs.Ytblfeokjlecgkaa

/-- Where a number stands in a row. -/
def posI (n : Int) : List Int → Nat
  | [] => 0
  | m :: l => if m = n then 0 else posI n l + 1

theorem posI_new {n : Int} : ∀ {l : List Int}, n ∉ l → posI n (l ++ [n]) = l.length
  | [], _ => by simp [posI]
  | m :: l, h => by
    have hne : m ≠ n := fun e => h (by simp [e])
    rw [List.cons_append]
    unfold posI
    rw [if_neg hne, posI_new fun hm => h (by simp [hm])]
    rfl

theorem posI_old {n : Int} : ∀ {l : List Int} (r : List Int), n ∈ l → posI n (l ++ r) = posI n l
  | m :: l, r, h => by
    rw [List.cons_append]
    unfold posI
    split
    · rfl
    · next hne =>
      rcases List.mem_cons.1 h with rfl | h
      · exact absurd rfl hne
      · rw [posI_old r h]

end Go.Proofs.Ytblfeokjlecgkaa

/- term.Canon, walked: a map of numbers, a row of types, each copied and numbered anew. -/
namespace Go.Proofs.Ytblfeokjlecgkaa
open Go.RowKit Go.Maps

/-- The map holds each number's place. -/
structure MapOf (had : List Int) (D : DataW Unit) : Prop where
  tidy : Tidy D
  size : Maps.size D = had.length
  has : ∀ n : Int, Maps.has D (.int .i64 n) = decide (n ∈ had)
  at_ : ∀ n : Int, n ∈ had → D.atKey (.int .i64 n) (.lit (.int .i64 0)) = .lit (.int .i64 ((posI n had + 1 : Nat) : Int))

theorem MapOf.put {had : List Int} {D : DataW Unit} (h : MapOf had D) {n : Int} (hn : n ∉ had) : MapOf (had ++ [n]) (D.put (.int .i64 n) (.lit (.int .i64 ((had.length + 1 : Nat) : Int)))) := by
  have hk : Go.WideAt.IsKeyLit (.int .i64 n) := trivial
  refine ⟨h.tidy.put hk _, ?_, fun m => ?_, fun m hm => ?_⟩
  · rw [size_put h.tidy, h.has, if_neg (by simpa using hn), h.size]
    simp
  · by_cases e : m = n
    · subst e
      rw [has_put_same h.tidy.isMap hk]
      simp
    · rw [has_put_other (by intro e2; injection e2 with _ e2; exact e e2), h.has]
      simp [e]
  · by_cases e : m = n
    · subst e
      rw [atKey_put_same h.tidy.isMap hk, posI_new hn]
    · have hm' : m ∈ had := by
        rcases List.mem_append.1 hm with h | h
        · exact h
        · simp at h; exact absurd h e
      rw [atKey_put_other (by intro e2; injection e2 with _ e2; exact e e2), h.at_ m hm', posI_old _ hm']

/-- What Canon holds: the map, the row of types that are done, the one at hand. -/
structure CanM (w0 : World) (B : Nat) (D : DataW Unit) (hn : Nat) (V : Option Addr) (cv : Nat) (vs : List (Option Addr × Nat × Nat)) (outs : List (List Nd)) (U : Option Addr) (uc : Nat) (us : List Nd) (w : World) : Prop where
  map : w.ownsMap Try.prog 3 (plainElem Try.prog 3) B hn D
  row : OwnS w w0.heap.size V cv vs
  sls : Sls w w.heap.size vs outs
  cur : OwnN w w0.heap.size U uc us
  bel : Below w0.heap.size w0 w
  low : w0.heap.size ≤ B
  ub : ∀ a, U = some a → a.block ≠ B
  vb : ∀ a, V = some a → a.block ≠ B
  uv : Off U V
  sb : ∀ v ∈ vs, ∀ a, v.1 = some a → a.block ≠ B
  su : ∀ v ∈ vs, Off v.1 U
  sv : ∀ v ∈ vs, Off v.1 V
  lt : ∀ v ∈ vs, ∀ a, v.1 = some a → a.block < w.heap.size

theorem TyA.keptBy {w w' : World} {X : Option Addr} {xs : List Nd} {row : Option Nat} (h : TyA w w.heap.size X xs) (hg : w.grownBy w' row) (hne : ∀ k, row = some k → ∀ a, X = some a → a.block ≠ k) : TyA w' w'.heap.size X xs := by
  refine TyA.more (B := w.heap.size) (ReadL.tyA fun hx => ?_) hg.size
  obtain ⟨b, o, rfl, hb, hc⟩ := h.readL hx
  refine ⟨b, o, rfl, hb, fun i x hx j u hu => ?_⟩
  have hblk := hg.block b hb (fun e => hne b e.symm _ rfl rfl)
  rw [World.cell?_of_block (a := ⟨b, o + i * 3 + j, none⟩) hblk]
  exact hc i x hx j u hu

theorem Sls.keptBy {w w' : World} {vs : List (Option Addr × Nat × Nat)} {outs : List (List Nd)} {row : Option Nat} (h : Sls w w.heap.size vs outs) (hg : w.grownBy w' row) (hne : ∀ k, row = some k → ∀ v ∈ vs, ∀ a, v.1 = some a → a.block ≠ k) : Sls w' w'.heap.size vs outs :=
  ⟨h.1, fun i v xs hv hx => by
    obtain ⟨h1, h2⟩ := h.2 i v xs hv hx
    exact ⟨h1, h2.keptBy hg fun k hk => hne k hk v (List.mem_of_getElem? hv)⟩⟩

section
variable {w0 w w' : World} {B : Nat} {D : DataW Unit} {hn : Nat} {V : Option Addr} {cv : Nat} {vs : List (Option Addr × Nat × Nat)} {outs : List (List Nd)} {U : Option Addr} {uc : Nat} {us : List Nd}

theorem CanM.step (h : CanM w0 B D hn V cv vs outs U uc us w) (hb : Below w.heap.size w w') : CanM w0 B D hn V cv vs outs U uc us w' :=
  ⟨h.map.kept (below_grown hb none) (by simp), h.row.below hb (Nat.le_refl _), h.sls.keptBy (below_grown hb none) (fun k hk => by cases hk), h.cur.below hb (Nat.le_refl _), ext_trans h.bel hb, h.low, h.ub, h.vb, h.uv, h.sb, h.su, h.sv, fun v hv a ha => Nat.lt_of_lt_of_le (h.lt v hv a ha) hb.size⟩

theorem CanM.alloc (h : CanM w0 B D hn V cv vs outs U uc us w) (o : Obj) : CanM w0 B D hn V cv vs outs U uc us (w.alloc o) := h.step (ext_alloc (Below.refl _ _) o)

/-- A number goes into the map. -/
theorem CanM.put {D' : DataW Unit} {hn' : Nat} (h : CanM w0 B D hn V cv vs outs U uc us w) (hm : w'.ownsMap Try.prog 3 (plainElem Try.prog 3) B hn' D') (hg : w.grownBy w' (some B)) : CanM w0 B D' hn' V cv vs outs U uc us w' :=
  ⟨hm, OwnL.kept h.row hg (fun k hk a ha => by cases hk; exact h.vb a ha), h.sls.keptBy hg (fun k hk v hv a ha => by cases hk; exact h.sb v hv a ha), OwnL.kept h.cur hg (fun k hk a ha => by cases hk; exact h.ub a ha),
    h.bel.grown hg h.bel.size (fun k hk => by cases hk; exact h.low), h.low, h.ub, h.vb, h.uv, h.sb, h.su, h.sv, fun v hv a ha => Nat.lt_of_lt_of_le (h.lt v hv a ha) hg.size⟩

/-- The copy goes onto the row. -/
theorem CanM.app {V2 : Option Addr} {cv2 : Nat} (h : CanM w0 B D hn V cv vs outs U uc us w) (hown : OwnS w' w0.heap.size V2 cv2 (vs ++ [(U, us.length, uc)])) (hg : w.grownBy w' ((Value.slice V vs.length cv).ownBlock))
    (hA : (Value.slice V2 (vs.length + 1) cv2).ownBlock = (Value.slice V vs.length cv).ownBlock ∨ (Value.slice V2 (vs.length + 1) cv2).ownBlock = some w.heap.size) : CanM w0 B D hn V2 cv2 (vs ++ [(U, us.length, uc)]) (outs ++ [us]) none 0 [] w' := by
  have hBl := h.map.lt
  have hV : ∀ a, V2 = some a → (∃ b, V = some b ∧ a.block = b.block) ∨ a.block = w.heap.size := fun a ha => by
    subst ha
    rcases hA with hA | hA
    · obtain ⟨b, hb, hbe⟩ := ownBlock_of (hA.symm.trans (show (Value.slice (some a) (vs.length + 1) cv2).ownBlock = some a.block from rfl))
      exact .inl ⟨b, hb, hbe.symm⟩
    · exact .inr (by simpa [Value.ownBlock] using hA)
  have hlow : ∀ k, (Value.slice V vs.length cv).ownBlock = some k → ∃ a, V = some a ∧ a.block = k := fun k hk => ownBlock_of hk
  have hU : ∀ a, U = some a → a.block < w.heap.size := fun a ha => (OwnL.lt h.cur a ha).2
  refine ⟨h.map.kept hg ?_, hown, ?_, OwnL.nil, h.bel.grown hg h.bel.size (fun k hk => (OwnL.block h.row k hk).1), h.low, by simp, fun a ha => ?_, (fun a b ha => by cases ha), fun v hv a ha => ?_, (fun v hv a b _ hb => by cases hb), fun v hv a b ha hb e => ?_, fun v hv a ha => ?_⟩
  · intro e
    obtain ⟨a, ha, hab⟩ := hlow B e.symm
    exact h.vb a ha hab
  · have hs := h.sls.keptBy hg (fun k hk v hv a ha e => by
      obtain ⟨b, hb, hbe⟩ := hlow k hk
      exact h.sv v hv a b ha hb (by rw [e, hbe]))
    have hc := (OwnL.tyA h.cur).keptBy hg (fun k hk a ha e => by
      obtain ⟨b, hb, hbe⟩ := hlow k hk
      exact h.uv a b ha hb (by rw [e, hbe]))
    refine ⟨by simp [hs.1], fun i v xs hv hx => ?_⟩
    by_cases hi : i < vs.length
    · rw [List.getElem?_append_left hi] at hv
      rw [List.getElem?_append_left (by rw [← hs.1]; exact hi)] at hx
      exact hs.2 i v xs hv hx
    · have hi2 : i = vs.length := by have := getq_lt hv; simp at this; omega
      subst hi2
      rw [List.getElem?_append_right (Nat.le_refl _), Nat.sub_self] at hv
      rw [List.getElem?_append_right (by rw [hs.1]; exact Nat.le_refl _), hs.1, Nat.sub_self] at hx
      simp at hv hx
      subst hv hx
      exact ⟨rfl, hc⟩
  · rcases hV a ha with ⟨b, hb, hbe⟩ | hbe
    · rw [hbe]; exact h.vb b hb
    · omega
  · rcases List.mem_append.1 hv with hv | hv
    · exact h.sb v hv a ha
    · simp at hv
      subst hv
      exact h.ub a ha
  · rcases hV b hb with ⟨b', hb', hbe⟩ | hbe
    · rcases List.mem_append.1 hv with hv | hv
      · exact h.sv v hv a b' ha hb' (by rw [e, hbe])
      · simp at hv
        subst hv
        exact h.uv a b' ha hb' (by rw [e, hbe])
    · rcases List.mem_append.1 hv with hv | hv
      · have := h.lt v hv a ha; omega
      · simp at hv
        subst hv
        have := hU a ha; omega
  · have := hg.size
    rcases List.mem_append.1 hv with hv | hv
    · have := h.lt v hv a ha; omega
    · simp at hv
      subst hv
      have := hU a ha; omega
end

end Go.Proofs.Ytblfeokjlecgkaa

/- A row of types that is laid type by type: what is done, the one at hand. -/
namespace Go.Proofs.Ytblfeokjlecgkaa
open Go.RowKit

structure RowM (w0 : World) (V : Option Addr) (cv : Nat) (vs : List (Option Addr × Nat × Nat)) (outs : List (List Nd)) (U : Option Addr) (uc : Nat) (us : List Nd) (w : World) : Prop where
  row : OwnS w w0.heap.size V cv vs
  sls : Sls w w.heap.size vs outs
  cur : OwnN w w0.heap.size U uc us
  bel : Below w0.heap.size w0 w
  uv : Off U V
  su : ∀ v ∈ vs, Off v.1 U
  sv : ∀ v ∈ vs, Off v.1 V
  lt : ∀ v ∈ vs, ∀ a, v.1 = some a → a.block < w.heap.size

section
variable {w0 w w' : World} {V : Option Addr} {cv : Nat} {vs : List (Option Addr × Nat × Nat)} {outs : List (List Nd)} {U : Option Addr} {uc : Nat} {us : List Nd}

theorem RowM.step (h : RowM w0 V cv vs outs U uc us w) (hb : Below w.heap.size w w') : RowM w0 V cv vs outs U uc us w' :=
  ⟨h.row.below hb (Nat.le_refl _), h.sls.keptBy (below_grown hb none) (fun k hk => by cases hk), h.cur.below hb (Nat.le_refl _), ext_trans h.bel hb, h.uv, h.su, h.sv, fun v hv a ha => Nat.lt_of_lt_of_le (h.lt v hv a ha) hb.size⟩

theorem RowM.alloc (h : RowM w0 V cv vs outs U uc us w) (o : Obj) : RowM w0 V cv vs outs U uc us (w.alloc o) := h.step (ext_alloc (Below.refl _ _) o)

/-- The copy goes onto the row. -/
theorem RowM.app {V2 : Option Addr} {cv2 : Nat} (h : RowM w0 V cv vs outs U uc us w) (hown : OwnS w' w0.heap.size V2 cv2 (vs ++ [(U, us.length, uc)])) (hg : w.grownBy w' ((Value.slice V vs.length cv).ownBlock))
    (hA : (Value.slice V2 (vs.length + 1) cv2).ownBlock = (Value.slice V vs.length cv).ownBlock ∨ (Value.slice V2 (vs.length + 1) cv2).ownBlock = some w.heap.size) : RowM w0 V2 cv2 (vs ++ [(U, us.length, uc)]) (outs ++ [us]) none 0 [] w' := by
  have hV : ∀ a, V2 = some a → (∃ b, V = some b ∧ a.block = b.block) ∨ a.block = w.heap.size := fun a ha => by
    subst ha
    rcases hA with hA | hA
    · obtain ⟨b, hb, hbe⟩ := ownBlock_of (hA.symm.trans (show (Value.slice (some a) (vs.length + 1) cv2).ownBlock = some a.block from rfl))
      exact .inl ⟨b, hb, hbe.symm⟩
    · exact .inr (by simpa [Value.ownBlock] using hA)
  have hlow : ∀ k, (Value.slice V vs.length cv).ownBlock = some k → ∃ a, V = some a ∧ a.block = k := fun k hk => ownBlock_of hk
  have hU : ∀ a, U = some a → a.block < w.heap.size := fun a ha => (OwnL.lt h.cur a ha).2
  refine ⟨hown, ?_, OwnL.nil, h.bel.grown hg h.bel.size (fun k hk => (OwnL.block h.row k hk).1), (fun a b ha => by cases ha), (fun v hv a b _ hb => by cases hb), fun v hv a b ha hb e => ?_, fun v hv a ha => ?_⟩
  · have hs := h.sls.keptBy hg (fun k hk v hv a ha e => by
      obtain ⟨b, hb, hbe⟩ := hlow k hk
      exact h.sv v hv a b ha hb (by rw [e, hbe]))
    have hc := (OwnL.tyA h.cur).keptBy hg (fun k hk a ha e => by
      obtain ⟨b, hb, hbe⟩ := hlow k hk
      exact h.uv a b ha hb (by rw [e, hbe]))
    refine ⟨by simp [hs.1], fun i v xs hv hx => ?_⟩
    by_cases hi : i < vs.length
    · rw [List.getElem?_append_left hi] at hv
      rw [List.getElem?_append_left (by rw [← hs.1]; exact hi)] at hx
      exact hs.2 i v xs hv hx
    · have hi2 : i = vs.length := by have := getq_lt hv; simp at this; omega
      subst hi2
      rw [List.getElem?_append_right (Nat.le_refl _), Nat.sub_self] at hv
      rw [List.getElem?_append_right (by rw [hs.1]; exact Nat.le_refl _), hs.1, Nat.sub_self] at hx
      simp at hv hx
      subst hv hx
      exact ⟨rfl, hc⟩
  · rcases hV b hb with ⟨b', hb', hbe⟩ | hbe
    · rcases List.mem_append.1 hv with hv | hv
      · exact h.sv v hv a b' ha hb' (by rw [e, hbe])
      · simp at hv
        subst hv
        exact h.uv a b' ha hb' (by rw [e, hbe])
    · rcases List.mem_append.1 hv with hv | hv
      · have := h.lt v hv a ha; omega
      · simp at hv
        subst hv
        have := hU a ha; omega
  · have := hg.size
    rcases List.mem_append.1 hv with hv | hv
    · have := h.lt v hv a ha; omega
    · simp at hv
      subst hv
      have := hU a ha; omega
end

end Go.Proofs.Ytblfeokjlecgkaa

/- term.Canon, walked. -/
namespace Go.Proofs.Ytblfeokjlecgkaa
open Go.RowKit Go.Maps

section
variable {w : World} {ops : Array Oper} {rest : List Oper} {o : Oper} {a : Act} {Q : Exit → Act → World → Prop}

end

end Go.Proofs.Ytblfeokjlecgkaa

/- leavenref12.Types, walked. -/
namespace Go.Proofs.Ytblfeokjlecgkaa
open Go.RowKit

theorem Sls.drewN {w : World} {B : Nat} {vs : List (Option Addr × Nat × Nat)} {tss : List (List Nd)} (h : Sls w B vs tss) (n : Nat) : Sls (w.drewN n) B vs tss := ⟨h.1, fun i v xs hv hx => ⟨(h.2 i v xs hv hx).1, (h.2 i v xs hv hx).2.below (below_drewN (Below.refl _ _) n)⟩⟩
theorem ReadL.drewN {α : Type} {size : Nat} {enc : α → List Value} {w : World} {B : Nat} {A : Option Addr} {l : List α} (h : ReadL size enc w B A l) (n : Nat) : ReadL size enc (w.drewN n) B A l := h.below (below_drewN (Below.refl _ _) n)

end Go.Proofs.Ytblfeokjlecgkaa

/- The plain theory of trees that are made to agree: written in parts, put together by asm_uni.sh. -/
namespace Go.Proofs.Ytblfeokjlecgkaa

/-! ### Variants -/

/-- The first so many variables alone. -/
def Va.only (m0 : Int) (τ : Va) : Va := ⟨fun n => if n < m0 then τ.v n else varT n, Va.id.t⟩

end Go.Proofs.Ytblfeokjlecgkaa
namespace Go.Proofs.Ytblfeokjlecgkaa

/-! ### Variants have one canon -/

section
variable {ρ g : Int → Int}

end

/-! ### Shapes -/

def lA : Lb := ⟨#[48]⟩
def lB : Lb := ⟨#[49]⟩

def nodeSh (k : Int) (fs : Fl) (tl : Option Int) : Prop :=
  0 ≤ k ∧ k ≤ 8 ∧ (k = 5 → (∃ a b, fs = [(lA, a), (lB, b)]) ∧ tl = none) ∧ (k ≠ 5 → isRowB k = false → fs = [] ∧ tl = none)

def shT : Ut → Prop
  | .mk k _ fs tl => nodeSh k fs tl ∧ ∀ p ∈ fs, shT p.2
termination_by t => SizeOf.sizeOf t
decreasing_by exact Ut.size_mem (by assumption)

theorem shT_mk {k n : Int} {fs : Fl} {tl : Option Int} : shT (.mk k n fs tl) ↔ nodeSh k fs tl ∧ ∀ p ∈ fs, shT p.2 := by rw [shT]

structure Va.Sh (L : Sorts) (σ : Va) : Prop where
  v : ∀ n, L n = none → shT (σ.v n)
  t : ∀ p ls, L p = some ls → ∀ q ∈ (σ.t p).1, shT q.2

theorem lA_lB : ltB lB lA = false := by decide +kernel

theorem inst_sh {L : Sorts} {σ : Va} (h : σ.Sh L) : ∀ t, okT L t → shT t → shT (inst σ t) :=
  Ut.ind fun k n fs tl ih ho hs => by
    rw [okT_mk] at ho
    rw [shT_mk] at hs
    rw [inst_eq]
    split
    · next hk => exact h.v n (ho.1.2.2.1 hk)
    · rw [shT_mk]
      refine ⟨⟨hs.1.1, hs.1.2.1, fun h5 => ?_, fun h5 hr => ?_⟩, fun p hp => ?_⟩
      · obtain ⟨⟨a, b, e⟩, e2⟩ := hs.1.2.2.1 h5
        subst e e2
        refine ⟨⟨inst σ a, inst σ b, ?_⟩, rfl⟩
        show srtF [(lA, inst σ a), (lB, inst σ b)] = _
        show insF _ (insF _ []) = _
        show insF (lA, inst σ a) [(lB, inst σ b)] = _
        rw [insF_ge lA_lB]
      · obtain ⟨e, e2⟩ := hs.1.2.2.2 h5 hr
        subst e e2
        exact ⟨rfl, rfl⟩
      · rw [srtF_mem] at hp
        rcases List.mem_append.1 hp with hp | hp
        · obtain ⟨q, hq, rfl⟩ := List.mem_map.1 hp
          exact ih q hq (ho.2 q hq) (hs.2 q hq)
        · cases tl with
          | none => simp [Va.tail] at hp
          | some r =>
            obtain ⟨ls, hls, _⟩ := ho.1.2.2.2.2 r rfl
            exact h.t r ls hls p hp

theorem shT_var (v : Int) : shT (varT v) := by
  unfold varT
  rw [shT_mk]
  exact ⟨⟨by decide, by decide, (fun h => absurd h (by decide)), fun _ _ => ⟨rfl, rfl⟩⟩, (fun p hp => by simp at hp)⟩

theorem comp_sh {L : Sorts} {τ σ : Va} (hτ : τ.Sh L) (hσ : σ.Sh L) (hw : σ.Wf L) : (τ.comp σ).Sh L := by
  refine ⟨fun n hn => inst_sh hτ _ (hw.v n hn) (hσ.v n hn), fun p ls hp q hq => ?_⟩
  obtain ⟨w1, w2⟩ := hw.t p ls hp
  have hq : q ∈ srtF (mapF (inst τ) (σ.t p).1 ++ (τ.tail (σ.t p).2).1) := hq
  rw [srtF_mem] at hq
  rcases List.mem_append.1 hq with hq | hq
  · obtain ⟨r, hr, rfl⟩ := List.mem_map.1 hq
    exact inst_sh hτ _ (w1 r hr) (hσ.t p ls hp r hr)
  · cases hq2 : (σ.t p).2 with
    | none => rw [hq2] at hq; simp [Va.tail] at hq
    | some s =>
      rw [hq2] at hq
      obtain ⟨ls', k1, _⟩ := w2 s hq2
      exact hτ.t s ls' k1 q hq

theorem stc_sh : ∀ (t : Ut) (m : Int), shT t → shT (stc m t).1 :=
  Ut.ind fun k n fs tl ih m hs => by
    rw [shT_mk] at hs
    rw [stc_mk]
    by_cases hk : k = 0
    · rw [if_pos hk]
      exact shT_var m
    · rw [if_neg hk, shT_mk]
      refine ⟨⟨hs.1.1, hs.1.2.1, fun h5 => ?_, fun h5 hr => ?_⟩, ?_⟩
      · obtain ⟨⟨a, b, e⟩, e2⟩ := hs.1.2.2.1 h5
        subst e e2
        refine ⟨?_, rfl⟩
        rw [stcF_cons, stcF_cons, stcF_nil]
        exact ⟨_, _, rfl⟩
      · obtain ⟨e, e2⟩ := hs.1.2.2.2 h5 hr
        subst e e2
        rw [stcF_nil]
        exact ⟨rfl, rfl⟩
      · have key : ∀ (gs : Fl) (m : Int), (∀ p ∈ gs, ∀ m, shT (stc m p.2).1) → ∀ p ∈ (stcF m gs).1, shT p.2 := by
          intro gs
          induction gs with
          | nil => intro m _ p hp; rw [stcF_nil] at hp; simp at hp
          | cons g gs ih2 =>
            intro m h p hp
            rw [stcF_cons] at hp
            rcases List.mem_cons.1 hp with rfl | hp
            · exact h g (by simp) m
            · exact ih2 _ (fun p hp => h p (by simp [hp])) p hp
        exact key fs m fun p hp m => ih p hp m (hs.2 p hp)

structure Kn.Sh (S : Kn) : Prop where
  d : ∀ v t, S.κ v = some t → shT t
  σ : S.σ.Sh S.L

section
variable {S : Kn}

theorem Kn.Sh.freshT (h : S.Sh) (i : S.Inv) (ls : List Lb) : (S.freshT ls).Sh := by
  refine ⟨h.d, fun n hn => h.σ.v n ?_, fun p ls' hp q hq => ?_⟩
  · have hn : (if n = S.m then some ls else S.L n) = none := hn
    split at hn
    · cases hn
    · exact hn
  · by_cases e : p = S.m
    · have hq : q ∈ (S.σ.t p).1 := hq
      rw [e, (i.unk S.m (i.free (Int.le_refl _))).2] at hq
      simp at hq
    · have hp : (if p = S.m then some ls else S.L p) = some ls' := hp
      rw [if_neg e] at hp
      exact h.σ.t p ls' hp q hq

theorem Kn.Sh.bindT (h : S.Sh) (i : S.Inv) {p : Int} {ls : List Lb} {t : Ut} (r : RowFor S p ls t) (ht : shT t) : (S.bindT p t).Sh := by
  obtain ⟨_, ho', _, _⟩ := stc_ok t S.m ⟨r.ok, r.bd, i.new⟩
  have hs := inst_sh h.σ _ ho' (stc_sh t S.m ht)
  refine ⟨fun u s hu => ?_, comp_sh ⟨fun n _ => shT_var n, fun q ls' _ x hx => ?_⟩ h.σ i.wf⟩
  · have hu : upd S.κ p (stc S.m t).1 u = some s := hu
    by_cases e : u = p
    · subst e
      rw [upd_same] at hu
      injection hu with hu
      subst hu
      exact stc_sh t S.m ht
    · rw [upd_other e] at hu
      exact h.d u s hu
  · have hx : x ∈ (if q = p then ((inst S.σ (stc S.m t).1).fs, (inst S.σ (stc S.m t).1).tl) else ([], some q)).1 := hx
    split at hx
    · have key : ∀ X, shT X → ∀ x ∈ X.fs, shT x.2 := fun X h x hx => by
        obtain ⟨k, n, fs, tl⟩ := X
        rw [shT_mk] at h
        exact h.2 x hx
      exact key _ hs x hx
    · simp at hx
end

/-! ### A tree laid out -/

end Go.Proofs.Ytblfeokjlecgkaa

namespace Go.Proofs.Ytblfeokjlecgkaa
open Go.MapKept Go.ChangeMaps

/-! Maps whose entries are told one by one: keys of ints, texts and pointers; elements whatever they are. -/

section
variable {κ : Type} [DecidableEq κ]

/-- The first entry at a key: where it is, and what. -/
def findL (a : κ) : List (κ × Value) → Nat → Option (Nat × Value)
  | [], _ => none
  | p :: l, i => if a = p.1 then some (i, p.2) else findL a l (i + 1)

def keysAre (kf : κ → Value) (es : List MapEntry) (l : List (κ × Value)) : Prop := es.map (fun e => (e.key, e.val)) = l.map (fun p => (kf p.1, p.2))

/-- What is at a key now. -/
def putL (a : κ) (v : Value) : List (κ × Value) → List (κ × Value)
  | [] => [(a, v)]
  | p :: l => if a = p.1 then (p.1, v) :: l else p :: putL a v l

/-- What is there. -/
def atL (a : κ) (l : List (κ × Value)) : Option Value := (findL a l 0).map (·.2)

/-- A map in block b: its entries, in the order in which they came. -/
def KMap (kf : κ → Value) (w : World) (b : Nat) (l : List (κ × Value)) : Prop := ∃ es clock, w.heap[b]? = some (.map es clock) ∧ keysAre kf es.toList l

variable {P : Program} {w : World} {kt mt et : TypeId} {kf : κ → Value} {a : κ} {b : Nat} {l : List (κ × Value)}

omit [DecidableEq κ] in
theorem KMap.kept {w' : World} {row : Option Nat} (hM : KMap kf w b l) (hg : w.grownBy w' row) (hne : row ≠ some b) : KMap kf w' b l := by
  obtain ⟨es, clock, hb, hks⟩ := hM
  refine ⟨es, clock, ?_, hks⟩
  have hlt : b < w.heap.size := (Array.getElem?_eq_some_iff.1 hb).1
  rw [hg.block b hlt (fun e => hne e.symm)]
  exact hb

omit [DecidableEq κ] in
theorem KMap.lt (hM : KMap kf w b l) : b < w.heap.size := by
  obtain ⟨es, clock, hb, _⟩ := hM
  exact (Array.getElem?_eq_some_iff.1 hb).1

/-! ### At the operation -/

end

/-! ### Ints, texts, pointers -/

def ik (n : Int) : Value := .int .i64 n
def pk (b : Nat) : Value := .pointer (some ⟨b, 0, none⟩)

section
variable {P : Program} {w : World} {kt : TypeId}

variable {e : TypeId} {i : TypeInfo}

end
end Go.Proofs.Ytblfeokjlecgkaa

/- Trees in memory: nodes, and what stands while the solver is written. -/
namespace Go.Proofs.Ytblfeokjlecgkaa
open Go.RowKit

/-- All blocks that were there stand, but for those of X. -/
structure Fr (X : Nat → Prop) (w w' : World) : Prop where
  os : w'.os = w.os
  tape : w'.tape = w.tape
  output : w'.output = w.output
  size : w.heap.size ≤ w'.heap.size
  block : ∀ k, k < w.heap.size → ¬ X k → w'.heap[k]? = w.heap[k]?

section
variable {X Y : Nat → Prop} {w w' w2 : World}

theorem Fr.refl (X : Nat → Prop) (w : World) : Fr X w w := ⟨rfl, rfl, rfl, Nat.le_refl _, fun _ _ _ => rfl⟩
theorem Fr.trans (h : Fr X w w') (k : Fr X w' w2) : Fr X w w2 :=
  ⟨k.os.trans h.os, k.tape.trans h.tape, k.output.trans h.output, Nat.le_trans h.size k.size, fun i hi hx => (k.block i (by have := h.size; omega) hx).trans (h.block i hi hx)⟩
theorem Fr.mono (h : Fr X w w') (hxy : ∀ k, X k → Y k) : Fr Y w w' := ⟨h.os, h.tape, h.output, h.size, fun k hk hy => h.block k hk fun hx => hy (hxy k hx)⟩
/-- What is written was not there at first. -/
theorem Fr.new (h : Fr X w w') (k : Fr Y w' w2) (hy : ∀ b, Y b → X b ∨ w.heap.size ≤ b) : Fr X w w2 :=
  ⟨k.os.trans h.os, k.tape.trans h.tape, k.output.trans h.output, Nat.le_trans h.size k.size, fun i hi hx => (k.block i (by have := h.size; omega) fun e => by rcases hy i e with e | e <;> first | exact hx e | omega).trans (h.block i hi hx)⟩
theorem Fr.below (h : Below w.heap.size w w') : Fr X w w' := ⟨h.os, h.tape, h.output, h.size, fun k hk _ => h.block k hk⟩
theorem Fr.grown {row : Option Nat} (h : w.grownBy w' row) (hX : ∀ k, row = some k → X k) : Fr X w w' :=
  ⟨h.os, h.tape, h.output, h.size, fun k hk hx => h.block k hk fun e => hx (hX k e.symm)⟩
theorem Fr.alloc (h : Fr X w w') (o : Obj) : Fr X w (w'.alloc o) := h.trans (Fr.below ((Below.refl _ _).alloc (Nat.le_refl _) o))
theorem Fr.drewN (h : Fr X w w') (n : Nat) : Fr X w (w'.drewN n) := ⟨h.os, h.tape, h.output, h.size, h.block⟩
theorem Fr.setCell (h : Fr X w w') {p : Addr} (hp : X p.block ∨ w.heap.size ≤ p.block) (u : Value) : Fr X w (w'.setCell p u) :=
  ⟨h.os, h.tape, h.output, by have := h.size; simpa [World.setCell] using this, fun k hk hx => by
    rw [Below.heap_setCell _ _ _ _ (by rintro rfl; rcases hp with e | e; exact hx e; omega)]
    exact h.block k hk hx⟩
/-- Nothing that was there is written. -/
theorem Fr.toBelow (h : Fr X w w') (hX : ∀ k, X k → w.heap.size ≤ k) : Below w.heap.size w w' :=
  ⟨h.os, h.tape, h.output, h.size, fun k hk => h.block k hk fun e => by have := hX k e; omega⟩
end

def encB (b : Nat) : List Value := [pk b]
def encL (s : ByteArray) : List Value := [.string s]
theorem encL_len (s : ByteArray) : (encL s).length = 1 := rfl
/-- A slice that reads as a list, in a block that is not written. -/
def Lies {α : Type} (X : Nat → Prop) (size : Nat) (enc : α → List Value) (w : World) (A : Option Addr) (l : List α) : Prop :=
  l ≠ [] → ∃ b o, A = some ⟨b, o, none⟩ ∧ ¬ X b ∧ b < w.heap.size ∧ ∀ (i : Nat) (x : α), l[i]? = some x → ∀ (j : Nat) (u : Value), (enc x)[j]? = some u → w.cell? ⟨b, o + i * size + j, none⟩ = some u

section
variable {α : Type} {X Y : Nat → Prop} {size : Nat} {enc : α → List Value} {w w' : World} {A : Option Addr} {l : List α}

theorem Lies.nil : Lies X size enc w A ([] : List α) := fun h => absurd rfl h

theorem Lies.fr (h : Lies X size enc w A l) (hf : Fr Y w w') (hY : ∀ k, k < w.heap.size → Y k → X k) : Lies X size enc w' A l := fun hne => by
  obtain ⟨b, o, rfl, hx, hb, hr⟩ := h hne
  refine ⟨b, o, rfl, hx, by have := hf.size; omega, fun i x hi j u hj => ?_⟩
  rw [World.cell?_of_block (w := w) (hf.block b hb fun e => hx (hY b hb e))]
  exact hr i x hi j u hj

theorem Lies.more (h : Lies X size enc w A l) (hY : ∀ k, k < w.heap.size → Y k → X k) : Lies Y size enc w A l := fun hne => by
  obtain ⟨b, o, rfl, hx, hb, hr⟩ := h hne
  exact ⟨b, o, rfl, fun e => hx (hY b hb e), hb, hr⟩

theorem Lies.read (h : Lies X size enc w A l) : ReadL size enc w w.heap.size A l := fun hne => by
  obtain ⟨b, o, e, hx, hb, hr⟩ := h hne
  exact ⟨b, o, e, hb, hr⟩

end

/-- A tail's node. -/
def TailAt (X : Nat → Prop) (w : World) (v : Value) : Option Int → Prop
  | none => v = .pointer none
  | some q => ∃ b, v = pk b ∧ ¬ X b ∧ w.heap[b]? = some (.cells #[.int .i64 9, .int .i64 q, .slice none 0 0, .slice none 0 0, .pointer none] 105 (0, 0))

/-- A tree in memory, in blocks that are not written. -/
inductive NodeAt (X : Nat → Prop) (w : World) : Nat → Ut → Prop
  | mk (b : Nat) (k n : Int) (fs : Fl) (tl : Option Int) (A B : Option Addr) (ls : List ByteArray) (bs : List Nat) (ca cb : Nat) (tv : Value)
      (hx : ¬ X b) (hb : w.heap[b]? = some (.cells #[.int .i64 k, .int .i64 n, .slice A ls.length ca, .slice B bs.length cb, tv] 105 (0, 0)))
      (hn : ls.length = bs.length) (hl : isRowB k = true → ls = labsF fs) (hA : Lies X 1 encL w A ls) (hB : Lies X 1 encB w B bs)
      (hlen : bs.length = fs.length) (hk : ∀ (i : Nat) (p : Lb × Ut) (c : Nat), fs[i]? = some p → bs[i]? = some c → NodeAt X w c p.2) (ht : TailAt X w tv tl) : NodeAt X w b (.mk k n fs tl)

section
variable {X Y : Nat → Prop} {w w' : World} {b : Nat} {t : Ut}

theorem TailAt.fr {v : Value} {tl : Option Int} (h : TailAt X w v tl) (hf : Fr Y w w') (hY : ∀ k, k < w.heap.size → Y k → X k) : TailAt X w' v tl := by
  cases tl with
  | none => exact h
  | some q =>
    obtain ⟨b, e, hx, hb⟩ := h
    have hlt : b < w.heap.size := (Array.getElem?_eq_some_iff.1 hb).1
    exact ⟨b, e, hx, (hf.block b hlt fun z => hx (hY b hlt z)).trans hb⟩

theorem TailAt.more {v : Value} {tl : Option Int} (h : TailAt X w v tl) (hY : ∀ k, k < w.heap.size → Y k → X k) : TailAt Y w v tl := by
  cases tl with
  | none => exact h
  | some q =>
    obtain ⟨b, e, hx, hb⟩ := h
    have hlt : b < w.heap.size := (Array.getElem?_eq_some_iff.1 hb).1
    exact ⟨b, e, fun z => hx (hY b hlt z), hb⟩

theorem NodeAt.lt (h : NodeAt X w b t) : b < w.heap.size := by
  cases h with
  | mk _ _ _ _ _ _ _ _ _ _ _ _ _ hb => exact (Array.getElem?_eq_some_iff.1 hb).1

theorem NodeAt.out (h : NodeAt X w b t) : ¬ X b := by
  cases h with
  | mk _ _ _ _ _ _ _ _ _ _ _ _ hx => exact hx

/-- It stands, whatever is written elsewhere. -/
theorem NodeAt.fr (h : NodeAt X w b t) (hf : Fr Y w w') (hY : ∀ k, k < w.heap.size → Y k → X k) : NodeAt X w' b t := by
  induction h with
  | mk b k n fs tl A B ls bs ca cb tv hx hb hn hl hA hB hlen hk ht ih =>
    have hlt : b < w.heap.size := (Array.getElem?_eq_some_iff.1 hb).1
    exact .mk b k n fs tl A B ls bs ca cb tv hx ((hf.block b hlt fun z => hx (hY b hlt z)).trans hb) hn hl (hA.fr hf hY) (hB.fr hf hY) hlen ih (ht.fr hf hY)

theorem NodeAt.more (h : NodeAt X w b t) (hY : ∀ k, k < w.heap.size → Y k → X k) : NodeAt Y w b t := by
  induction h with
  | mk b k n fs tl A B ls bs ca cb tv hx hb hn hl hA hB hlen hk ht ih =>
    have hlt : b < w.heap.size := (Array.getElem?_eq_some_iff.1 hb).1
    exact .mk b k n fs tl A B ls bs ca cb tv (fun z => hx (hY b hlt z)) hb hn hl (hA.more hY) (hB.more hY) hlen ih (ht.more hY)
end

/-- The solver in memory: its struct in block s, its map in block m; X: what may be written. -/
structure SolAt (X : Nat → Prop) (s m : Nat) (first : Int) (w : World) (S : Kn) : Prop where
  ne : s ≠ m
  xs : X s
  xm : X m
  st : w.heap[s]? = some (.cells #[.int .i64 first, .int .i64 S.m, .map (some m)] 87 (0, 0))
  map : ∃ l, KMap ik w m l ∧ ∀ n : Int, match S.κ n with
    | none => atL n l = none
    | some t => ∃ b, atL n l = some (pk b) ∧ NodeAt X w b t

theorem SolAt.fr {X : Nat → Prop} {s m : Nat} {first : Int} {w w' : World} {S : Kn} {Y : Nat → Prop} (h : SolAt X s m first w S) (hf : Fr Y w w') (hY : ∀ k, k < w.heap.size → Y k → X k ∧ k ≠ s ∧ k ≠ m) : SolAt X s m first w' S := by
  obtain ⟨h1, hx1, hx2, h2, l, ⟨es, clock, h3, h4⟩, h5⟩ := h
  have e : ∀ {b : Nat} {o : Obj}, (b = s ∨ b = m) → w.heap[b]? = some o → w'.heap[b]? = some o := fun {b o} hbs hb => by
    have hlt : b < w.heap.size := (Array.getElem?_eq_some_iff.1 hb).1
    rw [hf.block b hlt fun hy => by
      obtain ⟨_, a1, a2⟩ := hY b hlt hy
      rcases hbs with e | e
      · exact a1 e
      · exact a2 e]
    exact hb
  refine ⟨h1, hx1, hx2, e (.inl rfl) h2, l, ⟨es, clock, e (.inr rfl) h3, h4⟩, fun n => ?_⟩
  have := h5 n
  cases hk : S.κ n with
  | none => rw [hk] at this; exact this
  | some t =>
    rw [hk] at this
    obtain ⟨b, hb, hn⟩ := this
    exact ⟨b, hb, hn.fr hf fun k hk hy => (hY k hk hy).1⟩

theorem SolAt.more {X Y : Nat → Prop} {s m : Nat} {first : Int} {w : World} {S : Kn} (h : SolAt X s m first w S) (hs : Y s) (hm : Y m) (hY : ∀ k, k < w.heap.size → Y k → X k) : SolAt Y s m first w S := by
  obtain ⟨h1, _, _, h2, l, h3, h5⟩ := h
  refine ⟨h1, hs, hm, h2, l, h3, fun n => ?_⟩
  have := h5 n
  cases hk : S.κ n with
  | none => rw [hk] at this; exact this
  | some t =>
    rw [hk] at this
    obtain ⟨b, hb, hn⟩ := this
    exact ⟨b, hb, hn.more hY⟩
end Go.Proofs.Ytblfeokjlecgkaa
