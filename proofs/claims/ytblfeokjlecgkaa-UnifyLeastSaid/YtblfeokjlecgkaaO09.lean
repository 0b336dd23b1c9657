/- Laid together by a tool from the texts of this seat: PutP. Conditions: each theorem's own. -/
import Derived.Test.YtblfeokjlecgkaaO08
/- Right trees by their structure: no places, no program. -/
namespace Go.Proofs.Ytblfeokjlecgkaa

/-- So many right children of a node, from the k-th one on, at most so deep. -/
inductive RtF : Nat → Nd → Int → ByteArray → Nat → List Nd → Prop
  | nil (f : Nat) (x : Nd) (k : Int) (last : ByteArray) : RtF f x k last 0 []
  | cons {f : Nat} {x : Nd} {k : Int} {last : ByteArray} {d : Nat} {y : Nd} {ks rs : List Nd} (ho : okNode y.k y.n = true) (hc : childOk x k last y = true)
      (h1 : RtF f y 0 ByteArray.empty (manyN y) ks) (h2 : RtF (f + 1) x (k + 1) y.s d rs) : RtF (f + 1) x k last (d + 1) (y :: (ks ++ rs))

theorem RtF.fo {f : Nat} {x : Nd} {k : Int} {last : ByteArray} {d : Nat} {ks : List Nd} (h : RtF f x k last d ks) : Fo d ks := by
  induction h with
  | nil => exact Fo.zero
  | cons ho hc h1 h2 i1 i2 => exact Fo.cons i1 i2

theorem RtF.ok {f : Nat} {x : Nd} {k : Int} {last : ByteArray} {d : Nat} {ks : List Nd} (h : RtF f x k last d ks) : okAll ks := by
  induction h with
  | nil => intro y hy; simp at hy
  | cons ho hc h1 h2 i1 i2 =>
    intro z hz
    simp only [List.mem_cons, List.mem_append] at hz
    rcases hz with rfl | hz | hz
    · exact ho
    · exact i1 z hz
    · exact i2 z hz

theorem kidsP_rt {T : List Nd} {f : Nat} (x : Nd)
    (ih : ∀ i j, treeP T f i = some j → ∃ (g : Nat) (y : Nd) (ks rest : List Nd), f = g + 1 ∧ T.drop i = y :: (ks ++ rest) ∧ j = i + 1 + ks.length ∧ RtF g y 0 ByteArray.empty (manyN y) ks ∧ okNode y.k y.n = true) :
    ∀ (d : Nat) (k : Int) (last : ByteArray) (i j : Nat), kidsP (treeP T f) T x d k last i = some j → ∃ ks rest, T.drop i = ks ++ rest ∧ j = i + ks.length ∧ RtF f x k last d ks := by
  intro d
  induction d with
  | zero =>
    intro k last i j h
    simp only [kidsP, Option.some.injEq] at h
    exact ⟨[], T.drop i, rfl, by simp [h], .nil _ _ _ _⟩
  | succ d ihd =>
    intro k last i j h
    simp only [kidsP] at h
    split at h
    · cases h
    · rename_i y hy
      split at h
      · rename_i hc
        split at h
        · cases h
        · rename_i at' hat
          obtain ⟨g, y', ks, rest, rfl, hd, rfl, hr, ho⟩ := ih i at' hat
          rw [drop_cons hy] at hd
          injection hd with e1 e2
          subst e1
          obtain ⟨rs, rest', hd2, rfl, hr2⟩ := ihd (k + 1) y.s _ j h
          have e3 : T.drop (i + 1 + ks.length) = rest := by rw [← List.drop_drop, e2, List.drop_left]
          rw [e3] at hd2
          refine ⟨y :: (ks ++ rs), rest', ?_, by simp; omega, .cons ho hc hr hr2⟩
          rw [drop_cons hy, e2, hd2]
          simp
      · cases h

theorem treeP_rt {T : List Nd} : ∀ (f i j : Nat), treeP T f i = some j → ∃ (g : Nat) (y : Nd) (ks rest : List Nd), f = g + 1 ∧ T.drop i = y :: (ks ++ rest) ∧ j = i + 1 + ks.length ∧ RtF g y 0 ByteArray.empty (manyN y) ks ∧ okNode y.k y.n = true := by
  intro f
  induction f with
  | zero => intro i j h; cases h
  | succ f ih =>
    intro i j h
    simp only [treeP] at h
    split at h
    · cases h
    · rename_i y hy
      split at h
      · rename_i ho
        obtain ⟨ks, rest, hd, rfl, hr⟩ := kidsP_rt y ih _ _ _ _ _ h
        exact ⟨f, y, ks, rest, rfl, by rw [drop_cons hy, hd], by omega, hr, ho⟩
      · cases h

theorem RtF.kidsP {f : Nat} {x : Nd} {k : Int} {last : ByteArray} {d : Nat} {ks : List Nd} (h : RtF f x k last d ks) :
    ∀ (T rest : List Nd) (i : Nat), T.drop i = ks ++ rest → kidsP (treeP T f) T x d k last i = some (i + ks.length) := by
  induction h with
  | nil => intro T rest i hd; simp [Go.Proofs.Ytblfeokjlecgkaa.kidsP]
  | @cons f x k last d y ks rs ho hc h1 h2 i1 i2 =>
    intro T rest i hd
    have hd0 : T.drop i = y :: (ks ++ (rs ++ rest)) := by rw [hd]; simp
    have hy : T[i]? = some y := by
      have := congrArg (fun l => l[0]?) hd0
      simpa using this
    have hd1 : T.drop (i + 1) = ks ++ (rs ++ rest) := by
      rw [drop_cons hy] at hd0
      injection hd0
    have hd2 : T.drop (i + 1 + ks.length) = rs ++ rest := by rw [← List.drop_drop, hd1, List.drop_left]
    have ht : treeP T (f + 1) i = some (i + 1 + ks.length) := by
      simp only [treeP, hy]
      rw [if_pos ho]
      exact i1 T _ _ hd1
    simp only [Go.Proofs.Ytblfeokjlecgkaa.kidsP, hy, ht]
    rw [if_pos hc, i2 T rest _ hd2]
    simp
    omega

theorem RtF.mono {f : Nat} {x : Nd} {k : Int} {last : ByteArray} {d : Nat} {ks : List Nd} (h : RtF f x k last d ks) : ∀ g, f ≤ g → RtF g x k last d ks := by
  induction h with
  | nil => intro g _; exact .nil _ _ _ _
  | cons ho hc h1 h2 i1 i2 =>
    intro g hg
    obtain ⟨g', rfl⟩ : ∃ g', g = g' + 1 := ⟨g - 1, by omega⟩
    exact .cons ho hc (i1 g' (by omega)) (i2 _ hg)

/-- A type by its structure. -/
structure IsR (T : List Nd) (y : Nd) (ks : List Nd) : Prop where
  eq : T = y :: ks
  len : T.length ≤ 10000
  s : y.s = ByteArray.empty
  k : y.k ≠ 9
  ok : okNode y.k y.n = true
  rt : RtF 99 y 0 ByteArray.empty (manyN y) ks

theorem isR_of {T : List Nd} (h : rightB T = true) : ∃ y ks, IsR T y ks := by
  obtain ⟨ht, hl, x, ys, rfl, hs, hk⟩ := right_parts h
  obtain ⟨g, y, ks, rest, hg, hd, hj, hr, ho⟩ := treeP_rt _ _ _ ht
  have : g = 99 := by omega
  subst this
  have hd' : x :: ys = y :: (ks ++ rest) := hd
  injection hd' with e1 e2
  subst e1
  have : rest = [] := by
    rw [e2] at hj
    simp at hj
    exact List.eq_nil_of_length_eq_zero (by omega)
  subst this
  rw [List.append_nil] at e2
  subst e2
  exact ⟨x, ys, rfl, hl, hs, hk, ho, hr⟩

theorem IsR.right {T : List Nd} {y : Nd} {ks : List Nd} (h : IsR T y ks) : rightB T = true := by
  have key : ∀ f, RtF f y 0 ByteArray.empty (manyN y) ks → treeP T (f + 1) 0 = some T.length := by
    intro f hf
    have hd : T.drop 1 = ks ++ [] := by rw [h.eq]; simp
    have := hf.kidsP T [] 1 hd
    have hy : T[0]? = some y := by rw [h.eq]; rfl
    have hlen : T.length = 1 + ks.length := by rw [h.eq]; simp; omega
    simp only [treeP, hy]
    rw [if_pos h.ok, hlen]
    exact this
  have ht : treeP T 100 0 = some T.length := key 99 h.rt
  unfold rightB
  simp only [Bool.and_eq_true, decide_eq_true_eq]
  refine ⟨⟨h.len, ?_⟩, ht⟩
  rw [h.eq]
  unfold rootOk
  simp [h.s, h.k]

end Go.Proofs.Ytblfeokjlecgkaa

/- What a put comes to, as data. -/
namespace Go.Proofs.Ytblfeokjlecgkaa

def nameN (s : ByteArray) : List Nd → List Nd
  | [] => []
  | x :: ys => x.name s :: ys

/-- Into a row that rises by labels. -/
def insT (t : List Nd) : List (List Nd) → List (List Nd)
  | [] => [t]
  | s :: l => if ltB (headNd s).s (headNd t).s = true then s :: insT t l else t :: s :: l

/-- Rising by labels. -/
def srtT : List (List Nd) → List (List Nd)
  | [] => []
  | t :: l => insT t (srtT l)

/-- What a row becomes. -/
def rowOut (n : Int) (x : Nd) (utss outs : List (List Nd)) : List Nd :=
  if hitB n outs then ⟨x.k, x.s, ((lOf outs ++ lOf utss).length + (tOf utss).length : Nat)⟩ :: (srtT (lOf outs ++ lOf utss) ++ tOf utss).flatten
  else ⟨x.k, x.s, (outs.length : Nat)⟩ :: outs.flatten

/-- A type with another one for a number; and the three flags. -/
def putG (n : Int) (u : List Nd) (utss : List (List Nd)) : Nat → List Nd → List Nd × Bool × Bool × Bool
  | 0, _ => ([], false, false, false)
  | _ + 1, [] => ([], false, false, false)
  | f + 1, x :: ks =>
    if x.k = 8 ∧ x.n = n then (nameN x.s u, false, false, false)
    else
      let rs := (splitF (manyN x) ks).map (putG n u utss f)
      let outs := rs.map (·.1)
      if isRowB x.k = true then (rowOut n x utss outs, rs.any (·.2.1) || rowK n (headNd u).k x.k outs, rs.any (·.2.2.1) || rowT n (headNd u).k x.k utss outs, rs.any (·.2.2.2) || rowM n utss outs)
      else (x :: outs.flatten, rs.any (·.2.1), rs.any (·.2.2.1), rs.any (·.2.2.2))

theorem rest1_le (xs : List Nd) : (rest1 xs).length ≤ xs.length := by
  unfold rest1
  cases h : skip xs 1 with
  | none => simp
  | some ys =>
    obtain ⟨ps, rfl, _⟩ := skip_split _ _ _ h
    simp

theorem splitF_mem : ∀ (d : Nat) (ks ts : List Nd), ts ∈ splitF d ks → ts.length ≤ ks.length
  | 0, ks, ts, h => by simp [splitF] at h
  | d + 1, ks, ts, h => by
    simp only [splitF, List.mem_cons] at h
    rcases h with rfl | h
    · simp
    · have := splitF_mem d _ _ h
      have := rest1_le ks
      omega

theorem splitF_len : ∀ (d : Nat) (ks : List Nd), (splitF d ks).length = d
  | 0, _ => rfl
  | d + 1, ks => by simp [splitF, splitF_len d]

/-- Fuel is all one, if it is enough. -/
theorem putG_fuel (n : Int) (u : List Nd) (utss : List (List Nd)) : ∀ (f g : Nat) (ts : List Nd), ts.length ≤ f → ts.length ≤ g → putG n u utss f ts = putG n u utss g ts := by
  intro f
  induction f with
  | zero =>
    intro g ts h _
    have : ts = [] := List.eq_nil_of_length_eq_zero (by omega)
    subst this
    cases g <;> rfl
  | succ f ih =>
    intro g ts h hg
    match ts, g, h, hg with
    | [], 0, _, _ => rfl
    | [], g + 1, _, _ => rfl
    | x :: ks, g + 1, h, hg =>
      have e : (splitF (manyN x) ks).map (putG n u utss f) = (splitF (manyN x) ks).map (putG n u utss g) := by
        refine List.map_congr_left fun t ht => ih g t ?_ ?_
        · have := splitF_mem _ _ _ ht
          simp at h
          omega
        · have := splitF_mem _ _ _ ht
          simp at hg
          omega
      simp only [putG, e]

/-- Whether heads are told by heads alone. -/
theorem tailB_heads {a b : List (List Nd)} (h : a.map headNd = b.map headNd) : tailB a = tailB b := by
  unfold tailB
  have e := congrArg List.getLast? h
  rw [List.getLast?_map, List.getLast?_map] at e
  cases ha : a.getLast? <;> cases hb : b.getLast? <;> rw [ha, hb] at e <;> simp at e
  simp [e]

theorem len_heads {a b : List (List Nd)} (h : a.map headNd = b.map headNd) : a.length = b.length := by
  have := congrArg List.length h
  simpa using this

theorem lOf_heads {a b : List (List Nd)} (h : a.map headNd = b.map headNd) : (lOf a).map headNd = (lOf b).map headNd := by
  unfold lOf
  rw [tailB_heads h, len_heads h]
  split
  · rw [List.map_take, List.map_take, h]
  · exact h

theorem tOf_heads {a b : List (List Nd)} (h : a.map headNd = b.map headNd) : (tOf a).map headNd = (tOf b).map headNd := by
  unfold tOf
  rw [tailB_heads h, len_heads h]
  split
  · rw [List.map_drop, List.map_drop, h]
  · rfl

theorem hitB_heads {n : Int} {a b : List (List Nd)} (h : a.map headNd = b.map headNd) : hitB n a = hitB n b := by
  have e := tOf_heads h
  unfold hitB
  cases ha : tOf a <;> cases hb : tOf b <;> rw [ha, hb] at e <;> simp at e
  simp [e.1]

theorem labsT_heads (a : List (List Nd)) : labsT a = (a.map headNd).map (·.s) := by
  unfold labsT
  simp

theorem rowK_heads {n : Int} {uk xk : Int} {a b : List (List Nd)} (h : a.map headNd = b.map headNd) : rowK n uk xk a = rowK n uk xk b := by
  unfold rowK
  rw [hitB_heads h]

theorem rowT_heads {n : Int} {uk xk : Int} {utss a b : List (List Nd)} (h : a.map headNd = b.map headNd) : rowT n uk xk utss a = rowT n uk xk utss b := by
  unfold rowT
  rw [hitB_heads h, labsT_heads, labsT_heads, List.map_append, List.map_append (f := headNd), lOf_heads h]

theorem rowN_heads {n : Int} {utss a b : List (List Nd)} (h : a.map headNd = b.map headNd) : rowN n utss a = rowN n utss b := by
  unfold rowN
  rw [hitB_heads h, List.length_append, List.length_append, len_heads h, len_heads (lOf_heads h)]

theorem rowM_heads {n : Int} {utss a b : List (List Nd)} (h : a.map headNd = b.map headNd) : rowM n utss a = rowM n utss b := by
  unfold rowM
  rw [rowN_heads h]

theorem insT_perm (t : List Nd) : ∀ l : List (List Nd), (insT t l).Perm (t :: l)
  | [] => .refl _
  | s :: l => by
    unfold insT
    split
    · exact ((insT_perm t l).cons s).trans (.swap t s l)
    · exact .refl _

theorem srtT_perm : ∀ l : List (List Nd), (srtT l).Perm l
  | [] => .refl _
  | t :: l => (insT_perm t _).trans ((srtT_perm l).cons t)

def leT (a b : List Nd) : Prop := ltB (headNd b).s (headNd a).s = false

theorem ltB_asym {a b : ByteArray} (h : ltB a b = true) : ltB b a = false := by
  cases h2 : ltB b a
  · rfl
  · have := ltB_trans h h2
    rw [ltB_irrefl] at this
    cases this

theorem insT_sorted (t : List Nd) : ∀ l : List (List Nd), l.Pairwise leT → (insT t l).Pairwise leT
  | [], _ => by simp [insT]
  | s :: l, h => by
    rw [List.pairwise_cons] at h
    unfold insT
    split
    · next hlt =>
      rw [List.pairwise_cons]
      refine ⟨fun b hb => ?_, insT_sorted t l h.2⟩
      rcases List.mem_cons.1 ((insT_perm t l).mem_iff.1 hb) with rfl | hb
      · exact ltB_asym hlt
      · exact h.1 b hb
    · next hlt =>
      have hlt' : ltB (headNd s).s (headNd t).s = false := by simpa using hlt
      rw [List.pairwise_cons]
      refine ⟨fun b hb => ?_, by rw [List.pairwise_cons]; exact h⟩
      rcases List.mem_cons.1 hb with rfl | hb
      · exact hlt'
      · exact ltB_ntrans (h.1 b hb) hlt'

theorem srtT_sorted : ∀ l : List (List Nd), (srtT l).Pairwise leT
  | [] => .nil
  | t :: l => insT_sorted t _ (srtT_sorted l)

theorem nodup_labs {t : List Nd} {l : List (List Nd)} (h : (labsT (t :: l)).Nodup) : (∀ s ∈ l, (headNd s).s ≠ (headNd t).s) ∧ (labsT l).Nodup := by
  unfold labsT at h ⊢
  rw [List.map_cons, List.nodup_cons] at h
  exact ⟨fun s hs e => h.1 (List.mem_map.2 ⟨s, hs, e⟩), h.2⟩

/-- Rows that rise, of the same children, with labels apart, are one. -/
theorem sorted_uniq : ∀ (l r : List (List Nd)), l.Perm r → l.Pairwise leT → r.Pairwise leT → (labsT l).Nodup → l = r
  | [], r, h, _, _, _ => (List.nil_perm.1 h).symm
  | a :: l, r, h, hl, hr, hn => by
    cases r with
    | nil => exact absurd h.length_eq (by simp)
    | cons b r =>
      obtain ⟨h1, h2⟩ := nodup_labs hn
      rw [List.pairwise_cons] at hl hr
      by_cases e : a = b
      · subst e
        rw [sorted_uniq l r h.cons_inv hl.2 hr.2 h2]
      · have hb : b ∈ l := by
          rcases List.mem_cons.1 (h.mem_iff.2 (List.mem_cons_self ..)) with e2 | hb
          · exact absurd e2.symm e
          · exact hb
        have ha : a ∈ r := by
          rcases List.mem_cons.1 (h.mem_iff.1 (List.mem_cons_self ..)) with e2 | ha
          · exact absurd e2 e
          · exact ha
        exact absurd (ltB_eq (hl.1 b hb) (hr.1 a ha)) (h1 b hb)

theorem lab_tq {L : List (List Nd)} {i : Nat} (h : i < L.length) : lab (labsT L) i = (headNd (tq L i)).s := by
  unfold lab labsT tq
  simp [List.getElem?_eq_getElem h]

theorem map_tq_perm {L : List (List Nd)} {os : List Nat} (h : os.Perm (List.range L.length)) : (os.map (tq L)).Perm L := by
  have h1 := h.map (tq L)
  have h2 : (List.range L.length).map (tq L) = L := by
    refine List.ext_getElem (by simp) fun i h1 h2 => ?_
    rw [List.getElem_map, List.getElem_range]
    unfold tq
    rw [List.getElem?_eq_getElem h2]
    rfl
  rwa [h2] at h1

theorem sorted_is {L : List (List Nd)} {os : List Nat} (h : os.Perm (List.range L.length)) (hs : os.Pairwise (fun i j => ltB (lab (labsT L) j) (lab (labsT L) i) = false)) (hn : (labsT L).Nodup) : os.map (tq L) = srtT L := by
  have hp := map_tq_perm h
  refine sorted_uniq _ _ (hp.trans (srtT_perm L).symm) ?_ (srtT_sorted L) ?_
  · rw [List.pairwise_map]
    refine List.Pairwise.imp_of_mem ?_ hs
    intro i j hi hj hij
    have h1 : i < L.length := List.mem_range.1 (h.mem_iff.1 hi)
    have h2 : j < L.length := List.mem_range.1 (h.mem_iff.1 hj)
    rw [lab_tq h1, lab_tq h2] at hij
    exact hij
  · exact (hp.map _).nodup_iff.2 hn

/-- A put and its flags: as told; but that a row with a label twice may stand in any order. -/
structure PG (n : Int) (u : List Nd) (utss : List (List Nd)) (f : Nat) (ts out : List Nd) (bk bt bm : Bool) : Prop where
  k : bk = (putG n u utss f ts).2.1
  t : bt = (putG n u utss f ts).2.2.1
  m : bm = (putG n u utss f ts).2.2.2
  hd : headNd out = headNd (putG n u utss f ts).1
  ne : out ≠ []
  len : out.length ≤ ts.length * (u.length + 1)
  eq : bk = false → bt = false → out = (putG n u utss f ts).1

structure PGs (n : Int) (u : List Nd) (utss : List (List Nd)) (f : Nat) (tss outs : List (List Nd)) (bk bt bm : Bool) : Prop where
  k : bk = (tss.map (putG n u utss f)).any (·.2.1)
  t : bt = (tss.map (putG n u utss f)).any (·.2.2.1)
  m : bm = (tss.map (putG n u utss f)).any (·.2.2.2)
  hd : outs.map headNd = ((tss.map (putG n u utss f)).map (·.1)).map headNd
  ne : ∀ o ∈ outs, o ≠ []
  len : outs.flatten.length ≤ tss.flatten.length * (u.length + 1)
  eq : bk = false → bt = false → outs = (tss.map (putG n u utss f)).map (·.1)

section
variable {n : Int} {u : List Nd} {utss : List (List Nd)} {f : Nat} {ts out : List Nd} {tss outs : List (List Nd)} {k t m k' t' m' : Bool} {x : Nd} {ks : List Nd}

theorem PGs.nil (n : Int) (u : List Nd) (utss : List (List Nd)) (f : Nat) : PGs n u utss f [] [] false false false :=
  ⟨rfl, rfl, rfl, rfl, fun o h => by simp at h, by simp, fun _ _ => rfl⟩

theorem PGs.length (h : PGs n u utss f tss outs k t m) : outs.length = tss.length := by
  have := congrArg List.length h.hd
  simpa using this

theorem PGs.snoc (h : PGs n u utss f tss outs k t m) (h1 : PG n u utss f ts out k' t' m') :
    PGs n u utss f (tss ++ [ts]) (outs ++ [out]) (k || k') (t || t') (m || m') where
  k := by rw [h.k, h1.k]; simp
  t := by rw [h.t, h1.t]; simp
  m := by rw [h.m, h1.m]; simp
  hd := by simp only [List.map_append, h.hd]; simp [h1.hd]
  ne := fun o ho => by
    rcases List.mem_append.1 ho with ho | ho
    · exact h.ne o ho
    · simp at ho; subst ho; exact h1.ne
  len := by
    have a := h.len
    have b := h1.len
    simp only [List.flatten_append, List.length_append, List.flatten_cons, List.flatten_nil, List.append_nil, Nat.add_mul]
    omega
  eq := fun e e2 => by
    simp at e e2
    simp only [List.map_append]
    rw [h.eq e.1 e2.1, h1.eq e.2 e2.2]
    simp

theorem PG.var (h8 : x.k = 8) (hn : x.n = n) (hu : u ≠ []) : PG n u utss (f + 1) (x :: ks) (nameN x.s u) false false false := by
  have e : putG n u utss (f + 1) (x :: ks) = (nameN x.s u, false, false, false) := by
    simp only [putG]
    rw [if_pos ⟨h8, hn⟩]
  refine ⟨by rw [e], by rw [e], by rw [e], by rw [e], ?_, ?_, fun _ _ => by rw [e]⟩
  · cases u with
    | nil => exact absurd rfl hu
    | cons y ys => simp [nameN]
  · cases u with
    | nil => exact absurd rfl hu
    | cons y ys =>
      have : 1 * ((y :: ys).length + 1) ≤ (x :: ks).length * ((y :: ys).length + 1) := Nat.mul_le_mul_right _ (by simp)
      simp [nameN] at *
      omega

theorem PG.node (hv : ¬ (x.k = 8 ∧ x.n = n)) (hr : isRowB x.k = false) (ht : Trees (manyN x) tss.flatten tss) (h : PGs n u utss f tss outs k t m) :
    PG n u utss (f + 1) (x :: tss.flatten) (x :: outs.flatten) k t m := by
  have e : putG n u utss (f + 1) (x :: tss.flatten) = (x :: ((tss.map (putG n u utss f)).map (·.1)).flatten, (tss.map (putG n u utss f)).any (·.2.1), (tss.map (putG n u utss f)).any (·.2.2.1), (tss.map (putG n u utss f)).any (·.2.2.2)) := by
    simp only [putG]
    rw [if_neg hv, ← ht.uniq, if_neg (by simp [hr])]
  refine ⟨by rw [e, h.k], by rw [e, h.t], by rw [e, h.m], by rw [e]; rfl, by simp, ?_, fun ek et => by rw [e, h.eq ek et]⟩
  have := h.len
  simp only [List.length_cons, Nat.add_mul]
  omega

theorem RowMid.flat {l tl : List (List Nd)} (h : RowMid n utss outs l tl) : (l ++ tl).flatten.length ≤ outs.flatten.length + utss.flatten.length := by
  unfold RowMid at h
  split at h
  · obtain ⟨rfl, os, hp, _, rfl⟩ := h
    have h1 : ((os.map (tq (lOf outs ++ lOf utss))).flatten).length = ((lOf outs ++ lOf utss).flatten).length := (map_tq_perm hp).flatten.length_eq
    have h2 := congrArg (fun z => (List.flatten z).length) (lOf_tOf utss)
    have h3 := congrArg (fun z => (List.flatten z).length) (lOf_tOf outs)
    simp only [List.flatten_append, List.length_append] at h1 h2 h3 ⊢
    omega
  · obtain ⟨rfl, rfl⟩ := h
    rw [lOf_tOf]
    omega

theorem PG.row (hv : ¬ (x.k = 8 ∧ x.n = n)) (hr : isRowB x.k = true) (ht : Trees (manyN x) tss.flatten tss) (h : PGs n u utss f tss outs k t m)
    (hu : utss.flatten.length < u.length) (hto : RowTo n x utss outs out) :
    PG n u utss (f + 1) (x :: tss.flatten) out (k || rowK n (headNd u).k x.k outs) (t || rowT n (headNd u).k x.k utss outs) (m || rowM n utss outs) := by
  have e : putG n u utss (f + 1) (x :: tss.flatten) = (rowOut n x utss ((tss.map (putG n u utss f)).map (·.1)), (tss.map (putG n u utss f)).any (·.2.1) || rowK n (headNd u).k x.k ((tss.map (putG n u utss f)).map (·.1)),
      (tss.map (putG n u utss f)).any (·.2.2.1) || rowT n (headNd u).k x.k utss ((tss.map (putG n u utss f)).map (·.1)), (tss.map (putG n u utss f)).any (·.2.2.2) || rowM n utss ((tss.map (putG n u utss f)).map (·.1))) := by
    simp only [putG]
    rw [if_neg hv, ← ht.uniq, if_pos hr]
  obtain ⟨l, tl, hm, rfl⟩ := hto
  have hhd : ∀ outs', headNd (rowOut n x utss outs') = ⟨x.k, x.s, (rowN n utss outs' : Nat)⟩ := fun outs' => by
    unfold rowOut rowN
    split <;> rfl
  refine ⟨by rw [e, h.k, rowK_heads h.hd], by rw [e, h.t, rowT_heads h.hd], by rw [e, h.m, rowM_heads h.hd], ?_, by simp, ?_, fun ek et => ?_⟩
  · rw [e]
    show _ = headNd (rowOut n x utss _)
    rw [hhd, hm.len, rowN_heads h.hd]
    rfl
  · have h1 := h.len
    have h2 := hm.flat
    simp only [List.length_cons, Nat.add_mul]
    omega
  · simp only [Bool.or_eq_false_iff] at ek et
    have hos := h.eq ek.1 et.1
    rw [e, ← hos]
    unfold rowOut
    unfold RowMid at hm
    split at hm
    · next hh =>
      rw [if_pos hh]
      obtain ⟨rfl, os, hp, hs, rfl⟩ := hm
      have hkind : ((headNd u).k == x.k) = true := by
        have := ek.2
        unfold rowK at this
        rw [hh, Bool.true_and] at this
        simpa using this
      have hnd : (labsT (lOf outs ++ lOf utss)).Nodup := by
        have := et.2
        unfold rowT at this
        rw [hh, hkind] at this
        simpa using this
      rw [← sorted_is hp hs hnd]
      have hle : (os.map (tq (lOf outs ++ lOf utss))).length = (lOf outs ++ lOf utss).length := (map_tq_perm hp).length_eq
      rw [hle]
    · next hh =>
      rw [if_neg hh]
      obtain ⟨rfl, rfl⟩ := hm
      rw [lOf_tOf, ← List.length_append, lOf_tOf]
end
end Go.Proofs.Ytblfeokjlecgkaa

/- Laws of a put, in plain lists. -/
namespace Go.Proofs.Ytblfeokjlecgkaa

/-- A put, with fuel enough. -/
def putT (n : Int) (u : List Nd) (utss : List (List Nd)) (ts : List Nd) : List Nd × Bool × Bool × Bool := putG n u utss ts.length ts

section
variable {n : Int} {u : List Nd} {utss : List (List Nd)}

theorem putT_kids (d : Nat) (ks : List Nd) : (splitF d ks).map (putG n u utss ks.length) = (splitF d ks).map (putT n u utss) :=
  List.map_congr_left fun _ ht => putG_fuel n u utss _ _ _ (splitF_mem _ _ _ ht) (Nat.le_refl _)

theorem putT_var {x : Nd} {ks : List Nd} (h8 : x.k = 8) (hn : x.n = n) : putT n u utss (x :: ks) = (nameN x.s u, false, false, false) := by
  unfold putT
  simp only [List.length_cons, putG]
  rw [if_pos ⟨h8, hn⟩]

theorem putT_node {x : Nd} {ks : List Nd} (hv : ¬ (x.k = 8 ∧ x.n = n)) (hr : isRowB x.k = false) :
    putT n u utss (x :: ks) = (x :: (((splitF (manyN x) ks).map (putT n u utss)).map (·.1)).flatten, ((splitF (manyN x) ks).map (putT n u utss)).any (·.2.1), ((splitF (manyN x) ks).map (putT n u utss)).any (·.2.2.1), ((splitF (manyN x) ks).map (putT n u utss)).any (·.2.2.2)) := by
  rw [← putT_kids]
  unfold putT
  simp only [List.length_cons, putG]
  rw [if_neg hv, if_neg (by simp [hr])]

theorem putT_row {x : Nd} {ks : List Nd} (hr : isRowB x.k = true) :
    putT n u utss (x :: ks) = (rowOut n x utss (((splitF (manyN x) ks).map (putT n u utss)).map (·.1)), ((splitF (manyN x) ks).map (putT n u utss)).any (·.2.1) || rowK n (headNd u).k x.k (((splitF (manyN x) ks).map (putT n u utss)).map (·.1)),
      ((splitF (manyN x) ks).map (putT n u utss)).any (·.2.2.1) || rowT n (headNd u).k x.k utss (((splitF (manyN x) ks).map (putT n u utss)).map (·.1)),
      ((splitF (manyN x) ks).map (putT n u utss)).any (·.2.2.2) || rowM n utss (((splitF (manyN x) ks).map (putT n u utss)).map (·.1))) := by
  have hv : ¬ (x.k = 8 ∧ x.n = n) := by
    rintro ⟨h8, _⟩
    rw [h8] at hr
    simp [isRowB] at hr
  rw [← putT_kids]
  unfold putT
  simp only [List.length_cons, putG]
  rw [if_neg hv, if_pos hr]
end

theorem splitF_cons {y : Nd} {ks : List Nd} (h : Fo (manyN y) ks) (d : Nat) (rs : List Nd) : splitF (d + 1) (y :: (ks ++ rs)) = (y :: ks) :: splitF d rs := by
  have hf : Fo 1 (y :: ks) := by
    have := Fo.cons (n := 0) (x := y) h Fo.zero
    simpa using this
  have e : y :: (ks ++ rs) = (y :: ks) ++ rs := rfl
  simp only [splitF]
  rw [e, rest1_fo hf, List.length_append, Nat.add_sub_cancel, List.take_left]

theorem row_eta {y : Nd} (ho : okNode y.k y.n = true) (hr : isRowB y.k = true) : (⟨y.k, y.s, (manyN y : Nat)⟩ : Nd) = y := by
  obtain ⟨M, hM, _, hn⟩ := many_nat ho
  have : manyN y = M := by unfold manyN; rw [hM]; simp
  rw [this, ← hn hr]

theorem headNd_mem {t : List Nd} (h : t ≠ []) : headNd t ∈ t := by
  cases t with
  | nil => exact absurd rfl h
  | cons x xs => simp [headNd]

/-- The tail of a row of trees is one of their nodes. -/
theorem hit_mem {n : Int} {d : Nat} {ks : List Nd} (hf : Fo d ks) (h : hitB n (splitF d ks) = true) : ∃ z ∈ ks, z.k = 9 ∧ z.n = n := by
  have ht := trees_of hf
  unfold hitB tOf at h
  split at h
  · cases h
  · next t r e =>
    split at e
    · next htb =>
      have htb2 := htb
      have hm : t ∈ splitF d ks := List.mem_of_mem_drop (by rw [e]; exact List.mem_cons_self ..)
      have hz : headNd t ∈ ks := by
        rw [← ht.flat]
        exact List.mem_flatten.2 ⟨t, hm, headNd_mem (ht.ne hm)⟩
      refine ⟨headNd t, hz, ?_, by simpa using h⟩
      unfold tailB at htb
      rw [List.getLast?_eq_getElem?] at htb
      have hd : (splitF d ks)[(splitF d ks).length - 1]? = some t := by
        have := congrArg (fun l => l[0]?) e
        rw [List.getElem?_drop] at this
        simpa using this
      rw [hd] at htb
      simpa using htb
    · cases e

/-- A put that changes nothing. -/
theorem put_id {n : Int} {u : List Nd} {utss : List (List Nd)} {f : Nat} {x : Nd} {k : Int} {last : ByteArray} {d : Nat} {ks : List Nd} (h : RtF f x k last d ks) :
    (∀ y ∈ ks, isVarB y.k = true → y.n = n → y.k = 8 ∧ nameN y.s u = [y]) → (splitF d ks).map (putT n u utss) = (splitF d ks).map fun ts => (ts, false, false, false) := by
  induction h with
  | nil => intro _; rfl
  | @cons f x k last d y ks rs ho hc h1 h2 i1 i2 =>
    intro hn
    have e1 := i1 fun z hz => hn z (by simp [hz])
    have e2 := i2 fun z hz => hn z (by simp [hz])
    rw [splitF_cons h1.fo]
    simp only [List.map_cons, e2]
    congr 1
    have eo : ((splitF (manyN y) ks).map (putT n u utss)).map (·.1) = splitF (manyN y) ks := by rw [e1]; simp [Function.comp_def]
    have ef : ((splitF (manyN y) ks).map (putT n u utss)).any (·.2.1) = false ∧ ((splitF (manyN y) ks).map (putT n u utss)).any (·.2.2.1) = false ∧ ((splitF (manyN y) ks).map (putT n u utss)).any (·.2.2.2) = false := by rw [e1]; simp
    have ht := trees_of h1.fo
    by_cases hv : y.k = 8 ∧ y.n = n
    · rw [putT_var hv.1 hv.2]
      have hk : ks = [] := by
        have hm : manyN y = 0 := by unfold manyN many; simp [hv.1, isRowB]
        have := h1.fo
        rw [hm] at this
        exact this.of_zero
      subst hk
      rw [(hn y (by simp) (by simp [isVarB, hv.1]) hv.2).2]
    · cases hr : isRowB y.k
      · rw [putT_node hv hr, eo, ef.1, ef.2.1, ef.2.2, ht.flat]
      · have hh : hitB n (splitF (manyN y) ks) = false := by
          cases hh : hitB n (splitF (manyN y) ks)
          · rfl
          · obtain ⟨z, hz, h9, hzn⟩ := hit_mem h1.fo hh
            have := (hn z (by simp [hz]) (by simp [isVarB, h9]) hzn).1
            omega
        have hN : rowN n utss (splitF (manyN y) ks) = manyN y := by
          unfold rowN
          rw [if_neg (by simp [hh]), splitF_len]
        rw [putT_row hr, eo, ef.1, ef.2.1, ef.2.2]
        have h50 := manyN_le ho
        unfold rowOut rowK rowT rowM
        rw [hN, hh, splitF_len, row_eta ho hr, ht.flat]
        simp
        omega

theorem putT_tail {n : Int} {u : List Nd} {utss : List (List Nd)} {y : Nd} {ks : List Nd} (h9 : y.k = 9) : putT n u utss (y :: ks) = ([y], false, false, false) := by
  have hm : manyN y = 0 := by unfold manyN many; simp [h9, isRowB]
  rw [putT_node (by omega) (by simp [h9, isRowB]), hm]
  simp [splitF]

theorem tailB_cons {o : List Nd} {outs : List (List Nd)} (h : outs ≠ []) : tailB (o :: outs) = tailB outs := by
  unfold tailB
  cases outs with
  | nil => exact absurd rfl h
  | cons a l => rw [List.getLast?_cons_cons]

theorem tOf_cons {o : List Nd} {outs : List (List Nd)} (h : outs ≠ []) : tOf (o :: outs) = tOf outs := by
  unfold tOf
  rw [tailB_cons h]
  split
  · cases outs with
    | nil => exact absurd rfl h
    | cons a l => simp
  · rfl

theorem lOf_cons {o : List Nd} {outs : List (List Nd)} (h : outs ≠ []) : lOf (o :: outs) = o :: lOf outs := by
  unfold lOf
  rw [tailB_cons h]
  split
  · cases outs with
    | nil => exact absurd rfl h
    | cons a l => simp
  · rfl

theorem RtF.zero {f : Nat} {x : Nd} {k : Int} {last : ByteArray} {ks : List Nd} (h : RtF f x k last 0 ks) : ks = [] := h.fo.of_zero

end Go.Proofs.Ytblfeokjlecgkaa

/- Two puts, in any order. -/
namespace Go.Proofs.Ytblfeokjlecgkaa

theorem RtF.parent {f : Nat} {x x' : Nd} {k : Int} {last : ByteArray} {d : Nat} {ks : List Nd} (h : RtF f x k last d ks) (h1 : x'.k = x.k) (h2 : x'.n = x.n) : RtF f x' k last d ks := by
  induction h with
  | nil => exact .nil _ _ _ _
  | @cons f x k last d y ks rs ho hc h3 h4 i1 i2 =>
    have e : childOk x' k last y = childOk x k last y := by unfold childOk; rw [h1, h2]
    exact .cons ho (by rw [e]; exact hc) h3 (i2 h1 h2)

/-- What is put: a type, its parts. -/
structure Putted (u : List Nd) (utss : List (List Nd)) : Prop where
  fo : Fo 1 u
  k9 : (headNd u).k ≠ 9
  one : ∀ t ∈ utss, Fo 1 t
  l9 : ∀ t ∈ lOf utss, (headNd t).k ≠ 9
  t1 : (tOf utss).length ≤ 1
  rt : ∃ y ks, u = y :: ks ∧ okNode y.k y.n = true ∧ RtF 99 y 0 ByteArray.empty (manyN y) ks ∧ utss = splitF (manyN y) ks

section
variable {n : Int} {u : List Nd} {utss : List (List Nd)}

theorem nameN_fo {s : ByteArray} {u : List Nd} (h : Fo 1 u) : Fo 1 (nameN s u) := by
  cases u with
  | nil => cases h
  | cons y ys => exact h

theorem fo_node {x : Nd} {ks : List Nd} (h : Fo (manyN x) ks) : Fo 1 (x :: ks) := by
  have := Fo.cons (n := 0) (x := x) h Fo.zero
  simpa using this

theorem manyN_row {x : Nd} (hr : isRowB x.k = true) (m : Nat) : manyN ⟨x.k, x.s, (m : Nat)⟩ = m := by
  unfold manyN many
  have h5 : x.k ≠ 5 := by rintro e; rw [e] at hr; simp [isRowB] at hr
  simp [h5, hr]

theorem mem_lOf {t : List Nd} {l : List (List Nd)} (h : t ∈ lOf l) : t ∈ l := by
  rw [← lOf_tOf l]
  exact List.mem_append_left _ h

theorem mem_tOf {t : List Nd} {l : List (List Nd)} (h : t ∈ tOf l) : t ∈ l := by
  rw [← lOf_tOf l]
  exact List.mem_append_right _ h

/-- The children of what a row becomes. -/
theorem rowOut_kids (x : Nd) (hu : ∀ t ∈ utss, Fo 1 t) {outs : List (List Nd)} (ho : ∀ t ∈ outs, Fo 1 t) :
    rowOut n x utss outs = (if hitB n outs then ⟨x.k, x.s, ((srtT (lOf outs ++ lOf utss) ++ tOf utss).length : Nat)⟩ :: (srtT (lOf outs ++ lOf utss) ++ tOf utss).flatten else ⟨x.k, x.s, (outs.length : Nat)⟩ :: outs.flatten) ∧
      (∀ t ∈ (if hitB n outs then srtT (lOf outs ++ lOf utss) ++ tOf utss else outs), Fo 1 t) := by
  constructor
  · have e : (srtT (lOf outs ++ lOf utss) ++ tOf utss).length = (lOf outs ++ lOf utss).length + (tOf utss).length := by rw [List.length_append, (srtT_perm _).length_eq]
    unfold rowOut
    rw [e]
  · split
    · intro t ht
      rcases List.mem_append.1 ht with ht | ht
      · rcases List.mem_append.1 ((srtT_perm _).mem_iff.1 ht) with ht | ht
        · exact ho t (mem_lOf ht)
        · exact hu t (mem_lOf ht)
      · exact hu t (mem_tOf ht)
    · exact ho

theorem trees_self {outs : List (List Nd)} (h : ∀ t ∈ outs, Fo 1 t) : Trees outs.length outs.flatten outs := ⟨rfl, rfl, h⟩

/-- What is put is a tree. -/
theorem put_fo (hu : Putted u utss) {f : Nat} {x : Nd} {k : Int} {last : ByteArray} {d : Nat} {ks : List Nd} (h : RtF f x k last d ks) : ∀ t ∈ ((splitF d ks).map (putT n u utss)).map (·.1), Fo 1 t := by
  induction h with
  | nil => intro t ht; simp [splitF] at ht
  | @cons f x k last d y ks rs ho hc h1 h2 i1 i2 =>
    rw [splitF_cons h1.fo]
    intro t ht
    simp only [List.map_cons, List.mem_cons] at ht
    rcases ht with rfl | ht
    · by_cases hv : y.k = 8 ∧ y.n = n
      · rw [putT_var hv.1 hv.2]
        exact nameN_fo hu.fo
      · have hlen : (((splitF (manyN y) ks).map (putT n u utss)).map (·.1)).length = manyN y := by simp [splitF_len]
        cases hr : isRowB y.k
        · rw [putT_node hv hr]
          refine fo_node ?_
          have := (trees_self i1).fo
          rwa [hlen] at this
        · rw [putT_row hr]
          obtain ⟨e, hf⟩ := rowOut_kids (n := n) y hu.one i1
          show Fo 1 (rowOut n y utss _)
          rw [e]
          split
          · next hh =>
            rw [if_pos hh] at hf
            refine fo_node ?_
            rw [manyN_row hr]
            exact (trees_self hf).fo
          · next hh =>
            rw [if_neg hh] at hf
            refine fo_node ?_
            rw [manyN_row hr]
            exact (trees_self hf).fo
    · exact i2 t ht

theorem headNd_nameN {s : ByteArray} {u : List Nd} (h : u ≠ []) : headNd (nameN s u) = (headNd u).name s := by
  cases u with
  | nil => exact absurd rfl h
  | cons y ys => rfl

/-- Of the head: its label, and whether it is a tail. -/
theorem put_head (hu : Putted u utss) (y : Nd) (ks : List Nd) : (headNd (putT n u utss (y :: ks)).1).s = y.s ∧ ((headNd (putT n u utss (y :: ks)).1).k = 9 ↔ y.k = 9) := by
  have hne : u ≠ [] := by
    rintro rfl
    cases hu.fo
  by_cases hv : y.k = 8 ∧ y.n = n
  · rw [putT_var hv.1 hv.2]
    simp only
    rw [headNd_nameN hne]
    refine ⟨rfl, fun e => absurd e hu.k9, fun e => ?_⟩
    omega
  · cases hr : isRowB y.k
    · rw [putT_node hv hr]; exact ⟨rfl, Iff.rfl⟩
    · rw [putT_row hr]
      show (headNd (rowOut n y utss _)).s = _ ∧ ((headNd (rowOut n y utss _)).k = 9 ↔ _)
      unfold rowOut
      split <;> exact ⟨rfl, Iff.rfl⟩

theorem put_heads (hu : Putted u utss) {t : List Nd} (h : t ≠ []) : (headNd (putT n u utss t).1).s = (headNd t).s ∧ ((headNd (putT n u utss t).1).k = 9 ↔ (headNd t).k = 9) := by
  cases t with
  | nil => exact absurd rfl h
  | cons y ks => exact put_head hu y ks

theorem tailB_map (hu : Putted u utss) {l : List (List Nd)} (h : ∀ t ∈ l, t ≠ []) : tailB ((l.map (putT n u utss)).map (·.1)) = tailB l := by
  unfold tailB
  rw [List.map_map, List.getLast?_map]
  cases hl : l.getLast? with
  | none => rfl
  | some t =>
    have hm : t ∈ l := List.mem_of_getLast? hl
    have := (put_heads (n := n) hu (h t hm)).2
    show ((headNd (putT n u utss t).1).k == 9) = ((headNd t).k == 9)
    rw [Bool.eq_iff_iff]
    simpa using this

theorem lOf_map (hu : Putted u utss) {l : List (List Nd)} (h : ∀ t ∈ l, t ≠ []) : lOf ((l.map (putT n u utss)).map (·.1)) = ((lOf l).map (putT n u utss)).map (·.1) := by
  unfold lOf
  rw [tailB_map hu h]
  split <;> simp [List.map_take]

theorem tOf_map (hu : Putted u utss) {l : List (List Nd)} (h : ∀ t ∈ l, t ≠ []) : tOf ((l.map (putT n u utss)).map (·.1)) = ((tOf l).map (putT n u utss)).map (·.1) := by
  unfold tOf
  rw [tailB_map hu h]
  split <;> simp [List.map_drop]

theorem labsT_map (hu : Putted u utss) {l : List (List Nd)} (h : ∀ t ∈ l, t ≠ []) : labsT ((l.map (putT n u utss)).map (·.1)) = labsT l := by
  unfold labsT
  rw [List.map_map, List.map_map]
  exact List.map_congr_left fun t ht => (put_heads hu (h t ht)).1

/-- To rise is to rise by labels alone. -/
theorem insT_map {p : List Nd → List Nd} (t : List Nd) : ∀ (l : List (List Nd)), (∀ s ∈ t :: l, (headNd (p s)).s = (headNd s).s) → (insT t l).map p = insT (p t) (l.map p)
  | [], _ => rfl
  | s :: l, h => by
    simp only [insT, List.map_cons]
    rw [h s (by simp), h t (by simp)]
    split
    · rw [List.map_cons, insT_map t l fun z hz => h z (by simp at hz ⊢; rcases hz with hz | hz <;> simp [hz])]
    · rfl

theorem srtT_map {p : List Nd → List Nd} : ∀ (l : List (List Nd)), (∀ s ∈ l, (headNd (p s)).s = (headNd s).s) → (srtT l).map p = srtT (l.map p)
  | [], _ => rfl
  | t :: l, h => by
    show (insT t (srtT l)).map p = insT (p t) (srtT (l.map p))
    rw [insT_map t _ fun s hs => h s (by
      rcases List.mem_cons.1 hs with rfl | hs
      · simp
      · exact List.mem_cons_of_mem _ ((srtT_perm l).mem_iff.1 hs)), srtT_map l fun s hs => h s (by simp [hs])]

def NoFlag (r : List Nd × Bool × Bool × Bool) : Prop := r.2 = (false, false, false)

theorem any_false {l : List (List Nd × Bool × Bool × Bool)} (h : ∀ r ∈ l, NoFlag r) : l.any (·.2.1) = false ∧ l.any (·.2.2.1) = false ∧ l.any (·.2.2.2) = false := by
  refine ⟨?_, ?_, ?_⟩ <;>
  · rw [List.any_eq_false]
    intro r hr
    rw [h r hr]
    simp

theorem false_any {l : List (List Nd × Bool × Bool × Bool)} (h1 : l.any (·.2.1) = false) (h2 : l.any (·.2.2.1) = false) (h3 : l.any (·.2.2.2) = false) : ∀ r ∈ l, NoFlag r := by
  intro r hr
  rw [List.any_eq_false] at h1 h2 h3
  have a := h1 r hr
  have b := h2 r hr
  have c := h3 r hr
  unfold NoFlag
  obtain ⟨r1, r2, r3, r4⟩ := r
  simp at a b c
  simp [a, b, c]

theorem rt_l9 {f : Nat} {x : Nd} {k : Int} {last : ByteArray} {d : Nat} {ks : List Nd} (h : RtF f x k last d ks) : (isRowB x.k = true → k + d = x.n) → ∀ t ∈ lOf (splitF d ks), (headNd t).k ≠ 9 := by
  induction h with
  | nil => intro _ t ht; simp [splitF, lOf, tailB] at ht
  | @cons f x k last d y ks rs ho hc h1 h2 i1 i2 =>
    intro hx t ht
    rw [splitF_cons h1.fo] at ht
    by_cases hd : splitF d rs = []
    · rw [hd] at ht
      unfold lOf at ht
      split at ht
      · simp at ht
      · next htb =>
        simp at ht
        subst ht
        intro e
        exact htb (by simpa [tailB, headNd] using e)
    · rw [lOf_cons hd] at ht
      rcases List.mem_cons.1 ht with rfl | ht
      · intro h9
        unfold childOk at hc
        rw [if_pos (by exact h9)] at hc
        simp only [Bool.and_eq_true, Bool.not_eq_true', decide_eq_false_iff_not, decide_eq_true_eq] at hc
        have hd0 : d = 0 := by have := hx hc.1.1; omega
        subst hd0
        exact hd rfl
      · exact i2 (fun hr => by have := hx hr; push_cast at this; omega) t ht

/-- No variable of that number stands in it. -/
def Clean (n : Int) (u : List Nd) : Prop := ∀ y ∈ u, isVarB y.k = true → y.n ≠ n

/-- What is clean stays, whatever its label. -/
theorem put_clean {n1 : Int} {u1 : List Nd} {ut1 : List (List Nd)} {u : List Nd} {utss : List (List Nd)} (hu : Putted u utss) (hc : Clean n1 u) (s : ByteArray) : putT n1 u1 ut1 (nameN s u) = (nameN s u, false, false, false) := by
  obtain ⟨y, ks, rfl, ho, hr, -⟩ := hu.rt
  have h1 : RtF 100 y 0 ByteArray.empty 1 ((y.name s) :: (ks ++ [])) ∨ True := .inr trivial
  have hp : RtF 99 (y.name s) 0 ByteArray.empty (manyN (y.name s)) ks := hr.parent rfl rfl
  have e := put_id (n := n1) (u := u1) (utss := ut1) hp fun z hz hv hn => absurd hn (hc z (by simp [hz]) hv)
  show putT n1 u1 ut1 (y.name s :: ks) = (y.name s :: ks, false, false, false)
  have hv : ¬ ((y.name s).k = 8 ∧ (y.name s).n = n1) := by
    rintro ⟨h8, hn⟩
    exact hc y (by simp) (by simp [isVarB, show y.k = 8 from h8]) hn
  have ht := trees_of hp.fo
  have eo : ((splitF (manyN (y.name s)) ks).map (putT n1 u1 ut1)).map (·.1) = splitF (manyN (y.name s)) ks := by rw [e]; simp [Function.comp_def]
  have ef : ((splitF (manyN (y.name s)) ks).map (putT n1 u1 ut1)).any (·.2.1) = false ∧ ((splitF (manyN (y.name s)) ks).map (putT n1 u1 ut1)).any (·.2.2.1) = false ∧ ((splitF (manyN (y.name s)) ks).map (putT n1 u1 ut1)).any (·.2.2.2) = false := by rw [e]; simp
  have ho' : okNode (y.name s).k (y.name s).n = true := ho
  cases hr : isRowB (y.name s).k
  · rw [putT_node hv hr, eo, ef.1, ef.2.1, ef.2.2, ht.flat]
  · have hh : hitB n1 (splitF (manyN (y.name s)) ks) = false := by
      cases hh : hitB n1 (splitF (manyN (y.name s)) ks)
      · rfl
      · obtain ⟨z, hz, h9, hzn⟩ := hit_mem hp.fo hh
        exact absurd hzn (hc z (by simp [hz]) (by simp [isVarB, h9]))
    have hN : rowN n1 ut1 (splitF (manyN (y.name s)) ks) = manyN (y.name s) := by
      unfold rowN
      rw [if_neg (by simp [hh]), splitF_len]
    rw [putT_row hr, eo, ef.1, ef.2.1, ef.2.2]
    have h50 := manyN_le ho'
    unfold rowOut rowK rowT rowM
    rw [hN, hh, splitF_len, row_eta ho' hr, ht.flat]
    simp
    omega

/-- The parts of what is clean stay. -/
theorem parts_clean {n1 : Int} {u1 : List Nd} {ut1 : List (List Nd)} {u : List Nd} {utss : List (List Nd)} (hu : Putted u utss) (hc : Clean n1 u) : ∀ t ∈ utss, putT n1 u1 ut1 t = (t, false, false, false) := by
  obtain ⟨y, ks, rfl, ho, hr, rfl⟩ := hu.rt
  have e := put_id (n := n1) (u := u1) (utss := ut1) hr fun z hz hv hn => absurd hn (hc z (by simp [hz]) hv)
  exact List.map_inj_left.1 e


theorem tail_tree {t : List Nd} (hf : Fo 1 t) (h9 : (headNd t).k = 9) : ∃ z, t = [z] ∧ z.k = 9 := by
  match t, hf with
  | [], hf => cases hf
  | y :: ys, hf =>
    obtain ⟨ks, rs, rfl, hks, hrs⟩ := hf.uncons
    have hm : manyN y = 0 := by unfold manyN many; simp [show y.k = 9 from h9, isRowB]
    rw [hm] at hks
    rw [hks.of_zero, hrs.of_zero]
    exact ⟨y, rfl, h9⟩

theorem tOf_head {l : List (List Nd)} {t : List Nd} (h : t ∈ tOf l) : (headNd t).k = 9 := by
  unfold tOf at h
  split at h
  · next htb =>
    unfold tailB at htb
    rw [List.getLast?_eq_getElem?] at htb
    have hl : 0 < l.length := by
      cases l with
      | nil => simp at h
      | cons a l => simp
    have hd : l.drop (l.length - 1) = [l[l.length - 1]] := by
      rw [List.drop_eq_getElem_cons (by omega), show l.length - 1 + 1 = l.length by omega, List.drop_length]
    rw [hd] at h
    rw [List.getElem?_eq_getElem (by omega)] at htb
    simp at h htb
    rw [h]
    exact htb
  · simp at h

theorem fo_ne {t : List Nd} (h : Fo 1 t) : t ≠ [] := by
  rintro rfl
  cases h

theorem tOf_put (hu : Putted u utss) {l : List (List Nd)} (h : ∀ t ∈ l, Fo 1 t) : tOf ((l.map (putT n u utss)).map (·.1)) = tOf l := by
  rw [tOf_map hu fun t ht => fo_ne (h t ht), List.map_map]
  conv => rhs; rw [← List.map_id (tOf l)]
  refine List.map_congr_left fun t ht => ?_
  obtain ⟨z, rfl, h9⟩ := tail_tree (h t (mem_tOf ht)) (tOf_head ht)
  show (putT n u utss [z]).1 = [z]
  rw [putT_tail h9]

theorem hitB_put {m : Int} (hu : Putted u utss) {l : List (List Nd)} (h : ∀ t ∈ l, Fo 1 t) : hitB m ((l.map (putT n u utss)).map (·.1)) = hitB m l := by
  unfold hitB
  rw [tOf_put hu h]

theorem hit_is {l : List (List Nd)} (h : hitB n l = true) : ∃ w ∈ l, (headNd w).k = 9 ∧ (headNd w).n = n := by
  unfold hitB at h
  cases e : tOf l with
  | nil => rw [e] at h; cases h
  | cons w r =>
    have hm : w ∈ tOf l := by rw [e]; simp
    rw [e] at h
    exact ⟨w, mem_tOf hm, tOf_head hm, by simpa using h⟩

theorem hit_two {n0 n1 : Int} {l : List (List Nd)} (h0 : hitB n0 l = true) (hne : n0 ≠ n1) : hitB n1 l = false := by
  unfold hitB at h0 ⊢
  cases e : tOf l with
  | nil => rfl
  | cons w r =>
    rw [e] at h0
    have : (headNd w).n = n0 := by simpa using h0
    show ((headNd w).n == n1) = false
    rw [this]
    simpa using hne
end

section
variable {n0 n1 : Int} {u0 u1 : List Nd} {ut0 ut1 : List (List Nd)}

theorem head_mem {u : List Nd} {utss : List (List Nd)} (hu : Putted u utss) {t : List Nd} (h : t ∈ utss) : headNd t ∈ u := by
  obtain ⟨y, ks, rfl, ho, hr, rfl⟩ := hu.rt
  have ht := trees_of hr.fo
  refine List.mem_cons_of_mem _ ?_
  rw [← ht.flat]
  exact List.mem_flatten.2 ⟨t, h, headNd_mem (ht.ne h)⟩

theorem all_flag {L R : List (List Nd)} {p : List Nd → List Nd × Bool × Bool × Bool} (h : L.map p = R.map fun r => (r, false, false, false)) : (L.map p).map (·.1) = R ∧ ∀ t ∈ L, NoFlag (p t) := by
  refine ⟨by rw [h]; simp [Function.comp_def], fun t ht => ?_⟩
  have : p t ∈ R.map fun r => (r, false, false, false) := by rw [← h]; exact List.mem_map.2 ⟨t, ht, rfl⟩
  obtain ⟨r, _, e⟩ := List.mem_map.1 this
  rw [← e]
  rfl

theorem map_flag {L : List (List Nd)} {p : List Nd → List Nd × Bool × Bool × Bool} (h : ∀ t ∈ L, NoFlag (p t)) : ∀ r ∈ L.map p, NoFlag r := by
  intro r hr
  obtain ⟨t, ht, rfl⟩ := List.mem_map.1 hr
  exact h t ht

theorem srt_len (L T : List (List Nd)) : (srtT L ++ T).length = L.length + T.length := by rw [List.length_append, (srtT_perm L).length_eq]

/-- A row whose tail is the first number. -/
theorem row_hit (hu0 : Putted u0 ut0) (hu1 : Putted u1 ut1) (c01 : Clean n1 u0) (hne : n0 ≠ n1) {y : Nd} {ks : List Nd} (hr : isRowB y.k = true) (hf : ∀ t ∈ splitF (manyN y) ks, Fo 1 t) (h9 : ∀ t ∈ lOf (splitF (manyN y) ks), (headNd t).k ≠ 9)
    (hfo0 : ∀ t ∈ ((splitF (manyN y) ks).map (putT n0 u0 ut0)).map (·.1), Fo 1 t) (hfo1 : ∀ t ∈ ((splitF (manyN y) ks).map (putT n1 u1 ut1)).map (·.1), Fo 1 t)
    (hit : hitB n0 (splitF (manyN y) ks) = true) {R : List (List Nd)} (hR0 : (((splitF (manyN y) ks).map (putT n0 u0 ut0)).map (·.1)).map (putT n1 u1 ut1) = R.map fun r => (r, false, false, false))
    (hR1 : (((splitF (manyN y) ks).map (putT n1 u1 ut1)).map (·.1)).map (putT n0 u0 ut0) = R.map fun r => (r, false, false, false)) (g0 : NoFlag (putT n0 u0 ut0 (y :: ks))) :
    ∃ r, putT n1 u1 ut1 (putT n0 u0 ut0 (y :: ks)).1 = (r, false, false, false) ∧ putT n0 u0 ut0 (putT n1 u1 ut1 (y :: ks)).1 = (r, false, false, false) := by
  have hl9 : ∀ t ∈ lOf (((splitF (manyN y) ks).map (putT n0 u0 ut0)).map (·.1)), (headNd t).k ≠ 9 := by
    rw [lOf_map hu0 fun t ht => fo_ne (hf t ht)]
    intro t ht
    rw [List.map_map] at ht
    obtain ⟨s, hs, rfl⟩ := List.mem_map.1 ht
    intro e
    exact h9 s hs ((put_heads (n := n0) hu0 (fo_ne (hf s (mem_lOf hs)))).2.1 e)
  have hh0 : hitB n0 (((splitF (manyN y) ks).map (putT n0 u0 ut0)).map (·.1)) = true := by rw [hitB_put hu0 hf]; exact hit
  have hh1 : hitB n1 (((splitF (manyN y) ks).map (putT n1 u1 ut1)).map (·.1)) = false := by rw [hitB_put hu1 hf]; exact hit_two hit hne
  have hh01 : hitB n0 (((splitF (manyN y) ks).map (putT n1 u1 ut1)).map (·.1)) = true := by rw [hitB_put hu1 hf]; exact hit
  rw [putT_row hr] at g0
  rw [putT_row hr, putT_row hr]
  simp only
  generalize ho0 : ((splitF (manyN y) ks).map (putT n0 u0 ut0)).map (·.1) = o0 at *
  generalize ho1 : ((splitF (manyN y) ks).map (putT n1 u1 ut1)).map (·.1) = o1 at *
  obtain ⟨hRa, fa⟩ := all_flag hR0
  obtain ⟨hRb, fb⟩ := all_flag hR1
  unfold NoFlag at g0
  simp only [Prod.mk.injEq, Bool.or_eq_false_iff] at g0
  obtain ⟨⟨_, gk⟩, ⟨_, gt⟩, ⟨_, gm⟩⟩ := g0
  have hitR : hitB n0 R = true := by rw [← hRb, hitB_put hu0 hfo1]; exact hh01
  have hlR : lOf R = ((lOf o0).map (putT n1 u1 ut1)).map (·.1) := by rw [← hRa, lOf_map hu1 fun t ht => fo_ne (hfo0 t ht)]
  -- the first way
  obtain ⟨e0, hQ⟩ := rowOut_kids (n := n0) y hu0.one hfo0
  rw [if_pos hh0] at e0 hQ
  obtain ⟨e1, hQ1⟩ := rowOut_kids (n := n1) y hu1.one hfo1
  rw [if_neg (by simp [hh1])] at e1 hQ1
  rw [e0, e1]
  have hQm : ∀ t ∈ srtT (lOf o0 ++ lOf ut0) ++ tOf ut0, t ∈ lOf o0 ∨ t ∈ lOf ut0 ∨ t ∈ tOf ut0 := by
    intro t ht
    rcases List.mem_append.1 ht with ht | ht
    · rcases List.mem_append.1 ((srtT_perm _).mem_iff.1 ht) with ht | ht
      · exact .inl ht
      · exact .inr (.inl ht)
    · exact .inr (.inr ht)
  have hQf : ∀ t ∈ srtT (lOf o0 ++ lOf ut0) ++ tOf ut0, NoFlag (putT n1 u1 ut1 t) := by
    intro t ht
    rcases hQm t ht with ht | ht | ht
    · exact fa t (mem_lOf ht)
    · rw [parts_clean hu0 c01 t (mem_lOf ht)]; rfl
    · rw [parts_clean hu0 c01 t (mem_tOf ht)]; rfl
  have hhQ : hitB n1 (srtT (lOf o0 ++ lOf ut0) ++ tOf ut0) = false := by
    cases hh : hitB n1 (srtT (lOf o0 ++ lOf ut0) ++ tOf ut0)
    · rfl
    · obtain ⟨w, hw, hw9, hwn⟩ := hit_is hh
      rcases hQm w hw with hw | hw | hw
      · exact absurd hw9 (hl9 w hw)
      · exact absurd hw9 (hu0.l9 w hw)
      · exact absurd hwn (c01 _ (head_mem hu0 (mem_tOf hw)) (by simp [isVarB, hw9]))
  have hQo : ((srtT (lOf o0 ++ lOf ut0) ++ tOf ut0).map (putT n1 u1 ut1)).map (·.1) = srtT (lOf R ++ lOf ut0) ++ tOf ut0 := by
    rw [List.map_append, List.map_append, List.map_map, List.map_map, srtT_map]
    · congr 1
      · rw [List.map_append, hlR, List.map_map]
        congr 2
        conv => rhs; rw [← List.map_id (lOf ut0)]
        refine List.map_congr_left fun t ht => ?_
        show (putT n1 u1 ut1 t).1 = t
        rw [parts_clean hu0 c01 t (mem_lOf ht)]
      · conv => rhs; rw [← List.map_id (tOf ut0)]
        refine List.map_congr_left fun t ht => ?_
        show (putT n1 u1 ut1 t).1 = t
        rw [parts_clean hu0 c01 t (mem_tOf ht)]
    · intro s hs
      refine (put_heads hu1 (fo_ne (hQ s ?_))).1
      exact List.mem_append_left _ ((srtT_perm _).mem_iff.2 hs)
  have hlen : (srtT (lOf R ++ lOf ut0) ++ tOf ut0).length = (srtT (lOf o0 ++ lOf ut0) ++ tOf ut0).length := by rw [← hQo]; simp
  have hrA : isRowB (⟨y.k, y.s, ((srtT (lOf o0 ++ lOf ut0) ++ tOf ut0).length : Nat)⟩ : Nd).k = true := hr
  have hrB : isRowB (⟨y.k, y.s, (o1.length : Nat)⟩ : Nd).k = true := hr
  have anyA := any_false (map_flag hQf)
  have anyB := any_false (map_flag fb)
  have hrN : rowN n0 ut0 o0 = (srtT (lOf o0 ++ lOf ut0) ++ tOf ut0).length := by
    unfold rowN
    rw [if_pos hh0, srt_len]
  have hrNR : rowN n0 ut0 R = (srtT (lOf R ++ lOf ut0) ++ tOf ut0).length := by
    unfold rowN
    rw [if_pos hitR, srt_len]
  have hhA : hitB n1 (srtT (lOf R ++ lOf ut0) ++ tOf ut0) = false := by rw [← hQo, hitB_put hu1 hQ]; exact hhQ
  unfold rowM at gm
  rw [hrN] at gm
  refine ⟨⟨y.k, y.s, ((srtT (lOf R ++ lOf ut0) ++ tOf ut0).length : Nat)⟩ :: (srtT (lOf R ++ lOf ut0) ++ tOf ut0).flatten, ?_, ?_⟩
  · rw [putT_row hrA, manyN_row hr, ← (trees_self hQ).uniq, hQo, anyA.1, anyA.2.1, anyA.2.2]
    unfold rowOut rowK rowT rowM rowN
    rw [hhA, hlen]
    simp only [Bool.false_and, Bool.or_false, Bool.false_eq_true, if_false, Bool.false_or]
    rw [gm]
  · rw [putT_row hrB, manyN_row hr, ← (trees_self hfo1).uniq, hRb, anyB.1, anyB.2.1, anyB.2.2]
    have k1 : rowK n0 (headNd u0).k y.k R = false := by
      unfold rowK at gk ⊢
      rw [hitR]
      rw [hh0] at gk
      exact gk
    have k2 : rowT n0 (headNd u0).k y.k ut0 R = false := by
      have hlab : labsT (lOf R ++ lOf ut0) = labsT (lOf o0 ++ lOf ut0) := by
        rw [hlR]
        have := labsT_map (n := n1) hu1 (l := lOf o0) fun t ht => fo_ne (hfo0 t (mem_lOf ht))
        unfold labsT at this ⊢
        rw [List.map_append, List.map_append, this]
      unfold rowT at gt ⊢
      rw [hitR, hlab]
      rw [hh0] at gt
      exact gt
    have k3 : rowM n0 ut0 R = false := by
      unfold rowM
      rw [hrNR, hlen]
      exact gm
    show (rowOut n0 _ ut0 R, _) = _
    simp only [k1, k2, k3, Bool.or_false]
    unfold rowOut
    rw [if_pos hitR, srt_len]

/-- Two puts may be done in any order. -/
theorem two (hu0 : Putted u0 ut0) (hu1 : Putted u1 ut1) (c01 : Clean n1 u0) (c10 : Clean n0 u1) (hne : n0 ≠ n1) {f : Nat} {x : Nd} {k : Int} {last : ByteArray} {d : Nat} {ks : List Nd} (h : RtF f x k last d ks) :
    (∀ t ∈ splitF d ks, NoFlag (putT n0 u0 ut0 t)) → (∀ t ∈ splitF d ks, NoFlag (putT n1 u1 ut1 t)) →
    ∃ R : List (List Nd), (((splitF d ks).map (putT n0 u0 ut0)).map (·.1)).map (putT n1 u1 ut1) = (R.map fun r => (r, false, false, false)) ∧ (((splitF d ks).map (putT n1 u1 ut1)).map (·.1)).map (putT n0 u0 ut0) = R.map fun r => (r, false, false, false) := by
  induction h with
  | nil => intro _ _; exact ⟨[], rfl, rfl⟩
  | @cons f x k last d y ks rs ho hc h1 h2 i1 i2 =>
    rw [splitF_cons h1.fo]
    intro g0 g1
    obtain ⟨R2, r20, r21⟩ := i2 (fun t ht => g0 t (by simp [ht])) (fun t ht => g1 t (by simp [ht]))
    suffices hs : ∃ r, putT n1 u1 ut1 (putT n0 u0 ut0 (y :: ks)).1 = (r, false, false, false) ∧ putT n0 u0 ut0 (putT n1 u1 ut1 (y :: ks)).1 = (r, false, false, false) by
      obtain ⟨r, e0, e1⟩ := hs
      refine ⟨r :: R2, ?_, ?_⟩
      · simp only [List.map_cons, e0, r20]
      · simp only [List.map_cons, e1, r21]
    have g0 := g0 (y :: ks) (by simp)
    have g1 := g1 (y :: ks) (by simp)
    have hk0 : manyN y = 0 → ks = [] := fun hm => by
      have := h1.fo
      rw [hm] at this
      exact this.of_zero
    by_cases hv0 : y.k = 8 ∧ y.n = n0
    · have hm : manyN y = 0 := by unfold manyN many; simp [hv0.1, isRowB]
      have hk := hk0 hm
      subst hk
      have hv1 : ¬ (y.k = 8 ∧ y.n = n1) := by rintro ⟨_, e⟩; exact hne (hv0.2.symm.trans e)
      refine ⟨nameN y.s u0, ?_, ?_⟩
      · rw [putT_var hv0.1 hv0.2]
        exact put_clean hu0 c01 _
      · rw [putT_node hv1 (by rw [hv0.1]; rfl), hm]
        exact putT_var hv0.1 hv0.2
    · by_cases hv1 : y.k = 8 ∧ y.n = n1
      · have hm : manyN y = 0 := by unfold manyN many; simp [hv1.1, isRowB]
        have hk := hk0 hm
        subst hk
        refine ⟨nameN y.s u1, ?_, ?_⟩
        · rw [putT_node hv0 (by rw [hv1.1]; rfl), hm]
          exact putT_var hv1.1 hv1.2
        · rw [putT_var hv1.1 hv1.2]
          exact put_clean hu1 c10 _
      · have fo0 := put_fo (n := n0) hu0 h1
        have fo1 := put_fo (n := n1) hu1 h1
        have len0 : (((splitF (manyN y) ks).map (putT n0 u0 ut0)).map (·.1)).length = manyN y := by simp [splitF_len]
        have len1 : (((splitF (manyN y) ks).map (putT n1 u1 ut1)).map (·.1)).length = manyN y := by simp [splitF_len]
        have G0 := g0
        have G1 := g1
        cases hr : isRowB y.k
        · rw [putT_node hv0 hr] at g0
          rw [putT_node hv1 hr] at g1
          unfold NoFlag at g0 g1
          simp only [Prod.mk.injEq] at g0 g1
          have f0 := false_any g0.1 g0.2.1 g0.2.2
          have f1 := false_any g1.1 g1.2.1 g1.2.2
          obtain ⟨R, r0, r1⟩ := i1 (fun t ht => f0 _ (List.mem_map.2 ⟨t, ht, rfl⟩)) (fun t ht => f1 _ (List.mem_map.2 ⟨t, ht, rfl⟩))
          obtain ⟨ra, fa⟩ := all_flag r0
          obtain ⟨rb, fb⟩ := all_flag r1
          have anyA := any_false (map_flag fa)
          have anyB := any_false (map_flag fb)
          refine ⟨y :: R.flatten, ?_, ?_⟩
          · rw [putT_node hv0 hr]
            simp only
            rw [putT_node hv1 hr]
            have e := (trees_self fo0).uniq
            rw [len0] at e
            rw [← e, ra, anyA.1, anyA.2.1, anyA.2.2]
          · rw [putT_node hv1 hr]
            simp only
            rw [putT_node hv0 hr]
            have e := (trees_self fo1).uniq
            rw [len1] at e
            rw [← e, rb, anyB.1, anyB.2.1, anyB.2.2]
        · rw [putT_row hr] at g0 g1
          unfold NoFlag at g0 g1
          simp only [Prod.mk.injEq, Bool.or_eq_false_iff] at g0 g1
          have f0 := false_any g0.1.1 g0.2.1.1 g0.2.2.1
          have f1 := false_any g1.1.1 g1.2.1.1 g1.2.2.1
          obtain ⟨R, r0, r1⟩ := i1 (fun t ht => f0 _ (List.mem_map.2 ⟨t, ht, rfl⟩)) (fun t ht => f1 _ (List.mem_map.2 ⟨t, ht, rfl⟩))
          have hf := (trees_of h1.fo).one
          have h9 := rt_l9 h1 fun hr => by
            have := congrArg Nd.n (row_eta ho hr)
            simpa using this
          cases hit0 : hitB n0 (splitF (manyN y) ks)
          · cases hit1 : hitB n1 (splitF (manyN y) ks)
            · obtain ⟨ra, fa⟩ := all_flag r0
              obtain ⟨rb, fb⟩ := all_flag r1
              have anyA := any_false (map_flag fa)
              have anyB := any_false (map_flag fb)
              have h50 := manyN_le ho
              have hlR : R.length = manyN y := by rw [← ra]; simp [splitF_len]
              have q0 : hitB n0 (((splitF (manyN y) ks).map (putT n0 u0 ut0)).map (·.1)) = false := by rw [hitB_put hu0 hf]; exact hit0
              have q1 : hitB n1 (((splitF (manyN y) ks).map (putT n1 u1 ut1)).map (·.1)) = false := by rw [hitB_put hu1 hf]; exact hit1
              have q01 : hitB n1 (((splitF (manyN y) ks).map (putT n0 u0 ut0)).map (·.1)) = false := by rw [hitB_put hu0 hf]; exact hit1
              have q10 : hitB n0 (((splitF (manyN y) ks).map (putT n1 u1 ut1)).map (·.1)) = false := by rw [hitB_put hu1 hf]; exact hit0
              have qR1 : hitB n1 R = false := by rw [← ra, hitB_put hu1 fo0]; exact q01
              have qR0 : hitB n0 R = false := by rw [← rb, hitB_put hu0 fo1]; exact q10
              have o0 : rowOut n0 y ut0 (((splitF (manyN y) ks).map (putT n0 u0 ut0)).map (·.1)) = y :: (((splitF (manyN y) ks).map (putT n0 u0 ut0)).map (·.1)).flatten := by
                unfold rowOut
                rw [q0, len0, row_eta ho hr]
                rfl
              have o1 : rowOut n1 y ut1 (((splitF (manyN y) ks).map (putT n1 u1 ut1)).map (·.1)) = y :: (((splitF (manyN y) ks).map (putT n1 u1 ut1)).map (·.1)).flatten := by
                unfold rowOut
                rw [q1, len1, row_eta ho hr]
                rfl
              refine ⟨y :: R.flatten, ?_, ?_⟩
              · rw [putT_row hr]
                simp only
                rw [o0, putT_row hr]
                have e := (trees_self fo0).uniq
                rw [len0] at e
                rw [← e, ra, anyA.1, anyA.2.1, anyA.2.2]
                unfold rowOut rowK rowT rowM rowN
                rw [qR1, hlR, row_eta ho hr]
                simp
                omega
              · rw [putT_row hr]
                simp only
                rw [o1, putT_row hr]
                have e := (trees_self fo1).uniq
                rw [len1] at e
                rw [← e, rb, anyB.1, anyB.2.1, anyB.2.2]
                unfold rowOut rowK rowT rowM rowN
                rw [qR0, hlR, row_eta ho hr]
                simp
                omega
            · obtain ⟨r, e1, e0⟩ := row_hit hu1 hu0 c10 (Ne.symm hne) hr hf h9 fo1 fo0 hit1 r1 r0 G1
              exact ⟨r, e0, e1⟩
          · exact row_hit hu0 hu1 c01 hne hr hf h9 fo0 fo1 hit0 r0 r1 G0
end
end Go.Proofs.Ytblfeokjlecgkaa

/- What is ground, in plain lists. -/
namespace Go.Proofs.Ytblfeokjlecgkaa

end Go.Proofs.Ytblfeokjlecgkaa
