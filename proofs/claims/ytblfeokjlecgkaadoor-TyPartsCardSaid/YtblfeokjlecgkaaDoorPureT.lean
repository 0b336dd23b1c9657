/- A type's parts, laid together again, are the type: the plain law of TyParts. -/
import Derived.Test.YtblfeokjlecgkaaDoorAsk
import Derived.Test.YtblfeokjlecgkaaDoorPureP
import Derived.Test.YtblfeokjlecgkaaDoorRowP
namespace Go.Proofs.YtblfeokjlecgkaaDoor

theorem kidsP_mono {T : List Nd} {f g : Nat} (x : Nd) (ih : ∀ i j, treeP T f i = some j → treeP T g i = some j) : ∀ (d : Nat) (k : Int) (last : ByteArray) (i j : Nat), kidsP (treeP T f) T x d k last i = some j → kidsP (treeP T g) T x d k last i = some j
  | 0, _, _, _, _, h => h
  | d + 1, k, last, i, j, h => by
    simp only [kidsP] at h ⊢
    split at h
    · cases h
    rename_i y hy
    split at h
    · rename_i hc
      split at h
      · cases h
      rename_i at' hat
      simp only [hc, ih _ _ hat, if_true]
      exact kidsP_mono x ih d _ _ _ _ h
    · cases h

theorem treeP_mono {T : List Nd} : ∀ (f g i j : Nat), f ≤ g → treeP T f i = some j → treeP T g i = some j
  | 0, _, _, _, _, h => by cases h
  | f + 1, 0, _, _, hfg, _ => by omega
  | f + 1, g + 1, i, j, hfg, h => by
    simp only [treeP] at h ⊢
    split at h
    · cases h
    rename_i x hx
    split at h
    · rename_i ho
      simp only [ho, if_true]
      exact kidsP_mono x (fun i j h => treeP_mono f g i j (by omega) h) _ _ _ _ _ h
    · cases h

/-- One row of nodes reads as a stretch of another one, but for the first label. -/
def Agrees (U T : List Nd) (o e : Nat) : Prop := ∀ q, q < e → ∃ u t : Nd, U[q]? = some u ∧ T[o + q]? = some t ∧ u.k = t.k ∧ u.n = t.n ∧ (0 < q → u.s = t.s)

theorem childOk_like {x u y : Nd} {k : Int} {last : ByteArray} (h1 : u.k = x.k) (h2 : u.n = x.n) : childOk u k last y = childOk x k last y := by
  unfold childOk
  rw [h1, h2]

theorem kidsP_cut {T U : List Nd} {o e f : Nat} (hA : Agrees U T o e) (x u : Nd) (h1 : u.k = x.k) (h2 : u.n = x.n)
    (ih : ∀ i j, treeP T f (o + i) = some (o + j) → j ≤ e → treeP U f i = some j) :
    ∀ (d : Nat) (k : Int) (last : ByteArray) (i j : Nat), 0 < i → kidsP (treeP T f) T x d k last (o + i) = some (o + j) → j ≤ e → kidsP (treeP U f) U u d k last i = some j
  | 0, _, _, i, j, _, h, _ => by
    simp only [kidsP, Option.some.injEq] at h ⊢
    omega
  | d + 1, k, last, i, j, hi, h, hj => by
    simp only [kidsP] at h ⊢
    split at h
    · cases h
    rename_i y hy
    split at h
    · rename_i hc
      split at h
      · cases h
      rename_i at' hat
      have hlt := (treeP_fuel _ 0 _ _ hat).1
      have hle := (kidsP_fuel (T := T) (f := f) (g := 0) x (fun i j h => treeP_fuel _ 0 i j h) d _ _ _ _ h).1
      obtain ⟨i', rfl⟩ : ∃ i', at' = o + i' := ⟨at' - o, by omega⟩
      obtain ⟨v, t, hv, ht, hk, hn, hs⟩ := hA i (by omega)
      have hty : t = y := by rw [hy] at ht; injection ht with ht; exact ht.symm
      subst hty
      have hvt : v = t := by
        obtain ⟨vk, vs, vn⟩ := v
        obtain ⟨tk, ts, tn⟩ := t
        simp only at hk hn
        have hs' := hs hi
        simp only at hs'
        rw [hk, hn, hs']
      subst hvt
      rw [hv]
      simp only [childOk_like h1 h2, hc, if_true, ih i i' hat (by omega)]
      exact kidsP_cut hA x u h1 h2 ih d _ _ _ _ (by omega) h hj
    · cases h

theorem treeP_cut {T U : List Nd} {o e : Nat} (hA : Agrees U T o e) : ∀ (f i j : Nat), treeP T f (o + i) = some (o + j) → j ≤ e → treeP U f i = some j
  | 0, _, _, h, _ => by cases h
  | f + 1, i, j, h, hj => by
    have hlt := (treeP_fuel _ 0 _ _ h).1
    obtain ⟨u, t, hu, ht, hk, hn, _⟩ := hA i (by omega)
    simp only [treeP] at h ⊢
    rw [ht] at h
    rw [hu]
    simp only at h ⊢
    rw [hk, hn]
    split at h
    · rename_i ho
      simp only [ho, if_true]
      rw [Nat.add_assoc] at h
      exact kidsP_cut hA t u hk hn (treeP_cut hA f) _ _ _ _ _ (by omega) h hj
    · cases h

theorem bareN_get {ts : List Nd} {q : Nat} {t : Nd} (h : ts[q]? = some t) : ∃ u, (bareN ts)[q]? = some u ∧ u.k = t.k ∧ u.n = t.n ∧ (0 < q → u.s = t.s) := by
  cases ts with
  | nil => simp at h
  | cons x xs =>
    cases q with
    | zero =>
      simp at h
      subst h
      exact ⟨x.name ByteArray.empty, rfl, rfl, rfl, by omega⟩
    | succ q => exact ⟨t, h, rfl, rfl, fun _ => rfl⟩

/-- A part of a type is one, if it is no tail. -/
theorem part_right {T ts rest : List Nd} {i : Nat} {y : Nd} (hl : T.length ≤ 10000) (hy : T[i]? = some y) (h9 : y.k ≠ 9) (ht : treeP T 99 i = some (i + ts.length)) (hd : T.drop i = ts ++ rest) : rightB (bareN ts) = true := by
  have hlen : i + ts.length ≤ T.length := by
    have := congrArg List.length hd
    have hi := getq_lt hy
    rw [List.length_drop, List.length_append] at this
    omega
  have hA : Agrees (bareN ts) T i ts.length := fun q hq => by
    obtain ⟨t, ht⟩ := getq_ex hq
    obtain ⟨u, hu, h1, h2, h3⟩ := bareN_get ht
    refine ⟨u, t, hu, ?_, h1, h2, h3⟩
    have : (T.drop i)[q]? = some t := by rw [hd, List.getElem?_append_left hq]; exact ht
    rwa [List.getElem?_drop] at this
  have hc := treeP_cut hA 99 0 ts.length (by rw [Nat.add_zero]; exact ht) (Nat.le_refl _)
  have hc2 := treeP_mono 99 100 0 ts.length (by omega) hc
  unfold rightB
  have hlt : ts.length ≤ 10000 := by omega
  rw [bareN_length, hc2, decide_eq_true hlt, decide_eq_true (show some ts.length = some ts.length from rfl), Bool.and_true, Bool.true_and]
  cases ts with
  | nil =>
    have := (treeP_fuel _ 0 _ _ ht).1
    simp at this
  | cons z zs =>
    have hzy : z = y := by
      have h1 := drop_cons hy
      rw [hd] at h1
      exact (List.cons.inj h1).1
    subst hzy
    have e0 : ByteArray.empty.size = 0 := rfl
    simp [bareN, rootOk, Nd.name, h9, e0]

theorem part_all {p : Nd → Bool} {T ts rest : List Nd} {i : Nat} (hp : ∀ (x : Nd) (s : ByteArray), p (x.name s) = p x) (h : T.all p = true) (hd : T.drop i = ts ++ rest) : (bareN ts).all p = true := by
  have hts : ts.all p = true := by
    rw [List.all_eq_true] at h ⊢
    intro x hx
    exact h x (List.mem_of_mem_drop (i := i) (by rw [hd]; simp [hx]))
  cases ts with
  | nil => rfl
  | cons x xs =>
    simp only [List.all_cons, Bool.and_eq_true] at hts
    simp only [bareN, List.all_cons, hp, hts.1, hts.2, Bool.and_self]

theorem part_plain {T ts rest : List Nd} {i : Nat} (h : plainB T = true) (hd : T.drop i = ts ++ rest) : plainB (bareN ts) = true :=
  part_all (p := fun x => !isVarB x.k) (fun _ _ => rfl) h hd
theorem part_static {T ts rest : List Nd} {i : Nat} (h : staticB T = true) (hd : T.drop i = ts ++ rest) : staticB (bareN ts) = true :=
  part_all (p := fun x => !(x.k == 0)) (fun _ _ => rfl) h hd

theorem nameN_bare {ts : List Nd} {y : Nd} {zs : List Nd} (h : ts = y :: zs) : nameN y.s (bareN ts) = ts := by
  subst h
  rfl

theorem flatMap_like {α β : Type} {f g : α → List β} : ∀ {l : List α}, (∀ i ∈ l, f i = g i) → l.flatMap f = l.flatMap g
  | [], _ => rfl
  | a :: l, h => by
    rw [List.flatMap_cons, List.flatMap_cons, h a (by simp), flatMap_like fun i hi => h i (by simp [hi])]

/-- So many parts of a type were laid behind one another, with their labels. -/
structure PartsAt (T : List Nd) (x : Nd) (m k at_ : Nat) (last : ByteArray) (ps : List (List Nd)) (ls : List ByteArray) : Prop where
  pl : ps.length = k
  ll : ls.length = k
  kids : kidsP (treeP T 99) T x (m - k) k last at_ = some T.length
  pre : T = (x :: (List.range k).flatMap (rowPart ls ps)) ++ T.drop at_
  mx : isRowB x.k = true → plainB T = true → ∀ a ∈ ls, ltB last a = false
  asc : isRowB x.k = true → plainB T = true → ls.Pairwise fun a b => ltB a b = true
  labs : plainB T = true → ∀ s ∈ ls, labelB x.k s = true
  arr : x.k = 5 → ∀ s ∈ ls, s = ByteArray.empty
  parts : ∀ p ∈ ps, p ≠ [] ∧ p.length ≤ T.length ∧ bareN p = p

theorem rowPart_old {ls : List ByteArray} {ps : List (List Nd)} {s : ByteArray} {P : List Nd} {i : Nat} (h1 : i < ls.length) (h2 : i < ps.length) : rowPart (ls ++ [s]) (ps ++ [P]) i = rowPart ls ps i := by
  unfold rowPart lab
  rw [List.getElem?_append_left h1, List.getElem?_append_left h2]

theorem rowPart_new {ls : List ByteArray} {ps : List (List Nd)} {s : ByteArray} {P : List Nd} (h : ls.length = ps.length) : rowPart (ls ++ [s]) (ps ++ [P]) ps.length = nameN s P := by
  unfold rowPart lab
  rw [← h, List.getElem?_append_right (Nat.le_refl _), h, List.getElem?_append_right (Nat.le_refl _)]
  simp

theorem bareN_bare (ts : List Nd) : bareN (bareN ts) = bareN ts := by
  cases ts <;> rfl

theorem PartsAt.step {T : List Nd} {x : Nd} {m k at_ : Nat} {last : ByteArray} {ps : List (List Nd)} {ls : List ByteArray} (h : PartsAt T x m k at_ last ps ls) (hk : k < m) :
    ∃ (y : Nd) (ts rest : List Nd), T[at_]? = some y ∧ T.drop at_ = ts ++ rest ∧ Fo 1 ts ∧ okAll ts ∧ treeP T 99 at_ = some (at_ + ts.length) ∧ PartsAt T x m (k + 1) (at_ + ts.length) y.s (ps ++ [bareN ts]) (ls ++ [y.s]) := by
  have hkids := h.kids
  obtain ⟨d, hd⟩ : ∃ d, m - k = d + 1 := ⟨m - k - 1, by omega⟩
  rw [hd] at hkids
  simp only [kidsP] at hkids
  split at hkids
  · cases hkids
  rename_i y hy
  split at hkids
  · rename_i hc
    split at hkids
    · cases hkids
    rename_i at' hat
    obtain ⟨ts, rest, ht⟩ := treeP_sound _ _ _ hat
    have hdrop := ht.at_
    have hej := ht.ej
    subst hej
    obtain ⟨zs, hz⟩ : ∃ zs, ts = y :: zs := by
      cases ts with
      | nil => exact absurd ht.fo.nil_of (by omega)
      | cons z zs =>
        have h1 := drop_cons hy
        rw [hdrop] at h1
        exact ⟨zs, by rw [(List.cons.inj h1).1]⟩
    have hlp : plainB T = true → y.k ≠ 9 ∧ labelB x.k y.s = true ∧ (isRowB x.k = true → ltB last y.s = true) := fun hp => by
      have hv : isVarB y.k = false := by
        have := List.all_eq_true.1 hp y (List.mem_of_getElem? hy)
        simpa using this
      unfold isVarB at hv
      simp only [Bool.or_eq_false_iff, beq_eq_false_iff_ne] at hv
      unfold childOk at hc
      rw [if_neg hv.2] at hc
      simp only [Bool.and_eq_true] at hc
      refine ⟨hv.2, hc.1, fun hr => ?_⟩
      have h2 := hc.2
      rw [hr, leS_not] at h2
      simp at h2
      exact h2
    refine ⟨y, ts, rest, hy, hdrop, ht.fo, ht.ok, hat, ?_⟩
    refine ⟨by simp [h.pl], by simp [h.ll], ?_, ?_, fun hr hp a ha => ?_, fun hr hp => ?_, fun hp s hs => ?_, fun h5 s hs => ?_, fun p hp => ?_⟩
    · rw [show m - (k + 1) = d by omega, show ((k + 1 : Nat) : Int) = (k : Int) + 1 by omega]
      exact hkids
    · have hpre := h.pre
      rw [hdrop] at hpre
      have hflat : (List.range (k + 1)).flatMap (rowPart (ls ++ [y.s]) (ps ++ [bareN ts])) = (List.range k).flatMap (rowPart ls ps) ++ ts := by
        rw [List.range_succ, List.flatMap_append, List.flatMap_singleton]
        congr 1
        · exact flatMap_like fun i hi => rowPart_old (by rw [h.ll]; exact List.mem_range.1 hi) (by rw [h.pl]; exact List.mem_range.1 hi)
        · have hn := rowPart_new (s := y.s) (P := bareN ts) (h.ll.trans h.pl.symm)
          rw [h.pl] at hn
          rw [hn, nameN_bare hz]
      rw [hflat, drop_more hdrop]
      simpa using hpre
    · have hl := (hlp hp).2.2 hr
      rcases List.mem_append.1 ha with ha | ha
      · have h1 := h.mx hr hp a ha
        cases hq : ltB y.s a
        · rfl
        · have := ltB_trans hl hq
          rw [h1] at this
          cases this
      · rw [List.mem_singleton.1 ha]; exact ltB_irrefl _
    · have hl := (hlp hp).2.2 hr
      rw [List.pairwise_append]
      refine ⟨h.asc hr hp, List.pairwise_singleton _ _, fun a ha b hb => ?_⟩
      rw [List.mem_singleton.1 hb]
      cases hq : ltB a y.s
      · have := ltB_ntrans (h.mx hr hp a ha) hq
        rw [hl] at this
        cases this
      · rfl
    · rcases List.mem_append.1 hs with hs | hs
      · exact h.labs hp s hs
      · rw [List.mem_singleton.1 hs]; exact (hlp hp).2.1
    · rcases List.mem_append.1 hs with hs | hs
      · exact h.arr h5 s hs
      · rw [List.mem_singleton.1 hs]
        unfold childOk at hc
        rw [h5] at hc
        have hr5 : isRowB 5 = false := rfl
        rw [hr5] at hc
        split at hc
        · simp at hc
        · simp [labelB] at hc
          first | exact hc | exact size0_eq hc rfl
    · rcases List.mem_append.1 hp with hp | hp
      · exact h.parts p hp
      · rw [List.mem_singleton.1 hp]
        refine ⟨by rw [hz]; simp [bareN], ?_, bareN_bare ts⟩
        rw [bareN_length]
        have := congrArg List.length hdrop
        rw [List.length_drop, List.length_append] at this
        omega
  · cases hkids

/-- All parts are there. -/
theorem PartsAt.end_ {T : List Nd} {x : Nd} {m at_ : Nat} {last : ByteArray} {ps : List (List Nd)} {ls : List ByteArray} (h : PartsAt T x m m at_ last ps ls) : at_ = T.length ∧ T = x :: (List.range m).flatMap (rowPart ls ps) := by
  have hk := h.kids
  rw [Nat.sub_self] at hk
  simp only [kidsP, Option.some.injEq] at hk
  have hp := h.pre
  rw [hk, List.drop_length, List.append_nil] at hp
  exact ⟨hk, hp⟩

theorem isT_node {T : List Nd} (h : IsT T) : ∃ x, T[0]? = some x ∧ x.s = ByteArray.empty ∧ okNode x.k x.n = true ∧ kidsP (treeP T 99) T x (manyN x) 0 ByteArray.empty 1 = some T.length := by
  obtain ⟨x, ys, hT, hs, _⟩ := h.root
  have hx : T[0]? = some x := by rw [hT]; rfl
  have ht := h.tree
  rw [show (100 : Nat) = 99 + 1 from rfl, treeP] at ht
  generalize treeP T 99 = tr at *
  rw [hx] at ht
  simp only at ht
  split at ht
  · rename_i ho
    exact ⟨x, hx, hs, ho, ht⟩
  · cases ht

theorem PartsAt.start {T : List Nd} {x : Nd} (hx : T[0]? = some x) (hk : kidsP (treeP T 99) T x (manyN x) 0 ByteArray.empty 1 = some T.length) : PartsAt T x (manyN x) 0 1 ByteArray.empty [] [] := by
  refine ⟨rfl, rfl, hk, ?_, fun _ _ a ha => by simp at ha, fun _ _ => List.Pairwise.nil, fun _ s hs => by simp at hs, fun _ s hs => by simp at hs, fun p hp => by simp at hp⟩
  have := drop_cons hx
  simpa using this

theorem nameN_empty (p : List Nd) : nameN ByteArray.empty p = bareN p := by cases p <;> rfl

/-- A function's type is its two parts' again. -/
theorem PartsAt.arrow {T : List Nd} {x : Nd} {at_ : Nat} {last : ByteArray} {ps : List (List Nd)} {ls : List ByteArray} (h : PartsAt T x (manyN x) (manyN x) at_ last ps ls) (h5 : x.k = 5) (hs : x.s = ByteArray.empty) (ho : okNode x.k x.n = true) :
    ∃ p0 p1, ps = [p0, p1] ∧ arrowN p0 p1 = T := by
  have hm : manyN x = 2 := by unfold manyN many; rw [if_pos h5]; rfl
  rw [hm] at h
  have hpl := h.pl
  have hll := h.ll
  match ps, hpl, ls, hll with
  | [p0, p1], _, [s0, s1], _ =>
    refine ⟨p0, p1, rfl, ?_⟩
    have e0 := h.arr h5 s0 (by simp)
    have e1 := h.arr h5 s1 (by simp)
    have b0 := (h.parts p0 (by simp)).2.2
    have b1 := (h.parts p1 (by simp)).2.2
    have hx : x = ⟨5, ByteArray.empty, 0⟩ := by
      obtain ⟨k, s, n⟩ := x
      simp only at h5 hs ho
      rw [word_n ho (by omega) (by omega), h5, hs]
    rw [h.end_.2]
    simp only [List.range_succ, List.range_zero, List.nil_append, List.cons_append, List.flatMap_cons, List.flatMap_nil, List.append_nil]
    unfold rowPart lab
    simp only [List.getElem?_cons_zero, List.getElem?_cons_succ, Option.getD_some]
    rw [e0, e1, nameN_empty, nameN_empty, b0, b1, hx]
    rfl

/-- A row's type is its parts' again. -/
theorem PartsAt.row {T : List Nd} {x : Nd} {at_ : Nat} {last : ByteArray} {ps : List (List Nd)} {ls : List ByteArray} (h : PartsAt T x (manyN x) (manyN x) at_ last ps ls) (hr : isRowB x.k = true) (hp : plainB T = true) (hs : x.s = ByteArray.empty) (ho : okNode x.k x.n = true) :
    badRow x.k ls ps.length = false ∧ ls.Nodup ∧ ∀ os : List Nat, os.Perm (List.range ps.length) → os.Pairwise (fun i j => ltB (lab ls i) (lab ls j) = true) → rowN x.k ls ps os = T := by
  have hpl := h.pl
  have hll := h.ll
  have hmn : x.n = (manyN x : Int) := by
    have := manyN_ok ho
    rw [← this]
    unfold many
    have h5 : x.k ≠ 5 := by intro e; rw [e] at hr; cases hr
    rw [if_neg h5, if_pos hr]
  have hnd : ls.Nodup := (h.asc hr hp).imp fun {a b} hab e => by rw [e, ltB_irrefl] at hab; cases hab
  refine ⟨?_, hnd, fun os ho1 ho2 => ?_⟩
  · unfold badRow
    have h50 := many_bound ho
    have hmo := manyN_ok ho
    have hodd : oddFrom x.k ls 0 = false := by
      unfold oddFrom
      rw [List.drop_zero, List.any_eq_false]
      intro s hs
      rw [h.labs hp s hs]
      decide
    rw [hr, hodd, hpl, decide_eq_true hll, decide_eq_false (show ¬ 50 < manyN x by omega)]
    have h7 : (decide (x.k = 7) && decide (manyN x = 0)) = false := by
      by_cases h7 : x.k = 7
      · rw [okNode_row hr] at ho
        simp [h7] at ho
        simp
        intro _
        omega
      · simp [h7]
    rw [h7]
    rfl
  · have hos : os = List.range (manyN x) := by
      rw [hpl] at ho1
      refine List.Perm.eq_of_pairwise (le := fun i j => ltB (lab ls i) (lab ls j) = true) (fun i j _ _ h k => ?_) ho2 ?_ ho1
      · have := ltB_trans h k
        rw [ltB_irrefl] at this
        cases this
      · rw [List.pairwise_iff_getElem]
        intro i j hi hj hij
        simp only [List.length_range] at hi hj
        simp only [List.getElem_range]
        have := (List.pairwise_iff_getElem.1 (h.asc hr hp)) i j (by omega) (by omega) hij
        unfold lab
        rw [List.getElem?_eq_getElem (show i < ls.length by omega), List.getElem?_eq_getElem (show j < ls.length by omega)]
        exact this
    rw [hos, h.end_.2]
    unfold rowN
    congr 1
    obtain ⟨k, s, n⟩ := x
    simp only at hs hmn
    rw [hs, hpl, ← hmn]
end Go.Proofs.YtblfeokjlecgkaaDoor
