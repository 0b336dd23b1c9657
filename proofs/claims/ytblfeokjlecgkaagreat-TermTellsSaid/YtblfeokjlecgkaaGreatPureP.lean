/- What is printed tells the type: the plain law of TyPrints. -/
import Derived.Test.YtblfeokjlecgkaaGreatPureA
namespace Go.Proofs.YtblfeokjlecgkaaGreat

/-- Plain trees, so many, that stand in a node of kind p; at most so deep. -/
inductive PF : Nat → Int → Nat → List Nd → Prop
  | nil (f : Nat) (p : Int) : PF f p 0 []
  | cons {f : Nat} {p : Int} {n : Nat} {x : Nd} {ks rs : List Nd} (h1 : PF f x.k (manyN x) ks) (h2 : PF (f + 1) p n rs) (h3 : okNode x.k x.n = true) (h4 : x.k ≤ 7) (h5 : labelB p x.s = true) : PF (f + 1) p (n + 1) (x :: (ks ++ rs))

theorem PF.fo {f : Nat} {p : Int} {n : Nat} {ks : List Nd} (h : PF f p n ks) : Fo n ks := by
  induction h with
  | nil => exact Fo.zero
  | cons _ _ _ _ _ ih1 ih2 => exact ih1.cons ih2

theorem okNode_k {k n : Int} (h : okNode k n = true) : 0 ≤ k ∧ k ≤ 9 := by
  unfold okNode at h
  split at h
  · omega
  split at h
  · omega
  split at h
  · omega
  · simp at h; omega

theorem kidsP_PF {T : List Nd} {f : Nat} (hp : plainB T = true) (x : Nd)
    (ih : ∀ i j, treeP T f i = some j → ∃ (g : Nat) (y : Nd) (ks rest : List Nd), f = g + 1 ∧ T.drop i = y :: (ks ++ rest) ∧ j = i + 1 + ks.length ∧ PF g y.k (manyN y) ks ∧ okNode y.k y.n = true ∧ y.k ≤ 7) :
    ∀ (d : Nat) (k : Int) (last : ByteArray) (i j : Nat), kidsP (treeP T f) T x d k last i = some j → ∃ ks rest, T.drop i = ks ++ rest ∧ j = i + ks.length ∧ PF f x.k d ks
  | 0, k, last, i, j, h => by
    simp only [kidsP, Option.some.injEq] at h
    exact ⟨[], T.drop i, rfl, by simp [h], .nil _ _⟩
  | d + 1, k, last, i, j, h => by
    simp only [kidsP] at h
    split at h
    · cases h
    rename_i y hy
    split at h
    · rename_i hc
      split at h
      · cases h
      rename_i at' hat
      obtain ⟨g, y', ks, rest, hf, hd, hj, hk, ho, h7⟩ := ih _ _ hat
      have hyy : y' = y := by
        have h1 := drop_cons hy
        rw [hd] at h1
        exact (List.cons.inj h1).1
      subst hyy
      obtain ⟨ks2, rest2, hd2, hj2, hk2⟩ := kidsP_PF hp x ih d (k + 1) y'.s at' j h
      have hd3 : T.drop at' = rest := by
        have : T.drop (i + (y' :: ks).length) = rest := drop_more (ts := y' :: ks) (by rw [hd]; rfl)
        rw [← this, hj]; congr 1; simp; omega
      refine ⟨y' :: (ks ++ ks2), rest2, ?_, ?_, ?_⟩
      · rw [hd, ← hd3, hd2]; simp
      · rw [hj2, hj]; simp; omega
      · subst hf
        refine .cons hk hk2 ho h7 ?_
        unfold childOk at hc
        rw [if_neg (by omega)] at hc
        simp only [Bool.and_eq_true] at hc
        exact hc.1
    · cases h

theorem treeP_PF {T : List Nd} (hp : plainB T = true) : ∀ (f i j : Nat), treeP T f i = some j → ∃ (g : Nat) (y : Nd) (ks rest : List Nd), f = g + 1 ∧ T.drop i = y :: (ks ++ rest) ∧ j = i + 1 + ks.length ∧ PF g y.k (manyN y) ks ∧ okNode y.k y.n = true ∧ y.k ≤ 7
  | 0, i, j, h => by cases h
  | f + 1, i, j, h => by
    simp only [treeP] at h
    split at h
    · cases h
    rename_i x hx
    split at h
    · rename_i ho
      obtain ⟨ks, rest, hd, hj, hk⟩ := kidsP_PF hp x (treeP_PF hp f) _ _ _ _ _ h
      refine ⟨f, x, ks, rest, rfl, ?_, hj, hk, ho, ?_⟩
      · rw [drop_cons hx, hd]
      · have h9 := okNode_k ho
        have hv : isVarB x.k = false := by
          have := List.all_eq_true.1 hp x (List.mem_of_getElem? hx)
          simpa using this
        unfold isVarB at hv
        simp only [Bool.or_eq_false_iff, beq_eq_false_iff_ne] at hv
        omega
    · cases h

def SameTop (x y : Nd) : Prop := x.k = y.k ∧ (x.k ≠ 0 → x.n = y.n)

theorem bare_of {x y : Nd} (h : SameTop x y) (hs : x.s = y.s) : x.bare = y.bare := by
  obtain ⟨k, s, n⟩ := x
  obtain ⟨k', s', n'⟩ := y
  obtain ⟨h1, h2⟩ := h
  simp only at h1 h2 hs
  subst h1 hs
  unfold Nd.bare
  by_cases h0 : k = 0
  · simp [h0]
  · simp [h0, h2 h0]

/-- What may stand behind a type: no arrow. -/
def Tm (r : List UInt8) : Prop := ∀ t, r ≠ 32 :: 45 :: t

/-- The first byte of a printed type that is no arrow. -/
def fbK (k : Int) : UInt8 := if k = 0 then 63 else if k = 1 then 105 else if k = 2 then 98 else if k = 3 then 115 else if k = 4 then 117 else if k = 6 then 123 else 91

theorem fbK_inj {a b : Int} (ha : 0 ≤ a) (ha7 : a ≤ 7) (ha5 : a ≠ 5) (hb : 0 ≤ b) (hb7 : b ≤ 7) (hb5 : b ≠ 5) (h : fbK a = fbK b) : a = b := by
  have ha' : a = 0 ∨ a = 1 ∨ a = 2 ∨ a = 3 ∨ a = 4 ∨ a = 6 ∨ a = 7 := by omega
  have hb' : b = 0 ∨ b = 1 ∨ b = 2 ∨ b = 3 ∨ b = 4 ∨ b = 6 ∨ b = 7 := by omega
  rcases ha' with rfl | rfl | rfl | rfl | rfl | rfl | rfl <;> rcases hb' with rfl | rfl | rfl | rfl | rfl | rfl | rfl <;> first | rfl | exact absurd h (by decide)

theorem fbK_40 (a : Int) : fbK a ≠ 40 := by
  unfold fbK
  repeat' split
  all_goals decide

theorem wordT_fb {x : Nd} (h0 : 0 ≤ x.k) (h4 : x.k ≤ 4) : ∃ t, wordT x = fbK x.k :: t := by
  have h : x.k = 0 ∨ x.k = 1 ∨ x.k = 2 ∨ x.k = 3 ∨ x.k = 4 := by omega
  unfold wordT fbK
  rcases h with h | h | h | h | h <;> rw [h] <;> exact ⟨_, rfl⟩

theorem wordT_same {x y : Nd} (h : x.k = y.k) (h0 : 0 ≤ x.k) (h4 : x.k ≤ 4) : wordT x = wordT y := by
  have h' : x.k = 0 ∨ x.k = 1 ∨ x.k = 2 ∨ x.k = 3 ∨ x.k = 4 := by omega
  unfold wordT
  rw [← h]
  rcases h' with h | h | h | h | h <;> rw [h] <;> rfl

theorem prS_fb {f : Nat} {x : Nd} {ys : List Nd} (h0 : 0 ≤ x.k) (h7 : x.k ≤ 7) (h5 : x.k ≠ 5) : ∃ t, prS (f + 1) (x :: ys) = fbK x.k :: t := by
  by_cases h6 : x.k = 6
  · simp only [prS, h6]; exact ⟨_, rfl⟩
  by_cases h7' : x.k = 7
  · simp only [prS, h7']; exact ⟨_, rfl⟩
  · obtain ⟨t, ht⟩ := wordT_fb h0 (by omega)
    simp only [prS, if_neg h5, if_neg h6, if_neg h7']
    exact ⟨t, ht⟩

theorem rest1_kids {x : Nd} {ks zs : List Nd} (h : Fo (manyN x) ks) : rest1 (x :: (ks ++ zs)) = zs :=
  rest1_fo (ts := x :: ks) (by have := h.cons Fo.zero; rwa [List.append_nil] at this)

theorem split58 : ∀ (a b x y : List UInt8), (∀ c ∈ a, c ≠ 58) → (∀ c ∈ b, c ≠ 58) → a ++ 58 :: x = b ++ 58 :: y → a = b ∧ x = y
  | [], [], x, y, _, _, h => by simpa using h
  | [], b :: bs, x, y, _, hb, h => by
    injection h with h1 h2
    exact absurd h1.symm (hb b (by simp))
  | a :: l, [], x, y, ha, _, h => by
    injection h with h1 h2
    exact absurd h1 (ha a (by simp))
  | a :: l, b :: bs, x, y, ha, hb, h => by
    injection h with h1 h2
    obtain ⟨h3, h4⟩ := split58 l bs x y (fun c hc => ha c (by simp [hc])) (fun c hc => hb c (by simp [hc])) h2
    exact ⟨by rw [h1, h3], h4⟩

theorem label_bytes {p : Int} {s : ByteArray} (hr : isRowB p = true) (hl : labelB p s = true) : ∃ c cs, s.data.toList = c :: cs ∧ ∀ d ∈ s.data.toList, behindC d.toNat = true := by
  unfold labelB at hl
  have key : ∀ F : Int → Bool, (∀ c, F c = true → behindC c = true) → fitsL F s.data.toList = true → ∃ c cs, s.data.toList = c :: cs ∧ ∀ d ∈ s.data.toList, behindC d.toNat = true := by
    intro F hF h
    cases hs : s.data.toList with
    | nil => rw [hs] at h; cases h
    | cons c cs =>
      rw [hs] at h
      simp only [fitsL, Bool.and_eq_true, List.all_eq_true] at h
      refine ⟨c, cs, rfl, fun d hd => ?_⟩
      rcases List.mem_cons.1 hd with rfl | hd
      · exact hF _ h.1
      · exact h.2 d hd
  by_cases h6 : p = 6
  · rw [if_pos h6] at hl
    exact key smallC (fun c hc => by simp [behindC, hc]) hl
  · rw [if_neg h6] at hl
    by_cases h7 : p = 7
    · rw [if_pos h7] at hl
      exact key greatC (fun c hc => by simp [behindC, hc]) hl
    · simp [isRowB, h6, h7] at hr

theorem behind_not {d : UInt8} (h : behindC d.toNat = true) : d ≠ 58 ∧ d ≠ 125 ∧ d ≠ 93 ∧ d ≠ 44 ∧ d ≠ 32 := by
  refine ⟨?_, ?_, ?_, ?_, ?_⟩ <;> rintro rfl <;> exact absurd h (by decide)

theorem str_eq {a b : ByteArray} (h : a.data.toList = b.data.toList) : a = b := by
  obtain ⟨⟨l⟩⟩ := a
  obtain ⟨⟨l'⟩⟩ := b
  simp only at h
  rw [h]

def GenP (f : Nat) : Prop := ∀ (f' : Nat) (x x' : Nd) (ks ks' zs zs' : List Nd) (r r' : List UInt8), okNode x.k x.n = true → okNode x'.k x'.n = true → x.k ≤ 7 → x'.k ≤ 7 →
  PF f x.k (manyN x) ks → PF f' x'.k (manyN x') ks' → Tm r → Tm r' → prS (f + 1) (x :: (ks ++ zs)) ++ r = prS (f' + 1) (x' :: (ks' ++ zs')) ++ r' →
  SameTop x x' ∧ ks.map Nd.bare = ks'.map Nd.bare ∧ r = r'

def AtomP (f : Nat) : Prop := ∀ (f' : Nat) (x x' : Nd) (ks ks' zs zs' : List Nd) (r r' : List UInt8), okNode x.k x.n = true → okNode x'.k x'.n = true → x.k ≤ 7 → x'.k ≤ 7 →
  PF f x.k (manyN x) ks → PF f' x'.k (manyN x') ks' → x.k ≠ 5 → x'.k ≠ 5 → prS (f + 1) (x :: (ks ++ zs)) ++ r = prS (f' + 1) (x' :: (ks' ++ zs')) ++ r' →
  SameTop x x' ∧ ks.map Nd.bare = ks'.map Nd.bare ∧ r = r'

theorem prKids_cons (pr : List Nd → List UInt8) (sep : List UInt8) (d : Nat) (sep0 : List UInt8) {x : Nd} {ks zs : List Nd} (hf : Fo (manyN x) ks) (h9 : x.k ≠ 9) :
    prKids pr sep (d + 1) sep0 (x :: (ks ++ zs)) = sep0 ++ (x.s.data.toList ++ (58 :: 32 :: (pr (x :: (ks ++ zs)) ++ prKids pr sep d sep zs))) := by
  simp only [prKids]
  rw [rest1_kids hf, show headNd (x :: (ks ++ zs)) = x from rfl, if_neg h9]
  simp

theorem kids_inj (f : Nat) (ih : ∀ g, g < f → GenP g) (p : Int) (hp : isRowB p = true) (sep : List UInt8) (c : UInt8) (hsep : (sep = [44, 32] ∧ c = 125) ∨ (sep = [32, 124, 32] ∧ c = 93)) :
    ∀ (n : Nat) (f' n' : Nat) (ks ks' zs zs' : List Nd) (sep0 r r' : List UInt8), (sep0 = [] ∨ sep0 = sep) → PF f p n ks → PF f' p n' ks' →
    prKids (prS f) sep n sep0 (ks ++ zs) ++ c :: r = prKids (prS f') sep n' sep0 (ks' ++ zs') ++ c :: r' → n = n' ∧ ks.map Nd.bare = ks'.map Nd.bare ∧ r = r' := by
  have hc : ∀ {s : ByteArray} {t u : List UInt8} (sep0 : List UInt8), (sep0 = [] ∨ sep0 = sep) → labelB p s = true → c :: t = sep0 ++ (s.data.toList ++ u) → False := by
    intro s t u sep0 h0 hl h
    obtain ⟨d, ds, hd, hall⟩ := label_bytes hp hl
    have hb := behind_not (hall d (by rw [hd]; simp))
    rcases h0 with rfl | rfl
    · rw [hd] at h
      simp only [List.nil_append, List.cons_append, List.cons.injEq] at h
      rcases hsep with ⟨_, rfl⟩ | ⟨_, rfl⟩
      · exact hb.2.1 h.1.symm
      · exact hb.2.2.1 h.1.symm
    · rcases hsep with ⟨rfl, rfl⟩ | ⟨rfl, rfl⟩
      · simp at h
      · simp at h
  intro n
  induction n with
  | zero =>
    intro f' n' ks ks' zs zs' sep0 r r' h0 hk hk' h
    cases hk
    cases hk' with
    | nil => simpa [prKids] using h
    | cons h1 h2 h3 h4 h5 =>
      simp only [List.cons_append, List.append_assoc] at h
      rw [prKids_cons _ _ _ _ h1.fo (by omega)] at h
      simp only [prKids, List.nil_append, List.append_assoc] at h
      exact (hc sep0 h0 h5 h).elim
  | succ n ihn =>
    intro f' n' ks ks' zs zs' sep0 r r' h0 hk hk' h
    cases hk with
    | @cons g _ _ x ks1 rs1 h1 h2 h3 h4 h5 =>
      simp only [List.cons_append, List.append_assoc] at h
      rw [prKids_cons _ _ _ _ h1.fo (by omega)] at h
      cases hk' with
      | nil =>
        simp only [prKids, List.nil_append, List.append_assoc] at h
        exact (hc sep0 h0 h5 h.symm).elim
      | @cons g' _ n'' x' ks1' rs1' h1' h2' h3' h4' h5' =>
        simp only [List.append_assoc, List.cons_append] at h
        rw [prKids_cons _ _ _ _ h1'.fo (by omega)] at h
        simp only [List.append_assoc, List.cons_append] at h
        have h := List.append_cancel_left h
        obtain ⟨_, _, _, hall⟩ := label_bytes hp h5
        obtain ⟨_, _, _, hall'⟩ := label_bytes hp h5'
        obtain ⟨hs, h⟩ := split58 _ _ _ _ (fun d hd => (behind_not (hall d hd)).1) (fun d hd => (behind_not (hall' d hd)).1) h
        injection h with _ h
        have tm : ∀ (g : Nat) (n : Nat) (rs zs : List Nd) (r : List UInt8), PF g p n rs → Tm (prKids (prS g) sep n sep (rs ++ zs) ++ c :: r) := by
          intro g n rs zs r hk t ht
          cases hk with
          | nil =>
            simp only [prKids, List.nil_append] at ht
            rcases hsep with ⟨_, rfl⟩ | ⟨_, rfl⟩ <;> simp at ht
          | cons k1 k2 k3 k4 k5 =>
            simp only [List.append_assoc, List.cons_append] at ht
            rw [prKids_cons _ _ _ _ k1.fo (by omega)] at ht
            rcases hsep with ⟨rfl, _⟩ | ⟨rfl, _⟩ <;> simp at ht
        obtain ⟨e1, e2, e3⟩ := ih g (by omega) g' x x' ks1 ks1' (rs1 ++ zs) (rs1' ++ zs') _ _ h3 h3' h4 h4' h1 h1' (tm _ _ _ _ _ h2) (tm _ _ _ _ _ h2') h
        obtain ⟨e4, e5, e6⟩ := ihn (g' + 1) n'' rs1 rs1' zs zs' sep r r' (Or.inr rfl) h2 h2' e3
        refine ⟨by rw [e4], ?_, e6⟩
        simp only [List.map_cons, List.map_append]
        rw [bare_of e1 (str_eq hs), e2, e5]

theorem PF.none {f : Nat} {p : Int} {n : Nat} {ks : List Nd} (h : PF f p n ks) (hn : n = 0) : ks = [] := by
  cases h with
  | nil => rfl
  | cons => cases hn

theorem manyN_word {x : Nd} (h : x.k ≤ 4) : manyN x = 0 := by
  unfold manyN many isRowB
  rw [if_neg (by omega), if_neg (by simp; omega)]
  rfl

theorem word_n {k n : Int} (h : okNode k n = true) (h0 : 0 < k) (h5 : k ≤ 5) : n = 0 := by
  unfold okNode at h
  rw [if_neg (by omega), if_neg (by omega), if_neg (by omega)] at h
  simp at h
  exact h.2.2

theorem atom_of (f : Nat) (ih : ∀ g, g < f → GenP g) : AtomP f := by
  intro f' x x' ks ks' zs zs' r r' ho ho' h7 h7' hk hk' h5 h5' h
  have k0 := okNode_k ho
  have k0' := okNode_k ho'
  obtain ⟨t, ht⟩ := prS_fb (f := f) (ys := ks ++ zs) k0.1 h7 h5
  obtain ⟨t', ht'⟩ := prS_fb (f := f') (ys := ks' ++ zs') k0'.1 h7' h5'
  have hkk : x.k = x'.k := by
    have h2 := h
    rw [ht, ht'] at h2
    simp only [List.cons_append, List.cons.injEq] at h2
    exact fbK_inj k0.1 h7 h5 k0'.1 h7' h5' h2.1
  clear ht ht'
  by_cases h6 : x.k = 6
  · have h6' : x'.k = 6 := by rw [← hkk, h6]
    simp only [prS] at h
    rw [if_neg h5, if_pos h6, if_neg h5', if_pos h6'] at h
    simp only [List.cons_append, List.append_assoc, List.cons.injEq, true_and, List.nil_append] at h
    rw [h6] at hk
    rw [h6'] at hk'
    obtain ⟨e1, e2, e3⟩ := kids_inj f ih 6 rfl [44, 32] 125 (Or.inl ⟨rfl, rfl⟩) _ f' _ ks ks' zs zs' [] r r' (Or.inl rfl) hk hk' h
    refine ⟨⟨hkk, fun _ => ?_⟩, e2, e3⟩
    have m1 := manyN_ok ho
    have m2 := manyN_ok ho'
    simp only [many, h6, h6', isRowB] at m1 m2
    simp at m1 m2
    omega
  by_cases h7k : x.k = 7
  · have h7k' : x'.k = 7 := by rw [← hkk, h7k]
    simp only [prS] at h
    rw [if_neg h5, if_neg h6, if_pos h7k, if_neg h5', if_neg (by omega), if_pos h7k'] at h
    simp only [List.cons_append, List.append_assoc, List.cons.injEq, true_and, List.nil_append] at h
    rw [h7k] at hk
    rw [h7k'] at hk'
    obtain ⟨e1, e2, e3⟩ := kids_inj f ih 7 rfl [32, 124, 32] 93 (Or.inr ⟨rfl, rfl⟩) _ f' _ ks ks' zs zs' [] r r' (Or.inl rfl) hk hk' h
    refine ⟨⟨hkk, fun _ => ?_⟩, e2, e3⟩
    have m1 := manyN_ok ho
    have m2 := manyN_ok ho'
    simp only [many, h7k, h7k', isRowB] at m1 m2
    simp at m1 m2
    omega
  · simp only [prS] at h
    rw [if_neg h5, if_neg h6, if_neg h7k, if_neg h5', if_neg (by omega), if_neg (by omega), wordT_same hkk k0.1 (by omega)] at h
    refine ⟨⟨hkk, fun hz => ?_⟩, ?_, List.append_cancel_left h⟩
    · rw [word_n ho (by omega) (by omega), word_n ho' (by omega) (by omega)]
    · rw [hk.none (manyN_word (by omega)), hk'.none (manyN_word (by omega))]

theorem prS_arrow {f : Nat} {x : Nd} {ys : List Nd} (h5 : x.k = 5) : prS (f + 1) (x :: ys) = (if (headNd ys).k = 5 then 40 :: (prS f ys ++ [41]) else prS f ys) ++ ([32, 45, 62, 32] ++ prS f (rest1 ys)) := by
  simp only [prS]
  rw [if_pos h5]

/-- A printed arrow's parts. -/
theorem arrow_parts {f : Nat} {x : Nd} {ks : List Nd} (h5 : x.k = 5) (hk : PF f x.k (manyN x) ks) (zs : List Nd) :
    ∃ (g : Nat) (a b : Nd) (ka kb : List Nd), f = g + 1 ∧ ks = a :: (ka ++ b :: kb) ∧ PF g a.k (manyN a) ka ∧ PF g b.k (manyN b) kb ∧ okNode a.k a.n = true ∧ okNode b.k b.n = true ∧ a.k ≤ 7 ∧ b.k ≤ 7 ∧
      a.s.size = 0 ∧ b.s.size = 0 ∧
      prS (f + 1) (x :: (ks ++ zs)) = (if a.k = 5 then 40 :: (prS (g + 1) (a :: (ka ++ (b :: kb ++ zs))) ++ [41]) else prS (g + 1) (a :: (ka ++ (b :: kb ++ zs)))) ++ (32 :: 45 :: 62 :: 32 :: prS (g + 1) (b :: (kb ++ zs))) := by
  have hm : manyN x = 2 := by unfold manyN many; rw [if_pos h5]; rfl
  rw [hm, h5] at hk
  cases hk with
  | @cons g _ _ a ka rs h1 h2 h3 h4 hl =>
    cases h2 with
    | @cons _ _ _ b kb rs2 k1 k2 k3 k4 kl =>
      cases k2
      refine ⟨g, a, b, ka, kb, rfl, by simp, h1, k1, h3, k3, h4, k4, by simpa [labelB] using hl, by simpa [labelB] using kl, ?_⟩
      rw [prS_arrow h5]
      simp only [List.append_nil, List.cons_append, List.append_assoc]
      rw [show headNd (a :: (ka ++ b :: (kb ++ zs))) = a from rfl, rest1_kids h1.fo]
      simp

theorem size0_eq {a b : ByteArray} (ha : a.size = 0) (hb : b.size = 0) : a = b := by
  obtain ⟨⟨l⟩⟩ := a
  obtain ⟨⟨l'⟩⟩ := b
  have h1 : l.length = 0 := ha
  have h2 : l'.length = 0 := hb
  rw [List.eq_nil_of_length_eq_zero h1, List.eq_nil_of_length_eq_zero h2]

theorem tm_41 (r : List UInt8) : Tm (41 :: r) := fun t h => by simp at h

theorem gen_of (f : Nat) : GenP f := by
  induction f using Nat.strongRecOn with
  | _ f ih =>
    intro f' x x' ks ks' zs zs' r r' ho ho' h7 h7' hk hk' tm tm' h
    have k0 := okNode_k ho
    have k0' := okNode_k ho'
    by_cases h5 : x.k = 5
    · obtain ⟨g, a, b, ka, kb, rfl, rfl, ha, hb, oa, ob, a7, b7, sa, sb, hpr⟩ := arrow_parts h5 hk zs
      rw [hpr] at h
      have a0 := okNode_k oa
      by_cases h5' : x'.k = 5
      · obtain ⟨g', a', b', ka', kb', rfl, rfl, ha', hb', oa', ob', a7', b7', sa', sb', hpr'⟩ := arrow_parts h5' hk' zs'
        rw [hpr'] at h
        have a0' := okNode_k oa'
        have fin : SameTop a a' → ka.map Nd.bare = ka'.map Nd.bare → prS (g + 1) (b :: (kb ++ zs)) ++ r = prS (g' + 1) (b' :: (kb' ++ zs')) ++ r' →
            SameTop x x' ∧ (a :: (ka ++ b :: kb)).map Nd.bare = (a' :: (ka' ++ b' :: kb')).map Nd.bare ∧ r = r' := by
          intro e1 e2 h
          obtain ⟨e3, e4, e5⟩ := ih g (by omega) g' b b' kb kb' zs zs' r r' ob ob' b7 b7' hb hb' tm tm' h
          refine ⟨⟨by rw [h5, h5'], fun _ => ?_⟩, ?_, e5⟩
          · rw [word_n ho (by omega) (by omega), word_n ho' (by omega) (by omega)]
          · simp only [List.map_cons, List.map_append]
            rw [bare_of e1 (size0_eq sa sa'), bare_of e3 (size0_eq sb sb'), e2, e4]
        by_cases a5 : a.k = 5
        · rw [if_pos a5] at h
          by_cases a5' : a'.k = 5
          · rw [if_pos a5'] at h
            simp only [List.cons_append, List.append_assoc, List.cons.injEq, true_and, List.nil_append] at h
            obtain ⟨e1, e2, e3⟩ := ih g (by omega) g' a a' ka ka' _ _ _ _ oa oa' a7 a7' ha ha' (tm_41 _) (tm_41 _) h
            simp only [List.cons.injEq, true_and] at e3
            exact fin e1 e2 e3
          · rw [if_neg a5'] at h
            obtain ⟨t', ht'⟩ := prS_fb (f := g') (ys := ka' ++ (b' :: kb' ++ zs')) a0'.1 a7' a5'
            rw [ht'] at h
            simp only [List.cons_append, List.cons.injEq] at h
            exact absurd h.1.symm (fbK_40 _)
        · rw [if_neg a5] at h
          by_cases a5' : a'.k = 5
          · rw [if_pos a5'] at h
            obtain ⟨t', ht'⟩ := prS_fb (f := g) (ys := ka ++ (b :: kb ++ zs)) a0.1 a7 a5
            rw [ht'] at h
            simp only [List.cons_append, List.cons.injEq] at h
            exact absurd h.1 (fbK_40 _)
          · rw [if_neg a5'] at h
            simp only [List.append_assoc, List.cons_append] at h
            obtain ⟨e1, e2, e3⟩ := atom_of g (fun m hm => ih m (by omega)) g' a a' ka ka' (b :: (kb ++ zs)) (b' :: (kb' ++ zs')) _ _ oa oa' a7 a7' ha ha' a5 a5' h
            simp only [List.cons.injEq, true_and] at e3
            exact fin e1 e2 e3
      · exfalso
        by_cases a5 : a.k = 5
        · rw [if_pos a5] at h
          obtain ⟨t', ht'⟩ := prS_fb (f := f') (ys := ks' ++ zs') k0'.1 h7' h5'
          rw [ht'] at h
          simp only [List.cons_append, List.cons.injEq] at h
          exact absurd h.1.symm (fbK_40 _)
        · rw [if_neg a5] at h
          simp only [List.append_assoc, List.cons_append] at h
          obtain ⟨e1, e2, e3⟩ := atom_of g (fun m hm => ih m (by omega)) f' a x' ka ks' (b :: (kb ++ zs)) zs' _ _ oa ho' a7 h7' ha hk' a5 h5' h
          exact tm' _ e3.symm
    · by_cases h5' : x'.k = 5
      · exfalso
        obtain ⟨g', a', b', ka', kb', rfl, rfl, ha', hb', oa', ob', a7', b7', sa', sb', hpr'⟩ := arrow_parts h5' hk' zs'
        rw [hpr'] at h
        have a0' := okNode_k oa'
        by_cases a5' : a'.k = 5
        · rw [if_pos a5'] at h
          obtain ⟨t', ht'⟩ := prS_fb (f := f) (ys := ks ++ zs) k0.1 h7 h5
          rw [ht'] at h
          simp only [List.cons_append, List.cons.injEq] at h
          exact absurd h.1 (fbK_40 _)
        · rw [if_neg a5'] at h
          simp only [List.append_assoc, List.cons_append] at h
          obtain ⟨e1, e2, e3⟩ := atom_of f ih g' x a' ks ka' zs (b' :: (kb' ++ zs')) _ _ ho oa' h7 a7' hk ha' h5 a5' h
          exact tm _ e3
      · exact atom_of f ih f' x x' ks ks' zs zs' r r' ho ho' h7 h7' hk hk' h5 h5' h

theorem tm_nil : Tm [] := fun t h => by cases h

theorem manyN_bare (x : Nd) : manyN x.bare = manyN x := by
  obtain ⟨k, s, n⟩ := x
  unfold Nd.bare
  by_cases h : k = 0
  · simp [h, manyN, many, isRowB]
  · simp [h]

theorem skip_bare : ∀ (xs : List Nd) (n : Nat), skip (xs.map Nd.bare) n = (skip xs n).map (List.map Nd.bare)
  | xs, 0 => by rw [skip_zero, skip_zero]; rfl
  | [], n + 1 => rfl
  | x :: xs, n + 1 => by
    rw [List.map_cons, skip_cons, skip_cons, manyN_bare, skip_bare xs]

theorem rest1_bare (xs : List Nd) : rest1 (xs.map Nd.bare) = (rest1 xs).map Nd.bare := by
  unfold rest1
  rw [skip_bare]
  cases skip xs 1 <;> rfl

theorem bare_k (x : Nd) : x.bare.k = x.k := by unfold Nd.bare; split <;> rfl
theorem bare_s (x : Nd) : x.bare.s = x.s := by unfold Nd.bare; split <;> rfl
theorem headNd_bare (xs : List Nd) : headNd (xs.map Nd.bare) = (headNd xs).bare := by
  cases xs with
  | nil => rfl
  | cons x xs => rfl

theorem prKids_bare {pr : List Nd → List UInt8} (sep : List UInt8) (h : ∀ xs, pr (xs.map Nd.bare) = pr xs) : ∀ (d : Nat) (sep0 : List UInt8) (xs : List Nd), prKids pr sep d sep0 (xs.map Nd.bare) = prKids pr sep d sep0 xs
  | 0, _, _ => rfl
  | d + 1, sep0, xs => by
    simp only [prKids]
    rw [rest1_bare, h, prKids_bare sep h d, headNd_bare, bare_k, bare_s]

theorem wordT_bare (x : Nd) : wordT x.bare = wordT x := by
  obtain ⟨k, s, n⟩ := x
  unfold Nd.bare
  by_cases h : k = 0
  · simp [h, wordT]
  · simp [h]

theorem prS_bare : ∀ (f : Nat) (xs : List Nd), prS f (xs.map Nd.bare) = prS f xs
  | 0, _ => rfl
  | f + 1, [] => rfl
  | f + 1, x :: xs => by
    simp only [List.map_cons, prS]
    rw [prS_bare f xs, rest1_bare, prS_bare f, prKids_bare _ (prS_bare f), prKids_bare _ (prS_bare f), headNd_bare, bare_k, bare_k, manyN_bare, wordT_bare]

/-- Two plain types are printed alike just if they are alike. -/
theorem print_same {a b : List Nd} (ha : IsT a) (hb : IsT b) (pa : plainB a = true) (pb : plainB b = true) : decide (prS 100 a = prS 100 b) = sameB a b := by
  unfold sameB
  rw [decide_eq_decide]
  constructor
  · intro h
    obtain ⟨g, x, ks, rest, hg, hd, hj, hk, ho, h7⟩ := treeP_PF pa 100 0 _ ha.tree
    obtain ⟨g', x', ks', rest', hg', hd', hj', hk', ho', h7'⟩ := treeP_PF pb 100 0 _ hb.tree
    obtain rfl : g = 99 := by omega
    obtain rfl : g' = 99 := by omega
    rw [List.drop_zero] at hd hd'
    have hr : rest = [] := by
      have := congrArg List.length hd
      simp at this
      exact List.eq_nil_of_length_eq_zero (by omega)
    have hr' : rest' = [] := by
      have := congrArg List.length hd'
      simp at this
      exact List.eq_nil_of_length_eq_zero (by omega)
    subst hr hr'
    have h2 := h
    rw [hd, hd'] at h2
    obtain ⟨e1, e2, _⟩ := gen_of 99 99 x x' ks ks' [] [] [] [] ho ho' h7 h7' hk hk' tm_nil tm_nil (by simpa using h2)
    have hs : x.s = x'.s := by
      obtain ⟨y, ys, hy, hys, _⟩ := ha.root
      obtain ⟨y', ys', hy', hys', _⟩ := hb.root
      rw [hd] at hy
      rw [hd'] at hy'
      rw [(List.cons.inj hy).1, (List.cons.inj hy').1, hys, hys']
    rw [hd, hd', List.append_nil, List.append_nil, List.map_cons, List.map_cons, bare_of e1 hs, e2]
  · intro h
    rw [← prS_bare 100 a, h, prS_bare]
end Go.Proofs.YtblfeokjlecgkaaGreat
