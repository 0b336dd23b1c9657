/- How types are printed: plain lists of bytes. -/
import Derived.Test.YtblfeokjlecgkaaGreatRightEq
import Derived.Lib.ItoaNum
import Derived.Lib.ItoaLen
namespace Go.Proofs.YtblfeokjlecgkaaGreat

def wordT (x : Nd) : List UInt8 :=
  if x.k = 0 then [63] else if x.k = 1 then [105, 110, 116] else if x.k = 2 then [98, 111, 111, 108] else if x.k = 3 then [115, 116, 114, 105, 110, 103] else
  if x.k = 4 then [117, 110, 105, 116] else if x.k = 8 then 39 :: Lib.itoa x.n else 46 :: 46 :: Lib.itoa x.n

/-- What is behind the first tree. -/
def rest1 (xs : List Nd) : List Nd := (skip xs 1).getD []

def headNd (xs : List Nd) : Nd := xs.head?.getD default

/-- The children of a row, so many, the first with sep0 ahead, each other one with sep. -/
def prKids (pr : List Nd → List UInt8) (sep : List UInt8) : Nat → List UInt8 → List Nd → List UInt8
  | 0, _, _ => []
  | d + 1, sep0, ys => sep0 ++ ((if (headNd ys).k = 9 then [] else (headNd ys).s.data.toList ++ [58, 32]) ++ (pr ys ++ prKids pr sep d sep (rest1 ys)))

/-- The first tree of a row of nodes, printed; at most so deep. -/
def prS : Nat → List Nd → List UInt8
  | 0, _ => []
  | _ + 1, [] => []
  | f + 1, x :: ys =>
    if x.k = 5 then (if (headNd ys).k = 5 then 40 :: (prS f ys ++ [41]) else prS f ys) ++ ([32, 45, 62, 32] ++ prS f (rest1 ys))
    else if x.k = 6 then 123 :: (prKids (prS f) [44, 32] (manyN x) [] ys ++ [125])
    else if x.k = 7 then 91 :: (prKids (prS f) [32, 124, 32] (manyN x) [] ys ++ [93])
    else wordT x

theorem rest1_fo {ts rest : List Nd} (h : Fo 1 ts) : rest1 (ts ++ rest) = rest := by
  unfold rest1
  rw [h.pass]
  rfl

/-- How many bytes a printed row of nodes takes at most. -/
def cost (xs : List Nd) : Nat := (xs.map fun x => x.s.size + 32).foldr (· + ·) 0

theorem cost_nil : cost [] = 0 := rfl
theorem cost_cons (x : Nd) (xs : List Nd) : cost (x :: xs) = x.s.size + 32 + cost xs := rfl
theorem cost_append (xs ys : List Nd) : cost (xs ++ ys) = cost xs + cost ys := by
  induction xs with
  | nil => simp [cost_nil]
  | cons x xs ih => rw [List.cons_append, cost_cons, cost_cons, ih]; omega

theorem wordT_len {x : Nd} (h : okNode x.k x.n = true) (hn : x.n ≤ 9223372036854775807) : (wordT x).length ≤ 23 := by
  unfold wordT
  repeat' split
  all_goals first
    | simp
    | skip
  · rename_i h8
    have h0 : 0 ≤ x.n := by
      unfold okNode at h
      rw [if_pos (by omega)] at h
      simpa using h
    have := Lib.itoa_length_le x.n (by omega) hn
    simp
    omega
  · by_cases h9 : x.k = 9
    · have h0 : 0 ≤ x.n := by
        unfold okNode at h
        rw [if_pos (by omega)] at h
        simpa using h
      have := Lib.itoa_length_le x.n (by omega) hn
      simp
      omega
    · have h0 : 0 ≤ x.n := by
        unfold okNode at h
        repeat' split at h
        all_goals simp at h
        all_goals omega
      have := Lib.itoa_length_le x.n (by omega) hn
      simp
      omega

theorem head_bytes (s : ByteArray) : s.data.toList.length = s.size := rfl

/-- The bound on the printed text, for so many children. -/
theorem prKids_len {pr : List Nd → List UInt8} (sep : List UInt8) (hsep : sep.length ≤ 3) (hpr : ∀ ts rest, Fo 1 ts → okAll ts → (∀ x ∈ ts, x.n ≤ 9223372036854775807) → (pr (ts ++ rest)).length + 5 ≤ cost ts - (headNd ts).s.size) :
    ∀ (d : Nat) (sep0 : List UInt8) (ks rest : List Nd), sep0.length ≤ 3 → Fo d ks → okAll ks → (∀ x ∈ ks, x.n ≤ 9223372036854775807) → (prKids pr sep d sep0 (ks ++ rest)).length ≤ cost ks := by
  intro d
  induction d with
  | zero => intro sep0 ks rest _ _ _ _; simp [prKids]
  | succ d ih =>
    intro sep0 ks rest h0 hf hok hn
    obtain ⟨ts, ks', rfl, hts, hks⟩ := hf.first
    have h1 := hpr ts (ks' ++ rest) hts (okAll_left hok) (fun x hx => hn x (by simp [hx]))
    have h2 := ih sep ks' rest hsep hks (okAll_right hok) (fun x hx => hn x (by simp [hx]))
    have hh : headNd (ts ++ (ks' ++ rest)) = headNd ts := by
      cases ts with
      | nil => cases hts
      | cons x ts => rfl
    have hcs : (headNd ts).s.size + 32 ≤ cost ts := by
      cases ts with
      | nil => cases hts
      | cons x ts => rw [cost_cons]; show x.s.size + 32 ≤ _; omega
    rw [List.append_assoc]
    simp only [prKids, List.length_append, rest1_fo hts, hh, cost_append]
    split <;> simp only [List.length_append, List.length_nil, List.length_cons, head_bytes] <;> omega

theorem prS_len : ∀ (f : Nat) (ts rest : List Nd), Fo 1 ts → okAll ts → (∀ x ∈ ts, x.n ≤ 9223372036854775807) → (prS f (ts ++ rest)).length + 5 ≤ cost ts - (headNd ts).s.size := by
  intro f
  induction f with
  | zero =>
    intro ts rest h _ _
    cases ts with
    | nil => cases h
    | cons x ts => simp only [prS, List.length_nil, cost_cons]; show 0 + 5 ≤ _ - x.s.size; omega
  | succ f ih =>
    intro ts rest h hok hn
    match ts, h, hok, hn with
    | [], h, _, _ => cases h
    | x :: ys, h, hok, hn =>
      obtain ⟨ks, rs, rfl, hks, hrs⟩ := h.uncons
      have := hrs.of_zero
      subst this
      simp only [List.append_nil] at hok hn ⊢
      have hx := hok x (by simp)
      have hhd : (headNd (x :: ks)).s.size = x.s.size := rfl
      rw [hhd, cost_cons, List.cons_append]
      have hokk : okAll ks := fun z hz => hok z (by simp [hz])
      have hnk : ∀ z ∈ ks, z.n ≤ 9223372036854775807 := fun z hz => hn z (by simp [hz])
      simp only [prS]
      split
      · rename_i h5
        have hm : manyN x = 2 := by unfold manyN many; simp [h5]
        rw [hm] at hks
        obtain ⟨t1, ks', rfl, ht1, hks'⟩ := hks.first
        have e1 := ih t1 (ks' ++ rest) ht1 (okAll_left hokk) (fun z hz => hnk z (by simp [hz]))
        have e2 := ih ks' rest hks' (okAll_right hokk) (fun z hz => hnk z (by simp [hz]))
        rw [List.append_assoc, rest1_fo ht1, cost_append]
        split <;> simp only [List.length_append, List.length_cons, List.length_nil] <;> omega
      · split
        · have := prKids_len [44, 32] (by simp) (fun ts rest h1 h2 h3 => ih ts rest h1 h2 h3) (manyN x) [] ks rest (by simp) hks hokk hnk
          simp only [List.length_append, List.length_cons, List.length_nil]
          omega
        · split
          · have := prKids_len [32, 124, 32] (by simp) (fun ts rest h1 h2 h3 => ih ts rest h1 h2 h3) (manyN x) [] ks rest (by simp) hks hokk hnk
            simp only [List.length_append, List.length_cons, List.length_nil]
            omega
          · have := wordT_len hx (hn x (by simp))
            omega
theorem headNd_drop {T : List Nd} {i : Nat} {x : Nd} (h : T[i]? = some x) : headNd (T.drop i) = x := by
  rw [drop_cons h]; rfl

theorem treeP_get {T : List Nd} {f i j : Nat} (h : treeP T f i = some j) : ∃ x, T[i]? = some x := by
  cases f with
  | zero => cases h
  | succ f =>
    simp only [treeP] at h
    split at h
    · cases h
    · exact ⟨_, by assumption⟩

theorem tree_rest1 {T : List Nd} {f i j : Nat} (h : treeP T f i = some j) : rest1 (T.drop i) = T.drop j := by
  obtain ⟨ts, rest, ht⟩ := treeP_sound _ _ _ h
  rw [ht.at_, rest1_fo ht.fo, ht.ej, drop_more ht.at_]

theorem kidsP_step {tr : Nat → Option Nat} {T : List Nd} {x : Nd} {d at_ j : Nat} {k : Int} {last : ByteArray} (h : kidsP tr T x (d + 1) k last at_ = some j) :
    ∃ y at', T[at_]? = some y ∧ tr at_ = some at' ∧ kidsP tr T x d (k + 1) y.s at' = some j := by
  simp only [kidsP] at h
  split at h
  · cases h
  · rename_i y hy
    split at h
    · split at h
      · cases h
      · rename_i at' hat
        exact ⟨y, at', hy, hat, h⟩
    · cases h

end Go.Proofs.YtblfeokjlecgkaaGreat
