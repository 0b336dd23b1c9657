/- Laid together by a tool from the texts of this seat: GtD GtE GivC ChEx. Conditions: each theorem's own. -/
import Derived.Test.YtmjdhfbnmmdjiaaGreatK12
import Derived.Test.YtmjdhfbnmmdjiaaGreatK22
import Derived.Test.YtmjdhfbnmmdjiaaGreatK17
/- What check tells of a right expression: never stuck; a plain type, or a part that is wrong. Ways without rows. No program in sight. -/
namespace Go.Proofs.YtmjdhfbnmmdjiaaGreat

/-- How many times as large a type grows, at most, by so many parts. -/
def kTab : List Nat := [0, 1, 2, 3, 4, 5, 6, 7, 9, 12, 16, 20, 25, 30, 36, 48, 64, 80, 100, 125, 150, 192, 256, 320, 400, 500, 625, 768, 1024, 1280, 1600, 2000, 2500, 3125, 4096, 5120, 6400, 8000, 10000, 12500, 16384, 20480, 25600, 32000, 40000, 50000, 65536, 81920, 102400, 128000, 160000, 200000, 262144, 327680, 409600, 512000, 640000, 800000, 1048576, 1310720, 1638400]
def KT (n : Nat) : Nat := kTab.getD n 0
set_option maxRecDepth 100000 in
theorem KT_addD : ∀ x < 61, ∀ y < 61, x + y < 61 → KT x + KT y ≤ KT (x + y) := by decide +kernel
set_option maxRecDepth 100000 in
theorem KT_mulD : ∀ x < 61, ∀ y < 61, x + y + 2 < 61 → KT x * KT y ≤ KT (x + y + 2) := by decide +kernel
theorem KT_add {x y : Nat} (h : x + y ≤ 60) : KT x + KT y ≤ KT (x + y) := KT_addD x (by omega) y (by omega) (by omega)
theorem KT_mul {x y : Nat} (h : x + y + 2 ≤ 60) : KT x * KT y ≤ KT (x + y + 2) := KT_mulD x (by omega) y (by omega) (by omega)
theorem KT_mono {x y : Nat} (h : x ≤ y) (hy : y ≤ 60) : KT x ≤ KT y := by
  have := KT_add (x := x) (y := y - x) (by omega)
  rw [show x + (y - x) = y from by omega] at this
  omega
theorem KT_pos {x : Nat} (h : 1 ≤ x) (hx : x ≤ 60) : 1 ≤ KT x := by
  have := KT_mono h hx
  have e : KT 1 = 1 := rfl
  omega
theorem EK_mono (E : Nat) {x y : Nat} (h : x ≤ y) (hy : y ≤ 60) : E * KT x ≤ E * KT y := Nat.mul_le_mul_left E (KT_mono h hy)
theorem EK_one (E : Nat) {x : Nat} (h : 1 ≤ x) (hx : x ≤ 60) : E ≤ E * KT x := by
  have := Nat.mul_le_mul_left E (KT_pos h hx)
  omega
theorem EK_add (E : Nat) {x y : Nat} (h : x + y ≤ 60) : E * KT x + E * KT y ≤ E * KT (x + y) := by
  have := Nat.mul_le_mul_left E (KT_add h)
  rw [Nat.mul_add] at this
  exact this

/-- A part that is wrong, among some. -/
def ErrF (es : List Pt) (lo hi i : Nat) (e : Int) : Prop := lo ≤ i ∧ i < hi ∧ ∃ p, es[i]? = some p ∧ ((e = 5 ∧ p.k = 1) ∨ (e = 9 ∧ p.k ≠ 1))
def Gets (es : List Pt) (lo hi : Nat) (P : List Nd → Nat → Prop) (x : Option Ans) : Prop := (∃ t c, x = some (.ok (t, c)) ∧ P t c) ∨ (∃ i e, x = some (.error (i, e)) ∧ ErrF es lo hi i e)
section
variable {es : List Pt} {lo hi lo2 hi2 : Nat} {P Q : List Nd → Nat → Prop} {x : Option Ans}
theorem Gets.andA {f : List Nd → Nat → Option Ans} (h : Gets es lo hi P x) (hf : ∀ t c, P t c → Gets es lo hi Q (f t c)) : Gets es lo hi Q (andA x f) := by
  rcases h with ⟨t, c, rfl, h⟩ | ⟨i, e, rfl, h⟩
  · exact hf t c h
  · exact .inr ⟨i, e, rfl, h⟩
theorem Gets.mono (h : Gets es lo2 hi2 P x) (hl : lo ≤ lo2) (hh : hi2 ≤ hi) (hp : ∀ t c, P t c → Q t c) : Gets es lo hi Q x := by
  rcases h with ⟨t, c, rfl, h⟩ | ⟨i, e, rfl, h⟩
  · exact .inl ⟨t, c, rfl, hp t c h⟩
  · exact .inr ⟨i, e, rfl, by have := h.1; omega, by have := h.2.1; omega, h.2.2⟩
end

/-- What a part is, as far as its types go. -/
structure PtG (st : Bool) (p : Pt) : Prop where
  k : 0 ≤ p.k ∧ p.k ≤ 14
  m7 : p.k = 7 → 1 ≤ p.mn ∧ p.mn ≤ 50
  m10 : p.k = 10 → 0 ≤ p.mn ∧ p.mn ≤ 50
  T : p.k = 0 ∨ p.k = 2 ∨ p.k = 4 ∨ p.k = 5 ∨ p.k = 12 ∨ p.k = 13 ∨ p.k = 14 → GT st 30 p.T
  U : p.k = 5 ∨ p.k = 14 → GT st 30 p.U
  lT : p.T.length ≤ 30
  lU : p.U.length ≤ 30
  lb : p.lb.size ≤ 100
structure InE (st : Bool) (es : List Pt) : Prop where
  pt : ∀ (i : Nat) (p : Pt), es[i]? = some p → PtG st p
  kids : ∀ (i : Nat) (p : Pt), es[i]? = some p → ∃ l, kidsO es (manyE p) (i + 1) = some l ∧ LabF es p l
def EnvF (st : Bool) (D E : Nat) (env : Env) : Prop := ∀ e ∈ env, GT st D e.2 ∧ e.2.length ≤ E
def TP (st : Bool) (d m b : Nat) (t : List Nd) (c : Nat) : Prop := c = b ∧ GT st d t ∧ t.length ≤ m
/-- What a part's children are told. -/
def NxG (st : Bool) (es : List Pt) (f : Nat) (nx : Nx) : Prop := ∀ (a b : Nat) (env : Env) (D E : Nat), EA es 1 a b → b - a ≤ f → (∀ p, es[a]? = some p → p.k ≠ 8) → EnvF st D E env → 40 ≤ D → 61 ≤ E → env.length + 2 * (b - a) ≤ 1000 → b - a ≤ 60 → E * KT (b - a) ≤ 1000000000 →
  Gets es a b (TP st (D + (b - a) - 1) (E * KT (b - a)) b) (nx env a)

theorem EnvF.app {st : Bool} {D E : Nat} {env env2 : Env} (h : EnvF st D E env) (k : EnvF st D E env2) : EnvF st D E (env ++ env2) := fun e he => by
  rcases List.mem_append.1 he with he | he
  · exact h e he
  · exact k e he
theorem EnvF.mono {st : Bool} {D E D2 E2 : Nat} {env : Env} (h : EnvF st D E env) (hd : D ≤ D2) (hE : E ≤ E2) : EnvF st D2 E2 env := fun e he => ⟨(h e he).1.mono hd, by have := (h e he).2; omega⟩
theorem EnvF.one {st : Bool} {D E : Nat} {s : ByteArray} {t : List Nd} (h : GT st D t) (hl : t.length ≤ E) : EnvF st D E [(s, t)] := fun e he => by
  simp at he
  subst he
  exact ⟨h, hl⟩

theorem kidsO_cons {es : List Pt} {n a c : Nat} {l : List Nat} (h : kidsO es (n + 1) a = some l) (hc : EA es 1 a c) : ∃ l2, l = a :: l2 ∧ kidsO es n c = some l2 := by
  unfold kidsO at h
  unfold EA at hc
  rw [hc] at h
  simp only [Option.map_eq_some_iff] at h
  obtain ⟨l2, h1, h2⟩ := h
  exact ⟨l2, h2.symm, h1⟩

section
variable {st : Bool} {es : List Pt} {f : Nat} {nx : Nx} {a b : Nat} {env : Env} {D E : Nat} {p : Pt}
/-- All that is known at a part. -/
structure AtP (st : Bool) (es : List Pt) (f : Nat) (nx : Nx) (a b : Nat) (env : Env) (D E : Nat) (p : Pt) : Prop where
  N : NxG st es f nx
  I : InE st es
  hp : es[a]? = some p
  he : EA es (manyE p) (a + 1) b
  lt : a < b
  hf : b - a ≤ f + 1
  hv : EnvF st D E env
  hD : 40 ≤ D
  hE : 61 ≤ E
  v : env.length + 2 * (b - a) ≤ 1000
  n : b - a ≤ 60
  s : E * KT (b - a) ≤ 1000000000

/-- A child that is told. -/
theorem AtP.call (h : AtP st es f nx a b env D E p) {c d : Nat} {env2 : Env} {D2 E2 : Nat} (hc : EA es 1 c d) (h1 : a < c) (h2 : d ≤ b) (h8 : ∀ p, es[c]? = some p → p.k ≠ 8) (hv : EnvF st D2 E2 env2) (hD : D ≤ D2) (hE : E ≤ E2) (hl : env2.length ≤ env.length + 2) (hs : E2 * KT (d - c) ≤ 1000000000) :
    Gets es a b (TP st (D2 + (d - c) - 1) (E2 * KT (d - c)) d) (nx env2 c) := by
  have h3 := hc.lt
  have h4 := h.hf
  have h5 := h.hD
  have h6 := h.hE
  have h7 := h.v
  have h9 := h.n
  exact (h.N c d env2 D2 E2 hc (by omega) h8 hv (by omega) (by omega) (by omega) (by omega) hs).mono (by omega) h2 fun t c h => h
theorem AtP.callE (h : AtP st es f nx a b env D E p) {c d : Nat} {env2 : Env} (hc : EA es 1 c d) (h1 : a < c) (h2 : d ≤ b) (h8 : ∀ p, es[c]? = some p → p.k ≠ 8) (hv : EnvF st D E env2) (hl : env2.length ≤ env.length + 2) :
    Gets es a b (TP st (D + (d - c) - 1) (E * KT (d - c)) d) (nx env2 c) := by
  have h3 := hc.lt
  have h9 := h.n
  have := EK_mono E (x := d - c) (y := b - a) (by omega) h9
  have := h.s
  exact h.call hc h1 h2 h8 hv (Nat.le_refl _) (Nat.le_refl _) hl (by omega)
theorem AtP.err (h : AtP st es f nx a b env D E p) (hk : p.k ≠ 1) {Q : List Nd → Nat → Prop} : Gets es a b Q (some (.error (a, 9))) :=
  .inr ⟨a, 9, rfl, Nat.le_refl _, h.lt, p, h.hp, .inr ⟨rfl, hk⟩⟩
theorem AtP.not8 (h : AtP st es f nx a b env D E p) (h7 : p.k ≠ 7) {l : List Nat} (hl : kidsO es (manyE p) (a + 1) = some l) : ∀ c ∈ l, ∀ x, es[c]? = some x → x.k ≠ 8 := by
  obtain ⟨l2, k1, k2⟩ := h.I.kids a p h.hp
  rw [hl] at k1
  injection k1 with k1
  subst k1
  intro c hc x hx h8
  obtain ⟨k, hk⟩ := List.getElem?_of_mem hc
  have := (k2.kind k c x hk hx).1 h8
  exact h7 this.1
theorem AtP.kids (h : AtP st es f nx a b env D E p) : ∃ l, kidsO es (manyE p) (a + 1) = some l := by
  obtain ⟨l, k1, _⟩ := h.I.kids a p h.hp
  exact ⟨l, k1⟩
theorem AtP.one (h : AtP st es f nx a b env D E p) (h7 : p.k ≠ 7) (hm : manyE p = 1) : EA es 1 (a + 1) b ∧ (∀ x, es[a + 1]? = some x → x.k ≠ 8) := by
  have he := h.he
  rw [hm] at he
  obtain ⟨l, hl⟩ := h.kids
  have h8 := h.not8 h7 hl
  rw [hm] at hl
  obtain ⟨l2, rfl, _⟩ := kidsO_cons hl he
  exact ⟨he, h8 _ (by simp)⟩
theorem AtP.two (h : AtP st es f nx a b env D E p) (h7 : p.k ≠ 7) (hm : manyE p = 2) : ∃ c, EA es 1 (a + 1) c ∧ EA es 1 c b ∧ (∀ x, es[a + 1]? = some x → x.k ≠ 8) ∧ (∀ x, es[c]? = some x → x.k ≠ 8) := by
  have he := h.he
  rw [hm] at he
  obtain ⟨c, e1, e2⟩ := he.split
  obtain ⟨l, hl⟩ := h.kids
  have h8 := h.not8 h7 hl
  rw [hm] at hl
  obtain ⟨l2, rfl, hla⟩ := kidsO_cons hl e1
  obtain ⟨l3, rfl, hlb⟩ := kidsO_cons hla e2
  exact ⟨c, e1, e2, h8 _ (by simp), h8 _ (by simp)⟩
theorem AtP.three (h : AtP st es f nx a b env D E p) (h7 : p.k ≠ 7) (hm : manyE p = 3) : ∃ c d, EA es 1 (a + 1) c ∧ EA es 1 c d ∧ EA es 1 d b ∧ (∀ x, es[a + 1]? = some x → x.k ≠ 8) ∧ (∀ x, es[c]? = some x → x.k ≠ 8) ∧ (∀ x, es[d]? = some x → x.k ≠ 8) := by
  have he := h.he
  rw [hm] at he
  obtain ⟨c, e1, e2⟩ := he.split
  obtain ⟨d, e2, e3⟩ := e2.split
  obtain ⟨l, hl⟩ := h.kids
  have h8 := h.not8 h7 hl
  rw [hm] at hl
  obtain ⟨l2, rfl, hla⟩ := kidsO_cons hl e1
  obtain ⟨l3, rfl, hlb⟩ := kidsO_cons hla e2
  obtain ⟨l4, rfl, hlc⟩ := kidsO_cons hlb e3
  exact ⟨c, d, e1, e2, e3, h8 _ (by simp), h8 _ (by simp), h8 _ (by simp)⟩

/-- What a part is told. -/
abbrev AtP.Post (_ : AtP st es f nx a b env D E p) (x : Option Ans) : Prop := Gets es a b (TP st (D + (b - a) - 1) (E * KT (b - a)) b) x

theorem AtP.is (h : AtP st es f nx a b env D E p) {t : List Nd} {d : Nat} (hg : GT st d t) (hd : d ≤ D + (b - a) - 1) (hl : t.length ≤ E * KT (b - a)) : h.Post (some (.ok (t, b))) := .inl ⟨t, b, rfl, rfl, hg.mono hd, hl⟩
theorem AtP.isT (h : AtP st es f nx a b env D E p) {t : List Nd} (hg : GT st 30 t) (hl : t.length ≤ 30) : h.Post (some (.ok (t, b))) := by
  have := EK_one E (x := b - a) (by have := h.lt; omega) h.n
  have := h.hE
  have := h.hD
  exact h.is hg (by omega) (by omega)
theorem lit_ok (h : AtP st es f nx a b env D E p) (hk : p.k = 0) : h.Post (litM p (a + 1)) := by
  have he := h.he
  rw [show manyE p = 0 from by unfold manyE; simp [hk]] at he
  have := he.zero
  subst this
  exact h.isT ((h.I.pt a p h.hp).T (by omega)) (h.I.pt a p h.hp).lT
theorem name_ok (h : AtP st es f nx a b env D E p) (hk : p.k = 1) : h.Post (nameM env p a (a + 1)) := by
  have he := h.he
  rw [show manyE p = 0 from by unfold manyE; simp [hk]] at he
  have := he.zero
  subst this
  unfold nameM
  cases hl : lookE env p.nm with
  | none => exact .inr ⟨a, 5, rfl, Nat.le_refl _, h.lt, p, h.hp, .inl ⟨rfl, hk⟩⟩
  | some t =>
    unfold lookE at hl
    rw [Option.map_eq_some_iff] at hl
    obtain ⟨e, h1, rfl⟩ := hl
    have h2 := h.hv e (List.mem_reverse.1 (List.mem_of_find?_eq_some h1))
    have := EK_one E (x := a + 1 - a) (by omega) (by omega)
    exact h.is h2.1 (by omega) (by omega)
theorem fun_ok (h : AtP st es f nx a b env D E p) (hk : p.k = 2) : h.Post (funM nx env p (a + 1)) := by
  obtain ⟨e1, h8⟩ := h.one (by omega) (by unfold manyE; simp [hk])
  have hT := (h.I.pt a p h.hp).T (by omega)
  have lT := (h.I.pt a p h.hp).lT
  have hD := h.hD
  have hE := h.hE
  have hn := h.n
  have hlt := e1.lt
  refine (h.callE e1 (by omega) (Nat.le_refl _) h8 (h.hv.app (.one (hT.mono (by omega)) (by omega))) (by simp)).andA ?_
  rintro t c ⟨rfl, hg, hl⟩
  have h1 := EK_add E (x := c - (a + 1)) (y := 1) (by omega)
  rw [show c - (a + 1) + 1 = c - a from by omega, show KT 1 = 1 from rfl] at h1
  refine h.is ((hT.mono (e := D + (c - (a + 1)) - 1) (by omega)).arrow hg) (by omega) ?_
  rw [arrow_len]
  omega
theorem app_ok (h : AtP st es f nx a b env D E p) (hk : p.k = 3) : h.Post (appM nx env a (a + 1)) := by
  obtain ⟨c, e1, e2, h8, g8⟩ := h.two (by omega) (by unfold manyE; simp [hk])
  have hlt := e1.lt
  have hlt2 := e2.lt
  have hn := h.n
  refine (h.callE e1 (by omega) (by omega) h8 h.hv (by omega)).andA ?_
  rintro t c ⟨rfl, hg, hl⟩
  refine (h.callE e2 (by omega) (by omega) g8 h.hv (by omega)).andA ?_
  rintro x d ⟨rfl, hg2, hl2⟩
  cases hc : callM t with
  | none => exact h.err (by omega)
  | some r =>
    obtain ⟨tk, tl⟩ := r
    obtain ⟨k1, k2, k3, k4⟩ := hg.call hc
    have := EK_mono E (x := c - (a + 1)) (y := d - a) (by omega) hn
    dsimp only
    split
    · exact h.is k2 (by omega) (by omega)
    · exact h.err (by omega)
theorem let_ok (h : AtP st es f nx a b env D E p) (hk : p.k = 4) : h.Post (letM nx env p a (a + 1)) := by
  obtain ⟨c, e1, e2, h8, g8⟩ := h.two (by omega) (by unfold manyE; simp [hk])
  have hlt := e1.lt
  have hlt2 := e2.lt
  have hn := h.n
  have hD := h.hD
  have hE := h.hE
  have hT := (h.I.pt a p h.hp).T (by omega)
  have lT := (h.I.pt a p h.hp).lT
  refine (h.callE e1 (by omega) (by omega) h8 h.hv (by omega)).andA ?_
  rintro t c ⟨rfl, hg, hl⟩
  unfold agS
  split
  · refine (h.callE e2 (by omega) (by omega) g8 (h.hv.app (.one (hT.mono (by omega)) (by omega))) (by simp)).mono (Nat.le_refl _) (Nat.le_refl _) ?_
    rintro u d ⟨rfl, hg2, hl2⟩
    have := EK_mono E (x := d - c) (y := d - a) (by omega) hn
    exact ⟨rfl, hg2.mono (by omega), by omega⟩
  · exact h.err (by omega)
theorem rec_ok (h : AtP st es f nx a b env D E p) (hk : p.k = 5) : h.Post (recM nx env p a (a + 1)) := by
  obtain ⟨c, e1, e2, h8, g8⟩ := h.two (by omega) (by unfold manyE; simp [hk])
  have hlt := e1.lt
  have hlt2 := e2.lt
  have hn := h.n
  have hD := h.hD
  have hE := h.hE
  have hT := (h.I.pt a p h.hp).T (by omega)
  have lT := (h.I.pt a p h.hp).lT
  have hU := (h.I.pt a p h.hp).U (by omega)
  have lU := (h.I.pt a p h.hp).lU
  have hA : EnvF st D E [(p.nm, arrowN p.T p.U)] := .one ((hT.arrow hU).mono (by omega)) (by rw [arrow_len]; omega)
  refine (h.callE e1 (by omega) (by omega) h8 (h.hv.app (env2 := [(p.nm, arrowN p.T p.U), (p.bd, p.T)]) (hA.app (env2 := [(p.bd, p.T)]) (.one (hT.mono (by omega)) (by omega)))) (by simp)).andA ?_
  rintro t c ⟨rfl, hg, hl⟩
  unfold agS
  split
  · refine (h.callE e2 (by omega) (by omega) g8 (h.hv.app hA) (by simp)).mono (Nat.le_refl _) (Nat.le_refl _) ?_
    rintro u d ⟨rfl, hg2, hl2⟩
    have := EK_mono E (x := d - c) (y := d - a) (by omega) hn
    exact ⟨rfl, hg2.mono (by omega), by omega⟩
  · exact h.err (by omega)
theorem cond_ok (h : AtP st es f nx a b env D E p) (hk : p.k = 6) : h.Post (condM nx env a (a + 1)) := by
  obtain ⟨c, d, e1, e2, e3, h8, g8, i8⟩ := h.three (by omega) (by unfold manyE; simp [hk])
  have hlt := e1.lt
  have hlt2 := e2.lt
  have hlt3 := e3.lt
  have hn := h.n
  refine (h.callE e1 (by omega) (by omega) h8 h.hv (by omega)).andA ?_
  rintro t c ⟨rfl, hg, hl⟩
  refine (h.callE e2 (by omega) (by omega) g8 h.hv (by omega)).andA ?_
  rintro x d ⟨rfl, hg2, hl2⟩
  refine (h.callE e3 (by omega) (by omega) i8 h.hv (by omega)).andA ?_
  rintro y e ⟨rfl, hg3, hl3⟩
  split
  · unfold meetA
    cases hm : met 1 x y with
    | none => exact h.err (by omega)
    | some m =>
      obtain ⟨k1, k2⟩ := GF.met (st := st) _ (D + (e - a) - 1) 5 ByteArray.empty 1 x y m (Nat.le_refl _) (hg2.mono (by omega)) (hg3.mono (by omega)) hm
      have := EK_add E (x := d - c) (y := e - d) (by omega)
      have := EK_mono E (x := d - c + (e - d)) (y := e - a) (by omega) hn
      exact h.is k1 (Nat.le_refl _) (by omega)
  · exact h.err (by omega)
theorem op_ok (h : AtP st es f nx a b env D E p) (hk : p.k = 9) : h.Post (opM nx env p a (a + 1)) := by
  obtain ⟨c, e1, e2, h8, g8⟩ := h.two (by omega) (by unfold manyE; simp [hk])
  have hlt := e1.lt
  have hlt2 := e2.lt
  have hn := h.n
  refine (h.callE e1 (by omega) (by omega) h8 h.hv (by omega)).andA ?_
  rintro t c ⟨rfl, hg, hl⟩
  refine (h.callE e2 (by omega) (by omega) g8 h.hv (by omega)).andA ?_
  rintro x d ⟨rfl, hg2, hl2⟩
  split
  · refine h.isT (GT.leaf ?_ (by omega)) (by simp [baseN])
    unfold opOut opIn
    repeat' split
    all_goals omega
  · exact h.err (by omega)
theorem get_ok (h : AtP st es f nx a b env D E p) (hk : p.k = 11) : h.Post (getM nx env p a (a + 1)) := by
  obtain ⟨e1, h8⟩ := h.one (by omega) (by unfold manyE; simp [hk])
  have hlt := e1.lt
  have hn := h.n
  refine (h.callE e1 (by omega) (by omega) h8 h.hv (by omega)).andA ?_
  rintro t c ⟨rfl, hg, hl⟩
  unfold fieldA
  cases hf : fieldM t p.nm with
  | none => exact h.err (by omega)
  | some u =>
    obtain ⟨k1, k2⟩ := hg.field hf
    have := EK_mono E (x := c - (a + 1)) (y := c - a) (by omega) hn
    exact h.is k1 (by omega) (by omega)
theorem inj_ok (h : AtP st es f nx a b env D E p) (hk : p.k = 12) : h.Post (injM nx env p a (a + 1)) := by
  obtain ⟨e1, h8⟩ := h.one (by omega) (by unfold manyE; simp [hk])
  have hlt := e1.lt
  have hT := (h.I.pt a p h.hp).T (by omega)
  have lT := (h.I.pt a p h.hp).lT
  refine (h.callE e1 (by omega) (by omega) h8 h.hv (by omega)).andA ?_
  rintro t c ⟨rfl, hg, hl⟩
  unfold fieldA
  cases hf : fieldM p.T p.nm with
  | none => exact h.err (by omega)
  | some u =>
    dsimp only [andA]
    split
    · exact h.isT hT lT
    · exact h.err (by omega)
theorem as_ok (h : AtP st es f nx a b env D E p) (hk : p.k = 13) : h.Post (asM nx env p a (a + 1)) := by
  obtain ⟨e1, h8⟩ := h.one (by omega) (by unfold manyE; simp [hk])
  have hlt := e1.lt
  have hT := (h.I.pt a p h.hp).T (by omega)
  have lT := (h.I.pt a p h.hp).lT
  refine (h.callE e1 (by omega) (by omega) h8 h.hv (by omega)).andA ?_
  rintro t c ⟨rfl, hg, hl⟩
  split
  · exact h.isT hT lT
  · exact h.err (by omega)
theorem cast_ok (h : AtP st es f nx a b env D E p) (hk : p.k = 14) : h.Post (castM nx env p a (a + 1)) := by
  obtain ⟨e1, h8⟩ := h.one (by omega) (by unfold manyE; simp [hk])
  have hlt := e1.lt
  have hU := (h.I.pt a p h.hp).U (by omega)
  have lU := (h.I.pt a p h.hp).lU
  refine (h.callE e1 (by omega) (by omega) h8 h.hv (by omega)).andA ?_
  rintro t c ⟨rfl, hg, hl⟩
  split
  · exact h.isT hU lU
  · exact h.err (by omega)
end
end Go.Proofs.YtmjdhfbnmmdjiaaGreat

/- What check tells of a right expression: rows, cases, and all. No program in sight. -/
namespace Go.Proofs.YtmjdhfbnmmdjiaaGreat

theorem endO_pos {es : List Pt} : ∀ {n a b : Nat} {l : List Nat}, EA es n a b → kidsO es n a = some l → ∀ i ∈ l, i < es.length
  | 0, a, b, l, _, hl, i, hi => by
    simp only [kidsO, Option.some.injEq] at hl
    subst hl
    simp at hi
  | n + 1, a, b, l, he, hl, i, hi => by
    obtain ⟨d, e1, e2⟩ := he.split
    obtain ⟨l2, rfl, hl2⟩ := kidsO_cons hl e1
    have := e1.lt
    rcases List.mem_cons.1 hi with rfl | hi
    · omega
    · exact endO_pos e2 hl2 i hi
def lbAt (es : List Pt) (a : Nat) : ByteArray := ((es[a]?).getD default).lb
section
variable {st : Bool} {es : List Pt} {f : Nat} {nx : Nx} {a b : Nat} {env : Env} {D E : Nat} {p : Pt}

theorem rowsGo_ok (h : AtP st es f nx a b env D E p) : ∀ (n c : Nat) (l : List Nat) (fs : List FsL), EA es n c b → a < c → kidsO es n c = some l → (∀ i ∈ l, ∀ x, es[i]? = some x → x.k ≠ 8) →
    (∀ q ∈ fs, GT st (D + (b - a) - 2) q.2) → (fs.map fun q => q.2.length).sum ≤ E * KT (c - (a + 1)) →
    (∃ gs, rowsGo nx es env n c fs = some (.ok (gs, b)) ∧ gs.map (·.1) = fs.map (·.1) ++ l.map (lbAt es) ∧ (∀ q ∈ gs, GT st (D + (b - a) - 2) q.2) ∧ (gs.map fun q => q.2.length).sum ≤ E * KT (b - (a + 1))) ∨
    (∃ i e, rowsGo nx es env n c fs = some (.error (i, e)) ∧ ErrF es a b i e) := by
  intro n
  induction n with
  | zero =>
    intro c l fs he hac hl h8 hg hs
    have := he.zero
    subst this
    simp only [kidsO, Option.some.injEq] at hl
    subst hl
    exact .inl ⟨fs, rfl, by simp, hg, hs⟩
  | succ n ih =>
    intro c l fs he hac hl h8 hg hs
    obtain ⟨d, e1, e2⟩ := he.split
    obtain ⟨l2, rfl, hl2⟩ := kidsO_cons hl e1
    have hlt := e1.lt
    have hlt2 := e2.lt
    have hn := h.n
    obtain ⟨x, hx, _⟩ := e1.open
    have hc := h.callE e1 (by omega) (by omega) (h8 c (by simp)) h.hv (by omega)
    unfold rowsGo
    rw [hx]
    dsimp only
    rcases hc with ⟨t, c2, hc, rfl, hg2, hl3⟩ | ⟨i, e, hc, hE⟩
    · rw [hc]
      dsimp only
      have := EK_add E (x := c - (a + 1)) (y := c2 - c) (by omega)
      rw [show c - (a + 1) + (c2 - c) = c2 - (a + 1) from by omega] at this
      have hr := ih c2 l2 (fs ++ [(x.lb, t)]) e2 (by omega) hl2 (fun i hi => h8 i (by simp [hi])) (fun q hq => by
        rcases List.mem_append.1 hq with hq | hq
        · exact hg q hq
        · simp at hq
          subst hq
          exact hg2.mono (by omega)) (by simp; omega)
      have hlb : lbAt es c = x.lb := by unfold lbAt; rw [hx]; rfl
      simpa [hlb] using hr
    · rw [hc]
      exact .inr ⟨i, e, rfl, hE⟩

theorem rows_ok (h : AtP st es f nx a b env D E p) (hk : p.k = 10) : h.Post (rowsM nx es env p (a + 1)) := by
  have hm := (h.I.pt a p h.hp).m10 hk
  have hlt := h.lt
  have hn := h.n
  have hD := h.hD
  have hE := h.hE
  have he := h.he
  have hmn : manyE p = p.mn.toNat := by unfold manyE; simp [hk]
  obtain ⟨l, hl, hL⟩ := h.I.kids a p h.hp
  have h8 := h.not8 (by omega) hl
  rw [hmn] at he hl
  unfold rowsM
  rw [if_pos hm]
  have hlen : l.length = p.mn.toNat := by rw [hL.len, hmn]
  rcases rowsGo_ok h p.mn.toNat (a + 1) l [] he (by omega) hl h8 (by simp) (by simp) with ⟨gs, h1, h2, h3, h4⟩ | ⟨i, e, h1, h2⟩
  · rw [h1]
    dsimp only
    simp only [List.map_nil, List.nil_append] at h2
    have hgl : gs.length = l.length := by
      have := congrArg List.length h2
      simpa using this
    have hpt : ∀ i ∈ l, ∃ x, es[i]? = some x ∧ lbAt es i = x.lb := fun i hi => by
      have := (endO_pos he hl i hi)
      refine ⟨es[i], List.getElem?_eq_getElem this, ?_⟩
      unfold lbAt
      rw [List.getElem?_eq_getElem this]
      rfl
    have hw : ∀ q ∈ gs, wordB q.1 = true ∧ q.1.size ≤ 100 := fun q hq => by
      have h5 : q.1 ∈ gs.map (·.1) := List.mem_map_of_mem hq
      rw [h2] at h5
      obtain ⟨i, hi, h6⟩ := List.mem_map.1 h5
      obtain ⟨x, hx, h7⟩ := hpt i hi
      obtain ⟨k, hk2⟩ := List.getElem?_of_mem hi
      rw [← h6, h7]
      exact ⟨hL.word k i x hk2 hx hk, (h.I.pt i x hx).lb⟩
    have hnd : (gs.map (·.1)).Nodup := by
      rw [h2]
      unfold List.Nodup
      rw [List.pairwise_map, List.pairwise_iff_getElem]
      intro i j hi hj hij
      obtain ⟨x, hx, h6⟩ := hpt l[i] (List.getElem_mem hi)
      obtain ⟨y, hy, h7⟩ := hpt l[j] (List.getElem_mem hj)
      rw [h6, h7]
      refine hL.diff i j _ _ x y hij (List.getElem?_eq_getElem hi) (List.getElem?_eq_getElem hj) hx hy fun e => ?_
      have := hL.word j _ y (List.getElem?_eq_getElem hj) hy hk
      rw [e] at this
      have hne := label_pos (k := 6) (s := ByteArray.empty) (by decide) (by simpa [labelB] using this)
      exact hne (by rw [ByteArray.toList_eq]; rfl)
    have hbr : badRow 6 (gs.map (·.1)) gs.length = false := by
      unfold badRow oddFrom
      simp only [Bool.or_eq_false_iff]
      refine ⟨⟨⟨⟨rfl, by simp⟩, by simp; omega⟩, by simp⟩, ?_⟩
      rw [List.drop_zero, List.any_eq_false]
      intro s hs
      obtain ⟨q, hq, rfl⟩ := List.mem_map.1 hs
      simp [labelB, (hw q hq).1]
    rw [if_pos ⟨hbr, hnd⟩]
    by_cases hab : b = a + 1
    · have hz : gs.length = 0 := by
        have := he.lt
        omega
      have hz2 : gs = [] := List.eq_nil_of_length_eq_zero hz
      subst hz2
      have hr := GT.row (st := st) (d := D - 1) (by omega) [] (by simp) (by simp) (by simp)
      exact h.is (hr.1) (by omega) (by rw [hr.2]; have := EK_one E (x := b - a) (by omega) (by omega); simp; omega)
    · obtain ⟨r1, r2⟩ := GT.row (st := st) (d := D + (b - a) - 2) (by omega) gs (fun q hq => ⟨h3 q hq, by simp [labelB, (hw q hq).1], (hw q hq).2⟩) hnd (by omega)
      have := EK_add E (x := b - (a + 1)) (y := 1) (by omega)
      rw [show b - (a + 1) + 1 = b - a from by omega, show KT 1 = 1 from rfl] at this
      exact h.is r1 (by omega) (by rw [r2]; omega)
  · rw [h1]
    exact .inr ⟨i, e, rfl, h2⟩

theorem srtS_mem {l : List ByteArray} {s : ByteArray} (h : s ∈ l) : s ∈ srtS l := by
  unfold srtS
  have h1 : s.toList ∈ (l.map ByteArray.toList).mergeSort fun x y => decide (x ≤ y) := (List.mergeSort_perm ..).symm.subset (List.mem_map_of_mem h)
  refine List.mem_map.2 ⟨s.toList, h1, ?_⟩
  exact bytes_join (ByteArray.toList_eq s)

/-- The branches of a Case. -/
theorem casesGo_ok (h : AtP st es f nx a b env D E p) {ot : List Nd} {c1 : Nat} (hc1 : a + 1 < c1) (hg : GT st (D + (c1 - (a + 1)) - 1) ot) (hl : ot.length ≤ E * KT (c1 - (a + 1))) :
    ∀ (n c : Nat) (l : List Nat) (ts : List (List Nd)), EA es n c b → c1 ≤ c → kidsO es n c = some l → (∀ i ∈ l, ∀ x, es[i]? = some x → x.k = 8) → (∀ i ∈ l, ∃ u, fieldM ot (lbAt es i) = some u) →
    (∀ t ∈ ts, GT st (D + (b - a) - 1) t) → (ts.map List.length).sum ≤ E * KT (c1 - (a + 1)) * KT (c - c1 - 1) →
    (∃ us, casesGo nx es env ot n c ts = some (.ok (us, b)) ∧ us.length = ts.length + n ∧ (∀ t ∈ us, GT st (D + (b - a) - 1) t) ∧ (us.map List.length).sum ≤ E * KT (c1 - (a + 1)) * KT (b - c1 - 1)) ∨
    (∃ i e, casesGo nx es env ot n c ts = some (.error (i, e)) ∧ ErrF es a b i e) := by
  intro n
  induction n with
  | zero =>
    intro c l ts he hc hk h8 hf ht hs
    have := he.zero
    subst this
    exact .inl ⟨ts, rfl, by simp, ht, hs⟩
  | succ n ih =>
    intro c l ts he hc hk h8 hf ht hs
    obtain ⟨d, e1, e2⟩ := he.split
    obtain ⟨l2, rfl, hl2⟩ := kidsO_cons hk e1
    have hlt := e1.lt
    have hlt2 := e2.lt
    have hn := h.n
    have hD := h.hD
    have hE := h.hE
    obtain ⟨x, hx, e3⟩ := e1.open
    have hx8 := h8 c (by simp) x hx
    have hlb : lbAt es c = x.lb := by unfold lbAt; rw [hx]; rfl
    obtain ⟨u, hu⟩ := hf c (by simp)
    rw [hlb] at hu
    rw [show manyE x = 1 from by unfold manyE; simp [hx8]] at e3
    have hlt3 := e3.lt
    have hx9 : ∀ y, es[c + 1]? = some y → y.k ≠ 8 := by
      obtain ⟨l3, k1, k2⟩ := h.I.kids c x hx
      rw [show manyE x = 1 from by unfold manyE; simp [hx8]] at k1
      obtain ⟨l4, rfl, _⟩ := kidsO_cons k1 e3
      intro y hy h8
      have := (k2.kind 0 (c + 1) y rfl hy).1 h8
      omega
    obtain ⟨g1, g2⟩ := hg.field hu
    have hE1 := EK_one E (x := c1 - (a + 1)) (by omega) (by omega)
    have hmul := Nat.mul_le_mul_left E (KT_mul (x := c1 - (a + 1)) (y := d - (c + 1)) (by omega))
    rw [← Nat.mul_assoc] at hmul
    have hup := EK_mono E (x := c1 - (a + 1) + (d - (c + 1)) + 2) (y := b - a) (by omega) hn
    have hb := h.s
    have hcall := h.call (env2 := env ++ [(x.bd, u)]) (D2 := D + (c1 - (a + 1)) - 1) (E2 := E * KT (c1 - (a + 1))) e3 (by omega) (by omega) hx9 ((h.hv.mono (by omega) hE1).app (.one g1 (by omega))) (by omega) hE1 (by simp) (by omega)
    unfold casesGo
    rw [hx]
    dsimp only
    rw [hu, Option.getD_some]
    rcases hcall with ⟨t, c2, hc2, rfl, hg2, hl3⟩ | ⟨i, e, hc2, hE2⟩
    · rw [hc2]
      dsimp only
      have h5 := Nat.mul_le_mul_left (E * KT (c1 - (a + 1))) (KT_add (x := c - c1 - 1) (y := c2 - (c + 1)) (by omega))
      rw [Nat.mul_add] at h5
      have h6 := EK_mono (E * KT (c1 - (a + 1))) (x := c - c1 - 1 + (c2 - (c + 1))) (y := c2 - c1 - 1) (by omega) (by omega)
      have hr := ih c2 l2 (ts ++ [t]) e2 (by omega) hl2 (fun i hi => h8 i (by simp [hi])) (fun i hi => hf i (by simp [hi])) (fun q hq => by
        rcases List.mem_append.1 hq with hq | hq
        · exact ht q hq
        · simp at hq
          subst hq
          exact hg2.mono (by omega)) (by simp; omega)
      rcases hr with ⟨us, r1, r2, r3, r4⟩ | hr
      · exact .inl ⟨us, r1, by rw [r2]; simp; omega, r3, r4⟩
      · exact .inr hr
    · rw [hc2]
      exact .inr ⟨i, e, rfl, hE2⟩

theorem meetsM_ok {d : Nat} (at0 : Nat) : ∀ (ts : List (List Nd)) (m : List Nd), GT st d m → (∀ t ∈ ts, GT st d t) → m.length + (ts.map List.length).sum ≤ 1000000000 →
    (∃ m2, meetsM at0 m ts = some (.ok m2) ∧ GT st d m2 ∧ m2.length ≤ m.length + (ts.map List.length).sum) ∨ meetsM at0 m ts = some (.error (at0, 9)) := by
  intro ts
  induction ts with
  | nil => intro m hm _ _; exact .inl ⟨m, rfl, hm, by simp⟩
  | cons t ts ih =>
    intro m hm ht hs
    simp only [List.map_cons, List.sum_cons] at hs ⊢
    unfold meetsM
    cases hmt : met 1 m t with
    | none => exact .inr rfl
    | some m2 =>
      obtain ⟨k1, k2⟩ := GF.met (st := st) _ d 5 ByteArray.empty 1 m t m2 (Nat.le_refl _) hm (ht t (by simp)) hmt
      have k3 : GT st d m2 := k1
      dsimp only
      rw [if_pos (k3.gd (by omega))]
      rcases ih m2 k3 (fun u hu => ht u (by simp [hu])) (by omega) with ⟨m3, r1, r2, r3⟩ | r
      · exact .inl ⟨m3, r1, r2, by omega⟩
      · exact .inr r

theorem cases_ok (h : AtP st es f nx a b env D E p) (hk : p.k = 7) : h.Post (casesM nx es env p a (a + 1)) := by
  have hm := (h.I.pt a p h.hp).m7 hk
  have hlt := h.lt
  have hn := h.n
  have hD := h.hD
  have hE := h.hE
  have hv := h.v
  have he := h.he
  have hmn : manyE p = p.mn.toNat + 1 := by unfold manyE; simp [hk]
  obtain ⟨l, hl, hL⟩ := h.I.kids a p h.hp
  have hl0 := hl
  rw [hmn] at he hl
  obtain ⟨c1, e1, e2⟩ := he.split
  obtain ⟨l2, rfl, hl2⟩ := kidsO_cons hl e1
  have hlt1 := e1.lt
  have hlt2 := e2.lt
  unfold casesM
  rw [if_pos ⟨hm.1, hm.2, by omega⟩]
  refine (h.callE e1 (by omega) (by omega) (fun x hx h8 => by have := (hL.kind 0 (a + 1) x rfl hx).1 h8; omega) h.hv (by omega)).andA ?_
  rintro ot c ⟨rfl, hg, hlo⟩
  have htag : tagsOk es ot a = match tagsM ot with
      | none => some false
      | some tags => some (decide ((headNd ot).k = 0) || decide (tags = srtS (l2.map (lbAt es)))) := by
    unfold tagsOk
    rw [h.hp]
    dsimp only
    rw [hl0]
    rfl
  rw [htag]
  cases htg : tagsM ot with
  | none => exact h.err (by omega)
  | some tags =>
    dsimp only
    cases hb : (decide ((headNd ot).k = 0) || decide (tags = srtS (l2.map (lbAt es)))) with
    | false => exact h.err (by omega)
    | true =>
      dsimp only
      rw [Bool.or_eq_true, decide_eq_true_eq, decide_eq_true_eq] at hb
      have hf : ∀ i ∈ l2, ∃ u, fieldM ot (lbAt es i) = some u := fun i hi => by
        refine field_tag htg ?_
        rcases hb with hb | hb
        · exact .inl hb
        · right
          rw [hb]
          exact srtS_mem (List.mem_map_of_mem hi)
      have h8 : ∀ i ∈ l2, ∀ x, es[i]? = some x → x.k = 8 := fun i hi x hx => by
        obtain ⟨k, hk2⟩ := List.getElem?_of_mem hi
        exact (hL.kind (k + 1) i x (by simpa using hk2) hx).2 ⟨hk, by omega⟩
      have hmul := Nat.mul_le_mul_left E (KT_mul (x := c - (a + 1)) (y := b - c - 1) (by omega))
      rw [← Nat.mul_assoc, show c - (a + 1) + (b - c - 1) + 2 = b - a from by omega] at hmul
      have hsz := h.s
      rcases casesGo_ok h (ot := ot) (c1 := c) (by omega) hg hlo p.mn.toNat c l2 [] e2 (Nat.le_refl _) hl2 h8 hf (by simp) (by simp) with ⟨us, r1, r2, r3, r4⟩ | ⟨i, e, r1, r2⟩
      · rw [r1]
        dsimp only
        match us, r2, r3, r4 with
        | [], r2, _, _ => simp at r2; omega
        | t :: ts, r2, r3, r4 =>
          simp only [List.map_cons, List.sum_cons] at r4
          dsimp only
          rcases meetsM_ok (st := st) (d := D + (b - a) - 1) a ts t (r3 t (by simp)) (fun u hu => r3 u (by simp [hu])) (by omega) with ⟨m2, s1, s2, s3⟩ | s
          · rw [s1]
            exact h.is s2 (Nat.le_refl _) (by omega)
          · rw [s]
            exact h.err (by omega)
      · rw [r1]
        exact .inr ⟨i, e, rfl, r2⟩

theorem exitM_ok (h : AtP st es f nx a b env D E p) {x : Option Ans} (hx : h.Post x) : h.Post (exitM x) := by
  rcases hx with ⟨t, c, rfl, hc, hg, hl⟩ | ⟨i, e, rfl, h2⟩
  · unfold exitM
    dsimp only
    rw [if_pos (hg.gd (by have := h.s; omega))]
    exact .inl ⟨t, c, rfl, hc, hg, hl⟩
  · exact .inr ⟨i, e, rfl, h2⟩
theorem way_ok (h : AtP st es f nx a b env D E p) (h8 : p.k ≠ 8) : h.Post (wayM nx es env p a (a + 1)) := by
  have hk := (h.I.pt a p h.hp).k
  unfold wayM
  by_cases h0 : p.k = 0
  · rw [if_pos h0]; exact lit_ok h h0
  rw [if_neg h0]
  by_cases h1 : p.k = 1
  · rw [if_pos h1]; exact name_ok h h1
  rw [if_neg h1]
  by_cases h2 : p.k = 2
  · rw [if_pos h2]; exact fun_ok h h2
  rw [if_neg h2]
  by_cases h3 : p.k = 3
  · rw [if_pos h3]; exact app_ok h h3
  rw [if_neg h3]
  by_cases h4 : p.k = 4
  · rw [if_pos h4]; exact let_ok h h4
  rw [if_neg h4]
  by_cases h5 : p.k = 5
  · rw [if_pos h5]; exact rec_ok h h5
  rw [if_neg h5]
  by_cases h6 : p.k = 6
  · rw [if_pos h6]; exact cond_ok h h6
  rw [if_neg h6]
  by_cases h7 : p.k = 7
  · rw [if_pos h7]; exact cases_ok h h7
  rw [if_neg h7]
  by_cases h9 : p.k = 9
  · rw [if_pos h9]; exact op_ok h h9
  rw [if_neg h9]
  by_cases h10 : p.k = 10
  · rw [if_pos h10]; exact rows_ok h h10
  rw [if_neg h10]
  by_cases h11 : p.k = 11
  · rw [if_pos h11]; exact get_ok h h11
  rw [if_neg h11]
  by_cases h12 : p.k = 12
  · rw [if_pos h12]; exact inj_ok h h12
  rw [if_neg h12]
  by_cases h13 : p.k = 13
  · rw [if_pos h13]; exact as_ok h h13
  rw [if_neg h13, if_pos (show p.k = 14 from by omega)]
  exact cast_ok h (by omega)
end
theorem ptOk_of {st : Bool} {p : Pt} (h : PtG st p) : PtOk p := by
  have h1 := h.lT
  have h2 := h.lU
  refine ⟨fun hk h11 => (h.T (by omega)).gd (by omega), fun hk => (h.U hk).gd (by omega)⟩
/-- What check tells of a right expression. -/
theorem chk_ok {st : Bool} {es : List Pt} (hI : InE st es) : ∀ f, NxG st es f (chk f es) := by
  intro f
  induction f with
  | zero =>
    intro a b env D E he hf
    have := he.lt
    omega
  | succ f ih =>
    intro a b env D E he hf h8 hv hD hE hl hn hs
    obtain ⟨p, hp, he2⟩ := he.open
    have := he.lt
    have h : AtP st es f (chk f es) a b env D E p := ⟨ih, hI, hp, he2, by omega, by omega, hv, hD, hE, hl, hn, hs⟩
    unfold chk
    rw [hp]
    dsimp only
    rw [if_pos ⟨by omega, ptOk_of (hI.pt a p hp)⟩]
    exact exitM_ok h (way_ok h (h8 p hp))
end Go.Proofs.YtmjdhfbnmmdjiaaGreat

/- What is given is right: check tells a plain type, or a part that is wrong. No program in sight. -/
namespace Go.Proofs.YtmjdhfbnmmdjiaaGreat

section
variable {env : Env} {es : List Pt}
def AllSt (env : Env) (es : List Pt) : Prop := (∀ e ∈ env, staticB e.2 = true) ∧ ∀ x ∈ es, staticB x.T = true ∧ staticB x.U = true
theorem GivenF.ok (h : GivenF env es) : PsOk es := fun x hx => ⟨(h.right.uses x hx).k, (h.right.uses x hx).mn⟩
theorem GivenF.ptG (h : GivenF env es) {st : Bool} (hs : st = true → AllSt env es) : ∀ (i : Nat) (p : Pt), es[i]? = some p → PtG st p := fun i p hp => by
  have hm := List.mem_of_getElem? hp
  have hu := h.right.uses p hm
  have hf := h.few.2 p hm
  have hl := h.len p hm
  refine ⟨hu.k, fun h7 => ⟨hu.m7 h7, hu.mn.2⟩, fun _ => hu.mn, fun hk => ?_, fun hk => ?_, hl.1, hl.2, hf.lb⟩
  · by_cases h0 : p.k = 0
    · obtain ⟨k, h1, h2, e⟩ := hu.lit h0
      rw [e]
      exact GT.leaf ⟨h1, h2⟩ (by omega)
    · obtain ⟨h1, h2⟩ := hu.T (by omega)
      rw [right_eq] at h1
      exact GT.of h1 h2 hf.nT (fun e => ((hs e).2 p hm).1) hl.1
  · obtain ⟨h1, h2⟩ := hu.U hk
    rw [right_eq] at h1
    exact GT.of h1 h2 hf.nU (fun e => ((hs e).2 p hm).2) hl.2
theorem RightF.tree (h : RightF es) : ∀ i, i < es.length → ∃ b, EA es 1 i b := fun i hi => all_there (fun j p hp => (h.lab j p hp).len) es.length i (by omega) hi
theorem RightF.kids (h : RightF es) : ∀ (i : Nat) (p : Pt), es[i]? = some p → ∃ l, kidsO es (manyE p) (i + 1) = some l ∧ LabF es p l := fun i p hp => by
  have hL := h.lab i p hp
  obtain ⟨k1, _⟩ := kids_there (a0 := 0) (fun j _ hj => h.tree j hj) (manyE p) (i + 1) (by omega) hL.len
  exact ⟨_, k1, hL⟩
theorem RightF.whole (h : RightF es) : EA es 1 0 es.length := by
  have hpos : 0 < es.length := List.length_pos_iff.2 h.ne
  obtain ⟨b, hb⟩ := h.tree 0 hpos
  have e := endO_rEnd _ _ _ _ hb
  rw [List.drop_zero, h.fin] at e
  rw [e]
  exact hb
theorem GivenF.inE (h : GivenF env es) {st : Bool} (hs : st = true → AllSt env es) : InE st es := ⟨h.ptG hs, h.right.kids⟩
theorem GivenF.envF (h : GivenF env es) {st : Bool} (hs : st = true → AllSt env es) : EnvF st 40 61 env := fun e he => by
  obtain ⟨h1, h2, h3, h4⟩ := plainQ_parts (h.env.2 e he)
  exact ⟨GT.of h3 h4 h2 (fun e1 => (hs e1).1 e he) (by omega), by omega⟩

/-- What is told of what is given. -/
theorem GivenF.tells (h : GivenF env es) {st : Bool} (hs : st = true → AllSt env es) : Gets es 0 es.length (TP st 99 1000000000 es.length) (chk 60 es env 0) := by
  have hl := h.few.1
  have hv := h.env.1
  have hpos : 0 < es.length := List.length_pos_iff.2 h.right.ne
  have hk := EK_mono 61 (x := es.length) (y := 60) hl (Nat.le_refl _)
  have e60 : 61 * KT 60 = 99942400 := rfl
  exact (chk_ok (h.inE hs) 60 0 es.length env 40 61 h.right.whole (by omega) (fun p hp => (h.right.root p hp).2) (h.envF hs) (by omega) (by omega) (by omega) (by omega) (by rw [Nat.sub_zero]; omega)).mono (Nat.le_refl _) (Nat.le_refl _) fun t c hp => ⟨hp.1, hp.2.1.mono (by omega), by have := hp.2.2; rw [Nat.sub_zero] at this; omega⟩
/-- A type that is told. -/
structure OkT (env : Env) (es : List Pt) (t : List Nd) : Prop where
  ne : t ≠ []
  len : t.length ≤ 1000000000
  plain : plainB t = true
  short : t.length ≤ 1000 → plainQB t 1000 = true
  static : AllSt env es → staticB t = true
  names : ∀ x ∈ t, x.s.size ≤ 100
  ok : okAll t
theorem GivenF.res (h : GivenF env es) : (∃ t, chk 60 es env 0 = some (.ok (t, es.length)) ∧ OkT env es t) ∨ ∃ (i : Nat) (e : Int) (p : Pt), chk 60 es env 0 = some (.error (i, e)) ∧ i < es.length ∧ es[i]? = some p ∧ ((e = 5 ∧ p.k = 1) ∨ (e = 9 ∧ p.k ≠ 1)) := by
  rcases h.tells (st := false) (fun e => by cases e) with ⟨t, c, h1, rfl, h2, h3⟩ | ⟨i, e, h1, _, h2, p, h3, h4⟩
  · refine .inl ⟨t, h1, ?_, h3, h2.plain, fun hl => plainQ_of (by omega) h2.names (h2.right (by omega) (by omega)) h2.plain, fun hs => ?_, h2.names, fun y hy => (GF.all h2 y hy).1⟩
    · intro e
      have := h2.pos
      rw [e] at this
      simp at this
    · rcases h.tells (st := true) (fun _ => hs) with ⟨t2, c2, k1, rfl, k2, k3⟩ | ⟨i, e, k1, _⟩
      · rw [h1] at k1
        injection k1 with k1
        injection k1 with k1
        injection k1 with k1 _
        subst k1
        exact k2.static
      · rw [h1] at k1
        injection k1 with k1
        cases k1
  · exact .inr ⟨i, e, p, h1, h2, h3, h4⟩
end
end Go.Proofs.YtmjdhfbnmmdjiaaGreat

/- check.Expr. -/
namespace Go.Proofs.YtmjdhfbnmmdjiaaGreat
open Go.RowKit

set_option maxRecDepth 100000 in
set_option maxHeartbeats 2000000 in
theorem cloneB_any (A : Option Addr) (c : Nat) (bs : List Bn) (w : World) (ha : ReadB w w.heap.size A bs) (hA : A = none → bs = []) (hs : ∀ a, A = some a → ∃ b o, a = ⟨b, o, none⟩) (hl : bs.length ≤ 1000000) :
    Calls Tryz.prog 31 #[.slice A bs.length c] w fun e w' => ∃ A' cap', e = .returned (.slice A' bs.length cap') ∧ OwnB w' w.heap.size A' cap' bs ∧ Below w.heap.size w w' := by
  cases A with
  | none =>
    have := hA rfl
    subst this
    simp only [List.length_nil]
    go_enter Tryz.func31, Tryz.ntmps31
    go_wp2_with fail
    rw [Lib.run_eql_slice_nil _ _ _ _ _ _ _ _ Tryz.underlying22]
    clear hA
    go_wp2_with fail
    go_ret
    exact ⟨none, 0, rfl, OwnL.nil, Below.refl _ _⟩
  | some a =>
    obtain ⟨b, o, rfl⟩ := hs a rfl
    have hown0 := own_empty 36 2 encB w
    have hb0 := ext_alloc (Below.refl w.heap.size w) (.cells #[] 36)
    clear hA hs
    go_enter Tryz.func31, Tryz.ntmps31
    go_wp2_with fail
    rw [Lib.run_eql_slice_nil _ _ _ _ _ _ _ _ Tryz.underlying22]
    go_wp2_with (at_builtin; refine wpList_appB rfl (.tmp 5) (.tmp 6) rfl w.heap.size (m := 0) (n := bs.length) (l := []) rfl rfl hown0 (l2 := bs) rfl rfl (ReadL.below ha hb0) (by omega) (by simp) ?_; intro A2 cap2 w3 hown3 hg3 _)
    have hbel3 := ext_app hb0 hg3 (fun k hk => (OwnL.block hown0 k hk).1)
    go_wp2_with fail
    go_ret
    exact ⟨A2, cap2, by simp, by simpa using hown3, hbel3⟩

/-- What Expr tells. -/
def ExPost (r : Ans) (w : World) (e : Ending) (w' : World) : Prop :=
  Below w.heap.size w w' ∧ match r with
    | .ok (t, _) => ∃ A c, e = .returned (.tuple #[.slice A t.length c, .int .i64 0, .int .i64 0]) ∧ TyX w' (fun _ => False) A t ∧ t.length ≤ c
    | .error (p, er) => e = .returned (.tuple #[.slice none 0 0, .int .i64 (p : Int), .int .i64 er])

set_option maxRecDepth 100000 in
set_option maxHeartbeats 8000000 in
theorem expr_any (f : Nat) (es : List Pt) (hes : PsOk es) (env : Env) (r : Ans) (A EA : Option Addr) (c ec : Nat) (bs : List Bn) (w : World) (ha : ReadB w w.heap.size A bs) (hA : A = none → bs = []) (hs : ∀ a, A = some a → ∃ b o, a = ⟨b, o, none⟩) (hen : EnvM w (fun _ => False) bs env) (hex : ExX w (fun _ => False) EA es) (hl : env.length ≤ 100000) (hel : es.length ≤ 1000000) (hm : chk f es env 0 = some r) :
    Calls Tryz.prog 11 #[.slice A bs.length c, .slice EA es.length ec] w (ExPost r w) := by
  have Hc := Lib.hid (cloneB_any A c bs w ha hA hs (by rw [hen.1]; omega))
  have H := Lib.hid (And.intro hen (And.intro hex hm))
  clear ha hA hs hen hex hm
  go_enter Tryz.func11, Tryz.ntmps11
  go_wp2_with fail
  refine Hc.out.mono ?_
  rintro e w1 ⟨VA, vc, rfl, hown, hb1⟩
  have H1 := Lib.hid (And.intro hown hb1)
  clear hown hb1
  go_upto_region 2 with fail
  obtain ⟨w2, hw2⟩ : ∃ w2, w2 = w1.alloc (.cells #[.slice EA es.length ec, .int .i64 0, .slice VA bs.length vc, .int .i64 0, .int .i64 0] 60) := ⟨_, rfl⟩
  obtain ⟨P, hP⟩ : ∃ P, P = w1.heap.size := ⟨_, rfl⟩
  have hz1 := H1.out.2.size
  have HB2 : Hid (Below w.heap.size w w2 ∧ w.heap.size ≤ P) := Lib.hid ⟨by rw [hw2]; exact ext_alloc H1.out.2 _, by rw [hP]; exact hz1⟩
  have HK : Hid (WkE P es env (.ok 0) (YW P VA) w2) := Lib.hid (by
    have hYn : YNew (fun _ => False) (YW P VA) w := by
      rintro q (rfl | ⟨a, rfl, rfl⟩)
      · exact .inr HB2.out.2
      · exact .inr (OwnL.lt H1.out.1 a rfl).1
    have hfr : Fr (fun _ => False) w w2 := Fr.below HB2.out.1
    refine ⟨0, 0, 0, ⟨EA, ec, VA, vc, bs, ?_, ?_, H.out.2.1.fr hfr hYn, H.out.1.fr hfr hYn, fun q => Iff.rfl, ?_, hel, by omega⟩, rfl, rfl, rfl⟩
    · rw [hw2, hP]
      exact heap_alloc_new _ _
    · rw [hw2]
      exact OwnL.alloc (OwnL.lower H1.out.1 (Nat.zero_le _)) _
    · rintro a rfl
      rw [hP]
      have := (OwnL.lt H1.out.1 a rfl).2
      omega)
  rw [← hw2, ← hP]
  clear hw2 hP hz1
  have HN := Lib.hid (next_all P es hes f env (.ok 0) r (YW P VA) w2 H.out.2.2 HK.out)
  unfold pk at HN
  go_wp2_with fail
  refine HN.out.mono ?_
  intro e w3 hp
  obtain ⟨v3, rfl⟩ := hp.keep
  obtain ⟨Y3, hf3, hy3, ⟨a3, p3, e3, ⟨EA3, ec3, VA3, vc3, bs3, hm3⟩, hr3⟩, hv3⟩ := hp
  have HB3 : Hid (Below w.heap.size w w3) := Lib.hid (by
    refine (Fr.new (Fr.below HB2.out.1 : Fr (fun _ => False) w w2) hf3 ?_).toBelow fun k h => h.elim
    rintro q (rfl | ⟨a, rfl, rfl⟩)
    · exact .inr HB2.out.2
    · exact .inr (OwnL.lt H1.out.1 a rfl).1)
  obtain ⟨_, _, _, k3, k4⟩ := hm3.cells
  have g3 : ∀ n, (w3.drewN n).cell? ⟨P, 3, none⟩ = some (.int .i64 p3) := fun n => k3
  have g4 : ∀ n, (w3.drewN n).cell? ⟨P, 4, none⟩ = some (.int .i64 e3) := fun n => k4
  have H3 := Lib.hid (And.intro hr3 hv3)
  clear hf3 hy3 hm3 hr3 hv3 k3 k4
  go_upto_region 3 with fail
  go_quiet (fail)
  go_wp2_with fail
  go_ret3
  refine ⟨below_drewN HB3.out _, ?_⟩
  match r, H3 with
  | .ok (t, b), H3 =>
    obtain ⟨hr, A9, c9, hv, ht⟩ := H3.out
    injection hv with hv
    obtain ⟨_, h2, h3⟩ := hr
    subst hv h2 h3
    refine ⟨A9, c9, rfl, fun hne => ?_, ht.cap⟩
    obtain ⟨b, o, e, g1, g2, g5, g6⟩ := ht.ty hne
    exact ⟨b, o, e, g1, fun h => h, g5.mono fun _ => rfl, .inr fun q hq => hq.elim⟩
  | .error (q, er), H3 =>
    obtain ⟨hr, hv⟩ := H3.out
    injection hv with hv
    obtain ⟨h1, h2, _⟩ := hr
    subst hv h1 h2
    rfl
end Go.Proofs.YtmjdhfbnmmdjiaaGreat
