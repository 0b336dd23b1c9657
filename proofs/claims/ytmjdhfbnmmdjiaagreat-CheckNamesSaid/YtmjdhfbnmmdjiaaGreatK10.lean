/- Laid together by a tool from the texts of this seat: ChE ChS. Conditions: each theorem's own. -/
import Derived.Test.YtmjdhfbnmmdjiaaGreatK08
import Derived.Test.YtmjdhfbnmmdjiaaGreatK09
/- Expressions and names as data, and what check tells of them; how they lie in memory. -/
namespace Go.Proofs.YtmjdhfbnmmdjiaaGreat
open Go.RowKit

/-- A part of an expression. -/
structure Pt where
  k : Int
  lb : ByteArray
  nm : ByteArray
  bd : ByteArray
  mn : Int
  num : Int
  T : List Nd
  U : List Nd
  deriving DecidableEq
instance : Inhabited Pt := ⟨⟨0, ByteArray.empty, ByteArray.empty, ByteArray.empty, 0, 0, [], []⟩⟩
abbrev Env := List (ByteArray × List Nd)
/-- A type and the next place; or the part that is wrong, and what. -/
abbrev Ans := Except (Nat × Int) (List Nd × Nat)
abbrev StW := Except (Nat × Int) Nat
abbrev Nx := Env → Nat → Option Ans

instance (t : List Nd) : Decidable (okAll t) := inferInstanceAs (Decidable (∀ x ∈ t, okNode x.k x.n = true))
instance (n : Nat) (t : List Nd) : Decidable (Fo n t) := inferInstanceAs (Decidable (skip t n = some []))
instance (t : List Nd) : Decidable (Gd t) :=
  if h : okAll t ∧ Fo 1 t ∧ (headNd t).s = ByteArray.empty ∧ t.length ≤ 1000000000 then isTrue ⟨h.1, h.2.1, h.2.2.1, h.2.2.2⟩
  else isFalse fun g => h ⟨g.ok, g.fo, g.s, g.len⟩

def nxS (nx : Nx) (env : Env) : StW → Option Ans
  | .ok a => nx env a
  | .error b => some (.error b)
def Ans.st : Ans → StW
  | .ok (_, a) => .ok a
  | .error b => .error b
/-- A step behind another one. -/
def andA (x : Option Ans) (f : List Nd → Nat → Option Ans) : Option Ans :=
  match x with
  | none => none
  | some (.error b) => some (.error b)
  | some (.ok (t, a)) => f t a
def agS (t u : List Nd) (at0 a : Nat) : StW := if agB t u = true then .ok a else .error (at0, 9)
def lookE (env : Env) (s : ByteArray) : Option (List Nd) := (env.reverse.find? fun e => e.1.toList == s.toList).map Prod.snd
def baseN (k : Int) : List Nd := [⟨k, ByteArray.empty, 0⟩]

def litM (p : Pt) (a : Nat) : Option Ans := some (.ok (p.T, a))
def nameM (env : Env) (p : Pt) (at0 a : Nat) : Option Ans :=
  match lookE env p.nm with
  | some t => some (.ok (t, a))
  | none => some (.error (at0, 5))
def funM (nx : Nx) (env : Env) (p : Pt) (a : Nat) : Option Ans := andA (nx (env ++ [(p.bd, p.T)]) a) fun t b => some (.ok (arrowN p.T t, b))
def appM (nx : Nx) (env : Env) (at0 a : Nat) : Option Ans :=
  andA (nx env a) fun f b => andA (nx env b) fun x c =>
    match callM f with
    | none => some (.error (at0, 9))
    | some (tk, tl) => if agB x tk = true then some (.ok (tl, c)) else some (.error (at0, 9))
def letM (nx : Nx) (env : Env) (p : Pt) (at0 a : Nat) : Option Ans :=
  andA (nx env a) fun t b => nxS nx (env ++ [(p.bd, p.T)]) (agS t p.T at0 b)
def recM (nx : Nx) (env : Env) (p : Pt) (at0 a : Nat) : Option Ans :=
  andA (nx (env ++ [(p.nm, arrowN p.T p.U), (p.bd, p.T)]) a) fun t b => nxS nx (env ++ [(p.nm, arrowN p.T p.U)]) (agS t p.U at0 b)
def meetA (t u : List Nd) (at0 a : Nat) : Option Ans :=
  match met 1 t u with
  | some m => some (.ok (m, a))
  | none => some (.error (at0, 9))
def condM (nx : Nx) (env : Env) (at0 a : Nat) : Option Ans :=
  andA (nx env a) fun c b => andA (nx env b) fun x d => andA (nx env d) fun y e =>
    if agB c (baseN 2) = true then meetA x y at0 e else some (.error (at0, 9))
def opIn (s : ByteArray) : Int := if s.toList = [38, 38] ∨ s.toList = [124, 124] then 2 else if s.toList = [43, 43] then 3 else 1
def opOut (s : ByteArray) : Int := if s.toList = [60] ∨ s.toList = [61, 61] then 2 else opIn s
def opM (nx : Nx) (env : Env) (p : Pt) (at0 a : Nat) : Option Ans :=
  andA (nx env a) fun x b => andA (nx env b) fun y c =>
    if agB x (baseN (opIn p.nm)) = true ∧ agB y (baseN (opIn p.nm)) = true then some (.ok (baseN (opOut p.nm), c)) else some (.error (at0, 9))
def fieldA (t : List Nd) (s : ByteArray) (at0 a : Nat) : Option Ans :=
  match fieldM t s with
  | some u => some (.ok (u, a))
  | none => some (.error (at0, 9))
def getM (nx : Nx) (env : Env) (p : Pt) (at0 a : Nat) : Option Ans := andA (nx env a) fun t b => fieldA t p.nm at0 b
def injM (nx : Nx) (env : Env) (p : Pt) (at0 a : Nat) : Option Ans :=
  andA (nx env a) fun t b => andA (fieldA p.T p.nm at0 b) fun u c => if agB t u = true then some (.ok (p.T, c)) else some (.error (at0, 9))
def asM (nx : Nx) (env : Env) (p : Pt) (at0 a : Nat) : Option Ans :=
  andA (nx env a) fun t b => if agB t p.T = true then some (.ok (p.T, b)) else some (.error (at0, 9))
def castM (nx : Nx) (env : Env) (p : Pt) (at0 a : Nat) : Option Ans :=
  andA (nx env a) fun t b => if sameB t p.T = true ∧ agB p.T p.U = true then some (.ok (p.U, b)) else some (.error (at0, 9))

/-- A type in memory, off some blocks, below the heap's end. -/
def OfT (w : World) (b : Nat) (T : TypeId) : Prop := ∃ cs fz, w.heap[b]? = some (.cells cs T fz)
/-- A block that lies ahead of all that may be written. -/
def OldB (Y : Nat → Prop) (b : Nat) : Prop := ∀ q, Y q → b < q
theorem of_keep {w w' : World} {b : Nat} {T : TypeId} (hbk : w'.heap[b]? = w.heap[b]?) (h : OfT w b T) : OfT w' b T := by
  unfold OfT
  rw [hbk]
  exact h
theorem OldB.fr {Y Y' : Nat → Prop} {b n : Nat} (h : OldB Y b) (hb : b < n) (hY : ∀ q, Y' q → Y q ∨ n ≤ q) : OldB Y' b := fun q hq => by
  rcases hY q hq with h2 | h2
  · exact h q h2
  · omega
def TyX (w : World) (Y : Nat → Prop) (A : Option Addr) (t : List Nd) : Prop := t ≠ [] → ∃ b o, A = some ⟨b, o, none⟩ ∧ b < w.heap.size ∧ ¬ Y b ∧ RT w b o t ∧ (OfT w b 49 ∨ OldB Y b)
structure TyV (w : World) (Y : Nat → Prop) (A : Option Addr) (c : Nat) (t : List Nd) : Prop where
  ty : TyX w Y A t
  cap : t.length ≤ c
/-- One part in memory. -/
def PtAt (w : World) (Y : Nat → Prop) (b o : Nat) (p : Pt) : Prop := ∃ TA tc UA uc, TyV w Y TA tc p.T ∧ TyV w Y UA uc p.U ∧
  w.cell? ⟨b, o, none⟩ = some (.int .i64 p.k) ∧ w.cell? ⟨b, o + 1, none⟩ = some (.string p.lb) ∧ w.cell? ⟨b, o + 2, none⟩ = some (.string p.nm) ∧ w.cell? ⟨b, o + 3, none⟩ = some (.string p.bd) ∧
  w.cell? ⟨b, o + 4, none⟩ = some (.int .i64 p.mn) ∧ w.cell? ⟨b, o + 5, none⟩ = some (.int .i64 p.num) ∧ w.cell? ⟨b, o + 6, none⟩ = some (.slice TA p.T.length tc) ∧ w.cell? ⟨b, o + 7, none⟩ = some (.slice UA p.U.length uc)
def ExX (w : World) (Y : Nat → Prop) (A : Option Addr) (es : List Pt) : Prop := ∀ (i : Nat) (p : Pt), es[i]? = some p → ∃ b o, A = some ⟨b, o, none⟩ ∧ b < w.heap.size ∧ ¬ Y b ∧ PtAt w Y b (o + i * 8) p ∧ (OfT w b 33 ∨ OldB Y b)
/-- A name's row in memory. -/
structure Bn where
  s : ByteArray
  A : Option Addr
  n : Nat
  c : Nat
def encB (b : Bn) : List Value := [.string b.s, .slice b.A b.n b.c]
theorem encB_len (b : Bn) : (encB b).length = 2 := rfl
theorem encB_one (b : Bn) : ∀ u ∈ encB b, u.oneCell' = true := by
  intro u hu
  simp [encB] at hu
  rcases hu with rfl | rfl <;> rfl
def EnvM (w : World) (Y : Nat → Prop) (bs : List Bn) (env : Env) : Prop :=
  bs.length = env.length ∧ ∀ (i : Nat) (b : Bn) (e : ByteArray × List Nd), bs[i]? = some b → env[i]? = some e → b.s = e.1 ∧ b.n = e.2.length ∧ TyV w Y b.A b.c e.2
abbrev OwnB (w : World) (base : Nat) (A : Option Addr) (cap : Nat) (l : List Bn) : Prop := OwnL 36 2 encB w base A cap l
abbrev ReadB (w : World) (B : Nat) (A : Option Addr) (l : List Bn) : Prop := ReadL 2 encB w B A l

theorem OwnL.ofT {α : Type} {e size base : Nat} {enc : α → List Value} {w : World} {A : Option Addr} {cap : Nat} {l : List α} (h : OwnL e size enc w base A cap l) {a : Addr} (hA : A = some a) : OfT w a.block e := by
  subst hA
  rcases h.2 with ⟨hv, hn⟩ | ⟨g, cap', cur, hv, hbg, hg, hr⟩
  · cases hv
  · injection hv with h1
    injection h1 with h1
    subst h1
    exact ⟨cur, _, hg⟩
theorem OfT.ne {w : World} {b c : Nat} {T U : TypeId} (h : OfT w b T) (k : OfT w c U) (hTU : T ≠ U) : b ≠ c := by
  rintro rfl
  obtain ⟨cs, fz, h⟩ := h
  obtain ⟨ds, gz, k⟩ := k
  rw [h] at k
  injection k with k
  injection k with _ k _
  exact hTU k

section
variable {w w' : World} {Y Y' : Nat → Prop} {A : Option Addr} {c : Nat} {t : List Nd}
theorem TyX.fr (h : TyX w Y A t) (hf : Fr Y w w') (hY : ∀ q, Y' q → Y q ∨ w.heap.size ≤ q) : TyX w' Y' A t := fun hne => by
  obtain ⟨b, o, e, hb, hy, hr, ho⟩ := h hne
  have hbk := hf.block b hb hy
  refine ⟨b, o, e, Nat.lt_of_lt_of_le hb hf.size, fun h2 => ?_, hr.mono fun off => by simp [World.cell?, hbk], ho.imp (of_keep hbk) fun h => h.fr hb hY⟩
  rcases hY b h2 with h3 | h3
  · exact hy h3
  · omega
theorem TyX.tyA (h : TyX w Y A t) : TyA w w.heap.size A t := fun hne => by
  obtain ⟨b, o, e, hb, _, hr, _⟩ := h hne
  exact ⟨b, o, e, hb, hr⟩
theorem TyX.own {base : Nat} (h : OwnN w base A c t) (hY : ∀ q, Y q → q < base) : TyX w Y A t := fun hne => by
  obtain ⟨b, o, e, hb, hr⟩ := h.tyA hne
  refine ⟨b, o, e, hb, fun hy => ?_, hr, .inl (OwnL.ofT h e)⟩
  have := (OwnL.lt h _ e).1
  have := hY b hy
  simp only at *
  omega
theorem TyX.of {B : Nat} (h : TyA w B A t) (hB : B ≤ w.heap.size) (hY : ∀ q, Y q → B ≤ q) (hT : ∀ a, A = some a → OfT w a.block 49) : TyX w Y A t := fun hne => by
  obtain ⟨b, o, e, hb, hr⟩ := h hne
  exact ⟨b, o, e, by omega, fun hy => by have := hY b hy; omega, hr, .inl (hT _ e)⟩
theorem TyV.fr (h : TyV w Y A c t) (hf : Fr Y w w') (hY : ∀ q, Y' q → Y q ∨ w.heap.size ≤ q) : TyV w' Y' A c t := ⟨h.ty.fr hf hY, h.cap⟩
theorem TyV.own {base : Nat} (h : OwnN w base A c t) (hY : ∀ q, Y q → q < base) : TyV w Y A c t := ⟨TyX.own h hY, OwnL.le_cap h⟩
theorem TyV.nil : TyV w Y A c [] := ⟨fun h => absurd rfl h, Nat.zero_le _⟩
theorem PtAt.fr {b o : Nat} {p : Pt} (h : PtAt w Y b o p) (hb : b < w.heap.size) (hy : ¬ Y b) (hf : Fr Y w w') (hY : ∀ q, Y' q → Y q ∨ w.heap.size ≤ q) : PtAt w' Y' b o p := by
  obtain ⟨TA, tc, UA, uc, h1, h2, h3⟩ := h
  have hbk := hf.block b hb hy
  refine ⟨TA, tc, UA, uc, h1.fr hf hY, h2.fr hf hY, ?_⟩
  simp only [World.cell?, hbk] at h3 ⊢
  exact h3
theorem ExX.fr {es : List Pt} (h : ExX w Y A es) (hf : Fr Y w w') (hY : ∀ q, Y' q → Y q ∨ w.heap.size ≤ q) : ExX w' Y' A es := fun i p hp => by
  obtain ⟨b, o, e, hb, hy, hr, ho⟩ := h i p hp
  refine ⟨b, o, e, Nat.lt_of_lt_of_le hb hf.size, fun h2 => ?_, hr.fr hb hy hf hY, ho.imp (of_keep (hf.block b hb hy)) fun h => h.fr hb hY⟩
  rcases hY b h2 with h3 | h3
  · exact hy h3
  · omega
theorem EnvM.fr {bs : List Bn} {env : Env} (h : EnvM w Y bs env) (hf : Fr Y w w') (hY : ∀ q, Y' q → Y q ∨ w.heap.size ≤ q) : EnvM w' Y' bs env :=
  ⟨h.1, fun i b e hb he => ⟨(h.2 i b e hb he).1, (h.2 i b e hb he).2.1, (h.2 i b e hb he).2.2.fr hf hY⟩⟩
theorem EnvM.app {bs bs2 : List Bn} {env env2 : Env} (h : EnvM w Y bs env) (k : EnvM w Y bs2 env2) : EnvM w Y (bs ++ bs2) (env ++ env2) := by
  refine ⟨by rw [List.length_append, List.length_append, h.1, k.1], fun i b e hb he => ?_⟩
  rcases Nat.lt_or_ge i bs.length with hi | hi
  · rw [List.getElem?_append_left hi] at hb
    rw [List.getElem?_append_left (by rw [← h.1]; exact hi)] at he
    exact h.2 i b e hb he
  · rw [List.getElem?_append_right hi] at hb
    rw [List.getElem?_append_right (by rw [← h.1]; exact hi), ← h.1] at he
    exact k.2 _ b e hb he
theorem EnvM.take {bs : List Bn} {env env2 : Env} (h : EnvM w Y bs (env ++ env2)) : EnvM w Y (bs.take env.length) env := by
  refine ⟨by rw [List.length_take, h.1, List.length_append]; omega, fun i b e hb he => ?_⟩
  have hi := getq_lt he
  rw [List.getElem?_take_of_lt hi] at hb
  exact h.2 i b e hb (by rw [List.getElem?_append_left hi]; exact he)
theorem EnvM.nil : EnvM w Y [] [] := ⟨rfl, fun i b e hb _ => by simp at hb⟩
theorem EnvM.one {s : ByteArray} {n : Nat} (h : TyV w Y A c t) (hn : n = t.length) : EnvM w Y [⟨s, A, n, c⟩] [(s, t)] := by
  subst hn
  refine ⟨rfl, fun i b e hb he => ?_⟩
  match i, hb, he with
  | 0, hb, he =>
    simp at hb he
    subst hb he
    exact ⟨rfl, rfl, h⟩
  | i + 1, hb, _ => simp at hb
end

/-- A row of another kind grows: what is no such row stays. -/
structure Oth (w w' : World) (U : TypeId) (Y : Nat → Prop) : Prop where
  os : w'.os = w.os
  tape : w'.tape = w.tape
  output : w'.output = w.output
  size : w.heap.size ≤ w'.heap.size
  block : ∀ k, k < w.heap.size → ¬ (OfT w k U ∧ ¬ OldB Y k) → w'.heap[k]? = w.heap[k]?
theorem Oth.grown {α : Type} {size base n : Nat} {U : TypeId} {enc : α → List Value} {w w' : World} {A : Option Addr} {cap : Nat} {l : List α} (h : OwnL U size enc w base A cap l) (hn : n = l.length) (hg : w.grownBy w' ((Value.slice A n cap).ownBlock)) {Y : Nat → Prop} {P : Nat} (hY : Y P) (hP : P ≤ base) : Oth w w' U Y := by
  subst hn
  refine ⟨hg.os, hg.tape, hg.output, hg.size, fun k hk ho => hg.block k hk fun e => ?_⟩
  obtain ⟨a, hA, e2⟩ := ownBlock_of e.symm
  have := OwnL.ofT h hA
  rw [e2] at this
  have h6 := (OwnL.lt h a hA).1
  exact ho ⟨this, fun h5 => by have := h5 P hY; omega⟩
theorem Oth.below {w w' : World} {U : TypeId} {Y : Nat → Prop} (h : Below w.heap.size w w') : Oth w w' U Y := ⟨h.os, h.tape, h.output, h.size, fun k hk _ => h.block k hk⟩
theorem Oth.fr {w w' : World} {U : TypeId} {Y : Nat → Prop} (h : Oth w w' U Y) : Fr (fun q => OfT w q U ∧ ¬ OldB Y q) w w' := ⟨h.os, h.tape, h.output, h.size, h.block⟩
theorem TyX.oth {w w' : World} {U : TypeId} {Y : Nat → Prop} {A : Option Addr} {t : List Nd} (h : TyX w Y A t) (k : Oth w w' U Y) (hU : U ≠ 49) : TyX w' Y A t := fun hne => by
  obtain ⟨b, o, e, hb, hy, hr, ho⟩ := h hne
  have hbk := k.block b hb fun h2 => ho.elim (fun ho => OfT.ne h2.1 ho hU rfl) h2.2
  exact ⟨b, o, e, Nat.lt_of_lt_of_le hb k.size, hy, hr.mono fun off => by simp [World.cell?, hbk], ho.imp (of_keep hbk) fun h => h⟩
theorem TyV.oth {w w' : World} {U : TypeId} {Y : Nat → Prop} {A : Option Addr} {c : Nat} {t : List Nd} (h : TyV w Y A c t) (k : Oth w w' U Y) (hU : U ≠ 49) : TyV w' Y A c t := ⟨h.ty.oth k hU, h.cap⟩

/-- The walk's block, and what it holds. -/
structure WkM (P : Nat) (es : List Pt) (env : Env) (a : Nat) (p e : Int) (EA : Option Addr) (ec : Nat) (VA : Option Addr) (vc : Nat) (bs : List Bn) (Y : Nat → Prop) (w : World) : Prop where
  blk : w.heap[P]? = some (.cells #[.slice EA es.length ec, .int .i64 (a : Int), .slice VA bs.length vc, .int .i64 p, .int .i64 e] 60 (0, 0))
  own : OwnB w 0 VA vc bs
  ex : ExX w Y EA es
  en : EnvM w Y bs env
  y : ∀ q, Y q ↔ (q = P ∨ ∃ a, VA = some a ∧ a.block = q)
  np : ∀ a, VA = some a → a.block ≠ P
  el : es.length ≤ 1000000
  vl : env.length ≤ 1000000
def WkS (P : Nat) (es : List Pt) (env : Env) (a : Nat) (p e : Int) (Y : Nat → Prop) (w : World) : Prop := ∃ EA ec VA vc bs, WkM P es env a p e EA ec VA vc bs Y w
def relS : StW → Nat → Int → Int → Prop
  | .ok n, a, p, e => a = n ∧ p = 0 ∧ e = 0
  | .error (q, f), _, p, e => p = q ∧ e = f ∧ f ≠ 0
/-- The walk in a state. -/
def WkE (P : Nat) (es : List Pt) (env : Env) (s : StW) (Y : Nat → Prop) (w : World) : Prop := ∃ a p e, WkS P es env a p e Y w ∧ relS s a p e
/-- What may be written behind. -/
def YNew (Y Y' : Nat → Prop) (w : World) : Prop := ∀ q, Y' q → Y q ∨ w.heap.size ≤ q
/-- What next leaves. -/
def NxPost (P : Nat) (es : List Pt) (env : Env) (Y : Nat → Prop) (r : Ans) (w : World) (e : Ending) (w' : World) : Prop :=
  ∃ Y', Fr Y w w' ∧ YNew Y Y' w ∧ WkE P es env r.st Y' w' ∧ match r with
    | .ok (t, _) => ∃ A c, e = .returned (.slice A t.length c) ∧ TyV w' Y' A c t
    | .error _ => e = .returned (.slice none 0 0)
/-- What one of its ways leaves. -/
def WyPost (P : Nat) (es : List Pt) (env : Env) (Y : Nat → Prop) (r : Ans) (w : World) (e : Ending) (w' : World) : Prop :=
  ∃ Y', Fr Y w w' ∧ YNew Y Y' w ∧ WkE P es env r.st Y' w' ∧ match r with
    | .ok (t, _) => ∃ A c, e = .returned (.slice A t.length c) ∧ TyV w' Y' A c t
    | .error _ => ∃ A n c, e = .returned (.slice A n c)
def pk (P : Nat) : Value := .pointer (some ⟨P, 0, none⟩)
def NextC (P : Nat) (es : List Pt) (nx : Nx) : Prop := ∀ env s r Y w, nxS nx env s = some r → WkE P es env s Y w → Calls Tryz.prog 32 #[pk P] w (NxPost P es env Y r w)

section
variable {P a : Nat} {es : List Pt} {env : Env} {p e : Int} {EA VA : Option Addr} {ec vc : Nat} {bs : List Bn} {Y Y' : Nat → Prop} {w w' : World} {s : StW}
theorem WkM.lt (h : WkM P es env a p e EA ec VA vc bs Y w) : ∀ q, Y q → q < w.heap.size := fun q hq => by
  rcases (h.y q).1 hq with rfl | ⟨b, hb, rfl⟩
  · exact (Array.getElem?_eq_some_iff.1 h.blk).1
  · exact (OwnL.lt h.own b hb).2
theorem WkE.yP (h : WkE P es env s Y w) : Y P := by
  obtain ⟨a, p, e, ⟨EA, ec, VA, vc, bs, h⟩, _⟩ := h
  exact (h.y P).2 (.inl rfl)
theorem WkE.lt (h : WkE P es env s Y w) : ∀ q, Y q → q < w.heap.size := by
  obtain ⟨a, p, e, ⟨EA, ec, VA, vc, bs, h⟩, _⟩ := h
  exact h.lt
theorem WkM.later (h : WkM P es env a p e EA ec VA vc bs Y w) (hb : Below w.heap.size w w') : WkM P es env a p e EA ec VA vc bs Y w' := by
  have hf : Fr Y w w' := Fr.below hb
  have hP := h.lt P ((h.y P).2 (.inl rfl))
  exact ⟨(hb.block P hP).trans h.blk, h.own.below hb (Nat.le_refl _), h.ex.fr hf fun q hq => .inl hq, h.en.fr hf fun q hq => .inl hq, h.y, h.np, h.el, h.vl⟩
theorem WkE.later (h : WkE P es env s Y w) (hb : Below w.heap.size w w') : WkE P es env s Y w' := by
  obtain ⟨a, p, e, ⟨EA, ec, VA, vc, bs, h⟩, hr⟩ := h
  exact ⟨a, p, e, ⟨EA, ec, VA, vc, bs, h.later hb⟩, hr⟩
theorem WkM.cells (h : WkM P es env a p e EA ec VA vc bs Y w) : w.cell? ⟨P, 0, none⟩ = some (.slice EA es.length ec) ∧ w.cell? ⟨P, 1, none⟩ = some (.int .i64 (a : Int)) ∧ w.cell? ⟨P, 2, none⟩ = some (.slice VA bs.length vc) ∧ w.cell? ⟨P, 3, none⟩ = some (.int .i64 p) ∧ w.cell? ⟨P, 4, none⟩ = some (.int .i64 e) :=
  ⟨by simp [World.cell?, h.blk], by simp [World.cell?, h.blk], by simp [World.cell?, h.blk], by simp [World.cell?, h.blk], by simp [World.cell?, h.blk]⟩
theorem WkM.frozen (h : WkM P es env a p e EA ec VA vc bs Y w) : ∀ i, i < 5 → w.frozen? ⟨P, i, none⟩ = false := fun i hi => by
  have : i = 0 ∨ i = 1 ∨ i = 2 ∨ i = 3 ∨ i = 4 := by omega
  rcases this with rfl | rfl | rfl | rfl | rfl <;> simp [World.frozen?, h.blk]
/-- What may be written is the walk and its row of names. -/
theorem WkM.kind (h : WkM P es env a p e EA ec VA vc bs Y w) : ∀ q, Y q → OfT w q 60 ∨ OfT w q 36 := fun q hq => by
  rcases (h.y q).1 hq with rfl | ⟨b, hb, rfl⟩
  · exact .inl ⟨_, _, h.blk⟩
  · exact .inr (OwnL.ofT h.own hb)
theorem WkE.kind (h : WkE P es env s Y w) : ∀ q, Y q → OfT w q 60 ∨ OfT w q 36 := by
  obtain ⟨a, p, e, ⟨EA, ec, VA, vc, bs, h⟩, _⟩ := h
  exact h.kind
theorem WkM.oth {U : TypeId} (h : WkM P es env a p e EA ec VA vc bs Y w) (k : Oth w w' U Y) (h1 : U ≠ 49) (h2 : U ≠ 33) (h3 : U ≠ 36) (h4 : U ≠ 60) : WkM P es env a p e EA ec VA vc bs Y w' := by
  have hP := h.lt P ((h.y P).2 (.inl rfl))
  refine ⟨(k.block P hP fun h5 => OfT.ne h5.1 ⟨_, _, h.blk⟩ h4 rfl).trans h.blk, OwnL.fr h.own k.fr (fun a ha h5 => OfT.ne h5.1 (OwnL.ofT h.own ha) h3 rfl), ?_, ⟨h.en.1, fun i b e hb he => ⟨(h.en.2 i b e hb he).1, (h.en.2 i b e hb he).2.1, (h.en.2 i b e hb he).2.2.oth k h1⟩⟩, h.y, h.np, h.el, h.vl⟩
  intro i p hp
  obtain ⟨b, o, e, hb, hy, hr, ho⟩ := h.ex i p hp
  have hbk := k.block b hb fun h5 => ho.elim (fun ho => OfT.ne h5.1 ho h2 rfl) h5.2
  refine ⟨b, o, e, Nat.lt_of_lt_of_le hb k.size, hy, ?_, ho.imp (of_keep hbk) fun h => h⟩
  obtain ⟨TA, tc, UA, uc, f1, f2, f3⟩ := hr
  refine ⟨TA, tc, UA, uc, f1.oth k h1, f2.oth k h1, ?_⟩
  simp only [World.cell?, hbk] at f3 ⊢
  exact f3
theorem WkE.oth {U : TypeId} (h : WkE P es env s Y w) (k : Oth w w' U Y) (h1 : U ≠ 49) (h2 : U ≠ 33) (h3 : U ≠ 36) (h4 : U ≠ 60) : WkE P es env s Y w' := by
  obtain ⟨a, p, e, ⟨EA, ec, VA, vc, bs, h⟩, hr⟩ := h
  exact ⟨a, p, e, ⟨EA, ec, VA, vc, bs, h.oth k h1 h2 h3 h4⟩, hr⟩
/-- A row of another kind outlives a step of the walk. -/
theorem OwnL.step {α : Type} {U size base : Nat} {enc : α → List Value} {A : Option Addr} {cap : Nat} {l : List α} (h : OwnL U size enc w base A cap l) (hk : WkE P es env s Y w) (hf : Fr Y w w') (h3 : U ≠ 36) (h4 : U ≠ 60) : OwnL U size enc w' base A cap l :=
  OwnL.fr h hf fun a ha hy => by
    rcases hk.kind _ hy with h5 | h5
    · exact OfT.ne (OwnL.ofT h ha) h5 h4 rfl
    · exact OfT.ne (OwnL.ofT h ha) h5 h3 rfl
/-- A number of the walk is put. -/
theorem WkM.put (h : WkM P es env a p e EA ec VA vc bs Y w) {a2 : Nat} {p2 e2 : Int} (hb : w'.heap[P]? = some (.cells #[.slice EA es.length ec, .int .i64 (a2 : Int), .slice VA bs.length vc, .int .i64 p2, .int .i64 e2] 60 (0, 0))) (hf : Fr (fun q => q = P) w w') :
    WkM P es env a2 p2 e2 EA ec VA vc bs Y w' ∧ Fr Y w w' := by
  have hf2 : Fr Y w w' := hf.mono fun q hq => (h.y q).2 (.inl hq)
  exact ⟨⟨hb, OwnL.fr h.own hf h.np, h.ex.fr hf2 fun q hq => .inl hq, h.en.fr hf2 fun q hq => .inl hq, h.y, h.np, h.el, h.vl⟩, hf2⟩
theorem fr_set (w : World) (P i : Nat) (v : Value) : Fr (fun q => q = P) w (w.setCell ⟨P, i, none⟩ v) := Fr.setCell (X := fun q => q = P) (Fr.refl _ _) (.inl rfl) _
end
end Go.Proofs.YtmjdhfbnmmdjiaaGreat

/- A row's parts by their labels (of TrP and TrR); what check tells of Rows and of a Case. -/
namespace Go.Proofs.YtmjdhfbnmmdjiaaGreat

def insP (p : ByteArray × List Nd) : List (ByteArray × List Nd) → List (ByteArray × List Nd)
  | [] => [p]
  | q :: l => if ltB p.1 q.1 = true then p :: q :: l else q :: insP p l
def srtP (l : List (ByteArray × List Nd)) : List (ByteArray × List Nd) := l.foldl (fun a p => insP p a) []
/-- A row of labels and types. -/
def rowL (k : Int) (fs : List (ByteArray × List Nd)) : List Nd := ⟨k, ByteArray.empty, (fs.length : Int)⟩ :: (srtP fs).flatMap fun p => nameR p.1 p.2

abbrev FsL := ByteArray × List Nd
theorem insP_perm (p : FsL) (l : List FsL) : (insP p l).Perm (p :: l) := by
  induction l with
  | nil => exact List.Perm.refl _
  | cons q l ih =>
    unfold insP
    split
    · exact List.Perm.refl _
    · exact (ih.cons q).trans (List.Perm.swap p q l)
theorem insP_sort (p : FsL) (l : List FsL) (hs : l.Pairwise fun a b => ltB a.1 b.1 = true) (hn : ∀ q ∈ l, q.1 ≠ p.1) : (insP p l).Pairwise fun a b => ltB a.1 b.1 = true := by
  induction l with
  | nil => simp [insP]
  | cons q l ih =>
    rw [List.pairwise_cons] at hs
    unfold insP
    by_cases h : ltB p.1 q.1 = true
    · rw [if_pos h, List.pairwise_cons, List.pairwise_cons]
      refine ⟨fun r hr => ?_, hs⟩
      rcases List.mem_cons.1 hr with rfl | hr
      · exact h
      · exact ltB_trans h (hs.1 r hr)
    · rw [if_neg h, List.pairwise_cons]
      refine ⟨fun r hr => ?_, ih hs.2 fun r hr => hn r (List.mem_cons_of_mem _ hr)⟩
      rcases List.mem_cons.1 ((insP_perm p l).subset hr) with rfl | hr
      · cases h2 : ltB q.1 r.1 with
        | true => rfl
        | false => exact absurd (ltB_eq h2 (by simpa using h)) (hn q (List.mem_cons_self ..))
      · exact hs.1 r hr
theorem srtP_go (l : List FsL) : ∀ acc : List FsL, (acc ++ l).Pairwise (fun a b => a.1 ≠ b.1) → acc.Pairwise (fun a b => ltB a.1 b.1 = true) →
    (l.foldl (fun a p => insP p a) acc).Perm (acc ++ l) ∧ (l.foldl (fun a p => insP p a) acc).Pairwise fun a b => ltB a.1 b.1 = true := by
  induction l with
  | nil => intro acc _ h; simpa using h
  | cons p l ih =>
    intro acc hd hs
    rw [List.foldl_cons]
    have hp : (insP p acc ++ l).Perm (acc ++ p :: l) := ((insP_perm p acc).append_right l).trans (by simpa using (List.perm_middle (a := p) (l₁ := acc) (l₂ := l)).symm)
    have hd2 : (insP p acc ++ l).Pairwise fun a b => a.1 ≠ b.1 := hp.symm.pairwise hd (fun h => Ne.symm h)
    have hn : ∀ q ∈ acc, q.1 ≠ p.1 := fun q hq => (List.pairwise_append.1 hd).2.2 q hq p (List.mem_cons_self ..)
    obtain ⟨h1, h2⟩ := ih (insP p acc) hd2 (insP_sort p acc hs hn)
    exact ⟨h1.trans hp, h2⟩
theorem ltB_no {a b : ByteArray} (h : ltB a b = true) : ltB b a = false := by
  cases k : ltB b a with
  | false => rfl
  | true =>
    have := ltB_trans h k
    rw [ltB_irrefl] at this
    cases this
theorem rowNR_eq (k : Int) (fs : List FsL) (hd : (fs.map (·.1)).Nodup) (os : List Nat) (hp : os.Perm (List.range (fs.map (·.2)).length)) (ho : os.Pairwise fun i j => ltB (lab (fs.map (·.1)) i) (lab (fs.map (·.1)) j) = true) :
    rowNR k (fs.map (·.1)) (fs.map (·.2)) os = rowL k fs := by
  have hd2 : fs.Pairwise fun a b => a.1 ≠ b.1 := by
    have h := hd
    unfold List.Nodup at h
    rw [List.pairwise_map] at h
    exact h
  obtain ⟨h1, h2⟩ := srtP_go fs [] (by simpa using hd2) List.Pairwise.nil
  have hr : (List.range fs.length).map (fun i => ((lab (fs.map (·.1)) i, ((fs.map (·.2))[i]?).getD []) : FsL)) = fs := by
    refine List.ext_getElem (by simp) fun i hi hj => ?_
    simp only [List.getElem_map, List.getElem_range]
    simp [lab, List.getElem?_eq_getElem hj]
  have e : os.map (fun i => ((lab (fs.map (·.1)) i, ((fs.map (·.2))[i]?).getD []) : FsL)) = srtP fs := by
    refine List.Perm.eq_of_pairwise (le := fun a b => ltB a.1 b.1 = true) (fun a b _ _ h k => ?_) ?_ h2 ?_
    · rw [ltB_no h] at k
      cases k
    · rw [List.pairwise_map]
      exact ho
    · rw [List.length_map] at hp
      refine (hp.map _).trans ?_
      rw [hr]
      simpa [srtP] using h1.symm
  unfold rowNR rowL
  rw [← e, List.flatMap_map, List.length_map]
  rfl

/-- Rows: label and type, part for part. -/
def rowsGo (nx : Nx) (es : List Pt) (env : Env) : Nat → Nat → List FsL → Option (Except (Nat × Int) (List FsL × Nat))
  | 0, a, fs => some (.ok (fs, a))
  | n + 1, a, fs =>
    match es[a]? with
    | none => none
    | some x => match nx env a with
      | none => none
      | some (.error b) => some (.error b)
      | some (.ok (t, b)) => rowsGo nx es env n b (fs ++ [(x.lb, t)])
def rowsM (nx : Nx) (es : List Pt) (env : Env) (p : Pt) (a : Nat) : Option Ans :=
  if 0 ≤ p.mn ∧ p.mn ≤ 50 then
    match rowsGo nx es env p.mn.toNat a [] with
    | none => none
    | some (.error b) => some (.error b)
    | some (.ok (fs, b)) => if badRow 6 (fs.map (·.1)) fs.length = false ∧ (fs.map (·.1)).Nodup then some (.ok (rowL 6 fs, b)) else none
  else none

/-- How many children a part has. -/
def manyE (p : Pt) : Nat :=
  if p.k = 2 ∨ p.k = 8 ∨ p.k = 11 ∨ p.k = 12 ∨ p.k = 13 ∨ p.k = 14 then 1 else
  if p.k = 3 ∨ p.k = 4 ∨ p.k = 5 ∨ p.k = 9 then 2 else
  if p.k = 6 then 3 else
  if p.k = 7 then p.mn.toNat + 1 else
  if p.k = 10 then p.mn.toNat else 0
/-- Where so many parts end. -/
def endO : List Pt → Nat → Nat → Option Nat
  | _, 0, p => some p
  | [], _ + 1, _ => none
  | x :: xs, n + 1, p => endO xs (n + manyE x) (p + 1)
def kidsO (es : List Pt) : Nat → Nat → Option (List Nat)
  | 0, _ => some []
  | n + 1, a => match endO (es.drop a) 1 a with
    | none => none
    | some b => (kidsO es n b).map fun l => a :: l

/-- Texts in order. -/
def srtS (l : List ByteArray) : List ByteArray := ((l.map ByteArray.toList).mergeSort fun x y => decide (x ≤ y)).map fun b => ⟨b.toArray⟩
/-- Are a Case's branches what is looked into? -/
def tagsOk (es : List Pt) (t : List Nd) (at0 : Nat) : Option Bool :=
  match es[at0]? with
  | none => none
  | some p => match kidsO es (manyE p) (at0 + 1) with
    | none => none
    | some [] => none
    | some (_ :: l) => match tagsM t with
      | none => some false
      | some tags => some (decide ((headNd t).k = 0) || decide (tags = srtS (l.map fun i => ((es[i]?).getD default).lb)))
def casesGo (nx : Nx) (es : List Pt) (env : Env) (ot : List Nd) : Nat → Nat → List (List Nd) → Option (Except (Nat × Int) (List (List Nd) × Nat))
  | 0, a, ts => some (.ok (ts, a))
  | n + 1, a, ts =>
    match es[a]? with
    | none => none
    | some x => match nx (env ++ [(x.bd, (fieldM ot x.lb).getD [])]) (a + 1) with
      | none => none
      | some (.error b) => some (.error b)
      | some (.ok (t, b)) => casesGo nx es env ot n b (ts ++ [t])
def meetsM (at0 : Nat) : List Nd → List (List Nd) → Option (Except (Nat × Int) (List Nd))
  | m, [] => some (.ok m)
  | m, t :: ts => match met 1 m t with
    | none => some (.error (at0, 9))
    | some m2 => if Gd m2 then meetsM at0 m2 ts else none
def casesM (nx : Nx) (es : List Pt) (env : Env) (p : Pt) (at0 a : Nat) : Option Ans :=
  if 1 ≤ p.mn ∧ p.mn ≤ 50 ∧ env.length ≤ 900000 then
    andA (nx env a) fun ot b =>
      match tagsOk es ot at0 with
      | none => none
      | some false => some (.error (at0, 9))
      | some true => match casesGo nx es env ot p.mn.toNat b [] with
        | none => none
        | some (.error x) => some (.error x)
        | some (.ok (ts, c)) => match ts with
          | [] => none
          | t :: ts => match meetsM at0 t ts with
            | none => none
            | some (.error x) => some (.error x)
            | some (.ok m) => some (.ok (m, c))
  else none
end Go.Proofs.YtmjdhfbnmmdjiaaGreat
