/- Rows that grow side by side: a row of types and a row of labels, and what lies beside them. -/
import Derived.Test.YtblfeokjlecgkaaDoorAsk
import Derived.Test.YtblfeokjlecgkaaDoorRowA
namespace Go.Proofs.YtblfeokjlecgkaaDoor
open Go.RowKit

/-- Two addresses lie in two blocks. -/
def Off (A B : Option Addr) : Prop := ∀ a b, A = some a → B = some b → a.block ≠ b.block

theorem Off.symm {A B : Option Addr} (h : Off A B) : Off B A := fun a b ha hb e => h b a hb ha e.symm

theorem ReadL.grown {α : Type} {size : Nat} {enc : α → List Value} {w w' : World} {B : Nat} {A X : Option Addr} {l : List α} {n c : Nat} (h : ReadL size enc w B X l) (hB : B ≤ w.heap.size) (hg : w.grownBy w' ((Value.slice A n c).ownBlock)) (ho : Off A X) : ReadL size enc w' B X l := fun hne => by
  obtain ⟨b, o, rfl, hb, hc⟩ := h hne
  refine ⟨b, o, rfl, hb, fun i x hx j u hu => ?_⟩
  have hblk := hg.block b (by omega) (fun e => by
    obtain ⟨a, ha, hab⟩ := ownBlock_of e.symm
    exact ho a _ ha rfl (by rw [hab]))
  rw [World.cell?_of_block (a := ⟨b, o + i * size + j, none⟩) hblk]
  exact hc i x hx j u hu

theorem TyA.grown {w w' : World} {B : Nat} {A X : Option Addr} {xs : List Nd} {n c : Nat} (h : TyA w B X xs) (hB : B ≤ w.heap.size) (hg : w.grownBy w' ((Value.slice A n c).ownBlock)) (ho : Off A X) : TyA w' B X xs :=
  ReadL.tyA (ReadL.grown h.readL hB hg ho)

theorem Off.app {A A' X : Option Addr} {n c n' c' N : Nat} (h : Off A X) (hA : (Value.slice A' n' c').ownBlock = (Value.slice A n c).ownBlock ∨ (Value.slice A' n' c').ownBlock = some N) (hX : ∀ x, X = some x → x.block < N) : Off A' X := fun a x ha hx e => by
  subst ha hx
  rcases hA with hA | hA
  · obtain ⟨b, hb, hbe⟩ := ownBlock_of (hA.symm.trans (show (Value.slice (some a) n' c').ownBlock = some a.block from rfl))
    exact h b x hb rfl (by rw [hbe, e])
  · have : a.block = N := by simpa [Value.ownBlock] using hA
    have := hX x rfl
    omega

theorem OwnL.lt {α : Type} {e size base : Nat} {enc : α → List Value} {w : World} {A : Option Addr} {cap : Nat} {l : List α} (h : OwnL e size enc w base A cap l) : ∀ a, A = some a → base ≤ a.block ∧ a.block < w.heap.size := fun a ha => by
  subst ha
  exact OwnL.block h a.block rfl

theorem encT_one (s : ByteArray) : ∀ u ∈ encT s, u.oneCell' = true := by
  intro u hu
  simp [encT] at hu
  subst hu
  rfl
theorem infoS : (Tryd.prog.info? 9).map (fun i => (i.zero, i.size, i.bytes)) = some (some (.string ByteArray.empty), 1, 16) := by kernel_rfl
abbrev OwnT (w : World) (base : Nat) (A : Option Addr) (cap : Nat) (l : List ByteArray) : Prop := OwnL 9 1 encT w base A cap l

theorem readT_new (w : World) (s : ByteArray) : ReadT (w.alloc (.cells #[.string s] 9)) (w.heap.size + 1) (some ⟨w.heap.size, 0, none⟩) [s] := fun _ => by
  refine ⟨w.heap.size, 0, rfl, by omega, fun i x hx j u hu => ?_⟩
  match i, hx with
  | 0, hx =>
    simp at hx
    subst hx
    match j, hu with
    | 0, hu => simp [encT] at hu; subst hu; simp
    | j + 1, hu => simp [encT] at hu
  | i + 1, hx => simp at hx

section
variable {w : World} {ops : Array Oper} {rest : List Oper} {o : Oper} {a : Act} {Q : Exit → Act → World → Prop}
theorem wpList_appT (hgd : o.guard = none) (s x : Operand)
    (ho : o.op = .call { callee := .builtin .append, args := #[s, x], argTypes := #[22, 22] })
    (base : Nat) {A : Option Addr} {cap : Nat} {l : List ByteArray} (hs : a.eval s = .slice A l.length cap) (hown : OwnT w base A cap l) {B : Nat} {A2 : Option Addr} {c : Nat} {l2 : List ByteArray} (hx : a.eval x = .slice A2 l2.length c) (hr : ReadT w B A2 l2)
    (hlen : l.length + l2.length ≤ 10000000) (hbase : base ≤ w.heap.size)
    (h : ∀ A' cap' w', OwnT w' base A' cap' (l ++ l2) → w.grownBy w' ((Value.slice A l.length cap).ownBlock) →
      ((Value.slice A' (l.length + l2.length) cap').ownBlock = (Value.slice A l.length cap).ownBlock ∨ (Value.slice A' (l.length + l2.length) cap').ownBlock = some w.heap.size) → wpList Tryd.prog ops Q rest (a.put o.dst (.slice A' (l.length + l2.length) cap')) w') : wpList Tryd.prog ops Q (o :: rest) a w := by
  obtain ⟨i0, hi, hz0, hz1, hz2⟩ := info_parts infoS
  exact wpList_app w encT_len encT_one hgd s x 22 ho base 9 i0 _ 16 Tryd.underlying22 hi hz0 hz1 hz2 rfl (by decide) hs hown hx hr (by unfold maxLen; omega) (by omega) hbase h
end

/-- What stands while parts and labels are laid behind one another. -/
structure StP (w0 : World) (A0 : Option Addr) (T : List Nd) (K : Option Addr) (ck : Nat) (kl : List Int) (V : Option Addr) (cv : Nat) (vs : List (Option Addr × Nat × Nat)) (ps : List (List Nd)) (L : Option Addr) (cl : Nat) (ls : List ByteArray) (w : World) : Prop where
  ext : Below w0.heap.size w0 w
  t : TyA w w0.heap.size A0 T
  tab : Tab w w0.heap.size
  k : OwnI w w0.heap.size K ck kl
  v : OwnS w w0.heap.size V cv vs
  l : OwnT w w0.heap.size L cl ls
  s : Sls w w.heap.size vs ps
  b : ∀ q ∈ vs, ∀ a, q.1 = some a → a.block < w.heap.size
  vl : Off V L
  vk : Off V K
  lk : Off L K
  ov : ∀ q ∈ vs, Off V q.1
  ol : ∀ q ∈ vs, Off L q.1

section
variable {w0 w w' : World} {A0 K V V' L L' Aq : Option Addr} {T P : List Nd} {ck cv cv' cl cl' cq n' : Nat} {kl : List Int} {vs : List (Option Addr × Nat × Nat)} {ps : List (List Nd)} {ls : List ByteArray} {s : ByteArray}

theorem StP.step (h : StP w0 A0 T K ck kl V cv vs ps L cl ls w) (hb : Below w.heap.size w w') : StP w0 A0 T K ck kl V cv vs ps L cl ls w' where
  ext := ext_trans h.ext hb
  t := h.t.below (hb.mono h.ext.size)
  tab := h.tab.below (hb.mono h.ext.size)
  k := h.k.below hb (Nat.le_refl _)
  v := h.v.below hb (Nat.le_refl _)
  l := h.l.below hb (Nat.le_refl _)
  s := ⟨h.s.1, fun i q xs hq hx => ⟨(h.s.2 i q xs hq hx).1, ((h.s.2 i q xs hq hx).2.below hb).more hb.size⟩⟩
  b := fun q hq a ha => Nat.lt_of_lt_of_le (h.b q hq a ha) hb.size
  vl := h.vl
  vk := h.vk
  lk := h.lk
  ov := h.ov
  ol := h.ol

/-- A part that was just made. -/
structure PartOk (w : World) (V L Aq : Option Addr) (P : List Nd) : Prop where
  t : TyA w w.heap.size Aq P
  ov : Off V Aq
  ol : Off L Aq
  b : ∀ a, Aq = some a → a.block < w.heap.size

theorem PartOk.step (h : PartOk w V L Aq P) (hb : Below w.heap.size w w') : PartOk w' V L Aq P :=
  ⟨(h.t.below hb).more hb.size, h.ov, h.ol, fun a ha => Nat.lt_of_lt_of_le (h.b a ha) hb.size⟩

theorem StP.part (h : StP w0 A0 T K ck kl V cv vs ps L cl ls w) (ho : OwnN w' w.heap.size Aq cq P) : PartOk w' V L Aq P :=
  ⟨OwnL.tyA ho, fun a b ha hb e => by have h1 := (OwnL.lt h.v a ha).2; have h2 := (OwnL.lt ho b hb).1; omega, fun a b ha hb e => by have h1 := (OwnL.lt h.l a ha).2; have h2 := (OwnL.lt ho b hb).1; omega, fun a ha => (OwnL.lt ho a ha).2⟩

theorem kept_off {α : Type} {e size base n c : Nat} {enc : α → List Value} {A X : Option Addr} {cap : Nat} {l : List α} (h : OwnL e size enc w base X cap l) (hg : w.grownBy w' ((Value.slice A n c).ownBlock)) (ho : Off A X) : OwnL e size enc w' base X cap l :=
  OwnL.kept h hg fun k hk a ha e2 => by
    obtain ⟨b, hb, hbe⟩ := ownBlock_of hk
    exact ho b a hb ha (by rw [hbe, e2])

theorem below_app {B n c : Nat} {A : Option Addr} (hg : w.grownBy w' ((Value.slice A n c).ownBlock)) (hB : B ≤ w.heap.size) (hA : ∀ a, A = some a → B ≤ a.block) : Below B w w' :=
  (Below.refl B w).grown hg hB fun k hk => by
    obtain ⟨a, ha, hab⟩ := ownBlock_of hk
    rw [← hab]
    exact hA a ha

theorem StP.appV (h : StP w0 A0 T K ck kl V cv vs ps L cl ls w) (hp : PartOk w V L Aq P) (hg : w.grownBy w' ((Value.slice V vs.length cv).ownBlock)) (ho : OwnS w' w0.heap.size V' cv' (vs ++ [(Aq, P.length, cq)]))
    (hA : (Value.slice V' n' cv').ownBlock = (Value.slice V vs.length cv).ownBlock ∨ (Value.slice V' n' cv').ownBlock = some w.heap.size) : StP w0 A0 T K ck kl V' cv' (vs ++ [(Aq, P.length, cq)]) (ps ++ [P]) L cl ls w' where
  ext := ext_app h.ext hg fun k hk => (OwnL.block h.v k hk).1
  t := h.t.below (below_app hg h.ext.size fun a ha => (OwnL.lt h.v a ha).1)
  tab := h.tab.below (below_app hg h.ext.size fun a ha => (OwnL.lt h.v a ha).1)
  k := kept_off h.k hg h.vk
  v := ho
  l := kept_off h.l hg h.vl
  s := ⟨by simp [h.s.1], fun i q xs hq hx => by
    by_cases hi : i < vs.length
    · rw [List.getElem?_append_left hi] at hq
      rw [List.getElem?_append_left (by rw [← h.s.1]; exact hi)] at hx
      obtain ⟨h1, h2⟩ := h.s.2 i q xs hq hx
      exact ⟨h1, (h2.grown (Nat.le_refl _) hg (h.ov q (List.mem_of_getElem? hq))).more hg.size⟩
    · rw [List.getElem?_append_right (by omega)] at hq
      rw [List.getElem?_append_right (by rw [← h.s.1]; omega), ← h.s.1] at hx
      have hi0 : i - vs.length = 0 := by have := getq_lt hq; simpa using this
      rw [hi0] at hq hx
      simp at hq hx
      subst hq hx
      exact ⟨rfl, (hp.t.grown (Nat.le_refl _) hg hp.ov).more hg.size⟩⟩
  b := fun q hq a ha => by
    rcases List.mem_append.1 hq with hq | hq
    · exact Nat.lt_of_lt_of_le (h.b q hq a ha) hg.size
    · rw [List.mem_singleton.1 hq] at ha
      exact Nat.lt_of_lt_of_le (hp.b a ha) hg.size
  vl := h.vl.app hA fun x hx => (OwnL.lt h.l x hx).2
  vk := h.vk.app hA fun x hx => (OwnL.lt h.k x hx).2
  lk := h.lk
  ov := fun q hq => by
    rcases List.mem_append.1 hq with hq | hq
    · exact (h.ov q hq).app hA (h.b q hq)
    · rw [List.mem_singleton.1 hq]
      exact hp.ov.app hA hp.b
  ol := fun q hq => by
    rcases List.mem_append.1 hq with hq | hq
    · exact h.ol q hq
    · rw [List.mem_singleton.1 hq]
      exact hp.ol

theorem StP.appL (h : StP w0 A0 T K ck kl V cv vs ps L cl ls w) (hg : w.grownBy w' ((Value.slice L ls.length cl).ownBlock)) (ho : OwnT w' w0.heap.size L' cl' (ls ++ [s]))
    (hA : (Value.slice L' n' cl').ownBlock = (Value.slice L ls.length cl).ownBlock ∨ (Value.slice L' n' cl').ownBlock = some w.heap.size) : StP w0 A0 T K ck kl V cv vs ps L' cl' (ls ++ [s]) w' where
  ext := ext_app h.ext hg fun k hk => (OwnL.block h.l k hk).1
  t := h.t.below (below_app hg h.ext.size fun a ha => (OwnL.lt h.l a ha).1)
  tab := h.tab.below (below_app hg h.ext.size fun a ha => (OwnL.lt h.l a ha).1)
  k := kept_off h.k hg h.lk
  v := kept_off h.v hg h.vl.symm
  l := ho
  s := ⟨h.s.1, fun i q xs hq hx => ⟨(h.s.2 i q xs hq hx).1, ((h.s.2 i q xs hq hx).2.grown (Nat.le_refl _) hg (h.ol q (List.mem_of_getElem? hq))).more hg.size⟩⟩
  b := fun q hq a ha => Nat.lt_of_lt_of_le (h.b q hq a ha) hg.size
  vl := (h.vl.symm.app hA fun x hx => (OwnL.lt h.v x hx).2).symm
  vk := h.vk
  lk := h.lk.app hA fun x hx => (OwnL.lt h.k x hx).2
  ov := h.ov
  ol := fun q hq => (h.ol q hq).app hA (h.b q hq)
end
end Go.Proofs.YtblfeokjlecgkaaDoor
