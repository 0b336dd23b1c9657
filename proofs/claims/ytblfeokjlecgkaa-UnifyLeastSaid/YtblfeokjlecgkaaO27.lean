/- Laid together by a tool from the texts of this seat: UTree UReg. Conditions: each theorem's own. -/
import Derived.Test.YtblfeokjlecgkaaO16
import Derived.Test.YtblfeokjlecgkaaO13
import Derived.Test.YtblfeokjlecgkaaO22
/- unify.tree, walked: a type's tree is laid out in memory. -/
namespace Go.Proofs.Ytblfeokjlecgkaa
open Go.RowKit

attribute [local go_sem ↓] Go.wp_at_zero Go.wp_at_succ

section
variable {X : Nat → Prop} {g o n n' cb cb' : Nat} {A B B' : Option Addr} {W w2 : World} {K : Option Addr} {kl : List Int}
theorem lies_two {Z : Nat → Prop} (h : Lies (fun x => Z x ∨ ∃ a, B = some a ∧ a.block = x) 1 encI W K kl) (hZ : Z g) (hg : W.grownBy w2 ((Value.slice B n cb).ownBlock))
    (hA : (Value.slice B' n' cb').ownBlock = (Value.slice B n cb).ownBlock ∨ (Value.slice B' n' cb').ownBlock = some W.heap.size) (v : Value) : Lies (fun x => Z x ∨ ∃ a, B' = some a ∧ a.block = x) 1 encI (w2.setCell ⟨g, o, none⟩ v) K kl := by
  have hb : ∀ a, B' = some a → (∃ a2, B = some a2 ∧ a2.block = a.block) ∨ a.block = W.heap.size := by
    rintro a rfl
    rcases hA with e | e
    · exact .inl (ownBlock_of e.symm)
    · rw [own_block_some] at e
      injection e with e
      exact .inr e
  have h1 : Lies (fun x => (Z x ∨ ∃ a, B = some a ∧ a.block = x) ∨ ∃ a, B' = some a ∧ a.block = x) 1 encI W K kl := h.more fun k hk hx => by
    rcases hx with hx | ⟨a, ha, rfl⟩
    · exact hx
    · rcases hb a ha with e | e
      · exact .inr e
      · omega
  have h2 := h1.fr (Fr.grown (X := fun x => (Value.slice B n cb).ownBlock = some x) hg fun k hk => hk) fun k _ hk => by
    obtain ⟨a, h3, h4⟩ := ownBlock_of hk
    exact .inl (.inr ⟨a, h3, h4⟩)
  have h3 := h2.fr ((Fr.refl (fun x => x = g) w2).setCell (p := ⟨g, o, none⟩) (.inl rfl) v) fun k _ hk => by
    subst hk
    exact .inl (.inl hZ)
  exact h3.more fun k _ hx => by
    rcases hx with hx | hx
    · exact .inl (.inl hx)
    · exact .inr hx
theorem liesX_B (h : Lies (KidX X g A B) 1 encI W K kl) (hg : W.grownBy w2 ((Value.slice B n cb).ownBlock))
    (hA : (Value.slice B' n' cb').ownBlock = (Value.slice B n cb).ownBlock ∨ (Value.slice B' n' cb').ownBlock = some W.heap.size) (v : Value) : Lies (KidX X g A B') 1 encI (w2.setCell ⟨g, o, none⟩ v) K kl := by
  have h1 : Lies (fun x => (X x ∨ x = g ∨ ∃ a, A = some a ∧ a.block = x) ∨ ∃ a, B = some a ∧ a.block = x) 1 encI W K kl := h.more fun k _ hx => by
    rcases hx with (hx | hx | hx) | hx
    · exact .inl hx
    · exact .inr (.inl hx)
    · exact .inr (.inr (.inl hx))
    · exact .inr (.inr (.inr hx))
  exact (lies_two (o := o) h1 (.inr (.inl rfl)) hg hA v).more fun k _ hx => by
    rcases hx with hx | hx | hx | hx
    · exact .inl (.inl hx)
    · exact .inl (.inr (.inl hx))
    · exact .inl (.inr (.inr hx))
    · exact .inr hx
theorem liesX_A {A' : Option Addr} (h : Lies (KidX X g A B) 1 encI W K kl) (hg : W.grownBy w2 ((Value.slice A n cb).ownBlock))
    (hA : (Value.slice A' n' cb').ownBlock = (Value.slice A n cb).ownBlock ∨ (Value.slice A' n' cb').ownBlock = some W.heap.size) (v : Value) : Lies (KidX X g A' B) 1 encI (w2.setCell ⟨g, o, none⟩ v) K kl := by
  have h1 : Lies (fun x => (X x ∨ x = g ∨ ∃ a, B = some a ∧ a.block = x) ∨ ∃ a, A = some a ∧ a.block = x) 1 encI W K kl := h.more fun k _ hx => by
    rcases hx with (hx | hx | hx) | hx
    · exact .inl hx
    · exact .inr (.inl hx)
    · exact .inr (.inr (.inr hx))
    · exact .inr (.inr (.inl hx))
  exact (lies_two (o := o) h1 (.inr (.inl rfl)) hg hA v).more fun k _ hx => by
    rcases hx with hx | hx | hx | hx
    · exact .inl (.inl hx)
    · exact .inl (.inr (.inl hx))
    · exact .inr hx
    · exact .inl (.inr (.inr hx))
theorem Lies.cellI (h : Lies X 1 encI W K kl) {i : Nat} {c : Int} (hc : kl[i]? = some c) : ∃ bb oo, K = some ⟨bb, oo, none⟩ ∧ ¬ X bb ∧ bb < W.heap.size ∧ W.cell? ⟨bb, oo + i, none⟩ = some (.int .i64 c) := by
  obtain ⟨bb, oo, e, h1, h2, hr⟩ := h (by rintro rfl; simp at hc)
  refine ⟨bb, oo, e, h1, h2, ?_⟩
  have := hr i c hc 0 _ rfl
  simpa using this
end

/-- A right tree, or a tail. -/
def SubT (ts : List Nd) : Prop := GdT ts ∨ ∃ n, 0 ≤ n ∧ ts = [⟨9, ByteArray.empty, n⟩]
theorem GdT.okAll {ts : List Nd} (h : GdT ts) : okAll ts := by
  induction h with
  | mk x tss ok k9 tr ch row els tl ih =>
    intro y hy
    rcases List.mem_cons.1 hy with rfl | hy
    · exact ok
    · obtain ⟨t, ht, hy⟩ := List.mem_flatten.1 hy
      rw [← lOf_tOf tss] at ht
      rcases List.mem_append.1 ht with ht | ht
      · exact ih t ht y hy
      · obtain ⟨n, h0, rfl⟩ := tl t ht
        simp at hy
        subst hy
        simp [okNode, h0]
theorem GdT.fo1 {ts : List Nd} (h : GdT ts) : Fo 1 ts := by
  cases h with
  | mk x tss ok k9 tr ch row els tl =>
    have := Fo.cons (n := 0) tr.fo Fo.zero
    simpa using this
theorem GdT.head9 {ts : List Nd} (h : GdT ts) : (headNd ts).k ≠ 9 := by
  cases h with
  | mk x tss ok k9 tr ch row els tl => exact k9
theorem SubT.okAll {ts : List Nd} (h : SubT ts) : Proofs.Ytblfeokjlecgkaa.okAll ts := by
  rcases h with h | ⟨n, h0, rfl⟩
  · exact h.okAll
  · intro y hy; simp at hy; subst hy; simp [okNode, h0]
theorem SubT.fo {ts : List Nd} (h : SubT ts) : Fo 1 ts := by
  rcases h with h | ⟨n, h0, rfl⟩
  · exact h.fo1
  · rfl

theorem kidsGo_at {T : List Nd} : ∀ (tss : List (List Nd)) (at_ : Nat) (rest : List Nd), T.drop at_ = tss.flatten ++ rest → (∀ z ∈ tss, Fo 1 z ∧ okAll z) →
    (kidsGo T tss.length at_).length = tss.length ∧ ∀ (j : Nat) (ts : List Nd), tss[j]? = some ts → ∃ p r2, (kidsGo T tss.length at_)[j]? = some p ∧ T.drop p = ts ++ r2
  | [], _, _, _, _ => ⟨rfl, fun j ts h => by simp at h⟩
  | z :: zs, at_, rest, hd, h1 => by
    rw [List.flatten_cons, List.append_assoc] at hd
    obtain ⟨hz1, hz2⟩ := h1 z (by simp)
    have hlt := drop_lt hd hz1.pos
    obtain ⟨i1, i2⟩ := kidsGo_at zs (at_ + z.length) rest (drop_more hd) fun y hy => h1 y (by simp [hy])
    rw [List.length_cons, kidsGo_step hlt, endGo_one hd hz2 hz1]
    refine ⟨by rw [List.length_cons, i1], fun j ts h => ?_⟩
    cases j with
    | zero =>
      simp at h
      subst h
      exact ⟨at_, _, rfl, hd⟩
    | succ j =>
      obtain ⟨p, r2, e1, e2⟩ := i2 j ts (by simpa using h)
      exact ⟨p, r2, by simpa using e1, e2⟩

/-- A type's tree in memory; a tail's node. -/
def TreeAt (X : Nat → Prop) (w : World) (g : Nat) (ts : List Nd) : Prop := (GdT ts → NodeAt X w g (utT ts)) ∧ ∀ n, ts = [⟨9, ByteArray.empty, n⟩] → TailAt X w (pk g) (some n)
/-- What 'tree' answers. -/
def TreePost (X : Nat → Prop) (ts : List Nd) (w : World) (e : Ending) (w' : World) : Prop := ∃ g, e = .returned (pk g) ∧ TreeAt X w' g ts ∧ Below w.heap.size w w' ∧ w.heap.size ≤ g

/-- What 'tree' is asked. -/
def TreeAsk (ts : List Nd) : Prop := ∀ (X : Nat → Prop) (T rest : List Nd) (i : Nat) (A : Option Addr) (c : Nat) (w : World), TyA w w.heap.size A T → T.length ≤ 1000000 → T.drop i = ts ++ rest → (∀ k, X k → k < w.heap.size) →
  Calls Try.prog 58 #[.slice A T.length c, .int .i64 (i : Int)] w (TreePost X ts w)

theorem TyA.cells {w : World} {B b1 o1 : Nat} {xs : List Nd} (h : TyA w B (some ⟨b1, o1, none⟩) xs) {i : Nat} {x : Nd} (hx : xs[i]? = some x) :
    b1 < B ∧ w.cell? ⟨b1, o1 + i * 3, none⟩ = some (.int .i64 x.k) ∧ w.cell? ⟨b1, o1 + i * 3 + 1, none⟩ = some (.string x.s) ∧ w.cell? ⟨b1, o1 + i * 3 + 2, none⟩ = some (.int .i64 x.n) := by
  obtain ⟨b, o, e, h1, h2, h3, h4⟩ := h.at_ hx
  injection e with e
  injection e with e1 e2
  subst e1 e2
  exact ⟨h1, h2, h3, h4⟩
theorem sub_cases {tss : List (List Nd)} (lof : ∀ ts ∈ lOf tss, GdT ts) {j : Nat} {ts : List Nd} (h : tss[j]? = some ts) (tof : ∀ ts ∈ tOf tss, ∃ n, 0 ≤ n ∧ ts = [⟨9, ByteArray.empty, n⟩]) :
    ((lOf tss)[j]? = some ts ∧ GdT ts ∧ ((headNd ts).k == 9) = false) ∨ (j = (lOf tss).length ∧ tOf tss = [ts] ∧ ((headNd ts).k == 9) = true ∧ tss.length = j + 1) := by
  have e := lOf_tOf tss
  rcases Nat.lt_or_ge j (lOf tss).length with hj | hj
  · left
    have h1 : (lOf tss)[j]? = some ts := by
      rw [← e, List.getElem?_append_left hj] at h
      exact h
    have hg := lof ts (List.mem_of_getElem? h1)
    refine ⟨h1, hg, ?_⟩
    cases hg with
    | mk x tss ok k9 => simpa [headNd] using k9
  · right
    have hlt := getq_lt h
    have h2 := lt_len tss
    rcases tOf_one tss with e1 | ⟨t, e1⟩
    · rw [e1] at h2; simp at h2; omega
    · rw [e1] at h2
      simp at h2
      have hj2 : j = (lOf tss).length := by omega
      rw [← e, List.getElem?_append_right hj, e1, hj2, Nat.sub_self] at h
      simp at h
      subst h
      obtain ⟨n, _, ht⟩ := tof t (by rw [e1]; simp)
      exact ⟨hj2, e1, by rw [ht]; rfl, by omega⟩

/-- Where the children's loop stands. -/
structure TreeL (X : Nat → Prop) (x : Nd) (tss : List (List Nd)) (K : Option Addr) (kl : List Int) (w : World) (j : Nat) (A2 : Option Addr) (ca : Nat) (ls : List ByteArray) (B2 : Option Addr) (cb : Nat) (bs : List Nat) (tv : Option Addr) (wr : World) : Prop where
  nm : NodeM w.heap.size w.heap.size x.k (if isVarB x.k = true then x.n else 0) A2 ca ls B2 cb bs (.pointer tv) wr
  ls : ls = labsT ((lOf tss).take j)
  bl : bs.length = min j (lOf tss).length
  ch : ∀ (i : Nat) (c : Nat) (ts : List Nd), bs[i]? = some c → (lOf tss)[i]? = some ts → NodeAt (KidX X w.heap.size A2 B2) wr c (utT ts)
  t0 : j ≤ (lOf tss).length → tv = none
  t1 : (lOf tss).length < j → TailAt (KidX X w.heap.size A2 B2) wr (.pointer tv) (tlU tss)
  kk : Lies (KidX X w.heap.size A2 B2) 1 encI wr K kl
  be : Below w.heap.size w wr
  z : j = 0 → A2 = none ∧ ca = 0 ∧ B2 = none ∧ cb = 0

/-- A label more, its child still to come. -/
structure TreeC (X : Nat → Prop) (x : Nd) (tss : List (List Nd)) (K : Option Addr) (kl : List Int) (w : World) (A2 : Option Addr) (ca : Nat) (ls : List ByteArray) (B2 : Option Addr) (cb : Nat) (bs : List Nat) (tv : Option Addr) (wr : World) : Prop where
  nm : NodeM w.heap.size w.heap.size x.k (if isVarB x.k = true then x.n else 0) A2 ca ls B2 cb bs (.pointer tv) wr
  ch : ∀ (i : Nat) (c : Nat) (ts : List Nd), bs[i]? = some c → (lOf tss)[i]? = some ts → NodeAt (KidX X w.heap.size A2 B2) wr c (utT ts)
  kk : Lies (KidX X w.heap.size A2 B2) 1 encI wr K kl
  be : Below w.heap.size w wr
theorem NodeM.setTail {base g : Nat} {k n : Int} {tv : Value} {A B : Option Addr} {ca cb : Nat} {ls : List ByteArray} {bs : List Nat} {w : World} (h : NodeM base g k n A ca ls B cb bs tv w) (v : Value) : NodeM base g k n A ca ls B cb bs v (w.setCell ⟨g, 4, none⟩ v) :=
  ⟨h.nk.setTail v, h.la.kept (setCell_grown w ⟨g, 4, none⟩ _) (fun q hq a ha => by injection hq with hq; subst hq; exact h.ga a ha), h.ga, h.ab⟩

set_option maxRecDepth 100000 in
set_option maxHeartbeats 8000000 in
theorem tree_node (x : Nd) (tss : List (List Nd)) (ok : okNode x.k x.n = true) (tr : Trees (manyN x) tss.flatten tss) (sub : ∀ ts ∈ tss, SubT ts) (lof : ∀ ts ∈ lOf tss, GdT ts) (tof : ∀ ts ∈ tOf tss, ∃ n, 0 ≤ n ∧ ts = [⟨9, ByteArray.empty, n⟩]) (ih : ∀ ts ∈ tss, TreeAsk ts)
    (X : Nat → Prop) (T rest : List Nd) (i : Nat) (A : Option Addr) (c : Nat) (w : World) (ha : TyA w w.heap.size A T) (hl : T.length ≤ 1000000) (hd : T.drop i = (x :: tss.flatten) ++ rest) (hX : ∀ k, X k → k < w.heap.size) :
    Calls Try.prog 58 #[.slice A T.length c, .int .i64 (i : Int)] w fun e w' => e = .returned (pk w.heap.size) ∧ ∃ K kl A2 ca ls B2 cb bs tv, TreeL X x tss K kl w tss.length A2 ca ls B2 cb bs tv w' := by
  have hx : T[i]? = some x := by
    have := congrArg (·[0]?) hd
    simpa using this
  have hd1 : T.drop (i + 1) = tss.flatten ++ rest := by
    rw [← List.drop_drop, hd]
    rfl
  have hi := getq_lt hx
  obtain ⟨b1, o1, rfl, hb1, c10, c11, c12⟩ := ha.at_ hx
  have hm50 : tss.length ≤ 50 := by rw [tr.len]; exact manyN_le ok
  have hokA : okAll tss.flatten := fun y hy => by
    obtain ⟨t, ht, hy⟩ := List.mem_flatten.1 hy
    exact (sub t ht).okAll y hy
  have hV : Hid (isVarB x.k = true → tss.length = 0) := Lib.hid fun h => by
    have h89 : x.k = 8 ∨ x.k = 9 := by simpa [isVarB] using h
    rw [tr.len]
    unfold manyN many
    rw [if_neg (by omega)]
    have : isRowB x.k = false := by
      rcases h89 with e | e <;> rw [e] <;> rfl
    rw [this]
    rfl
  have HKids := Lib.hid fun W (hW : Below w.heap.size w W) => pKids_any (some ⟨b1, o1, none⟩) c T tss.flatten rest x i W ((ha.below hW).more hW.size) hl hx ok hd1 hokA tr.fo
  obtain ⟨q1, q2⟩ := kidsGo_at tss (i + 1) rest hd1 fun z hz => ⟨(sub z hz).fo, (sub z hz).okAll⟩
  rw [tr.len] at q1 q2
  have HQ := Lib.hid (And.intro q1 q2)
  have HA := Lib.hid ha
  have HX := Lib.hid hX
  have HF := Lib.hid (And.intro lof tof)
  have HI := Lib.hid ih
  have Hx := Lib.hid hx
  clear ok sub lof tof ih ha hd hd1 hX hx q1 q2 hokA
  have h0' : (0 : Int) ≤ (i : Int) := by omega
  have h1' : (i : Int) < (T.length : Int) := by omega
  unfold pk
  go_enter Try.func58, Try.ntmps58
  have hk3 : ((x.k == 8) = true ∧ isVarB x.k = true) ∨ ((x.k == 8) = false ∧ (x.k == 9) = true ∧ isVarB x.k = true) ∨ ((x.k == 8) = false ∧ (x.k == 9) = false ∧ isVarB x.k = false) := by
    unfold isVarB
    cases (x.k == 8) <;> cases (x.k == 9) <;> simp
  have M0 := Lib.hid (NodeM.start w x.k 0 (.pointer none) w.heap.size (Nat.le_refl _))
  have B0 := Lib.hid ((Below.refl w.heap.size w).alloc (Nat.le_refl _) (.cells #[.int .i64 x.k, .int .i64 0, .slice none 0 0, .slice none 0 0, .pointer none] 105))
  have M1 := Lib.hid (NodeM.start w x.k x.n (.pointer none) w.heap.size (Nat.le_refl _))
  have B1 := Lib.hid ((Below.refl w.heap.size w).alloc (Nat.le_refl _) (.cells #[.int .i64 x.k, .int .i64 x.n, .slice none 0 0, .slice none 0 0, .pointer none] 105))
  go_upto_region 2 with fail
  rcases hk3 with ⟨e1, ev⟩ | ⟨e1, e2, ev⟩ | ⟨e1, e2, ev⟩
  all_goals
    have EV := Lib.hid ev
    clear ev
    go_wp2_with fail
    refine (HKids.out _ ?_).mono ?_
    · first | exact B0.out | exact B1.out
    rintro e w2 ⟨K, ck, rfl, hown, hb⟩
    have MM : Hid (NodeM w.heap.size w.heap.size x.k (if isVarB x.k = true then x.n else 0) none 0 [] none 0 [] (.pointer none) w2 ∧ Below w.heap.size w w2 ∧ Lies (KidX X w.heap.size none none) 1 encI w2 K (asI (kidsGo T (manyN x) (i + 1)))) := Lib.hid (by
      have hf := Fr.below (X := fun _ => False) hb
      refine ⟨?_, ?_, ?_⟩
      · first
          | (rw [if_pos EV.out]; exact M1.out.step hf (fun _ e => e.elim))
          | (rw [if_neg (by rw [EV.out]; simp)]; exact M0.out.step hf (fun _ e => e.elim))
      · first | exact ext_trans B0.out hb | exact ext_trans B1.out hb
      · refine Lies.of_own (fun _ => rfl) hown fun k h1 _ hk => ?_
        simp at h1
        rcases hk with hk | hk | ⟨a, hk, _⟩ | ⟨a, hk, _⟩
        · have := HX.out k hk; omega
        · omega
        · cases hk
        · cases hk)
    clear hown hb M0 B0 M1 B1 HKids
    have hkl : (asI (kidsGo T (manyN x) (i + 1))).length = tss.length := by rw [asI, List.length_map, HQ.out.1, tr.len]
    obtain ⟨kl, hkl0⟩ : ∃ kl, kl = asI (kidsGo T (manyN x) (i + 1)) := ⟨_, rfl⟩
    rw [← hkl0] at hkl MM ⊢
    have HKL := Lib.hid (fun (j p : Nat) (h : (kidsGo T (manyN x) (i + 1))[j]? = some p) => (show kl[j]? = some (p : Int) by rw [hkl0, asI, List.getElem?_map, h]; rfl))
    clear hkl0
    rw [hkl]
    clear hkl
    generalize hN0 : (if isVarB x.k = true then x.n else 0) = N0 at *
    have lt2 := lt_len tss
    have HLT := Lib.hid lt2
    go_wp2_with fail
    go_loopw [39] (fun s39 wr => ∃ (j : Nat) (A2 : Option Addr) (ca : Nat) (ls : List ByteArray) (B2 : Option Addr) (cb : Nat) (bs : List Nat) (tv : Option Addr), s39 = .int .i64 j ∧ j ≤ tss.length ∧ Hid (TreeL X x tss K kl w j A2 ca ls B2 cb bs tv wr)) (fun s39 _ => tss.length - (intOf s39).toNat)
    case atStart => exact ⟨0, none, 0, [], none, 0, [], none, rfl, Nat.zero_le _, Lib.hid ⟨by rw [hN0]; exact MM.out.1, by simp [labsT], by simp, fun i c ts h => (by simp at h), fun _ => rfl, fun h => (by omega), MM.out.2.2, MM.out.2.1, fun _ => ⟨rfl, rfl, rfl, rfl⟩⟩⟩
    case round =>
      obtain ⟨j, A2, ca, ls, B2, cb, bs, tv, rfl, hj, M⟩ := hrel
      by_cases hp : j < tss.length
      · first
          | exact absurd hp (by rw [hV.out EV.out]; omega)
          | (obtain ⟨ts, hts⟩ := getq_ex hp
             obtain ⟨p, r2, hkp, hdp⟩ := HQ.out.2 j ts hts
             have hkl := HKL.out j p hkp
             obtain ⟨bb, oo, rfl, _, _, cc⟩ := M.out.kk.cellI hkl
             have hcs := sub_cases HF.out.1 hts HF.out.2
             have hsub : SubT ts := by
               rcases hcs with ⟨_, h, _⟩ | ⟨_, h, _⟩
               · exact .inl h
               · exact .inr (HF.out.2 ts (by rw [h]; simp))
             have hpos := hsub.fo.pos
             have hyp : T[p]? = some (headNd ts) := by
               have := congrArg (·[0]?) hdp
               simp only [List.getElem?_drop, Nat.add_zero] at this
               rw [this]
               cases ts with
               | nil => simp at hpos
               | cons y ys => rfl
             have hpT := getq_lt hyp
             obtain ⟨_, k0, k1, k2⟩ := HA.out.cells hyp
             have d0 := (M.out.be.cell (p := ⟨b1, o1 + p * 3, none⟩) hb1).trans k0
             have d1 := (M.out.be.cell (p := ⟨b1, o1 + p * 3 + 1, none⟩) hb1).trans k1
             have hp0 : (0 : Int) ≤ (p : Int) := by omega
             have hp1 : (p : Int) < (T.length : Int) := by omega
             have hgl : w.heap.size < wr.heap.size := (Array.getElem?_eq_some_iff.1 M.out.nm.nk.blk).1
             have hKX : Hid (∀ k, KidX X w.heap.size A2 B2 k → k < wr.heap.size) := Lib.hid fun k hk => by
               have hz := M.out.be.size
               rcases hk with hk | hk | ⟨a, ha, hk⟩ | ⟨a, ha, hk⟩
               · have := HX.out k hk; omega
               · omega
               · have := M.out.nm.la.block a.block (by rw [ha]; exact own_block_some); omega
               · have := M.out.nm.nk.kb.block a.block (by rw [ha]; exact own_block_some); omega
             have G := Lib.hid (And.intro hts (And.intro hdp hsub))
             clear hkp hdp hkl k0 k1 k2 hyp hsub hpos hts
             have hcall : Hid (∀ (W : World) (Z : Nat → Prop), Below w.heap.size w W → (∀ k, Z k → k < W.heap.size) → Calls Try.prog 58 #[.slice (some ⟨b1, o1, none⟩) T.length c, .int .i64 (p : Int)] W (TreePost Z ts W)) := Lib.hid fun W Z hW hZ => HI.out ts (List.mem_of_getElem? G.out.1) Z T r2 p (some ⟨b1, o1, none⟩) c W ((HA.out.below hW).more hW.size) hl G.out.2.1 hZ
             rcases hcs with ⟨hlo, hg, h9⟩ | ⟨hjl, hto, h9, hlen⟩
             · have HLO := Lib.hid (And.intro hlo hg)
               have htv : tv = none := M.out.t0 (by have := getq_lt hlo; omega)
               subst htv
               have hlo8 := getq_lt hlo
               have hbe : Hid (bs.length = j) := Lib.hid (by rw [M.out.bl]; omega)
               have hbl : bs.length ≤ 100 := by rw [hbe.out]; omega
               have hll : ls.length ≤ 100 := by rw [M.out.ls, labsT_length, List.length_take]; omega
               obtain ⟨_, _, g2, _, _, f2, _, _⟩ := M.out.nm.nk.cells
               clear hlo hg
               go_wp2_with fail
               go_cut [] (fun wx => ∃ (A3 : Option Addr) (ca3 : Nat), Hid (TreeC X x tss (some ⟨bb, oo, none⟩) kl w A3 ca3 (ls ++ [(headNd ts).s]) B2 cb bs none wx))
               case first =>
                 go_region_law
                   (first
                     | (refine step_appL (by rfl) _ _ (by rfl) w.heap.size (l := ls) (by rfl) (M.out.nm.step (Fr.below (X := fun _ => False) (by first | exact (ext_alloc (Below.refl _ _) _).drew | exact ext_alloc (Below.refl _ _).drew _ | exact ext_alloc (Below.refl _ _) _)) (fun _ e => e.elim)).la (l2 := [(headNd ts).s]) (A2 := some ⟨wr.heap.size, 0, none⟩) (c := 1) (B := wr.heap.size + 1) (by rfl) (readL_new _ _ _ _ rfl) (by simp; omega) (by simp; omega) ?_; intro A3 ca3 w2 hown2 hg2 hA2; have M6 := Lib.hid (NodeM.pushL (M.out.nm.step (Fr.below (X := fun _ => False) (by first | exact (ext_alloc (Below.refl _ _) _).drew | exact ext_alloc (Below.refl _ _).drew _ | exact ext_alloc (Below.refl _ _) _)) (fun _ e => e.elim)) hown2 hg2 hA2); have e7 := NodeM.lab (M.out.nm.step (Fr.below (X := fun _ => False) (by first | exact (ext_alloc (Below.refl _ _) _).drew | exact ext_alloc (Below.refl _ _).drew _ | exact ext_alloc (Below.refl _ _) _)) (fun _ e => e.elim)) hg2; have e8 := e7.trans (Below.block (B := wr.heap.size) (w := wr) (by first | exact (ext_alloc (Below.refl _ _) _).drew | exact ext_alloc (Below.refl _ _).drew _ | exact ext_alloc (Below.refl _ _) _) w.heap.size hgl); have q5 := (World.cell?_of_block (a := ⟨w.heap.size, 2, none⟩) e8).trans g2; have q6 := (World.frozen?_of_block (a := ⟨w.heap.size, 2, none⟩) e8).trans f2; have KD := Lib.hid (fun (c : Nat) (t : Ut) (h : NodeAt (KidX X w.heap.size A2 B2) wr c t) => kidX_A (o := 2) (h.bel (by first | exact (ext_alloc (Below.refl _ _) _).drew | exact ext_alloc (Below.refl _ _).drew _ | exact ext_alloc (Below.refl _ _) _)) hg2 hA2 (.slice A3 (ls.length + 1) ca3)); have LD := Lib.hid (liesX_A (o := 2) (M.out.kk.fr (Fr.below (X := fun _ => False) (by first | exact (ext_alloc (Below.refl _ _) _).drew | exact ext_alloc (Below.refl _ _).drew _ | exact ext_alloc (Below.refl _ _) _)) (fun _ _ e => e.elim)) hg2 hA2 (.slice A3 (ls.length + 1) ca3)); have B6 := Lib.hid (ext_app (M.out.be.trans (Below.mono (by first | exact (ext_alloc (Below.refl _ _) _).drew | exact ext_alloc (Below.refl _ _).drew _ | exact ext_alloc (Below.refl _ _) _) (Nat.le_of_lt hgl))) hg2 (fun q hq => (M.out.nm.la.block q hq).1)); clear hown2 hg2 hA2 e7 e8))
                 all_goals
                   go_wp2_with fail
                   go_meet
                   exact ⟨A3, ca3, Lib.hid ⟨M6.out, fun i c ts h1 h2 => KD.out c _ (M.out.ch i c ts h1 h2), LD.out, B6.out.setCell (p := ⟨w.heap.size, 2, none⟩) (Nat.le_refl _) _⟩⟩
               case rest =>
                 obtain ⟨A3, ca3, C⟩ := hcut
                 clear g2 f2
                 have hgc : w.heap.size < wc.heap.size := (Array.getElem?_eq_some_iff.1 C.out.nm.nk.blk).1
                 have hcall2 : Hid (∀ W, Below wc.heap.size wc W → Calls Try.prog 58 #[.slice (some ⟨b1, o1, none⟩) T.length c, .int .i64 (p : Int)] W (fun e w' => ∃ g, e = .returned (.pointer (some ⟨g, 0, none⟩)) ∧ NodeAt (KidX X w.heap.size A3 B2) w' g (utT ts) ∧ Below wc.heap.size wc w')) := Lib.hid fun W hW => by
                   refine (hcall.out W (KidX X w.heap.size A3 B2) (ext_trans C.out.be hW) fun k hk => ?_).mono ?_
                   · have hz := C.out.be.size
                     have hz2 := hW.size
                     rcases hk with hk | hk | ⟨a, ha, hk⟩ | ⟨a, ha, hk⟩
                     · have := HX.out k hk; omega
                     · omega
                     · have := C.out.nm.la.block a.block (by rw [ha]; exact own_block_some); omega
                     · have := C.out.nm.nk.kb.block a.block (by rw [ha]; exact own_block_some); omega
                   · rintro e w' ⟨g, he, h1, h2, _⟩
                     exact ⟨g, he, h1.1 HLO.out.2, ext_trans hW h2⟩
                 obtain ⟨_, _, _, g3, _, _, f3, _⟩ := C.out.nm.nk.cells
                 go_wp2_with fail
                 go_region_law
                   (first
                     | (refine step_appB (by rfl) _ _ (by rfl) w.heap.size (l := bs) (by rfl) (M1.out.step (Fr.below (X := fun _ => False) (by first | exact (ext_alloc (Below.refl _ _) _).drew | exact ext_alloc (Below.refl _ _).drew _ | exact ext_alloc (Below.refl _ _) _)) (fun _ e => e.elim)).nk.kb (l2 := [g']) (A2 := some ⟨w1.heap.size, 0, none⟩) (c := 1) (B := w1.heap.size + 1) (by rfl) (readL_new _ g' _ _ rfl) (by simp; omega) (by simp; omega) ?_; intro B3 cb3 w2 hown2 hg2 hA2; have M7 := Lib.hid (NodeM.pushK (M1.out.step (Fr.below (X := fun _ => False) (by first | exact (ext_alloc (Below.refl _ _) _).drew | exact ext_alloc (Below.refl _ _).drew _ | exact ext_alloc (Below.refl _ _) _)) (fun _ e => e.elim)) hown2 hg2 hA2); have e7 := NodeM.kid (M1.out.step (Fr.below (X := fun _ => False) (by first | exact (ext_alloc (Below.refl _ _) _).drew | exact ext_alloc (Below.refl _ _).drew _ | exact ext_alloc (Below.refl _ _) _)) (fun _ e => e.elim)) hg2; have e8 := e7.trans (Below.block (B := w1.heap.size) (w := w1) (by first | exact (ext_alloc (Below.refl _ _) _).drew | exact ext_alloc (Below.refl _ _).drew _ | exact ext_alloc (Below.refl _ _) _) w.heap.size hwl1); have q5 := (World.cell?_of_block (a := ⟨w.heap.size, 3, none⟩) e8).trans g31; have q6 := (World.frozen?_of_block (a := ⟨w.heap.size, 3, none⟩) e8).trans f31; have KD := Lib.hid (fun (c : Nat) (t : Ut) (h : NodeAt (KidX X w.heap.size A3 B2) w1 c t) => kidX_B (o := 3) (h.bel (by first | exact (ext_alloc (Below.refl _ _) _).drew | exact ext_alloc (Below.refl _ _).drew _ | exact ext_alloc (Below.refl _ _) _)) hg2 hA2 (.slice B3 (bs.length + 1) cb3)); have LD := Lib.hid (liesX_B (o := 3) (L1.out.fr (Fr.below (X := fun _ => False) (by first | exact (ext_alloc (Below.refl _ _) _).drew | exact ext_alloc (Below.refl _ _).drew _ | exact ext_alloc (Below.refl _ _) _)) (fun _ _ e => e.elim)) hg2 hA2 (.slice B3 (bs.length + 1) cb3)); have B7 := Lib.hid (ext_app (BB1.out.trans (Below.mono (by first | exact (ext_alloc (Below.refl _ _) _).drew | exact ext_alloc (Below.refl _ _).drew _ | exact ext_alloc (Below.refl _ _) _) (Nat.le_of_lt hwl1))) hg2 (fun q hq => (M1.out.nk.kb.block q hq).1)); clear hown2 hg2 hA2 e7 e8)
                     | (go_simp; (with_reducible refine (hcall2.out _ ?_).mono ?_); (first | exact Below.refl _ _ | exact (Below.refl _ _).drew); rintro e w1 ⟨g', rfl, n1, b1'⟩; have M1 := Lib.hid (C.out.nm.step (Fr.below (X := fun _ => False) b1') (fun _ e => e.elim)); have L1 := Lib.hid (C.out.kk.fr (Fr.below (X := fun _ => False) b1') (fun _ _ e => e.elim)); have BB1 := Lib.hid (ext_trans C.out.be b1'); have N1 := Lib.hid (And.intro n1 b1'); obtain ⟨_, _, _, g31, _, _, f31, _⟩ := M1.out.nk.cells; have hwl1 : w.heap.size < w1.heap.size := Nat.lt_of_lt_of_le hgc b1'.size; clear n1 b1'; dsimp only))
                 all_goals
                   go_wp2_with fail
                   go_roundw
                   case rel =>
                     refine ⟨j + 1, A3, ca3, ls ++ [(headNd ts).s], B3, cb3, bs ++ [g'], none, by go_num, hp, Lib.hid ⟨M7.out, ?_, ?_, ?_, fun _ => rfl, fun h => (by omega), LD.out, B7.out.setCell (p := ⟨w.heap.size, 3, none⟩) (Nat.le_refl _) _, fun h => (by omega)⟩⟩
                     · rw [M.out.ls, List.take_add_one, HLO.out.1]
                       simp [labsT]
                     · rw [List.length_append, hbe.out]
                       simp
                       omega
                     · intro i c' ts' h1 h2
                       refine KD.out c' _ ?_
                       rcases Nat.lt_or_ge i bs.length with hi | hi
                       · rw [List.getElem?_append_left hi] at h1
                         exact (C.out.ch i c' ts' h1 h2).bel N1.out.2
                       · have hi2 : i = bs.length := by
                           have := getq_lt h1
                           simp at this
                           omega
                         subst hi2
                         rw [List.getElem?_append_right (Nat.le_refl _), Nat.sub_self] at h1
                         simp only [List.getElem?_cons_zero, Option.some.injEq] at h1
                         subst h1
                         rw [hbe.out, HLO.out.1] at h2
                         injection h2 with h2
                         subst h2
                         exact N1.out.1
                   case measure => simp [intOf]; omega
             · have HLO := Lib.hid (And.intro hjl (And.intro hto hlen))
               obtain ⟨nq, hn0, htn⟩ := HF.out.2 ts (by rw [hto]; simp)
               have htv : tv = none := M.out.t0 (by omega)
               subst htv
               have HTN := Lib.hid htn
               obtain ⟨_, _, _, _, _, _, _, f4⟩ := M.out.nm.nk.cells
               clear hjl hto htn hlen
               go_wp2_with fail
               refine (hcall.out wr (KidX X w.heap.size A2 B2) M.out.be hKX.out).mono ?_
               rintro e w4 ⟨g', rfl, tr4, b4, _⟩
               have T4 := Lib.hid (And.intro (tr4.2 nq HTN.out) b4)
               have M4 := Lib.hid (M.out.nm.step (Fr.below (X := fun _ => False) b4) (fun _ e => e.elim))
               obtain ⟨_, _, _, _, _, _, _, f5⟩ := M4.out.nk.cells
               have q4 : w4.cell? ⟨w.heap.size, 4, none⟩ = some (.pointer none) := by simp [World.cell?, M4.out.nk.blk]
               have hgl4 : w.heap.size < w4.heap.size := Nat.lt_of_lt_of_le hgl b4.size
               clear tr4 b4 f4
               unfold pk
               go_wp2_with fail
               go_roundw
               case rel =>
                 have hset : Fr (fun q => q = w.heap.size) w4 (w4.setCell ⟨w.heap.size, 4, none⟩ (.pointer (some ⟨g', 0, none⟩))) := (Fr.refl (fun q => q = w.heap.size) w4).setCell (p := ⟨w.heap.size, 4, none⟩) (.inl rfl) _
                 have hKg : ∀ k, k < w4.heap.size → k = w.heap.size → KidX X w.heap.size A2 B2 k := fun k _ e => .inr (.inl e)
                 refine ⟨j + 1, A2, ca, ls, B2, cb, bs, some ⟨g', 0, none⟩, by go_num, hp, Lib.hid ⟨M4.out.setTail _, ?_, ?_, ?_, fun h => ?_, fun _ => ?_, ?_, ?_, fun h => (by omega)⟩⟩
                 · rw [M.out.ls, List.take_of_length_le (by have := HLO.out.1; omega), List.take_of_length_le (by have := HLO.out.1; omega)]
                 · have h1 := M.out.bl
                   have h2 := HLO.out.1
                   omega
                 · intro i c' ts' h1 h2
                   exact ((M.out.ch i c' ts' h1 h2).bel T4.out.2).fr hset hKg
                 · have := HLO.out.1; omega
                 · have : tlU tss = some nq := by
                     unfold tlU
                     rw [HLO.out.2.1, HTN.out]
                     rfl
                   rw [this]
                   exact T4.out.1.fr hset hKg
                 · exact (M.out.kk.fr (Fr.below (X := fun _ => False) T4.out.2) (fun _ _ e => e.elim)).fr hset hKg
                 · exact (ext_trans M.out.be T4.out.2).setCell (p := ⟨w.heap.size, 4, none⟩) (Nat.le_refl _) _
               case measure => simp [intOf]; omega)
      · go_wp2_with fail
        go_ret
        have e : j = tss.length := by omega
        subst e
        exact ⟨rfl, _, _, A2, ca, ls, B2, cb, bs, tv, M.out⟩

theorem tree_any : ∀ (n : Nat) (ts : List Nd), ts.length ≤ n → SubT ts → TreeAsk ts := by
  intro n
  induction n with
  | zero =>
    intro ts hl h
    have := h.fo.pos
    omega
  | succ n ih =>
    intro ts hl h X T rest i A c w ha hT hd hX
    rcases h with h | ⟨q, h0, rfl⟩
    · cases h with
      | mk x tss ok k9 tr ch row els tl =>
        have hsub : ∀ t ∈ tss, SubT t := fun t ht => by
          rw [← lOf_tOf tss] at ht
          rcases List.mem_append.1 ht with ht | ht
          · exact .inl (ch t ht)
          · exact .inr (tl t ht)
        have hlen : ∀ t ∈ tss, t.length ≤ n := fun t ht => by
          have h1 := splitF_mem (manyN x) tss.flatten t (tr.uniq ▸ ht)
          simp only [List.length_cons] at hl
          omega
        refine (tree_node x tss ok tr hsub ch tl (fun t ht => ih t (hlen t ht) (hsub t ht)) X T rest i A c w ha hT hd hX).mono ?_
        rintro e w' ⟨he, K, kl, A2, ca, ls, B2, cb, bs, tv, M⟩
        refine ⟨w.heap.size, he, ⟨fun _ => ?_, fun n e => ?_⟩, M.be, Nat.le_refl _⟩
        · rw [utT_cons tr]
          have hq : ∀ q, w.heap.size ≤ q → q < w'.heap.size → ¬ X q := fun q hq _ hx => by have := hX q hx; omega
          have lt2 := lt_len tss
          have hnum : (if isVarB x.k = true then x.n else 0) = (if x.k = 8 then x.n else 0) := by
            unfold isVarB
            by_cases h8 : x.k = 8
            · simp [h8]
            · simp [h8, k9]
          have hls : ls = labsT (lOf tss) := by rw [M.ls, List.take_of_length_le (by omega)]
          have hbl : bs.length = (lOf tss).length := by rw [M.bl]; omega
          have hzl : (labsU x.k (lOf tss)).length = ((lOf tss).map utT).length := by
            unfold labsU
            split
            · next h5 =>
              have hr : isRowB x.k = false := by rw [h5]; rfl
              have hm : manyN x = 2 := by unfold manyN many; rw [if_pos h5]; rfl
              have h1 := tr.len
              have h2 := (els hr).1
              rw [lOf_eq h2, List.length_map, h1, hm]
              rfl
            · rw [labsT_length, List.length_map]
          have hblk := M.nm.nk.blk
          rw [hnum] at hblk
          refine .mk _ _ _ _ _ A2 B2 ls bs ca cb (.pointer tv) (hq _ (Nat.le_refl _) (Array.getElem?_eq_some_iff.1 hblk).1) hblk ?_ (fun hr => ?_) (Lies.of_own encL_len M.nm.la hq) (Lies.of_own encB_len M.nm.nk.kb hq) ?_ (fun j p c' h1 h2 => ?_) ?_
          · rw [hls, labsT_length, hbl]
          · rw [labsF_zip hzl, hls]
            unfold labsU
            rw [if_neg (by intro e; rw [e] at hr; cases hr)]
          · rw [hbl, List.length_zip, hzl, List.length_map, Nat.min_self]
          · rw [List.getElem?_zip_eq_some, List.getElem?_map] at h1
            cases ht : (lOf tss)[j]? with
            | none => rw [ht] at h1; simp at h1
            | some t =>
              rw [ht] at h1
              simp only [Option.map_some, Option.some.injEq] at h1
              rw [← h1.2]
              exact kidX_sub (M.ch j c' t h2 ht)
          · rcases tOf_one tss with e | ⟨t, e⟩
            · have h1 : tv = none := M.t0 (by rw [e] at lt2; simp at lt2; omega)
              rw [h1]
              have : tlU tss = none := by unfold tlU; rw [e]; rfl
              rw [this]
              rfl
            · exact (M.t1 (by rw [e] at lt2; simp at lt2; omega)).more fun _ _ hx => .inl hx
        · have : x :: tss.flatten = [⟨9, ByteArray.empty, n⟩] := e
          injection this with e1 _
          rw [e1] at k9
          exact absurd rfl k9
    · have tr : Trees (manyN ⟨9, ByteArray.empty, q⟩) ([] : List (List Nd)).flatten [] := ⟨rfl, rfl, fun ts hts => by cases hts⟩
      refine (tree_node ⟨9, ByteArray.empty, q⟩ [] (by simp [okNode, h0]) tr (fun t ht => by cases ht) (fun t ht => by simp [lOf, tailB] at ht) (fun t ht => by simp [tOf, tailB] at ht) (fun t ht => by cases ht) X T rest i A c w ha hT hd hX).mono ?_
      rintro e w' ⟨he, K, kl, A2, ca, ls, B2, cb, bs, tv, M⟩
      refine ⟨w.heap.size, he, ⟨fun hg => ?_, fun n e => ?_⟩, M.be, Nat.le_refl _⟩
      · exact absurd rfl hg.head9
      · injection e with e1 _
        injection e1 with _ _ e3
        subst e3
        refine ⟨w.heap.size, rfl, fun hx => by have := hX _ hx; omega, ?_⟩
        have hblk := M.nm.nk.blk
        obtain ⟨rfl, rfl, rfl, rfl⟩ := M.z rfl
        have e1 : bs = [] := List.eq_nil_of_length_eq_zero (by have := M.bl; simpa using this)
        have e2 : ls = [] := by rw [M.ls]; rfl
        obtain rfl : tv = none := M.t0 (Nat.zero_le _)
        subst e1 e2
        exact hblk
end Go.Proofs.Ytblfeokjlecgkaa

/- Operations of a region that draws, taken one by one, by hand. -/
namespace Go.Proofs.Ytblfeokjlecgkaa

section
variable {P : Program} {ops : Array Oper} {Q : Exit → Act → World → Prop} {md : Region.Mode} {S : World → Prop} {fuel : Nat} {listed : Array Bool} {a : Act} {w : World}
/-- An operation that is wanted, and yields; where its value goes is told. -/
theorem takeOn (i : Nat) (d : Option Tmp) {oi : Oper} {v : Value} (hi : ops[i]? = some oi) (hd : oi.dst = d) (hs : Region.noSelect ops = true) (hf : Region.free md ops listed i = true) (hr : (Region.ready md ops listed).contains i = true)
    (hQ : ∀ c a w, Q (.panic c) (a.put d v) w → Q (.panic c) a w) (hw : Region.wanted oi (yielded ops a.tmps) = true) (hy : ∀ w, S w → (execOp a.eval oi).run P w = .ok (.value v) w) (hS : S w)
    (h : wpAnyH P md ops Q S fuel (listed.setIfInBounds i true) (a.put d v) w) : wpAnyH P md ops Q S (fuel + 1) listed a w := by
  subst hd
  exact wpAnyH_take hi hs hf hr hQ (.inl ⟨hw, hy⟩) hS h
/-- One that is not wanted. -/
theorem takeOff (i : Nat) (d : Option Tmp) {oi : Oper} (hi : ops[i]? = some oi) (hd : oi.dst = d) (hs : Region.noSelect ops = true) (hf : Region.free md ops listed i = true) (hr : (Region.ready md ops listed).contains i = true)
    (hQ : ∀ c a w, Q (.panic c) (a.put d undef) w → Q (.panic c) a w) (hw : Region.wanted oi (yielded ops a.tmps) = false) (hS : S w)
    (h : wpAnyH P md ops Q S fuel (listed.setIfInBounds i true) (a.put d undef) w) : wpAnyH P md ops Q S (fuel + 1) listed a w := by
  subst hd
  exact wpAnyH_take hi hs hf hr hQ (.inr ⟨hw, rfl⟩) hS h
/-- A call of a function, alone in its turn. -/
theorem takeCall (i : Nat) (d : Option Tmp) {oi : Oper} {f : FuncId} {args : Array Value} {post : Ending → World → Prop} (hi : ops[i]? = some oi) (hd : oi.dst = d) (hr : Region.ready md ops listed = [i]) (hw : Region.wanted oi (yielded ops a.tmps) = true)
    (hop : (execOp a.eval oi).run P w = .ok (.enter f args) w) (hc : Calls P f args w post)
    (h : ∀ e w', post e w' → ∃ u, e = .returned u ∧ S w' ∧ wpAnyH P md ops Q S fuel (listed.setIfInBounds i true) (a.put d u) w') : wpAnyH P md ops Q S (fuel + 1) listed a w := by
  subst hd
  refine wpAnyH_all hr (by simp) fun j hj => ?_
  simp only [List.mem_singleton] at hj
  subst hj
  unfold wpOp
  rw [hi]
  simp only [hw, if_true]
  left
  unfold Oper.wp
  rw [hop]
  simp only [Oper.upon]
  refine hc.mono fun e w' he => ?_
  obtain ⟨u, rfl, h1, h2⟩ := h e w' he
  exact ⟨h1, h2⟩
end
end Go.Proofs.Ytblfeokjlecgkaa
