/- Put's row closure, walked. -/
import Derived.Test.YtblfeokjlecgkaaGreatJoined
import Derived.Test.YtblfeokjlecgkaaGreatPutP
import Derived.Deep.DeepCutAuto
import Derived.Deep.CutRange
import Derived.Deep.Upon
import Derived.StillTailTactics
import Derived.Deep.RegionHeld3
namespace Go.Proofs.YtblfeokjlecgkaaGreat
open Go.RowKit

/-- Nothing is appended. -/
theorem wpList_appNone {w : World} {ops : Array Oper} {rest : List Oper} {o : Oper} {a : Act} {Q : Exit → Act → World → Prop} (hgd : o.guard = none) (s x : Operand)
    (ho : o.op = .call { callee := .builtin .append, args := #[s, x], argTypes := #[24, 24] })
    {V : Option Addr} {n c : Nat} (hs : a.eval s = .slice V n c) (hle : n ≤ c) (hx : a.eval x = .slice none 0 0)
    (h : wpList Tryz.prog ops Q rest (a.put o.dst (.slice V n c)) w) : wpList Tryz.prog ops Q (o :: rest) a w := by
  obtain ⟨i0, hi, hz0, hz1, hz2⟩ := info_parts infoT
  refine wpList_plain hgd fun K hK => ?_
  have hrun : (Builtin.append_ #[24, 24] o.type #[.slice V n c, .slice none 0 0]).run Tryz.prog w = .ok (.slice V n c) w := by
    have ht := Tryz.underlying24
    cases V <;> simp [Builtin.append_, run_underlying ht, sizeOf, typeInfo, hi, Builtin.lenOf, Builtin.firstCells, hle, storeCells]
  unfold Oper.wp
  simp [execOp, ho, resolve, invoke, builtin, hs, hx, hrun, Result.andThen]
  exact hK _ _ h

theorem drewN_two (w : World) (a b : Nat) : (w.drewN a).drewN b = w.drewN (a + b) := by
  unfold World.drewN
  simp [Nat.add_assoc]

theorem concat2_at (bk : Nat) (A1 A2 : Option Addr) (n1 n2 c1 c2 : Nat) (a b : List Nd) (W : World) (hk : bk = W.heap.size) (ha : TyA W W.heap.size A1 a) (hb : TyA W W.heap.size A2 b) (h1 : n1 = a.length) (h2 : n2 = b.length) (hl : a.length + b.length ≤ 1000000) :
    Calls Tryz.prog 34 #[.slice (some ⟨bk, 0, none⟩) 2 2] (W.alloc (.cells #[.slice A1 n1 c1, .slice A2 n2 c2] 23)) fun e w' =>
      ∃ A' c', e = .returned (.slice A' (a ++ b).length c') ∧ OwnN w' W.heap.size A' c' (a ++ b) ∧ Below W.heap.size W w' := by
  subst hk
  exact concat2_any A1 A2 n1 n2 c1 c2 a b W ha hb h1 h2 hl

/-- Behind the cut of the children. -/
def RowCut (_w : World) (V : Option Addr) (cv : Nat) (vs : List (Option Addr × Nat × Nat)) (tb : Bool) (s1 s8 : Value) : Prop :=
  (tb = false ∧ s1 = .slice V vs.length cv ∧ s8 = .slice none 0 0) ∨
  (tb = true ∧ 0 < vs.length ∧ ∃ b o : Nat, V = some ⟨b, o, none⟩ ∧ s1 = .slice V (vs.length - 1) (vs.length - 1) ∧ s8 = .slice (some ⟨b, o + (vs.length - 1), none⟩) 1 (cv - (vs.length - 1)))

/-- What stands behind the part on the tail. -/
structure RowAt (w0 : World) (n : Int) (U : Option Addr) (uc : Nat) (u : List Nd) (gn gb gu : Nat) (utss outs : List (List Nd)) (k t m : Bool) (V8 : Option Addr) (c8 : Nat) (vs8 : List (Option Addr × Nat × Nat)) (V1 : Option Addr) (c1 : Nat) (vs1 : List (Option Addr × Nat × Nat)) (w : World) : Prop where
  env : PEnv w n U uc u gn gb gu k t m
  grew : w0.grownBy w (some gb)
  mid : ∃ l tl, RowMid n utss outs l tl ∧ Sls w w.heap.size vs1 l ∧ Sls w w.heap.size vs8 tl
  r8 : ReadS w w.heap.size V8 vs8
  r1 : ReadS w w.heap.size V1 vs1
  o1 : AllOff gb vs1
  o8 : AllOff gb vs8
  p1 : Off (some ⟨gb, 0, none⟩) V1
  p8 : Off (some ⟨gb, 0, none⟩) V8
  how : (OwnS w w0.heap.size V1 c1 vs1 ∧ ∀ q ∈ vs1 ++ vs8, Off V1 q.1) ∨ (vs8 = [] ∧ V8 = none ∧ c8 = 0) ∨ (c1 = vs1.length ∧ (∃ b o, V1 = some ⟨b, o, none⟩) ∧ ∃ b o v, V8 = some ⟨b, o, none⟩ ∧ vs8 = [v])

/-- Behind the append. -/
structure RowE (w0 : World) (n : Int) (U : Option Addr) (uc : Nat) (u : List Nd) (gn gb gu : Nat) (utss outs : List (List Nd)) (k t m : Bool) (V9 : Option Addr) (vs9 : List (Option Addr × Nat × Nat)) (w : World) : Prop where
  env : PEnv w n U uc u gn gb gu k t m
  grew : w0.grownBy w (some gb)
  mid : ∃ l tl, RowMid n utss outs l tl ∧ Sls w w.heap.size vs9 (l ++ tl)
  r9 : ReadS w w.heap.size V9 vs9
  o9 : AllOff gb vs9
  p9 : Off (some ⟨gb, 0, none⟩) V9

theorem grown_set1 (w : World) (b i : Nat) (v : Value) : w.grownBy (w.setCell ⟨b, i, none⟩ v) (some b) :=
  ⟨rfl, rfl, rfl, by simp [World.setCell], fun k _ hk => Below.heap_setCell _ _ _ _ (fun e => hk (by simp [e]))⟩

theorem RowE.flag {w0 : World} {n : Int} {U : Option Addr} {uc : Nat} {u : List Nd} {gn gb gu : Nat} {utss outs : List (List Nd)} {k t m : Bool} {V9 : Option Addr} {vs9 : List (Option Addr × Nat × Nat)} {w : World} (h : RowE w0 n U uc u gn gb gu utss outs k t m V9 vs9 w) (m' : Bool) :
    RowE w0 n U uc u gn gb gu utss outs k t m' V9 vs9 (w.setCell ⟨gb, 2, none⟩ (.bool m')) := by
  obtain ⟨l, tl, hM, hS⟩ := h.mid
  have hg : w.grownBy (w.setCell ⟨gb, 2, none⟩ (.bool m')) (some gb) := grown_set1 w gb 2 _
  exact ⟨h.env.set 2 m' (by omega), h.grew.trans hg, ⟨l, tl, hM, sls_more (sls_grown hS (Nat.le_refl _) hg h.o9) hg.size⟩, (ReadL.grown1 h.r9 (Nat.le_refl _) hg h.p9).more hg.size, h.o9, h.p9⟩

theorem AllOff.app {gb : Nat} {a b : List (Option Addr × Nat × Nat)} (h : AllOff gb a) (k : AllOff gb b) : AllOff gb (a ++ b) := fun q hq => (List.mem_append.1 hq).elim (h q) (k q)

theorem off_own {α : Type} {e size base gb : Nat} {enc : α → List Value} {w : World} {A : Option Addr} {cap : Nat} {l : List α} (h : OwnL e size enc w base A cap l) (hg : gb < base) : Off (some ⟨gb, 0, none⟩) A := fun p q hp hq e => by
  injection hp with hp
  subst hp
  have := (OwnL.lt h q hq).1
  simp at e
  omega

/-- The append, whichever way. -/
theorem row_append {w0 : World} {n : Int} {U : Option Addr} {uc : Nat} {u : List Nd} {gn gb gu : Nat} {utss outs : List (List Nd)} {k t m : Bool} {V8 : Option Addr} {c8 : Nat} {vs8 : List (Option Addr × Nat × Nat)} {V1 : Option Addr} {c1 : Nat} {vs1 : List (Option Addr × Nat × Nat)} {w : World}
    (h : RowAt w0 n U uc u gn gb gu utss outs k t m V8 c8 vs8 V1 c1 vs1 w) {k0 t0 m0 : Bool} (h0 : PEnv w0 n U uc u gn gb gu k0 t0 m0) (hc : vs1.length ≤ c1) (hlen : vs1.length + vs8.length ≤ 1000000)
    {ops : Array Oper} {rest : List Oper} {o : Oper} {a : Act} {Q : Exit → Act → World → Prop} (hgd : o.guard = none) (s x : Operand)
    (ho : o.op = .call { callee := .builtin .append, args := #[s, x], argTypes := #[24, 24] })
    (hs : a.eval s = .slice V1 vs1.length c1) (hx : a.eval x = .slice V8 vs8.length c8)
    (hK : ∀ V9 c9 vs9 w', Hid (RowE w0 n U uc u gn gb gu utss outs k t m V9 vs9 w') → wpList Tryz.prog ops Q rest (a.put o.dst (.slice V9 vs9.length c9)) w') : wpList Tryz.prog ops Q (o :: rest) a w := by
  obtain ⟨l, tl, hM, S1, S8⟩ := h.mid
  rcases h.how with ⟨hown, hoff⟩ | ⟨rfl, rfl, rfl⟩ | ⟨rfl, ⟨b1, o1, rfl⟩, b2, o2, v, rfl, rfl⟩
  · refine wpList_appS hgd s x ho w0.heap.size hs hown hx h.r8 (by omega) h.grew.size ?_
    intro V9 c9 w' hown' hg hA
    have hg1 : Below w0.heap.size w w' := below_app hg h.grew.size fun a ha => (OwnL.lt hown a ha).1
    rw [← List.length_append]
    refine hK V9 c9 _ w' (Lib.hid ⟨h.env.below hg1 h0.ln h0.lb h0.lu, h.grew.andThen hg fun j hj => .inl ?_, ⟨l, tl, hM, ?_⟩, OwnL.read encS_len hown', h.o1.app h.o8, off_own hown' h0.lb⟩)
    · obtain ⟨a, ha, hab⟩ := ownBlock_of hj
      rw [← hab]
      exact (OwnL.lt hown a ha).1
    · refine sls_more ⟨by rw [List.length_append, List.length_append, S1.1, S8.1], fun i v ts hv ht => ?_⟩ hg.size
      have hq := hoff v (List.mem_of_getElem? hv)
      obtain ⟨e1, e2⟩ := (sls_append S1 S8).2 i v ts hv ht
      exact ⟨e1, e2.grown (Nat.le_refl _) hg hq⟩
  · refine wpList_appNone hgd s x ho hs hc hx ?_
    refine hK V1 c1 vs1 w (Lib.hid ⟨h.env, h.grew, ?_, h.r1, h.o1, h.p1⟩)
    have : tl = [] := List.eq_nil_of_length_eq_zero S8.1.symm
    subst this
    exact ⟨l, [], hM, by rw [List.append_nil]; exact S1⟩
  · refine wpList_appFull hgd s x ho hs rfl h.r1 hx h.r8 (by omega) ?_
    intro V9 c9 w' hown hb
    have hz := hb.size
    have e : (vs1 ++ [v]).length = vs1.length + 1 := by simp
    rw [← e]
    refine hK V9 c9 (vs1 ++ [v]) w' (Lib.hid ⟨h.env.calls hb, h.grew.trans (below_grown hb _), ⟨l, tl, hM, sls_more (sls_append (sls_below S1 hb) (sls_below S8 hb)) hz⟩, OwnL.read encS_len hown, h.o1.app h.o8, off_own hown h.env.lb⟩)

/-- What is put: its children, its tail. -/
structure UOk (uc : Nat) (u : List Nd) (utss : List (List Nd)) : Prop where
  len : u.length ≤ 1000
  cap : u.length ≤ uc
  ex : ∃ y uks, u = y :: uks ∧ okNode y.k y.n = true ∧ okAll uks ∧ Trees (manyN y) uks utss

theorem UOk.few {uc : Nat} {u : List Nd} {utss : List (List Nd)} (h : UOk uc u utss) : utss.length ≤ 50 ∧ utss.flatten.length < u.length ∧ ∀ ts ∈ utss, ts ≠ [] := by
  obtain ⟨y, uks, rfl, ho, _, ht⟩ := h.ex
  refine ⟨by rw [ht.len]; exact manyN_le ho, by rw [ht.flat]; simp, fun ts hts => ht.ne hts⟩

theorem rowN_le (n : Int) (utss outs : List (List Nd)) : rowN n utss outs ≤ outs.length + utss.length := by
  unfold rowN
  have h1 := congrArg List.length (lOf_tOf outs)
  have h2 := congrArg List.length (lOf_tOf utss)
  rw [List.length_append] at h1 h2
  split
  · rw [List.length_append]; omega
  · omega

/-- What is put, parted: its children, its tail. -/
structure URow (w0 w : World) (B : Nat) (n : Int) (U : Option Addr) (uc : Nat) (u : List Nd) (gn gb gu : Nat) (utss : List (List Nd)) (k t m : Bool) (V2 : Option Addr) (vs2 : List (Option Addr × Nat × Nat)) (V3 : Option Addr) (vs3 : List (Option Addr × Nat × Nat)) : Prop where
  env : PEnv w n U uc u gn gb gu k t m
  grew : w0.grownBy w (some gb)
  r2 : ReadS w w.heap.size V2 vs2
  s2 : Sls w B vs2 (lOf utss)
  r3 : ReadS w w.heap.size V3 vs3
  s3 : Sls w B vs3 (tOf utss)
  p3 : Off (some ⟨gb, 0, none⟩) V3

theorem RowAt.flag {w0 : World} {n : Int} {U : Option Addr} {uc : Nat} {u : List Nd} {gn gb gu : Nat} {utss outs : List (List Nd)} {k t m : Bool} {V8 : Option Addr} {c8 : Nat} {vs8 : List (Option Addr × Nat × Nat)} {V1 : Option Addr} {c1 : Nat} {vs1 : List (Option Addr × Nat × Nat)} {w : World}
    (h : RowAt w0 n U uc u gn gb gu utss outs k t m V8 c8 vs8 V1 c1 vs1 w) (h0 : gb < w0.heap.size) (t' : Bool) (q : Nat) : RowAt w0 n U uc u gn gb gu utss outs k t' m V8 c8 vs8 V1 c1 vs1 ((w.drewN q).setCell ⟨gb, 1, none⟩ (.bool t')) := by
  have hq := ext_drewN (Below.refl w.heap.size w) q
  have hg : w.grownBy ((w.drewN q).setCell ⟨gb, 1, none⟩ (.bool t')) (some gb) := (below_grown hq _).trans (grown_set1 _ gb 1 _)
  obtain ⟨l, tl, hM, S1, S8⟩ := h.mid
  refine ⟨?_, h.grew.trans hg, ⟨l, tl, hM, sls_more (sls_grown S1 (Nat.le_refl _) hg h.o1) hg.size, sls_more (sls_grown S8 (Nat.le_refl _) hg h.o8) hg.size⟩, (ReadL.grown1 h.r8 (Nat.le_refl _) hg h.p8).more hg.size, (ReadL.grown1 h.r1 (Nat.le_refl _) hg h.p1).more hg.size, h.o1, h.o8, h.p1, h.p8, ?_⟩
  · have := (h.env.calls hq).set 1 t' (by omega)
    simpa using this
  · rcases h.how with ⟨a, b⟩ | h' | h'
    · exact .inl ⟨kept_grown1 a hg h0, b⟩
    · exact .inr (.inl h')
    · exact .inr (.inr h')

theorem off_any {A : Option Addr} {g : Nat} (h : ∀ a, A = some a → a.block ≠ g) : Off (some ⟨g, 0, none⟩) A := fun p q hp hq e => by
  injection hp with hp
  subst hp
  exact h q hq e.symm

theorem joined_zero_at (V1 V2 : Option Addr) (z c1 c2 : Nat) (w : World) (hz : z = 0) :
    Calls Tryz.prog 32 #[.slice V1 z c1, .slice V2 0 c2, .func (.func 33) #[] #[]] w fun e w' =>
      ∃ (V : Option Addr) (cv : Nat), e = .returned (.tuple #[.slice V 0 cv, .bool true]) ∧ OwnS w' w.heap.size V cv [] ∧ Below w.heap.size w w' := by
  subst hz
  exact joined_zero V1 V2 c1 c2 w

/-- The rows joined. -/
theorem row_join {w0 w w' : World} {B : Nat} {n : Int} {U : Option Addr} {uc : Nat} {u : List Nd} {gn gb gu : Nat} {utss outs : List (List Nd)} {k t m : Bool} {V2 : Option Addr} {vs2 : List (Option Addr × Nat × Nat)} {V3 : Option Addr} {c3 : Nat} {vs3 : List (Option Addr × Nat × Nat)} {V4 : Option Addr} {c4 : Nat} {vs1 : List (Option Addr × Nat × Nat)} {os : List Nat}
    (h : URow w0 w B n U uc u gn gb gu utss k t m V2 vs2 V3 vs3) (hB : B ≤ gb) (h0 : gb < w0.heap.size) (hit : hitB n outs = true) (S1 : Sls w w.heap.size vs1 (lOf outs)) (hoq : AllOff gb vs1) (n1 : ∀ ts ∈ lOf outs, ts ≠ []) (n2 : ∀ ts ∈ utss, ts ≠ [])
    (hp : os.Perm (List.range (vs1 ++ vs2).length)) (hs : os.Pairwise (fun i j => ltB (lab (labsT (lOf outs ++ lOf utss)) j) (lab (labsT (lOf outs ++ lOf utss)) i) = false)) (hown : OwnS w' w.heap.size V4 c4 (os.map (vq (vs1 ++ vs2)))) (hb : Below w.heap.size w w') :
    RowAt w0 n U uc u gn gb gu utss outs k t m V3 c3 vs3 V4 c4 (os.map (vq (vs1 ++ vs2))) w' := by
  have hz := hb.size
  have hBw : B ≤ w.heap.size := Nat.le_trans hB (Nat.le_trans (Nat.le_of_lt h0) h.grew.size)
  have S2 := sls_more h.s2 hBw
  have S12 := sls_append S1 S2
  have hlen : (vs1 ++ vs2).length = (lOf outs ++ lOf utss).length := S12.1
  have hrng : ∀ i ∈ os, i < (lOf outs ++ lOf utss).length := fun i hi => by rw [← hlen]; exact List.mem_range.1 (hp.mem_iff.1 hi)
  have Sp := sls_perm S12 hrng
  have n12 : ∀ ts ∈ lOf outs ++ lOf utss, ts ≠ [] := fun ts hts => (List.mem_append.1 hts).elim (n1 ts) fun hm => n2 ts (mem_lOf hm)
  have o2 : AllOff gb vs2 := sls_off h.s2 (fun ts hts => n2 ts (mem_lOf hts)) hB
  have o3 : AllOff gb vs3 := sls_off h.s3 (fun ts hts => n2 ts (mem_tOf hts)) hB
  have o12 : AllOff gb (vs1 ++ vs2) := hoq.app o2
  have hmem : ∀ q ∈ os.map (vq (vs1 ++ vs2)), q ∈ vs1 ++ vs2 := fun q hq => by
    obtain ⟨i, hi, rfl⟩ := List.mem_map.1 hq
    exact List.mem_of_getElem? (vq_at (by rw [hlen]; exact hrng i hi))
  have hV4 : ∀ g, w.heap.size ≤ g → ∀ q ∈ vs1 ++ vs2, Off (some ⟨g, 0, none⟩) q.1 := fun g hg => sls_off S12 n12 hg
  have hV3 : ∀ g, w.heap.size ≤ g → ∀ q ∈ vs3, Off (some ⟨g, 0, none⟩) q.1 := fun g hg => sls_off h.s3 (fun ts hts => n2 ts (mem_tOf hts)) (Nat.le_trans hBw hg)
  have hgbw : gb < w.heap.size := Nat.lt_of_lt_of_le h0 h.grew.size
  refine ⟨h.env.calls hb, h.grew.trans (below_grown hb _), ⟨os.map (tq (lOf outs ++ lOf utss)), tOf utss, ?_, sls_more (sls_below Sp hb) hz, sls_more (sls_below h.s3 (hb.mono hBw)) (Nat.le_trans hBw hz)⟩, (ReadL.below h.r3 hb).more hz, OwnL.read encS_len hown, fun q hq => o12 q (hmem q hq), o3, off_own hown hgbw, h.p3, .inl ⟨OwnL.lower hown h.grew.size, fun q hq => ?_⟩⟩
  · unfold RowMid
    rw [if_pos hit]
    exact ⟨rfl, os, by rw [← hlen]; exact hp, hs, rfl⟩
  · intro a b ha hb2 e
    have hab := (OwnL.lt hown a ha).1
    rcases List.mem_append.1 hq with hq | hq
    · exact hV4 a.block hab q (hmem q hq) ⟨a.block, 0, none⟩ b rfl hb2 e
    · exact hV3 a.block hab q hq ⟨a.block, 0, none⟩ b rfl hb2 e

set_option maxRecDepth 100000 in
set_option maxHeartbeats 4000000 in
theorem row_any (A : Option Addr) (c B : Nat) (T : List Nd) (x : Nd) (n : Int) (U : Option Addr) (uc : Nat) (u : List Nd) (gn gb gu : Nat) (k t m : Bool) (V : Option Addr) (cv : Nat) (vs : List (Option Addr × Nat × Nat)) (outs utss : List (List Nd)) (w : World)
    (ha : TyA w B A T) (hx : T[0]? = some x) (hB : B ≤ gb) (henv : PEnv w n U uc u gn gb gu k t m) (hu : TyA w B U u) (huo : UOk uc u utss)
    (hr : ReadS w w.heap.size V vs) (hS : Sls w w.heap.size vs outs) (hne : ∀ ts ∈ outs, ts ≠ []) (hov : Off (some ⟨gb, 0, none⟩) V) (hoq : AllOff gb vs) (hcv : vs.length ≤ cv) (hl : vs.length ≤ 400) (hsz : outs.flatten.length + utss.flatten.length ≤ 900000) :
    Calls Tryz.prog 31 #[.slice A T.length c, .slice V vs.length cv, .pointer (some ⟨gn, 0, none⟩), .pointer (some ⟨gb, 0, none⟩), .pointer (some ⟨gu, 0, none⟩)] w fun e w' =>
      ∃ (A' : Option Addr) (c' : Nat) (out : List Nd), e = .returned (.slice A' out.length c') ∧ RowTo n x utss outs out ∧ OwnN w' w.heap.size A' c' out ∧ w.grownBy w' (some gb) ∧
        PEnv w' n U uc u gn gb gu (k || rowK n (headNd u).k x.k outs) (t || rowT n (headNd u).k x.k utss outs) (m || rowM n utss outs) := by
  have Hno : Hid (tailB outs = false → _) := Lib.hid (cut_no V cv w.heap.size vs outs w hr hS hne (by omega))
  have Hyes : Hid (tailB outs = true → _) := Lib.hid (cut_yes V cv w.heap.size vs outs w hr hS hne (by omega) hcv)
  have Henv := Lib.hid henv
  have HS := Lib.hid hS
  have Hne := Lib.hid hne
  have HR := Lib.hid hr
  have Hu := Lib.hid hu
  have Ha := Lib.hid ha
  have Hx := Lib.hid hx
  have Hov := Lib.hid hov
  have Hoq := Lib.hid hoq
  clear hS hne hov hoq hr henv ha hu hx
  go_enter Tryz.func31, Tryz.ntmps31
  go_upto_region 1 with fail
  go_cut [1, 8] (fun s1 s8 wx => RowCut w V cv vs (tailB outs) s1 s8 ∧ ∃ q, wx = w.drewN q)
  case first =>
    cases htb : tailB outs
    · have h := Hno.out htb
      have HT := Lib.hid htb
      clear Hno Hyes htb
      go_wp2_with fail
      refine h.mono ?_
      rintro e w1 ⟨rfl, q, rfl⟩
      go_wp2_with fail
      go_meet
      exact ⟨.inl ⟨HT.out, rfl, rfl⟩, q, rfl⟩
    · obtain ⟨b, o, hV, h0, h⟩ := Hyes.out htb
      have HT := Lib.hid htb
      clear Hno Hyes htb
      have HV := Lib.hid hV
      clear hV
      go_wp2_with fail
      refine h.mono ?_
      rintro e w1 ⟨rfl, q, rfl⟩
      go_wp2_with fail
      go_meet
      exact ⟨.inr ⟨HT.out, h0, b, o, HV.out, rfl, rfl⟩, q, rfl⟩
  case rest =>
    obtain ⟨hcc, q, rfl⟩ := hcut
    clear Hno Hyes
    have Hcc := Lib.hid hcc
    clear hcc
    go_upto_region 2 with fail
    go_cut [30] (fun s30 wx => s30 = .bool (hitB n outs) ∧ ∃ q, wx = w.drewN q)
    case first =>
      rcases Hcc.out with ⟨htb, rfl, rfl⟩ | ⟨htb, h0, b, o, hV, rfl, rfl⟩
      · have hh : hitB n outs = false := by unfold hitB tOf; simp [htb]
        have HH := Lib.hid hh
        clear htb hh Hcc
        go_quiet (fail)
        go_wp2_with fail
        go_meet
        exact ⟨by rw [HH.out], _, drewN_two w q _⟩
      · obtain ⟨v, hv⟩ := getq_ex (show vs.length - 1 < vs.length by omega)
        obtain ⟨t9, y, htt, hy, _, hl1, hT⟩ := elemT HS.out Hne.out hv
        have hhy : headNd t9 = y := by
          cases t9 with
          | nil => simp at hy
          | cons z zs => simp at hy; subst hy; rfl
        have hh : hitB n outs = (y.n == n) := by
          have hlen := HS.out.1
          have hd : outs.drop (outs.length - 1) = t9 :: outs.drop (outs.length - 1 + 1) := drop_cons (by rw [← hlen]; exact htt)
          unfold hitB tOf
          simp only [htb, if_true, hd, hhy]
        obtain ⟨b', o', hV', hb, c0⟩ := ReadL.slice HR.out hv
        rw [hV] at hV'
        injection hV' with hV'
        injection hV' with e1 e2
        subst e1 e2
        obtain ⟨b1, o1, hv1, hb1, c10, c11, c12⟩ := hT.at_ hy
        simp only [Nat.zero_mul, Nat.add_zero] at c10 c11 c12
        have ht0 : 0 < v.2.1 := by have := getq_lt hy; omega
        have hcn := Henv.out.cn
        rw [hv1] at c0
        have HH := Lib.hid hh
        clear hh hV hv1 htt hy hhy hT hl1 hv htb Hcc
        go_quiet (fail)
        go_wp2_with fail
        go_meet
        exact ⟨by rw [HH.out], _, rfl⟩
    case rest =>
      obtain ⟨rfl, q2, rfl⟩ := hcut
      have Hd := Lib.hid (ext_drewN (Below.refl w.heap.size w) q2)
      go_upto_if 30 with fail
      go_cut [1, 8] (fun s1 s8 wx => ∃ V8 c8 vs8 V1 c1 vs1, s1 = .slice V1 vs1.length c1 ∧ s8 = .slice V8 vs8.length c8 ∧ vs1.length ≤ c1 ∧ Hid (RowAt w n U uc u gn gb gu utss outs (k || rowK n (headNd u).k x.k outs) (t || rowT n (headNd u).k x.k utss outs) m V8 c8 vs8 V1 c1 vs1 wx))
      case first =>
        cases hh : hitB n outs
        · have HH := Lib.hid hh
          clear hh
          go_wp2_with fail
          go_meet
          have hS' := sls_below HS.out Hd.out
          have hR' := ReadL.below HR.out Hd.out
          have hk : rowK n (headNd u).k x.k outs = false := by unfold rowK; rw [HH.out]; rfl
          have ht : rowT n (headNd u).k x.k utss outs = false := by unfold rowT; rw [HH.out]; rfl
          rw [hk, ht, Bool.or_false, Bool.or_false]
          have hM : RowMid n utss outs (lOf outs) (tOf outs) := by unfold RowMid; rw [HH.out]; exact ⟨rfl, rfl⟩
          have hz := Hd.out.size
          rcases Hcc.out with ⟨htb, rfl, rfl⟩ | ⟨htb, h0, b, o, hV, rfl, rfl⟩
          · have hl1 : lOf outs = outs := by unfold lOf; rw [htb]; rfl
            have ht1 : tOf outs = [] := by unfold tOf; rw [htb]; rfl
            rw [hl1, ht1] at hM
            exact ⟨none, 0, [], V, cv, vs, rfl, rfl, hcv, Lib.hid ⟨Henv.out.calls Hd.out, below_grown Hd.out _, ⟨_, _, hM, sls_more hS' hz, ⟨rfl, fun i v ts hv => by simp at hv⟩⟩, ReadL.nil, ReadL.more hR' hz, Hoq.out, fun q hq => by simp at hq, Hov.out, fun _ _ _ h => by simp at h, .inr (.inl ⟨rfl, rfl, rfl⟩)⟩⟩
          · have hl1 : lOf outs = outs.take (vs.length - 1) := by unfold lOf; rw [htb, HS.out.1]; rfl
            have ht1 : tOf outs = outs.drop (vs.length - 1) := by unfold tOf; rw [htb, HS.out.1]; rfl
            rw [hl1, ht1] at hM
            have e1 : (vs.take (vs.length - 1)).length = vs.length - 1 := by rw [List.length_take]; omega
            have e8 : (vs.drop (vs.length - 1)).length = 1 := by rw [List.length_drop]; omega
            subst hV
            obtain ⟨v9, hv9⟩ := List.length_eq_one_iff.1 e8
            exact ⟨some ⟨b, o + (vs.length - 1), none⟩, cv - (vs.length - 1), vs.drop (vs.length - 1), some ⟨b, o, none⟩, vs.length - 1, vs.take (vs.length - 1), by rw [e1], by rw [e8], by rw [e1]; exact Nat.le_refl _, Lib.hid ⟨Henv.out.calls Hd.out, below_grown Hd.out _, ⟨_, _, hM, sls_take (sls_more hS' hz) _, sls_drop (sls_more hS' hz) _⟩, readS_drop (ReadL.more hR' hz) _, readS_take (ReadL.more hR' hz) _, Hoq.out.take _, Hoq.out.drop _, Hov.out, Hov.out.at_, .inr (.inr ⟨e1.symm, ⟨_, _, rfl⟩, _, _, _, rfl, hv9⟩)⟩⟩
        · have HH := Lib.hid hh
          clear hh
          rcases Hcc.out with ⟨htb, rfl, rfl⟩ | ⟨htb, h0, b, o, hV, rfl, rfl⟩
          · exfalso
            have := HH.out
            unfold hitB tOf at this
            simp [htb] at this
          · obtain ⟨y, uks, hue, huk, huok, hut⟩ := huo.ex
            have hu0 : u[0]? = some y := by rw [hue]; rfl
            have huh : (headNd u).k = y.k := by rw [hue]; rfl
            have hkx : rowK n (headNd u).k x.k outs = (y.k != x.k) := by unfold rowK; rw [HH.out, huh]; rfl
            have htx : rowT n (headNd u).k x.k utss outs = (!decide (labsT (lOf outs ++ lOf utss)).Nodup && y.k == x.k) := by unfold rowT; rw [HH.out, huh]; rfl
            obtain ⟨bu, ou, rfl, hbu, d0, d1, d2⟩ := Hu.out.at_ hu0
            obtain ⟨bT, oT, rfl, hbT, e0, e1, e2⟩ := Ha.out.at_ Hx.out
            simp only [Nat.zero_mul, Nat.add_zero] at d0 e0
            have hT0 : 0 < T.length := getq_lt Hx.out
            have hul0 : 0 < u.length := getq_lt hu0
            have hcu := Henv.out.cu
            have b0 := Henv.out.b0
            have f0 := Henv.out.f0
            have lb := Henv.out.lb
            have hbuw : bu < w.heap.size := by omega
            have hbTw : bT < w.heap.size := by omega
            have hneu : bu ≠ gb := by omega
            have hneT : bT ≠ gb := by omega
            have Hk := Lib.hid (And.intro hkx htx)
            have Hut := Lib.hid (And.intro hue (And.intro huk (And.intro huok hut)))
            have HV := Lib.hid (And.intro htb hV)
            clear hkx htx hue huk huok hut htb hV hu0 huh d1 d2 e1 e2
            go_upto_region 3 with fail
            go_cut [] (fun wx => Hid (PEnv wx n (some ⟨bu, ou, none⟩) uc u gn gb gu (k || (y.k != x.k)) t m ∧ w.grownBy wx (some gb)))
            case first =>
              have hfin : ∀ (v : Bool) (q' : Nat), v = (k || (y.k != x.k)) → Hid (PEnv ((w.drewN q').setCell ⟨gb, 0, none⟩ (.bool v)) n (some ⟨bu, ou, none⟩) uc u gn gb gu (k || (y.k != x.k)) t m ∧ w.grownBy ((w.drewN q').setCell ⟨gb, 0, none⟩ (.bool v)) (some gb)) := fun v q' hv => Lib.hid (by
                have hq := ext_drewN (Below.refl w.heap.size w) q'
                have h1 := (Henv.out.calls hq).set 0 v (by omega)
                rw [← hv]
                exact ⟨by simpa using h1, (below_grown hq _).trans (grown_set1 _ _ _ _)⟩)
              have Hfin := Lib.hid hfin
              clear hfin
              cases k
              · cases hyx : (y.k != x.k)
                all_goals
                  have Hyx := Lib.hid hyx
                  go_region
                  all_goals
                    go_wp2_with fail
                    go_meet
                    exact Hfin.out _ _ (by rw [Hyx.out]; rfl)
              · go_region
                all_goals
                  go_wp2_with fail
                  go_meet
                  exact Hfin.out _ _ rfl
            case rest =>
              clear d0 e0 hcu b0 f0
              have HE := Lib.hid hcut.out
              clear hcut
              have hgw := Nat.lt_of_lt_of_le lb HE.out.2.size
              have hkc : Hid (∀ _ : Unit, _) := Lib.hid fun (_ : Unit) => tkids_any (some ⟨bu, ou, none⟩) uc B u uks y utss wc (Hu.out.only HE.out.2 hB (by omega)) (by omega) (by have := huo.len; omega) huo.cap Hut.out.1 Hut.out.2.1 Hut.out.2.2.1 Hut.out.2.2.2
              have hcu := HE.out.1.cu
              have Hun := Lib.hid huo.few
              go_upto_region 4 with fail
              go_cut [9, 10] (fun s9 s10 wx => ∃ (V2 : Option Addr) (c2 : Nat) (vs2 : List (Option Addr × Nat × Nat)) (V3 : Option Addr) (c3 : Nat) (vs3 : List (Option Addr × Nat × Nat)), s9 = .slice V2 vs2.length c2 ∧ s10 = .slice V3 vs3.length c3 ∧ Hid (URow w wx B n (some ⟨bu, ou, none⟩) uc u gn gb gu utss (k || (y.k != x.k)) t m V2 vs2 V3 vs3))
              case first =>
                go_wp2_with fail
                refine (hkc.out ()).mono ?_
                rintro e w1 ⟨V5, c5, vs5, rfl, hown, hvl, hS, hcap, hb⟩
                clear hkc
                have hr := OwnL.read encS_len hown
                have hv50 : vs5.length ≤ 50 := by have := Hun.out.1; have := hS.1; omega
                have Hvl := Lib.hid hvl
                clear hvl hcap
                cases htb : tailB utss
                · have h := cut_no V5 c5 B vs5 utss w1 hr hS Hun.out.2.2 (by omega) htb
                  have HT := Lib.hid htb
                  have M := Lib.hid (And.intro hr (And.intro hS (And.intro hown hb)))
                  clear htb hr hS hb hown
                  go_wp2_with fail
                  refine h.mono ?_
                  rintro e w2 ⟨rfl, q, rfl⟩
                  go_wp2_with fail
                  go_meet
                  have e1 : lOf utss = utss := by unfold lOf; rw [HT.out]; rfl
                  have e2 : tOf utss = [] := by unfold tOf; rw [HT.out]; rfl
                  have hq := ext_drewN (Below.refl _ w1) q
                  have hb2 := ext_trans M.out.2.2.2 hq
                  have hBw1 : B ≤ w1.heap.size := by have := M.out.2.2.2.size; omega
                  exact ⟨V5, c5, vs5, none, 0, [], rfl, rfl, Lib.hid ⟨HE.out.1.calls hb2, HE.out.2.trans (below_grown hb2 _), (ReadL.below M.out.1 hq).more hq.size, by rw [e1]; exact sls_below M.out.2.1 (hq.mono hBw1), ReadL.nil, by rw [e2]; exact ⟨rfl, fun i v ts hv => by simp at hv⟩, fun _ _ _ h => by cases h⟩⟩
                · obtain ⟨b5, o5, hV5, h05, h⟩ := cut_yes V5 c5 B vs5 utss w1 hr hS Hun.out.2.2 (by omega) (OwnL.le_cap hown) htb
                  have HT := Lib.hid htb
                  have M := Lib.hid (And.intro hr (And.intro hS (And.intro hown hb)))
                  have HV5 := Lib.hid hV5
                  clear htb hr hS hb hown hV5
                  go_wp2_with fail
                  refine h.mono ?_
                  rintro e w2 ⟨rfl, q, rfl⟩
                  go_wp2_with fail
                  go_meet
                  have e1 : lOf utss = utss.take (vs5.length - 1) := by unfold lOf; rw [HT.out, M.out.2.1.1]; rfl
                  have e2 : tOf utss = utss.drop (vs5.length - 1) := by unfold tOf; rw [HT.out, M.out.2.1.1]; rfl
                  have l1 : (vs5.take (vs5.length - 1)).length = vs5.length - 1 := by rw [List.length_take]; omega
                  have l2 : (vs5.drop (vs5.length - 1)).length = 1 := by rw [List.length_drop]; omega
                  have hq := ext_drewN (Below.refl _ w1) q
                  have hb2 := ext_trans M.out.2.2.2 hq
                  have hBw1 : B ≤ w1.heap.size := by have := M.out.2.2.2.size; omega
                  have hr2 := (ReadL.below M.out.1 hq).more hq.size
                  have hV := HV5.out
                  subst hV
                  have hbl := (OwnL.lt M.out.2.2.1 ⟨b5, o5, none⟩ rfl).1
                  exact ⟨some ⟨b5, o5, none⟩, vs5.length - 1, vs5.take (vs5.length - 1), some ⟨b5, o5 + (vs5.length - 1), none⟩, c5 - (vs5.length - 1), vs5.drop (vs5.length - 1), by rw [l1], by rw [l2], Lib.hid ⟨HE.out.1.calls hb2, HE.out.2.trans (below_grown hb2 _), readS_take hr2 _, by rw [e1]; exact sls_take (sls_below M.out.2.1 (hq.mono hBw1)) _, readS_drop hr2 _, by rw [e2]; exact sls_drop (sls_below M.out.2.1 (hq.mono hBw1)) _, off_any fun a ha => by
                    injection ha with ha
                    rw [← ha]
                    show b5 ≠ gb
                    have : wc.heap.size ≤ b5 := hbl
                    omega⟩⟩
              case rest =>
                clear hkc hcu HE hgw
                obtain ⟨V2, c2, vs2, V3, c3, vs3, rfl, rfl, HU⟩ := hcut
                have hgw := Nat.lt_of_lt_of_le lb HU.out.grew.size
                have l1 : (vs.take (vs.length - 1)).length = vs.length - 1 := by rw [List.length_take]; omega
                have hl1e : lOf outs = outs.take (vs.length - 1) := by unfold lOf; rw [HV.out.1, HS.out.1]; rfl
                have S1 : Sls wc wc.heap.size (vs.take (vs.length - 1)) (lOf outs) := by
                  rw [hl1e]
                  exact sls_take (sls_more (sls_grown HS.out (Nat.le_refl _) HU.out.grew Hoq.out) HU.out.grew.size) _
                have R1 : ReadS wc wc.heap.size V (vs.take (vs.length - 1)) := readS_take ((ReadL.grown1 HR.out (Nat.le_refl _) HU.out.grew Hov.out).more HU.out.grew.size) _
                have n1 : ∀ ts ∈ lOf outs, ts ≠ [] := fun ts hts => Hne.out ts (mem_lOf hts)
                have hv2 : vs2.length ≤ 50 := by
                  have h1 := HU.out.s2.1
                  have h2 := lOf_le utss
                  have h3 := Hun.out.1
                  omega
                have hjn := Lib.hid (fun cc hpos => joined_any V V2 cc c2 wc.heap.size (vs.take (vs.length - 1)) vs2 (lOf outs) (lOf utss) wc R1 HU.out.r2 S1 (sls_more HU.out.s2 (by omega)) (Nat.le_refl _) n1 (fun ts hts => Hun.out.2.2 ts (mem_lOf hts)) (by omega) (by omega) hpos)
                have HJ := Lib.hid (And.intro S1 n1)
                have L1 := Lib.hid l1
                clear S1 R1 n1 l1 hl1e
                go_upto_region 5 with fail
                go_cut [11, 12] (fun s11 s12 wx => ∃ (V4 : Option Addr) (c4 : Nat) (vs4 : List (Option Addr × Nat × Nat)), s11 = .slice V4 vs4.length c4 ∧ s12 = .bool (decide (labsT (lOf outs ++ lOf utss)).Nodup) ∧ vs4.length ≤ c4 ∧ Hid (RowAt w n (some ⟨bu, ou, none⟩) uc u gn gb gu utss outs (k || (y.k != x.k)) t m V3 c3 vs3 V4 c4 vs4 wx))
                case first =>
                  by_cases hpos : 0 < (vs.take (vs.length - 1)).length + vs2.length
                  · have h := hjn.out (vs.length - 1) hpos
                    rw [L1.out] at h
                    have Hh := Lib.hid h
                    clear h hjn
                    go_wp2_with fail
                    refine Hh.out.mono ?_
                    rintro e w1 ⟨V4, c4, os, rfl, hp, hs, hown, hb⟩
                    have HF := Lib.hid (row_join (c3 := c3) HU.out hB lb HH.out HJ.out.1 (Hoq.out.take _) HJ.out.2 Hun.out.2.2 hp hs hown hb)
                    have hcap := OwnL.le_cap hown
                    have hlo : (os.map (vq (vs.take (vs.length - 1) ++ vs2))).length = (vs.take (vs.length - 1) ++ vs2).length := by rw [List.length_map, hp.length_eq, List.length_range]
                    have HL := Lib.hid hlo
                    clear hp hs hown hb hlo Hh
                    go_wp2_with fail
                    go_meet
                    exact ⟨V4, c4, _, by rw [HL.out, List.length_append, L1.out], rfl, hcap, HF⟩
                  · have e1 : vs.length - 1 = 0 := by have := L1.out; omega
                    have e2 : vs2 = [] := List.eq_nil_of_length_eq_zero (by omega)
                    have e3 : lOf outs = [] := List.eq_nil_of_length_eq_zero (by rw [← HJ.out.1.1]; omega)
                    have e4 : lOf utss = [] := List.eq_nil_of_length_eq_zero (by rw [← HU.out.s2.1, e2]; rfl)
                    have e5 : vs.take (vs.length - 1) = [] := List.eq_nil_of_length_eq_zero (by omega)
                    have E := Lib.hid (And.intro e1 (And.intro e2 (And.intro e3 (And.intro e4 e5))))
                    clear hjn hpos e3 e4 e5
                    subst e2
                    have Hz := Lib.hid (joined_zero_at V V2 (vs.length - 1) (vs.length - 1) c2 wc e1)
                    clear e1
                    go_wp2_with fail
                    refine Hz.out.mono ?_
                    rintro e w1 ⟨V4, c4, rfl, hown, hb⟩
                    have HF := Lib.hid (row_join (c3 := c3) (os := []) HU.out hB lb HH.out HJ.out.1 (Hoq.out.take _) HJ.out.2 Hun.out.2.2 (by rw [E.out.2.2.2.2]; simp) .nil hown hb)
                    clear hown hb Hz
                    go_wp2_with fail
                    go_meet
                    exact ⟨V4, c4, [], rfl, by rw [E.out.2.2.1, E.out.2.2.2.1]; rfl, by simp, HF⟩
                case rest =>
                  clear hjn
                  obtain ⟨V4, c4, vs4, rfl, rfl, hc4, HF⟩ := hcut
                  have Hn := Lib.hid hgw
                  clear hgw
                  have e0 := (HF.out.env.below (Below.refl _ _) HF.out.env.ln HF.out.env.lb HF.out.env.lu)
                  have hbTc : bT < wc.heap.size := by have := HF.out.grew.size; omega
                  have hbuc : bu < wc.heap.size := by have := HF.out.grew.size; omega
                  obtain ⟨_, _, hq1, _, d0, _, _⟩ := (Hu.out.only HF.out.grew hB (by omega)).at_ (show u[0]? = some y by rw [Hut.out.1]; rfl)
                  obtain ⟨_, _, hq2, _, e0', _, _⟩ := (Ha.out.only HF.out.grew hB (by omega)).at_ Hx.out
                  simp only [Option.some.injEq, Addr.mk.injEq, and_true] at hq1 hq2
                  obtain ⟨rfl, rfl⟩ := hq1
                  obtain ⟨rfl, rfl⟩ := hq2
                  simp only [Nat.zero_mul, Nat.add_zero] at d0 e0'
                  have hcu := HF.out.env.cu
                  have b1 := HF.out.env.b1
                  have f1 := HF.out.env.f1
                  have hgbc := HF.out.env.lb
                  clear e0
                  generalize hD : decide (labsT (lOf outs ++ lOf utss)).Nodup = D at *
                  have HD := Lib.hid hD
                  clear hD
                  go_upto_region 6 with fail
                  go_cut [] (fun wx => Hid (RowAt w n (some ⟨bu, ou, none⟩) uc u gn gb gu utss outs (k || (y.k != x.k)) (t || (!D && y.k == x.k)) m V3 c3 vs3 V4 c4 vs4 wx))
                  case first =>
                    have hfin : ∀ (v : Bool) (q' : Nat), v = (t || (!D && y.k == x.k)) → Hid (RowAt w n (some ⟨bu, ou, none⟩) uc u gn gb gu utss outs (k || (y.k != x.k)) (t || (!D && y.k == x.k)) m V3 c3 vs3 V4 c4 vs4 ((wc.drewN q').setCell ⟨gb, 1, none⟩ (.bool v))) := fun v q' hv => Lib.hid (by
                      rw [← hv]
                      exact HF.out.flag lb v q')
                    have Hfin := Lib.hid hfin
                    clear hfin
                    cases t
                    · cases D
                      · cases hyx : (y.k == x.k)
                        all_goals
                          have Hyx := Lib.hid hyx
                          go_region
                          all_goals
                            go_wp2_with fail
                            go_meet
                            exact Hfin.out _ _ (by rw [Hyx.out]; rfl)
                      · go_region
                        all_goals
                          go_wp2_with fail
                          go_meet
                          exact Hfin.out _ _ rfl
                    · go_region
                      all_goals
                        go_wp2_with fail
                        go_meet
                        exact Hfin.out _ _ rfl
                  case rest =>
                    clear d0 e0' hcu b1 f1 hgbc hbTc hbuc
                    have HG := Lib.hid hcut.out
                    clear hcut
                    go_wp2_with fail
                    go_meet
                    refine ⟨V3, c3, vs3, V4, c4, vs4, rfl, rfl, hc4, ?_⟩
                    rw [Hk.out.1, Hk.out.2]
                    exact HG
      case rest =>
        obtain ⟨V8, c8, vs8, V1, c1, vs1, rfl, rfl, hvc, HA⟩ := hcut
        clear Hcc Hd
        have hlen : vs1.length + vs8.length ≤ 1000 := by
          obtain ⟨l, tl, hM, S1, S8⟩ := HA.out.mid
          have h1 := S1.1
          have h2 := S8.1
          have h3 := hM.len
          have h4 := rowN_le n utss outs
          have h5 := HS.out.1
          have h6 := huo.few.1
          omega
        go_upto_region 8 with fail
        go_cut [1] (fun s1 wx => ∃ V9 c9 vs9, s1 = .slice V9 vs9.length c9 ∧ Hid (RowE w n U uc u gn gb gu utss outs (k || rowK n (headNd u).k x.k outs) (t || rowT n (headNd u).k x.k utss outs) m V9 vs9 wx))
        case first =>
          go_wp2_with (at_builtin; refine row_append HA.out Henv.out hvc (by omega) rfl (.tmp 77) (.tmp 78) rfl rfl rfl ?_; intro V9 c9 vs9 w9 HE)
          go_meet
          exact ⟨V9, c9, vs9, rfl, HE⟩
        case rest =>
          obtain ⟨V9, c9, vs9, rfl, HE⟩ := hcut
          clear HA
          have hv9 : Hid (vs9.length = rowN n utss outs) := Lib.hid (by
            obtain ⟨l, tl, hM, hS⟩ := HE.out.mid
            rw [hS.1, List.length_append, hM.len])
          go_upto_region 9 with fail
          go_cut [] (fun wx => Hid (RowE w n U uc u gn gb gu utss outs (k || rowK n (headNd u).k x.k outs) (t || rowT n (headNd u).k x.k utss outs) (m || rowM n utss outs) V9 vs9 wx))
          case first =>
            have b2 := HE.out.env.b2
            have f2 := HE.out.env.f2
            have lb := HE.out.env.lb
            cases m
            · go_wp2_with fail
              go_meet
              have hm : (false || rowM n utss outs) = decide (50 < (vs9.length : Int)) := by
                unfold rowM
                rw [← hv9.out, Bool.false_or]
                by_cases h : 50 < vs9.length
                · rw [decide_eq_true h, decide_eq_true (by omega)]
                · rw [decide_eq_false h, decide_eq_false (by omega)]
              rw [hm]
              exact Lib.hid (HE.out.flag _)
            · go_wp2_with fail
              go_meet
              exact Lib.hid (HE.out.flag true)
          case rest =>
            clear HE hv9
            have HE := Lib.hid hcut.out
            clear hcut
            obtain ⟨bT, oT, hAT, hbT, c10, c11, _⟩ := TyA.at_ (Ha.out.below (below_of_only HE.out.grew hB (by have := Henv.out.lb; omega))) Hx.out
            simp only [Nat.zero_mul, Nat.add_zero] at c10 c11
            subst hAT
            have hT0 : 0 < T.length := getq_lt Hx.out
            have hbw : bT < wc.heap.size := by have := HE.out.env.lb; omega
            obtain ⟨l, tl, hM, hS⟩ := HE.out.mid
            have HM := Lib.hid hM
            have hfl : (l ++ tl).flatten.length ≤ 900000 := by have := hM.flat; omega
            have hv9k : vs9.length ≤ 1000 := by
              have h1 := hM.len
              have h2 := rowN_le n utss outs
              have h3 := HS.out.1
              have h4 := huo.few.1
              have h5 := hS.1
              rw [List.length_append] at h5
              omega
            have hcc := Lib.hid (fun v (hb : Below wc.heap.size wc v) (c : Nat) => concat_any V9 c vs9 (l ++ tl) v ((ReadL.below HE.out.r9 hb).more hb.size) (sls_more (sls_below hS hb) hb.size) hv9k (by omega))
            have HSl := Lib.hid hS.1
            clear hM hS
            have S0 : Hid (∀ v, Below wc.heap.size wc v → v.cell? ⟨bT, oT, none⟩ = some (.int .i64 x.k) ∧ v.cell? ⟨bT, oT + 1, none⟩ = some (.string x.s) ∧ Hid (Below wc.heap.size wc v)) := Lib.hid fun v hb => ⟨(hb.cell (p := ⟨bT, oT, none⟩) hbw).trans c10, (hb.cell (p := ⟨bT, oT + 1, none⟩) hbw).trans c11, Lib.hid hb⟩
            generalize hF : (l ++ tl).flatten = F at *
            have HF := Lib.hid hF
            have HFl := Lib.hid hfl
            clear hF hfl hv9k hlen hvc hsz hl hcv hbw hbT huo
            clear Henv HS Hne HR Hu Ha Hx Hov Hoq
            go_upto_region 10 with fail
            go_region_held3 (fun v => v.cell? ⟨bT, oT, none⟩ = some (.int .i64 x.k) ∧ v.cell? ⟨bT, oT + 1, none⟩ = some (.string x.s) ∧ Hid (Below wc.heap.size wc v))
              (first
                | exact S0.out _ (Below.refl _ _).drew
                | exact S0.out _ (ext_alloc (Below.refl _ _) _).drew
                | exact S0.out _ hw1.out
                | exact S0.out _ (ext_alloc hw1.out _)
                | exact S0.out _ (ext_alloc (ext_alloc hw1.out _) _)
                | exact S0.out _ hw2.out)
              (first
                | (go_at_call 34; (with_reducible refine (hcc.out _ (Below.refl _ _).drew _).mono ?_); rintro e w1 ⟨A1, c1', rfl, hown1, hb1⟩; have hw1 := Lib.hid (ext_trans (Below.refl _ wc).drew hb1); have hP := Lib.hid (OwnL.tyA hown1); clear hown1 hb1)
                | (go_at_call 34; (with_reducible refine (hcc.out _ (ext_alloc (Below.refl _ _) _).drew _).mono ?_); rintro e w1 ⟨A1, c1', rfl, hown1, hb1⟩; have hw1 := Lib.hid (ext_trans (ext_alloc (Below.refl _ wc) _).drew hb1); have hP := Lib.hid (OwnL.tyA hown1); have hY := Lib.hid ((((tyA_new wc ⟨x.k, x.s, (vs9.length : Int)⟩).more (by simp)).drew.below hb1).more hb1.size); clear hown1 hb1)
                | (go_at_call 34; (with_reducible refine (concat2_any (some ⟨wc.heap.size, 0, none⟩) A1 1 F.length 1 c1' [⟨x.k, x.s, (vs9.length : Int)⟩] F w1 hY.out hP.out rfl rfl (by have := HFl.out; simp; omega)).mono ?_); rintro e w2 ⟨A2, c2, rfl, hown2, hb2⟩; have hw2 := Lib.hid (ext_trans hw1.out hb2); have hQ := Lib.hid (OwnL.lower hown2 hw1.out.size); clear hown2 hb2)
                | (go_at_call 34; (with_reducible refine (concat2_at (w1.heap.size + 1) (some ⟨w1.heap.size, 0, none⟩) A1 1 F.length 1 c1' [⟨x.k, x.s, (vs9.length : Int)⟩] F (w1.alloc _) (by simp) ((tyA_new w1 ⟨x.k, x.s, (vs9.length : Int)⟩).more (by simp)) ((hP.out.alloc (Nat.le_refl _) _).more (by simp)) rfl rfl (by have := HFl.out; simp; omega)).mono ?_); rintro e w2 ⟨A2, c2, rfl, hown2, hb2⟩; have hw2 := Lib.hid (ext_trans (ext_alloc hw1.out _) hb2); have hQ := Lib.hid (OwnL.lower hown2 (ext_alloc hw1.out _).size); clear hown2 hb2))
            all_goals
              go_wp2_with fail
              go_ret
              refine ⟨A2, c2, ⟨x.k, x.s, (vs9.length : Int)⟩ :: F, rfl, ⟨l, tl, HM.out, ?_⟩, OwnL.lower hQ.out HE.out.grew.size, HE.out.grew.trans (below_grown hw2.out _), HE.out.env.calls hw2.out⟩
              rw [HF.out, HSl.out, List.length_append]
end Go.Proofs.YtblfeokjlecgkaaGreat
