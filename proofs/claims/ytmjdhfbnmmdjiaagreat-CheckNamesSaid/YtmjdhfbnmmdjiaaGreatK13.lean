/- Laid together by a tool from the texts of this seat: ChW TyRead ChV. Conditions: each theorem's own. -/
import Derived.Test.YtmjdhfbnmmdjiaaGreatK10
import Derived.Test.YtmjdhfbnmmdjiaaGreatK01
/- The walk of check: ok, must, agree, with. -/
namespace Go.Proofs.YtmjdhfbnmmdjiaaGreat
open Go.RowKit

def okS : StW → Bool
  | .ok _ => true
  | .error _ => false
theorem relS_ok : ∀ {s : StW} {a : Nat} {p e : Int}, relS s a p e → (e == 0) = okS s
  | .ok n, a, p, e, h => by simp [okS, h.2.2]
  | .error (q, f), a, p, e, h => by
    have h1 := h.2.1
    have h2 := h.2.2
    subst h1
    simp [okS, h2]

set_option maxHeartbeats 1000000 in
theorem ok_any (P : Nat) (es : List Pt) (env : Env) (s : StW) (Y : Nat → Prop) (w : World) (h : WkE P es env s Y w) :
    Calls Tryz.prog 45 #[pk P] w fun e w' => e = .returned (.bool (okS s)) ∧ Below w.heap.size w w' := by
  obtain ⟨a, p, e, ⟨EA, ec, VA, vc, bs, hm⟩, hr⟩ := h
  have HE : Hid ((e == 0) = okS s) := Lib.hid (relS_ok hr)
  obtain ⟨_, _, _, _, c4⟩ := hm.cells
  clear hm hr
  unfold pk
  go_enter Tryz.func45, Tryz.ntmps45
  go_wp2_with fail
  go_ret
  exact ⟨by rw [HE.out]; rfl, Below.refl _ _⟩

/-- What must leaves. -/
def mustS (b : Bool) (at0 : Nat) (f : Int) : StW → StW
  | .ok a => if b = true then .ok a else .error (at0, f)
  | .error x => .error x
/-- A function without results leaves the walk in a state. -/
def SPost (P : Nat) (es : List Pt) (env : Env) (Y : Nat → Prop) (s : StW) (w : World) (e : Ending) (w' : World) : Prop :=
  (∃ v, e = .returned v) ∧ Fr Y w w' ∧ WkE P es env s Y w'

set_option maxHeartbeats 1000000 in
theorem must_any (P : Nat) (es : List Pt) (env : Env) (s : StW) (b : Bool) (at0 : Nat) (f : Int) (Y : Nat → Prop) (w : World) (hf : f ≠ 0 ∨ b = true) (h : WkE P es env s Y w) :
    Calls Tryz.prog 96 #[pk P, .bool b, .int .i64 at0, .int .i64 f] w (SPost P es env Y (mustS b at0 f s) w) := by
  have H := Lib.hid h
  have HO := Lib.hid (fun v (hv : Below w.heap.size w v) => ok_any P es env s Y v (h.later hv))
  unfold pk at *
  clear h
  go_enter Tryz.func96, Tryz.ntmps96
  cases b with
  | true =>
    go_wp2_with fail
    go_end0
    refine ⟨⟨_, rfl⟩, Fr.refl _ _, ?_⟩
    cases s <;> exact H.out
  | false =>
    go_wp2_with fail
    refine (HO.out _ (Below.refl _ _)).mono ?_
    rintro e w1 ⟨rfl, hb1⟩
    cases s with
    | error x =>
      have HB := Lib.hid hb1
      clear hb1
      simp only [okS]
      go_wp2_with fail
      go_end0
      exact ⟨⟨_, rfl⟩, Fr.below HB.out, H.out.later HB.out⟩
    | ok a =>
      obtain ⟨a', p, e, ⟨EA, ec, VA, vc, bs, hm⟩, ha, hp, he⟩ := H.out.later hb1
      subst ha hp he
      obtain ⟨_, _, _, c3, c4⟩ := hm.cells
      have f3 := hm.frozen 3 (by omega)
      have f4 := hm.frozen 4 (by omega)
      have HM := Lib.hid hm
      have HB := Lib.hid hb1
      clear hm hb1
      simp only [okS]
      go_wp2_with fail
      obtain ⟨w2, hw2⟩ : ∃ w2, w2 = (w1.setCell ⟨P, 3, none⟩ (.int .i64 (at0 : Int))).setCell ⟨P, 4, none⟩ (.int .i64 f) := ⟨_, rfl⟩
      have HP : Hid (WkM P es env a' (at0 : Int) f EA ec VA vc bs Y w2 ∧ Fr Y w1 w2) := Lib.hid (by
        refine HM.out.put ?_ ?_
        · rw [hw2, heap_set (heap_set HM.out.blk 3 _) 4]
          rfl
        · rw [hw2]
          exact (fr_set _ _ _ _).trans (fr_set _ _ _ _))
      rw [← hw2]
      clear hw2
      go_end0
      have h0 : f ≠ 0 := by
        rcases hf with h | h
        · exact h
        · cases h
      exact ⟨⟨_, rfl⟩, (Fr.below HB.out).trans HP.out.2, a', at0, f, ⟨EA, ec, VA, vc, bs, HP.out.1⟩, rfl, rfl, h0⟩

/-- Where something is wrong already, agree does nothing. -/
theorem agree_bad (P : Nat) (es : List Pt) (env : Env) (x : Nat × Int) (v1 v2 : Value) (at0 : Nat) (Y : Nat → Prop) (w : World) (h : WkE P es env (.error x) Y w) :
    Calls Tryz.prog 99 #[pk P, v1, v2, .int .i64 at0] w (SPost P es env Y (.error x) w) := by
  have H := Lib.hid h
  have HO := Lib.hid (ok_any P es env _ Y w h)
  simp only [okS] at HO
  unfold pk at *
  clear h
  go_enter Tryz.func99, Tryz.ntmps99
  go_wp2_with fail
  refine HO.out.mono ?_
  rintro e w1 ⟨rfl, hb1⟩
  have HB := Lib.hid hb1
  clear hb1
  go_wp2_with fail
  go_end0
  exact ⟨⟨_, rfl⟩, Fr.below HB.out, H.out.later HB.out⟩
theorem agree_ok (P : Nat) (es : List Pt) (env : Env) (a : Nat) (A B : Option Addr) (c d : Nat) (t u : List Nd) (at0 : Nat) (Y : Nat → Prop) (w : World) (h : WkE P es env (.ok a) Y w) (ht : TyX w Y A t) (hu : TyX w Y B u) (gt : Gd t) (gu : Gd u) :
    Calls Tryz.prog 99 #[pk P, .slice A t.length c, .slice B u.length d, .int .i64 at0] w (SPost P es env Y (agS t u at0 a) w) := by
  have H := Lib.hid h
  have HO := Lib.hid (ok_any P es env _ Y w h)
  have HA := Lib.hid (fun v (hv : Below w.heap.size w v) => agree_any A B c d t u v (((ht.fr (Fr.below hv) fun q hq => .inl hq)).tyA) ((hu.fr (Fr.below hv) fun q hq => .inl hq).tyA) gt gu)
  have HM := Lib.hid (fun v (hv : Below w.heap.size w v) => must_any P es env (.ok a) (agB t u) at0 9 Y v (.inl (by decide)) (h.later hv))
  simp only [okS] at HO
  unfold pk at *
  clear h ht hu gt gu
  go_enter Tryz.func99, Tryz.ntmps99
  go_wp2_with fail
  refine HO.out.mono ?_
  rintro e w1 ⟨rfl, hb1⟩
  have HB1 := Lib.hid hb1
  clear hb1
  go_wp2_with fail
  refine (HA.out _ HB1.out).mono ?_
  rintro e w2 ⟨rfl, hb2⟩
  have HB2 := Lib.hid (ext_trans HB1.out hb2)
  clear hb2
  go_wp2_with fail
  refine (HM.out _ HB2.out).mono ?_
  rintro e w3 ⟨⟨v, rfl⟩, hf, hk⟩
  have HP : Hid (Fr Y w w3 ∧ WkE P es env (agS t u at0 a) Y w3) := Lib.hid ⟨(Fr.below HB2.out).trans hf, hk⟩
  clear hf hk
  go_wp2_with fail
  go_end0
  exact ⟨⟨_, rfl⟩, HP.out.1, HP.out.2⟩

theorem infoB : (Tryz.prog.info? 36).map (fun i => (i.zero, i.size, i.bytes)) = some (some (.agg #[.string ByteArray.empty, .slice none 0 0]), 2, 40) := by kernel_rfl
section
variable {w : World} {ops : Array Oper} {rest : List Oper} {o : Oper} {a : Act} {Q : Exit → Act → World → Prop}
theorem wpList_appB (hgd : o.guard = none) (s x : Operand)
    (ho : o.op = .call { callee := .builtin .append, args := #[s, x], argTypes := #[22, 22] })
    (base : Nat) {A : Option Addr} {cap m n : Nat} {l : List Bn} (hm : l.length = m) (hs : a.eval s = .slice A m cap) (hown : OwnB w base A cap l) {B : Nat} {A2 : Option Addr} {c : Nat} {l2 : List Bn} (hn : l2.length = n) (hx : a.eval x = .slice A2 n c) (hr : ReadB w B A2 l2)
    (hlen : m + n ≤ 1000000000000) (hbase : base ≤ w.heap.size)
    (h : ∀ A' cap' w', OwnB w' base A' cap' (l ++ l2) → w.grownBy w' ((Value.slice A l.length cap).ownBlock) →
      ((Value.slice A' (l.length + l2.length) cap').ownBlock = (Value.slice A l.length cap).ownBlock ∨ (Value.slice A' (l.length + l2.length) cap').ownBlock = some w.heap.size) → wpList Tryz.prog ops Q rest (a.put o.dst (.slice A' (m + n) cap')) w') : wpList Tryz.prog ops Q (o :: rest) a w := by
  subst hm hn
  obtain ⟨i0, hi, hz0, hz1, hz2⟩ := info_parts infoB
  exact wpList_app w encB_len encB_one hgd s x 22 ho base 36 i0 _ 40 Tryz.underlying22 hi hz0 hz1 hz2 rfl (by decide) hs hown hx hr (by unfold maxLen; omega) (by omega) hbase h
end

/-- The blocks that may be written. -/
def YW (P : Nat) (VA : Option Addr) (q : Nat) : Prop := q = P ∨ ∃ a, VA = some a ∧ a.block = q

theorem WkM.app {P a : Nat} {es : List Pt} {env e2 : Env} {p e : Int} {EA VA A5 : Option Addr} {ec vc c5 : Nat} {bs ls : List Bn} {Y : Nat → Prop} {w w5 : World} (h : WkM P es env a p e EA ec VA vc bs Y w) (hown : OwnB w5 0 A5 c5 (bs ++ ls)) (hg : w.grownBy w5 ((Value.slice VA bs.length vc).ownBlock))
    (hA : (Value.slice A5 (bs.length + ls.length) c5).ownBlock = (Value.slice VA bs.length vc).ownBlock ∨ (Value.slice A5 (bs.length + ls.length) c5).ownBlock = some w.heap.size) (k : EnvM w Y ls e2) (hv : env.length + e2.length ≤ 1000000) :
    WkM P es (env ++ e2) a p e EA ec A5 c5 (bs ++ ls) (YW P A5) (w5.setCell ⟨P, 2, none⟩ (.slice A5 (bs.length + ls.length) c5)) ∧ Fr Y w (w5.setCell ⟨P, 2, none⟩ (.slice A5 (bs.length + ls.length) c5)) ∧ YNew Y (YW P A5) w ∧
      w5.cell? ⟨P, 2, none⟩ = some (.slice VA bs.length vc) ∧ w5.frozen? ⟨P, 2, none⟩ = false := by
  have hP := h.lt P ((h.y P).2 (.inl rfl))
  have hb : w5.heap[P]? = w.heap[P]? := hg.block P hP fun e => by
    obtain ⟨b, hb, e2⟩ := ownBlock_of e.symm
    exact h.np b hb e2
  have hblk := hb.trans h.blk
  have hne : ∀ b, A5 = some b → b.block ≠ P := by
    rintro b rfl
    simp only [Value.ownBlock] at hA
    rcases hA with e | e
    · obtain ⟨a2, rfl, e2⟩ := ownBlock_of e.symm
      rw [← e2]
      exact h.np a2 rfl
    · injection e with e
      omega
  have hyn : YNew Y (YW P A5) w := by
    rintro q (rfl | ⟨b, rfl, rfl⟩)
    · exact .inl ((h.y _).2 (.inl rfl))
    · simp only [Value.ownBlock] at hA
      rcases hA with e | e
      · obtain ⟨a2, rfl, e2⟩ := ownBlock_of e.symm
        exact .inl ((h.y _).2 (.inr ⟨a2, rfl, e2⟩))
      · injection e with e
        exact .inr (by omega)
  have hf : Fr Y w (w5.setCell ⟨P, 2, none⟩ (.slice A5 (bs.length + ls.length) c5)) := by
    refine Fr.setCell (Fr.grown hg fun q e => ?_) (.inl ((h.y _).2 (.inl rfl))) _
    obtain ⟨b, hb, e2⟩ := ownBlock_of e
    exact (h.y q).2 (.inr ⟨b, hb, e2⟩)
  refine ⟨⟨?_, ?_, h.ex.fr hf hyn, EnvM.app (h.en.fr hf hyn) (k.fr hf hyn), fun q => Iff.rfl, hne, h.el, by rw [List.length_append]; exact hv⟩, hf, hyn, by simp [World.cell?, hblk], by simp [World.frozen?, hblk]⟩
  · rw [heap_set hblk 2, List.length_append]
    rfl
  · exact OwnL.fr hown (fr_set w5 P 2 _) hne

theorem YNew.trans {Y Y1 Y2 : Nat → Prop} {w w1 : World} (h : YNew Y Y1 w) (k : YNew Y1 Y2 w1) (hz : w.heap.size ≤ w1.heap.size) : YNew Y Y2 w := fun q hq => by
  rcases k q hq with h1 | h1
  · exact h q h1
  · exact .inr (by omega)
theorem YNew.refl (Y : Nat → Prop) (w : World) : YNew Y Y w := fun _q hq => .inl hq

/-- The names are cut again. -/
theorem WkM.cut {P a : Nat} {es : List Pt} {env e2 : Env} {p e : Int} {EA VA : Option Addr} {ec vc n : Nat} {bs : List Bn} {Y : Nat → Prop} {w : World} (h : WkM P es (env ++ e2) a p e EA ec VA vc bs Y w) (hn : n = env.length) :
    WkM P es env a p e EA ec VA vc (bs.take n) Y (w.setCell ⟨P, 2, none⟩ (.slice VA n vc)) ∧ Fr Y w (w.setCell ⟨P, 2, none⟩ (.slice VA n vc)) ∧ n ≤ bs.length ∧ n ≤ vc := by
  subst hn
  have hl : bs.length = env.length + e2.length := by rw [h.en.1, List.length_append]
  have hlt : (bs.take env.length).length = env.length := by rw [List.length_take, hl]; omega
  have hf2 : Fr Y w (w.setCell ⟨P, 2, none⟩ (.slice VA env.length vc)) := (fr_set w P 2 _).mono fun q hq => (h.y q).2 (.inl hq)
  refine ⟨⟨?_, ?_, h.ex.fr hf2 fun q hq => .inl hq, EnvM.take (h.en.fr hf2 fun q hq => .inl hq), h.y, h.np, h.el, ?_⟩, hf2, by omega, ?_⟩
  · rw [heap_set h.blk 2, hlt]
    rfl
  · exact OwnL.fr (OwnL.cut encB_len h.own (by omega)) (fr_set w P 2 _) h.np
  · have := h.vl
    rw [List.length_append] at this
    omega
  · have := OwnL.le_cap h.own
    omega

set_option maxRecDepth 100000 in
set_option maxHeartbeats 4000000 in
theorem with_any (P : Nat) (es : List Pt) (nx : Nx) (HN : Hid (NextC P es nx)) (env e2 : Env) (s : StW) (r : Ans) (LA : Option Addr) (lc : Nat) (ls : List Bn) (Y : Nat → Prop) (w : World) (h : WkE P es env s Y w) (hr : ReadB w w.heap.size LA ls) (he : EnvM w Y ls e2) (hl : e2.length ≤ 2) (hvl : env.length ≤ 900000) (hn : nxS nx (env ++ e2) s = some r) :
    Calls Tryz.prog 97 #[pk P, .slice LA ls.length lc] w (NxPost P es env Y r w) := by
  obtain ⟨a, p, e, ⟨EA, ec, VA, vc, bs, hm⟩, hs⟩ := h
  obtain ⟨_, _, c2, _, _⟩ := hm.cells
  have f2 := hm.frozen 2 (by omega)
  have HM := Lib.hid hm
  have HS := Lib.hid hs
  have HR := Lib.hid (And.intro hr (And.intro he hn))
  have hbl : bs.length ≤ 900000 := by rw [hm.en.1]; exact hvl
  have hll : ls.length ≤ 2 := by rw [he.1]; exact hl
  clear hm hs hr he hn
  unfold pk at *
  go_enter Tryz.func97, Tryz.ntmps97
  go_wp2_with (at_builtin; refine wpList_appB rfl (.tmp 16) (.tmp 17) rfl 0 (m := bs.length) (n := ls.length) rfl rfl HM.out.own rfl rfl HR.out.1 (by omega) (Nat.zero_le _) ?_; intro A5 c5 w5 hown5 hg5 hA5; have K5 := Lib.hid (HM.out.app hown5 hg5 hA5 HR.out.2.1 (by omega)); have k2 := K5.out.2.2.2.1; have kf2 := K5.out.2.2.2.2; clear hown5 hg5 hA5)
  obtain ⟨w6, hw6⟩ : ∃ w6, w6 = w5.setCell ⟨P, 2, none⟩ (.slice A5 (bs.length + ls.length) c5) := ⟨_, rfl⟩
  rw [← hw6] at K5
  rw [← hw6]
  clear hw6 k2 kf2 c2 f2
  have HX := Lib.hid (HN.out (env ++ e2) s r _ w6 HR.out.2.2 ⟨a, p, e, ⟨EA, ec, A5, c5, _, K5.out.1⟩, HS.out⟩)
  unfold pk at HX
  go_wp2_with fail
  refine HX.out.mono ?_
  rintro x w7 ⟨Y7, hf7, hy7, ⟨a7, p7, e7, ⟨EA7, ec7, VA7, vc7, bs7, hm7⟩, hs7⟩, hv7⟩
  obtain ⟨v7, rfl⟩ : ∃ v, x = .returned v := by
    cases r with
    | ok y =>
      obtain ⟨t, b⟩ := y
      obtain ⟨A, c, rfl, _⟩ := hv7
      exact ⟨_, rfl⟩
    | error y => exact ⟨_, hv7⟩
  have HV7 := Lib.hid (And.intro hf7 (And.intro hy7 (And.intro hm7 (And.intro hs7 hv7))))
  have HC := Lib.hid (hm7.cut (n := bs.length) HM.out.en.1)
  obtain ⟨_, _, c2, _, _⟩ := hm7.cells
  have f2 := hm7.frozen 2 (by omega)
  have hb7 := HC.out.2.2.1
  have hc7 := HC.out.2.2.2
  clear hf7 hy7 hm7 hs7 hv7
  go_wp2_with fail
  have HP : Hid (NxPost P es env Y r w (.returned v7) (w7.setCell ⟨P, 2, none⟩ (.slice VA7 bs.length vc7))) := Lib.hid (by
    obtain ⟨hf7, hy7, hm7, hs7, hv7⟩ := HV7.out
    have f1 := Fr.new K5.out.2.1 hf7 K5.out.2.2.1
    have y1 := YNew.trans K5.out.2.2.1 hy7 K5.out.2.1.size
    have f3 := Fr.new f1 HC.out.2.1 y1
    refine ⟨Y7, f3, y1, ⟨a7, p7, e7, ⟨EA7, ec7, VA7, vc7, _, HC.out.1⟩, hs7⟩, ?_⟩
    cases r with
    | ok y =>
      obtain ⟨t, b⟩ := y
      obtain ⟨A, c, e1, e2⟩ := hv7
      exact ⟨A, c, e1, e2.fr HC.out.2.1 fun q hq => .inl hq⟩
    | error y => exact hv7)
  clear HV7 HC K5
  go_ret
  exact HP.out
end Go.Proofs.YtmjdhfbnmmdjiaaGreat

/- The program's Same, Plain, Static, and the library's loops beneath. -/
namespace Go.Proofs.YtmjdhfbnmmdjiaaGreat
open Go.RowKit

theorem sameNd_dyn {x y : Nd} (hx : x.k = 0) (hy : y.k = 0) : sameNd x y = (x.s.toList == y.s.toList) := by
  unfold sameNd ndEq Nd.bare
  simp [hx, hy]

theorem sameNd_not {x y : Nd} (h : ¬ (x.k = 0 ∧ y.k = 0)) : sameNd x y = ndEq x y := by
  unfold sameNd ndEq Nd.bare
  by_cases hx : x.k = 0
  · have hy : ¬ y.k = 0 := fun hy => h ⟨hx, hy⟩
    have hy0 : ((0 : Int) == y.k) = false := by rw [beq_eq_false_iff_ne]; exact fun e => hy e.symm
    simp [hx, hy, hy0]
  · by_cases hy : y.k = 0
    · have hx0 : (x.k == (0 : Int)) = false := by rw [beq_eq_false_iff_ne]; exact hx
      simp [hx, hy, hx0]
    · simp [hx, hy]

set_option maxHeartbeats 1000000 in
theorem sameC_any (x y : Nd) (w : World) :
    Calls Tryz.prog 134 #[.agg #[.int .i64 x.k, .string x.s, .int .i64 x.n], .agg #[.int .i64 y.k, .string y.s, .int .i64 y.n]] w fun e w' => e = .returned (.bool (sameNd x y)) ∧ Below w.heap.size w w' := by
  by_cases h : x.k = 0 ∧ y.k = 0
  · have hx : (x.k == 0) = true := by simpa using h.1
    have hy : (y.k == 0) = true := by simpa using h.2
    have hfin := Lib.hid (sameNd_dyn h.1 h.2)
    clear h
    go_enter Tryz.func134, Tryz.ntmps134
    go_wp2_with fail
    go_ret
    exact ⟨ret_bool (by rw [hfin.out]), by repeat (first | exact Below.refl _ _ | refine ext_alloc ?_ _)⟩
  · have hfin := Lib.hid (sameNd_not h)
    have heq := run_eqNode x y
    simp only [Nd.val] at heq
    by_cases hx : (x.k == 0) = true
    · have hy : (y.k == 0) = false := by
        rw [beq_eq_false_iff_ne]; intro e; exact h ⟨by simpa using hx, e⟩
      clear h
      go_enter Tryz.func134, Tryz.ntmps134
      go_wp2_with fail
      go_ret
      exact ⟨ret_bool (by rw [hfin.out]), by repeat (first | exact Below.refl _ _ | refine ext_alloc ?_ _)⟩
    · have hx' : (x.k == 0) = false := by simpa using hx
      clear h hx
      go_enter Tryz.func134, Tryz.ntmps134
      go_wp2_with fail
      go_ret
      exact ⟨ret_bool (by rw [hfin.out]), by repeat (first | exact Below.refl _ _ | refine ext_alloc ?_ _)⟩

set_option maxRecDepth 100000 in
set_option maxHeartbeats 1000000 in
theorem equalFunc_any (A B : Option Addr) (c d : Nat) (xs ys : List Nd) (w : World) (ha : TyA w w.heap.size A xs) (hb : TyA w w.heap.size B ys)
    (hl : xs.length ≤ 9223372036854775807) :
    Calls Tryz.prog 133 #[.slice A xs.length c, .slice B ys.length d, .func (.func 134) #[] #[]] w fun e w' => e = .returned (.bool (sameB xs ys)) ∧ Below w.heap.size w w' := by
  by_cases hlen : xs.length = ys.length
  · rw [← hlen]
    have Hlen := Lib.hid hlen
    clear hlen
    go_enter Tryz.func133, Tryz.ntmps133
    go_wp2_with fail
    go_loopw [17] (fun i w' => ∃ k : Nat, k ≤ xs.length ∧ i = .int .i64 k ∧ Below w.heap.size w w' ∧ Hid (sameFrom xs ys k = sameB xs ys)) (fun i _ => xs.length - (intOf i).toNat)
    case atStart => exact ⟨0, Nat.zero_le _, rfl, Below.refl _ _, Lib.hid rfl⟩
    case round =>
      obtain ⟨k, hk, rfl, hbel, hgood⟩ := hrel
      by_cases hp : k < xs.length
      · obtain ⟨x, hx⟩ := getq_ex hp
        obtain ⟨y, hy⟩ := getq_ex (show k < ys.length by rw [← Hlen.out]; exact hp)
        have hp2 : k < ys.length := by rw [← Hlen.out]; exact hp
        have hstep := Lib.hid (sameFrom_step hx hy)
        obtain ⟨b1, o1, rfl, hb1, c10, c11, c12⟩ := ((ha.below hbel).more hbel.size).at_ hx
        obtain ⟨b2, o2, rfl, hb2, c20, c21, c22⟩ := ((hb.below hbel).more hbel.size).at_ hy
        have q1 : b1 < wr.heap.size + 1 := by omega
        have q2 : b2 < wr.heap.size + 1 := by omega
        clear hx hy
        cases he : sameNd x y
        all_goals
          have He := Lib.hid he
          clear he
          go_wp2_with (go_at_call 134; refine (sameC_any x y _).mono ?_; rintro e w1 ⟨rfl, hbx⟩; rw [He.out])
        · go_ret
          exact ⟨ret_bool (by rw [← hgood.out, hstep.out, He.out]; rfl), by repeat (first | exact hbel | refine ext_trans ?_ hbx | refine ext_alloc ?_ _ | refine ext_set ?_ (by simp; omega) _)⟩
        · go_roundw
          case rel => exact ⟨k + 1, hp, by go_num, (by repeat (first | exact hbel | refine ext_trans ?_ hbx | refine ext_alloc ?_ _ | refine ext_set ?_ (by simp; omega) _)), Lib.hid (by rw [← hgood.out, hstep.out, He.out, Bool.true_and])⟩
          case measure => simp [intOf]; omega
      · have hfin := Lib.hid (sameFrom_end Hlen.out hp)
        go_wp2_with fail
        go_ret
        exact ⟨ret_bool (by rw [← hgood.out, hfin.out]), hbel⟩
  · have hle : ((xs.length : Int) != (ys.length : Int)) = true := by simp; omega
    have hfin := Lib.hid (sameB_len hlen)
    clear hlen
    go_enter Tryz.func133, Tryz.ntmps133
    go_wp2_with fail
    go_ret
    exact ⟨ret_bool (by rw [hfin.out]), Below.refl _ _⟩

set_option maxHeartbeats 1000000 in
theorem same_any (A B : Option Addr) (c d : Nat) (xs ys : List Nd) (w : World) (ha : TyA w w.heap.size A xs) (hb : TyA w w.heap.size B ys)
    (hl : xs.length ≤ 9223372036854775807) :
    Calls Tryz.prog 105 #[.slice A xs.length c, .slice B ys.length d] w fun e w' => e = .returned (.bool (sameB xs ys)) ∧ Below w.heap.size w w' := by
  go_enter Tryz.func105, Tryz.ntmps105
  go_wp2_with (go_at_call 133; refine (equalFunc_any A B c d xs ys _ ha hb hl).mono ?_; rintro e w1 ⟨rfl, hbx⟩)
  go_ret
  exact ⟨rfl, hbx⟩

/-- A row of ints that does not change: block b holds them from place 0 on. -/
def Ints (w : World) (b : Nat) (l : List Int) : Prop := b < w.heap.size ∧ ∀ i n, l[i]? = some n → w.cell? ⟨b, i, none⟩ = some (.int .i64 n)

theorem Ints.below {w w' : World} {b : Nat} {l : List Int} (h : Ints w b l) {B : Nat} (hb : Below B w w') (hB : b < B) : Ints w' b l :=
  ⟨Nat.lt_of_lt_of_le h.1 hb.size, fun i n hn => (hb.cell (p := ⟨b, i, none⟩) hB).trans (h.2 i n hn)⟩

end Go.Proofs.YtmjdhfbnmmdjiaaGreat

/- The ways of check's walk: what they share; lit, as, let. -/
namespace Go.Proofs.YtmjdhfbnmmdjiaaGreat
open Go.RowKit

/-- A part as a value, and in its box. -/
def pv (p : Pt) (TA : Option Addr) (tc : Nat) (UA : Option Addr) (uc : Nat) : Value :=
  .agg #[.int .i64 p.k, .string p.lb, .string p.nm, .string p.bd, .int .i64 p.mn, .int .i64 p.num, .slice TA p.T.length tc, .slice UA p.U.length uc]
structure PtM (w : World) (Y : Nat → Prop) (b : Nat) (p : Pt) (TA : Option Addr) (tc : Nat) (UA : Option Addr) (uc : Nat) : Prop where
  blk : w.heap[b]? = some (.cells #[.int .i64 p.k, .string p.lb, .string p.nm, .string p.bd, .int .i64 p.mn, .int .i64 p.num, .slice TA p.T.length tc, .slice UA p.U.length uc] 33 (0, 0))
  off : ¬ Y b
  T : TyV w Y TA tc p.T
  U : TyV w Y UA uc p.U
section
variable {w w' : World} {Y Y' : Nat → Prop} {b : Nat} {p : Pt} {TA UA : Option Addr} {tc uc : Nat}
theorem PtM.fr (h : PtM w Y b p TA tc UA uc) (hf : Fr Y w w') (hy : YNew Y Y' w) : PtM w' Y' b p TA tc UA uc := by
  have hb : b < w.heap.size := (Array.getElem?_eq_some_iff.1 h.blk).1
  refine ⟨(hf.block b hb h.off).trans h.blk, fun h2 => ?_, h.T.fr hf hy, h.U.fr hf hy⟩
  rcases hy b h2 with h3 | h3
  · exact h.off h3
  · omega
theorem PtM.later (h : PtM w Y b p TA tc UA uc) (hb : Below w.heap.size w w') : PtM w' Y b p TA tc UA uc := h.fr (Fr.below hb) (YNew.refl _ _)
theorem TyV.later {A : Option Addr} {c : Nat} {t : List Nd} (h : TyV w Y A c t) (hb : Below w.heap.size w w') : TyV w' Y A c t := h.fr (Fr.below hb) (YNew.refl _ _)
/-- Its cells. -/
theorem PtM.cells (h : PtM w Y b p TA tc UA uc) : w.cell? ⟨b, 0, none⟩ = some (.int .i64 p.k) ∧ w.cell? ⟨b, 1, none⟩ = some (.string p.lb) ∧ w.cell? ⟨b, 2, none⟩ = some (.string p.nm) ∧ w.cell? ⟨b, 3, none⟩ = some (.string p.bd) ∧ w.cell? ⟨b, 4, none⟩ = some (.int .i64 p.mn) ∧
    w.cell? ⟨b, 6, none⟩ = some (.slice TA p.T.length tc) ∧ w.cell? ⟨b, 7, none⟩ = some (.slice UA p.U.length uc) :=
  ⟨by simp [World.cell?, h.blk], by simp [World.cell?, h.blk], by simp [World.cell?, h.blk], by simp [World.cell?, h.blk], by simp [World.cell?, h.blk], by simp [World.cell?, h.blk], by simp [World.cell?, h.blk]⟩
theorem PtM.new (hY : ∀ q, Y q → q < w.heap.size) (hT : TyV w Y TA tc p.T) (hU : TyV w Y UA uc p.U) : PtM (w.alloc (.cells #[.int .i64 p.k, .string p.lb, .string p.nm, .string p.bd, .int .i64 p.mn, .int .i64 p.num, .slice TA p.T.length tc, .slice UA p.U.length uc] 33)) Y w.heap.size p TA tc UA uc := by
  have hb : Below w.heap.size w (w.alloc (.cells #[.int .i64 p.k, .string p.lb, .string p.nm, .string p.bd, .int .i64 p.mn, .int .i64 p.num, .slice TA p.T.length tc, .slice UA p.U.length uc] 33)) := ext_alloc (Below.refl _ _) _
  exact ⟨heap_alloc_new _ _, fun h => absurd (hY _ h) (Nat.lt_irrefl _), hT.later hb, hU.later hb⟩
end
/-- The step that next makes, for all that is held. -/
theorem NxPost.keep {P : Nat} {es : List Pt} {env : Env} {Y : Nat → Prop} {r : Ans} {w w' : World} {e : Ending} (h : NxPost P es env Y r w e w') : ∃ v, e = .returned v := by
  obtain ⟨Y', _, _, _, h⟩ := h
  match r, h with
  | .ok (t, a), ⟨A, c, e1, _⟩ => exact ⟨_, e1⟩
  | .error x, e1 => exact ⟨_, e1⟩

theorem YNew.up {Y Y2 : Nat → Prop} {w w1 : World} (h : YNew Y Y2 w1) (hz : w.heap.size ≤ w1.heap.size) : YNew Y Y2 w := fun q hq => by
  rcases h q hq with h1 | h1
  · exact .inl h1
  · exact .inr (by omega)

theorem andA_some {x : Option Ans} {f : List Nd → Nat → Option Ans} {r : Ans} (h : andA x f = some r) : (∃ b, x = some (.error b) ∧ r = .error b) ∨ ∃ t a, x = some (.ok (t, a)) ∧ f t a = some r := by
  match x, h with
  | some (.error b), h =>
    simp only [andA] at h
    injection h with h
    exact .inl ⟨b, rfl, h.symm⟩
  | some (.ok (t, a)), h => exact .inr ⟨t, a, rfl, h⟩

set_option maxRecDepth 100000 in
set_option maxHeartbeats 4000000 in
theorem lit_any (P : Nat) (es : List Pt) (env : Env) (p : Pt) (at0 a : Nat) (r : Ans) (Y : Nat → Prop) (w : World) (TA UA : Option Addr) (tc uc : Nat) (h : WkE P es env (.ok a) Y w) (hT : TyV w Y TA tc p.T) (hU : TyV w Y UA uc p.U) (hm : litM p a = some r) :
    Calls Tryz.prog 64 #[pk P, pv p TA tc UA uc, .int .i64 at0] w (WyPost P es env Y r w) := by
  have HM := Lib.hid (PtM.new h.lt hT hU)
  have HB : Hid (Below w.heap.size w (w.alloc (.cells #[.int .i64 p.k, .string p.lb, .string p.nm, .string p.bd, .int .i64 p.mn, .int .i64 p.num, .slice TA p.T.length tc, .slice UA p.U.length uc] 33))) := Lib.hid (ext_alloc (Below.refl _ _) _)
  have H := Lib.hid (h.later HB.out)
  have HR : Hid (r = .ok (p.T, a)) := Lib.hid (by injection hm with hm; exact hm.symm)
  clear h hT hU hm
  unfold pk pv
  go_enter Tryz.func64, Tryz.ntmps64
  go_wp2_with fail
  go_ret
  refine ⟨Y, Fr.below HB.out, YNew.refl _ _, ?_⟩
  rw [HR.out]
  exact ⟨H.out, TA, tc, rfl, HM.out.T⟩

set_option maxRecDepth 100000 in
set_option maxHeartbeats 4000000 in
theorem as_any (P : Nat) (es : List Pt) (nx : Nx) (HN : Hid (NextC P es nx)) (env : Env) (p : Pt) (at0 a : Nat) (r : Ans) (Y : Nat → Prop) (w : World) (TA UA : Option Addr) (tc uc : Nat) (h : WkE P es env (.ok a) Y w) (hT : TyV w Y TA tc p.T) (hU : TyV w Y UA uc p.U) (gT : Gd p.T) (hG : ∀ env a t b, nx env a = some (.ok (t, b)) → Gd t) (hm : asM nx env p at0 a = some r) :
    Calls Tryz.prog 76 #[pk P, pv p TA tc UA uc, .int .i64 at0] w (WyPost P es env Y r w) := by
  obtain ⟨w1, hw1⟩ : ∃ w1, w1 = w.alloc (.cells #[.int .i64 p.k, .string p.lb, .string p.nm, .string p.bd, .int .i64 p.mn, .int .i64 p.num, .slice TA p.T.length tc, .slice UA p.U.length uc] 33) := ⟨_, rfl⟩
  have hpm := PtM.new h.lt hT hU
  have hb1 : Below w.heap.size w w1 := by rw [hw1]; exact ext_alloc (Below.refl _ _) _
  rw [← hw1] at hpm
  have HPM := Lib.hid hpm
  have HB := Lib.hid hb1
  have H := Lib.hid (h.later hb1)
  have HR := Lib.hid (andA_some hm)
  have HD := Lib.hid (And.intro gT hG)
  clear h hT hU hm gT hG hpm hb1
  unfold pk pv
  go_enter Tryz.func76, Tryz.ntmps76
  go_upto_region 1 with fail
  rw [← hw1]
  clear hw1
  obtain ⟨SS, hSS⟩ : ∃ SS : World → Prop, SS = fun v => v.cell? ⟨w.heap.size, 6, none⟩ = some (.slice TA p.T.length tc) := ⟨_, rfl⟩
  have HS : Hid (∀ v Y', PtM v Y' w.heap.size p TA tc UA uc → SS v) := Lib.hid fun v Y' hv => by rw [hSS]; exact hv.cells.2.2.2.2.2.1
  obtain ⟨wd, hwd⟩ : ∃ wd, wd = w1.drew := ⟨_, rfl⟩
  have HBd : Hid (Below w1.heap.size w1 wd) := Lib.hid (by rw [hwd]; exact (Below.refl _ _).drew)
  have HMd := Lib.hid (HPM.out.later HBd.out)
  have HWd := Lib.hid (H.out.later HBd.out)
  have hsd : SS wd := HS.out _ _ HMd.out
  refine wp_region_L_drew (S := SS) [6] (by kernel_rfl) (by rw [← hwd]; exact hsd) (fun hHeld => ?_)
  rw [← hwd] at hHeld ⊢
  clear hwd
  refine onA 0 [6] (some 7) rfl rfl ?_
  refine onA 1 [2, 6] (some 8) rfl rfl ?_
  refine onA 3 [4, 6] (some 10) rfl rfl ?_
  refine onA 4 [6] (some 11) rfl rfl ?_
  refine onA 5 [6] (some 12) rfl rfl ?_
  rcases HR.out with ⟨x, h1, hr⟩ | ⟨t, b, h1, hr⟩
  · have HX := Lib.hid (HN.out env (.ok a) _ Y wd h1 HWd.out)
    unfold pk at HX
    refine callL 2 (some 9) rfl rfl (by kernel_rfl) (by rfl) (by kernel_rfl) HX.out ?_
    rintro e w2 ⟨Y2, hf2, hy2, hk2, rfl⟩
    have HM2 := Lib.hid (HMd.out.fr hf2 hy2)
    have hs2 : SS w2 := HS.out _ _ HM2.out
    refine ⟨_, rfl, hs2, ?_⟩
    refine putA ?_
    have HX2 := Lib.hid (agree_bad P es env x (.slice none 0 0) (.slice TA p.T.length tc) at0 Y2 w2 hk2)
    have HF2 : Hid (Fr Y w w2 ∧ YNew Y Y2 w) := Lib.hid ⟨(Fr.below (ext_trans HB.out HBd.out)).trans hf2, YNew.up hy2 (ext_trans HB.out HBd.out).size⟩
    unfold pk at HX2
    refine callL 6 (some 13) rfl rfl (by kernel_rfl) (by rfl) (by kernel_rfl) HX2.out ?_
    rintro e w3 ⟨⟨v3, rfl⟩, hf3, hk3⟩
    have HM3 := Lib.hid (HM2.out.fr hf3 (YNew.refl _ _))
    refine ⟨_, rfl, HS.out _ _ HM3.out, ?_⟩
    refine putA ?_
    refine doneL (by kernel_rfl) ?_ _
    have c6 := HM3.out.cells.2.2.2.2.2.1
    have HQ : Hid (WyPost P es env Y r w (.returned (.slice TA p.T.length tc)) w3) := Lib.hid (by
      subst hr
      exact ⟨Y2, Fr.new HF2.out.1 hf3 HF2.out.2, HF2.out.2, hk3, _, _, _, rfl⟩)
    clear hf2 hy2 hk2 hf3 hk3 hs2 hHeld hsd
    go_wp2_with fail
    go_ret
    exact HQ.out
  · have HX := Lib.hid (HN.out env (.ok a) _ Y wd h1 HWd.out)
    unfold pk at HX
    refine callL 2 (some 9) rfl rfl (by kernel_rfl) (by rfl) (by kernel_rfl) HX.out ?_
    rintro e w2 ⟨Y2, hf2, hy2, hk2, A2, c2, rfl, ht2⟩
    have HM2 := Lib.hid (HMd.out.fr hf2 hy2)
    have hs2 : SS w2 := HS.out _ _ HM2.out
    refine ⟨_, rfl, hs2, ?_⟩
    refine putA ?_
    have HX2 := Lib.hid (agree_ok P es env b A2 TA c2 tc t p.T at0 Y2 w2 hk2 ht2.ty HM2.out.T.ty (HD.out.2 _ _ _ _ h1) HD.out.1)
    have HF2 : Hid (Fr Y w w2 ∧ YNew Y Y2 w) := Lib.hid ⟨(Fr.below (ext_trans HB.out HBd.out)).trans hf2, YNew.up hy2 (ext_trans HB.out HBd.out).size⟩
    unfold pk at HX2
    refine callL 6 (some 13) rfl rfl (by kernel_rfl) (by rfl) (by kernel_rfl) HX2.out ?_
    rintro e w3 ⟨⟨v3, rfl⟩, hf3, hk3⟩
    have HM3 := Lib.hid (HM2.out.fr hf3 (YNew.refl _ _))
    refine ⟨_, rfl, HS.out _ _ HM3.out, ?_⟩
    refine putA ?_
    refine doneL (by kernel_rfl) ?_ _
    have c6 := HM3.out.cells.2.2.2.2.2.1
    have HQ : Hid (WyPost P es env Y r w (.returned (.slice TA p.T.length tc)) w3) := Lib.hid (by
      unfold agS at hk3
      by_cases hag : agB t p.T = true
      · rw [if_pos hag] at hk3 hr
        injection hr with hr
        subst hr
        exact ⟨Y2, Fr.new HF2.out.1 hf3 HF2.out.2, HF2.out.2, hk3, _, _, rfl, HM3.out.T⟩
      · rw [if_neg hag] at hk3 hr
        injection hr with hr
        subst hr
        exact ⟨Y2, Fr.new HF2.out.1 hf3 HF2.out.2, HF2.out.2, hk3, _, _, _, rfl⟩)
    clear hf2 hy2 hk2 hf3 hk3 hs2 hHeld hsd ht2 h1 hr
    go_wp2_with fail
    go_ret
    exact HQ.out
end Go.Proofs.YtmjdhfbnmmdjiaaGreat
