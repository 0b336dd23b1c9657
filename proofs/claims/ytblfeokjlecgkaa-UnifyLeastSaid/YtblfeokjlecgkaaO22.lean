/- Laid together by a tool from the texts of this seat: UBec UShare UEnds. Conditions: each theorem's own. -/
import Derived.Test.YtblfeokjlecgkaaO20
import Derived.Test.YtblfeokjlecgkaaO21
/- unify.becomes, walked. -/
namespace Go.Proofs.Ytblfeokjlecgkaa
open Go.RowKit

/-- What the solver's functions may write. -/
abbrev SX (s m : Nat) : Nat → Prop := fun k => k = s ∨ k = m

theorem TG.small {U : List Lb} {S : Kn} {t : Ut} (g : TG U S t) (hU : U.length ≤ 100000) : Small S.L t := ⟨g.pend.1, U, hU, g.lb⟩

theorem TG.stc {U : List Lb} {S : Kn} {t : Ut} (h : KG U S) (g : TG U S t) : S.m ≤ (stc S.m t).2 ∧ TG U (S.up (stc S.m t).2) (stc S.m t).1 := by
  obtain ⟨a, b, c, d⟩ := stc_ok t S.m ⟨g.pend.1, g.pend.2, h.inv.new⟩
  exact ⟨a, ⟨b, d⟩, stc_fu t S.m g.fu, stc_sh t S.m g.sh, stc_nn t S.m h.nn.m g.pend.1 g.nn, stc_lab t S.m g.lb⟩

/-- What 'becomes' answers. -/
def BecPost (s m : Nat) (first : Int) (S : Kn) (num : Int) (t : Ut) (w : World) (e : Ending) (w' : World) : Prop :=
  ∃ r : Bool, e = .returned (.bool r) ∧ Fr (SX s m) w w' ∧ (r = false → occN num (inst S.σ (stc S.m t).1)) ∧ (r = true → ¬ occN num (inst S.σ (stc S.m t).1) ∧ ∀ S' : Kn, S'.κ = upd S.κ num (stc S.m t).1 → S'.m = (stc S.m t).2 → SolAt (SX s m) s m first w' S')

theorem SX_lt {s m : Nat} {first : Int} {w : World} {S : Kn} {X : Nat → Prop} (h : SolAt X s m first w S) : ∀ k, SX s m k → k < w.heap.size := by
  rintro k (rfl | rfl)
  · exact (Array.getElem?_eq_some_iff.1 h.st).1
  · obtain ⟨_, _, _, _, l, h3, _⟩ := h
    exact h3.lt

set_option maxRecDepth 100000 in
set_option maxHeartbeats 4000000 in
theorem becomes_any (U : List Lb) (s m : Nat) (first : Int) (S : Kn) (num : Int) (t : Ut) (b : Nat) (w : World) (hS : SolAt (SX s m) s m first w S) (hK : KG U S) (hU : U.length ≤ 100000) (hb : NodeAt (SX s m) w b t) (hsm : Small S.L t) (hmm : S.m ≤ (stc S.m t).2) (gs : RTr U (S.up (stc S.m t).2) (stc S.m t).1) (hnum : S.κ num = none) (hm : S.m + (dynT t : Nat) ≤ 4611686018427387904) :
    Calls Try.prog 111 #[pk s, .int .i64 num, pk b] w (BecPost s m first S num t w) := by
  have hst := static_any S.L s m first t hsm (SX s m) S.m w b (.inl rfl) (SX_lt hS) hS.st hb hK.nn.m hm
  have HS := Lib.hid hS
  have HK := Lib.hid (hK.up hmm)
  have HG := Lib.hid gs
  have HN := Lib.hid hnum
  have mk := @run_makeMap Try.prog
  clear hmm gs hS hK hb hsm hnum hm
  unfold pk at hst
  unfold pk
  go_enter Try.func111, Try.ntmps111
  go_wp2_with fail
  refine hst.mono ?_
  clear hst
  rintro e w1 ⟨g1, rfl, z1, z2, z3, z4⟩
  have hS1 : SolAt (SX s m) s m first w1 (S.up (stc S.m t).2) := by
    obtain ⟨a1, a2, a3, a4, l, a5, a6⟩ := HS.out
    have hml : m < w.heap.size := a5.lt
    refine ⟨a1, a2, a3, z2, l, a5.later (z3.block m hml fun e => a1 e.symm), fun n => ?_⟩
    have := a6 n
    show match S.κ n with | none => _ | some t => _
    cases hk : S.κ n with
    | none => rw [hk] at this; exact this
    | some t =>
      rw [hk] at this
      obtain ⟨b, e, hn⟩ := this
      exact ⟨b, e, hn.fr z3 fun k _ e => .inl e⟩
  have Z1 := Lib.hid (And.intro z1 (And.intro hS1 z3))
  clear z1 z2 z3 z4 hS1
  unfold pk
  go_wp2_with fail
  have hin : Calls Try.prog 144 #[pk s, .int .i64 num, pk g1, .map (some w1.heap.size)] (w1.alloc (.map #[] 0)) (InPost (fun k => SX s m k ∨ k = w1.heap.size) (S.up (stc S.m t).2) num w1.heap.size [] (stc S.m t).1 (w1.alloc (.map #[] 0))) := by
    have hba : Below w1.heap.size w1 (w1.alloc (.map #[] 0)) := ext_alloc (Below.refl _ _) _
    have hlt := SX_lt Z1.out.2.1
    have hmore : ∀ k, k < w1.heap.size → (SX s m k ∨ k = w1.heap.size) → SX s m k := fun k hk h => by
      rcases h with h | h
      · exact h
      · omega
    have hne : w1.heap.size ≠ s ∧ w1.heap.size ≠ m := ⟨fun e => by have := hlt s (.inl rfl); omega, fun e => by have := hlt m (.inr rfl); omega⟩
    refine uin_any (fun k => SX s m k ∨ k = w1.heap.size) U _ s m first num w1.heap.size HK.out hU (.inr rfl) hne HN.out _ _ (Nat.le_refl _) g1 _ [] ?_ ((Z1.out.2.1.more (.inl (.inl rfl)) (.inl (.inr rfl)) hmore).bel hba) ((Z1.out.1.more hmore).bel hba) HG.out ?_
    · rintro k (h | rfl)
      · have := hlt k h
        simp
        omega
      · simp
    · exact ⟨⟨#[], 0, heap_alloc_new w1 _, rfl⟩, fun q hq => by simp at hq⟩
  unfold pk at hin
  refine hin.mono ?_
  clear hin mk
  rintro e w3 ⟨r, rfl, f1, f2, f3⟩
  have hF : Fr (SX s m) w w3 := (Z1.out.2.2.mono fun k e => .inl e).new (((Fr.below (X := fun k => k = w1.heap.size) (ext_alloc (Below.refl w1.heap.size w1) (.map #[] 0))).trans f1)) fun b e => .inr (by have e : b = w1.heap.size := e; have := Z1.out.2.2.size; omega)
  cases r with
  | true =>
    have R := Lib.hid (And.intro hF (f2 rfl))
    clear hF f1 f2 f3
    go_wp2_with fail
    go_ret
    exact ⟨false, rfl, R.out.1, fun _ => R.out.2, fun h => by cases h⟩
  | false =>
    have hno := (f3 rfl).1
    have hba : Below w1.heap.size w1 (w1.alloc (.map #[] 0)) := ext_alloc (Below.refl _ _) _
    have hlt := SX_lt Z1.out.2.1
    have hmore : ∀ k, k < w1.heap.size → (SX s m k ∨ k = w1.heap.size) → SX s m k := fun k hk h => by
      rcases h with h | h
      · exact h
      · omega
    have hS3 : SolAt (SX s m) s m first w3 (S.up (stc S.m t).2) := (((Z1.out.2.1.more (.inl (.inl rfl)) (.inl (.inr rfl)) hmore).bel hba).fr f1 fun k _ e => by
      have e : k = w1.heap.size := e
      subst e
      exact ⟨.inr rfl, fun e => by have := hlt s (.inl rfl); omega, fun e => by have := hlt m (.inr rfl); omega⟩).more (.inl rfl) (.inr rfl) fun k _ h => .inl h
    have hN3 : NodeAt (SX s m) w3 g1 (stc S.m t).1 := (((Z1.out.1.more hmore).bel hba).fr f1 fun k _ e => .inr e).more fun k _ h => .inl h
    have s2 := hS3.cell.1
    obtain ⟨a1, a2, a3, a4, l, a5, a6⟩ := hS3
    have Q := Lib.hid (And.intro hF (And.intro hno (And.intro hN3 (And.intro a1 (And.intro a4 (And.intro a5 a6))))))
    clear hF f1 f2 f3 hno hba hlt hmore hN3 a1 a2 a3 a4 a5 a6
    go_wp2_with (refine wpList_putM rfl _ _ _ rfl Q.out.2.2.2.2.2.1 (keyer_int Try.underlying3 num l) Try.underlying85 (.pointer (some ⟨g1, 0, none⟩)) rfl rfl rfl ?_; intro w4 hM4 hg4)
    have hX4 : Fr (fun k => k = m) w3 w4 := Fr.grown hg4 fun k hk => by injection hk with hk; exact hk.symm
    have Q2 := Lib.hid (And.intro hM4 hX4)
    clear hM4 hg4 hX4
    go_wp2_with fail
    go_ret
    refine ⟨true, rfl, Q.out.1.trans (Q2.out.2.mono fun k e => .inr e), fun h => (by cases h), fun _ => ⟨Q.out.2.1, fun S' hκ hm' => ?_⟩⟩
    obtain ⟨q1, q2, q3, q4, q5, q6, q7⟩ := Q.out
    refine ⟨q4, .inl rfl, .inr rfl, ?_, _, Q2.out.1, fun n => ?_⟩
    · rw [hm', Q2.out.2.block s (Array.getElem?_eq_some_iff.1 q5).1 fun e => q4 e]
      exact q5
    · rw [hκ]
      by_cases e : n = num
      · subst e
        rw [upd_same]
        exact ⟨g1, by rw [atL_put, if_pos rfl]; rfl, q3.fr Q2.out.2 fun k _ e => .inr e⟩
      · rw [upd_other e]
        have := q7 n
        cases hk : S.κ n with
        | none =>
          have h2 : (S.up (stc S.m t).2).κ n = none := hk
          rw [h2] at this
          show atL n _ = none
          rw [atL_put, if_neg e]
          exact this
        | some y =>
          have h2 : (S.up (stc S.m t).2).κ n = some y := hk
          rw [h2] at this
          obtain ⟨b, hb, hn⟩ := this
          exact ⟨b, by rw [atL_put, if_neg e]; exact hb, hn.fr Q2.out.2 fun k _ e => .inr e⟩
end Go.Proofs.Ytblfeokjlecgkaa

/- unify.shared, walked. -/
namespace Go.Proofs.Ytblfeokjlecgkaa
open Go.RowKit

theorem ChAt.filter {X : Nat → Prop} {w : World} {cl bl : List (ByteArray × Nat)} {x y : Fl} (h : ChAt X w cl x) (k : ChAt X w bl y) : ChAt X w (cl.filter fun c => !hasC c.1 bl) (lackF x y) := by
  have hh : ∀ l, hasC l bl = hasL l (labsF y) := fun l => by
    have := k.labs
    unfold hasC hasL
    rw [← this, List.any_map]
    rfl
  have key : ∀ (n : Nat), ChAt X w ((cl.take n).filter fun c => !hasC c.1 bl) (lackF (x.take n) y) := by
    intro n
    induction n with
    | zero => exact ChAt.nil
    | succ n ih =>
      rcases Nat.lt_or_ge n cl.length with hn | hn
      · have hx : n < x.length := by rw [← h.1]; exact hn
        have e1 := List.getElem?_eq_getElem hn
        have e2 := List.getElem?_eq_getElem hx
        obtain ⟨a, b⟩ := h.2 n _ _ e1 e2
        unfold lackF at ih ⊢
        rw [List.take_add_one, List.take_add_one, e1, e2, List.filter_append, List.filter_append]
        show ChAt X w (_ ++ ([cl[n]].filter _)) (_ ++ ([x[n]].filter _))
        cases hc : hasC cl[n].1 bl with
        | true =>
          have hl : hasL x[n].1 (labsF y) = true := by rw [← hh, ← a]; exact hc
          simp only [List.filter_cons, hc, hl, List.filter_nil, Bool.not_true, Bool.false_eq_true, if_false, List.append_nil]
          exact ih
        | false =>
          have hl : hasL x[n].1 (labsF y) = false := by rw [← hh, ← a]; exact hc
          simp only [List.filter_cons, hc, hl, List.filter_nil, Bool.not_false, if_true]
          have e3 : cl[n] = (x[n].1, cl[n].2) := Prod.ext a rfl
          rw [e3]
          exact ih.snoc b
      · have hx : x.length ≤ n := by rw [← h.1]; exact hn
        rw [List.take_of_length_le hn, List.take_of_length_le hx] at ih
        rw [List.take_of_length_le (by omega), List.take_of_length_le (by omega)]
        exact ih
  have := key cl.length
  rw [List.take_length, List.take_of_length_le (by rw [← h.1]; exact Nat.le_refl _)] at this
  exact this

def chV (c : ByteArray × Nat) : Value := .agg #[.string c.1, .pointer (some ⟨c.2, 0, none⟩)]

/-- The labels that were done. -/
def DoneM (w : World) (dm : Nat) (D : List Lb) : Prop := ∃ l, KMap sk w dm l ∧ (∀ p ∈ l, p.2 = .bool true) ∧ ∀ a, a ∈ D ↔ ∃ v, atL a l = some v

theorem DoneM.look {w : World} {dm : Nat} {D : List Lb} (h : DoneM w dm D) (a : Lb) : (Instr.lookup 181 (.map (some dm)) (.string a) false).run Try.prog w = .ok (.bool (hasL a D)) w := by
  obtain ⟨l, hM, ht, hD⟩ := h
  have h1 := hM.lookup (keyer_str Try.underlying9 a l) Try.underlying181 _ (zeroB w) false
  have h2 : (atL a l).getD (.bool false) = .bool (hasL a D) := by
    cases e : atL a l with
    | none =>
      have : hasL a D = false := by
        cases hh : hasL a D with
        | false => rfl
        | true =>
          obtain ⟨v, hv⟩ := (hD a).1 (hasL_iff.1 hh)
          rw [e] at hv
          cases hv
      rw [this]
      rfl
    | some v =>
      have : hasL a D = true := hasL_iff.2 ((hD a).2 ⟨v, e⟩)
      rw [this]
      exact ht _ (atL_mem e)
  rw [← h2]
  exact h1

theorem DoneM.bel {w w' : World} {dm : Nat} {D : List Lb} (h : DoneM w dm D) (hb : w'.heap[dm]? = w.heap[dm]?) : DoneM w' dm D := by
  obtain ⟨l, hM, r⟩ := h
  exact ⟨l, hM.later hb, r⟩

theorem DoneM.lt {w : World} {dm : Nat} {D : List Lb} (h : DoneM w dm D) : dm < w.heap.size := by
  obtain ⟨l, hM, _⟩ := h
  exact hM.lt

/-- What 'shared' answers. -/
def SharedPost (cl bl : List (ByteArray × Nat)) (D : List Lb) (w : World) (e : Ending) (w' : World) : Prop :=
  Below w.heap.size w w' ∧ ((∃ (i j : Nat) (c d : ByteArray × Nat), e = .returned (.tuple #[chV c, chV d, .bool true]) ∧ cl[i]? = some c ∧ bl[j]? = some d ∧ d.1 = c.1 ∧ c.1 ∉ D) ∨
    (e = .returned (.tuple #[.agg #[.string ByteArray.empty, .pointer none], .agg #[.string ByteArray.empty, .pointer none], .bool false]) ∧ ∀ c ∈ cl, hasC c.1 bl = true → c.1 ∈ D))

set_option maxRecDepth 100000 in
set_option maxHeartbeats 4000000 in
theorem shared_any (A B : Option Addr) (ca cb : Nat) (cl bl : List (ByteArray × Nat)) (dm : Nat) (D : List Lb) (w : World) (ha : ReadL 2 encC w w.heap.size A cl) (hb : ReadL 2 encC w w.heap.size B bl) (hla : cl.length ≤ 1000000) (hlb : bl.length ≤ 1000000) (hD : DoneM w dm D) :
    Calls Try.prog 145 #[.slice A cl.length ca, .slice B bl.length cb, .map (some dm)] w (SharedPost cl bl D w) := by
  have HA := Lib.hid ha
  have HB := Lib.hid hb
  have HD := Lib.hid hD
  clear ha hb hD
  go_enter Try.func145, Try.ntmps145
  go_wp2_with fail
  go_loopw [14] (fun s14 wr => ∃ i : Nat, s14 = .int .i64 i ∧ i ≤ cl.length ∧ Hid ((∀ (j : Nat) (c : ByteArray × Nat), j < i → cl[j]? = some c → hasC c.1 bl = true → c.1 ∈ D) ∧ Below w.heap.size w wr ∧ wr.heap[w.heap.size]? = some (.cells #[.string ByteArray.empty, .pointer none] 150 (0, 0)) ∧ wr.heap[w.heap.size + 1]? = some (.cells #[.string ByteArray.empty, .pointer none] 150 (0, 0)))) (fun s14 _ => cl.length - (intOf s14).toNat)
  case atStart =>
    have z1 : (w.alloc (.cells #[.string ByteArray.empty, .pointer none] 150)).heap.size = w.heap.size + 1 := by simp
    refine ⟨0, rfl, Nat.zero_le _, Lib.hid ⟨fun j c h => by omega, ext_alloc (ext_alloc (Below.refl _ _) _) _, (Below.heap_alloc _ _ _ (by simp)).trans (heap_alloc_new w _), ?_⟩⟩
    rw [← z1]
    exact heap_alloc_new _ _
  case round =>
    obtain ⟨i, rfl, hi, M⟩ := hrel
    by_cases hp : i < cl.length
    · obtain ⟨c, hc⟩ := getq_ex (l := cl) (i := i) hp
      obtain ⟨ba, oa, rfl, hba, k0, k1⟩ := HA.out.child hc
      have e0 := (M.out.2.1.cell (p := ⟨ba, oa + i * 2, none⟩) hba).trans k0
      have e1 := (M.out.2.1.cell (p := ⟨ba, oa + i * 2 + 1, none⟩) hba).trans k1
      have Hc := Lib.hid hc
      clear hc k0 k1
      go_wp2_with fail
      have hbw := ext_alloc M.out.2.1 (.cells #[.string c.1, .pointer (some ⟨c.2, 0, none⟩)] 150)
      have hask : AskC 178 wr.heap.size bl (fun d => decide (d.1 = c.1)) (wr.alloc (.cells #[.string c.1, .pointer (some ⟨c.2, 0, none⟩)] 150)) := fun d v _ hb => by
        refine eqC2_any d.1 c.1 _ wr.heap.size v ((hb.cell (p := ⟨wr.heap.size, 0, none⟩) (by simp)).trans ?_)
        simp only [World.cell?, heap_alloc_new]
        rfl
      refine (indexC_any _ (.inr (.inl rfl)) wr.heap.size B cb bl _ _ ((HB.out.below hbw).more hbw.size) hlb hask).mono ?_
      rintro e w1 ⟨n, rfl, hf, hb1⟩
      have hx := (hb1.block wr.heap.size (by simp)).trans (heap_alloc_new wr (.cells #[.string c.1, .pointer (some ⟨c.2, 0, none⟩)] 150))
      have b0 : w1.cell? ⟨wr.heap.size, 0, none⟩ = some (.string c.1) := by simp [World.cell?, hx]
      have b1 : w1.cell? ⟨wr.heap.size, 1, none⟩ = some (.pointer (some ⟨c.2, 0, none⟩)) := by simp [World.cell?, hx]
      have hlt1 : w.heap.size + 1 < wr.heap.size := (Array.getElem?_eq_some_iff.1 M.out.2.2.2).1
      have r1 := (hb1.block w.heap.size (by simp; omega)).trans ((Below.heap_alloc wr _ w.heap.size (by omega)).trans M.out.2.2.1)
      have r2 := (hb1.block (w.heap.size + 1) (by simp; omega)).trans ((Below.heap_alloc wr _ (w.heap.size + 1) hlt1).trans M.out.2.2.2)
      have G := Lib.hid (And.intro (ext_trans hbw hb1) (And.intro r1 r2))
      have hlk := DoneM.look (HD.out.bel ((ext_trans hbw hb1).block dm HD.out.lt)) c.1
      clear hbw hask hb1 hx r1 r2 e0 e1
      rcases hf with ⟨rfl, hall⟩ | ⟨j, d, rfl, hd, hpd, _⟩
      · have HAll := Lib.hid hall
        clear hall hlk
        go_wp2_with fail
        go_roundw
        case rel =>
          refine ⟨i + 1, by go_num, hp, Lib.hid ⟨fun j c' h h1 h2 => ?_, G.out⟩⟩
          by_cases e : j = i
          · subst e
            rw [Hc.out] at h1
            injection h1 with h1
            subst h1
            obtain ⟨d, hd, hdd⟩ := List.any_eq_true.1 h2
            rw [HAll.out d hd] at hdd
            cases hdd
          · exact M.out.1 j c' (by omega) h1 h2
        case measure => simp [intOf]; omega
      · have hdc : Hid (d.1 = c.1) := Lib.hid (by simpa using hpd)
        have hj := getq_lt hd
        obtain ⟨bb, ob, rfl, hbb, k0, k1⟩ := HB.out.child hd
        have f0 := (G.out.1.cell (p := ⟨bb, ob + j * 2, none⟩) hbb).trans k0
        have f1 := (G.out.1.cell (p := ⟨bb, ob + j * 2 + 1, none⟩) hbb).trans k1
        have Hd := Lib.hid hd
        clear hd hpd k0 k1
        cases hcD : hasL c.1 D with
        | true =>
          rw [hcD] at hlk
          have HcD := Lib.hid (hasL_iff.1 hcD)
          clear hcD
          go_wp2_with fail
          go_roundw
          case rel =>
            refine ⟨i + 1, by go_num, hp, Lib.hid ⟨fun j c' h h1 h2 => ?_, G.out⟩⟩
            by_cases e : j = i
            · subst e
              rw [Hc.out] at h1
              injection h1 with h1
              subst h1
              exact HcD.out
            · exact M.out.1 j c' (by omega) h1 h2
          case measure => simp [intOf]; omega
        | false =>
          rw [hcD] at hlk
          have HcD : Hid (c.1 ∉ D) := Lib.hid (fun h => by rw [hasL_iff.2 h] at hcD; cases hcD)
          clear hcD
          have q0 : w1.cell? ⟨w.heap.size, 0, none⟩ = some (.string ByteArray.empty) := by simp [World.cell?, G.out.2.1]
          have q1 : w1.cell? ⟨w.heap.size, 1, none⟩ = some (.pointer none) := by simp [World.cell?, G.out.2.1]
          have q2 : w1.cell? ⟨w.heap.size + 1, 0, none⟩ = some (.string ByteArray.empty) := by simp [World.cell?, G.out.2.2]
          have q3 : w1.cell? ⟨w.heap.size + 1, 1, none⟩ = some (.pointer none) := by simp [World.cell?, G.out.2.2]
          have p0 : w1.frozen? ⟨w.heap.size, 0, none⟩ = false := by simp [World.frozen?, G.out.2.1]
          have p1 : w1.frozen? ⟨w.heap.size, 1, none⟩ = false := by simp [World.frozen?, G.out.2.1]
          have p2 : w1.frozen? ⟨w.heap.size + 1, 0, none⟩ = false := by simp [World.frozen?, G.out.2.2]
          have p3 : w1.frozen? ⟨w.heap.size + 1, 1, none⟩ = false := by simp [World.frozen?, G.out.2.2]
          go_wp2_with fail
          go_region_law (fail)
          all_goals
            go_wp2_with fail
            refine bodyPost_ret (v := .tuple #[chV c, chV d, .bool true]) (by simp [results, Try.results145, go_sem, chV, q0, q1, q2, q3]) rfl ⟨?_, .inl ⟨i, j, c, d, rfl, Hc.out, Hd.out, hdc.out, HcD.out⟩⟩
            repeat' (first | exact G.out.1 | exact ext_drewN G.out.1 1 | (refine ext_set ?_ (by simp) _) | (refine ext_drewN (W := (World.setCell _ _ _)) ?_ 1))
    · have q0 : wr.cell? ⟨w.heap.size, 0, none⟩ = some (.string ByteArray.empty) := by simp [World.cell?, M.out.2.2.1]
      have q1 : wr.cell? ⟨w.heap.size, 1, none⟩ = some (.pointer none) := by simp [World.cell?, M.out.2.2.1]
      have q2 : wr.cell? ⟨w.heap.size + 1, 0, none⟩ = some (.string ByteArray.empty) := by simp [World.cell?, M.out.2.2.2]
      have q3 : wr.cell? ⟨w.heap.size + 1, 1, none⟩ = some (.pointer none) := by simp [World.cell?, M.out.2.2.2]
      have p0 : wr.frozen? ⟨w.heap.size, 0, none⟩ = false := by simp [World.frozen?, M.out.2.2.1]
      have p1 : wr.frozen? ⟨w.heap.size, 1, none⟩ = false := by simp [World.frozen?, M.out.2.2.1]
      have p2 : wr.frozen? ⟨w.heap.size + 1, 0, none⟩ = false := by simp [World.frozen?, M.out.2.2.2]
      have p3 : wr.frozen? ⟨w.heap.size + 1, 1, none⟩ = false := by simp [World.frozen?, M.out.2.2.2]
      go_wp2_with fail
      refine bodyPost_ret (v := .tuple #[.agg #[.string ByteArray.empty, .pointer none], .agg #[.string ByteArray.empty, .pointer none], .bool false]) (by simp [results, Try.results145, go_sem, q0, q1, q2, q3]; rfl) rfl ⟨?_, .inr ⟨rfl, fun c hc hh => ?_⟩⟩
      · repeat' (first | exact M.out.2.1 | (refine ext_set ?_ (by simp) _))
      · obtain ⟨j, hj⟩ := List.getElem?_of_mem hc
        exact M.out.1 j c (by have := getq_lt hj; omega) hj hh
end Go.Proofs.Ytblfeokjlecgkaa

/- unify.ends, walked. -/
namespace Go.Proofs.Ytblfeokjlecgkaa
open Go.RowKit

attribute [local go_sem ↓] Go.wp_at_zero Go.wp_at_succ

theorem WR.stc {U : List Lb} {S : Kn} {t : Ut} (hi : S.Inv) (hm0 : 0 ≤ S.m) (hk : isRowB t.k = true) (ho : okT S.L t) (hb : bdT S.m t) (hs : shT t) (hn : nnT t) (hl : labT U t) (hf : ∀ c ∈ t.fs, fuT S.L c.2) (hu : ∀ q, t.tl = some q → S.κ q = none) : S.m ≤ (stc S.m t).2 ∧ WR U (S.up (stc S.m t).2) (stc S.m t).1 := by
  obtain ⟨k8, k0, _⟩ := isRow_k hk
  obtain ⟨a, b, c, d⟩ := stc_ok t S.m ⟨ho, hb, hi.new⟩
  have s1 := stc_sh t S.m hs
  have n1 := stc_nn t S.m hm0 ho hn
  have l1 := stc_lab t S.m hl
  have f1 := stc_fs_fu (m := S.m) k0 hf
  obtain ⟨e1, e2, e3, e4⟩ := stc_root (m := S.m) (t := t) k0
  generalize (Proofs.Ytblfeokjlecgkaa.stc S.m t).1 = t' at *
  obtain ⟨k, n, fs, tl⟩ := t'
  refine ⟨a, by rw [e1]; exact hk, b, s1, fun q hq => ?_, ?_, fun q hq => hu q (by rw [← e4]; exact hq)⟩
  · rw [okT_mk] at b
    rw [bdT_mk] at d
    rw [shT_mk] at s1
    rw [nnT_mk] at n1
    rw [labT_mk] at l1
    exact ⟨⟨b.2 q hq, d.2.2 q hq⟩, f1 q hq, s1.2 q hq, n1.2.2 q hq, l1.2 q hq⟩
  · rw [labT_mk] at l1
    exact fun l hm => (l1.1 l hm).1

/-- A row laid out of children in memory. -/
theorem of_node (X : Nat → Prop) (kind : Int) (C : Option Addr) (cc : Nat) (cl : List (ByteArray × Nat)) (x : Fl) (tv : Value) (tl : Option Int) (w : World) (hX : ∀ k, X k → k < w.heap.size) (hC : ReadL 2 encC w w.heap.size C cl) (hl : cl.length ≤ 1000000) (hc : ChAt X w cl x) (ht : TailAt X w tv tl) :
    Calls Try.prog 179 #[.int .i64 kind, .slice C cl.length cc, tv] w fun e w' => ∃ g, e = .returned (.pointer (some ⟨g, 0, none⟩)) ∧ NodeAt X w' g (.mk kind 0 x tl) ∧ Below w.heap.size w w' := by
  refine (of_any kind C cc cl tv ht.ptr w hC hl).mono ?_
  rintro e w' ⟨g, A, ca, B, cb, rfl, hn, hb⟩
  refine ⟨g, rfl, hn.node hX hc.labs (by rw [List.length_map]; exact hc.1) (fun i p c hp hcc => ?_) (ht.fr (Fr.below (X := fun _ => False) hb) (fun _ _ e => e.elim)), hb⟩
  rw [List.getElem?_map] at hcc
  cases e1 : cl[i]? with
  | none => rw [e1] at hcc; cases hcc
  | some c1 =>
    rw [e1] at hcc
    simp only [Option.map_some, Option.some.injEq] at hcc
    subst hcc
    exact ((hc.2 i c1 p e1 hp).2).bel hb

/-- What 'ends' answers; so does 'agree'. -/
def AgPost (U : List Lb) (S : Kn) (a b : Ut) (n : Nat) (s m : Nat) (first : Int) (w : World) (e : Ending) (w' : World) : Prop :=
  ∃ r : Bool, e = .returned (.bool r) ∧ Fr (SX s m) w w' ∧ (r = false → Dis S a b) ∧ (r = true → ∃ S', Done U S S' (CoI a b) n ∧ SolAt (SX s m) s m first w' S')

/-- What 'ends' is asked. -/
structure EndsH (U : List Lb) (s m : Nat) (first : Int) (S : Kn) (a b : Ut) (x y : Fl) (p q : Option Int) (w : World) (UA VA : Option Addr) (ul vl : List (ByteArray × Nat)) (tp tq : Option Addr) : Prop where
  sol : SolAt (SX s m) s m first w S
  kg : KG U S
  hU : U.length ≤ 100000
  ra : RowG U S a x p
  rb : RowG U S b y q
  hk : isRowB a.k = true
  hab : b.k = a.k
  sh : Shared S x y
  pa : Pend S a
  pb : Pend S b
  mb : S.m + 1 + (dynF (lackF x y) + dynF (lackF y x) : Nat) ≤ 4611686018427387904
  cu : ChAt (SX s m) w ul (lackF x y)
  cv : ChAt (SX s m) w vl (lackF y x)
  ru : Lies (SX s m) 2 encC w UA ul
  rv : Lies (SX s m) 2 encC w VA vl
  tp : TailAt (SX s m) w (.pointer tp) p
  tq : TailAt (SX s m) w (.pointer tq) q

section
variable {U : List Lb} {s m : Nat} {first : Int} {S : Kn} {a b : Ut} {x y : Fl} {p q : Option Int} {w : World} {UA VA : Option Addr} {ul vl : List (ByteArray × Nat)} {tp tq : Option Addr}

theorem EndsH.lu (h : EndsH U s m first S a b x y p q w UA VA ul vl tp tq) : ul.length ≤ 100000 ∧ vl.length ≤ 100000 := by
  have h1 := h.cu.1
  have h2 := h.cv.1
  have h3 : (lackF x y).length ≤ x.length := List.length_filter_le _ _
  have h4 : (lackF y x).length ≤ y.length := List.length_filter_le _ _
  have := h.ra.len
  have := h.rb.len
  have := h.hU
  omega

theorem EndsH.un (h : EndsH U s m first S a b x y p q w UA VA ul vl tp tq) : (ul = [] ↔ lackF x y = []) ∧ (vl = [] ↔ lackF y x = []) := by
  have h1 := h.cu.1
  have h2 := h.cv.1
  constructor
  · rw [← List.length_eq_zero_iff, ← List.length_eq_zero_iff, h1]
  · rw [← List.length_eq_zero_iff, ← List.length_eq_zero_iff, h2]

def EndsAt (U : List Lb) (s m : Nat) (first : Int) (S : Kn) (a b : Ut) (x y : Fl) (w : World) (UA VA : Option Addr) (cu cv : Nat) (ul vl : List (ByteArray × Nat)) (tp tq : Option Addr) : Prop :=
  Calls Try.prog 146 #[pk s, .int .i64 a.k, .slice UA ul.length cu, .slice VA vl.length cv, .pointer tp, .pointer tq] w (AgPost U S a b (dynF (lackF x y) + dynF (lackF y x)) s m first w)

theorem Done.zero {C : Va → Prop} {n : Nat} (h : KG U S) (st : Step S S C) : Done U S S C n := .none h st n

/-- Nothing is known more, or they can't agree: the world behind draws. -/
theorem AgPost.no {n : Nat} {w' : World} (hb : Below w.heap.size w w') (hd : Dis S a b) : AgPost U S a b n s m first w (.returned (.bool false)) w' :=
  ⟨false, rfl, Fr.below hb, fun _ => hd, fun h => by cases h⟩
theorem AgPost.same {n : Nat} {w' : World} (hb : Below w.heap.size w w') (hS : SolAt (SX s m) s m first w S) (hd : Done U S S (CoI a b) n) : AgPost U S a b n s m first w (.returned (.bool true)) w' :=
  ⟨true, rfl, Fr.below hb, fun h => (by cases h), fun _ => ⟨S, hd, hS.bel hb⟩⟩

theorem EndsH.disU (h : EndsH U s m first S a b x y p none w UA VA ul vl tp tq) (hu : lackF x y ≠ []) : Dis S a b := dis_lack h.ra h.rb h.hk h.hab hu
theorem EndsH.disV (h : EndsH U s m first S a b x y none q w UA VA ul vl tp tq) (hv : lackF y x ≠ []) : Dis S a b := (dis_lack h.rb h.ra (by rw [h.hab]; exact h.hk) h.hab.symm hv).symm

theorem become_no (U : List Lb) (s m : Nat) (first : Int) (S : Kn) (num : Int) (t : Ut) (b : Nat) (w : World) (hS : SolAt (SX s m) s m first w S) (hK : KG U S) (hU : U.length ≤ 100000) (hb : NodeAt (SX s m) w b t) (hsm : Small S.L t) (hmm : S.m ≤ (stc S.m t).2) (gs : RTr U (S.up (stc S.m t).2) (stc S.m t).1) (hnum : S.κ num = none) (hm : S.m + (dynT t : Nat) ≤ 4611686018427387904)
    (o : occN num (inst S.σ (stc S.m t).1)) :
    Calls Try.prog 111 #[.pointer (some ⟨s, 0, none⟩), .int .i64 num, .pointer (some ⟨b, 0, none⟩)] w fun e w' => e = .returned (.bool false) ∧ Fr (SX s m) w w' := by
  refine (becomes_any U s m first S num t b w hS hK hU hb hsm hmm gs hnum hm).mono ?_
  rintro e w' ⟨r, rfl, h1, _, h3⟩
  cases r with
  | false => exact ⟨rfl, h1⟩
  | true => exact absurd o (h3 rfl).1

theorem become_yes (U : List Lb) (s m : Nat) (first : Int) (S : Kn) (num : Int) (t : Ut) (b : Nat) (w : World) (hS : SolAt (SX s m) s m first w S) (hK : KG U S) (hU : U.length ≤ 100000) (hb : NodeAt (SX s m) w b t) (hsm : Small S.L t) (hmm : S.m ≤ (stc S.m t).2) (gs : RTr U (S.up (stc S.m t).2) (stc S.m t).1) (hnum : S.κ num = none) (hm : S.m + (dynT t : Nat) ≤ 4611686018427387904)
    (o : ¬ occN num (inst S.σ (stc S.m t).1)) :
    Calls Try.prog 111 #[.pointer (some ⟨s, 0, none⟩), .int .i64 num, .pointer (some ⟨b, 0, none⟩)] w fun e w' => e = .returned (.bool true) ∧ Fr (SX s m) w w' ∧ ∀ S' : Kn, S'.κ = upd S.κ num (stc S.m t).1 → S'.m = (stc S.m t).2 → SolAt (SX s m) s m first w' S' := by
  refine (becomes_any U s m first S num t b w hS hK hU hb hsm hmm gs hnum hm).mono ?_
  rintro e w' ⟨r, rfl, h1, h2, h3⟩
  cases r with
  | false => exact absurd (h2 rfl) o
  | true => exact ⟨rfl, h1, (h3 rfl).2⟩

set_option maxRecDepth 100000 in
set_option maxHeartbeats 4000000 in
/-- No tail at all. -/
theorem ends_00 (cu cv : Nat) (h : EndsH U s m first S a b x y none none w UA VA ul vl tp tq) : EndsAt U s m first S a b x y w UA VA cu cv ul vl tp tq := by
  obtain rfl : tp = none := by have : Value.pointer tp = .pointer none := h.tp; simpa using this
  obtain rfl : tq = none := by have : Value.pointer tq = .pointer none := h.tq; simpa using this
  obtain ⟨l1, l2⟩ := h.lu
  obtain ⟨u1, u2⟩ := h.un
  have HH := Lib.hid h
  have HU := Lib.hid (And.intro u1 u2)
  clear h u1 u2
  unfold EndsAt pk
  by_cases c1 : 0 < ul.length
  · have c1' : decide (0 < ul.length) = true := decide_eq_true c1
    go_enter Try.func146, Try.ntmps146
    go_wp2_with fail
    go_quiet (fail)
    go_wp2_with fail
    go_ret
    exact AgPost.no (below_drewN (Below.refl _ _) _) (HH.out.disU fun e => by have := HU.out.1.2 e; rw [this] at c1; simp at c1)
  · have c1' : decide (0 < ul.length) = false := decide_eq_false c1
    by_cases c2 : 0 < vl.length
    · have c2' : decide (0 < vl.length) = true := decide_eq_true c2
      go_enter Try.func146, Try.ntmps146
      go_wp2_with fail
      go_quiet (fail)
      go_wp2_with fail
      go_ret
      exact AgPost.no (below_drewN (Below.refl _ _) _) (HH.out.disV fun e => by have := HU.out.2.2 e; rw [this] at c2; simp at c2)
    · have c2' : decide (0 < vl.length) = false := decide_eq_false c2
      have e1 : Hid (lackF x y = []) := Lib.hid (HU.out.1.1 (List.eq_nil_of_length_eq_zero (by omega)))
      have e2 : Hid (lackF y x = []) := Lib.hid (HU.out.2.1 (List.eq_nil_of_length_eq_zero (by omega)))
      go_enter Try.func146, Try.ntmps146
      go_wp2_with fail
      go_quiet (fail)
      go_wp2_with fail
      go_quiet (fail)
      go_wp2_with fail
      go_ret
      have hh := HH.out
      exact AgPost.same ((below_drewN (Below.refl _ _) _).trans (below_drewN (Below.refl _ _) _)) hh.sol (done_ends0 hh.kg hh.ra hh.rb hh.hk hh.hab hh.sh e1.out e2.out _)

/-- What 'becomes' wants of a tree. -/
structure BecOk (U : List Lb) (S : Kn) (t : Ut) : Prop where
  small : Small S.L t
  mm : S.m ≤ (stc S.m t).2
  gs : RTr U (S.up (stc S.m t).2) (stc S.m t).1

/-- A fresh number was taken. -/
theorem SolAt.fresh {nx : Int} {w' : World} (h : SolAt (SX s m) s m first w S) (hs : w'.heap[s]? = some (solverOf first nx m)) (hf : Fr (fun x => x = s) w w') {S' : Kn} (hκ : S'.κ = S.κ) (hm : S'.m = nx) : SolAt (SX s m) s m first w' S' := by
  obtain ⟨a1, a2, a3, a4, l, a5, a6⟩ := h
  have hml : m < w.heap.size := a5.lt
  refine ⟨a1, a2, a3, by rw [hm]; exact hs, l, a5.later (hf.block m hml fun e => a1 e.symm), fun n => ?_⟩
  have := a6 n
  rw [hκ]
  cases hk : S.κ n with
  | none => rw [hk] at this; exact this
  | some t =>
    rw [hk] at this
    obtain ⟨b, e, hn⟩ := this
    exact ⟨b, e, hn.fr hf fun k _ e => .inl e⟩

theorem two_bec1 {p0 q0 : Int} (h : KG U S) (hU : U.length ≤ 100000) (ra : RowG U S a x (some p0)) (rb : RowG U S b y (some q0)) (hk : isRowB a.k = true) (hab : b.k = a.k) :
    KG U (S1 S x y) ∧ BecOk U (S1 S x y) (t1 S a.k x y) ∧ dynT (t1 S a.k x y) = dynF (lackF y x) := by
  obtain ⟨k8, k0, _⟩ := isRow_k hk
  have rb' := rb.of
  rw [hab] at rb'
  have h1 : KG U (S1 S x y) := h.freshT _ (both_ne h ra y)
  have rlb := rb.lb
  rw [hab] at rlb
  obtain ⟨ls, hl, rf⟩ := two_rowFor1 h.inv ra.of rb' k0 k8
  have el : ∀ c ∈ y, TG U (S1 S x y) c.2 := fun c hc => (rb.el c hc).later (Kn.freshT_le h.inv _)
  obtain ⟨a1, a2, a3, a4, a5⟩ := row_parts (S := S1 S x y) (x := x) (r := some S.m) hk el rlb (fun q hq => by injection hq with hq; rw [← hq]; exact h.nn.m) rfl
  obtain ⟨m1, m2⟩ := WR.stc (U := U) (t := t1 S a.k x y) h1.inv h1.nn.m hk rf.ok rf.bd a2 a1 a3 a4 fun q hq => (rf.q q hq).2.1
  exact ⟨h1, ⟨⟨rf.ok, U, hU, a3⟩, m1, .inr m2⟩, a5⟩

theorem two_bec2 {p0 q0 : Int} (h : KG U S) (hU : U.length ≤ 100000) (ra : RowG U S a x (some p0)) (rb : RowG U S b y (some q0)) (hk : isRowB a.k = true) (hab : b.k = a.k) (hpq : p0 ≠ q0) (o1 : ¬ occN p0 (inst (S1 S x y).σ (stc (S1 S x y).m (t1 S a.k x y)).1)) :
    KG U (S2 S a.k x y p0) ∧ BecOk U (S2 S a.k x y p0) (t2 S a.k x y) ∧ dynT (t2 S a.k x y) = dynF (lackF x y) ∧ (S2 S a.k x y p0).κ q0 = none ∧ (S2 S a.k x y p0).m = S.m + 1 + (dynF (lackF y x) : Nat) := by
  obtain ⟨k8, k0, _⟩ := isRow_k hk
  have rb' := rb.of
  rw [hab] at rb'
  have h1 : KG U (S1 S x y) := h.freshT _ (both_ne h ra y)
  obtain ⟨h2, _, hm2⟩ := two_first h ra rb hk hab o1
  obtain ⟨ls1, hl1, rf1⟩ := two_rowFor1 h.inv ra.of rb' k0 k8
  obtain ⟨hpm, hpu, hpl⟩ := ra.of.tl p0 rfl
  have le2 : (S1 S x y).Le (S2 S a.k x y p0) := Kn.bindT_le h1.inv hpu rf1
  obtain ⟨ls, hl, hq2, hqm, rf⟩ := two_rowFor2 h.inv ra.of rb' k0 k8 hpq
  have el : ∀ c ∈ x, TG U (S2 S a.k x y p0) c.2 := fun c hc => ((ra.el c hc).later (Kn.freshT_le h.inv _)).later le2
  obtain ⟨a1, a2, a3, a4, a5⟩ := row_parts (S := S2 S a.k x y p0) (x := y) (r := some S.m) hk el ra.lb (fun q hq => by injection hq with hq; rw [← hq]; exact h.nn.m) rfl
  obtain ⟨m1, m2⟩ := WR.stc (U := U) (t := t2 S a.k x y) h2.inv h2.nn.m hk rf.ok rf.bd a2 a1 a3 a4 fun q hq => (rf.q q hq).2.1
  exact ⟨h2, ⟨⟨rf.ok, U, hU, a3⟩, m1, .inr m2⟩, a5, hq2, hm2⟩

end
end Go.Proofs.Ytblfeokjlecgkaa
