/- Laid together by a tool from the texts of this seat: SymS URow. Conditions: each theorem's own. -/
import Derived.Test.YtblfeokjlecgkaaO18
import Derived.Test.YtblfeokjlecgkaaO12
/- slices.SortStableFunc at children, by their labels, walked. -/
namespace Go.Proofs.Ytblfeokjlecgkaa
open Go.RowKit

theorem symMerge_all (base g cap L : Nat) (hl : L ≤ 1000000) : ∀ (n a m b : Nat), b - a ≤ n → SymAt base g cap L a m b := by
  intro n
  induction n with
  | zero =>
    intro a m b hn l0 ai mi bi w _ _ _ _ _ ham hmb
    omega
  | succ n ih =>
    intro a m b hn
    by_cases h1 : m = a + 1
    · exact symMerge_one base g cap L a m b hl h1
    · by_cases h2 : b = m + 1
      · exact symMerge_last base g cap L a m b hl h2 h1
      · exact symMerge_more base g cap L a m b hl h1 h2 fun a' m' b' h => ih a' m' b' (by omega)

theorem symMerge_at (base g cap L a m b : Nat) (hl : L ≤ 1000000) : SymAt base g cap L a m b := symMerge_all base g cap L hl (b - a) a m b (Nat.le_refl _)

/-! ### Runs of one length -/

section
variable {α : Type} (le : α → α → Prop)

def Runs (l : List α) (d n : Nat) : Prop := ∀ p, d ∣ p → Srt le l p (min (p + d) n)

/-- Runs of length 2 d up to a, of length d from there on. -/
def RunsTo (l : List α) (d n a : Nat) : Prop := (∀ p, 2 * d ∣ p → p < a → Srt le l p (p + 2 * d)) ∧ ∀ p, d ∣ p → a ≤ p → Srt le l p (min (p + d) n)

variable {le}

theorem dvd_step {d p a : Nat} (hp : d ∣ p) (ha : d ∣ a) (h : p < a) : p + d ≤ a := by
  obtain ⟨x, rfl⟩ := hp
  obtain ⟨y, rfl⟩ := ha
  have : x < y := Nat.lt_of_mul_lt_mul_left h
  calc d * x + d = d * (x + 1) := by rw [Nat.mul_add, Nat.mul_one]
    _ ≤ d * y := Nat.mul_le_mul_left d this

theorem Runs.to {l : List α} {d n : Nat} (h : Runs le l d n) : RunsTo le l d n 0 := ⟨fun p _ hp => by omega, fun p hp _ => h p hp⟩

theorem RunsTo.next {l l' : List α} {d n a : Nat} (h : RunsTo le l d n a) (ha : 2 * d ∣ a) (hs : Srt le l' a (a + 2 * d)) (ho : ∀ k, (k < a ∨ a + 2 * d ≤ k) → l'[k]? = l[k]?) : RunsTo le l' d n (a + 2 * d) := by
  refine ⟨fun p hp hpa => ?_, fun p hp hpa => ?_⟩
  · by_cases e : p = a
    · subst e
      exact hs
    · have hlt : p < a := by
        rcases Nat.lt_or_ge p a with g | g
        · exact g
        · have := dvd_step ha hp (by omega)
          omega
      have := dvd_step hp ha hlt
      exact (h.1 p hp hlt).same fun k h1 h2 => ho k (by omega)
  · exact (h.2 p hp (by omega)).same fun k h1 h2 => ho k (by omega)

theorem RunsTo.parts {l : List α} {d n a : Nat} (h : RunsTo le l d n a) (ha : 2 * d ∣ a) : Srt le l a (min (a + d) n) ∧ Srt le l (a + d) (min (a + d + d) n) := by
  have hd : d ∣ a := Nat.dvd_trans (Nat.dvd_mul_left d 2) ha
  exact ⟨h.2 a hd (Nat.le_refl _), h.2 (a + d) (Nat.dvd_add hd (Nat.dvd_refl d)) (by omega)⟩

theorem RunsTo.stop {l l' : List α} {d n a : Nat} (h : RunsTo le l d n a) (ha : 2 * d ∣ a) (han : a ≤ n) (hb : n < a + 2 * d) (hs : Srt le l' a n) (ho : ∀ k, (k < a ∨ n ≤ k) → l'[k]? = l[k]?) : Runs le l' (2 * d) n := by
  intro p hp
  rcases Nat.lt_trichotomy p a with g | g | g
  · have := dvd_step hp ha g
    rw [Nat.min_eq_left (by omega)]
    exact (h.1 p hp g).same fun k h1 h2 => ho k (by omega)
  · subst g
    rw [Nat.min_eq_right (by omega)]
    exact hs
  · have := dvd_step ha hp g
    exact Srt.one _ _ _ (by omega)

theorem Runs.all {l : List α} {d n : Nat} (h : Runs le l d n) (hd : n ≤ d) : Srt le l 0 n := by
  have := h 0 (Nat.dvd_zero d)
  rw [Nat.zero_add, Nat.min_eq_right hd] at this
  exact this

end

set_option maxRecDepth 100000 in
set_option maxHeartbeats 8000000 in
theorem stable_at (base g cap : Nat) (l0 : List (ByteArray × Nat)) (L : Nat) (w : World) (h : OwnC w base (some ⟨g, 0, none⟩) cap l0) (hL : l0.length = L) (hl : L ≤ 1000000) :
    Calls Try.prog 173 #[.slice (some ⟨g, 0, none⟩) L cap, .int .i64 (L : Int), cmpV] w (SymPost base g cap 0 L l0 (fun l' => Srt leC l' 0 L) w) := by
  have HM := Lib.hid h
  have HL := Lib.hid hL
  clear h hL
  go_enter Try.func173, Try.ntmps173
  go_wp2_with fail
  go_loopw [7, 8] (fun s7 s8 wr => ∃ (a : Nat) (l : List (ByteArray × Nat)), s7 = .int .i64 a ∧ s8 = .int .i64 ((a + 20 : Nat) : Int) ∧ a ≤ L ∧ Hid (20 ∣ a ∧ (∀ p, 20 ∣ p → p < a → Srt leC l p (p + 20)) ∧ Mv 0 L l0 l ∧ OwnC wr base (some ⟨g, 0, none⟩) cap l ∧ w.grownBy wr (some g))) (fun s7 _ _ => L - (intOf s7).toNat)
  case atStart => exact ⟨0, l0, rfl, rfl, Nat.zero_le _, Lib.hid ⟨⟨0, rfl⟩, fun p _ hp => by omega, Mv.refl _ _ _, HM.out, World.grownBy.refl _ _⟩⟩
  case round =>
    obtain ⟨a, l, rfl, rfl, ha, M⟩ := hrel
    clear HM
    have hl1 : Hid (l.length = L) := Lib.hid (M.out.2.2.1.len.trans HL.out)
    by_cases hp : a + 20 ≤ L
    · go_wp2_with fail
      refine (insertion_at base g cap l a (a + 20) L _ _ _ M.out.2.2.2.1 hl1.out rfl rfl (by omega) hp hl).mono ?_
      rintro e w1 ⟨rfl, l1, z1, z2, z3, z4⟩
      have Z := Lib.hid (And.intro z1 (And.intro z2 (And.intro z3 (only_trans M.out.2.2.2.2 z4))))
      clear z1 z2 z3 z4
      go_wp2_with fail
      go_roundw
      case rel =>
        refine ⟨a + 20, l1, rfl, congrArg (Value.int .i64) (by omega), hp, Lib.hid ⟨Nat.dvd_add M.out.1 (Nat.dvd_refl 20), fun p h1 h2 => ?_, M.out.2.2.1.trans (Z.out.2.1.wide (Nat.zero_le _) hp), Z.out.2.2⟩⟩
        by_cases e : p = a
        · subst e
          exact Z.out.1
        · have hlt : p < a := by
            rcases Nat.lt_or_ge p a with q | q
            · exact q
            · have := dvd_step M.out.1 h1 (by omega)
              omega
          have := dvd_step h1 M.out.1 hlt
          exact (M.out.2.1 p h1 hlt).same fun k k1 k2 => Z.out.2.1.out k (by omega)
      case measure => simp [intOf]; omega
    · have hpd : decide ((a : Int) + 20 ≤ (L : Int)) = false := decide_eq_false (by omega)
      go_wp2_with fail
      refine (insertion_at base g cap l a L L _ _ _ M.out.2.2.2.1 hl1.out rfl rfl ha (Nat.le_refl _) hl).mono ?_
      rintro e w1 ⟨rfl, l1, z1, z2, z3, z4⟩
      have hr : Runs leC l1 20 L := fun p hp2 => by
        rcases Nat.lt_trichotomy p a with q | q | q
        · have := dvd_step hp2 M.out.1 q
          rw [Nat.min_eq_left (by omega)]
          exact (M.out.2.1 p hp2 q).same fun k k1 k2 => z2.out k (by omega)
        · subst q
          rw [Nat.min_eq_right (by omega)]
          exact z1
        · have := dvd_step M.out.1 hp2 q
          exact Srt.one _ _ _ (by omega)
      have Z := Lib.hid (And.intro hr (And.intro (M.out.2.2.1.trans (z2.wide (Nat.zero_le _) (Nat.le_refl _))) (And.intro z3 (only_trans M.out.2.2.2.2 z4))))
      clear z1 z2 z3 z4 hr M
      go_wp2_with fail
      clear hl1
      obtain ⟨wo, rfl⟩ : ∃ wo : World, wo = w1 := ⟨_, rfl⟩
      go_loopw [6] (fun s6 wr => ∃ (d : Nat) (l : List (ByteArray × Nat)), s6 = .int .i64 d ∧ 20 ≤ d ∧ d ≤ 2 * L + 20 ∧ Hid (Runs leC l d L ∧ Mv 0 L l0 l ∧ OwnC wr base (some ⟨g, 0, none⟩) cap l ∧ w.grownBy wr (some g))) (fun s6 _ => 4 * L + 40 - (intOf s6).toNat)
      case atStart => exact ⟨20, l1, rfl, Nat.le_refl _, by omega, Z⟩
      case round =>
        obtain ⟨d, l, rfl, hd1, hd2, M⟩ := hrel
        clear Z
        by_cases hdL : d < L
        · go_wp2_with fail
          obtain ⟨wo2, rfl⟩ : ∃ wo2 : World, wo2 = wr := ⟨_, rfl⟩
          go_loopw [7, 8] (fun s7 s8 wr => ∃ (a : Nat) (l : List (ByteArray × Nat)), s7 = .int .i64 a ∧ s8 = .int .i64 ((a + 2 * d : Nat) : Int) ∧ a ≤ L ∧ Hid (2 * d ∣ a ∧ RunsTo leC l d L a ∧ Mv 0 L l0 l ∧ OwnC wr base (some ⟨g, 0, none⟩) cap l ∧ w.grownBy wr (some g))) (fun s7 _ _ => L - (intOf s7).toNat)
          case atStart => exact ⟨0, l, rfl, congrArg (Value.int .i64) (by omega), Nat.zero_le _, Lib.hid ⟨Nat.dvd_zero _, M.out.1.to, M.out.2⟩⟩
          case round =>
            obtain ⟨a, l, rfl, rfl, ha, M⟩ := hrel
            have hl1 : Hid (l.length = L) := Lib.hid (M.out.2.2.1.len.trans HL.out)
            have PT := Lib.hid (M.out.2.1.parts M.out.1)
            by_cases hp : a + 2 * d ≤ L
            · have hpd : decide ((a : Int) + 2 * (d : Int) ≤ (L : Int)) = true := decide_eq_true (by omega)
              have P1 : Hid (Srt leC l a (a + d)) := Lib.hid (PT.out.1.sub (Nat.le_refl _) (by omega))
              have P2 : Hid (Srt leC l (a + d) (a + 2 * d)) := Lib.hid (PT.out.2.sub (Nat.le_refl _) (by omega))
              go_wp2_with fail
              refine (symMerge_at base g cap L a (a + d) (a + 2 * d) hl l _ _ _ _ M.out.2.2.2.1 hl1.out rfl (by omega) (by omega) (by omega) (by omega) hp P1.out P2.out).mono ?_
              rintro e w2 ⟨rfl, l2, z1, z2, z3, z4⟩
              have Z := Lib.hid (And.intro z1 (And.intro z2 (And.intro z3 (only_trans M.out.2.2.2.2 z4))))
              clear z1 z2 z3 z4
              go_wp2_with fail
              go_roundw
              case rel =>
                exact ⟨a + 2 * d, l2, congrArg (Value.int .i64) (by omega), congrArg (Value.int .i64) (by omega), hp, Lib.hid ⟨Nat.dvd_add M.out.1 (Nat.dvd_refl _), M.out.2.1.next M.out.1 Z.out.1 (fun k h => Z.out.2.1.out k h), M.out.2.2.1.trans (Z.out.2.1.wide (Nat.zero_le _) hp), Z.out.2.2⟩⟩
              case measure => simp [intOf]; omega
            · have hpd : decide ((a : Int) + 2 * (d : Int) ≤ (L : Int)) = false := decide_eq_false (by omega)
              by_cases hm : a + d < L
              · have hmd : decide ((a : Int) + (d : Int) < (L : Int)) = true := decide_eq_true (by omega)
                have P1 : Hid (Srt leC l a (a + d)) := Lib.hid (PT.out.1.sub (Nat.le_refl _) (by omega))
                have P2 : Hid (Srt leC l (a + d) L) := Lib.hid (PT.out.2.sub (Nat.le_refl _) (by omega))
                go_wp2_with fail
                refine (symMerge_at base g cap L a (a + d) L hl l _ _ _ _ M.out.2.2.2.1 hl1.out rfl (by omega) rfl (by omega) hm (Nat.le_refl _) P1.out P2.out).mono ?_
                rintro e w2 ⟨rfl, l2, z1, z2, z3, z4⟩
                have Z := Lib.hid (And.intro z1 (And.intro z2 (And.intro z3 (only_trans M.out.2.2.2.2 z4))))
                clear z1 z2 z3 z4
                go_wp2_with fail
                go_roundw
                case rel =>
                  exact ⟨2 * d, l2, congrArg (Value.int .i64) (by omega), by omega, by omega, Lib.hid ⟨M.out.2.1.stop M.out.1 ha (by omega) Z.out.1 (fun k h => Z.out.2.1.out k h), M.out.2.2.1.trans (Z.out.2.1.wide (Nat.zero_le _) (Nat.le_refl _)), Z.out.2.2⟩⟩
                case measure => simp [intOf]; omega
              · have hmd : decide ((a : Int) + (d : Int) < (L : Int)) = false := decide_eq_false (by omega)
                have P1 : Hid (Srt leC l a L) := Lib.hid (PT.out.1.sub (Nat.le_refl _) (by omega))
                go_wp2_with fail
                go_roundw
                case rel =>
                  exact ⟨2 * d, l, congrArg (Value.int .i64) (by omega), by omega, by omega, Lib.hid ⟨M.out.2.1.stop M.out.1 ha (by omega) P1.out (fun k h => rfl), M.out.2.2⟩⟩
                case measure => simp [intOf]; omega
        · go_wp2_with fail
          go_end0
          exact ⟨rfl, l, M.out.1.all (by omega), M.out.2.1, M.out.2.2⟩

set_option maxRecDepth 100000 in
set_option maxHeartbeats 1000000 in
theorem sortStable_at (base g cap : Nat) (l0 : List (ByteArray × Nat)) (L : Nat) (w : World) (h : OwnC w base (some ⟨g, 0, none⟩) cap l0) (hL : l0.length = L) (hl : L ≤ 1000000) :
    Calls Try.prog 139 #[.slice (some ⟨g, 0, none⟩) L cap, cmpV] w (SymPost base g cap 0 L l0 (fun l' => Srt leC l' 0 L) w) := by
  have HM := Lib.hid h
  have HL := Lib.hid hL
  clear h hL
  go_enter Try.func139, Try.ntmps139
  go_wp2_with fail
  refine (stable_at base g cap l0 L _ HM.out HL.out hl).mono ?_
  rintro e w1 ⟨rfl, l1, z1, z2, z3, z4⟩
  have Z := Lib.hid (And.intro z1 (And.intro z2 (And.intro z3 z4)))
  clear z1 z2 z3 z4
  go_wp2_with fail
  go_end0
  exact ⟨rfl, l1, Z.out.1, Z.out.2.1, Z.out.2.2⟩

/-! ### No child -/

set_option maxHeartbeats 1000000 in
theorem insertion_none (c : Nat) (F : Value) (w : World) : Calls Try.prog 212 #[.slice none 0 c, .int .i64 0, .int .i64 0, F] w fun e w' => e = .returned (.tuple #[]) ∧ w = w' := by
  go_enter Try.func212, Try.ntmps212
  go_wp2_with fail
  refine wp_loop_rounds 1 ?_
  rw [rounds_succ]
  go_wp2_with fail
  go_end0
  exact ⟨rfl, rfl⟩

set_option maxHeartbeats 1000000 in
theorem stable_none (c : Nat) (F : Value) (w : World) : Calls Try.prog 173 #[.slice none 0 c, .int .i64 0, F] w fun e w' => e = .returned (.tuple #[]) ∧ w = w' := by
  go_enter Try.func173, Try.ntmps173
  go_wp2_with fail
  refine wp_loop_rounds 1 ?_
  rw [rounds_succ]
  go_wp2_with fail
  refine (insertion_none c F _).mono ?_
  rintro e w1 ⟨rfl, rfl⟩
  go_wp2_with fail
  refine wp_loop_rounds 1 ?_
  rw [rounds_succ]
  go_wp2_with fail
  go_end0
  exact ⟨rfl, rfl⟩

set_option maxHeartbeats 1000000 in
theorem sortStable_none (c : Nat) (F : Value) (w : World) : Calls Try.prog 139 #[.slice none 0 c, F] w fun e w' => e = .returned (.tuple #[]) ∧ w = w' := by
  go_enter Try.func139, Try.ntmps139
  go_wp2_with fail
  refine (stable_none c F _).mono ?_
  rintro e w1 ⟨rfl, rfl⟩
  go_wp2_with fail
  go_end0
  exact ⟨rfl, rfl⟩
end Go.Proofs.Ytblfeokjlecgkaa

/- unify.row: a row's children, by their labels, and its tail, as they are known, walked. -/
namespace Go.Proofs.Ytblfeokjlecgkaa
open Go.RowKit

/-- Children in memory: labels and trees. -/
def ChAt (X : Nat → Prop) (w : World) (cl : List (ByteArray × Nat)) (x : Fl) : Prop :=
  cl.length = x.length ∧ ∀ (i : Nat) (c : ByteArray × Nat) (p : Lb × Ut), cl[i]? = some c → x[i]? = some p → c.1 = p.1 ∧ NodeAt X w c.2 p.2

section
variable {X Y : Nat → Prop} {w w' : World} {cl cl' : List (ByteArray × Nat)} {x : Fl}

theorem ChAt.nil : ChAt X w [] [] := ⟨rfl, fun i c p h => by simp at h⟩
theorem ChAt.fr (h : ChAt X w cl x) (hf : Fr Y w w') (hY : ∀ k, k < w.heap.size → Y k → X k) : ChAt X w' cl x := ⟨h.1, fun i c p hc hp => ⟨(h.2 i c p hc hp).1, (h.2 i c p hc hp).2.fr hf hY⟩⟩
theorem ChAt.bel (h : ChAt X w cl x) (hb : Below w.heap.size w w') : ChAt X w' cl x := ⟨h.1, fun i c p hc hp => ⟨(h.2 i c p hc hp).1, (h.2 i c p hc hp).2.bel hb⟩⟩
theorem ChAt.more (h : ChAt X w cl x) (hY : ∀ k, k < w.heap.size → Y k → X k) : ChAt Y w cl x := ⟨h.1, fun i c p hc hp => ⟨(h.2 i c p hc hp).1, (h.2 i c p hc hp).2.more hY⟩⟩
theorem ChAt.snoc (h : ChAt X w cl x) {b : Nat} {p : Lb × Ut} (hb : NodeAt X w b p.2) : ChAt X w (cl ++ [(p.1, b)]) (x ++ [p]) := by
  refine ⟨by simp [h.1], fun i c q hc hq => ?_⟩
  rcases Nat.lt_or_ge i cl.length with hi | hi
  · rw [List.getElem?_append_left hi] at hc
    rw [List.getElem?_append_left (by rw [← h.1]; exact hi)] at hq
    exact h.2 i c q hc hq
  · have hi2 : i = cl.length := by
      have := getq_lt hc
      simp at this
      omega
    subst hi2
    rw [List.getElem?_append_right (Nat.le_refl _), Nat.sub_self] at hc
    rw [h.1, List.getElem?_append_right (Nat.le_refl _), Nat.sub_self] at hq
    simp only [List.getElem?_cons_zero, Option.some.injEq] at hc hq
    subst hc hq
    exact ⟨rfl, hb⟩

theorem ChAt.labs (h : ChAt X w cl x) : cl.map (·.1) = labsF x := by
  apply List.ext_getElem?
  intro i
  rcases Nat.lt_or_ge i cl.length with hi | hi
  · have hx : i < x.length := by rw [← h.1]; exact hi
    have h1 := List.getElem?_eq_getElem hi
    have h2 := List.getElem?_eq_getElem hx
    have := (h.2 i _ _ h1 h2).1
    simp [labsF, h1, h2, this]
  · rw [List.getElem?_eq_none (by simpa using hi), List.getElem?_eq_none (by simpa [labsF, ← h.1] using hi)]

theorem ChAt.mem (h : ChAt X w cl x) {c : ByteArray × Nat} (hc : c ∈ cl) : ∃ p ∈ x, c.1 = p.1 ∧ NodeAt X w c.2 p.2 := by
  obtain ⟨i, hi⟩ := List.getElem?_of_mem hc
  have hlt := getq_lt hi
  obtain ⟨p, hp⟩ := getq_ex (l := x) (i := i) (by rw [← h.1]; exact hlt)
  obtain ⟨a, b⟩ := h.2 i c p hi hp
  exact ⟨p, List.mem_of_getElem? hp, a, b⟩

/-- Sorted by their labels. -/
theorem ChAt.srt (h : ChAt X w cl x) (hn : (labsF x).Nodup) (hp : cl'.Perm cl) (hs : Srt leC cl' 0 cl'.length) : ChAt X w cl' (srtF x) := by
  have hl := h.labs
  have hpl : (cl'.map (·.1)).Perm (labsF x) := by rw [← hl]; exact hp.map _
  have hn' : (cl'.map (·.1)).Nodup := hpl.nodup_iff.2 hn
  have hg : ∀ c ∈ cl', ∃ t, getF c.1 x = some t ∧ NodeAt X w c.2 t := fun c hc => by
    obtain ⟨p, h1, h2, h3⟩ := h.mem (hp.mem_iff.1 hc)
    exact ⟨p.2, by rw [h2]; exact getF_of_mem hn h1, h3⟩
  have key : cl'.map (fun c => (c.1, (getF c.1 x).getD (.mk 0 0 [] none))) = srtF x := by
    refine rise_ext ?_ (srtF_rise hn) fun l => ?_
    · refine List.pairwise_map.2 ?_
      rw [List.pairwise_iff_getElem]
      intro i j hi hj hij
      have h1 := hs i j _ _ (Nat.zero_le _) hij hj (List.getElem?_eq_getElem hi) (List.getElem?_eq_getElem hj)
      have h2 : cl'[i].1 ≠ cl'[j].1 := fun e => by
        have := List.pairwise_iff_getElem.1 hn' i j (by simpa using hi) (by simpa using hj) hij
        simp at this
        exact this e
      cases e : ltB cl'[i].1 cl'[j].1
      · exact absurd (ltB_eq e h1) h2
      · rfl
    · rw [getF_srt hn]
      have hlab : labsF (cl'.map (fun c => (c.1, (getF c.1 x).getD (.mk 0 0 [] none)))) = cl'.map (·.1) := by simp [labsF]
      cases e : getF l x with
      | none =>
        rw [getF_none, hlab]
        rw [getF_none] at e
        exact fun hm => e (hpl.mem_iff.1 hm)
      | some t =>
        have hm : l ∈ cl'.map (·.1) := hpl.mem_iff.2 (getF_lab e)
        obtain ⟨c, hc, rfl⟩ := List.mem_map.1 hm
        refine getF_of_mem (by rw [hlab]; exact hn') (List.mem_map.2 ⟨c, hc, ?_⟩)
        rw [e]
        rfl
  rw [← key]
  refine ⟨by simp, fun i c p hc hq => ?_⟩
  rw [List.getElem?_map, hc] at hq
  simp only [Option.map_some, Option.some.injEq] at hq
  subst hq
  obtain ⟨t, h1, h2⟩ := hg c (List.mem_of_getElem? hc)
  refine ⟨rfl, ?_⟩
  show NodeAt X w c.2 ((getF c.1 x).getD _)
  rw [h1]
  exact h2
end

theorem infoC : (Try.prog.info? 150).map (fun i => (i.zero, i.size, i.bytes)) = some (some (.agg #[.string ByteArray.empty, .pointer none]), 2, 24) := by kernel_rfl

theorem wpList_appC {w : World} {ops : Array Oper} {rest : List Oper} {o : Oper} {a : Act} {Q : Exit → Act → World → Prop} (hgd : o.guard = none) (s x : Operand)
    (ho : o.op = .call { callee := .builtin .append, args := #[s, x], argTypes := #[146, 146] })
    (base : Nat) {A : Option Addr} {cap : Nat} {l : List (ByteArray × Nat)} (hs : a.eval s = .slice A l.length cap) (hown : OwnC w base A cap l) {B : Nat} {A2 : Option Addr} {c : Nat} {l2 : List (ByteArray × Nat)} (hx : a.eval x = .slice A2 l2.length c) (hr : ReadL 2 encC w B A2 l2)
    (hlen : l.length + l2.length ≤ 10000000) (hbase : base ≤ w.heap.size)
    (h : ∀ A' cap' w', OwnC w' base A' cap' (l ++ l2) → w.grownBy w' ((Value.slice A l.length cap).ownBlock) →
      ((Value.slice A' (l.length + l2.length) cap').ownBlock = (Value.slice A l.length cap).ownBlock ∨ (Value.slice A' (l.length + l2.length) cap').ownBlock = some w.heap.size) → wpList Try.prog ops Q rest (a.put o.dst (.slice A' (l.length + l2.length) cap')) w') : wpList Try.prog ops Q (o :: rest) a w := by
  obtain ⟨i0, hi, hz0, hz1, hz2⟩ := info_parts infoC
  exact wpList_app w encC_len encC_one hgd s x 146 ho base 150 i0 _ 24 Try.underlying146 hi hz0 hz1 hz2 rfl (by decide) hs hown hx hr (by unfold maxLen; omega) (by omega) hbase h

theorem readC_new (w : World) (c : ByteArray × Nat) (t : TypeId) : ReadL 2 encC (w.alloc (.cells #[.string c.1, .pointer (some ⟨c.2, 0, none⟩)] t)) (w.heap.size + 1) (some ⟨w.heap.size, 0, none⟩) [c] := fun _ => by
  refine ⟨w.heap.size, 0, rfl, by omega, fun i y hi j v hj => ?_⟩
  cases i with
  | succ i => simp at hi
  | zero =>
    simp only [List.getElem?_cons_zero, Option.some.injEq] at hi
    subst hi
    have e : encC c = [.string c.1, .pointer (some ⟨c.2, 0, none⟩)] := rfl
    rw [e] at hj
    show (w.alloc (.cells #[.string c.1, .pointer (some ⟨c.2, 0, none⟩)] t)).cell? ⟨w.heap.size, 0 + 0 * 2 + j, none⟩ = some v
    simp only [World.cell?, heap_alloc_new]
    match j, hj with
    | 0, hj => simpa using hj
    | 1, hj => simpa using hj

def muRow (r : Int → Nat) (v : Value) (w : World) : Nat := match v with
  | .pointer (some a) => (match w.cell? ⟨a.block, 4, none⟩ with
    | some (.pointer (some b)) => (match w.cell? ⟨b.block, 1, none⟩ with
      | some (.int _ q) => r q + 1
      | _ => 0)
    | _ => 0)
  | _ => 0

theorem muRow_node {X : Nat → Prop} {w : World} {b : Nat} {t : Ut} (h : NodeAt X w b t) (r : Int → Nat) : muRow r (.pointer (some ⟨b, 0, none⟩)) w = match t.tl with | none => 0 | some q => r q + 1 := by
  cases h with
  | mk _ k n fs tl A B ls bs ca cb tv hx hb hn hl hA hB hlen hk ht =>
    have c4 : w.cell? ⟨b, 4, none⟩ = some tv := by simp [World.cell?, hb]
    cases tl with
    | none =>
      have ht : tv = .pointer none := ht
      subst ht
      simp [muRow, c4, Ut.tl]
    | some q =>
      obtain ⟨b2, rfl, _, hb2⟩ := ht
      have c1 : w.cell? ⟨b2, 1, none⟩ = some (.int .i64 q) := by simp [World.cell?, hb2]
      simp [muRow, c4, Ut.tl, pk, c1]

/-- What is known of a row's tail is a row. -/
theorem KG.tail_row {U : List Lb} {S : Kn} (h : KG U S) {q : Int} {t : Ut} {ls : List Lb} (hk : S.κ q = some t) (hl : S.L q = some ls) : isRowB t.k = true := by
  obtain ⟨l, hm⟩ := List.exists_mem_of_ne_nil ls (h.ne q ls hl)
  have := (h.lb q t hk).2 ls hl l hm
  unfold rowLabelB at this
  unfold isRowB
  by_cases h6 : t.k = 6
  · rw [h6]; rfl
  · rw [if_neg h6] at this
    by_cases h7 : t.k = 7
    · rw [h7]; rfl
    · rw [if_neg h7] at this
      cases this

/-- What 'row' answers. -/
def RowPost (X : Nat → Prop) (U : List Lb) (S : Kn) (t : Ut) (w : World) (e : Ending) (w' : World) : Prop :=
  ∃ A cap cl x p tv, e = .returned (.tuple #[.slice A (List.length cl) cap, tv]) ∧ RowG U S t x p ∧ ChAt X w' cl x ∧ TailAt X w' tv p ∧ OwnC w' w.heap.size A cap cl ∧ Below w.heap.size w w'

theorem NodeAt.parts {X : Nat → Prop} {w : World} {b : Nat} {k n : Int} {fs : Fl} {tl : Option Int} (h : NodeAt X w b (.mk k n fs tl)) :
    ∃ (A B : Option Addr) (ls : List ByteArray) (bs : List Nat) (ca cb : Nat) (ta : Option Addr), w.heap[b]? = some (.cells #[.int .i64 k, .int .i64 n, .slice A ls.length ca, .slice B bs.length cb, .pointer ta] 105 (0, 0)) ∧ ls.length = bs.length ∧
      (isRowB k = true → ls = labsF fs) ∧ Lies X 1 encL w A ls ∧ Lies X 1 encB w B bs ∧ bs.length = fs.length ∧ (∀ (i : Nat) (p : Lb × Ut) (c : Nat), fs[i]? = some p → bs[i]? = some c → NodeAt X w c p.2) ∧ TailAt X w (.pointer ta) tl ∧ ¬ X b := by
  cases h with
  | mk _ _ _ _ _ A B ls bs ca cb tv hx hb hn hl hA hB hlen hk ht =>
    have hta : ∃ ta, tv = .pointer ta := by
      cases tl with
      | none => exact ⟨none, ht⟩
      | some q =>
        obtain ⟨b2, e, _⟩ := ht
        exact ⟨_, e⟩
    obtain ⟨ta, rfl⟩ := hta
    exact ⟨A, B, ls, bs, ca, cb, ta, hb, hn, hl, hA, hB, hlen, hk, ht, hx⟩

theorem SolAt.known_later {X : Nat → Prop} {s m : Nat} {first : Int} {w wr : World} {S : Kn} (h : SolAt X s m first w S) (hb : Below w.heap.size w wr) (n : Int) : ∃ v, (∀ j, (Instr.lookup 85 (.map (some m)) (.int .i64 n) false).run Try.prog (wr.drewN j) = .ok v (wr.drewN j)) ∧
    match S.κ n with
    | none => v = .pointer none
    | some t => ∃ b, v = pk b ∧ NodeAt X w b t := by
  obtain ⟨h1, _, _, h2, l, ⟨es, clock, h3, h5⟩, h4⟩ := h
  have hm : KMap ik wr m l := ⟨es, clock, (hb.block m (Array.getElem?_eq_some_iff.1 h3).1).trans h3, h5⟩
  refine ⟨_, fun j => lookup_kn (wr.drewN j) m l n hm, ?_⟩
  have := h4 n
  cases hk : S.κ n with
  | none => rw [hk] at this; simp only [this]; rfl
  | some t =>
    rw [hk] at this
    obtain ⟨b, e, hn⟩ := this
    exact ⟨b, by simp only [e]; rfl, hn⟩

theorem Lies.cellB {X : Nat → Prop} {w : World} {B : Option Addr} {bs : List Nat} (h : Lies X 1 encB w B bs) {i c : Nat} (hc : bs[i]? = some c) : ∃ bb oo, B = some ⟨bb, oo, none⟩ ∧ ¬ X bb ∧ bb < w.heap.size ∧ w.cell? ⟨bb, oo + i, none⟩ = some (.pointer (some ⟨c, 0, none⟩)) := by
  obtain ⟨bb, oo, e, h1, h2, hr⟩ := h (by rintro rfl; simp at hc)
  refine ⟨bb, oo, e, h1, h2, ?_⟩
  have := hr i c hc 0 _ rfl
  simpa [pk] using this

theorem Lies.cellL {X : Nat → Prop} {w : World} {B : Option Addr} {ls : List ByteArray} (h : Lies X 1 encL w B ls) {i : Nat} {l : ByteArray} (hc : ls[i]? = some l) : ∃ bb oo, B = some ⟨bb, oo, none⟩ ∧ ¬ X bb ∧ bb < w.heap.size ∧ w.cell? ⟨bb, oo + i, none⟩ = some (.string l) := by
  obtain ⟨bb, oo, e, h1, h2, hr⟩ := h (by rintro rfl; simp at hc)
  refine ⟨bb, oo, e, h1, h2, ?_⟩
  have := hr i l hc 0 _ rfl
  simpa using this

theorem sortStable_any (base : Nat) (A : Option Addr) (cap : Nat) (l : List (ByteArray × Nat)) (w : World) (h : OwnC w base A cap l) (hl : l.length ≤ 1000000) :
    Calls Try.prog 139 #[.slice A l.length cap, cmpV] w fun e w' => e = .returned (.tuple #[]) ∧ ∃ l' : List (ByteArray × Nat), l'.length = l.length ∧ l'.Perm l ∧ Srt leC l' 0 l'.length ∧ OwnC w' base A cap l' ∧ Below base w w' := by
  cases A with
  | none =>
    rcases h.2 with ⟨hv, hn⟩ | ⟨g, cap', cur, hv, _⟩
    · have hl : l = [] := List.eq_nil_of_length_eq_zero hn
      subst hl
      refine (sortStable_none cap cmpV w).mono ?_
      rintro e w' ⟨he, rfl⟩
      exact ⟨he, [], rfl, .refl _, fun i j x y _ _ h => by simp at h, h, Below.refl _ _⟩
    · cases hv
  | some a =>
    rcases h.2 with ⟨hv, hn⟩ | ⟨g, cap', cur, hv, hbg, hgz, _⟩
    · cases hv
    · have hgz : g < w.heap.size := (Array.getElem?_eq_some_iff.1 hgz).1
      injection hv with hv _ _
      injection hv with hv
      subst hv
      refine (sortStable_at base g cap l l.length w h rfl hl).mono ?_
      rintro e w' ⟨he, l', h1, h2, h3, h4⟩
      refine ⟨he, l', h2.len, h2.perm, by rw [h2.len]; exact h1, h3, h4.os, h4.tape, h4.output, h4.size, fun i hi => ?_⟩
      exact h4.block i (by omega) fun e => by injection e with e; omega

/-- Whether a row's known end is here. -/
def stopR (S : Kn) : Option Int → Bool
  | none => true
  | some q => (S.κ q).isNone

/-- What 'row' answers, whatever is known of the way along the tails. -/
def RowCore (X : Nat → Prop) (S : Kn) (Ch : Fl → Option Int → Prop) (w : World) (e : Ending) (w' : World) : Prop :=
  ∃ A cap cl x p tv, e = .returned (.tuple #[.slice A (List.length cl) cap, tv]) ∧ Ch x p ∧ (∀ q, p = some q → S.κ q = none) ∧ ChAt X w' cl (srtF x) ∧ TailAt X w' tv p ∧ OwnC w' w.heap.size A cap cl ∧ Below w.heap.size w w'

set_option maxRecDepth 100000 in
set_option maxHeartbeats 8000000 in
theorem row_core (X : Nat → Prop) (s m : Nat) (first : Int) (w : World) (S : Kn) (hS : SolAt X s m first w S) (hrk : S.Rk) (b : Nat) (k n : Int) (fs : Fl) (tl : Option Int) (hb : NodeAt X w b (.mk k n fs tl)) (hr : isRowB k = true)
    (Ch : Fl → Option Int → Prop) (c0 : Ch fs tl) (clen : ∀ x p, Ch x p → x.length ≤ 100000) (cnod : ∀ x p, Ch x p → (labsF x).Nodup) (cmore : ∀ x q y, Ch x (some q) → S.κ q = some y → isRowB y.k = true ∧ Ch (x ++ y.fs) y.tl ∧ ∃ ls, S.L q = some ls) :
    Calls Try.prog 103 #[pk s, pk b] w (RowCore X S Ch w) := by
  obtain ⟨r, hr1, hr2⟩ := hrk
  have HR := Lib.hid hr2
  have HS := Lib.hid hS
  have HB := Lib.hid hb
  have HC0 := Lib.hid c0
  have HLn := Lib.hid clen
  have HNd := Lib.hid cnod
  have HMo := Lib.hid cmore
  have HRow := Lib.hid hr
  clear hb hS c0 clen cnod cmore hr hr1 hr2
  unfold pk
  go_enter Try.func103, Try.ntmps103
  go_wp2_with fail
  go_loopw [1, 6] (fun s1 s6 wr => ∃ (c : Nat) (k' n' : Int) (fs' : Fl) (tl' : Option Int) (A : Option Addr) (cap : Nat) (cl : List (ByteArray × Nat)) (x : Fl), s1 = .pointer (some ⟨c, 0, none⟩) ∧ s6 = .slice A cl.length cap ∧
      Hid (NodeAt X w c (.mk k' n' fs' tl') ∧ isRowB k' = true ∧ Ch (x ++ fs') tl' ∧ ChAt X w cl x ∧ OwnC wr w.heap.size A cap cl ∧ Below w.heap.size w wr)) (fun s1 _ wr => muRow r s1 w)
  case atStart => exact ⟨b, k, n, fs, tl, none, 0, [], [], rfl, rfl, Lib.hid ⟨HB.out, HRow.out, HC0.out, ChAt.nil, OwnL.nil, Below.refl _ _⟩⟩
  case round =>
    obtain ⟨c, k', n', fs', tl', A, cap, cl, x, rfl, rfl, M⟩ := hrel
    clear HB
    have hlen := Lib.hid (HLn.out _ _ M.out.2.2.1)
    obtain ⟨A', B', ls, bs, ca, cb, ta, hb, hn, hl, hA, hB, hbl, hk, ht, hx⟩ := M.out.1.parts
    have hcz : c < w.heap.size := (Array.getElem?_eq_some_iff.1 hb).1
    have P := Lib.hid (And.intro hn (And.intro (hl M.out.2.1) (And.intro hA (And.intro hB (And.intro hbl (And.intro hk ht))))))
    have hb1 : wr.heap[c]? = _ := (M.out.2.2.2.2.2.block c hcz).trans hb
    have c2 : wr.cell? ⟨c, 2, none⟩ = some (.slice A' ls.length ca) := by simp [World.cell?, hb1]
    have c3 : wr.cell? ⟨c, 3, none⟩ = some (.slice B' bs.length cb) := by simp [World.cell?, hb1]
    have hbs : bs.length ≤ 100000 := by
      have := hlen.out
      simp only [List.length_append] at this
      omega
    have HBl := Lib.hid hb
    clear hb hn hl hA hB hbl hk ht hx hb1
    go_wp2_with fail
    obtain ⟨wo, rfl⟩ : ∃ wo : World, wo = wr := ⟨_, rfl⟩
    go_loopw [6, 14] (fun s6 s14 wr => ∃ (i : Nat) (A : Option Addr) (cap : Nat) (cl : List (ByteArray × Nat)), s14 = .int .i64 i ∧ s6 = .slice A cl.length cap ∧ i ≤ bs.length ∧ Hid (ChAt X w cl (x ++ fs'.take i) ∧ OwnC wr w.heap.size A cap cl ∧ Below w.heap.size w wr)) (fun _ s14 _ => bs.length - (intOf s14).toNat)
    case atStart => exact ⟨0, A, cap, cl, rfl, rfl, Nat.zero_le _, Lib.hid ⟨by rw [List.take_zero, List.append_nil]; exact M.out.2.2.2.1, M.out.2.2.2.2⟩⟩
    case round =>
      clear c2 c3
      obtain ⟨i, A, cap, cl, rfl, rfl, hi, MI⟩ := hrel
      have c2 : wr.cell? ⟨c, 2, none⟩ = some (.slice A' ls.length ca) := by
        have hb1 : wr.heap[c]? = _ := (MI.out.2.2.block c hcz).trans HBl.out
        simp [World.cell?, hb1]
      by_cases hp : i < bs.length
      · obtain ⟨d, hd⟩ := getq_ex (l := bs) (i := i) hp
        obtain ⟨l, hl⟩ := getq_ex (l := ls) (i := i) (by have := P.out.1; omega)
        obtain ⟨p, hpq⟩ := getq_ex (l := fs') (i := i) (by have := P.out.2.2.2.2.1; omega)
        obtain ⟨bb, oo, rfl, _, hbb, cb0⟩ := P.out.2.2.2.1.cellB hd
        obtain ⟨bl, ol, rfl, _, hbl, cl0⟩ := P.out.2.2.1.cellL hl
        have cb1 := (MI.out.2.2.cell (p := ⟨bb, oo + i, none⟩) hbb).trans cb0
        have cl1 := (MI.out.2.2.cell (p := ⟨bl, ol + i, none⟩) hbl).trans cl0
        have hlp : Hid (l = p.1 ∧ NodeAt X w d p.2) := Lib.hid ⟨by
          have := P.out.2.1
          rw [this] at hl
          simp [labsF, hpq] at hl
          exact hl.symm, P.out.2.2.2.2.2.1 i p d hpq hd⟩
        have htk : Hid (fs'.take (i + 1) = fs'.take i ++ [p]) := Lib.hid (by rw [List.take_add_one, hpq]; rfl)
        have hil : i < ls.length := getq_lt hl
        have hcll : cl.length ≤ 200000 := by
          have h1 := MI.out.1.1
          have h2 := hlen.out
          simp only [List.length_append, List.length_take] at h1 h2
          omega
        have hwz : w.heap.size ≤ wr.heap.size := MI.out.2.2.size
        clear hd hl hpq cb0 cl0 hbb hbl
        go_wp2_with (at_builtin; refine wpList_appC rfl (.tmp 19) (.tmp 29) rfl w.heap.size (l := cl) rfl (OwnL.alloc MI.out.2.1 _) (l2 := [(l, d)]) rfl (readC_new _ (l, d) _) (by simp; omega) (by simp; omega) ?_; intro A1 c1 w1 hown1 hg1 _)
        have MJ : Hid (ChAt X w (cl ++ [(l, d)]) (x ++ fs'.take (i + 1)) ∧ OwnC w1 w.heap.size A1 c1 (cl ++ [(l, d)]) ∧ Below w.heap.size w w1) := Lib.hid ⟨by
          rw [htk.out, ← List.append_assoc, hlp.out.1]
          exact MI.out.1.snoc hlp.out.2, hown1, ext_app (ext_alloc MI.out.2.2 _) hg1 (fun q hq => (MI.out.2.1.block q hq).1)⟩
        clear hown1 hg1 cb1 cl1
        go_roundw
        case rel => exact ⟨i + 1, A1, c1, cl ++ [(l, d)], by go_num, by simp, hp, MJ⟩
        case measure => simp [intOf]; omega
      · have hie : Hid (fs'.take i = fs') := Lib.hid (List.take_of_length_le (by have := P.out.2.2.2.2.1; omega))
        have MF : Hid (ChAt X w cl (x ++ fs') ∧ OwnC wr w.heap.size A cap cl ∧ Below w.heap.size w wr) := Lib.hid (by have := MI.out; rw [hie.out] at this; exact this)
        have hcl2 : Hid (cl.length ≤ 100000) := Lib.hid (by have := MF.out.1.1; have := hlen.out; omega)
        clear hie MI
        have c4 : wr.cell? ⟨c, 4, none⟩ = some (.pointer ta) := by
          have hb1 : wr.heap[c]? = _ := (MF.out.2.2.block c hcz).trans HBl.out
          simp [World.cell?, hb1]
        go_wp2_with fail
        obtain ⟨wo2, rfl⟩ : ∃ wo2 : World, wo2 = wr := ⟨_, rfl⟩
        go_cut [51] (fun s51 wx => s51 = .bool (stopR S tl') ∧ ∃ q, wx = wo2.drewN q)
        case first => as_aux_lemma =>
          cases tl' with
          | none =>
            have hta : ta = none := by have : Value.pointer ta = .pointer none := P.out.2.2.2.2.2.2; simpa using this
            subst hta
            go_quiet (fail)
            go_wp2_with fail
            go_meet
            exact ⟨rfl, _, rfl⟩
          | some q =>
            obtain ⟨bt, hbt, _, hbq⟩ := P.out.2.2.2.2.2.2
            obtain rfl : ta = some ⟨bt, 0, none⟩ := by simpa [pk] using hbt
            have hbtz : bt < w.heap.size := (Array.getElem?_eq_some_iff.1 hbq).1
            have t1 : wo2.cell? ⟨bt, 1, none⟩ = some (.int .i64 q) := by
              have hb1 : wo2.heap[bt]? = _ := (MF.out.2.2.block bt hbtz).trans hbq
              simp [World.cell?, hb1]
            have s2 : wo2.cell? ⟨s, 2, none⟩ = some (.map (some m)) := (MF.out.2.2.cell (p := ⟨s, 2, none⟩) (Array.getElem?_eq_some_iff.1 HS.out.st).1).trans HS.out.cell.1
            obtain ⟨v, hv, hv2⟩ := HS.out.known_later MF.out.2.2 q
            have HV := Lib.hid hv2
            clear hbt hbq hv2 hbtz
            cases hkq : S.κ q with
            | none =>
              have hvn : v = .pointer none := by have := HV.out; rw [hkq] at this; exact this
              subst hvn
              go_quiet (fail)
              go_wp2_with fail
              go_meet
              exact ⟨by simp [stopR, hkq], _, rfl⟩
            | some y =>
              have hy : ∃ d, v = pk d ∧ NodeAt X w d y := by have := HV.out; rw [hkq] at this; exact this
              obtain ⟨d, rfl, _⟩ := hy
              unfold pk at hv
              go_quiet (fail)
              go_wp2_with fail
              go_meet
              exact ⟨by simp [stopR, hkq], _, rfl⟩
        case rest =>
          obtain ⟨rfl, q9, rfl⟩ := hcut
          cases hst : stopR S tl'
          · have Hst := Lib.hid hst
            cases tl' with
            | none => cases hst
            | some q =>
              clear hst
              obtain ⟨bt, hbt, _, hbq⟩ := P.out.2.2.2.2.2.2
              obtain rfl : ta = some ⟨bt, 0, none⟩ := by simpa [pk] using hbt
              have hbtz : bt < w.heap.size := (Array.getElem?_eq_some_iff.1 hbq).1
              have hbel := MF.out.2.2.trans (below_drewN (Below.refl w.heap.size wo2) q9)
              have t1 : wo2.cell? ⟨bt, 1, none⟩ = some (.int .i64 q) := by
                have hb1 : wo2.heap[bt]? = _ := (MF.out.2.2.block bt hbtz).trans hbq
                simp [World.cell?, hb1]
              have s2 : wo2.cell? ⟨s, 2, none⟩ = some (.map (some m)) := (MF.out.2.2.cell (p := ⟨s, 2, none⟩) (Array.getElem?_eq_some_iff.1 HS.out.st).1).trans HS.out.cell.1
              obtain ⟨v, hv, hv2⟩ := HS.out.known_later MF.out.2.2 q
              have hky : ∃ y, S.κ q = some y := by
                have := Hst.out
                simp only [stopR] at this
                cases hk : S.κ q with
                | none => rw [hk] at this; cases this
                | some y => exact ⟨y, rfl⟩
              obtain ⟨y, hky⟩ := hky
              have hy : ∃ d, v = pk d ∧ NodeAt X w d y := by rw [hky] at hv2; exact hv2
              obtain ⟨d, rfl, hdy⟩ := hy
              obtain ⟨hrow, hch, ls0, hls0⟩ := HMo.out _ q y M.out.2.2.1 hky
              obtain ⟨ky, ny, fy, ty⟩ := y
              have MN : Hid (NodeAt X w d (.mk ky ny fy ty) ∧ isRowB ky = true ∧ Ch ((x ++ fs') ++ fy) ty ∧ ChAt X w cl (x ++ fs') ∧ OwnC (wo2.drewN q9) w.heap.size A cap cl ∧ Below w.heap.size w (wo2.drewN q9)) := Lib.hid ⟨hdy, hrow, hch, MF.out.1, MF.out.2.1.drewN q9, hbel⟩
              have hmu : Hid (muRow r (.pointer (some ⟨d, 0, none⟩)) w < muRow r (.pointer (some ⟨c, 0, none⟩)) w) := Lib.hid (by
                rw [muRow_node hdy, muRow_node M.out.1]
                obtain ⟨a1, _, a3⟩ := HR.out q _ hky
                cases ty with
                | none => exact Nat.succ_pos _
                | some q' =>
                  have := a3 ls0 q' hls0 rfl
                  show r q' + 1 < r q + 1
                  omega)
              clear hbt hbq hv2 hky hdy hls0 hrow hbel hch
              unfold pk at hv
              go_wp2_with fail
              go_quiet (fail)
              go_wp2_with fail
              go_roundw
              case rel => exact ⟨d, ky, ny, fy, ty, A, cap, cl, x ++ fs', rfl, rfl, Lib.hid ⟨MN.out.1, MN.out.2.1, MN.out.2.2.1, MN.out.2.2.2.1, MN.out.2.2.2.2.1.drewN _, MN.out.2.2.2.2.2.trans (below_drewN (Below.refl _ _) _)⟩⟩
              case measure => exact hmu.out
          · have Hst := Lib.hid hst
            clear hst
            go_wp2_with fail
            refine (sortStable_any w.heap.size A cap cl _ (MF.out.2.1.drewN q9) (by have := hcl2.out; omega)).mono ?_
            rintro e w3 ⟨rfl, l3, z1, z2, z3, z4, z5⟩
            have Z := Lib.hid (And.intro z1 (And.intro z2 (And.intro z3 (And.intro z4 ((MF.out.2.2.trans (below_drewN (Below.refl w.heap.size wo2) q9)).trans z5)))))
            clear z1 z2 z3 z4 z5 c4
            have c4 : w3.cell? ⟨c, 4, none⟩ = some (.pointer ta) := by
              have hb1 : w3.heap[c]? = _ := (Z.out.2.2.2.2.block c hcz).trans HBl.out
              simp [World.cell?, hb1]
            go_wp2_with fail
            go_quiet (fail)
            go_wp2_with fail
            go_ret2
            have hst2 : ∀ q, tl' = some q → S.κ q = none := by
              rintro q rfl
              have := Hst.out
              simpa [stopR] using this
            have hch := M.out.2.2.1
            have hnod := HNd.out _ _ hch
            have hcs := MF.out.1.srt hnod Z.out.2.1 Z.out.2.2.1
            rw [← Z.out.1]
            exact ⟨A, cap, l3, x ++ fs', tl', .pointer ta, rfl, hch, hst2, hcs.fr (Fr.below (X := fun _ => False) (Z.out.2.2.2.2.trans (below_drewN (Below.refl _ _) _))) (fun _ _ e => e.elim), P.out.2.2.2.2.2.2.fr (Fr.below (X := fun _ => False) (Z.out.2.2.2.2.trans (below_drewN (Below.refl _ _) _))) (fun _ _ e => e.elim), Z.out.2.2.2.1.drewN _, Z.out.2.2.2.2.trans (below_drewN (Below.refl _ _) _)⟩

theorem row_any2 (X : Nat → Prop) (U : List Lb) (s m : Nat) (first : Int) (w : World) (S : Kn) (hS : SolAt X s m first w S) (hK : KG U S) (hU : U.length ≤ 100000) (b : Nat) (k : Int) (fs : Fl) (tl : Option Int) (hb : NodeAt X w b (.mk k 0 fs tl)) (g : TG U S (.mk k 0 fs tl)) (hr : isRowB k = true) :
    Calls Try.prog 103 #[pk s, pk b] w (RowPost X U S (.mk k 0 fs tl) w) := by
  have h8 := (isRow_k hr).1
  refine (row_core X s m first w S hS hK.rk b k 0 fs tl hb hr (Chain S k fs tl) .here (fun x p h => Nat.le_trans (h.len hK h8 g) hU) (fun x p h => (Chain.row hK.inv hK.fu h8 g.pend g.fu h).1) (fun x q y h hk => ?_)).mono ?_
  · obtain ⟨_, ls, hls, _⟩ := (Chain.row hK.inv hK.fu h8 g.pend g.fu h).2.2.1 q rfl
    have hrow := hK.tail_row hk hls
    obtain ⟨ky, ny, fy, ty⟩ := y
    obtain rfl : ny = 0 := okT_num (hK.inv.dom q _ hk).2.1 (isRow_k hrow).1
    exact ⟨hrow, .more h hk, ls, hls⟩
  · rintro e w' ⟨A, cap, cl, x, p, tv, he, h1, h2, h3⟩
    exact ⟨A, cap, cl, srtF x, p, tv, he, RowG.of_chain hK h8 g h1 h2, h3⟩

/-- What asks of a row's fields alone want. -/
structure RowI (U : List Lb) (S : Kn) (t : Ut) (x : Fl) (p : Option Int) : Prop where
  el : ∀ c ∈ x, TG U S c.2
  len : x.length ≤ U.length
  is : inst S.σ t = .mk t.k 0 (mapF (inst S.σ) x) p

theorem RowG.toI {U : List Lb} {S : Kn} {t : Ut} {x : Fl} {p : Option Int} (r : RowG U S t x p) : RowI U S t x p := ⟨r.el, r.len, r.is⟩

theorem RowI.less {U : List Lb} {S : Kn} {t : Ut} {x : Fl} {p : Option Int} (r : RowI U S t x p) {c : Lb × Ut} (hc : c ∈ x) : tsz (inst S.σ c.2) < tsz (inst S.σ t) := by
  rw [r.is, tsz_mk]
  have := tszF_mem (p := (c.1, inst S.σ c.2)) (a := mapF (inst S.σ) x) (List.mem_map.2 ⟨c, hc, rfl⟩)
  have h2 : tsz (inst S.σ c.2) ≤ tszF (mapF (inst S.σ) x) := this
  omega

theorem RowI.occ {U : List Lb} {S : Kn} {t : Ut} {x : Fl} {p : Option Int} (r : RowI U S t x p) (h8 : t.k ≠ 8) (v : Int) : occN v (inst S.σ t) ↔ p = some v ∨ ∃ c ∈ x, occN v (inst S.σ c.2) := by
  rw [r.is, occN_mk]
  constructor
  · rintro (⟨e, _⟩ | e | ⟨c, hc, ho⟩)
    · exact absurd e h8
    · exact .inl e
    · obtain ⟨c', h1, rfl⟩ := List.mem_map.1 hc
      exact .inr ⟨c', h1, ho⟩
  · rintro (e | ⟨c, hc, ho⟩)
    · exact .inr (.inl e)
    · exact .inr (.inr ⟨(c.1, inst S.σ c.2), List.mem_map.2 ⟨c, hc, rfl⟩, ho⟩)

/-- A row whose tail is not known, and need not have its labels. -/
structure WR (U : List Lb) (S : Kn) (t : Ut) : Prop where
  row : isRowB t.k = true
  ok : okT S.L t
  sh : shT t
  el : ∀ c ∈ t.fs, TG U S c.2
  lb : ∀ l ∈ labsF t.fs, l ∈ U
  unk : ∀ q, t.tl = some q → S.κ q = none

theorem WR.rowI {U : List Lb} {S : Kn} {t : Ut} (h : S.Inv) (g : WR U S t) : RowI U S t (srtF t.fs) t.tl := by
  obtain ⟨k, n, fs, tl⟩ := t
  obtain ⟨hr, ho, _, el, lb, unk⟩ := g
  have h8 : k ≠ 8 := (isRow_k hr).1
  obtain rfl := okT_num ho h8
  refine ⟨fun c hc => el c (srtF_mem.1 hc), ?_, ?_⟩
  · rw [srtF_len]
    rw [okT_mk] at ho
    have := nodup_len ho.1.1 lb
    have this : (labsF fs).length ≤ U.length := this
    show fs.length ≤ U.length
    simpa [labsF] using this
  · have unk : ∀ q, tl = some q → S.κ q = none := unk
    rw [inst_eq, if_neg h8, tail_unk h unk, List.append_nil, mapF_srt]
    rfl

/-- What 'row' answers, as far as asks of fields go. -/
def RowPostI (X : Nat → Prop) (U : List Lb) (S : Kn) (t : Ut) (w : World) (e : Ending) (w' : World) : Prop :=
  ∃ A cap cl x p tv, e = .returned (.tuple #[.slice A (List.length cl) cap, tv]) ∧ RowI U S t x p ∧ ChAt X w' cl x ∧ TailAt X w' tv p ∧ OwnC w' w.heap.size A cap cl ∧ Below w.heap.size w w'

theorem row_weak (X : Nat → Prop) (U : List Lb) (s m : Nat) (first : Int) (w : World) (S : Kn) (hS : SolAt X s m first w S) (hK : KG U S) (hU : U.length ≤ 100000) (b : Nat) (t : Ut) (hb : NodeAt X w b t) (g : WR U S t) :
    Calls Try.prog 103 #[pk s, pk b] w (RowPostI X U S t w) := by
  have hi := g.rowI hK.inv
  obtain ⟨k, n, fs, tl⟩ := t
  have hnd := g.ok
  rw [okT_mk] at hnd
  refine (row_core X s m first w S hS hK.rk b k n fs tl hb g.row (fun x p => x = fs ∧ p = tl) ⟨rfl, rfl⟩ (fun x p h => ?_) (fun x p h => by rw [h.1]; exact hnd.1.1) (fun x q y h hk => ?_)).mono ?_
  · rw [h.1]
    have := hi.len
    rw [srtF_len] at this
    have this : fs.length ≤ U.length := this
    omega
  · rw [g.unk q h.2.symm] at hk
    cases hk
  · rintro e w' ⟨A, cap, cl, x, p, tv, he, ⟨rfl, rfl⟩, _, h3⟩
    exact ⟨A, cap, cl, srtF x, p, tv, he, hi, h3⟩
end Go.Proofs.Ytblfeokjlecgkaa
