/- Laid together by a tool from the texts of this seat: TrD TrE ShI RowB RowP TrP. Conditions: each theorem's own. -/
import Derived.Test.YtblfeokjlecgkaaT09
import Derived.Test.YtblfeokjlecgkaaShelf
import Derived.Test.YtblfeokjlecgkaaT05
/- Tokens, as the document reads them: one token. -/
namespace Go.Proofs.Ytblfeokjlecgkaa
open Go.RowKit

attribute [local go_sem ↓] Go.wp_at_zero Go.wp_at_succ

/-- A token: its kind, its text, where it stands. -/
structure Tk where
  k : Int
  s : ByteArray
  f : Nat
  t : Nat
  deriving DecidableEq

def encK4 (t : Tk) : List Value := [.int .i64 t.k, .string t.s, .int .i64 t.f, .int .i64 t.t]
abbrev tkV (t : Tk) : Value := .agg #[.int .i64 t.k, .string t.s, .int .i64 t.f, .int .i64 t.t]

/-- Where the bytes end that go on with a word. -/
def goesTo (s : ByteArray) (k : Nat) : Nat := k + ((s.data.toList.drop k).takeWhile fun d => behindC d.toNat).length
theorem goesTo_end (s : ByteArray) {k : Nat} (hk : ¬ k < s.size) : goesTo s k = k := by unfold goesTo; rw [drop_end s hk]; rfl
theorem goesTo_on (s : ByteArray) {k : Nat} (hk : k < s.size) (h : behindC (s[k]'hk).toNat = true) : goesTo s (k + 1) = goesTo s k := by
  unfold goesTo; rw [drop_at s hk, List.takeWhile_cons]; simp only [h, if_true, List.length_cons]; omega
theorem goesTo_off (s : ByteArray) {k : Nat} (hk : k < s.size) (h : behindC (s[k]'hk).toNat = false) : goesTo s k = k := by
  unfold goesTo; rw [drop_at s hk, List.takeWhile_cons]; simp [h]
theorem goesTo_le (s : ByteArray) {k : Nat} (hk : k ≤ s.size) : k ≤ goesTo s k ∧ goesTo s k ≤ s.size := by
  have h := (List.takeWhile_prefix (fun d : UInt8 => behindC d.toNat) (l := s.data.toList.drop k)).length_le
  have hl : s.data.toList.length = s.size := rfl
  rw [List.length_drop] at h
  unfold goesTo
  omega

/-- All bytes up to a place are figures. -/
def figsB (s : ByteArray) (k m : Nat) : Bool := ((s.data.toList.take m).drop k).all fun d => figC d.toNat
theorem figsB_end (s : ByteArray) {k m : Nat} (h : ¬ k < m) : figsB s k m = true := by
  unfold figsB
  rw [List.drop_of_length_le (by rw [List.length_take]; omega)]
  rfl
theorem figsB_succ (s : ByteArray) {k m : Nat} (hk : k < s.size) (h : k < m) : figsB s k m = (figC (s[k]'hk).toNat && figsB s (k + 1) m) := by
  have hl : k < (s.data.toList.take m).length := by rw [List.length_take]; have : s.data.toList.length = s.size := rfl; omega
  unfold figsB
  rw [List.drop_eq_getElem_cons hl, List.all_cons, List.getElem_take]
  rfl

/-- What stands at a place, if that is no quote. -/
def oneF (s : ByteArray) (k : Nat) : Tk × Bool :=
  if tagB (s.extract k (goesTo s k)) = true then (⟨2, s.extract k (goesTo s k), k, goesTo s k⟩, true)
  else if keyB (s.extract k (goesTo s k)) = true then (⟨6, s.extract k (goesTo s k), k, goesTo s k⟩, true)
  else if wordB (s.extract k (goesTo s k)) = true then (⟨1, s.extract k (goesTo s k), k, goesTo s k⟩, true)
  else if k < goesTo s k then
    if figsB s k (goesTo s k) = true then (⟨3, s.extract k (goesTo s k), k, goesTo s k⟩, decide (goesTo s k - k ≤ 18))
    else (⟨1, s.extract k (goesTo s k), k, goesTo s k⟩, false)
  else (⟨5, signB s k, k, k + (signB s k).size⟩, !(signB s k).toList.isEmpty)

/-- What stands at a place. -/
def OneR (s : ByteArray) (k : Nat) (hk : k < s.size) (t : Tk) (ok : Bool) : Prop :=
  ((s[k]'hk).toNat = 34 ∧ (ok = true → t.k = 4 ∧ t.f = k ∧ k + 2 ≤ t.t ∧ t.t ≤ s.size)) ∨ ((s[k]'hk).toNat ≠ 34 ∧ (t, ok) = oneF s k)

def OnePost (s : ByteArray) (k : Nat) (hk : k < s.size) (w : World) (e : Ending) (w' : World) : Prop := ∃ (t : Tk) (ok : Bool), e = .returned (.tuple #[tkV t, .bool ok]) ∧ OneR s k hk t ok ∧ Below w.heap.size w w'

theorem signB_size (s : ByteArray) (k : Nat) : (signB s k).size ≤ 2 := by
  unfold signB signFrom
  cases h : (signsL.drop 0).find? (signAt s k) with
  | none => decide
  | some x =>
    have hx := List.mem_of_find?_eq_some h
    have : ∀ y ∈ signsL, y.size ≤ 2 := by decide
    exact this x (by simpa using hx)

/-- A token's cells, in a block of their own. -/
def KAt (w : World) (b : Nat) (k : Int) (s : ByteArray) (f t : Int) : Prop := w.heap[b]? = some (.cells #[.int .i64 k, .string s, .int .i64 f, .int .i64 t] 113 (0, 0))
section
variable {w w' : World} {b z : Nat} {k f t k' f' t' : Int} {s s' : ByteArray}
theorem KAt.at_ (h : KAt w b k s f t) : w.cell? ⟨b, 0, none⟩ = some (.int .i64 k) ∧ w.cell? ⟨b, 1, none⟩ = some (.string s) ∧ w.cell? ⟨b, 2, none⟩ = some (.int .i64 f) ∧ w.cell? ⟨b, 3, none⟩ = some (.int .i64 t) := by
  unfold KAt at h
  exact ⟨by simp [World.cell?, h], by simp [World.cell?, h], by simp [World.cell?, h], by simp [World.cell?, h]⟩
theorem KAt.fz (h : KAt w b k s f t) : w.frozen? ⟨b, 0, none⟩ = false ∧ w.frozen? ⟨b, 1, none⟩ = false ∧ w.frozen? ⟨b, 2, none⟩ = false ∧ w.frozen? ⟨b, 3, none⟩ = false := by
  unfold KAt at h
  exact ⟨by simp [World.frozen?, h], by simp [World.frozen?, h], by simp [World.frozen?, h], by simp [World.frozen?, h]⟩
theorem KAt.lt (h : KAt w b k s f t) : b < w.heap.size := (Array.getElem?_eq_some_iff.1 h).1
theorem KAt.later (h : KAt w b k s f t) (hb : Below w.heap.size w w') : KAt w' b k s f t := (hb.block b h.lt).trans h
theorem KAt.new (w : World) (k : Int) (s : ByteArray) (f t : Int) : KAt (w.alloc (.cells #[.int .i64 k, .string s, .int .i64 f, .int .i64 t] 113)) w.heap.size k s f t := heap_alloc_new w _
theorem KAt.other (h : KAt w b k s f t) {c : Nat} (hne : b ≠ c) (i : Nat) (u : Value) : KAt (w.setCell ⟨c, i, none⟩ u) b k s f t := by
  unfold KAt at *
  simp only [World.setCell, Array.getElem?_modify]
  rw [if_neg (Ne.symm hne)]
  exact h
/-- A store of all four cells. -/
abbrev set4 (w : World) (b : Nat) (k : Int) (s : ByteArray) (f t : Int) : World := (((w.setCell ⟨b, 0, none⟩ (.int .i64 k)).setCell ⟨b, 1, none⟩ (.string s)).setCell ⟨b, 2, none⟩ (.int .i64 f)).setCell ⟨b, 3, none⟩ (.int .i64 t)
theorem KAt.set4 (h : KAt w b k s f t) (k' : Int) (s' : ByteArray) (f' t' : Int) : KAt (set4 w b k' s' f' t') b k' s' f' t' := by
  unfold KAt at *
  exact heap_set (heap_set (heap_set (heap_set h 0 _) 1 _) 2 _) 3 _
theorem below_set4 {w0 : World} (h : Below w0.heap.size w0 w) (hb : w0.heap.size ≤ b) (k' : Int) (s' : ByteArray) (f' t' : Int) : Below w0.heap.size w0 (set4 w b k' s' f' t') :=
  ext_set (ext_set (ext_set (ext_set h (p := ⟨b, 0, none⟩) hb _) (p := ⟨b, 1, none⟩) hb _) (p := ⟨b, 2, none⟩) hb _) (p := ⟨b, 3, none⟩) hb _
end

set_option maxRecDepth 100000 in
set_option maxHeartbeats 8000000 in
theorem tokOne_any (s : ByteArray) (k : Nat) (w : World) (hk : k < s.size) (hs : s.size ≤ 100000) : Calls Try.prog 77 #[.string s, .int .i64 k] w (OnePost s k hk w) := by
  have hba := ext_alloc (Below.refl w.heap.size w) (.cells #[.int .i64 0, .string ⟨#[]⟩, .int .i64 0, .int .i64 0] 113)
  have hna := KAt.new w 0 ⟨#[]⟩ 0 0
  obtain ⟨wa, hwa⟩ : ∃ wa, wa = w.alloc (.cells #[.int .i64 0, .string ⟨#[]⟩, .int .i64 0, .int .i64 0] 113) := ⟨_, rfl⟩
  rw [← hwa] at hba hna
  have HBA := Lib.hid hba
  have HNA := Lib.hid hna
  clear hba hna
  by_cases hq : (s[k]'hk).toNat = 34
  · have HQ := Lib.hid hq
    have hqi : ((s[k]'hk).toNat : Int) = 34 := by omega
    go_enter Try.func77, Try.ntmps77
    go_upto_region 1 with fail
    rw [← hwa]
    clear hwa hq
    go_wp2_with fail
    refine (unquote_any (s.extract k s.size) wa (by simp; omega)).mono ?_
    rintro e w1 ⟨x, n, e0, rfl, hn, hle, hb⟩
    have hle2 : n ≤ s.size - k := by simpa using hle
    have HB1 := Lib.hid (ext_trans HBA.out hb)
    have e1 := HNA.out.later hb
    have HK := Lib.hid e1
    have k1 := e1.at_
    have k2 := e1.fz
    have hw : IntKind.i64.wrap ((k : Int) + (n : Int)) = (k : Int) + (n : Int) := IntWalk.i64_in _ (by omega)
    clear e1 hb hle
    go_wp2_with fail
    obtain ⟨z0, z1, z2, z3⟩ := (HK.out.set4 4 x k (k + n)).at_
    exact bodyPost_ret (v := .tuple #[tkV ⟨4, x, k, k + n⟩, .bool (e0 == 0)]) (by simp [results, Try.results77, go_sem, z0, z1, z2, z3]) rfl ⟨⟨4, x, k, k + n⟩, _, rfl, .inl ⟨HQ.out, fun he => ⟨rfl, rfl, by have := hn (by simpa using he); show k + 2 ≤ k + n; omega, by show k + n ≤ s.size; omega⟩⟩, below_set4 HB1.out (Nat.le_refl _) _ _ _ _⟩
  · have HQ := Lib.hid hq
    have hqi : (((s[k]'hk).toNat : Int) == 34) = false := by rw [beq_eq_false_iff_ne]; omega
    obtain ⟨m, hto⟩ : ∃ m, m = goesTo s k := ⟨_, rfl⟩
    have HTO := Lib.hid hto
    have hle := goesTo_le s (Nat.le_of_lt hk)
    rw [← hto] at hle
    obtain ⟨hle1, hle2⟩ := hle
    go_enter Try.func77, Try.ntmps77
    go_upto_region 1 with fail
    rw [← hwa]
    clear hwa hq hto
    go_wp2_with fail
    go_loop [9] (fun a => ∃ j : Nat, k ≤ j ∧ j ≤ s.size ∧ a = .int .i64 j ∧ Hid (goesTo s j = m)) (fun a => s.size - (intOf a).toNat)
    case atStart => exact ⟨k, Nat.le_refl _, Nat.le_of_lt hk, rfl, Lib.hid HTO.out.symm⟩
    case round =>
      obtain ⟨j, hj1, hj, rfl, HJ⟩ := hrel
      have hcase : (∃ hp : j < s.size, behindC ((s[j]'hp).toNat : Int) = true) ∨ (∃ hp : j < s.size, behindC ((s[j]'hp).toNat : Int) = false) ∨ ¬ j < s.size := by
        by_cases hp : j < s.size
        · cases hb : behindC ((s[j]'hp).toNat : Int)
          · exact .inr (.inl ⟨hp, hb⟩)
          · exact .inl ⟨hp, hb⟩
        · exact .inr (.inr hp)
      rcases hcase with ⟨hp, hb⟩ | hcase
      · have hstep := Lib.hid (goesTo_on s hp hb)
        have Hb := Lib.hid hb
        clear hb
        go_wp2_with (go_at_call 117; refine (goes_any _ _).mono ?_; rintro e w' ⟨rfl, rfl⟩; rw [Hb.out])
        go_round
        case rel => exact ⟨j + 1, by omega, hp, by go_num, Lib.hid (hstep.out.trans HJ.out)⟩
        case measure => simp [intOf]; omega
      · have hend : Hid (goesTo s j = j) := Lib.hid (by
          rcases hcase with ⟨hp, hb⟩ | hp
          · exact goesTo_off s hp hb
          · exact goesTo_end s hp)
        have Hb : Hid (∀ hp : j < s.size, behindC ((s[j]'hp).toNat : Int) = false) := Lib.hid fun hp => by
          rcases hcase with ⟨_, hb⟩ | hp'
          · exact hb
          · exact absurd hp hp'
        have hp : j < s.size ∨ ¬ j < s.size := by omega
        clear hcase
        have hjm : j = m := by rw [← HJ.out, hend.out]
        subst hjm
        have HTE : Hid (goesTo s k = j) := Lib.hid HTO.out.symm
        clear HJ hend HTO
        obtain ⟨T, hT⟩ : ∃ T, T = s.extract k j := ⟨_, rfl⟩
        have hTs : T.size ≤ 9223372036854775807 := by rw [hT]; simp; omega
        have HT := Lib.hid hT
        have htag := Lib.hid (fun v => rIsTag_any T v hTs)
        have hkey := Lib.hid (fun v => isKey_any T v)
        have hword := Lib.hid (fun v => rIsWord_any T v hTs)
        rcases hp with hp | hp
        all_goals
          go_upto_region 7 with (go_at_call 117; refine (goes_any _ _).mono ?_; rintro e w' ⟨rfl, rfl⟩; rw [Hb.out hp])
          go_upto_region 8 with fail
          rw [← hT]
          obtain ⟨wb, hwb⟩ : ∃ wb, wb = wa.alloc (.cells #[.int .i64 1, .string T, .int .i64 k, .int .i64 j] 113) := ⟨_, rfl⟩
          rw [← hwb]
          have hab : Below wa.heap.size wa wb := by rw [hwb]; exact ext_alloc (Below.refl _ _) _
          have HKB : Hid (KAt wb wa.heap.size 1 T k j) := Lib.hid (by rw [hwb]; exact KAt.new _ _ _ _ _)
          have HKA := Lib.hid (HNA.out.later hab)
          have hne : w.heap.size ≠ wa.heap.size := Nat.ne_of_lt HNA.out.lt
          have HNE := Lib.hid hne
          have HBB := Lib.hid (ext_trans HBA.out hab)
          have HLT : Hid (w.heap.size ≤ wa.heap.size) := Lib.hid (Nat.le_of_lt HNA.out.lt)
          obtain ⟨b0, b1, b2, b3⟩ := HKB.out.at_
          obtain ⟨bf0, bf1, bf2, bf3⟩ := HKB.out.fz
          obtain ⟨a0, a1, a2, a3⟩ := HKA.out.at_
          obtain ⟨af0, af1, af2, af3⟩ := HKA.out.fz
          clear hwb hab hT
          go_wp2_with fail
          refine (htag.out wb).mono ?_
          rintro e w2 ⟨rfl, rfl⟩
          cases htg : tagB T with
          | true =>
            have HG : Hid (oneF s k = (⟨2, T, k, j⟩, true)) := Lib.hid (by unfold oneF; rw [HTE.out, ← HT.out, if_pos htg])
            clear htg
            go_wp2_with fail
            obtain ⟨z0, z1, z2, z3⟩ := ((HKA.out.other HNE.out 0 (.int .i64 2)).set4 2 T k j).at_
            exact bodyPost_ret (v := .tuple #[tkV ⟨2, T, k, j⟩, .bool true]) (by simp [results, Try.results77, go_sem, z0, z1, z2, z3]) rfl ⟨⟨2, T, k, j⟩, true, rfl, .inr ⟨HQ.out, HG.out.symm⟩, below_set4 (ext_set HBB.out (p := ⟨wa.heap.size, 0, none⟩) HLT.out _) (Nat.le_refl _) _ _ _ _⟩
          | false =>
            have HTG := Lib.hid htg
            clear htg
            go_wp2_with fail
            refine (hkey.out wb).mono ?_
            rintro e w2 ⟨rfl, hb2⟩
            have HKB2 := Lib.hid (HKB.out.later hb2)
            have HKA2 := Lib.hid (HKA.out.later hb2)
            have HBB2 := Lib.hid (ext_trans HBB.out hb2)
            obtain ⟨b0, b1, b2, b3⟩ := HKB2.out.at_
            obtain ⟨bf0, bf1, bf2, bf3⟩ := HKB2.out.fz
            obtain ⟨a0, a1, a2, a3⟩ := HKA2.out.at_
            obtain ⟨af0, af1, af2, af3⟩ := HKA2.out.fz
            clear hb2
            cases hke : keyB T with
            | true =>
              have HG : Hid (oneF s k = (⟨6, T, k, j⟩, true)) := Lib.hid (by unfold oneF; rw [HTE.out, ← HT.out, if_neg (by rw [HTG.out]; simp), if_pos hke])
              clear hke
              go_wp2_with fail
              obtain ⟨z0, z1, z2, z3⟩ := ((HKA2.out.other HNE.out 0 (.int .i64 6)).set4 6 T k j).at_
              exact bodyPost_ret (v := .tuple #[tkV ⟨6, T, k, j⟩, .bool true]) (by simp [results, Try.results77, go_sem, z0, z1, z2, z3]) rfl ⟨⟨6, T, k, j⟩, true, rfl, .inr ⟨HQ.out, HG.out.symm⟩, below_set4 (ext_set HBB2.out (p := ⟨wa.heap.size, 0, none⟩) HLT.out _) (Nat.le_refl _) _ _ _ _⟩
            | false =>
              have HKE := Lib.hid hke
              clear hke
              go_wp2_with fail
              refine (hword.out w2).mono ?_
              rintro e w3 ⟨rfl, rfl⟩
              cases hwo : wordB T with
              | true =>
                have HG : Hid (oneF s k = (⟨1, T, k, j⟩, true)) := Lib.hid (by unfold oneF; rw [HTE.out, ← HT.out, if_neg (by rw [HTG.out]; simp), if_neg (by rw [HKE.out]; simp), if_pos hwo])
                clear hwo
                go_wp2_with fail
                obtain ⟨z0, z1, z2, z3⟩ := (HKA2.out.set4 1 T k j).at_
                exact bodyPost_ret (v := .tuple #[tkV ⟨1, T, k, j⟩, .bool true]) (by simp [results, Try.results77, go_sem, z0, z1, z2, z3]) rfl ⟨⟨1, T, k, j⟩, true, rfl, .inr ⟨HQ.out, HG.out.symm⟩, below_set4 HBB2.out (Nat.le_refl _) _ _ _ _⟩
              | false =>
                have HWO := Lib.hid hwo
                clear hwo
                by_cases hkj : k < j
                · have HKJ := Lib.hid hkj
                  have hw18 : IntKind.i64.wrap ((j : Int) - (k : Int)) = (j : Int) - (k : Int) := IntWalk.i64_in _ (by omega)
                  go_wp2_with fail
                  go_loop [11] (fun a => ∃ i : Nat, k ≤ i ∧ i ≤ j ∧ a = .int .i64 i ∧ Hid (figsB s i j = figsB s k j)) (fun a => j - (intOf a).toNat)
                  case atStart => exact ⟨k, Nat.le_refl _, hj1, rfl, Lib.hid rfl⟩
                  case round =>
                    obtain ⟨i, hi1, hi, rfl, HI⟩ := hrel
                    by_cases hij : i < j
                    · have his : i < s.size := by omega
                      have hst := Lib.hid (figsB_succ s his hij)
                      cases hf : figC ((s[i]'his).toNat : Int) with
                      | true =>
                        have HF := Lib.hid hf
                        clear hf
                        go_wp2_with (go_at_call 119; refine (figure_any _ _).mono ?_; rintro e w' ⟨rfl, rfl⟩; rw [HF.out])
                        go_round
                        case rel => exact ⟨i + 1, by omega, hij, by go_num, Lib.hid (by rw [← HI.out, hst.out, HF.out]; rfl)⟩
                        case measure => simp [intOf]; omega
                      | false =>
                        have HG : Hid (oneF s k = (⟨1, T, k, j⟩, false)) := Lib.hid (by unfold oneF; rw [HTE.out, ← HT.out, if_neg (by rw [HTG.out]; simp), if_neg (by rw [HKE.out]; simp), if_neg (by rw [HWO.out]; simp), if_pos HKJ.out, if_neg (by rw [← HI.out, hst.out, hf]; simp)])
                        have HF := Lib.hid hf
                        clear hf
                        go_wp2_with (go_at_call 119; refine (figure_any _ _).mono ?_; rintro e w' ⟨rfl, rfl⟩; rw [HF.out])
                        obtain ⟨z0, z1, z2, z3⟩ := (HKA2.out.set4 1 T k j).at_
                        exact bodyPost_ret (v := .tuple #[tkV ⟨1, T, k, j⟩, .bool false]) (by simp [results, Try.results77, go_sem, z0, z1, z2, z3]) rfl ⟨⟨1, T, k, j⟩, false, rfl, .inr ⟨HQ.out, HG.out.symm⟩, below_set4 HBB2.out (Nat.le_refl _) _ _ _ _⟩
                    · have HG : Hid (oneF s k = (⟨3, T, k, j⟩, decide (j - k ≤ 18))) := Lib.hid (by unfold oneF; rw [HTE.out, ← HT.out, if_neg (by rw [HTG.out]; simp), if_neg (by rw [HKE.out]; simp), if_neg (by rw [HWO.out]; simp), if_pos HKJ.out, if_pos (by rw [← HI.out, figsB_end s hij])])
                      have hd : decide ((j : Int) - (k : Int) ≤ 18) = decide (j - k ≤ 18) := by rw [decide_eq_decide]; omega
                      go_wp2_with fail
                      obtain ⟨z0, z1, z2, z3⟩ := ((HKA2.out.other HNE.out 0 (.int .i64 3)).set4 3 T k j).at_
                      exact bodyPost_ret (v := .tuple #[tkV ⟨3, T, k, j⟩, .bool (decide (j - k ≤ 18))]) (by simp [results, Try.results77, go_sem, z0, z1, z2, z3]) rfl ⟨⟨3, T, k, j⟩, _, rfl, .inr ⟨HQ.out, HG.out.symm⟩, below_set4 (ext_set HBB2.out (p := ⟨wa.heap.size, 0, none⟩) HLT.out _) (Nat.le_refl _) _ _ _ _⟩
                · have HKJ := Lib.hid hkj
                  have hjs : j < s.size := by omega
                  first
                  | exact absurd hjs hp
                  | go_wp2_with fail
                    refine (sign_any s k w2 hs (Nat.le_of_lt hk)).mono ?_
                    rintro e w3 ⟨rfl, hb3⟩
                    have HKA3 := Lib.hid (HKA2.out.later hb3)
                    have HBB3 := Lib.hid (ext_trans HBB2.out hb3)
                    obtain ⟨a0, a1, a2, a3⟩ := HKA3.out.at_
                    obtain ⟨af0, af1, af2, af3⟩ := HKA3.out.fz
                    have hx2 := signB_size s k
                    obtain ⟨X, hX⟩ : ∃ X, X = signB s k := ⟨_, rfl⟩
                    rw [← hX] at hx2 ⊢
                    have HG : Hid (oneF s k = (⟨5, X, k, k + X.size⟩, !X.toList.isEmpty)) := Lib.hid (by unfold oneF; rw [HTE.out, ← HT.out, if_neg (by rw [HTG.out]; simp), if_neg (by rw [HKE.out]; simp), if_neg (by rw [HWO.out]; simp), if_neg HKJ.out, ← hX])
                    clear hb3 hX
                    go_wp2_with fail
                    obtain ⟨z0, z1, z2, z3⟩ := (HKA3.out.set4 5 X k ((k : Int) + (X.size : Int))).at_
                    exact bodyPost_ret (v := .tuple #[tkV ⟨5, X, k, k + X.size⟩, .bool (!X.toList.isEmpty)]) (by simp [results, Try.results77, go_sem, z0, z1, z2, z3]) rfl ⟨⟨5, X, k, k + X.size⟩, _, rfl, .inr ⟨HQ.out, HG.out.symm⟩, below_set4 HBB3.out (Nat.le_refl _) _ _ _ _⟩
end Go.Proofs.Ytblfeokjlecgkaa

/- Tokens, as the document reads them: all of a text. -/
namespace Go.Proofs.Ytblfeokjlecgkaa
open Go.RowKit

attribute [local go_sem ↓] Go.wp_at_zero Go.wp_at_succ

theorem encK4_len (t : Tk) : (encK4 t).length = 4 := rfl
theorem encK4_one (t : Tk) : ∀ u ∈ encK4 t, u.oneCell' = true := by simp [encK4, Value.oneCell']
theorem infoK4 : (Try.prog.info? 113).map (fun i => (i.zero, i.size, i.bytes)) = some (some (.agg #[.int .i64 0, .string ByteArray.empty, .int .i64 0, .int .i64 0]), 4, 40) := by kernel_rfl
abbrev OwnK (w : World) (base : Nat) (A : Option Addr) (cap : Nat) (l : List Tk) : Prop := OwnL 113 4 encK4 w base A cap l
abbrev ReadK (w : World) (B : Nat) (A : Option Addr) (l : List Tk) : Prop := ReadL 4 encK4 w B A l
theorem wpList_appK {w : World} {ops : Array Oper} {rest : List Oper} {o : Oper} {a : Act} {K : Exit → Act → World → Prop} (hgd : o.guard = none) (s x : Operand)
    (ho : o.op = .call { callee := .builtin .append, args := #[s, x], argTypes := #[64, 64] })
    (base : Nat) {A : Option Addr} {cap : Nat} {l : List Tk} (hs : a.eval s = .slice A l.length cap) (hown : OwnK w base A cap l) {B : Nat} {A2 : Option Addr} {c : Nat} {l2 : List Tk} (hx : a.eval x = .slice A2 l2.length c) (hr : ReadK w B A2 l2)
    (hlen : l.length + l2.length ≤ 100000000000) (hbase : base ≤ w.heap.size)
    (h : ∀ A' cap' w', OwnK w' base A' cap' (l ++ l2) → w.grownBy w' ((Value.slice A l.length cap).ownBlock) →
      ((Value.slice A' (l.length + l2.length) cap').ownBlock = (Value.slice A l.length cap).ownBlock ∨ (Value.slice A' (l.length + l2.length) cap').ownBlock = some w.heap.size) → wpList Try.prog ops K rest (a.put o.dst (.slice A' (l.length + l2.length) cap')) w') : wpList Try.prog ops K (o :: rest) a w := by
  obtain ⟨i0, hi, hz0, hz1, hz2⟩ := info_parts infoK4
  exact wpList_app w encK4_len encK4_one hgd s x 64 ho base 113 i0 _ 40 Try.underlying64 hi hz0 hz1 hz2 rfl (by decide) hs hown hx hr (by unfold maxLen; omega) (by omega) hbase h
theorem readK_new (w : World) (t : Tk) : ReadK (w.alloc (.cells #[.int .i64 t.k, .string t.s, .int .i64 t.f, .int .i64 t.t] 113)) (w.heap.size + 1) (some ⟨w.heap.size, 0, none⟩) [t] := fun _ => by
  refine ⟨w.heap.size, 0, rfl, by omega, fun i y hy j u hu => ?_⟩
  have h1 := heap_alloc_new w (.cells #[.int .i64 t.k, .string t.s, .int .i64 t.f, .int .i64 t.t] 113)
  match i, hy with
  | 0, hy =>
    simp only [List.getElem?_cons_zero, Option.some.injEq] at hy
    subst hy
    simp only [World.cell?, h1]
    simpa [encK4] using hu
  | i + 1, hy => simp at hy

/-- The tokens from a place to the end. -/
inductive ToksR (s : ByteArray) : Nat → List Tk → Prop where
  | stop (k : Nat) (h : ¬ k < s.size) : ToksR s k []
  | step (k : Nat) (hk : k < s.size) (t : Tk) (l : List Tk) (h : OneR s k hk t true) (ht : t.t ≤ s.size) (hl : ToksR s (btw s t.t) l) : ToksR s k (t :: l)

/-- The token at the end. -/
def endT (s : ByteArray) : Tk := ⟨0, ByteArray.empty, s.size, s.size⟩

theorem signB_at {s : ByteArray} {k : Nat} (h : signB s k ≠ ByteArray.empty) : k + (signB s k).size ≤ s.size := by
  unfold signB signFrom at *
  cases hf : (signsL.drop 0).find? (signAt s k) with
  | none => rw [hf] at h; exact absurd rfl h
  | some x =>
    have := List.find?_some hf
    unfold signAt at this
    simp only [Bool.and_eq_true, decide_eq_true_eq] at this
    exact this.1
theorem oneR_le {s : ByteArray} {k : Nat} {hk : k < s.size} {t : Tk} (h : OneR s k hk t true) : t.f = k ∧ k < t.t ∧ t.t ≤ s.size := by
  rcases h with ⟨h1, h2⟩ | ⟨h1, h2⟩
  · obtain ⟨_, c, a, b⟩ := h2 rfl
    omega
  · have hle := goesTo_le s (Nat.le_of_lt hk)
    by_cases hg : goesTo s k = k
    · have hT : s.extract k (goesTo s k) = ByteArray.empty := by rw [hg]; ext1; simp
      unfold oneF at h2
      rw [hT, if_neg (by decide), if_neg (by simp [keyB, keyFrom, keysL, Go.ByteArray.toList_eq]), if_neg (by decide), if_neg (by omega)] at h2
      injection h2 with a b
      subst a
      have hne : signB s k ≠ ByteArray.empty := fun e => by rw [e] at b; simp [Go.ByteArray.toList_eq] at b
      have h0 : 0 < (signB s k).size := by
        rcases Nat.eq_zero_or_pos (signB s k).size with e | e
        · exact absurd (ByteArray.size_eq_zero_iff.1 e) hne
        · exact e
      exact ⟨rfl, by show k < k + _; omega, signB_at hne⟩
    · unfold oneF at h2
      have hlt : k < goesTo s k := by omega
      repeat' split at h2
      all_goals first | (injection h2 with a b; subst a; exact ⟨rfl, hlt, hle.2⟩) | (exfalso; omega)

theorem KAt.kept {w w' : World} {b : Nat} {k f t : Int} {s : ByteArray} {row : Option Nat} (h : KAt w b k s f t) (hg : w.grownBy w' row) (hne : some b ≠ row) : KAt w' b k s f t := (hg.block b h.lt hne).trans h

/-- Tokens of a text without quotes, found round by round. -/
def toksF (s : ByteArray) : Nat → Nat → Option (List Tk)
  | 0, _ => none
  | f + 1, k => if h : k < s.size then
      if (s[k]'h).toNat = 34 then none
      else match (oneF s k).2 with
        | true => (toksF s f (btw s (oneF s k).1.t)).map ((oneF s k).1 :: ·)
        | false => none
    else some []
theorem toksF_no {s : ByteArray} {k : Nat} {hk : k < s.size} {t : Tk} (h : OneR s k hk t false) (f : Nat) (l : List Tk) : toksF s f k ≠ some l := by
  intro e
  cases f with
  | zero => cases e
  | succ f =>
    rw [toksF, dif_pos hk] at e
    rcases h with ⟨hq, _⟩ | ⟨hq, h1⟩
    · rw [if_pos hq] at e
      cases e
    · rw [if_neg hq, ← h1] at e
      cases e
theorem toksF_next {s : ByteArray} {k : Nat} {hk : k < s.size} {t : Tk} (h : OneR s k hk t true) {f : Nat} {l : List Tk} (e : toksF s f k = some l) : ∃ f' l', toksF s f' (btw s t.t) = some l' := by
  cases f with
  | zero => cases e
  | succ f =>
    rw [toksF, dif_pos hk] at e
    rcases h with ⟨hq, _⟩ | ⟨hq, h1⟩
    · rw [if_pos hq] at e
      cases e
    · rw [if_neg hq, ← h1] at e
      dsimp only at e
      cases hr : toksF s f (btw s t.t) with
      | none => rw [hr] at e; cases e
      | some r => exact ⟨f, r, hr⟩

def TokPost (s : ByteArray) (w : World) (e : Ending) (w' : World) : Prop :=
  (∃ (A : Option Addr) (c : Nat) (l : List Tk), e = .returned (.tuple #[.slice A (l.length + 1) c, .int .i64 0, .int .i64 0]) ∧ l.length ≤ s.size ∧ ToksR s (btw s 0) l ∧ OwnK w' w.heap.size A c (l ++ [endT s]) ∧ Below w.heap.size w w') ∨
    ((∃ p : Int, e = .returned (.tuple #[.slice none 0 0, .int .i64 p, .int .i64 2])) ∧ Below w.heap.size w w' ∧ ∀ f l, toksF s f (btw s 0) ≠ some l)

set_option maxRecDepth 100000 in
set_option maxHeartbeats 8000000 in
theorem tokens_any (s : ByteArray) (w : World) (hs : s.size ≤ 100000) : Calls Try.prog 40 #[.string s] w (TokPost s w) := by
  have hs' : ¬ (s.size : Int) > 100000 := by omega
  have hown0 := own_empty 113 4 encK4 w
  have hb0 := ext_alloc (Below.refl w.heap.size w) (.cells #[] 113)
  go_enter Try.func40, Try.ntmps40
  go_upto_region 4 with fail
  obtain ⟨wa, hwa⟩ : ∃ wa, wa = w.alloc (.cells #[] 113) := ⟨_, rfl⟩
  rw [← hwa] at hown0 hb0 ⊢
  have HO := Lib.hid (And.intro hown0 hb0)
  have HS := Lib.hid hs'
  have hsw : w.heap.size ≤ wa.heap.size := hb0.size
  clear hwa hown0 hb0 hs'
  go_wp2_with (go_at_call 76; refine (between_any s 0 _ hs (Nat.zero_le _)).mono ?_; rintro e w1 ⟨rfl, rfl⟩)
  go_loopw [5, 6, 7, 8] (fun s5 s6 _ _ wr => ∃ (A : Option Addr) (c k : Nat) (out : List Tk), s5 = .slice A out.length c ∧ s6 = .int .i64 k ∧ k ≤ s.size ∧ out.length ≤ k ∧ Hid ((∀ l, ToksR s k l → ToksR s (btw s 0) (out ++ l)) ∧ ∀ f l, toksF s f (btw s 0) = some l → ∃ f' l', toksF s f' k = some l') ∧ Hid (OwnK wr w.heap.size A c out ∧ Below w.heap.size w wr)) (fun _ s6 _ _ _ => s.size - (intOf s6).toNat)
  case atStart => exact ⟨_, 0, btw s 0, [], rfl, rfl, (btw_le s (Nat.zero_le _)).2, Nat.zero_le _, Lib.hid ⟨fun l hl => hl, fun f l hl => ⟨f, l, hl⟩⟩, HO⟩
  case round =>
    obtain ⟨A, c, k, out, rfl, rfl, hk, hol, HI, HM⟩ := hrel
    by_cases hp : k < s.size
    · go_wp2_with fail
      refine (tokOne_any s k wr hp hs).mono ?_
      rintro e w1 ⟨t, ok, rfl, hone, hb⟩
      have HM1 : Hid (OwnK w1 w.heap.size A c out ∧ Below w.heap.size w w1) := Lib.hid ⟨HM.out.1.below hb (Nat.le_refl _), ext_trans HM.out.2 hb⟩
      have HONE := Lib.hid hone
      clear hone hb
      obtain ⟨wb, hwb⟩ : ∃ wb, wb = w1.alloc (.cells #[.int .i64 t.k, .string t.s, .int .i64 t.f, .int .i64 t.t] 113) := ⟨_, rfl⟩
      have hab : Below w1.heap.size w1 wb := by rw [hwb]; exact ext_alloc (Below.refl _ _) _
      have HKB : Hid (KAt wb w1.heap.size t.k t.s t.f t.t) := Lib.hid (by rw [hwb]; exact KAt.new _ _ _ _ _)
      have HMB : Hid (OwnK wb w.heap.size A c out ∧ Below w.heap.size w wb) := Lib.hid ⟨HM1.out.1.below hab (Nat.le_refl _), ext_trans HM1.out.2 hab⟩
      cases ok with
      | false =>
        go_upto_region 7 with fail
        rw [← hwb]
        clear hwb hab
        go_wp2_with fail
        go_ret3
        exact .inr ⟨⟨_, rfl⟩, HMB.out.2, fun f l hl => (HI.out.2 f l hl).elim fun f2 h2 => h2.elim fun l2 h3 => toksF_no HONE.out f2 l2 h3⟩
      | true =>
        obtain ⟨ht0, ht1, ht2⟩ := oneR_le HONE.out
        have HT0 := Lib.hid ht0
        clear ht0
        go_upto_region 7 with fail
        rw [← hwb]
        clear hwb hab
        obtain ⟨b0, b1, b2, b3⟩ := HKB.out.at_
        obtain ⟨oc, hoc⟩ : ∃ oc : Obj, oc = .cells #[.int .i64 t.k, .string t.s, .int .i64 t.f, .int .i64 t.t] 113 := ⟨_, rfl⟩
        have HR : Hid (ReadK (wb.alloc oc) (wb.heap.size + 1) (some ⟨wb.heap.size, 0, none⟩) [t]) := Lib.hid (by rw [hoc]; exact readK_new wb t)
        have hl : out.length + [t].length ≤ 100000000000 := by rw [List.length_singleton]; omega
        have hbs : w.heap.size ≤ (wb.alloc oc).heap.size := by have := HMB.out.2.size; rw [World.size_alloc]; omega
        have hbc : Below wb.heap.size wb (wb.alloc oc) := ext_alloc (Below.refl _ _) _
        have hkb := HKB.out.later hbc
        have hbd : Below w.heap.size w (wb.alloc oc) := ext_alloc HMB.out.2 _
        rw [hoc] at HR hbs hkb hbd
        have HKC := Lib.hid hkb
        have HNE : Hid (some w1.heap.size ≠ (Value.slice A out.length c).ownBlock) := Lib.hid fun e => by
          have := (OwnL.block HM1.out.1 _ e.symm).2
          omega
        have HBD := Lib.hid hbd
        clear hoc hbc hkb hbd
        go_wp2_with (at_builtin; refine wpList_appK rfl (.tmp 28) (.tmp 30) rfl w.heap.size rfl (HMB.out.1.alloc _) (l2 := [t]) rfl HR.out hl hbs ?_; intro A1 c1 w2 hown1 hg1 _; have HO2 := Lib.hid (And.intro hown1 (ext_app HBD.out hg1 (fun k hk => (OwnL.block HMB.out.1 k hk).1))); have hk2 := (HKC.out.kept hg1 HNE.out).at_; clear hown1 hg1)
        refine (between_any s t.t w2 hs ht2).mono ?_
        rintro e w3 ⟨rfl, rfl⟩
        go_wp2_with fail
        go_roundw
        case rel => exact ⟨A1, c1, btw s t.t, out ++ [t], by rw [List.length_append]; rfl, rfl, (btw_le s ht2).2, by have := (btw_le s ht2).1; rw [List.length_append]; simp; omega, Lib.hid ⟨fun l hl => by rw [List.append_assoc]; exact HI.out.1 _ (.step k hp t l HONE.out ht2 hl), fun f l hl => (HI.out.2 f l hl).elim fun f2 h2 => h2.elim fun l2 h3 => toksF_next HONE.out h3⟩, HO2⟩
        case measure => have := (btw_le s ht2).1; simp [intOf]; omega
    · obtain rfl : k = s.size := by omega
      obtain ⟨oc, hoc⟩ : ∃ oc : Obj, oc = .cells #[.int .i64 0, .string ⟨#[]⟩, .int .i64 s.size, .int .i64 s.size] 113 := ⟨_, rfl⟩
      have HR : Hid (ReadK (wr.alloc oc) (wr.heap.size + 1) (some ⟨wr.heap.size, 0, none⟩) [endT s]) := Lib.hid (by rw [hoc]; exact readK_new wr (endT s))
      have hl : out.length + [endT s].length ≤ 100000000000 := by rw [List.length_singleton]; omega
      have hbs : w.heap.size ≤ (wr.alloc oc).heap.size := by have := HM.out.2.size; rw [World.size_alloc]; omega
      rw [hoc] at HR hbs
      go_upto_region 11 with fail
      go_wp2_with (at_builtin; refine wpList_appK rfl (.tmp 36) (.tmp 42) rfl w.heap.size rfl (HM.out.1.alloc _) (l2 := [endT s]) rfl HR.out hl hbs ?_; intro A1 c1 w1 hown1 hg1 _)
      go_ret3
      exact .inl ⟨A1, c1, out, rfl, hol, by have := HI.out.1 [] (.stop _ hp); rwa [List.append_nil] at this, hown1, ext_app (ext_alloc HM.out.2 _) hg1 (fun k hk => (OwnL.block HM.out.1 k hk).1)⟩
end Go.Proofs.Ytblfeokjlecgkaa

/- The shelf's contracts on slices.SortFunc at []int, for seats whose own shelf text has it at []api.Type alone: the kit's tool's text for another seat, its numbers turned by shelf_int.py. -/
set_option maxRecDepth 100000
namespace Go.Proofs
open Go.Shelf
open Go.RowKit Go.Lib Go.Sort
def Try.laysSlF6_f228_ren : Go.Shelf.Ren := ⟨fun | 6 => 228 | 15 => 129 | 14 => 233 | 28 => 168 | 29 => 169 | 20 => 234 | 21 => 235 | 22 => 236 | 23 => 237 | 24 => 238 | 25 => 239 | 26 => 240 | 27 => 241 | 46 => 242 | 47 => 199 | 48 => 200 | 49 => 243 | 50 => 244 | 57 => 245 | n => n, fun | 22 => 76 | 24 => 3 | 25 => 251 | 3 => 3 | 39 => 170 | 0 => 0 | 53 => 200 | 55 => 202 | 4 => 4 | 46 => 193 | 45 => 192 | 50 => 135 | 5 => 5 | 9 => 9 | 66 => 225 | 70 => 229 | 76 => 242 | 77 => 243 | n => n, fun | n => n⟩
theorem Try.laysSlF6_f228 : Go.Proofs.SlLaysF.n6 Try.prog Try.laysSlF6_f228_ren := {
  mixed := by kernel_rfl
  f6 := ⟨Try.f228.name, by decide, Try.func228.trans (congrArg some (by kernel_rfl))⟩
  f14 := ⟨Try.f233.name, by decide, Try.func233.trans (congrArg some (by kernel_rfl))⟩
  f15 := Try.func129.trans (congrArg some (by kernel_rfl))
  f20 := ⟨Try.f234.name, by decide, Try.func234.trans (congrArg some (by kernel_rfl))⟩
  f21 := ⟨Try.f235.name, by decide, Try.func235.trans (congrArg some (by kernel_rfl))⟩
  f22 := ⟨Try.f236.name, by decide, Try.func236.trans (congrArg some (by kernel_rfl))⟩
  f23 := ⟨Try.f237.name, by decide, Try.func237.trans (congrArg some (by kernel_rfl))⟩
  f24 := ⟨Try.f238.name, by decide, Try.func238.trans (congrArg some (by kernel_rfl))⟩
  f25 := ⟨Try.f239.name, by decide, Try.func239.trans (congrArg some (by kernel_rfl))⟩
  f26 := ⟨Try.f240.name, by decide, Try.func240.trans (congrArg some (by kernel_rfl))⟩
  f27 := ⟨Try.f241.name, by decide, Try.func241.trans (congrArg some (by kernel_rfl))⟩
  f28 := Try.func168.trans (congrArg some (by kernel_rfl))
  f29 := Try.func169.trans (congrArg some (by kernel_rfl))
  f46 := ⟨Try.f242.name, by decide, Try.func242.trans (congrArg some (by kernel_rfl))⟩
  f47 := Try.func199.trans (congrArg some (by kernel_rfl))
  f48 := Try.func200.trans (congrArg some (by kernel_rfl))
  f49 := ⟨Try.f243.name, by decide, Try.func243.trans (congrArg some (by kernel_rfl))⟩
  f50 := ⟨Try.f244.name, by decide, Try.func244.trans (congrArg some (by kernel_rfl))⟩
  f57 := ⟨Try.f245.name, by decide, Try.func245.trans (congrArg some (by kernel_rfl))⟩
  t0 := Try.underlying0
  a0 := Try.isAgg0
  z0 := Try.sizeOf0
  v0 := Try.zeroValue0
  t3 := Try.underlying3
  a3 := Try.isAgg3
  z3 := Try.sizeOf3
  v3 := Try.zeroValue3
  t4 := Try.underlying4
  a4 := Try.isAgg4
  z4 := Try.sizeOf4
  v4 := Try.zeroValue4
  t5 := Try.underlying5
  a5 := Try.isAgg5
  z5 := Try.sizeOf5
  v5 := Try.zeroValue5
  t9 := Try.underlying9
  a9 := Try.isAgg9
  z9 := Try.sizeOf9
  v9 := Try.zeroValue9
  t22 := Try.underlying76
  a22 := Try.isAgg76
  z22 := Try.sizeOf76
  v22 := Try.zeroValue76
  a24 := Try.isAgg3
  z24 := Try.sizeOf3
  t25 := Try.underlying251
  a25 := Try.isAgg251
  z25 := Try.sizeOf251
  v25 := Try.zeroValue251
  t39 := Try.underlying170
  a39 := Try.isAgg170
  z39 := Try.sizeOf170
  v39 := Try.zeroValue170
  t45 := Try.underlying192
  a45 := Try.isAgg192
  z45 := Try.sizeOf192
  v45 := Try.zeroValue192
  t46 := Try.underlying193
  a46 := Try.isAgg193
  z46 := Try.sizeOf193
  v46 := Try.zeroValue193
  t50 := Try.underlying135
  a50 := Try.isAgg135
  z50 := Try.sizeOf135
  v50 := Try.zeroValue135
  t53 := Try.underlying200
  a53 := Try.isAgg200
  z53 := Try.sizeOf200
  v53 := Try.zeroValue200
  t55 := Try.underlying202
  a55 := Try.isAgg202
  z55 := Try.sizeOf202
  v55 := Try.zeroValue202
  t66 := Try.underlying225
  a66 := Try.isAgg225
  z66 := Try.sizeOf225
  v66 := Try.zeroValue225
  t70 := Try.underlying229
  a70 := Try.isAgg229
  z70 := Try.sizeOf229
  v70 := Try.zeroValue229
  t76 := Try.underlying242
  a76 := Try.isAgg242
  z76 := Try.sizeOf242
  v76 := Try.zeroValue242
  t77 := Try.underlying243
  a77 := Try.isAgg243
  z77 := Try.sizeOf243
  v77 := Try.zeroValue243 }
theorem Try.slices_SortFuncI {α : Type} [Inhabited α] (enc : α → Value) (h1 : OneCell enc) (cf : α → α → Int) (hO : SWO (ltOf cf)) (g : Nat) (cb : Array Value) (blk off cap : Nat) (d : Array α) (w : World) (eg : ∀ args w, (callFunc g args).run Try.prog w = .ok (.enter g args) w) (hcmp : CmpLays1 Try.prog g cb enc cf blk off d.size w) (hH : Holds enc w blk off d) (hblk : blk < w.heap.size) (hsz : d.size < 4611686018427387904) :
    Calls Try.prog 228 #[.slice (some ⟨blk, off, none⟩) d.size cap, .func (.func g) #[] cb] w fun e w' =>
      e = .returned (.tuple #[]) ∧ ∃ d' n os, PermIn 0 d.size d d' ∧ SortedIn (ltOf cf) 0 d.size d' ∧ w' = sortWorld enc w blk off n d' os := Any.slices_SortFunc Try.laysSlF6_f228 enc h1 cf hO g cb blk off cap d w eg hcmp hH hblk hsz
def Try.laysSlF06_f228_ren : Go.Shelf.Ren := ⟨fun | 6 => 228 | 15 => 129 | 14 => 233 | 28 => 168 | 29 => 169 | 20 => 234 | 21 => 235 | 22 => 236 | 23 => 237 | 24 => 238 | 25 => 239 | 26 => 240 | 27 => 241 | 46 => 242 | 47 => 199 | 48 => 200 | 49 => 243 | 50 => 244 | 57 => 245 | n => n, fun | 22 => 76 | 24 => 3 | 25 => 251 | 3 => 3 | 39 => 170 | 0 => 0 | 53 => 200 | 55 => 202 | 4 => 4 | 46 => 193 | 45 => 192 | 50 => 135 | 5 => 5 | 9 => 9 | 66 => 225 | 70 => 229 | 76 => 242 | 77 => 243 | n => n, fun | n => n⟩
theorem Try.laysSlF06_f228 : Go.Proofs.SlLaysF0.n6 Try.prog Try.laysSlF06_f228_ren := {
  mixed := by kernel_rfl
  f6 := ⟨Try.f228.name, by decide, Try.func228.trans (congrArg some (by kernel_rfl))⟩
  f14 := ⟨Try.f233.name, by decide, Try.func233.trans (congrArg some (by kernel_rfl))⟩
  f15 := Try.func129.trans (congrArg some (by kernel_rfl))
  f20 := ⟨Try.f234.name, by decide, Try.func234.trans (congrArg some (by kernel_rfl))⟩
  f21 := ⟨Try.f235.name, by decide, Try.func235.trans (congrArg some (by kernel_rfl))⟩
  f22 := ⟨Try.f236.name, by decide, Try.func236.trans (congrArg some (by kernel_rfl))⟩
  f23 := ⟨Try.f237.name, by decide, Try.func237.trans (congrArg some (by kernel_rfl))⟩
  f24 := ⟨Try.f238.name, by decide, Try.func238.trans (congrArg some (by kernel_rfl))⟩
  f25 := ⟨Try.f239.name, by decide, Try.func239.trans (congrArg some (by kernel_rfl))⟩
  f26 := ⟨Try.f240.name, by decide, Try.func240.trans (congrArg some (by kernel_rfl))⟩
  f27 := ⟨Try.f241.name, by decide, Try.func241.trans (congrArg some (by kernel_rfl))⟩
  f28 := Try.func168.trans (congrArg some (by kernel_rfl))
  f29 := Try.func169.trans (congrArg some (by kernel_rfl))
  f46 := ⟨Try.f242.name, by decide, Try.func242.trans (congrArg some (by kernel_rfl))⟩
  f47 := Try.func199.trans (congrArg some (by kernel_rfl))
  f48 := Try.func200.trans (congrArg some (by kernel_rfl))
  f49 := ⟨Try.f243.name, by decide, Try.func243.trans (congrArg some (by kernel_rfl))⟩
  f50 := ⟨Try.f244.name, by decide, Try.func244.trans (congrArg some (by kernel_rfl))⟩
  f57 := ⟨Try.f245.name, by decide, Try.func245.trans (congrArg some (by kernel_rfl))⟩
  t0 := Try.underlying0
  a0 := Try.isAgg0
  z0 := Try.sizeOf0
  v0 := Try.zeroValue0
  t3 := Try.underlying3
  a3 := Try.isAgg3
  z3 := Try.sizeOf3
  v3 := Try.zeroValue3
  t4 := Try.underlying4
  a4 := Try.isAgg4
  z4 := Try.sizeOf4
  v4 := Try.zeroValue4
  t5 := Try.underlying5
  a5 := Try.isAgg5
  z5 := Try.sizeOf5
  v5 := Try.zeroValue5
  t9 := Try.underlying9
  a9 := Try.isAgg9
  z9 := Try.sizeOf9
  v9 := Try.zeroValue9
  t22 := Try.underlying76
  a22 := Try.isAgg76
  z22 := Try.sizeOf76
  v22 := Try.zeroValue76
  t25 := Try.underlying251
  a25 := Try.isAgg251
  z25 := Try.sizeOf251
  v25 := Try.zeroValue251
  t39 := Try.underlying170
  a39 := Try.isAgg170
  z39 := Try.sizeOf170
  v39 := Try.zeroValue170
  t45 := Try.underlying192
  a45 := Try.isAgg192
  z45 := Try.sizeOf192
  v45 := Try.zeroValue192
  t46 := Try.underlying193
  a46 := Try.isAgg193
  z46 := Try.sizeOf193
  v46 := Try.zeroValue193
  t50 := Try.underlying135
  a50 := Try.isAgg135
  z50 := Try.sizeOf135
  v50 := Try.zeroValue135
  t53 := Try.underlying200
  a53 := Try.isAgg200
  z53 := Try.sizeOf200
  v53 := Try.zeroValue200
  t55 := Try.underlying202
  a55 := Try.isAgg202
  z55 := Try.sizeOf202
  v55 := Try.zeroValue202
  t66 := Try.underlying225
  a66 := Try.isAgg225
  z66 := Try.sizeOf225
  v66 := Try.zeroValue225
  t70 := Try.underlying229
  a70 := Try.isAgg229
  z70 := Try.sizeOf229
  v70 := Try.zeroValue229
  t76 := Try.underlying242
  a76 := Try.isAgg242
  z76 := Try.sizeOf242
  v76 := Try.zeroValue242
  t77 := Try.underlying243
  a77 := Try.isAgg243
  z77 := Try.sizeOf243
  v77 := Try.zeroValue243 }
theorem Try.slices_SortFuncI_none {α : Type} [Inhabited α] (p : Option Addr) (cap : Nat) (fv : Value) (w : World) :
    Calls Try.prog 228 #[.slice p 0 cap, fv] w fun e w' => e = .returned (.tuple #[]) ∧ w' = w := AnyF.slices_SortFunc_none Try.laysSlF06_f228 p cap fv w
end Go.Proofs

/- ty.Row: what it asks of labels (for seats without leavenlaw03). -/
namespace Go.Proofs.Ytblfeokjlecgkaa
open Go.RowKit

def FoundI (p : Bool) (e : Ending) : Prop := ∃ i : Int, e = .returned (.int .i64 i) ∧ (p = true → 0 ≤ i) ∧ (p = false → i = -1)

set_option maxRecDepth 100000 in
set_option maxHeartbeats 1000000 in
theorem row1_any (kind : Int) (s : ByteArray) (g : Nat) (w : World) (hg : w.cell? ⟨g, 0, none⟩ = some (.int .i64 kind)) :
    Calls Try.prog 226 #[.string s, .pointer (some ⟨g, 0, none⟩)] w fun e w' => e = .returned (.bool (!labelB kind s)) ∧ Below w.heap.size w w' := by
  go_enter Try.func226, Try.ntmps226
  go_wp2_with (go_at_call 127; refine (isLabel_any _ _ _).mono ?_; rintro e w1 ⟨rfl, hbx⟩)
  go_ret
  exact ⟨rfl, hbx⟩


set_option maxRecDepth 100000 in
set_option maxHeartbeats 1000000 in
theorem indexStr_any (A : Option Addr) (c : Nat) (ls : List ByteArray) (kind : Int) (g : Nat) (w : World) (ha : ReadT w w.heap.size A ls) (hg : w.cell? ⟨g, 0, none⟩ = some (.int .i64 kind)) (hgl : g < w.heap.size) (hl : ls.length ≤ 9223372036854775807) :
    Calls Try.prog 232 #[.slice A ls.length c, .func (.func 226) #[] #[.pointer (some ⟨g, 0, none⟩)]] w fun e w' => FoundI (oddFrom kind ls 0) e ∧ Below w.heap.size w w' := by
  have Hg := Lib.hid hg
  clear hg
  go_enter Try.func232, Try.ntmps232
  go_wp2_with fail
  go_loopw [8] (fun i w' => ∃ k : Nat, k ≤ ls.length ∧ i = .int .i64 k ∧ Below w.heap.size w w' ∧ Hid (oddFrom kind ls k = oddFrom kind ls 0)) (fun i _ => ls.length - (intOf i).toNat)
  case atStart => exact ⟨0, Nat.zero_le _, rfl, Below.refl _ _, Lib.hid rfl⟩
  case round =>
    obtain ⟨k, hk, rfl, hbel, hgood⟩ := hrel
    by_cases hp : k < ls.length
    · obtain ⟨x, hx⟩ := getq_ex hp
      have hstep := Lib.hid (oddFrom_step (kind := kind) hx)
      obtain ⟨b1, o1, rfl, hb1, c10⟩ := ReadL.str (ReadL.more (ReadL.below ha hbel) hbel.size) hx
      have hg' := Lib.hid ((hbel.cell (p := ⟨g, 0, none⟩) hgl).trans Hg.out)
      clear hx
      cases he : labelB kind x
      all_goals
        have He := Lib.hid he
        clear he
        go_wp2_with (go_at_call 226; refine (row1_any kind x g _ hg'.out).mono ?_; rintro e w1 ⟨rfl, hbx⟩; rw [He.out])
      · go_ret
        refine ⟨⟨_, rfl, fun _ => by omega, fun h => ?_⟩, ext_trans hbel hbx⟩
        rw [← hgood.out, hstep.out, He.out] at h
        cases h
      · go_roundw
        case rel => exact ⟨k + 1, hp, by go_num, ext_trans hbel hbx, Lib.hid (by rw [← hgood.out, hstep.out, He.out, Bool.not_true, Bool.false_or])⟩
        case measure => simp [intOf]; omega
    · have hend := Lib.hid (oddFrom_end (kind := kind) hp)
      go_wp2_with fail
      go_ret
      refine ⟨⟨_, rfl, fun h => ?_, fun _ => rfl⟩, hbel⟩
      rw [← hgood.out, hend.out] at h
      cases h


set_option maxHeartbeats 1000000 in
theorem containsStr_any (A : Option Addr) (c : Nat) (ls : List ByteArray) (kind : Int) (g : Nat) (w : World) (ha : ReadT w w.heap.size A ls) (hg : w.cell? ⟨g, 0, none⟩ = some (.int .i64 kind)) (hgl : g < w.heap.size) (hl : ls.length ≤ 9223372036854775807) :
    Calls Try.prog 227 #[.slice A ls.length c, .func (.func 226) #[] #[.pointer (some ⟨g, 0, none⟩)]] w fun e w' => e = .returned (.bool (oddFrom kind ls 0)) ∧ Below w.heap.size w w' := by
  have Hg := Lib.hid hg
  clear hg
  cases hp : oddFrom kind ls 0
  all_goals
    have Hp := Lib.hid hp
    go_enter Try.func227, Try.ntmps227
    go_wp2_with (go_at_call 232; refine (indexStr_any A c ls kind g _ ha Hg.out hgl hl).mono ?_; rintro e w1 ⟨⟨i, rfl, h1, h2⟩, hbx⟩; have H1 := Lib.hid h1; have H2 := Lib.hid h2; clear h1 h2)
    go_ret
  · exact ⟨ret_bool (by rw [H2.out Hp.out]; rfl), hbx⟩
  · exact ⟨ret_bool (by have := H1.out Hp.out; simpa using this), hbx⟩


set_option maxRecDepth 100000 in
set_option maxHeartbeats 1000000 in
theorem row2_any (A : Option Addr) (c : Nat) (ls : List ByteArray) (g i j : Nat) (a b : ByteArray) (w : World) (hg : w.cell? ⟨g, 0, none⟩ = some (.slice A ls.length c)) (ha : ReadT w w.heap.size A ls) (hi : ls[i]? = some a) (hj : ls[j]? = some b) (_hl : ls.length ≤ 1000000) :
    Calls Try.prog 229 #[.int .i64 (i : Int), .int .i64 (j : Int), .pointer (some ⟨g, 0, none⟩)] w fun e w' => e = .returned (.int .i64 (cmpS a b)) ∧ ∃ q, w' = w.drewN q := by
  obtain ⟨b1, o1, rfl, hb1, c10⟩ := ReadL.str ha hi
  obtain ⟨_, _, he, _, c11⟩ := ReadL.str ha hj
  simp only [Option.some.injEq, Addr.mk.injEq, and_true] at he
  obtain ⟨rfl, rfl⟩ := he
  have hil := getq_lt hi
  have hjl := getq_lt hj
  clear hi hj
  go_enter Try.func229, Try.ntmps229
  go_wp2_with fail
  go_quiet (first
    | (go_at_call 135; go_loud (refine Calls.quiet_of_same ((compare_any _ _ _).mono fun e w1 h => ⟨h.1, h.2.symm⟩))))
  go_wp2_with fail
  go_ret
  exact ⟨rfl, _, rfl⟩

set_option maxHeartbeats 1000000 in
theorem sort_any (A : Option Addr) (c : Nat) (ls : List ByteArray) (n gl g cap base B : Nat) (w : World) (hn : ls.length = n) (hn6 : n ≤ 1000000)
    (hgl : w.cell? ⟨gl, 0, none⟩ = some (.slice A n c)) (hne : gl ≠ g) (ha : ReadT w B A ls) (hB : B ≤ g) (hown : OwnI w base (some ⟨g, 0, none⟩) cap (asI (List.range n))) :
    Calls Try.prog 228 #[.slice (some ⟨g, 0, none⟩) n cap, .func (.func 229) #[] #[.pointer (some ⟨gl, 0, none⟩)]] w fun e w' => e = .returned (.tuple #[]) ∧
      ∃ os : List Nat, os.Perm (List.range n) ∧ os.Pairwise (fun i j => ltB (lab ls j) (lab ls i) = false) ∧ OwnI w' base (some ⟨g, 0, none⟩) cap (asI os) ∧ w.grownBy w' (some g) := by
  match n, hn, hgl, hown with
  | 0, hn, hgl, hown =>
    refine (Try.slices_SortFuncI_none (α := Nat) (some ⟨g, 0, none⟩) cap _ w).mono ?_
    rintro e w' ⟨rfl, rfl⟩
    exact ⟨rfl, [], by simp, .nil, hown, ⟨rfl, rfl, rfl, Nat.le_refl _, fun _ _ _ => rfl⟩⟩
  | n + 1, hn, hgl, hown =>
    have hglt := (OwnL.block hown g rfl).2
    have hgll := World.block_lt_of_cell? w _ hgl
    have hrange : (asI (List.range (n + 1))).length = n + 1 := by simp [asI]
    have hd : (List.finRange (n + 1)).toArray.size = n + 1 := by simp
    have hdl : ∀ j (hj : j < n + 1), (List.finRange (n + 1)).toArray[j]! = ⟨j, hj⟩ := fun j hj => by
      rw [getElem!_pos _ j (by simpa using hj)]
      simp
    have H := Try.slices_SortFuncI (α := Fin (n + 1)) encF (fun _ => rfl) (cfF ls (n + 1)) (swo ls _) 229 #[.pointer (some ⟨gl, 0, none⟩)] g 0 cap (List.finRange (n + 1)).toArray w
      (enters_of Try.func229 (by kernel_rfl) rfl)
      (CmpReads.lays fun m os dk hdk x y => by
        rw [hd] at hdk
        have hgr := sortWorld_grown encF w g m dk os
        have hxl : x.val < ls.length := by rw [hn]; exact x.isLt
        have hyl : y.val < ls.length := by rw [hn]; exact y.isLt
        have ha2 : ReadT (sortWorld encF w g 0 m dk os) (sortWorld encF w g 0 m dk os).heap.size A ls := fun hne2 => by
          obtain ⟨b, o, rfl, hb, hc⟩ := ha hne2
          exact ⟨b, o, rfl, Nat.lt_of_lt_of_le (by omega) hgr.size, fun i s hs j u hu => hgr.cell (hc i s hs j u hu) (by simp; omega)⟩
        exact row2_any A c ls gl x.val y.val (lab ls x.val) (lab ls y.val) _ (by rw [hn]; exact hgr.cell hgl (by simp; omega)) ha2 (lab_at hxl) (lab_at hyl) (by omega))
      (fun j hj => by
        rw [hd] at hj
        rw [hdl j hj]
        have hj2 : (asI (List.range (n + 1)))[j]? = some (j : Int) := by simp [asI, hj]
        obtain ⟨b, o, hA, _, hc⟩ := ReadL.int (OwnL.read encI_len hown) hj2
        injection hA with hA
        injection hA with h1 h2 _
        subst h1 h2
        exact ⟨hc, by rw [Nat.zero_add]; exact World.ownsRow.frozenAt hown j⟩)
      hglt (by rw [hd]; omega)
    rw [hd] at H
    refine H.mono ?_
    rintro e w' ⟨rfl, d', k, os, ⟨hs, _, hperm⟩, hsorted, rfl⟩
    rw [hd] at hs
    refine ⟨rfl, d'.toList.map Fin.val, ?_, ?_, OwnL.sorted hown hrange d' hs k os, sortWorld_grown _ _ _ _ _ _⟩
    · have e1 : (d'.extract 0 (n + 1)).toList = d'.toList := by
        rw [Array.toList_extract, List.extract_eq_take_drop, Nat.sub_zero, List.drop_zero]
        exact List.take_of_length_le (by simp; omega)
      have e2 : ((List.finRange (n + 1)).toArray.extract 0 (n + 1)).toList = List.finRange (n + 1) := by
        rw [Array.toList_extract, List.extract_eq_take_drop, Nat.sub_zero, List.drop_zero]
        exact List.take_of_length_le (by simp)
      rw [e1, e2] at hperm
      refine (hperm.map Fin.val).trans (List.Perm.of_eq ?_)
      apply List.ext_getElem
      · simp
      · intro i h1 h2; simp
    · rw [List.pairwise_map, List.pairwise_iff_getElem]
      intro i j hi hj hij
      have hi' : i < d'.size := by simpa using hi
      have hj' : j < d'.size := by simpa using hj
      have := hsorted i j (Nat.zero_le _) hij (by omega)
      rw [ltOf_cf, getElem!_pos d' i hi', getElem!_pos d' j hj'] at this
      simpa using this

end Go.Proofs.Ytblfeokjlecgkaa

/- ty.Row. -/
namespace Go.Proofs.Ytblfeokjlecgkaa
open Go.RowKit

/-- A type as a part of a row: under a label. -/
def nameR (s : ByteArray) : List Nd → List Nd
  | [] => []
  | x :: ys => x.name s :: ys

def rowPart (ls : List ByteArray) (xss : List (List Nd)) (i : Nat) : List Nd := nameR (lab ls i) ((xss[i]?).getD [])

/-- A row's type: its parts in this order. -/
def rowNR (kind : Int) (ls : List ByteArray) (xss : List (List Nd)) (os : List Nat) : List Nd := ⟨kind, ByteArray.empty, (xss.length : Int)⟩ :: os.flatMap (rowPart ls xss)

def badRow (kind : Int) (ls : List ByteArray) (n : Nat) : Bool := !isRowB kind || !decide (ls.length = n) || decide (50 < n) || (decide (kind = 7) && decide (n = 0)) || oddFrom kind ls 0

def RowPost (kind : Int) (ls : List ByteArray) (xss : List (List Nd)) (w : World) (e : Ending) (w' : World) : Prop :=
  Below w.heap.size w w' ∧
  ((badRow kind ls xss.length = true ∧ e = .returned (.tuple #[.slice none 0 0, .int .i64 1])) ∨
   (badRow kind ls xss.length = false ∧ ¬ ls.Nodup ∧ e = .returned (.tuple #[.slice none 0 0, .int .i64 7])) ∨
   (badRow kind ls xss.length = false ∧ ∃ (os : List Nat) (A' : Option Addr) (cap' : Nat), os.Perm (List.range xss.length) ∧ os.Pairwise (fun i j => ltB (lab ls i) (lab ls j) = true) ∧
      e = .returned (.tuple #[.slice A' (rowNR kind ls xss os).length cap', .int .i64 0]) ∧ OwnN w' w.heap.size A' cap' (rowNR kind ls xss os)))

theorem strict_of {ls : List ByteArray} {os : List Nat} (h : os.Pairwise (fun i j => ltB (lab ls j) (lab ls i) = false))
    (hd : ∀ (j a b : Nat), os[j]? = some a → os[j + 1]? = some b → lab ls a ≠ lab ls b) : os.Pairwise (fun i j => ltB (lab ls i) (lab ls j) = true) := by
  rw [List.pairwise_iff_getElem] at h ⊢
  intro i j hi hj hij
  cases hlt : ltB (lab ls os[i]) (lab ls os[j])
  · exfalso
    have h1 : i + 1 < os.length := by omega
    have hle1 := h i (i + 1) hi h1 (by omega)
    have hge : ltB (lab ls os[i]) (lab ls os[i + 1]) = false := by
      by_cases hj1 : j = i + 1
      · subst hj1; exact hlt
      · exact ltB_ntrans hlt (h (i + 1) j h1 hj (by omega))
    exact hd i _ _ (List.getElem?_eq_getElem hi) (List.getElem?_eq_getElem h1) (ltB_eq hge hle1)
  · rfl

end Go.Proofs.Ytblfeokjlecgkaa

/- Types that are read from tokens: what the reader computes. -/
namespace Go.Proofs.Ytblfeokjlecgkaa

/-- Where the reader stands: at which token, which sites it has. -/
structure RS where
  pos : Nat
  si : List (Nat × Nat)
  deriving DecidableEq

/-- What reading comes to: a type; or where, and what, is wrong. -/
inductive RRes where
  | ok (t : List Nd) (st : RS)
  | bad (p : Nat) (e : Int)
  deriving DecidableEq

/-- The token at a place. -/
def hereT (L : List Tk) (p : Nat) : Tk := (L[p]?).getD ⟨0, ByteArray.empty, 0, 0⟩
/-- A sign stands there. -/
def isS (L : List Tk) (p : Nat) (s : ByteArray) : Bool := (hereT L p).k == 5 && (hereT L p).s.toList == s.toList

def sAny : ByteArray := ⟨#[63]⟩
def sArr : ByteArray := ⟨#[45, 62]⟩
def sLp : ByteArray := ⟨#[40]⟩
def sRp : ByteArray := ⟨#[41]⟩
def sLb : ByteArray := ⟨#[123]⟩
def sRb : ByteArray := ⟨#[125]⟩
def sLk : ByteArray := ⟨#[91]⟩
def sRk : ByteArray := ⟨#[93]⟩
def sCo : ByteArray := ⟨#[44]⟩
def sBar : ByteArray := ⟨#[124]⟩
def sCol : ByteArray := ⟨#[58]⟩

/-- Where a text stands in a row of texts, from a place on; -1: nowhere. -/
def idxFrom (l : List ByteArray) (x : ByteArray) : Nat → Nat → Int
  | 0, _ => -1
  | f + 1, k => match l[k]? with
    | none => -1
    | some y => if (x.toList == y.toList) = true then (k : Int) else idxFrom l x f (k + 1)
def idxS (l : List ByteArray) (x : ByteArray) : Int := idxFrom l x l.length 0


/-- The base types' keys. -/
def basesL : List ByteArray := [⟨#[105, 110, 116]⟩, ⟨#[98, 111, 111, 108]⟩, ⟨#[115, 116, 114, 105, 110, 103]⟩, ⟨#[117, 110, 105, 116]⟩]
def baseK (s : ByteArray) : Option Nat := if 0 ≤ idxS basesL s then some (idxS basesL s).toNat else none

/-- A label may stand there. -/
def namesB (kind : Int) (t : Tk) : Bool := t.k == kind && (if kind == 1 then wordB t.s else tagB t.s)

/-- Parts go in by their labels. -/
def insP (p : ByteArray × List Nd) : List (ByteArray × List Nd) → List (ByteArray × List Nd)
  | [] => [p]
  | q :: l => if ltB p.1 q.1 = true then p :: q :: l else q :: insP p l
def srtP (l : List (ByteArray × List Nd)) : List (ByteArray × List Nd) := l.foldl (fun a p => insP p a) []
/-- A row of labels and types. -/
def rowL (k : Int) (fs : List (ByteArray × List Nd)) : List Nd := ⟨k, ByteArray.empty, (fs.length : Int)⟩ :: (srtP fs).flatMap fun p => nameR p.1 p.2

/-- A row, from its next label on; f: how many rounds at most. -/
def rowF (L : List Tk) (W : RS → RRes) (k lk : Int) (btw fin : ByteArray) : Nat → List (ByteArray × List Nd) → RS → RRes
  | 0, _, st => .bad st.pos 2
  | f + 1, fs, st =>
    if namesB lk (hereT L st.pos) = false then .bad st.pos 2
    else if 0 ≤ idxS (fs.map (·.1)) (hereT L st.pos).s then .bad st.pos 7
    else if 50 ≤ fs.length then .bad st.pos 3
    else if isS L (st.pos + 1) sCol = false then .bad (st.pos + 1) 2
    else match W ⟨st.pos + 2, st.si⟩ with
      | .bad p e => .bad p e
      | .ok t st2 =>
        if isS L st2.pos btw = true then rowF L W k lk btw fin f (fs ++ [((hereT L st.pos).s, t)]) ⟨st2.pos + 1, st2.si⟩
        else if isS L st2.pos fin = true then .ok (rowL k (fs ++ [((hereT L st.pos).s, t)])) ⟨st2.pos + 1, st2.si⟩
        else .bad st2.pos 2

/-- A type without an arrow; W: what reads one level deeper. -/
def atomF (L : List Tk) (s0 : Int) (W : Option (RS → RRes)) (st : RS) : RRes :=
  match (if (hereT L st.pos).k == 6 then baseK (hereT L st.pos).s else none) with
  | some k => .ok [⟨1 + (k : Int), ByteArray.empty, 0⟩] ⟨st.pos + 1, st.si⟩
  | none =>
    if isS L st.pos sAny = true then .ok [⟨0, ByteArray.empty, s0 + (st.si.length : Int)⟩] ⟨st.pos + 1, st.si ++ [((hereT L st.pos).f, (hereT L st.pos).t)]⟩
    else if isS L st.pos sLp = true then
      match W with
      | none => .bad st.pos 4
      | some W => match W ⟨st.pos + 1, st.si⟩ with
        | .bad p e => .bad p e
        | .ok t st2 => if isS L st2.pos sRp = true then .ok t ⟨st2.pos + 1, st2.si⟩ else .bad st2.pos 2
    else if isS L st.pos sLb = true then
      match W with
      | none => .bad st.pos 4
      | some W => if isS L (st.pos + 1) sRb = true then .ok [⟨6, ByteArray.empty, 0⟩] ⟨st.pos + 2, st.si⟩ else rowF L W 6 1 sCo sRb (L.length + 1) [] ⟨st.pos + 1, st.si⟩
    else if isS L st.pos sLk = true then
      match W with
      | none => .bad st.pos 4
      | some W => rowF L W 7 2 sBar sRk (L.length + 1) [] ⟨st.pos + 1, st.si⟩
    else .bad st.pos 2

/-- A type, as it was begun: an arrow may follow. -/
def arrF (L : List Tk) (W : Option (RS → RRes)) (r : RRes) : RRes :=
  match r with
  | .bad p e => .bad p e
  | .ok a st => if isS L st.pos sArr = true then
      match W with
      | none => .bad st.pos 4
      | some W => match W ⟨st.pos + 1, st.si⟩ with
        | .bad p e => .bad p e
        | .ok b st2 => .ok (arrowN a b) st2
    else .ok a st

/-- A type; d: how many levels are left. -/
def wholeF (L : List Tk) (s0 : Int) : Nat → RS → RRes
  | 0, st => arrF L none (atomF L s0 none st)
  | d + 1, st => arrF L (some (wholeF L s0 d)) (atomF L s0 (some (wholeF L s0 d)) st)
def downF (L : List Tk) (s0 : Int) : Nat → Option (RS → RRes)
  | 0 => none
  | d + 1 => some (wholeF L s0 d)
theorem wholeF_eq (L : List Tk) (s0 : Int) (d : Nat) (st : RS) : wholeF L s0 d st = arrF L (downF L s0 d) (atomF L s0 (downF L s0 d) st) := by
  cases d <;> rfl
end Go.Proofs.Ytblfeokjlecgkaa
