/- Laid together by a tool from the texts of this seat: UFitsB. Conditions: each theorem's own. -/
import Derived.Test.YtblfeokjlecgkaaO24
import Derived.Test.YtblfeokjlecgkaaO13
/- unify.fits, walked. -/
namespace Go.Proofs.Ytblfeokjlecgkaa
open Go.RowKit

attribute [local go_sem ↓] Go.wp_at_zero Go.wp_at_succ

/-- Behind the making of what 'measure' is closed over. -/
structure FitW (S : Kn) (s m : Nat) (first : Int) (w W : World) : Prop where
  be : Below w.heap.size w W
  sz : W.heap.size = w.heap.size + 4
  km : KMap pk W (w.heap.size + 1) []
  bx : MBox s (w.heap.size + 1) w.heap.size (w.heap.size + 1 + 1) (w.heap.size + 1 + 1 + 1) W
  sol : SolAt (fun k => SX s m k ∨ k = w.heap.size + 1) s m first W S

set_option maxRecDepth 100000 in
set_option maxHeartbeats 4000000 in
theorem uFits_any (U : List Lb) (s m : Nat) (first : Nat) (S : Kn) (w : World) (hS : SolAt (SX s m) s m (first : Int) w S) (hK : KG U S) (hU : U.length ≤ 100000) (hf1 : first ≤ 1000000) (hfm : (first : Int) ≤ S.m) (hL : ∀ n : Int, n < (first : Int) → S.L n = none) :
    Calls Try.prog 69 #[pk s] w fun e w' => ∃ r : Bool, e = .returned (.bool r) ∧ (r = true ↔ fitK (first : Int) S) ∧ Below w.heap.size w w' := by
  have HS := Lib.hid hS
  have HK := Lib.hid hK
  have HL := Lib.hid (And.intro hfm hL)
  have hlt := Lib.hid (SX_lt hS)
  obtain ⟨k1, _, k0⟩ := hS.cell
  have hsz : s < w.heap.size := hlt.out s (.inl rfl)
  have mk := @run_makeMap Try.prog
  clear hS hK hfm hL
  unfold pk
  go_enter Try.func69, Try.ntmps69
  go_upto_region 4 with fail
  have FW : Hid (FitW S s m (first : Int) w ((((w.alloc (.cells #[.pointer (some ⟨s, 0, none⟩)] 25)).alloc (.map #[] 0)).alloc (.cells #[.map (some (w.heap.size + 1))] 156)).alloc (.cells #[.func (.func 113) #[] #[.pointer (some ⟨w.heap.size, 0, none⟩), .pointer (some ⟨w.heap.size + 1 + 1, 0, none⟩), .pointer (some ⟨w.heap.size + 1 + 1 + 1, 0, none⟩)]] 157))) := Lib.hid (by
    have hb := ext_alloc (ext_alloc (ext_alloc (ext_alloc (Below.refl w.heap.size w) (.cells #[.pointer (some ⟨s, 0, none⟩)] 25)) (.map #[] 0)) (.cells #[.map (some (w.heap.size + 1))] 156)) (.cells #[.func (.func 113) #[] #[.pointer (some ⟨w.heap.size, 0, none⟩), .pointer (some ⟨w.heap.size + 1 + 1, 0, none⟩), .pointer (some ⟨w.heap.size + 1 + 1 + 1, 0, none⟩)]] 157)
    refine ⟨hb, by simp, ?_, ⟨?_, ?_, ?_⟩, ?_⟩
    · refine ⟨#[], 0, ?_, rfl⟩
      rw [Below.heap_alloc _ _ _ (by simp), Below.heap_alloc _ _ _ (by simp)]
      have := heap_alloc_new (w.alloc (.cells #[.pointer (some ⟨s, 0, none⟩)] 25)) (.map #[] 0)
      simpa using this
    · have h := heap_alloc_new w (.cells #[.pointer (some ⟨s, 0, none⟩)] 25)
      rw [← Below.heap_alloc _ (.map #[] 0) _ (by simp), ← Below.heap_alloc _ (.cells #[.map (some (w.heap.size + 1))] 156) _ (by simp; omega), ← Below.heap_alloc _ (.cells #[.func (.func 113) #[] #[.pointer (some ⟨w.heap.size, 0, none⟩), .pointer (some ⟨w.heap.size + 1 + 1, 0, none⟩), .pointer (some ⟨w.heap.size + 1 + 1 + 1, 0, none⟩)]] 157) _ (by simp; omega)] at h
      simp only [World.cell?, h]
      rfl
    · have h := heap_alloc_new ((w.alloc (.cells #[.pointer (some ⟨s, 0, none⟩)] 25)).alloc (.map #[] 0)) (.cells #[.map (some (w.heap.size + 1))] 156)
      rw [← Below.heap_alloc _ (.cells #[.func (.func 113) #[] #[.pointer (some ⟨w.heap.size, 0, none⟩), .pointer (some ⟨w.heap.size + 1 + 1, 0, none⟩), .pointer (some ⟨w.heap.size + 1 + 1 + 1, 0, none⟩)]] 157) _ (by simp)] at h
      simp only [World.size_alloc] at h
      simp only [World.cell?, h]
      rfl
    · have h := heap_alloc_new (((w.alloc (.cells #[.pointer (some ⟨s, 0, none⟩)] 25)).alloc (.map #[] 0)).alloc (.cells #[.map (some (w.heap.size + 1))] 156)) (.cells #[.func (.func 113) #[] #[.pointer (some ⟨w.heap.size, 0, none⟩), .pointer (some ⟨w.heap.size + 1 + 1, 0, none⟩), .pointer (some ⟨w.heap.size + 1 + 1 + 1, 0, none⟩)]] 157)
      simp only [World.size_alloc] at h
      simp only [World.cell?, h]
      rfl
    · refine (HS.out.more (Y := fun k => SX s m k ∨ k = w.heap.size + 1) (.inl (.inl rfl)) (.inl (.inr rfl)) fun k hk h => ?_).bel hb
      rcases h with h | h
      · exact h
      · omega)
  generalize hW : (((w.alloc (.cells #[.pointer (some ⟨s, 0, none⟩)] 25)).alloc (.map #[] 0)).alloc (.cells #[.map (some (w.heap.size + 1))] 156)).alloc (.cells #[.func (.func 113) #[] #[.pointer (some ⟨w.heap.size, 0, none⟩), .pointer (some ⟨w.heap.size + 1 + 1, 0, none⟩), .pointer (some ⟨w.heap.size + 1 + 1 + 1, 0, none⟩)]] 157) = W at *
  clear hW k0 k1 mk
  obtain ⟨y1, y2, y3⟩ := FW.out.bx
  have k0 := FW.out.sol.cell.2.2
  have zs : s < W.heap.size := Nat.lt_of_lt_of_le hsz FW.out.be.size
  have hsz4 := FW.out.sz
  have hXW := Lib.hid (SX_lt FW.out.sol)
  have hdm : w.heap.size + 1 ≠ s ∧ w.heap.size + 1 ≠ m := ⟨by omega, by have := hlt.out m (.inr rfl); omega⟩
  have HD := Lib.hid hdm
  clear hdm hsz
  go_wp2_with fail
  go_loopw [13] (fun s13 wr => ∃ (i : Nat) (lm : List (Nat × Value)), s13 = .int .i64 i ∧ i ≤ first ∧ Hid ((∀ n : Nat, n < i → ndT (S.σ.v (n : Int)) ≤ 10000 ∧ dpT (S.σ.v (n : Int)) ≤ 100) ∧ MemoI (fun k => SX s m k ∨ k = w.heap.size + 1) S wr (w.heap.size + 1) lm ∧ MBox s (w.heap.size + 1) w.heap.size (w.heap.size + 1 + 1) (w.heap.size + 1 + 1 + 1) wr ∧ Fr (fun k => k = w.heap.size + 1) W wr)) (fun s13 _ => first - (intOf s13).toNat)
  case atStart => exact ⟨0, [], rfl, Nat.zero_le _, Lib.hid ⟨fun n hn => by omega, ⟨FW.out.km, fun q hq => by cases hq⟩, FW.out.bx, Fr.refl _ _⟩⟩
  case round =>
    obtain ⟨i, lm, rfl, hi, M⟩ := hrel
    clear y1 y2 y3 k0
    by_cases hp : i < first
    · have hbA := Lib.hid (ext_alloc (Below.refl wr.heap.size wr) (.cells #[.int .i64 8, .int .i64 (i : Int), .slice none 0 0, .slice none 0 0, .pointer none] 105))
      obtain ⟨_, _, y3⟩ := M.out.2.2.1
      have z3 : w.heap.size + 1 + 1 + 1 < wr.heap.size := World.block_lt_of_cell? wr _ y3
      have hcall : Hid (Calls Try.prog 113 #[.pointer (some ⟨wr.heap.size, 0, none⟩), .pointer (some ⟨w.heap.size, 0, none⟩), .pointer (some ⟨w.heap.size + 1 + 1, 0, none⟩), .pointer (some ⟨w.heap.size + 1 + 1 + 1, 0, none⟩)] (wr.alloc (.cells #[.int .i64 8, .int .i64 (i : Int), .slice none 0 0, .slice none 0 0, .pointer none] 105)) (MPost (fun k => SX s m k ∨ k = w.heap.size + 1) S (w.heap.size + 1) (varT i) (wr.alloc (.cells #[.int .i64 8, .int .i64 (i : Int), .slice none 0 0, .slice none 0 0, .pointer none] 105)))) := Lib.hid (by
        have hX2 : ∀ k, (SX s m k ∨ k = w.heap.size + 1) → k < wr.heap.size := fun k hk => by
          have hs := M.out.2.2.2.size
          rcases hk with hk | hk
          · have := hXW.out k hk; omega
          · omega
        refine meas_any (fun k => SX s m k ∨ k = w.heap.size + 1) U S s m first (w.heap.size + 1) w.heap.size (w.heap.size + 1 + 1) (w.heap.size + 1 + 1 + 1) HK.out hU (.inr rfl) HD.out _ (varT i) (Nat.le_refl _) wr.heap.size _ lm (fun k hk => Nat.lt_of_lt_of_le (hX2 k hk) hbA.out.size) ?_ ?_ (HK.out.var (HL.out.2 i (by omega)) (by omega) (by have := HL.out.1; omega)) (M.out.2.1.bel hbA.out) (M.out.2.2.1.bel hbA.out)
        · exact (FW.out.sol.fr M.out.2.2.2 fun k _ hk => ⟨.inr hk, by have := HD.out.1; omega, by have := HD.out.2; omega⟩).bel hbA.out
        · exact .mk _ 8 i [] none none none [] [] 0 0 (.pointer none) (fun h => by have := hX2 _ h; omega) (heap_alloc_new wr _) rfl (fun _ => rfl) Lies.nil Lies.nil rfl (fun j p c h => by simp at h) rfl)
      have HBW : Hid (∀ w4, Fr (fun k => k = w.heap.size + 1) (wr.alloc (.cells #[.int .i64 8, .int .i64 (i : Int), .slice none 0 0, .slice none 0 0, .pointer none] 105)) w4 → Below w.heap.size w w4) := Lib.hid fun w4 h => (((Fr.below (X := fun k => k = w.heap.size + 1) FW.out.be).trans M.out.2.2.2).trans ((Fr.below hbA.out).trans h)).toBelow fun k hk => by omega
      go_wp2_with fail
      refine hcall.out.mono ?_
      clear hcall
      rintro e w4 ⟨nd, d, rfl, ok, f4, l4, m4⟩
      rw [inst_var] at ok
      have hb1 : 0 ≤ nd ∧ nd ≤ 10001 := by
        have h1 := ok.en
        have h2 := (ndT_le (S.σ.v (i : Int))).2
        omega
      have G := Lib.hid (And.intro ok (And.intro f4 m4))
      have HB4 := Lib.hid (HBW.out w4 f4)
      clear ok f4 m4 y3
      unfold szV
      by_cases h1 : 10000 < nd
      · go_wp2_with fail
        go_ret
        refine ⟨false, rfl, ⟨fun h => (by cases h), fun h => ?_⟩, ?_⟩
        · have h2 := (h i (by omega) (by omega)).1
          have h3 := G.out.1.en
          omega
        · exact ext_alloc HB4.out _
      · by_cases h2 : 100 < d
        · go_wp2_with fail
          go_ret
          refine ⟨false, rfl, ⟨fun h => (by cases h), fun h => ?_⟩, ?_⟩
          · have h3 := h i (by omega) (by omega)
            have h4 := G.out.1.en
            have h5 := G.out.1.ed (by omega)
            omega
          · exact ext_alloc HB4.out _
        · go_wp2_with fail
          go_roundw
          case rel =>
            have hb4 := ext_alloc (Below.refl w4.heap.size w4) (.cells #[.int .i64 nd, .int .i64 d] 159)
            obtain ⟨es, ck, hm1, _⟩ := M.out.2.1.1
            refine ⟨i + 1, l4, by go_num, hp, Lib.hid ⟨fun n hn => ?_, G.out.2.2.bel hb4, ?_, ?_⟩⟩
            · by_cases e : n = i
              · subst e
                have h4 := G.out.1.en
                have h5 := G.out.1.ed (by omega)
                omega
              · exact M.out.1 n (by omega)
            · refine MBox.bel (MBox.fr (M.out.2.2.1.bel hbA.out) (es := es) (ck := ck) ?_ G.out.2.1) hb4
              rw [Below.heap_alloc _ _ _ (Array.getElem?_eq_some_iff.1 hm1).1]
              exact hm1
            · exact (M.out.2.2.2.trans ((Fr.below hbA.out).trans G.out.2.1)).trans (Fr.below hb4)
          case measure => simp [intOf]; omega
    · go_wp2_with fail
      go_ret
      refine ⟨true, rfl, ⟨fun _ n h0 hn => ?_, fun _ => rfl⟩, ?_⟩
      · have := M.out.1 n.toNat (by omega)
        rwa [Int.toNat_of_nonneg h0] at this
      · exact ((Fr.below (X := fun k => k = w.heap.size + 1) FW.out.be).trans M.out.2.2.2).toBelow fun k hk => by omega
end Go.Proofs.Ytblfeokjlecgkaa
