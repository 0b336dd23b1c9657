/- Laid together by a tool from the texts of this seat: UDel UDelB UStatic. Conditions: each theorem's own. -/
import Derived.Test.YtblfeokjlecgkaaO20
import Derived.Test.YtblfeokjlecgkaaO16
import Derived.Test.YtblfeokjlecgkaaO12
/- unify.without and unify.shared: the library's searches among children, walked. -/
namespace Go.Proofs.Ytblfeokjlecgkaa
open Go.RowKit

theorem eqS (a b : ByteArray) : (a.toList == b.toList) = decide (a = b) := by
  rw [Bool.eq_iff_iff, beq_iff_eq, decide_eq_true_eq]
  constructor
  · intro e
    rw [ByteArray.toList_eq, ByteArray.toList_eq] at e
    cases a; cases b
    simpa using Array.toList_inj.1 e
  · exact fun e => by rw [e]

set_option maxHeartbeats 400000 in
theorem eqC1_any (a b : ByteArray) (p : Option Addr) (q : Nat) (w : World) (hq : w.cell? ⟨q, 0, none⟩ = some (.string b)) :
    Calls Try.prog 184 #[.agg #[.string a, .pointer p], .pointer (some ⟨q, 0, none⟩)] w fun e w' => e = .returned (.bool (decide (a = b))) ∧ Below w.heap.size w w' := by
  have hz : q < w.heap.size := by
    rcases Nat.lt_or_ge q w.heap.size with g | g
    · exact g
    · simp [World.cell?, Array.getElem?_eq_none g] at hq
  go_enter Try.func184, Try.ntmps184
  go_wp2_with fail
  go_ret
  exact ⟨ret_bool (eqS a b), (Below.refl _ _).alloc (Nat.le_refl _) _⟩

set_option maxHeartbeats 400000 in
theorem eqC2_any (a b : ByteArray) (p : Option Addr) (q : Nat) (w : World) (hq : w.cell? ⟨q, 0, none⟩ = some (.string b)) :
    Calls Try.prog 178 #[.agg #[.string a, .pointer p], .pointer (some ⟨q, 0, none⟩)] w fun e w' => e = .returned (.bool (decide (a = b))) ∧ Below w.heap.size w w' := by
  have hz : q < w.heap.size := by
    rcases Nat.lt_or_ge q w.heap.size with g | g
    · exact g
    · simp [World.cell?, Array.getElem?_eq_none g] at hq
  go_enter Try.func178, Try.ntmps178
  go_wp2_with fail
  go_ret
  exact ⟨ret_bool (eqS a b), (Below.refl _ _).alloc (Nat.le_refl _) _⟩

/-- A predicate on children, as a function value with one captured variable: it makes blocks alone. -/
def AskC (K : Nat) (q : Nat) (cl : List (ByteArray × Nat)) (P : ByteArray × Nat → Bool) (w : World) : Prop :=
  ∀ (c : ByteArray × Nat) (wr : World), c ∈ cl → Below w.heap.size w wr → Calls Try.prog K #[.agg #[.string c.1, .pointer (some ⟨c.2, 0, none⟩)], .pointer (some ⟨q, 0, none⟩)] wr fun e w' => e = .returned (.bool (P c)) ∧ Below wr.heap.size wr w'

/-- The first child of which it is true. -/
def FoundC (P : ByteArray × Nat → Bool) (cl : List (ByteArray × Nat)) (n : Int) : Prop :=
  (n = -1 ∧ ∀ c ∈ cl, P c = false) ∨ ∃ (i : Nat) (c : ByteArray × Nat), n = i ∧ cl[i]? = some c ∧ P c = true ∧ ∀ (j : Nat) (d : ByteArray × Nat), j < i → cl[j]? = some d → P d = false

set_option maxHeartbeats 4000000 in
theorem indexC_any (K : Nat) (hK : K = 184 ∨ K = 178 ∨ K = 182) (q : Nat) (A : Option Addr) (cap : Nat) (cl : List (ByteArray × Nat)) (P : ByteArray × Nat → Bool) (w : World) (hr : ReadL 2 encC w w.heap.size A cl) (hl : cl.length ≤ 1000000) (H : AskC K q cl P w) :
    Calls Try.prog 177 #[.slice A cl.length cap, .func (.func K) #[] #[.pointer (some ⟨q, 0, none⟩)]] w fun e w' => ∃ n : Int, e = .returned (.int .i64 n) ∧ FoundC P cl n ∧ Below w.heap.size w w' := by
  have HH := Lib.hid H
  have HR := Lib.hid hr
  clear H hr
  rcases hK with rfl | rfl | rfl
  all_goals
    go_enter Try.func177, Try.ntmps177
    go_wp2_with fail
    go_loopw [8] (fun s8 wr => ∃ i : Nat, s8 = .int .i64 i ∧ i ≤ cl.length ∧ Hid ((∀ (j : Nat) (d : ByteArray × Nat), j < i → cl[j]? = some d → P d = false) ∧ Below w.heap.size w wr)) (fun s8 _ => cl.length - (intOf s8).toNat)
    case atStart => exact ⟨0, rfl, Nat.zero_le _, Lib.hid ⟨fun j d h => by omega, Below.refl _ _⟩⟩
    case round =>
      obtain ⟨i, rfl, hi, M⟩ := hrel
      by_cases hp : i < cl.length
      · obtain ⟨c, hc⟩ := getq_ex (l := cl) (i := i) hp
        obtain ⟨b, o, rfl, hb, k0, k1⟩ := HR.out.child hc
        have e0 := (M.out.2.cell (p := ⟨b, o + i * 2, none⟩) hb).trans k0
        have e1 := (M.out.2.cell (p := ⟨b, o + i * 2 + 1, none⟩) hb).trans k1
        have HC := Lib.hid (HH.out c wr (List.mem_of_getElem? hc) M.out.2)
        have Hc := Lib.hid hc
        clear hc k0 k1 hb
        go_wp2_with fail
        refine HC.out.mono ?_
        rintro e w1 ⟨rfl, hb1⟩
        have B1 := Lib.hid (ext_trans M.out.2 hb1)
        clear hb1 e0 e1
        cases hpc : P c with
        | true =>
          have Hpc := Lib.hid hpc
          go_wp2_with fail
          go_ret
          exact ⟨i, rfl, .inr ⟨i, c, rfl, Hc.out, Hpc.out, M.out.1⟩, B1.out⟩
        | false =>
          have Hpc := Lib.hid hpc
          go_wp2_with fail
          go_roundw
          case rel =>
            exact ⟨i + 1, by go_num, hp, Lib.hid ⟨fun j d h hd => by
              by_cases e : j = i
              · subst e
                rw [Hc.out] at hd
                injection hd with hd
                exact hd ▸ Hpc.out
              · exact M.out.1 j d (by omega) hd, B1.out⟩⟩
          case measure => simp [intOf]; omega
      · go_wp2_with fail
        go_ret
        refine ⟨-1, rfl, .inl ⟨rfl, fun c hc => ?_⟩, M.out.2⟩
        obtain ⟨j, hj⟩ := List.getElem?_of_mem hc
        exact M.out.1 j c (by have := getq_lt hj; omega) hj

set_option maxHeartbeats 4000000 in
theorem containsC_any (q : Nat) (A : Option Addr) (cap : Nat) (cl : List (ByteArray × Nat)) (P : ByteArray × Nat → Bool) (w : World) (hr : ReadL 2 encC w w.heap.size A cl) (hl : cl.length ≤ 1000000) (H : AskC 184 q cl P w) :
    Calls Try.prog 183 #[.slice A cl.length cap, .func (.func 184) #[] #[.pointer (some ⟨q, 0, none⟩)]] w fun e w' => e = .returned (.bool (cl.any P)) ∧ Below w.heap.size w w' := by
  have HC := Lib.hid (indexC_any _ (.inl rfl) q A cap cl P w hr hl H)
  clear H hr
  go_enter Try.func183, Try.ntmps183
  go_wp2_with fail
  refine HC.out.mono ?_
  rintro e w1 ⟨n, rfl, hf, hb⟩
  have HF := Lib.hid (And.intro hf hb)
  clear hf hb HC
  by_cases hn : 0 ≤ n
  · go_wp2_with fail
    go_ret
    refine ⟨ret_bool ?_, HF.out.2⟩
    rcases HF.out.1 with ⟨e, _⟩ | ⟨i, c, _, h1, h2, _⟩
    · omega
    · have : cl.any P = true := List.any_eq_true.2 ⟨c, List.mem_of_getElem? h1, h2⟩
      simp [this]
  · go_wp2_with fail
    go_ret
    refine ⟨ret_bool ?_, HF.out.2⟩
    rcases HF.out.1 with ⟨_, h⟩ | ⟨i, c, e, _⟩
    · have : cl.any P = false := by
        rw [Bool.eq_false_iff]
        intro hh
        obtain ⟨c, hc, hp⟩ := List.any_eq_true.1 hh
        rw [h c hc] at hp
        cases hp
      simp [this, hn]
    · omega

/-- Has a row this label? -/
def hasC (l : ByteArray) (cl : List (ByteArray × Nat)) : Bool := cl.any fun d => decide (d.1 = l)

set_option maxHeartbeats 4000000 in
theorem withoutC_any (l : ByteArray) (p : Option Addr) (q : Nat) (A : Option Addr) (cap : Nat) (cl : List (ByteArray × Nat)) (w : World) (hq : w.cell? ⟨q, 0, none⟩ = some (.slice A cl.length cap)) (hr : ReadL 2 encC w w.heap.size A cl) (hl : cl.length ≤ 1000000) :
    Calls Try.prog 182 #[.agg #[.string l, .pointer p], .pointer (some ⟨q, 0, none⟩)] w fun e w' => e = .returned (.bool (hasC l cl)) ∧ Below w.heap.size w w' := by
  have hz : q < w.heap.size := by
    rcases Nat.lt_or_ge q w.heap.size with g | g
    · exact g
    · simp [World.cell?, Array.getElem?_eq_none g] at hq
  have HR := Lib.hid hr
  clear hr
  go_enter Try.func182, Try.ntmps182
  go_wp2_with fail
  have hba := ext_alloc (Below.refl w.heap.size w) (.cells #[.string l, .pointer p] 150)
  have hasl : AskC 184 w.heap.size cl (fun d => decide (d.1 = l)) (w.alloc (.cells #[.string l, .pointer p] 150)) := fun c wr _ hb => by
    refine eqC1_any c.1 l _ w.heap.size wr ((hb.cell (p := ⟨w.heap.size, 0, none⟩) (by simp)).trans ?_)
    simp only [World.cell?, heap_alloc_new]
    rfl
  refine (containsC_any w.heap.size A cap cl _ _ ((HR.out.below hba).more hba.size) hl hasl).mono ?_
  rintro e w1 ⟨rfl, hb1⟩
  have B1 := Lib.hid (ext_trans hba hb1)
  clear hb1 hba hasl
  go_wp2_with fail
  go_ret
  exact ⟨rfl, B1.out⟩
end Go.Proofs.Ytblfeokjlecgkaa

/- slices.DeleteFunc and slices.Clone at children; unify.without, walked. -/
namespace Go.Proofs.Ytblfeokjlecgkaa
open Go.RowKit

theorem run_clear_any {P : Program} (w : World) (t e ty : TypeId) (z : Value) (ht : P.underlying t = some (.slice e)) (hv : ∀ w, (zeroValue e).run P w = .ok z w) (b o n c : Nat) (hn : 0 < n) (Z : List Value) (hZ : (Builtin.zeroCells z.cells n).toList = Z)
    (hc : ∀ j, j < Z.length → (w.cell? ⟨b, o + j, none⟩).isSome = true) (hf : ∀ j, j < Z.length → w.frozen? ⟨b, o + j, none⟩ = false) (h1 : ∀ v ∈ Z, v.oneCell' = true) :
    (Builtin.clear_ #[t] ty #[.slice (some ⟨b, o, none⟩) n c]).run P w = .ok (.tuple #[]) (w.setCells b o Z) := by
  subst hZ
  have hst := run_storeCells_cells (P := P) b o (Builtin.zeroCells z.cells n).toList 0 w (by simpa using hc) (by simpa using hf) h1
  simp only [Nat.add_zero] at hst
  obtain ⟨m, rfl⟩ : ∃ m, n = m + 1 := ⟨n - 1, by omega⟩
  simp [Builtin.clear_, run_underlying ht, hv, hst]

theorem zeroC (w : World) : (zeroValue 150).run Try.prog w = .ok (.agg #[.string ByteArray.empty, .pointer none]) w := by kernel_rfl

def zsC (n : Nat) : List Value := (Builtin.zeroCells (Value.agg #[.string ByteArray.empty, .pointer none]).cells n).toList

theorem zsC_len (n : Nat) : (zsC n).length = n * 2 := by
  show ((Builtin.zeroCells #[.string ByteArray.empty, .pointer none] n).toList).length = _
  simp [Builtin.zeroCells]

theorem zsC_one (n : Nat) : ∀ v ∈ zsC n, v.oneCell' = true := by
  intro v hv
  have hv : v ∈ (Builtin.zeroCells #[.string ByteArray.empty, .pointer none] n).toList := hv
  simp only [Builtin.zeroCells, Array.toList_map, List.mem_map] at hv
  obtain ⟨i, _, rfl⟩ := hv
  have : i % 2 = 0 ∨ i % 2 = 1 := by omega
  show ((#[Value.string ByteArray.empty, .pointer none] : Array Value)[i % 2]!).oneCell' = true
  rcases this with h | h <;> rw [h] <;> rfl

/-- Cells behind a row are stored: the row stands. -/
theorem OwnC.beyond {base g cap : Nat} {l : List (ByteArray × Nat)} : ∀ (vs : List Value) (o : Nat) (w : World), OwnC w base (some ⟨g, 0, none⟩) cap l → l.length * 2 ≤ o → OwnC (w.setCells g o vs) base (some ⟨g, 0, none⟩) cap l ∧ w.grownBy (w.setCells g o vs) (some g)
  | [], _, w, h, _ => ⟨h, World.grownBy.refl _ _⟩
  | v :: vs, o, w, h, ho => by
    have h' : w.ownsRow base 150 2 (.slice (some ⟨g, 0, none⟩) l.length cap) l.length (l.flatMap encC) := h
    obtain ⟨h2, h3⟩ := World.ownsRow.stored h' o v
    rw [List.set_eq_of_length_le (by rw [flatMap_len encC_len]; exact ho)] at h2
    obtain ⟨h4, h5⟩ := OwnC.beyond vs (o + 1) _ (show OwnC _ base (some ⟨g, 0, none⟩) cap l from h2) (by omega)
    exact ⟨h4, only_trans h3 h5⟩

theorem clearC {w : World} {base g cap : Nat} {l : List (ByteArray × Nat)} (h : OwnC w base (some ⟨g, 0, none⟩) cap l) {k : Nat} (hk : k < l.length) (ty : TypeId) (c : Nat) :
    (Builtin.clear_ #[146] ty #[.slice (some ⟨g, k * 2, none⟩) (l.length - k) c]).run Try.prog w = .ok (.tuple #[]) (w.setCells g (k * 2) (zsC (l.length - k))) := by
  have hcells : ∀ j, j < (l.length - k) * 2 → (w.cell? ⟨g, k * 2 + j, none⟩).isSome = true := fun j hj => by
    obtain ⟨x, hx⟩ := getq_ex (l := l) (i := k + j / 2) (by omega)
    obtain ⟨_, _, c0, c1, _, _⟩ := OwnC.at_ h hx
    rcases (by omega : j % 2 = 0 ∨ j % 2 = 1) with e | e
    · rw [show k * 2 + j = (k + j / 2) * 2 by omega, c0]; rfl
    · rw [show k * 2 + j = (k + j / 2) * 2 + 1 by omega, c1]; rfl
  exact run_clear_any w _ _ ty _ Try.underlying146 zeroC g (k * 2) _ _ (by omega) _ rfl (fun j hj => hcells j (by have hj' : j < (zsC (l.length - k)).length := hj; rw [zsC_len] at hj'; exact hj')) (fun j _ => World.ownsRow.frozenAt h _) (zsC_one _)

set_option maxRecDepth 100000 in
set_option maxHeartbeats 4000000 in
theorem delete_some (q base g cap : Nat) (cl : List (ByteArray × Nat)) (P : ByteArray × Nat → Bool) (w : World) (h : OwnC w base (some ⟨g, 0, none⟩) cap cl) (hl : cl.length ≤ 1000000)
    (H : ∀ (c : ByteArray × Nat) (wr : World), c ∈ cl → w.grownBy wr (some g) → Calls Try.prog 182 #[.agg #[.string c.1, .pointer (some ⟨c.2, 0, none⟩)], .pointer (some ⟨q, 0, none⟩)] wr fun e w' => e = .returned (.bool (P c)) ∧ Below wr.heap.size wr w') :
    Calls Try.prog 180 #[.slice (some ⟨g, 0, none⟩) cl.length cap, .func (.func 182) #[] #[.pointer (some ⟨q, 0, none⟩)]] w
      fun e w' => ∃ n, n = (cl.filter fun c => !P c).length ∧ e = .returned (.slice (some ⟨g, 0, none⟩) n cap) ∧ OwnC w' base (some ⟨g, 0, none⟩) cap (cl.filter fun c => !P c) ∧ w.grownBy w' (some g) := by
  have HH := Lib.hid H
  have HO := Lib.hid h
  have HIx := Lib.hid (indexC_any _ (.inr (.inr rfl)) q (some ⟨g, 0, none⟩) cap cl P w (OwnL.read encC_len h) hl (fun c wr hc hb => H c wr hc (below_grown hb _)))
  have hcap : cl.length ≤ cap := OwnL.le_cap h
  clear H h
  go_enter Try.func180, Try.ntmps180
  go_wp2_with fail
  refine HIx.out.mono ?_
  clear HIx
  rintro e w1 ⟨n, rfl, hf, hb⟩
  have B1 := Lib.hid hb
  clear hb
  rcases hf with ⟨rfl, hall⟩ | ⟨i, c, rfl, hc, hpc, hlow⟩
  · have HAll := Lib.hid hall
    clear hall
    go_wp2_with fail
    go_ret
    have hfe : cl.filter (fun c => !P c) = cl := List.filter_eq_self.2 fun c hc => by rw [HAll.out c hc]; rfl
    exact ⟨cl.length, by rw [hfe], rfl, by rw [hfe]; exact OwnL.below HO.out B1.out (Nat.le_refl _), below_grown B1.out _⟩
  · have hil := getq_lt hc
    have hie : ((i : Int) == -1) = false := beq_eq_false_iff_ne.2 (by omega)
    have Hc := Lib.hid (And.intro hc (And.intro hpc hlow))
    clear hc hpc hlow
    go_wp2_with fail
    obtain ⟨wo, rfl⟩ : ∃ wo : World, wo = w1 := ⟨_, rfl⟩
    go_loopw [5, 6] (fun s5 s6 wr => ∃ (i j : Nat) (l : List (ByteArray × Nat)), s5 = .int .i64 i ∧ s6 = .int .i64 j ∧ i < j ∧ j ≤ cl.length ∧ Hid (l.length = cl.length ∧ l.take i = (cl.take j).filter (fun c => !P c) ∧ (∀ k, j ≤ k → l[k]? = cl[k]?) ∧ OwnC wr base (some ⟨g, 0, none⟩) cap l ∧ w.grownBy wr (some g))) (fun _ s6 _ => cl.length - (intOf s6).toNat)
    case atStart =>
      refine ⟨i, i + 1, cl, rfl, by go_num, by omega, hil, Lib.hid ⟨rfl, ?_, fun k _ => rfl, OwnL.below HO.out B1.out (Nat.le_refl _), below_grown B1.out _⟩⟩
      rw [List.take_add_one, Hc.out.1, List.filter_append]
      have h1 : (cl.take i).filter (fun c => !P c) = cl.take i := List.filter_eq_self.2 fun d hd => by
        obtain ⟨k, hk⟩ := List.getElem?_of_mem hd
        have hki := getq_lt hk
        rw [List.length_take] at hki
        rw [List.getElem?_take_of_lt (by omega)] at hk
        rw [Hc.out.2.2 k d (by omega) hk]
        rfl
      rw [h1]
      simp [Hc.out.2.1]
    case round =>
      clear Hc hie
      obtain ⟨i, j, l, rfl, rfl, hij, hj, M⟩ := hrel
      have hll : Hid (l.length = cl.length) := Lib.hid M.out.1
      by_cases hp : j < cl.length
      · obtain ⟨v, hv⟩ := getq_ex (l := cl) (i := j) hp
        have hvl : l[j]? = some v := (M.out.2.2.1 j (Nat.le_refl _)).trans hv
        obtain ⟨_, hgz, v0, v1, _, _⟩ := OwnC.at_ M.out.2.2.2.1 hvl
        have HC := Lib.hid (fun W => HH.out v W (List.mem_of_getElem? hv))
        have Hv := Lib.hid hv
        have hji : i < cl.length := by omega
        clear hv hvl
        go_wp2_with fail
        have hga := only_alloc M.out.2.2.2.2 (.cells #[.string v.1, .pointer (some ⟨v.2, 0, none⟩)] 150)
        refine (HC.out _ hga).mono ?_
        rintro e w2 ⟨rfl, hb2⟩
        have hoa := OwnL.below (OwnL.alloc M.out.2.2.2.1 (.cells #[.string v.1, .pointer (some ⟨v.2, 0, none⟩)] 150)) hb2 (Nat.le_refl _)
        have hx0 : (wr.alloc (.cells #[.string v.1, .pointer (some ⟨v.2, 0, none⟩)] 150)).heap[wr.heap.size]? = _ := heap_alloc_new wr _
        have hx2 := (hb2.block wr.heap.size (by simp)).trans hx0
        have G := Lib.hid (And.intro hoa (grown_below hga hb2))
        have b0 : w2.cell? ⟨wr.heap.size, 0, none⟩ = some (.string v.1) := by simp [World.cell?, hx2]
        have b1 : w2.cell? ⟨wr.heap.size, 1, none⟩ = some (.pointer (some ⟨v.2, 0, none⟩)) := by simp [World.cell?, hx2]
        clear hga hb2 hoa hx0 hx2 v0 v1 hgz
        cases hpv : P v with
        | true =>
          have Hpv := Lib.hid hpv
          go_wp2_with fail
          go_roundw
          case rel =>
            refine ⟨i, j + 1, l, rfl, by go_num, by omega, hp, Lib.hid ⟨M.out.1, ?_, fun k hk => M.out.2.2.1 k (by omega), G.out.1, G.out.2⟩⟩
            rw [List.take_add_one, Hv.out, List.filter_append, M.out.2.1]
            simp [Hpv.out]
          case measure => simp [intOf]; omega
        | false =>
          have Hpv := Lib.hid hpv
          obtain ⟨y, hy⟩ := getq_ex (l := l) (i := i) (by have := hll.out; omega)
          obtain ⟨_, hgz, y0, y1, fy0, fy1⟩ := OwnC.at_ G.out.1 hy
          have GS := Lib.hid (OwnC.set G.out.1 hy v)
          have hset : Hid ((l.set i v).take (i + 1) = (cl.take (j + 1)).filter (fun c => !P c)) := Lib.hid (by
            rw [List.take_add_one, List.getElem?_set_self (getq_lt hy), List.take_set_of_le (Nat.le_refl _), M.out.2.1]
            rw [List.take_add_one, Hv.out, List.filter_append]
            simp [Hpv.out])
          clear hy
          go_wp2_with fail
          go_roundw
          case rel =>
            exact ⟨i + 1, j + 1, l.set i v, by go_num, by go_num, by omega, hp, Lib.hid ⟨by rw [List.length_set]; exact M.out.1, hset.out, fun k hk => by rw [List.getElem?_set_ne (by omega)]; exact M.out.2.2.1 k (by omega), GS.out.1, only_trans G.out.2 GS.out.2⟩⟩
          case measure => simp [intOf]; omega
      · have hje : j = cl.length := by omega
        subst hje
        have hcl := fun ty => clearC M.out.2.2.2.1 (k := i) (by have := hll.out; omega) ty (cap - i)
        rw [hll.out] at hcl
        have hicap : i ≤ cap := by omega
        have hicap2 : i < cap := by omega
        go_wp2_with fail
        go_ret
        have hfl : l.take i = cl.filter (fun c => !P c) := by rw [M.out.2.1, List.take_length]
        have hlen : i = (cl.filter (fun c => !P c)).length := by
          rw [← hfl, List.length_take]
          have := hll.out
          omega
        obtain ⟨h1, h2⟩ := OwnC.beyond (zsC (cl.length - i)) (i * 2) wr (OwnL.cut encC_len M.out.2.2.2.1 (k := i) (by have := hll.out; omega)) (by rw [hfl, ← hlen]; exact Nat.le_refl _)
        rw [hfl] at h1
        exact ⟨i, hlen, rfl, h1, only_trans M.out.2.2.2.2 h2⟩

theorem delete_any (q base : Nat) (A : Option Addr) (cap : Nat) (cl : List (ByteArray × Nat)) (P : ByteArray × Nat → Bool) (w : World) (h : OwnC w base A cap cl) (hl : cl.length ≤ 1000000)
    (H : ∀ (c : ByteArray × Nat) (wr : World), c ∈ cl → (∀ k, k < w.heap.size → k < base → wr.heap[k]? = w.heap[k]?) → Calls Try.prog 182 #[.agg #[.string c.1, .pointer (some ⟨c.2, 0, none⟩)], .pointer (some ⟨q, 0, none⟩)] wr fun e w' => e = .returned (.bool (P c)) ∧ Below wr.heap.size wr w') :
    Calls Try.prog 180 #[.slice A cl.length cap, .func (.func 182) #[] #[.pointer (some ⟨q, 0, none⟩)]] w
      fun e w' => ∃ n, n = (cl.filter fun c => !P c).length ∧ e = .returned (.slice A n cap) ∧ OwnC w' base A cap (cl.filter fun c => !P c) ∧ Fr (fun k => base ≤ k) w w' := by
  cases A with
  | none =>
    rcases h.2 with ⟨hv, hn⟩ | ⟨g, cap', cur, hv, _⟩
    · have hcl : cl = [] := List.eq_nil_of_length_eq_zero hn
      subst hcl
      have HIx := Lib.hid (indexC_any _ (.inr (.inr rfl)) q none cap [] P w (OwnL.read encC_len h) hl (fun c wr hc => by simp at hc))
      have HO := Lib.hid h
      clear H h hn hv hl
      go_enter Try.func180, Try.ntmps180
      go_wp2_with fail
      refine HIx.out.mono ?_
      clear HIx
      rintro e w1 ⟨n, rfl, hf, hb⟩
      have B1 := Lib.hid hb
      clear hb
      obtain rfl : n = -1 := by
        rcases hf with ⟨e, _⟩ | ⟨i, c, _, hc, _⟩
        · exact e
        · simp at hc
      clear hf
      go_wp2_with fail
      go_ret
      exact ⟨0, rfl, rfl, OwnL.below HO.out B1.out (Nat.le_refl _), Fr.below B1.out⟩
    · cases hv
  | some a =>
    rcases h.2 with ⟨hv, hn⟩ | ⟨g, cap', cur, hv, hbg, _⟩
    · cases hv
    · injection hv with hv _ _
      injection hv with hv
      subst hv
      refine (delete_some q base g cap cl P w h hl fun c wr hc hg => H c wr hc fun k hk hkb => hg.block k hk fun e => by injection e with e; omega).mono ?_
      rintro e w' ⟨n, hn, he, h1, h2⟩
      exact ⟨n, hn, he, h1, Fr.grown h2 fun k hk => by injection hk with hk; omega⟩

set_option maxRecDepth 100000 in
theorem cloneC_any (V : Option Addr) (cv : Nat) (vs : List (ByteArray × Nat)) (w : World) (hr : ReadL 2 encC w w.heap.size V vs) (hl : vs.length ≤ 1000000) :
    Calls Try.prog 181 #[.slice V vs.length cv] w fun e w' => ∃ V' cv', e = .returned (.slice V' vs.length cv') ∧ OwnC w' w.heap.size V' cv' vs ∧ Below w.heap.size w w' := by
  cases V with
  | none =>
    have hv : vs = [] := by
      cases vs with
      | nil => rfl
      | cons v vs =>
        obtain ⟨_, _, h, _⟩ := hr (by simp)
        cases h
    subst hv
    go_enter Try.func181, Try.ntmps181
    go_wp2_with fail
    rw [Lib.run_eql_slice_nil _ _ _ _ _ _ _ _ Try.underlying146]
    go_wp2_with fail
    go_ret
    exact ⟨none, 0, rfl, OwnL.nil, Below.refl _ _⟩
  | some a =>
    have hown0 := own_empty 150 2 encC w
    have hb0 := ext_alloc (Below.refl w.heap.size w) (.cells #[] 150)
    go_enter Try.func181, Try.ntmps181
    go_wp2_with fail
    rw [Lib.run_eql_slice_nil _ _ _ _ _ _ _ _ Try.underlying146]
    go_wp2_with (at_builtin; refine wpList_appC rfl (.tmp 5) (.tmp 6) rfl w.heap.size (l := []) rfl hown0 (l2 := vs) rfl (ReadL.below hr hb0) (by simp; omega) (by simp) ?_; intro A2 cap2 w3 hown3 hg3 _)
    have hbel3 := ext_app hb0 hg3 (fun k hk => (OwnL.block hown0 k hk).1)
    go_wp2_with fail
    go_ret
    exact ⟨A2, cap2, by simp, by simpa using hown3, hbel3⟩

set_option maxRecDepth 100000 in
set_option maxHeartbeats 1000000 in
theorem without_any (A B : Option Addr) (ca cb : Nat) (al bs : List (ByteArray × Nat)) (w : World) (ha : ReadL 2 encC w w.heap.size A al) (hb : ReadL 2 encC w w.heap.size B bs) (hla : al.length ≤ 1000000) (hlb : bs.length ≤ 1000000) :
    Calls Try.prog 147 #[.slice A al.length ca, .slice B bs.length cb] w fun e w' => ∃ A' cap', e = .returned (.slice A' (al.filter fun c => !hasC c.1 bs).length cap') ∧ OwnC w' w.heap.size A' cap' (al.filter fun c => !hasC c.1 bs) ∧ Below w.heap.size w w' := by
  have HA := Lib.hid ha
  have HB := Lib.hid hb
  clear ha hb
  go_enter Try.func147, Try.ntmps147
  go_wp2_with fail
  have hba := ext_alloc (Below.refl w.heap.size w) (.cells #[.slice B bs.length cb] 146)
  refine (cloneC_any A ca al _ ((HA.out.below hba).more hba.size) hla).mono ?_
  rintro e w1 ⟨V, cv, rfl, h1, h2⟩
  have hz1 : w.heap.size < w1.heap.size := Nat.lt_of_lt_of_le (by simp) h2.size
  have hq : w1.heap[w.heap.size]? = some (.cells #[.slice B bs.length cb] 146) := (h2.block w.heap.size (by simp)).trans (heap_alloc_new w _)
  have hbw := ext_trans hba h2
  have Z := Lib.hid (And.intro h1 (And.intro hbw hq))
  clear h1 h2 hbw hq hba
  go_wp2_with fail
  refine (delete_any w.heap.size (w.heap.size + 1) V cv al (fun c => hasC c.1 bs) w1 (by simpa using Z.out.1) hla fun c wr _ hk => ?_).mono ?_
  · have hcell : wr.cell? ⟨w.heap.size, 0, none⟩ = some (.slice B bs.length cb) := by
      have := (hk w.heap.size hz1 (by omega)).trans Z.out.2.2
      simp [World.cell?, this]
    have hrd : ReadL 2 encC wr wr.heap.size B bs := by
      intro hne
      obtain ⟨b, o, e, hb, hc⟩ := HB.out hne
      have hb1 := Z.out.2.1.block b hb
      have hb2 := (hk b (by omega) (by omega)).trans hb1
      have hlt : b < wr.heap.size := by
        have h3 : b < w.heap.size := hb
        rw [Array.getElem?_eq_getElem h3] at hb2
        exact (Array.getElem?_eq_some_iff.1 hb2).1
      exact ⟨b, o, e, hlt, fun i x hi j u hj => (World.cell?_of_block (a := ⟨b, o + i * 2 + j, none⟩) hb2).trans (hc i x hi j u hj)⟩
    exact withoutC_any c.1 _ w.heap.size B cb bs wr hcell hrd hlb
  rintro e w2 ⟨n, rfl, rfl, h3, h4⟩
  have Y := Lib.hid (And.intro h3 h4)
  clear h3 h4
  go_wp2_with fail
  go_ret
  exact ⟨V, cv, rfl, Y.out.1.lower (by omega), ⟨Y.out.2.os.trans Z.out.2.1.os, Y.out.2.tape.trans Z.out.2.1.tape, Y.out.2.output.trans Z.out.2.1.output, Nat.le_trans Z.out.2.1.size Y.out.2.size, fun k hk => (Y.out.2.block k (by have := Z.out.2.1.size; omega) (fun e => by have e : w.heap.size + 1 ≤ k := e; omega)).trans (Z.out.2.1.block k hk)⟩⟩
end Go.Proofs.Ytblfeokjlecgkaa

/- unify.static: a tree each ? of which is a fresh variable, walked. -/
namespace Go.Proofs.Ytblfeokjlecgkaa
open Go.RowKit

attribute [local go_sem ↓] Go.wp_at_zero Go.wp_at_succ

theorem stcF_append : ∀ (a b : Fl) (m : Int), (stcF m (a ++ b)).1 = (stcF m a).1 ++ (stcF (stcF m a).2 b).1 ∧ (stcF m (a ++ b)).2 = (stcF (stcF m a).2 b).2
  | [], b, m => by rw [List.nil_append, stcF_nil]; exact ⟨rfl, rfl⟩
  | p :: a, b, m => by
    obtain ⟨h1, h2⟩ := stcF_append a b (stc m p.2).2
    rw [List.cons_append, stcF_cons, stcF_cons, h1, h2]
    exact ⟨rfl, rfl⟩

theorem stcF_len : ∀ (fs : Fl) (m : Int), (stcF m fs).1.length = fs.length
  | [], m => by rw [stcF_nil]
  | p :: fs, m => by rw [stcF_cons]; simp [stcF_len fs]

theorem stcF_nth {fs : Fl} {i : Nat} {p : Lb × Ut} (h : fs[i]? = some p) (m : Int) :
    (stcF m fs).1[i]? = some (p.1, (stc (stcF m (fs.take i)).2 p.2).1) ∧ (stcF m (fs.take (i + 1))).2 = (stc (stcF m (fs.take i)).2 p.2).2 := by
  have hi := getq_lt h
  have e1 : fs.take (i + 1) = fs.take i ++ [p] := by rw [List.take_add_one, h]; rfl
  have e2 : fs = fs.take i ++ (p :: fs.drop (i + 1)) := by
    have e3 : fs[i] = p := by rw [List.getElem?_eq_getElem hi] at h; injection h
    rw [← e3, ← List.drop_eq_getElem_cons hi, List.take_append_drop]
  constructor
  · conv => lhs; rw [e2]
    rw [(stcF_append _ _ m).1, List.getElem?_append_right (by rw [stcF_len]; simp; omega), stcF_len, stcF_cons]
    simp [Nat.min_eq_left (Nat.le_of_lt hi)]
  · rw [e1, (stcF_append _ _ m).2, stcF_cons, stcF_nil]

theorem dyn_take {fs : Fl} {i : Nat} {p : Lb × Ut} (h : fs[i]? = some p) : dynF (fs.take (i + 1)) = dynF (fs.take i) + dynT p.2 := by
  rw [List.take_add_one, h]
  show dynF (_ ++ [p]) = _
  rw [dynF_append, dynF_cons, dynF_nil]
  rfl

theorem dyn_take_le (fs : Fl) (i : Nat) : dynF (fs.take i) ≤ dynF fs := dynF_sub (List.take_sublist i fs)

theorem stcF_next2 {L : Sorts} {fs : Fl} (h : ∀ p ∈ fs, okT L p.2) (m : Int) : (stcF m fs).2 = m + (dynF fs : Nat) := stcF_next (L := L) (fun p _ m hp => stc_next p.2 m hp) m h

theorem bare_node {X : Nat → Prop} {w : World} {b : Nat} {k n : Int} (h : w.heap[b]? = some (bareNode k n)) (hx : ¬ X b) : NodeAt X w b (.mk k n [] none) :=
  .mk b k n [] none none none [] [] 0 0 (.pointer none) hx h rfl (fun _ => rfl) Lies.nil Lies.nil rfl (fun i p c hp => by simp at hp) rfl

/-- A tree with few children everywhere, whose numbers are few. -/
structure Small (L : Sorts) (t : Ut) : Prop where
  ok : okT L t
  lb : ∃ U : List Lb, U.length ≤ 100000 ∧ labT U t

theorem Small.child {L : Sorts} {k n : Int} {fs : Fl} {tl : Option Int} (h : Small L (.mk k n fs tl)) {p : Lb × Ut} (hp : p ∈ fs) : Small L p.2 := by
  obtain ⟨h1, U, h2, h3⟩ := h
  rw [okT_mk] at h1
  rw [labT_mk] at h3
  exact ⟨h1.2 p hp, U, h2, h3.2 p hp⟩

theorem Small.len {L : Sorts} {k n : Int} {fs : Fl} {tl : Option Int} (h : Small L (.mk k n fs tl)) : fs.length ≤ 100000 := by
  obtain ⟨h1, U, h2, h3⟩ := h
  rw [okT_mk] at h1
  rw [labT_mk] at h3
  have := nodup_len h1.1.1 fun l hl => (h3.1 l hl).1
  simp only [labsF, List.length_map] at this
  omega

def StPost (X : Nat → Prop) (s m : Nat) (first nx : Int) (t : Ut) (w : World) (e : Ending) (w' : World) : Prop :=
  ∃ g, e = .returned (pk g) ∧ NodeAt X w' g (stc nx t).1 ∧ w'.heap[s]? = some (solverOf first (stc nx t).2 m) ∧ Fr (fun x => x = s) w w' ∧ w.heap.size ≤ g

/-- What 'static' is asked, and what it answers. -/
def StaticAt (s m : Nat) (first : Int) (t : Ut) : Prop :=
  ∀ (X : Nat → Prop) (nx : Int) (w : World) (b : Nat), X s → (∀ k, X k → k < w.heap.size) → w.heap[s]? = some (solverOf first nx m) → NodeAt X w b t → 0 ≤ nx → nx + (dynT t : Nat) ≤ 4611686018427387904 →
    Calls Try.prog 143 #[pk s, pk b] w (StPost X s m first nx t w)

set_option maxRecDepth 100000 in
set_option maxHeartbeats 4000000 in
theorem static_dyn (X : Nat → Prop) (s m : Nat) (first nx : Int) (n : Int) (fs : Fl) (tl : Option Int) (w : World) (b : Nat) (hX : ∀ k, X k → k < w.heap.size) (hs : w.heap[s]? = some (solverOf first nx m)) (hb : NodeAt X w b (.mk 0 n fs tl)) (h0 : 0 ≤ nx) (h1 : nx + 1 ≤ 4611686018427387904) :
    Calls Try.prog 143 #[pk s, pk b] w (StPost X s m first nx (.mk 0 n fs tl) w) := by
  have c0 : w.cell? ⟨b, 0, none⟩ = some (.int .i64 0) := hb.cells.1
  have HX := Lib.hid hX
  have HS := Lib.hid hs
  clear hX hs hb
  unfold pk
  go_enter Try.func143, Try.ntmps143
  go_wp2_with fail
  have HF := Lib.hid (ufresh_any s m first nx 8 w HS.out (by omega) (by omega))
  unfold pk at HF
  refine HF.out.mono ?_
  rintro e w1 ⟨g, rfl, hg, hb1, hs1, hfr⟩
  have G := Lib.hid (And.intro hg (And.intro hb1 (And.intro hs1 hfr)))
  clear hg hb1 hs1 hfr HF c0
  go_wp2_with fail
  go_ret
  refine ⟨g, rfl, ?_, ?_, G.out.2.2.2, G.out.1⟩
  · rw [stc_mk, if_pos rfl]
    exact bare_node G.out.2.1 fun hx => by have := HX.out g hx; have := G.out.1; omega
  · rw [stc_mk, if_pos rfl]
    exact G.out.2.2.1

set_option maxRecDepth 100000 in
set_option maxHeartbeats 4000000 in
theorem static_node (L : Sorts) (s m : Nat) (first : Int) (k n : Int) (fs : Fl) (tl : Option Int) (hk0 : k ≠ 0) (ih : ∀ p ∈ fs, Small L p.2 → StaticAt s m first p.2) (hsm : Small L (.mk k n fs tl)) : StaticAt s m first (.mk k n fs tl) := by
  intro X nx w b hXs hX hs hb h0 h1
  cases hb with
  | mk _ _ _ _ _ A B ls bs ca cb tv hx hb hn hl hA hB hlen hk ht =>
  obtain ⟨ta, rfl⟩ : ∃ ta, tv = .pointer ta := by
    cases tl with
    | none => exact ⟨none, ht⟩
    | some q =>
      obtain ⟨b2, e, _⟩ := ht
      exact ⟨_, e⟩
  have HX := Lib.hid hX
  have HS := Lib.hid hs
  have hlf := hsm.len
  rw [dynT_mk, if_neg hk0] at h1
  have H1 := Lib.hid h1
  have hd : (k == 0) = false := by simpa using hk0
  have c0 : w.cell? ⟨b, 0, none⟩ = some (.int .i64 k) := by simp [World.cell?, hb]
  have c1 : w.cell? ⟨b, 1, none⟩ = some (.int .i64 n) := by simp [World.cell?, hb]
  have c2 : w.cell? ⟨b, 2, none⟩ = some (.slice A ls.length ca) := by simp [World.cell?, hb]
  have c3 : w.cell? ⟨b, 3, none⟩ = some (.slice B bs.length cb) := by simp [World.cell?, hb]
  have c4 : w.cell? ⟨b, 4, none⟩ = some (.pointer ta) := by simp [World.cell?, hb]
  have hbz : b < w.heap.size := (Array.getElem?_eq_some_iff.1 hb).1
  have HK0 := Lib.hid hk0
  have HN := Lib.hid hn
  have HL := Lib.hid hl
  have HA := Lib.hid hA
  have HB := Lib.hid hB
  have HLen := Lib.hid hlen
  have HK := Lib.hid hk
  have HT := Lib.hid ht
  have HIH := Lib.hid ih
  have HSM := Lib.hid hsm
  have hbl : bs.length ≤ 100000 := by omega
  clear hX hs hb hn hl hA hB hlen hk ht ih hsm h1 hk0 hlf
  unfold pk
  go_enter Try.func143, Try.ntmps143
  go_wp2_with fail
  go_region_held3 (fun v => v.cell? ⟨b, 0, none⟩ = some (.int .i64 k) ∧ v.cell? ⟨b, 1, none⟩ = some (.int .i64 n) ∧ v.cell? ⟨b, 2, none⟩ = some (.slice A ls.length ca) ∧ v.cell? ⟨b, 4, none⟩ = some (.pointer ta)) (go_keep) (fail)
  rename_i hh
  clear hh
  go_wp2_with fail
  clear c0 c1 c2 c3 c4
  go_loopw [38] (fun s38 wr => ∃ (i : Nat) (B2 : Option Addr) (cb2 : Nat) (gs : List Nat), s38 = .int .i64 i ∧ i ≤ bs.length ∧ Hid (NodeK w.heap.size w.heap.size k n (.slice A ls.length ca) B2 cb2 gs (.pointer ta) wr ∧ gs.length = i ∧
      (∀ (j : Nat) (c : Nat) (p : Lb × Ut), gs[j]? = some c → (stcF nx fs).1[j]? = some p → NodeAt (KidX X w.heap.size none B2) wr c p.2) ∧ wr.heap[s]? = some (solverOf first (stcF nx (fs.take i)).2 m) ∧ Fr (fun x => x = s) w wr)) (fun s38 _ => bs.length - (intOf s38).toNat)
  case atStart =>
    have hf : Fr (fun x => x = s) w (w.alloc (.cells #[.int .i64 k, .int .i64 n, .slice A ls.length ca, .slice none 0 0, .pointer ta] 105)).drew := (((Fr.refl _ w).alloc _).drewN 1)
    refine ⟨0, none, 0, [], rfl, Nat.zero_le _, Lib.hid ⟨⟨Nat.le_refl _, heap_alloc_new w _, OwnL.nil, fun _ e => by cases e⟩, rfl, fun j c p hj => by simp at hj, ?_, hf⟩⟩
    rw [List.take_zero, stcF_nil]
    have hlt : s < w.heap.size := HX.out s hXs
    exact (Below.heap_alloc w _ s hlt).trans HS.out
  case round =>
    obtain ⟨i, B2, cb2, gs, rfl, hi, M⟩ := hrel
    by_cases hp : i < bs.length
    · obtain ⟨c, hc⟩ := getq_ex hp
      obtain ⟨p, hpq⟩ := getq_ex (l := fs) (i := i) (by have := HLen.out; omega)
      have Hc := Lib.hid (And.intro hc hpq)
      obtain ⟨bb, oo, rfl, hbX, hbz2, hrd⟩ := HB.out (fun e => by rw [e] at hp; simp at hp)
      have cc0 : w.cell? ⟨bb, oo + i, none⟩ = some (.pointer (some ⟨c, 0, none⟩)) := by
        have := hrd i c hc 0 _ rfl
        simpa [pk] using this
      have hne : bb ≠ s := fun e => hbX (e ▸ hXs)
      have cc : wr.cell? ⟨bb, oo + i, none⟩ = some (.pointer (some ⟨c, 0, none⟩)) := (World.cell?_of_block (w := w) (M.out.2.2.2.2.block bb hbz2 hne)).trans cc0
      have hgl : gs.length ≤ 100000 := by have := M.out.2.1; omega
      obtain ⟨_, _, _, g3, _, _, f3, _⟩ := M.out.1.cells
      have hnx := Lib.hid (stcF_nth hpq nx)
      have hnx2 := Lib.hid (stcF_next2 (L := L) (fs := fs.take i) (fun q hq => by have := HSM.out.ok; rw [okT_mk] at this; exact this.2 q (List.mem_of_mem_take hq)) nx)
      have hdt := Lib.hid (dyn_take hpq)
      have hdl := Lib.hid (dyn_take_le fs (i + 1))
      have hcall : Hid (∀ W, Below wr.heap.size wr W → Calls Try.prog 143 #[pk s, pk c] W (StPost (KidX X w.heap.size none B2) s m first (stcF nx (fs.take i)).2 p.2 wr)) := Lib.hid fun W hW => by
        have hfw := M.out.2.2.2.2.trans (Fr.below (X := fun x => x = s) hW)
        have hXw : ∀ k, KidX X w.heap.size none B2 k → k < W.heap.size := fun k hk => by
          have h6 := hfw.size
          have h7 := hW.size
          rcases M.out.1.kx hk with hk | hk
          · have := HX.out k hk; omega
          · omega
        have hsW : W.heap[s]? = some (solverOf first (stcF nx (fs.take i)).2 m) := (hW.block s (Array.getElem?_eq_some_iff.1 M.out.2.2.2.1).1).trans M.out.2.2.2.1
        have hcW : NodeAt (KidX X w.heap.size none B2) W c p.2 := ((HK.out i p c hpq hc).more fun k hk hx => by
          rcases M.out.1.kx hx with hx | hx
          · exact hx
          · omega).fr hfw fun k _ e => .inl (e ▸ hXs)
        have h0' : 0 ≤ (stcF nx (fs.take i)).2 := by have := hnx2.out; omega
        have h1' : (stcF nx (fs.take i)).2 + (dynT p.2 : Nat) ≤ 4611686018427387904 := by have := hnx2.out; have := hdt.out; have := hdl.out; have := H1.out; omega
        refine (HIH.out p (List.mem_of_getElem? hpq) (HSM.out.child (List.mem_of_getElem? hpq)) _ _ W c (.inl hXs) hXw hsW hcW h0' h1').mono ?_
        rintro e w' ⟨g, he, h2, h3, h4, h5⟩
        exact ⟨g, he, h2, h3, (Fr.below hW).trans h4, by have := hW.size; omega⟩
      unfold pk at hcall
      clear hc hpq cc0 hbz2 hrd hbX
      have HY : Hid (∀ b, (fun x => x = s) b → b < w.heap.size) := Lib.hid (by rintro _ rfl; exact HX.out _ hXs)
      have hwl : w.heap.size < wr.heap.size := (Array.getElem?_eq_some_iff.1 M.out.1.blk).1
      go_wp2_with fail
      have hg8 : gs.length = i := M.out.2.1
      have HG8 := Lib.hid hg8
      clear hg8
      go_region_law
        (first
          | (refine step_appB (by rfl) _ _ (by rfl) w.heap.size (l := gs) (by rfl) (M1.out.step (Fr.below (X := fun _ => False) (by first | exact (ext_alloc (Below.refl _ _) _).drew | exact ext_alloc (Below.refl _ _).drew _ | exact ext_alloc (Below.refl _ _) _)) (fun _ e => e.elim)).kb (l2 := [g']) (A2 := some ⟨w1.heap.size, 0, none⟩) (c := 1) (B := w1.heap.size + 1) (by rfl) (readL_new _ g' _ _ rfl) (by simp; omega) (by simp; have := Q1.out.2.2.1.size; omega) ?_; intro B3 cb3 w2 hown2 hg2 hA2; have M7 := Lib.hid ((M1.out.step (Fr.below (X := fun _ => False) (by first | exact (ext_alloc (Below.refl _ _) _).drew | exact ext_alloc (Below.refl _ _).drew _ | exact ext_alloc (Below.refl _ _) _)) (fun _ e => e.elim)).push hown2 hg2 hA2); have e7 := (M1.out.step (Fr.below (X := fun _ => False) (by first | exact (ext_alloc (Below.refl _ _) _).drew | exact ext_alloc (Below.refl _ _).drew _ | exact ext_alloc (Below.refl _ _) _)) (fun _ e => e.elim)).kid hg2; have e8 := e7.trans (Below.block (B := w1.heap.size) (w := w1) (by first | exact (ext_alloc (Below.refl _ _) _).drew | exact ext_alloc (Below.refl _ _).drew _ | exact ext_alloc (Below.refl _ _) _) w.heap.size (Nat.lt_of_lt_of_le hwl Q1.out.2.2.1.size)); have q5 := (World.cell?_of_block (a := ⟨w.heap.size, 3, none⟩) e8).trans g31; have q6 := (World.frozen?_of_block (a := ⟨w.heap.size, 3, none⟩) e8).trans f31; have KD := Lib.hid (fun (c : Nat) (t : Ut) (h : NodeAt (KidX X w.heap.size none B2) w1 c t) => kidX_B (o := 3) (h.bel (by first | exact (ext_alloc (Below.refl _ _) _).drew | exact ext_alloc (Below.refl _ _).drew _ | exact ext_alloc (Below.refl _ _) _)) hg2 hA2 (.slice B3 (gs.length + 1) cb3)); have F3 := Lib.hid (((Fr.below (X := fun x => w.heap.size ≤ x) (w := w1) (by first | exact (ext_alloc (Below.refl _ _) _).drew | exact ext_alloc (Below.refl _ _).drew _ | exact ext_alloc (Below.refl _ _) _)).trans (Fr.grown hg2 (fun q hq => (M1.out.kb.block q hq).1))).setCell (p := ⟨w.heap.size, 3, none⟩) (.inl (Nat.le_refl _)) (.slice B3 (gs.length + 1) cb3)); clear hown2 hg2 hA2 e7 e8)
          | (go_simp; (with_reducible refine (hcall.out _ ?_).mono ?_); (first | exact Below.refl _ _ | exact (Below.refl _ _).drew); rintro e w1 ⟨g', rfl, Q⟩; have Q1 := Lib.hid Q; have M1 := Lib.hid (M.out.1.step Q.2.2.1 HY.out); obtain ⟨_, _, _, g31, _, _, f31, _⟩ := M1.out.cells; have hwl1 : w.heap.size < w1.heap.size := Nat.lt_of_lt_of_le hwl Q.2.2.1.size; clear Q; unfold pk; dsimp only))
      all_goals
        go_wp2_with fail
        go_roundw
        case rel =>
          refine ⟨i + 1, B3, cb3, gs ++ [g'], by go_num, hp, Lib.hid ⟨M7.out, by simp; exact HG8.out, ?_, ?_, ?_⟩⟩
          · intro j c' p' h1 h2
            refine KD.out c' p'.2 ?_
            rcases Nat.lt_or_ge j gs.length with hj | hj
            · rw [List.getElem?_append_left hj] at h1
              exact (M.out.2.2.1 j c' p' h1 h2).fr Q1.out.2.2.1 fun k _ e => .inl (e ▸ hXs)
            · have hj2 : j = gs.length := by
                have := getq_lt h1
                simp at this
                omega
              subst hj2
              rw [List.getElem?_append_right (Nat.le_refl _), Nat.sub_self] at h1
              simp only [List.getElem?_cons_zero, Option.some.injEq] at h1
              subst h1
              rw [HG8.out, hnx.out.1] at h2
              injection h2 with h2
              subst h2
              exact Q1.out.1
          · rw [hnx.out.2]
            have hsl : s < w.heap.size := HX.out s hXs
            have hsl1 : s < w1.heap.size := by have := Q1.out.2.2.1.size; omega
            exact (F3.out.block s hsl1 (fun e => by have e : w.heap.size ≤ s := e; omega)).trans Q1.out.2.1
          · exact (M.out.2.2.2.2.trans Q1.out.2.2.1).new F3.out fun b e => .inr e
        case measure => simp [intOf]; omega
    · go_wp2_with fail
      go_ret
      have hbe : i = bs.length := by omega
      have hie : fs.take i = fs := List.take_of_length_le (by have := HLen.out; omega)
      have hg8 : gs.length = i := M.out.2.1
      have hsl : (stcF nx fs).1.length = fs.length := stcF_len fs nx
      refine ⟨w.heap.size, rfl, ?_, ?_, M.out.2.2.2.2, Nat.le_refl _⟩
      · rw [stc_mk, if_neg HK0.out]
        have hq : ∀ q, w.heap.size ≤ q → q < wr.heap.size → ¬ X q := fun q hq _ hx => by have := HX.out q hx; omega
        refine .mk _ k n _ tl A B2 ls gs ca cb2 (.pointer ta) (hq _ (Nat.le_refl _) (Array.getElem?_eq_some_iff.1 M.out.1.blk).1) M.out.1.blk (by have := HN.out; omega) (fun hr => by rw [HL.out hr, stcF_labs]) ?_ (Lies.of_own encB_len M.out.1.kb hq) (by have := HLen.out; omega) (fun j p' c' h1 h2 => kidX_sub (M.out.2.2.1 j c' p' h2 h1)) ?_
        · exact HA.out.fr M.out.2.2.2.2 fun k _ e => e ▸ hXs
        · exact HT.out.fr M.out.2.2.2.2 fun k _ e => e ▸ hXs
      · have := M.out.2.2.2.1
        rw [hie] at this
        rw [stc_mk, if_neg HK0.out]
        exact this

theorem static_any (L : Sorts) (s m : Nat) (first : Int) : ∀ t, Small L t → StaticAt s m first t :=
  Ut.ind fun k n fs tl ih hsm => by
    by_cases hk : k = 0
    · subst hk
      intro X nx w b _ hX hs hb h0 h1
      exact static_dyn X s m first nx n fs tl w b hX hs hb h0 (by rw [dynT_mk] at h1; simp at h1; omega)
    · exact static_node L s m first k n fs tl hk ih hsm
end Go.Proofs.Ytblfeokjlecgkaa
