/- Laid together by a tool from the texts of this seat: SrC SrD SrE SrF SrG. Conditions: each theorem's own. -/
import Derived.Test.YtmjdhfbnmmdjiaaDoorS03
/- The asker, and what it knows; ask. -/
namespace Go.Proofs.YtmjdhfbnmmdjiaaDoor
open Go.RowKit

attribute [local go_sem ↓] Go.wp_at_zero Go.wp_at_succ

section
variable {w w' : World} {mb : Nat} {l : List (ByteArray × Value)}
/-- A cell is in no map's block. -/
theorem cell_map {p : Addr} {v : Value} (h : w.cell? p = some v) (hm : KMap sk w mb l) (hf : Fr (fun k => k = mb) w w') : w'.cell? p = some v := by
  have hp : p.block ≠ mb := fun e => by
    obtain ⟨es, clock, hb, _⟩ := hm
    unfold World.cell? at h
    rw [e, hb] at h
    simp at h
  have hlt : p.block < w.heap.size := World.block_lt_of_cell? w _ h
  exact (World.cell?_of_block (a := p) (hf.block p.block hlt hp)).trans h
theorem ReadL.map {α : Type} {size B : Nat} {enc : α → List Value} {A : Option Addr} {xs : List α} (h : ReadL size enc w B A xs) (hm : KMap sk w mb l) (hf : Fr (fun k => k = mb) w w') : ReadL size enc w' B A xs := fun hne => by
  obtain ⟨b, o, e, hb, hc⟩ := h hne
  exact ⟨b, o, e, hb, fun i x hx j u hu => cell_map (hc i x hx j u hu) hm hf⟩
theorem SetAt.map {B : Nat} {v : Option Addr × Nat × Nat} {xs : List Int} (h : SetAt w B v xs) (hm : KMap sk w mb l) (hf : Fr (fun k => k = mb) w w') : SetAt w' B v xs := ⟨h.n, h.c, ReadL.map h.r hm hf⟩
theorem SetsAt.map {B : Nat} {vs : List (Option Addr × Nat × Nat)} {xss : List (List Int)} (h : SetsAt w B vs xss) (hm : KMap sk w mb l) (hf : Fr (fun k => k = mb) w w') : SetsAt w' B vs xss := ⟨h.1, fun i v xs h1 h2 => (h.2 i v xs h1 h2).map hm hf⟩
theorem OwnL.map {α : Type} {e size base cap : Nat} {enc : α → List Value} {A : Option Addr} {xs : List α} (h : OwnL e size enc w base A cap xs) (hm : KMap sk w mb l) (hf : Fr (fun k => k = mb) w w') : OwnL e size enc w' base A cap xs := by
  cases A with
  | none =>
    rcases h.2 with ⟨hv, hn⟩ | ⟨g, cap', cur, hv, _⟩
    · have hl : xs = [] := List.eq_nil_of_length_eq_zero hn
      subst hl
      injection hv with _ _ hc
      subst hc
      exact OwnL.nil
    · cases hv
  | some a =>
    rcases h.2 with ⟨hv, hn⟩ | ⟨g, cap', cur, hv, hbg, hg, hr⟩
    · cases hv
    · have hlt : g < w.heap.size := (Array.getElem?_eq_some_iff.1 hg).1
      refine ⟨h.1, .inr ⟨g, cap', cur, hv, hbg, (hf.block g hlt fun e => ?_).trans hg, hr⟩⟩
      obtain ⟨es, clock, hb, _⟩ := hm
      rw [e, hb] at hg
      cases hg
theorem RowsAt.map {base cap : Nat} {A : Option Addr} {us : List (Option Addr × Nat × Nat)} {xss : List (List Int)} (h : RowsAt w base A cap us xss) (hm : KMap sk w mb l) (hf : Fr (fun k => k = mb) w w') : RowsAt w' base A cap us xss :=
  ⟨OwnL.map h.own hm hf, (h.sets.map hm hf).more hf.size, h.off, fun u hu a ha => Nat.lt_of_lt_of_le (h.low u hu a ha) hf.size⟩
theorem BoxS.map {b n c : Nat} {A : Option Addr} (h : BoxS w b A n c) (hm : KMap sk w mb l) (hf : Fr (fun k => k = mb) w w') : BoxS w' b A n c := ⟨cell_map h.1 hm hf, Nat.lt_of_lt_of_le h.2 hf.size⟩
theorem FitsAt.map {B bb : Nat} {bads : List (List Int)} (h : FitsAt w B bb bads) (hm : KMap sk w mb l) (hf : Fr (fun k => k = mb) w w') : FitsAt w' B bb bads := by
  obtain ⟨A, c, vs, h1, h2, h3, h4, h5, h6⟩ := h
  exact ⟨A, c, vs, cell_map h1 hm hf, h2, Nat.le_trans h3 hf.size, ReadL.map h4 hm hf, h5.map hm hf, h6⟩
theorem KMap.later (h : KMap sk w mb l) (hb : Below w.heap.size w w') : KMap sk w' mb l := by
  obtain ⟨es, clock, h1, h2⟩ := h
  exact ⟨es, clock, (hb.block mb (Array.getElem?_eq_some_iff.1 h1).1).trans h1, h2⟩
end

/-- The asker's cells. -/
abbrev askCells (n : Int) (bb mb : Nat) (A : Option Addr) (k c : Nat) : Obj := .cells #[.int .i64 n, .int .i64 (-1), .func (.func 11) #[] #[.pointer (some ⟨bb, 0, none⟩)], .map (some mb), .slice A k c] 39 (0, 0)
/-- What is known is so. -/
def Knows (D : List Int → Prop) (bads : List (List Int)) (l : List (ByteArray × Value)) : Prop := ∀ s, D s → atL (keyB s) l = none ∨ atL (keyB s) l = some (.bool (fitsB bads s))
/-- The asker. -/
structure AskAt (D : List Int → Prop) (bads : List (List Int)) (n : Int) (ab mb bb B0 B1 : Nat) (A : Option Addr) (k c : Nat) (w : World) : Prop where
  abl : ab < B0
  mbl : mb < B0
  ab1 : B1 ≤ ab
  mb1 : B1 ≤ mb
  bw : B0 ≤ w.heap.size
  ne : ab ≠ mb
  tab1 : ¬ 0 = ab
  blk : w.heap[ab]? = some (askCells n bb mb A k c)
  known : ∃ l, KMap sk w mb l ∧ Knows D bads l
  fits : FitsAt w B1 bb bads
  tab : 0 < mb ∧ Lib.TabIs Tryd.prog w "internal/strconv.uint64pow10" .u64 Lib.pow10Tab
section
variable {D : List Int → Prop} {bads : List (List Int)} {n : Int} {ab mb bb B0 B1 k c : Nat} {A : Option Addr} {w w' : World}
theorem AskAt.lt (h : AskAt D bads n ab mb bb B0 B1 A k c w) : ab < w.heap.size := (Array.getElem?_eq_some_iff.1 h.blk).1
theorem AskAt.at_ (h : AskAt D bads n ab mb bb B0 B1 A k c w) : w.cell? ⟨ab, 0, none⟩ = some (.int .i64 n) ∧ w.cell? ⟨ab, 1, none⟩ = some (.int .i64 (-1)) ∧ w.cell? ⟨ab, 2, none⟩ = some (.func (.func 11) #[] #[.pointer (some ⟨bb, 0, none⟩)]) ∧ w.cell? ⟨ab, 3, none⟩ = some (.map (some mb)) ∧ w.cell? ⟨ab, 4, none⟩ = some (.slice A k c) := by
  have h1 := h.blk
  unfold askCells at h1
  exact ⟨by simp [World.cell?, h1], by simp [World.cell?, h1], by simp [World.cell?, h1], by simp [World.cell?, h1], by simp [World.cell?, h1]⟩
theorem AskAt.tabW (h : AskAt D bads n ab mb bb B0 B1 A k c w) : Tab w w.heap.size := by
  obtain ⟨l, hm, _⟩ := h.known
  exact ⟨Nat.lt_trans h.tab.1 hm.lt, h.tab.2⟩
theorem AskAt.later (h : AskAt D bads n ab mb bb B0 B1 A k c w) (hb : Below w.heap.size w w') : AskAt D bads n ab mb bb B0 B1 A k c w' := by
  obtain ⟨l, hm, hk⟩ := h.known
  exact ⟨h.abl, h.mbl, h.ab1, h.mb1, Nat.le_trans h.bw hb.size, h.ne, h.tab1, (hb.block ab h.lt).trans h.blk, ⟨l, hm.later hb, hk⟩, h.fits.later hb, h.tab.1, (h.tabW.below hb).2⟩
theorem AskAt.b10 (h : AskAt D bads n ab mb bb B0 B1 A k c w) : B1 ≤ B0 := Nat.le_trans h.ab1 (Nat.le_of_lt h.abl)
/-- What is written lies above. -/
theorem AskAt.low (h : AskAt D bads n ab mb bb B0 B1 A k c w) (hb : Below B0 w w') : AskAt D bads n ab mb bb B0 B1 A k c w' := by
  obtain ⟨l, ⟨es, clock, h1, h2⟩, hk⟩ := h.known
  exact ⟨h.abl, h.mbl, h.ab1, h.mb1, Nat.le_trans h.bw hb.size, h.ne, h.tab1, (hb.block ab h.abl).trans h.blk, ⟨l, ⟨es, clock, (hb.block mb h.mbl).trans h1, h2⟩, hk⟩, h.fits.low (hb.mono h.b10), h.tab.1, (Tab.below (B := mb) ⟨h.tab.1, h.tab.2⟩ (hb.mono (Nat.le_of_lt h.mbl))).2⟩
/-- The map has grown. -/
theorem AskAt.grow {l : List (ByteArray × Value)} (h : AskAt D bads n ab mb bb B0 B1 A k c w) (hg : w.grownBy w' (some mb)) (hm' : KMap sk w' mb l) (hk : Knows D bads l) : AskAt D bads n ab mb bb B0 B1 A k c w' ∧ Fr (fun k => k = mb) w w' := by
  have hf : Fr (fun k => k = mb) w w' := Fr.grown hg fun k hk => (Option.some.inj hk).symm
  obtain ⟨l0, hm, _⟩ := h.known
  refine ⟨⟨h.abl, h.mbl, h.ab1, h.mb1, Nat.le_trans h.bw hf.size, h.ne, h.tab1, (hf.block ab h.lt fun e => ?_).trans h.blk, ⟨l, hm', hk⟩, h.fits.map hm hf, h.tab.1, ?_⟩, hf⟩
  · obtain ⟨es, clock, hb, _⟩ := hm
    have h1 := h.blk
    rw [e, hb] at h1
    cases h1
  · have hb : Below mb w w' := ⟨hf.os, hf.tape, hf.output, hf.size, fun k hk => hf.block k (Nat.lt_trans hk hm.lt) (by omega)⟩
    exact (Tab.below (B := mb) ⟨h.tab.1, h.tab.2⟩ hb).2
/-- Other sets are known to be bad. -/
theorem AskAt.setBad (h : AskAt D bads n ab mb bb B0 B1 A k c w) (A' : Option Addr) (k' c' : Nat) : AskAt D bads n ab mb bb B0 B1 A' k' c' (w.setCell ⟨ab, 4, none⟩ (.slice A' k' c')) := by
  have hf : Fr (fun j => j = ab) w (w.setCell ⟨ab, 4, none⟩ (.slice A' k' c')) := Fr.setCell (X := fun j => j = ab) (Fr.refl _ _) (.inl rfl) _
  obtain ⟨l, hm, hk⟩ := h.known
  obtain ⟨es, clock, h1, h2⟩ := hm
  have hb1 : Below B1 w (w.setCell ⟨ab, 4, none⟩ (.slice A' k' c')) := (Below.refl _ _).setCell (p := ⟨ab, 4, none⟩) h.ab1 _
  have hml : mb < w.heap.size := Nat.lt_of_lt_of_le h.mbl h.bw
  refine ⟨h.abl, h.mbl, h.ab1, h.mb1, Nat.le_trans h.bw hf.size, h.ne, h.tab1, heap_set h.blk 4 _, ⟨l, ⟨es, clock, (hf.block mb hml fun e => h.ne e.symm).trans h1, h2⟩, hk⟩, h.fits.low hb1, h.tab.1, ?_⟩
  have h3 := h.tab.2
  unfold Lib.TabIs at h3 ⊢
  rw [← h3]
  unfold World.var?
  rw [gTab]
  simp only [Option.bind_some]
  have := hf.block 0 (Nat.lt_trans h.tab.1 hml) h.tab1
  simp only [this]
end
theorem knows_put {D : List Int → Prop} {bads : List (List Int)} {l : List (ByteArray × Value)} {s : List Int} (hinj : ∀ t, D t → keyB t = keyB s → t = s) (h : Knows D bads l) : Knows D bads (putL (keyB s) (.bool (fitsB bads s)) l) := fun t ht => by
  rw [atL_put]
  by_cases e : keyB t = keyB s
  · rw [if_pos e, hinj t ht e]
    exact .inr rfl
  · rw [if_neg e]
    exact h t ht

/-- What asking leaves. -/
def AskPost (D : List Int → Prop) (bads : List (List Int)) (n : Int) (ab mb bb B0 B1 : Nat) (A : Option Addr) (k c : Nat) (s : List Int) (w : World) (e : Ending) (w' : World) : Prop := e = .returned (.bool (fitsB bads s)) ∧ AskAt D bads n ab mb bb B0 B1 A k c w' ∧ Fr (fun k => k = mb) w w'

def AskPost2 (D : List Int → Prop) (bads : List (List Int)) (n : Int) (ab mb bb B0 B1 : Nat) (A : Option Addr) (k c : Nat) (s : List Int) (w : World) (e : Ending) (w' : World) : Prop := e = .returned (.bool (fitsB bads s)) ∧ AskAt D bads n ab mb bb B0 B1 A k c w' ∧ Fr (fun k => k = mb) w w' ∧ ∃ l, KMap sk w' mb l ∧ atL (keyB s) l = some (.bool (fitsB bads s))

set_option maxRecDepth 100000 in
set_option maxHeartbeats 8000000 in
theorem ask2_any (D : List Int → Prop) (bads : List (List Int)) (n : Int) (ab mb bb B0 B1 : Nat) (A : Option Addr) (k c : Nat) (v : Option Addr × Nat × Nat) (s : List Int) (w : World) (h : AskAt D bads n ab mb bb B0 B1 A k c w) (hv : SetAt w w.heap.size v s) (hD : D s) (hl : s.length ≤ 1000) (hs : Sml s) (hinj : ∀ t, D t → keyB t = keyB s → t = s) :
    Calls Tryd.prog 23 #[.pointer (some ⟨ab, 0, none⟩), .slice v.1 v.2.1 v.2.2] w (AskPost2 D bads n ab mb bb B0 B1 A k c s w) := by
  have Hk := Lib.hid (key_any v.1 v.2.2 s w hv.r hl hs h.tabW)
  have H := Lib.hid (And.intro h (And.intro hv (And.intro hD (And.intro hl hinj))))
  rw [hv.n]
  clear h hv hD hl hs hinj
  go_enter Tryd.func23, Tryd.ntmps23
  go_wp2_with fail
  refine Hk.out.mono ?_
  rintro e w1 ⟨rfl, hb1⟩
  have h1 := H.out.1.later hb1
  obtain ⟨l, hm, hkn⟩ := h1.known
  have H1 := Lib.hid h1
  have HM := Lib.hid (And.intro hm hkn)
  have HB1 := Lib.hid hb1
  obtain ⟨ky, hky⟩ : ∃ ky, ky = keyB s := ⟨_, rfl⟩
  rw [← hky]
  have hlook : ∀ ok, (Instr.lookup 37 (.map (some mb)) (.string ky) ok).run Tryd.prog w1 = .ok (if ok then .tuple #[(atL ky l).getD (.bool false), .bool (atL ky l).isSome] else (atL ky l).getD (.bool false)) w1 := fun ok =>
    hm.lookup (keyer_str Tryd.underlying9 ky l) Tryd.underlying37 (.bool false) (by kernel_rfl) ok
  have hl1 := hlook true
  rw [if_pos rfl] at hl1
  have HKY := Lib.hid hky
  obtain ⟨k0, k1, k2, k3, k4⟩ := h1.at_
  rcases hkn s H.out.2.2.1 with ha | ha
  · rw [← hky] at ha
    rw [ha] at hl1
    simp only [Option.getD_none, Option.isSome_none] at hl1
    clear hlook hm hkn hb1 h1 ha hky
    go_wp2_with fail
    obtain ⟨wd, hwd⟩ : ∃ wd, wd = w1.drew := ⟨_, rfl⟩
    have HD1 : Hid (Below w.heap.size w wd) := Lib.hid (by rw [hwd]; exact HB1.out.drew)
    have HA1 : Hid (AskAt D bads n ab mb bb B0 B1 A k c wd) := Lib.hid (H.out.1.later HD1.out)
    obtain ⟨SS, hSS⟩ : ∃ SS : World → Prop, SS = fun v => v.cell? ⟨ab, 2, none⟩ = some (.func (.func 11) #[] #[.pointer (some ⟨bb, 0, none⟩)]) ∧ v.cell? ⟨ab, 3, none⟩ = some (.map (some mb)) := ⟨_, rfl⟩
    have HSof : Hid (∀ v, AskAt D bads n ab mb bb B0 B1 A k c v → SS v) := Lib.hid fun v hv => by
      rw [hSS]
      exact ⟨hv.at_.2.2.1, hv.at_.2.2.2.1⟩
    have hs0 : SS wd := HSof.out _ HA1.out
    have Hcl := Lib.hid (cloneI_any v.1 v.2.2 s wd (ReadL.more (ReadL.below H.out.2.1.r HD1.out) HD1.out.size) (by have := H.out.2.2.2.1; omega))
    clear k0 k1 k2 k3 k4 hl1
    refine wp_region_L_drew (S := SS) [12] (by kernel_rfl) (by rw [← hwd]; exact hs0) (fun hHeld => ?_)
    rw [← hwd] at hHeld ⊢
    clear hwd
    refine onA 0 [1, 2, 3, 12] (some 40) rfl rfl ?_
    refine onA 1 [2, 3, 12] (some 41) rfl rfl ?_
    refine onA 2 [3, 12] (some 42) rfl rfl ?_
    refine onA 3 [12] (some 43) rfl rfl ?_
    refine onA 4 [12] (some 44) rfl rfl ?_
    refine onA 5 [6, 7, 8, 11, 12] (some 45) rfl rfl ?_
    refine onA 6 [7, 8, 11, 12] (some 46) rfl rfl ?_
    refine onA 7 [8, 11, 12] (some 47) rfl rfl ?_
    refine onA 8 [11, 12] (some 48) rfl rfl ?_
    refine onA 9 [10, 11, 12] (some 49) rfl rfl ?_
    refine callL 10 (some 50) rfl rfl (by kernel_rfl) (by rfl) (by go_simp) Hcl.out ?_
    rintro e w2 ⟨V, cv, rfl, hown2, hb2⟩
    have HA2 := Lib.hid (HA1.out.later hb2)
    have HB2 := Lib.hid (HD1.out.trans (hb2.mono HD1.out.size))
    have SS2 := HSof.out _ HA2.out
    have Hf := Lib.hid (max1_any (V, s.length, cv) s bb bads w2 (OwnI.set hown2) HA2.out.fits (by have := H.out.2.2.2.1; omega))
    clear hown2 hb2 Hcl
    refine ⟨_, rfl, SS2, ?_⟩
    refine putA ?_
    refine callL 11 (some 51) rfl rfl (by kernel_rfl) (by rfl) (by go_simp) Hf.out ?_
    rintro e w3 ⟨rfl, hb3⟩
    have HA3 := Lib.hid (HA2.out.later hb3)
    have HB3 := Lib.hid (ext_trans HB2.out hb3)
    have SS3 := HSof.out _ HA3.out
    clear hb3 Hf
    refine ⟨_, rfl, SS3, ?_⟩
    refine putA ?_
    obtain ⟨l3, hm3, hk3⟩ := HA3.out.known
    obtain ⟨w4, hrun, hm4, hg4⟩ := hm3.update (keyer_str Tryd.underlying9 ky l3) Tryd.underlying37 (.bool (fitsB bads s))
    have hrun : (Instr.mapUpdate 37 (.map (some mb)) (.string ky) (.bool (fitsB bads s))).run Tryd.prog w3 = .ok () w4 := hrun
    have hkn4 : Knows D bads (putL ky (.bool (fitsB bads s)) l3) := by
      rw [HKY.out]
      exact knows_put H.out.2.2.2.2 hk3
    obtain ⟨hA4, hF4⟩ := HA3.out.grow hg4 hm4 hkn4
    have hl4 : (Instr.lookup 37 (.map (some mb)) (.string ky) false).run Tryd.prog w4 = .ok (.bool (fitsB bads s)) w4 := by
      have h := hm4.lookup (keyer_str Tryd.underlying9 ky _) Tryd.underlying37 (.bool false) (by kernel_rfl) false
      rw [if_neg (by decide), atL_put, if_pos rfl] at h
      exact h
    have HF := Lib.hid (And.intro hA4 ((Fr.below (X := fun k => k = mb) HB3.out).trans hF4))
    have HK4 : Hid (∃ l, KMap sk w4 mb l ∧ atL (keyB s) l = some (.bool (fitsB bads s))) := Lib.hid ⟨_, hm4, by rw [← HKY.out, atL_put, if_pos rfl]⟩
    have k3 := hA4.at_.2.2.2.1
    clear hm3 hk3 hm4 hg4 hkn4 hA4 hF4
    refine skipL 12 none (w' := w4) rfl rfl (by kernel_rfl) (by rfl) (by go_simp) (zL (by kernel_rfl)) ?_
    refine putA ?_
    refine doneL (by kernel_rfl) ?_ _
    clear hrun
    go_wp2_with fail
    go_ret
    exact ⟨rfl, HF.out.1, HF.out.2, HK4.out⟩
  · rw [← hky] at ha
    rw [ha] at hl1
    simp only [Option.getD_some, Option.isSome_some] at hl1
    have HK4 : Hid (∃ l, KMap sk w1 mb l ∧ atL (keyB s) l = some (.bool (fitsB bads s))) := Lib.hid ⟨_, hm, by rw [← hky]; exact ha⟩
    clear hlook hm hkn hb1 h1 ha hky
    go_wp2_with fail
    go_ret
    exact ⟨rfl, H1.out, Fr.below HB1.out, HK4.out⟩
theorem ask_any (D : List Int → Prop) (bads : List (List Int)) (n : Int) (ab mb bb B0 B1 : Nat) (A : Option Addr) (k c : Nat) (v : Option Addr × Nat × Nat) (s : List Int) (w : World) (h : AskAt D bads n ab mb bb B0 B1 A k c w) (hv : SetAt w w.heap.size v s) (hD : D s) (hl : s.length ≤ 1000) (hs : Sml s) (hinj : ∀ t, D t → keyB t = keyB s → t = s) :
    Calls Tryd.prog 23 #[.pointer (some ⟨ab, 0, none⟩), .slice v.1 v.2.1 v.2.2] w (AskPost D bads n ab mb bb B0 B1 A k c s w) := (ask2_any D bads n ab mb bb B0 B1 A k c v s w h hv hD hl hs hinj).mono fun _ _ h => ⟨h.1, h.2.1, h.2.2.1⟩
end Go.Proofs.YtmjdhfbnmmdjiaaDoor

/- Sets made less; shrunk. -/
namespace Go.Proofs.YtmjdhfbnmmdjiaaDoor
open Go.RowKit

attribute [local go_sem ↓] Go.wp_at_zero Go.wp_at_succ

/-- The library's Delete of one number, in a row that the call owns. -/
theorem delI_any (g cap base i : Nat) (t : List Int) (w : World) (hown : OwnI w base (some ⟨g, 0, none⟩) cap t) (hi : i < t.length) (hl : t.length ≤ 1000000) :
    Calls Tryd.prog 40 #[.slice (some ⟨g, 0, none⟩) t.length cap, .int .i64 i, .int .i64 ((i : Int) + 1)] w fun e w' => e = .returned (.slice (some ⟨g, 0, none⟩) (t.eraseIdx i).length cap) ∧ SetAt w' w'.heap.size (some ⟨g, 0, none⟩, (t.eraseIdx i).length, cap) (t.eraseIdx i) ∧ w.grownBy w' (some g) := by
  have hset := OwnI.set hown
  have hgl := (OwnL.block hown g rfl).2
  have hH : Go.Sort.Holds (Value.int .i64) w g 0 t.toArray := fun j hj => by
    have hj2 : j < t.length := by simpa using hj
    obtain ⟨_, hc⟩ := ReadI.cells hset.r (by rintro rfl; simp at hi)
    refine ⟨?_, by rw [Nat.zero_add]; exact World.ownsRow.frozenAt hown j⟩
    rw [hc j hj2, getElem!_pos t.toArray j hj]
    simp [List.getD_eq_getElem?_getD, List.getElem?_eq_getElem hj2]
  have hcm : cap ≤ 9223372036854775807 := by
    rcases hown.2 with ⟨hv, hn⟩ | ⟨g', cap', cur, hv, _, _, _, hcm, _⟩
    · cases hv
    · injection hv with _ _ hc
      subst hc
      unfold maxLen at hcm
      omega
  have hcall := Tryd.slices_Delete_int g 0 cap i (i + 1) t w hH hset.c hcm (Nat.le_succ _) hi
  rw [show ((i + 1 : Nat) : Int) = (i : Int) + 1 by omega] at hcall
  refine hcall.mono ?_
  rintro e w' ⟨rfl, q, hw'⟩
  have hle : (t.eraseIdx i).length = t.length - 1 := List.length_eraseIdx_of_lt hi
  have hgr : w.grownBy w' (some g) := by
    rw [hw', ← Go.Sort.grow_empty (Go.Sort.putRow (Value.int .i64) (Go.Sort.ahead w q) g 0 _)]
    exact sortWorld_grown _ _ _ _ _ _
  refine ⟨by rw [hle, show i + 1 - i = 1 by omega], ⟨rfl, ?_, fun hne => ⟨g, 0, rfl, Nat.lt_of_lt_of_le hgl hgr.size, fun j x hx k u hu => ?_⟩⟩, hgr⟩
  · have := hset.c
    dsimp only at this ⊢
    omega
  · obtain ⟨rfl, rfl⟩ : k = 0 ∧ u = .int .i64 x := by
      match k, hu with
      | 0, hu => simp [encI] at hu; exact ⟨rfl, hu.symm⟩
      | k + 1, hu => simp [encI] at hu
    have hj := getq_lt hx
    have hsz : (t.take i ++ t.drop (i + 1) ++ List.replicate (i + 1 - i) 0).toArray.size = t.toArray.size := by simp; omega
    have hc := Go.Sort.cell?_putRow (Value.int .i64) (Go.Sort.ahead w q) g 0 t.toArray (t.take i ++ t.drop (i + 1) ++ List.replicate (i + 1 - i) 0).toArray hH hsz j (by rw [hsz]; simp; omega)
    rw [Nat.mul_one, Nat.add_zero, hw', hc]
    congr 2
    rw [getElem!_pos _ j (by rw [hsz]; simp; omega)]
    have h2 : (t.take i ++ t.drop (i + 1) ++ List.replicate (i + 1 - i) 0)[j]? = some x := by
      rw [List.getElem?_append_left (by simp; omega), ← List.eraseIdx_eq_take_drop_succ]
      exact hx
    obtain ⟨h3, h4⟩ := List.getElem?_eq_some_iff.1 h2
    simpa using h4

/-- A least part that does not fit. -/
def shrinkF (bads : List (List Int)) : Nat → Nat → List Int → List Int
  | 0, _, s => s
  | f + 1, i, s => if i < s.length then (if fitsB bads (s.eraseIdx i) = true then shrinkF bads f (i + 1) s else shrinkF bads f i (s.eraseIdx i)) else s
def shrink (bads : List (List Int)) (s : List Int) : List Int := shrinkF bads (s.length + 1) 0 s

/-- Where questions may be asked. -/
structure Dom (D : List Int → Prop) : Prop where
  del : ∀ s i, D s → i < s.length → D (s.eraseIdx i)
  sml : ∀ s, D s → Sml s ∧ s.length ≤ 1000
  inj : ∀ s t, D s → D t → keyB t = keyB s → t = s

def ShrPost (D : List Int → Prop) (bads : List (List Int)) (n : Int) (ab mb bb B0 B1 : Nat) (A : Option Addr) (k c : Nat) (v : Option Addr × Nat × Nat) (s : List Int) (w : World) (e : Ending) (w' : World) : Prop := ∃ (B : Option Addr) (d : Nat), e = .returned (.slice B (shrink bads s).length d) ∧ SetAt w' w'.heap.size (B, (shrink bads s).length, d) (shrink bads s) ∧ (B = v.1 ∨ ∀ a, B = some a → w.heap.size ≤ a.block ∧ a.block < w'.heap.size) ∧ AskAt D bads n ab mb bb B0 B1 A k c w' ∧ Fr (fun k => k = mb) w w'

set_option maxRecDepth 100000 in
set_option maxHeartbeats 8000000 in
theorem shrunk_any (D : List Int → Prop) (hdom : Dom D) (bads : List (List Int)) (n : Int) (ab mb bb B0 B1 : Nat) (A : Option Addr) (k c : Nat) (v : Option Addr × Nat × Nat) (s : List Int) (w : World) (h : AskAt D bads n ab mb bb B0 B1 A k c w) (hv : SetAt w w.heap.size v s) (hD : D s) :
    Calls Tryd.prog 32 #[.pointer (some ⟨ab, 0, none⟩), .slice v.1 v.2.1 v.2.2] w (ShrPost D bads n ab mb bb B0 B1 A k c v s w) := by
  have H := Lib.hid (And.intro h (And.intro hv hD))
  have HD := Lib.hid hdom
  rw [hv.n]
  clear h hv hD hdom
  go_enter Tryd.func32, Tryd.ntmps32
  go_upto_region 2 with fail
  go_loopw [1, 5, 6] (fun s1 s5 _ wr => ∃ (i : Nat) (B : Option Addr) (d : Nat) (t : List Int), s1 = .slice B t.length d ∧ s5 = .int .i64 i ∧ i ≤ t.length ∧ Hid (SetAt wr wr.heap.size (B, t.length, d) t ∧ (B = v.1 ∨ ∀ a, B = some a → w.heap.size ≤ a.block ∧ a.block < wr.heap.size) ∧ AskAt D bads n ab mb bb B0 B1 A k c wr ∧ Fr (fun k => k = mb) w wr ∧ D t) ∧ Hid (shrinkF bads (t.length - i + 1) i t = shrink bads s)) (fun s1 s5 _ _ => slN s1 - (Lib.intOf s5).toNat)
  case atStart => exact ⟨0, v.1, v.2.2, s, rfl, rfl, Nat.zero_le _, Lib.hid ⟨⟨rfl, H.out.2.1.c, H.out.2.1.r⟩, .inl rfl, H.out.1, Fr.refl _ _, H.out.2.2⟩, Lib.hid rfl⟩
  case round =>
    obtain ⟨i, B, d, t, rfl, rfl, hi, HR, HT⟩ := hrel
    by_cases hl : i < t.length
    · have hwi : IntKind.i64.wrap ((i : Int) + 1) = (i : Int) + 1 := IntWalk.i64_in _ (by have := (HD.out.sml t HR.out.2.2.2.2).2; omega)
      have Hc := Lib.hid (cloneI_any B d t wr HR.out.1.r (by have := (HD.out.sml t HR.out.2.2.2.2).2; omega))
      go_wp2_with fail
      refine Hc.out.mono ?_
      rintro e w1 ⟨V, cv, rfl, hown, hb1⟩
      obtain ⟨g, rfl⟩ : ∃ g, V = some ⟨g, 0, none⟩ := by
        rcases hown.2 with ⟨hv, hn⟩ | ⟨g, cap', cur, hv, _⟩
        · omega
        · injection hv with hA
          exact ⟨g, hA⟩
      have Hd := Lib.hid (delI_any g cv wr.heap.size i t w1 hown hl (by have := (HD.out.sml t HR.out.2.2.2.2).2; omega))
      have HG := Lib.hid (OwnL.block hown g rfl)
      have HB1 := Lib.hid hb1
      clear hown hb1
      go_wp2_with fail
      refine Hd.out.mono ?_
      rintro e w2 ⟨rfl, hset2, hg2⟩
      have hb2 : Below wr.heap.size wr w2 := HB1.out.grown hg2 HB1.out.size fun k hk => by
        have := Option.some.inj hk
        have := HG.out.1
        omega
      have HD2 : Hid (D (t.eraseIdx i)) := Lib.hid (HD.out.del t i HR.out.2.2.2.2 hl)
      have Ha := Lib.hid (ask_any D bads n ab mb bb B0 B1 A k c (some ⟨g, 0, none⟩, (t.eraseIdx i).length, cv) (t.eraseIdx i) w2 (HR.out.2.2.1.later hb2) hset2 HD2.out (HD.out.sml _ HD2.out).2 (HD.out.sml _ HD2.out).1 fun u hu e => HD.out.inj _ u HD2.out hu e)
      have H2 := Lib.hid (And.intro hset2 (And.intro hb2 hg2.size))
      clear hset2 hg2 hb2
      cases hfb : fitsB bads (t.eraseIdx i) with
      | true =>
        have HE : Hid (shrinkF bads (t.length - (i + 1) + 1) (i + 1) t = shrink bads s) := Lib.hid (by
          have h1 := HT.out
          rw [show t.length - i + 1 = (t.length - (i + 1) + 1) + 1 by omega, shrinkF, if_pos hl, if_pos hfb] at h1
          exact h1)
        have HFB := Lib.hid hfb
        clear hfb
        go_wp2_with fail
        refine Ha.out.mono ?_
        rintro e w3 ⟨rfl, hA3, hF3⟩
        rw [HFB.out]
        obtain ⟨l2, hm2, _⟩ := (HR.out.2.2.1.later H2.out.2.1).known
        have HN : Hid (SetAt w3 w3.heap.size (B, t.length, d) t ∧ (B = v.1 ∨ ∀ a, B = some a → w.heap.size ≤ a.block ∧ a.block < w3.heap.size) ∧ AskAt D bads n ab mb bb B0 B1 A k c w3 ∧ Fr (fun k => k = mb) w w3 ∧ D t) := Lib.hid ⟨(((HR.out.1.below H2.out.2.1).more H2.out.2.1.size).map hm2 hF3).more hF3.size, HR.out.2.1.imp_right fun h a ha => ⟨(h a ha).1, Nat.lt_of_lt_of_le (h a ha).2 (Nat.le_trans H2.out.2.1.size hF3.size)⟩, hA3, (HR.out.2.2.2.1.trans (Fr.below H2.out.2.1)).trans hF3, HR.out.2.2.2.2⟩
        clear hA3 hF3 hm2
        go_wp2_with fail
        go_roundw
        case rel => exact ⟨i + 1, B, d, t, rfl, rfl, hl, HN, HE⟩
        case measure => simp [slN, Lib.intOf]; omega
      | false =>
        have hel : (t.eraseIdx i).length = t.length - 1 := List.length_eraseIdx_of_lt hl
        have HE : Hid (shrinkF bads ((t.eraseIdx i).length - i + 1) i (t.eraseIdx i) = shrink bads s) := Lib.hid (by
          have h1 := HT.out
          rw [show t.length - i + 1 = ((t.eraseIdx i).length - i + 1) + 1 by omega, shrinkF, if_pos hl, hfb] at h1
          simpa using h1)
        have HFB := Lib.hid hfb
        have HEL := Lib.hid hel
        clear hfb hel
        go_wp2_with fail
        refine Ha.out.mono ?_
        rintro e w3 ⟨rfl, hA3, hF3⟩
        rw [HFB.out]
        obtain ⟨l2, hm2, _⟩ := (HR.out.2.2.1.later H2.out.2.1).known
        have HN : Hid (SetAt w3 w3.heap.size (some ⟨g, 0, none⟩, (t.eraseIdx i).length, cv) (t.eraseIdx i) ∧ (some (⟨g, 0, none⟩ : Addr) = v.1 ∨ ∀ a, some (⟨g, 0, none⟩ : Addr) = some a → w.heap.size ≤ a.block ∧ a.block < w3.heap.size) ∧ AskAt D bads n ab mb bb B0 B1 A k c w3 ∧ Fr (fun k => k = mb) w w3 ∧ D (t.eraseIdx i)) := Lib.hid ⟨(H2.out.1.map hm2 hF3).more hF3.size, .inr fun a ha => by
          cases ha
          have h1 := HG.out
          have h2 := HR.out.2.2.2.1.size
          have h3 := H2.out.2.2
          have h4 := hF3.size
          dsimp only
          omega, hA3, (HR.out.2.2.2.1.trans (Fr.below H2.out.2.1)).trans hF3, HD2.out⟩
        clear hA3 hF3 hm2
        go_wp2_with fail
        go_roundw
        case rel => exact ⟨i, some ⟨g, 0, none⟩, cv, t.eraseIdx i, rfl, rfl, by have := HEL.out; omega, HN, HE⟩
        case measure => have := HEL.out; simp only [slN, Lib.intOf]; omega
    · have HE : Hid (t = shrink bads s) := Lib.hid (by
        have h1 := HT.out
        rw [show t.length - i + 1 = 0 + 1 by omega, shrinkF, if_neg hl] at h1
        exact h1)
      go_wp2_with fail
      go_ret
      refine ⟨B, d, by rw [← HE.out]; rfl, ?_, HR.out.2.1, HR.out.2.2.1, HR.out.2.2.2.1⟩
      rw [← HE.out]
      exact HR.out.1
end Go.Proofs.YtmjdhfbnmmdjiaaDoor

/- A round of questions. -/
namespace Go.Proofs.YtmjdhfbnmmdjiaaDoor
open Go.RowKit

attribute [local go_sem ↓] Go.wp_at_zero Go.wp_at_succ

/-- A row stands where another one has grown. -/
theorem RowsAt.past {w w' : World} {base cap n c : Nat} {A B : Option Addr} {us : List (Option Addr × Nat × Nat)} {xss : List (List Int)} (h : RowsAt w base A cap us xss) (hg : w.grownBy w' ((Value.slice B n c).ownBlock)) (ho : Off B A) (ho2 : ∀ u ∈ us, Off B u.1) : RowsAt w' base A cap us xss := by
  refine ⟨kept_off h.own hg ho, ⟨h.sets.1, fun i u ys h1 h2 => ?_⟩, h.off, fun u hu a ha => Nat.lt_of_lt_of_le (h.low u hu a ha) hg.size⟩
  obtain ⟨k1, k2, k3⟩ := h.sets.2 i u ys h1 h2
  exact ⟨k1, k2, ReadL.more (k3.grown (Nat.le_refl _) hg (ho2 u (List.mem_of_getElem? h1))) hg.size⟩

/-- What a round asks of, and what it learns. -/
def moreL (bads : List (List Int)) (alls : List (List Int)) : List (List Int) := (alls.filter fun s => !fitsB bads s).map (shrink bads)
theorem moreL_succ {bads alls : List (List Int)} {i : Nat} {s : List Int} (h : alls[i]? = some s) : moreL bads (alls.take (i + 1)) = if fitsB bads s = true then moreL bads (alls.take i) else moreL bads (alls.take i) ++ [shrink bads s] := by
  unfold moreL
  rw [List.take_add_one, h, List.filter_append, List.map_append]
  cases hb : fitsB bads s
  · simp [hb]
  · simp [hb]
theorem moreL_le (bads alls : List (List Int)) : (moreL bads alls).length ≤ alls.length := by
  unfold moreL
  rw [List.length_map]
  exact List.length_filter_le _ _

/-- What may come of a round. -/
structure RoundOk (D : List Int → Prop) (n : Nat) (bR : List (List Int)) : Prop where
  one : bR.length ≤ 1
  sml : ∀ xs ∈ bR, xs.length ≤ 1000 ∧ xs.Nodup
  all : ∀ lack, allP bR lack → lack.length ≤ 1000 ∧ (∀ xs ∈ lack, xs.length ≤ 1000) ∧ (∀ s ∈ lack.map (missL n), D s) ∧ (lack.map (missL n)).Nodup

def RoundPost (D : List Int → Prop) (bads : List (List Int)) (n : Nat) (ab mb bb B0 B1 : Nat) (A : Option Addr) (k c : Nat) (bR : List (List Int)) (w : World) (e : Ending) (w' : World) : Prop :=
  ∃ (lack : List (List Int)) (A1 : Option Addr) (c1 : Nat) (us1 : List (Option Addr × Nat × Nat)) (zs : List (List Int)) (A2 : Option Addr) (c2 : Nat) (us2 : List (Option Addr × Nat × Nat)), allP bR lack ∧ e = .returned (.tuple #[.slice A1 us1.length c1, .slice A2 us2.length c2]) ∧
    RowsAt w' w.heap.size A1 c1 us1 zs ∧ Srt zs (lack.map (missL n)) ∧ RowsAt w' w.heap.size A2 c2 us2 (moreL bads (lack.map (missL n))) ∧ AskAt D bads n ab mb bb B0 B1 A k c w' ∧ Fr (fun k => k = mb) w w'

set_option maxRecDepth 100000 in
set_option maxHeartbeats 8000000 in
theorem round_any (D : List Int → Prop) (hdom : Dom D) (bads : List (List Int)) (n : Nat) (hn : n ≤ 1000) (ab mb bb B0 B1 : Nat) (A : Option Addr) (c : Nat) (us : List (Option Addr × Nat × Nat)) (bR : List (List Int)) (w : World) (h : AskAt D bads n ab mb bb B0 B1 A us.length c w) (hr : ReadS w w.heap.size A us) (hS : SetsAt w w.heap.size us bR) (hok : RoundOk D n bR) :
    Calls Tryd.prog 28 #[.pointer (some ⟨ab, 0, none⟩)] w (RoundPost D bads n ab mb bb B0 B1 A us.length c bR w) := by
  have H := Lib.hid (And.intro h (And.intro hr (And.intro hS (And.intro hok hdom))))
  have Hall := Lib.hid (all_any A c us bR 1000000000 w hr hS hok.one hok.sml (by decide))
  have k4 := h.at_.2.2.2.2
  clear h hr hS hok hdom
  go_enter Tryd.func28, Tryd.ntmps28
  go_wp2_with fail
  refine Hall.out.mono ?_
  rintro e w1 ⟨A1, c1, us1, lack, rfl, hrow1, hlk, hb1⟩
  have hA1 := H.out.1.later hb1
  have k0 := hA1.at_.1
  have HLK := Lib.hid (H.out.2.2.2.1.all lack hlk)
  have Hm := Lib.hid (missing_any A1 c1 us1 lack n w1 hrow1.read hrow1.sets (by rw [hrow1.sets.1]; have := HLK.out.1; omega) (fun xs hx => by have := HLK.out.2.1 xs hx; omega) (by omega))
  have HA1 := Lib.hid (And.intro hA1 (And.intro hb1 hlk))
  clear hrow1 hlk hb1 hA1 k4
  go_wp2_with fail
  refine Hm.out.mono ?_
  rintro e w2 ⟨A2, c2, us2, alls, rfl, hrow2, hal, hb2⟩
  have HAL := Lib.hid hal
  have HB2 := Lib.hid (ext_trans HA1.out.2.1 hb2)
  have HR2 := Lib.hid hrow2
  have HA2 := Lib.hid (HA1.out.1.later hb2)
  obtain ⟨W0, hW0⟩ : ∃ W0, W0 = w2 := ⟨_, rfl⟩
  rw [← hW0] at HB2 HR2 HA2
  have HWE := Lib.hid hW0
  clear hrow2 hal hb2 hW0 k0
  go_upto_region 5 with fail
  go_loopw [7, 9, 26] (fun s7 _ s26 wr => ∃ (i : Nat) (A' : Option Addr) (c' : Nat) (us' : List (Option Addr × Nat × Nat)), s7 = .slice A' us'.length c' ∧ s26 = .int .i64 i ∧ i ≤ us2.length ∧ Hid (RowsAt wr W0.heap.size A' c' us' (moreL bads (alls.take i)) ∧ RowsAt wr w1.heap.size A2 c2 us2 alls ∧ AskAt D bads n ab mb bb B0 B1 A us.length c wr ∧ Fr (fun k => k = mb) W0 wr)) (fun _ _ s26 _ => us2.length - (Lib.intOf s26).toNat)
  case atStart => exact ⟨0, none, 0, [], rfl, rfl, Nat.zero_le _, Lib.hid ⟨by rw [← HWE.out]; exact RowsAt.nil, by rw [← HWE.out]; exact HR2.out, by rw [← HWE.out]; exact HA2.out, by rw [HWE.out]; exact Fr.refl _ _⟩⟩
  case round =>
    obtain ⟨i, A', c', us', rfl, rfl, hi, HR⟩ := hrel
    by_cases hl : i < us2.length
    · obtain ⟨v, hv⟩ := getq_ex hl
      obtain ⟨s, hs⟩ := getq_ex (show i < alls.length by rw [← HR.out.2.1.sets.1]; exact hl)
      obtain ⟨b, o, rfl, hb, c0⟩ := ReadL.slice HR.out.2.1.read hv
      have hwi : IntKind.i64.wrap ((i : Int) + 1) = ((i + 1 : Nat) : Int) := IntWalk.i64_in _ (by
        have h1 := HR.out.2.1.sets.1
        rw [HAL.out, List.length_map] at h1
        have h2 := HLK.out.1
        omega)
      have hset := HR.out.2.1.sets.2 i v s hv hs
      have HDs : Hid (D s) := Lib.hid (HLK.out.2.2.1 s (by rw [← HAL.out]; exact List.mem_of_getElem? hs))
      have Ha := Lib.hid (ask_any D bads n ab mb bb B0 B1 A us.length c v s wr HR.out.2.2.1 hset HDs.out (H.out.2.2.2.2.sml s HDs.out).2 (H.out.2.2.2.2.sml s HDs.out).1 fun u hu e => H.out.2.2.2.2.inj s u HDs.out hu e)
      have HV := Lib.hid (And.intro hv (And.intro hs hset))
      have HMS := Lib.hid (moreL_succ (bads := bads) hs)
      clear hv hs hset
      cases hfb : fitsB bads s with
      | true =>
        have HFB := Lib.hid hfb
        have HE : Hid (moreL bads (alls.take (i + 1)) = moreL bads (alls.take i)) := Lib.hid (by rw [HMS.out, if_pos hfb])
        clear hfb
        go_wp2_with fail
        refine Ha.out.mono ?_
        rintro e w3 ⟨rfl, hA3, hF3⟩
        rw [HFB.out]
        obtain ⟨l, hm, _⟩ := HR.out.2.2.1.known
        have HN : Hid (RowsAt w3 W0.heap.size A' c' us' (moreL bads (alls.take (i + 1))) ∧ RowsAt w3 w1.heap.size (some ⟨b, o, none⟩) c2 us2 alls ∧ AskAt D bads n ab mb bb B0 B1 A us.length c w3 ∧ Fr (fun k => k = mb) W0 w3) := Lib.hid ⟨by rw [HE.out]; exact HR.out.1.map hm hF3, HR.out.2.1.map hm hF3, hA3, HR.out.2.2.2.trans hF3⟩
        clear hA3 hF3 hm
        go_wp2_with fail
        go_roundw
        case rel => exact ⟨i + 1, A', c', us', rfl, rfl, hl, HN⟩
        case measure => simp [Lib.intOf]; omega
      | false =>
        have HFB := Lib.hid hfb
        have HE : Hid (moreL bads (alls.take (i + 1)) = moreL bads (alls.take i) ++ [shrink bads s]) := Lib.hid (by rw [HMS.out, hfb]; simp)
        clear hfb
        go_wp2_with fail
        refine Ha.out.mono ?_
        rintro e w3 ⟨rfl, hA3, hF3⟩
        rw [HFB.out]
        obtain ⟨l, hm, _⟩ := HR.out.2.2.1.known
        have HN : Hid (RowsAt w3 W0.heap.size A' c' us' (moreL bads (alls.take i)) ∧ RowsAt w3 w1.heap.size (some ⟨b, o, none⟩) c2 us2 alls ∧ AskAt D bads n ab mb bb B0 B1 A us.length c w3 ∧ Fr (fun k => k = mb) W0 w3) := Lib.hid ⟨HR.out.1.map hm hF3, HR.out.2.1.map hm hF3, hA3, HR.out.2.2.2.trans hF3⟩
        have Hsh := Lib.hid (shrunk_any D H.out.2.2.2.2 bads n ab mb bb B0 B1 A us.length c v s w3 hA3 ((HV.out.2.2.map hm hF3).more hF3.size) HDs.out)
        clear hA3 hF3 hm
        go_wp2_with fail
        refine Hsh.out.mono ?_
        rintro e w4 ⟨A3, c3, rfl, hset4, horg, hA4, hF4⟩
        obtain ⟨l2, hm2, _⟩ := HN.out.2.2.1.known
        obtain ⟨w5, hw5⟩ : ∃ w5, w5 = w4.alloc (.cells #[.slice A3 (shrink bads s).length c3] 29) := ⟨_, rfl⟩
        have hb5 : Below w4.heap.size w4 w5 := by rw [hw5]; exact ext_alloc (Below.refl _ _) _
        have HRow : Hid (RowsAt w5 W0.heap.size A' c' us' (moreL bads (alls.take i))) := Lib.hid ((HN.out.1.map hm2 hF4).below hb5)
        have HRa : Hid (RowsAt w5 w1.heap.size (some ⟨b, o, none⟩) c2 us2 alls) := Lib.hid ((HN.out.2.1.map hm2 hF4).below hb5)
        have HSet : Hid (SetAt w5 w5.heap.size (A3, (shrink bads s).length, c3) (shrink bads s)) := Lib.hid ((hset4.below hb5).more hb5.size)
        have HFr : Hid (Fr (fun k => k = mb) W0 w5) := Lib.hid ((HN.out.2.2.2.trans hF4).trans (Fr.below hb5))
        have HAk : Hid (AskAt D bads n ab mb bb B0 B1 A us.length c w5) := Lib.hid (hA4.later hb5)
        have hge : ∀ a, A' = some a → W0.heap.size ≤ a.block ∧ a.block < w3.heap.size := fun a ha => OwnL.lt HN.out.1.own a ha
        have hvlow : ∀ a, v.1 = some a → a.block < W0.heap.size := HR2.out.low v (List.mem_of_getElem? HV.out.1)
        have hW3 : W0.heap.size ≤ w3.heap.size := HN.out.2.2.2.size
        have hW4 : w3.heap.size ≤ w4.heap.size := hF4.size
        have HNew : Hid ((∀ a, A3 = some a → a.block < w4.heap.size) ∧ Off A' A3 ∧ (∀ u ∈ us', ∀ a, u.1 = some a → a.block < w4.heap.size) ∧ w4.heap.size ≤ w5.heap.size) := Lib.hid ⟨fun a ha => by
          rcases horg with e | e
          · have := hvlow a (by rw [← e]; exact ha)
            omega
          · exact (e a ha).2, fun a x ha hx e => by
          have h1 := hge a ha
          rcases horg with e2 | e2
          · have := hvlow x (by rw [← e2]; exact hx)
            omega
          · have := (e2 x hx).1
            omega, fun u hu a ha => Nat.lt_of_lt_of_le (HN.out.1.low u hu a ha) hW4, hb5.size⟩
        have HO2 : Hid (Off A' (some ⟨b, o, none⟩) ∧ ∀ u ∈ us2, Off A' u.1) := Lib.hid ⟨fun a x ha hx e => by
          have h1 := hge a ha
          have h2 := (OwnL.lt HR2.out.own x hx).2
          omega, fun u hu a x ha hx e => by
          have h1 := hge a ha
          have h2 := HR2.out.low u hu x hx
          omega⟩
        have HGE : Hid (∀ a, A' = some a → W0.heap.size ≤ a.block) := Lib.hid fun a ha => (hge a ha).1
        have HN2 : Hid (ReadS w5 (w4.heap.size + 1) (some ⟨w4.heap.size, 0, none⟩) [(A3, (shrink bads s).length, c3)]) := Lib.hid (by rw [hw5]; exact readR_new w4 (A3, (shrink bads s).length, c3))
        have hbase : W0.heap.size ≤ w5.heap.size := HFr.out.size
        have hlen : us'.length + [(A3, (shrink bads s).length, c3)].length ≤ 10000000 := by
          have h1 := HN.out.1.sets.1
          have h2 := moreL_le bads (alls.take i)
          have h3 : (alls.take i).length ≤ alls.length := List.length_take_le' _ _
          have h4 : alls.length ≤ 1000 := by rw [HAL.out, List.length_map]; exact HLK.out.1
          simp
          omega
        clear hset4 horg hA4 hF4 hm2 hb5 hge hvlow hW3 hW4
        go_wp2_with (at_builtin; rw [← hw5]; refine wpList_appR rfl (.tmp 34) (.tmp 38) rfl W0.heap.size (l := us') rfl HRow.out.own (l2 := [(A3, (shrink bads s).length, c3)]) rfl HN2.out hlen hbase ?_; intro A4 c4 w6 hown hg hA; clear hw5; have HF := Lib.hid (And.intro hown (And.intro hg hA)); clear hown hg hA)
        have hro := HRow.out.app (v := (A3, (shrink bads s).length, c3)) HSet.out HNew.out.1 HNew.out.2.1 HNew.out.2.2.1 HNew.out.2.2.2 HF.out.1 HF.out.2.1 HF.out.2.2
        have hb0 : Below W0.heap.size w5 w6 := below_app HF.out.2.1 hbase HGE.out
        refine ⟨⟨i + 1, A4, c4, us' ++ [(A3, (shrink bads s).length, c3)], by simp, rfl, hl, Lib.hid ⟨by rw [HE.out]; exact hro, HRa.out.past HF.out.2.1 HO2.out.1 HO2.out.2, HAk.out.low (hb0.mono HA2.out.bw), ?_⟩⟩, by simp [Lib.intOf]; omega⟩
        refine HFr.out.new (Y := fun k => W0.heap.size ≤ k) (Fr.of_below hb0 fun k hk _ => hk) fun b hb => .inr hb
    · have hie : i = us2.length := by omega
      have HE : Hid (RowsAt wr W0.heap.size A' c' us' (moreL bads alls)) := Lib.hid (by
        have h1 := HR.out.1
        rwa [List.take_of_length_le (by rw [← HR.out.2.1.sets.1]; omega)] at h1)
      have Hs := Lib.hid (sort_any A2 c2 us2 alls wr HR.out.2.1.read HR.out.2.1.sets (by
        rw [HR.out.2.1.sets.1, HAL.out, List.length_map]
        have := HLK.out.1
        omega) (fun xs hx => by
        have := (H.out.2.2.2.2.sml xs (HLK.out.2.2.1 xs (by rw [← HAL.out]; exact hx))).2
        omega) (by rw [HAL.out]; exact HLK.out.2.2.2))
      clear hie
      go_wp2_with fail
      refine Hs.out.mono ?_
      rintro e w8 ⟨A8, c8, us8, zs, rfl, hrow8, hsrt8, hb8⟩
      have HP : Hid (RoundPost D bads n ab mb bb B0 B1 A us.length c bR w (.returned (.tuple #[.slice A8 us8.length c8, .slice A' us'.length c'])) w8) := Lib.hid ⟨lack, A8, c8, us8, zs, A', c', us', HA1.out.2.2, rfl, hrow8.down (Nat.le_trans HB2.out.size HR.out.2.2.2.size), by rw [← HAL.out]; exact hsrt8, by rw [← HAL.out]; exact (HE.out.below hb8).down HB2.out.size, HR.out.2.2.1.later hb8, ((Fr.below HB2.out).trans HR.out.2.2.2).trans (Fr.below hb8)⟩
      clear hrow8 hsrt8 hb8
      go_wp2_with fail
      go_ret2
      exact HP.out
end Go.Proofs.YtmjdhfbnmmdjiaaDoor

/- All greatest sets. -/
namespace Go.Proofs.YtmjdhfbnmmdjiaaDoor
open Go.RowKit

attribute [local go_sem ↓] Go.wp_at_zero Go.wp_at_succ

/-- A store to a cell that holds no number, below the row. -/
theorem RowsAt.put {w : World} {base cap : Nat} {A : Option Addr} {us : List (Option Addr × Nat × Nat)} {xss : List (List Int)} (h : RowsAt w base A cap us xss) (p : Addr) (u v : Value) (hp : w.cell? p = some v) (hv : ∀ k x, v ≠ .int k x) (hb : p.block < base) : RowsAt (w.setCell p u) base A cap us xss := by
  have hf : Fr (fun k => k = p.block) w (w.setCell p u) := Fr.setCell (X := fun k => k = p.block) (Fr.refl _ _) (.inl rfl) u
  refine ⟨OwnL.fr h.own hf fun b hbb => by rw [hbb]; exact hb, ⟨h.sets.1, fun i x ys h1 h2 => ?_⟩, h.off, fun x hx a ha => Nat.lt_of_lt_of_le (h.low x hx a ha) hf.size⟩
  obtain ⟨k1, k2, k3⟩ := h.sets.2 i x ys h1 h2
  refine ⟨k1, k2, fun hne => ?_⟩
  obtain ⟨b, o, e, hbl, hc⟩ := k3 hne
  refine ⟨b, o, e, Nat.lt_of_lt_of_le hbl hf.size, fun j y hy q z hz => ?_⟩
  have h3 := hc j y hy q z hz
  have hne2 : p ≠ ⟨b, o + j * 1 + q, none⟩ := fun e2 => by
    rw [e2, h3] at hp
    match q, hz with
    | 0, hz =>
      simp [encI] at hz
      subst hz
      exact hv _ _ (Option.some.inj hp).symm
    | q + 1, hz => simp [encI] at hz
  exact (World.cell?_setCell_other (h := hne2) ..).trans h3

/-- The boxes of greatest's results. -/
structure BoxG (w : World) (b1 b2 : Nat) (A : Option Addr) (n c : Nat) (v : Bool) : Prop where
  t : w.heap[b1]? = some (.cells #[.slice A n c] 25 (0, 0))
  b : w.heap[b2]? = some (.cells #[.bool v] 4 (0, 0))
section
variable {w w' : World} {b1 b2 n c : Nat} {A : Option Addr} {v : Bool}
theorem BoxG.at_ (h : BoxG w b1 b2 A n c v) : w.cell? ⟨b1, 0, none⟩ = some (.slice A n c) ∧ w.cell? ⟨b2, 0, none⟩ = some (.bool v) := by
  have h1 := h.t
  have h2 := h.b
  exact ⟨by simp [World.cell?, h1], by simp [World.cell?, h2]⟩
theorem BoxG.fz (h : BoxG w b1 b2 A n c v) : w.frozen? ⟨b1, 0, none⟩ = false ∧ w.frozen? ⟨b2, 0, none⟩ = false := by
  have h1 := h.t
  have h2 := h.b
  exact ⟨by simp [World.frozen?, h1], by simp [World.frozen?, h2]⟩
theorem BoxG.lt (h : BoxG w b1 b2 A n c v) : b1 < w.heap.size ∧ b2 < w.heap.size := ⟨(Array.getElem?_eq_some_iff.1 h.t).1, (Array.getElem?_eq_some_iff.1 h.b).1⟩
theorem BoxG.fr {X : Nat → Prop} (h : BoxG w b1 b2 A n c v) (hf : Fr X w w') (h1 : ¬ X b1) (h2 : ¬ X b2) : BoxG w' b1 b2 A n c v := ⟨(hf.block b1 h.lt.1 h1).trans h.t, (hf.block b2 h.lt.2 h2).trans h.b⟩
theorem heap_set_neG {w : World} {b c : Nat} (hne : b ≠ c) (i : Nat) (u : Value) : (w.setCell ⟨b, i, none⟩ u).heap[c]? = w.heap[c]? := by
  simp only [World.setCell, Array.getElem?_modify]
  rw [if_neg hne]
theorem BoxG.set1 (h : BoxG w b1 b2 A n c v) (hne : b1 ≠ b2) {B : Option Addr} {m d : Nat} : BoxG (w.setCell ⟨b1, 0, none⟩ (.slice B m d)) b1 b2 B m d v := ⟨heap_set h.t 0 _, (heap_set_neG hne _ _).trans h.b⟩
theorem BoxG.set2 (h : BoxG w b1 b2 A n c v) (hne : b1 ≠ b2) {u : Bool} : BoxG (w.setCell ⟨b2, 0, none⟩ (.bool u)) b1 b2 A n c u := ⟨(heap_set_neG (Ne.symm hne) _ _).trans h.t, heap_set h.b 0 _⟩
end
theorem BoxG.new (w : World) : BoxG ((w.alloc (.cells #[.slice none 0 0] 25)).alloc (.cells #[.bool false] 4)) w.heap.size (w.heap.size + 1) none 0 0 false := by
  have h1 := heap_alloc_new w (.cells #[.slice none 0 0] 25)
  have h2 := heap_alloc_new (w.alloc (.cells #[.slice none 0 0] 25)) (.cells #[.bool false] 4)
  have hb := (ext_alloc (Below.refl (w.alloc (.cells #[.slice none 0 0] 25)).heap.size (w.alloc (.cells #[.slice none 0 0] 25))) (.cells #[.bool false] 4)).block w.heap.size (by rw [World.size_alloc]; omega)
  rw [World.size_alloc] at h2
  exact ⟨hb.trans h1, h2⟩

set_option maxRecDepth 100000 in
set_option maxHeartbeats 8000000 in
theorem greatest1_idle (p1 p2 : Addr) (w : World) :
    CallsD Tryd.prog 27 #[.pointer (some p1), .pointer (some p2)] .returning w fun e u' w' => e = .returned (.tuple #[]) ∧ u' = .returning ∧ w' = w := by
  refine callsD_of_wpS Tryd.func27 rfl fun c₀ cs hu => ?_
  apply wpS_seq
  apply wpS_region
  simp [wpOpsS, go_sem, recoverD, hu, Tryd.ntmps27, Exit.thenS]
  apply wpS_seq
  apply wpS_region
  simp [wpOpsS, go_sem, Exit.thenS]
  refine wpS_cond (t := false) (by simp [Act.eval, Array.replicate]) ?_
  simp only [Bool.false_eq_true, if_false]
  refine wpS_of_wp (wp_skip ?_)
  cases c₀
  simp_all [bodyPostS, results, Tryd.results27]

theorem AskAt.fz4 {D : List Int → Prop} {bads : List (List Int)} {n : Int} {ab mb bb B0 B1 k c : Nat} {A : Option Addr} {w : World} (h : AskAt D bads n ab mb bb B0 B1 A k c w) : w.frozen? ⟨ab, 4, none⟩ = false := by
  have h1 := h.blk
  unfold askCells at h1
  simp [World.frozen?, h1]

/-- How many bad sets the asker knows. -/
def badN (ab : Nat) (w : World) : Nat := match w.cell? ⟨ab, 4, none⟩ with
  | some (.slice _ n _) => n
  | _ => 0
theorem AskAt.badN {D : List Int → Prop} {bads : List (List Int)} {n : Int} {ab mb bb B0 B1 k c : Nat} {A : Option Addr} {w : World} (h : AskAt D bads n ab mb bb B0 B1 A k c w) : badN ab w = k := by
  unfold Go.Proofs.YtmjdhfbnmmdjiaaDoor.badN
  rw [h.at_.2.2.2.2]

def GrPost (P : List (List Int) → Prop) (bads : List (List Int)) (n B1 : Nat) (w : World) (e : Ending) (w' : World) : Prop :=
  ∃ (bR lack zs : List (List Int)) (A : Option Addr) (c : Nat) (us : List (Option Addr × Nat × Nat)), P bR ∧ allP bR lack ∧ moreL bads (lack.map (missL n)) = [] ∧ Srt zs (lack.map (missL n)) ∧ e = .returned (.tuple #[.slice A us.length c, .bool true]) ∧ RowsAt w' B1 A c us zs ∧ Below B1 w w'

set_option maxRecDepth 100000 in
set_option maxHeartbeats 8000000 in
theorem greatest_any (D : List Int → Prop) (hdom : Dom D) (bads : List (List Int)) (n : Nat) (hn : n ≤ 1000) (ab mb bb B0 B1 : Nat) (P : List (List Int) → Prop) (hP : ∀ bR, P bR → RoundOk D n bR) (hst : ∀ bR lack, P bR → allP bR lack → moreL bads (lack.map (missL n)) ≠ [] → bR = [] ∧ P (moreL bads (lack.map (missL n)))) (hP0 : P []) (w : World) (h : AskAt D bads n ab mb bb B0 B1 none 0 0 w) :
    Calls Tryd.prog 24 #[.pointer (some ⟨ab, 0, none⟩)] w (GrPost P bads n B1 w) := by
  have hmf : ∀ (fn : Fn) (first cap : Array Value) (w : World), (Instr.makeFunc fn first cap).run Tryd.prog w = .ok (.func fn first cap) w := fun _ _ _ _ => rfl
  obtain ⟨w2, hw2⟩ : ∃ w2, w2 = (w.alloc (.cells #[.slice none 0 0] 25)).alloc (.cells #[.bool false] 4) := ⟨_, rfl⟩
  have hb2 : Below w.heap.size w w2 := by rw [hw2]; exact ext_alloc (ext_alloc (Below.refl _ _) _) _
  have HX : Hid (BoxG w2 w.heap.size (w.heap.size + 1) none 0 0 false) := Lib.hid (by rw [hw2]; exact BoxG.new w)
  have HA : Hid (AskAt D bads n ab mb bb B0 B1 none 0 0 w2) := Lib.hid (h.later hb2)
  have HS : Hid (B1 ≤ w.heap.size ∧ mb < w.heap.size ∧ ab < w.heap.size ∧ Below B1 w w2) := Lib.hid ⟨Nat.le_trans h.b10 h.bw, Nat.lt_of_lt_of_le h.mbl h.bw, Nat.lt_of_lt_of_le h.abl h.bw, hb2.mono (Nat.le_trans h.b10 h.bw)⟩
  have HP := Lib.hid (And.intro hP (And.intro hst (And.intro hP0 hdom)))
  clear hb2 h hP hst hP0 hdom
  go_enter_defers Tryd.func24, Tryd.ntmps24
  go_upto_region 1 with fail
  rw [← hw2]
  clear hw2
  go_upto_region 2 with fail
  go_loopw [4, 5] (fun _ _ wr => ∃ (bR : List (List Int)) (A : Option Addr) (c : Nat) (us : List (Option Addr × Nat × Nat)), Hid (AskAt D bads n ab mb bb B0 B1 A us.length c wr ∧ RowsAt wr B1 A c us bR ∧ P bR ∧ (bR = [] → A = none ∧ c = 0) ∧ BoxG wr w.heap.size (w.heap.size + 1) none 0 0 false ∧ Below B1 w wr)) (fun _ _ wr => 1 - badN ab wr)
  case atStart => exact ⟨[], none, 0, [], Lib.hid ⟨HA.out, RowsAt.nil, HP.out.2.2.1, fun _ => ⟨rfl, rfl⟩, HX.out, HS.out.2.2.2⟩⟩
  case round =>
    obtain ⟨bR, A, c, us, HR⟩ := hrel
    have Hr := Lib.hid (round_any D HP.out.2.2.2 bads n hn ab mb bb B0 B1 A c us bR wr HR.out.1 HR.out.2.1.read HR.out.2.1.sets (HP.out.1 bR HR.out.2.2.1))
    go_wp2_with fail
    refine Hr.out.mono ?_
    rintro e w3 ⟨lack, A1, c1, us1, zs, A2, c2, us2, hlk, rfl, hrow1, hsrt, hrow2, hA3, hF3⟩
    have hBw : B1 ≤ wr.heap.size := Nat.le_trans HR.out.1.b10 HR.out.1.bw
    have hB3 : Below B1 wr w3 := ⟨hF3.os, hF3.tape, hF3.output, hF3.size, fun k hk => hF3.block k (by omega) fun e => by have := HR.out.1.mb1; omega⟩
    have hX3 : BoxG w3 w.heap.size (w.heap.size + 1) none 0 0 false := HR.out.2.2.2.2.1.fr hF3 (fun e => by have := HS.out.2.1; omega) fun e => by have := HS.out.2.1; omega
    obtain ⟨l, hm, _⟩ := HR.out.1.known
    have H3 := Lib.hid (And.intro hlk (And.intro hrow1 (And.intro hsrt (And.intro hrow2 (And.intro hA3 (And.intro hX3 (HR.out.2.2.2.2.2.trans hB3)))))))
    have HWS : Hid (wr.heap.size + 1 ≤ w3.heap.size + 1) := Lib.hid (Nat.succ_le_succ hF3.size)
    have HBW : Hid (B1 ≤ wr.heap.size ∧ w.heap.size + 1 < wr.heap.size) := Lib.hid ⟨hBw, HR.out.2.2.2.2.1.lt.2⟩
    clear hlk hrow1 hsrt hrow2 hA3 hF3 hBw hB3 hX3 hm
    by_cases hz : us2.length = 0
    · have hu2 : us2 = [] := List.eq_nil_of_length_eq_zero hz
      have hm0 : moreL bads (lack.map (missL n)) = [] := List.eq_nil_of_length_eq_zero (by rw [← H3.out.2.2.2.1.sets.1]; exact hz)
      have hne : w.heap.size ≠ w.heap.size + 1 := Nat.ne_of_lt (Nat.lt_succ_self _)
      have BX1 := H3.out.2.2.2.2.2.1.set1 hne (B := A1) (m := us1.length) (d := c1)
      have k1 := H3.out.2.2.2.2.2.1.at_
      have k2 := H3.out.2.2.2.2.2.1.fz
      have k3 := BX1.at_
      have k4 := BX1.fz
      have HM0 := Lib.hid hm0
      subst hu2
      clear hz hm0 hne BX1
      go_wp2_with fail
      obtain ⟨w4, hw4⟩ : ∃ w4, w4 = (w3.setCell ⟨w.heap.size, 0, none⟩ (.slice A1 us1.length c1)).setCell ⟨w.heap.size + 1, 0, none⟩ (.bool true) := ⟨_, rfl⟩
      rw [← hw4]
      have hne : w.heap.size ≠ w.heap.size + 1 := Nat.ne_of_lt (Nat.lt_succ_self _)
      have B4 : BoxG w4 w.heap.size (w.heap.size + 1) A1 us1.length c1 true := by rw [hw4]; exact (H3.out.2.2.2.2.2.1.set1 hne).set2 hne
      have F4 : Fr (fun k => k = w.heap.size ∨ k = w.heap.size + 1) w3 w4 := by
        rw [hw4]
        exact ((Fr.refl _ _).setCell (p := ⟨w.heap.size, 0, none⟩) (.inl (.inl rfl)) _).setCell (p := ⟨w.heap.size + 1, 0, none⟩) (.inl (.inr rfl)) _
      have HRW : Hid (RowsAt w4 B1 A1 c1 us1 zs ∧ Below B1 w w4) := Lib.hid (by
        refine ⟨?_, H3.out.2.2.2.2.2.2.trans ⟨F4.os, F4.tape, F4.output, F4.size, fun k hk => F4.block k (by have := H3.out.2.2.2.2.2.2.size; have := HS.out.1; omega) fun e => by have := HS.out.1; omega⟩⟩
        rw [hw4]
        have r1 := H3.out.2.1.put ⟨w.heap.size, 0, none⟩ (.slice A1 us1.length c1) _ k1.1 (fun _ _ e => by cases e) (by have := HBW.out.2; dsimp only; omega)
        exact (r1.put ⟨w.heap.size + 1, 0, none⟩ (.bool true) _ k3.2 (fun _ _ e => by cases e) HBW.out.2).down HBW.out.1)
      clear hw4 k1 k2 k3 k4 hne
      refine leaves_cons (f := 27) (args := #[.pointer (some ⟨w.heap.size, 0, none⟩), .pointer (some ⟨w.heap.size + 1, 0, none⟩)]) (by simp) (by simp [go_sem]) ?_
      refine (greatest1_idle _ _ w4).mono ?_
      rintro e u' w5 ⟨rfl, rfl, rfl⟩
      obtain ⟨z1, z2⟩ := B4.at_
      exact ⟨.tuple #[.slice A1 us1.length c1, .bool true], by simp [results, Tryd.results24, go_sem, z1, z2], bR, lack, zs, A1, c1, us1, HR.out.2.2.1, H3.out.1, HM0.out, H3.out.2.2.1, rfl, HRW.out.1, HRW.out.2⟩
    · have hne2 : moreL bads (lack.map (missL n)) ≠ [] := fun e => hz (by rw [H3.out.2.2.2.1.sets.1, e]; rfl)
      obtain ⟨rfl, hPm⟩ := HP.out.2.1 bR lack HR.out.2.2.1 H3.out.1 hne2
      obtain ⟨rfl, rfl⟩ := HR.out.2.2.2.1 rfl
      have hus : us = [] := List.eq_nil_of_length_eq_zero (by rw [HR.out.2.1.sets.1]; rfl)
      subst hus
      have hge : AskAt D bads n ab mb bb B0 B1 none 0 0 w3 := H3.out.2.2.2.2.1
      have k4 := hge.at_.2.2.2.2
      have k5 := hge.fz4
      have hr2 : ReadS w3 w3.heap.size A2 us2 := H3.out.2.2.2.1.read
      have hlen : ([] : List (Option Addr × Nat × Nat)).length + us2.length ≤ 10000000 := by
        have h1 := H3.out.2.2.2.1.sets.1
        have h2 := moreL_le bads (lack.map (missL n))
        rw [List.length_map] at h2
        have h3 := ((HP.out.1 [] HR.out.2.2.1).all lack H3.out.1).1
        simp
        omega
      have HPm := Lib.hid hPm
      have HHZ := Lib.hid hz
      clear hge hPm hne2
      go_wp2_with (at_builtin; refine wpList_appR rfl (.tmp 20) (.tmp 21) rfl w3.heap.size (l := []) rfl OwnL.nil (l2 := us2) rfl hr2 hlen (Nat.le_refl _) ?_; intro A4 c4 w4 hown hg hA; have HF := Lib.hid (And.intro hown (And.intro hg hA)); have hb4 : Below w3.heap.size w3 w4 := below_app hg (Nat.le_refl _) (fun a ha => by cases ha); have k6 := (hb4.cell (p := ⟨ab, 4, none⟩) (Nat.lt_of_lt_of_le H3.out.2.2.2.2.1.abl H3.out.2.2.2.2.1.bw)).trans k4; have k7 := (H3.out.2.2.2.2.1.later hb4).fz4; have HB4 := Lib.hid hb4; clear hown hg hA hb4 k4 k5)
      have hw4 : w3.heap.size ≤ w4.heap.size := HB4.out.size
      have hA4 : AskAt D bads n ab mb bb B0 B1 none 0 0 w4 := H3.out.2.2.2.2.1.later HB4.out
      have hown4 : OwnR w4 w3.heap.size A4 c4 us2 := HF.out.1
      have hr4 : RowsAt w4 w3.heap.size A4 c4 us2 (moreL bads (lack.map (missL n))) := ⟨hown4, (H3.out.2.2.2.1.sets.below HB4.out).more hw4, fun u hu a x ha hx e => by
        have h1 := (OwnL.lt hown4 a ha).1
        have h2 := H3.out.2.2.2.1.low u hu x hx
        omega, fun u hu a ha => Nat.lt_of_lt_of_le (H3.out.2.2.2.1.low u hu a ha) hw4⟩
      have hab3 : ab < w3.heap.size := Nat.lt_of_lt_of_le H3.out.2.2.2.2.1.abl H3.out.2.2.2.2.1.bw
      have hB3 : B1 ≤ w3.heap.size := Nat.le_trans HBW.out.1 (Nat.le_of_succ_le_succ HWS.out)
      have hX4 : BoxG w4 w.heap.size (w.heap.size + 1) none 0 0 false := H3.out.2.2.2.2.2.1.fr (Fr.below (X := fun _ => False) HB4.out) (fun e => e) fun e => e
      have hfs : Fr (fun k => k = ab) w4 (w4.setCell ⟨ab, 4, none⟩ (.slice A4 us2.length c4)) := Fr.setCell (X := fun k => k = ab) (Fr.refl _ _) (.inl rfl) _
      have hX5 := hX4.fr hfs (fun e => by have := HS.out.2.2.1; omega) fun e => by have := HS.out.2.2.1; omega
      have hA5 := hA4.setBad A4 us2.length c4
      refine ⟨⟨moreL bads (lack.map (missL n)), A4, c4, us2, Lib.hid ⟨hA5, (hr4.put ⟨ab, 4, none⟩ _ _ k6 (fun _ _ e => by cases e) hab3).down hB3, HPm.out, fun e => absurd (by rw [H3.out.2.2.2.1.sets.1, e]; rfl) HHZ.out, hX5, (H3.out.2.2.2.2.2.2.trans (HB4.out.mono hB3)).setCell (p := ⟨ab, 4, none⟩) H3.out.2.2.2.2.1.ab1 _⟩⟩, ?_⟩
      rw [hA5.badN, HR.out.1.badN]
      have := HHZ.out
      simp
      omega
end Go.Proofs.YtmjdhfbnmmdjiaaDoor

/- told, first, Enough. -/
namespace Go.Proofs.YtmjdhfbnmmdjiaaDoor
open Go.RowKit

attribute [local go_sem ↓] Go.wp_at_zero Go.wp_at_succ

def FirstPost (D : List Int → Prop) (bads : List (List Int)) (n : Int) (ab mb bb B0 B1 : Nat) (w : World) (e : Ending) (w' : World) : Prop := e = .returned (.bool true) ∧ AskAt D bads n ab mb bb B0 B1 none 0 0 w' ∧ Fr (fun k => k = mb) w w' ∧ ∃ l, KMap sk w' mb l ∧ atL (keyB []) l = some (.bool (fitsB bads []))

set_option maxRecDepth 100000 in
set_option maxHeartbeats 8000000 in
theorem first_any (D : List Int → Prop) (hdom : Dom D) (hD0 : D []) (bads : List (List Int)) (n : Int) (ab mb bb B0 B1 : Nat) (w : World) (h : AskAt D bads n ab mb bb B0 B1 none 0 0 w) :
    Calls Tryd.prog 17 #[.pointer (some ⟨ab, 0, none⟩)] w (FirstPost D bads n ab mb bb B0 B1 w) := by
  have Hk := Lib.hid (ask2_any D bads n ab mb bb B0 B1 none 0 0 (none, 0, 0) [] w h ⟨rfl, Nat.le_refl _, fun h => absurd rfl h⟩ hD0 (by simp) (fun _ h => nomatch h) fun t ht he => hdom.inj [] t hD0 ht he)
  obtain ⟨k0, k1, k2, k3, k4⟩ := h.at_
  clear h
  go_enter Tryd.func17, Tryd.ntmps17
  go_wp2_with fail
  refine Hk.out.mono ?_
  rintro e w1 ⟨rfl, hA1, hF1, hK1⟩
  go_wp2_with fail
  go_ret
  exact ⟨rfl, hA1, hF1, hK1⟩

def ToldPost (P : List (List Int) → Prop) (bads : List (List Int)) (n B1 : Nat) (limit : Int) (w : World) (e : Ending) (w' : World) : Prop :=
  ∃ (bR lack zs : List (List Int)) (A : Option Addr) (c : Nat) (us : List (Option Addr × Nat × Nat)), P bR ∧ allP bR lack ∧ moreL bads (lack.map (missL n)) = [] ∧ Srt zs (lack.map (missL n)) ∧ Below B1 w w' ∧ RowsAt w' B1 A c us zs ∧
    e = if (zs.length : Int) > max limit 0 then .returned (.tuple #[.slice none 0 0, .int .i64 11]) else .returned (.tuple #[.slice A zs.length c, .int .i64 0])

set_option maxRecDepth 100000 in
set_option maxHeartbeats 8000000 in
theorem told_any (D : List Int → Prop) (hdom : Dom D) (bads : List (List Int)) (n : Nat) (hn : n ≤ 1000) (ab mb bb B0 B1 : Nat) (P : List (List Int) → Prop) (hP : ∀ bR, P bR → RoundOk D n bR) (hst : ∀ bR lack, P bR → allP bR lack → moreL bads (lack.map (missL n)) ≠ [] → bR = [] ∧ P (moreL bads (lack.map (missL n)))) (hP0 : P []) (limit : Int) (w : World) (h : AskAt D bads n ab mb bb B0 B1 none 0 0 w) :
    Calls Tryd.prog 18 #[.pointer (some ⟨ab, 0, none⟩), .int .i64 limit] w (ToldPost P bads n B1 limit w) := by
  have Hk := Lib.hid (greatest_any D hdom bads n hn ab mb bb B0 B1 P hP hst hP0 w h)
  clear h hP hst hP0 hdom
  go_enter Tryd.func18, Tryd.ntmps18
  go_wp2_with fail
  refine Hk.out.mono ?_
  rintro e w1 ⟨bR, lack, zs, A, c, us, h1, h2, h3, h4, rfl, h5, h6⟩
  have hz := h5.sets.1
  by_cases hlim : (zs.length : Int) > max limit 0
  · go_wp2_with fail
    go_ret2
    exact ⟨bR, lack, zs, A, c, us, h1, h2, h3, h4, h6, h5, by rw [if_pos hlim]; rfl⟩
  · go_wp2_with fail
    go_ret2
    exact ⟨bR, lack, zs, A, c, us, h1, h2, h3, h4, h6, h5, by rw [if_neg (Int.not_lt.2 hlim)]; rfl⟩

def enoughI (n : Int) : Int := if max n 0 > 25 then 1000000000 else min ((max n 0 + 2) * 2 ^ (max n 0).toNat) 1000000000

theorem powE (m : Nat) (h : m ≤ 25) : 2 ^ m ≤ 33554432 := Nat.le_trans (Nat.pow_le_pow_right (by decide) h) (by decide)
theorem wrapE (n : Int) (hn : ¬ max n 0 > 25) : wrap64 ((max n 0 + 2) * 2 ^ (max n 0).toNat) = (max n 0 + 2) * 2 ^ (max n 0).toNat := by
  obtain ⟨m, hm⟩ : ∃ m : Nat, max n 0 = m := ⟨(max n 0).toNat, by omega⟩
  rw [hm] at hn ⊢
  have h1 := powE m (by omega)
  have h2 : ((m : Int) + 2) * 2 ^ (m : Int).toNat = (((m + 2) * 2 ^ m : Nat) : Int) := by
    rw [Int.toNat_natCast]
    push_cast
    rfl
  have h3 : (m + 2) * 2 ^ m ≤ 27 * 33554432 := Nat.mul_le_mul (by omega) h1
  rw [h2]
  unfold wrap64
  omega

set_option maxRecDepth 100000 in
set_option maxHeartbeats 8000000 in
theorem enough_any (n : Int) (w : World) :
    Calls Tryd.prog 5 #[.int .i64 n] w fun e w' => e = .returned (.int .i64 (enoughI n)) ∧ w' = w := by
  go_enter Tryd.func5, Tryd.ntmps5
  by_cases hn : max n 0 > 25
  · go_wp2_with fail
    go_ret
    refine ⟨?_, rfl⟩
    unfold enoughI
    rw [if_pos hn]
    rfl
  · go_wp2_with fail
    go_ret
    refine ⟨?_, rfl⟩
    unfold enoughI
    rw [if_neg (Int.not_lt.2 hn), wrapE n (Int.not_lt.2 hn)]
    rfl
end Go.Proofs.YtmjdhfbnmmdjiaaDoor
