/- Laid together by a tool from the texts of this seat: ChRec. Conditions: each theorem's own. -/
import Derived.Test.YtmjdhfbnmmdjiaaGreatK15
import Derived.Test.YtmjdhfbnmmdjiaaGreatK16
/- The way of a Rec (written by gen_ways2's parts). -/
namespace Go.Proofs.YtmjdhfbnmmdjiaaGreat
open Go.RowKit

/-- A name's row in its box. -/
structure BdM (w : World) (Y : Nat → Prop) (f : Nat) (s : ByteArray) (A : Option Addr) (c : Nat) (t : List Nd) : Prop where
  blk : w.heap[f]? = some (.cells #[.string s, .slice A t.length c] 36 (0, 0))
  off : ¬ Y f
  ty : TyV w Y A c t
theorem BdM.fr {w w' : World} {Y Y' : Nat → Prop} {f c : Nat} {s : ByteArray} {A : Option Addr} {t : List Nd} (h : BdM w Y f s A c t) (hf : Fr Y w w') (hy : YNew Y Y' w) : BdM w' Y' f s A c t := by
  have hb : f < w.heap.size := (Array.getElem?_eq_some_iff.1 h.blk).1
  refine ⟨(hf.block f hb h.off).trans h.blk, fun h2 => ?_, h.ty.fr hf hy⟩
  rcases hy f h2 with h3 | h3
  · exact h.off h3
  · omega
theorem BdM.later {w w' : World} {Y : Nat → Prop} {f c : Nat} {s : ByteArray} {A : Option Addr} {t : List Nd} (h : BdM w Y f s A c t) (hb : Below w.heap.size w w') : BdM w' Y f s A c t := h.fr (Fr.below hb) (YNew.refl _ _)
theorem BdM.cells {w : World} {Y : Nat → Prop} {f c : Nat} {s : ByteArray} {A : Option Addr} {t : List Nd} (h : BdM w Y f s A c t) : w.cell? ⟨f, 0, none⟩ = some (.string s) ∧ w.cell? ⟨f, 1, none⟩ = some (.slice A t.length c) :=
  ⟨by simp [World.cell?, h.blk], by simp [World.cell?, h.blk]⟩
theorem readB_two (w : World) (b c : Bn) : ReadB (w.alloc (.cells #[.string b.s, .slice b.A b.n b.c, .string c.s, .slice c.A c.n c.c] 36)) (w.heap.size + 1) (some ⟨w.heap.size, 0, none⟩) [b, c] := fun _ => by
  refine ⟨w.heap.size, 0, rfl, by omega, fun i x hx j u hu => ?_⟩
  match i, hx with
  | 0, hx =>
    simp at hx
    subst hx
    match j, hu with
    | 0, hu => simp [encB] at hu; subst hu; simp
    | 1, hu => simp [encB] at hu; subst hu; simp
    | j + 2, hu => simp [encB] at hu
  | 1, hx =>
    simp at hx
    subst hx
    match j, hu with
    | 0, hu => simp [encB] at hu; subst hu; simp
    | 1, hu => simp [encB] at hu; subst hu; simp
    | j + 2, hu => simp [encB] at hu
  | i + 2, hx => simp at hx
/-- A box is filled. -/
theorem bdM_set {w : World} {Y : Nat → Prop} {f : Nat} {s : ByteArray} {A : Option Addr} {c : Nat} {t : List Nd} (hb : w.heap[f]? = some (.cells #[.string ⟨#[]⟩, .slice none 0 0] 36 (0, 0))) (hY : ¬ Y f) (ht : TyV w Y A c t) (hA : ∀ a, A = some a → a.block ≠ f ∨ t = []) :
    BdM ((w.setCell ⟨f, 0, none⟩ (.string s)).setCell ⟨f, 1, none⟩ (.slice A t.length c)) Y f s A c t ∧ Fr (fun q => q = f) w ((w.setCell ⟨f, 0, none⟩ (.string s)).setCell ⟨f, 1, none⟩ (.slice A t.length c)) := by
  have hf : Fr (fun q => q = f) w ((w.setCell ⟨f, 0, none⟩ (.string s)).setCell ⟨f, 1, none⟩ (.slice A t.length c)) := (fr_set _ _ _ _).trans (fr_set _ _ _ _)
  refine ⟨⟨?_, hY, fun hne => ?_, ht.cap⟩, hf⟩
  · rw [heap_set (heap_set hb 0 _) 1]
    rfl
  · obtain ⟨b, o, e, h1, h2, h3, h4⟩ := ht.ty hne
    have hbf : b ≠ f := by
      rcases hA _ e with h | h
      · exact h
      · exact absurd h hne
    have hbk := hf.block b h1 hbf
    exact ⟨b, o, e, Nat.lt_of_lt_of_le h1 hf.size, h2, h3.mono fun off => by simp [World.cell?, hbk], h4.imp (of_keep hbk) fun h => h⟩
/-- What stands off a new block stays. -/
theorem WkE.off {P : Nat} {es : List Pt} {env : Env} {s : StW} {Y : Nat → Prop} {w w1 w2 : World} {f : Nat} (h : WkE P es env s Y w) (hb : Below w.heap.size w w1) (hf : Fr (fun q => q = f) w1 w2) (hn : w.heap.size ≤ f) : WkE P es env s Y w2 :=
  h.later (Fr.toBelow (Fr.new (Fr.below hb) hf (fun b e => .inr (by omega)) : Fr (fun _ => False) w w2) fun k e => e.elim)

set_option maxRecDepth 100000 in
set_option maxHeartbeats 8000000 in
theorem rec_any (P : Nat) (es : List Pt) (nx : Nx) (HN : Hid (NextC P es nx)) (env : Env) (p : Pt) (at0 a : Nat) (r : Ans) (Y : Nat → Prop) (w : World) (TA UA : Option Addr) (tc uc : Nat) (h : WkE P es env (.ok a) Y w) (hT : TyV w Y TA tc p.T) (hU : TyV w Y UA uc p.U) (gT : Gd p.T) (gU : Gd p.U) (hvl : env.length ≤ 900000) (hG : ∀ env a t b, nx env a = some (.ok (t, b)) → Gd t) (hm : recM nx env p at0 a = some r) :
    Calls Tryz.prog 69 #[pk P, pv p TA tc UA uc, .int .i64 at0] w (WyPost P es env Y r w) := by
  obtain ⟨w1, hw1⟩ : ∃ w1, w1 = w.alloc (.cells #[.int .i64 p.k, .string p.lb, .string p.nm, .string p.bd, .int .i64 p.mn, .int .i64 p.num, .slice TA p.T.length tc, .slice UA p.U.length uc] 33) := ⟨_, rfl⟩
  have hpm := PtM.new h.lt hT hU
  have hb1 : Below w.heap.size w w1 := by rw [hw1]; exact ext_alloc (Below.refl _ _) _
  rw [← hw1] at hpm
  have HPM := Lib.hid hpm
  have HB := Lib.hid hb1
  have H := Lib.hid (h.later hb1)
  have HR := Lib.hid (andA_some hm)
  have HD := Lib.hid (And.intro gT (And.intro gU (And.intro hG hvl)))
  have HL := Lib.hid h.lt
  clear h hT hU hm hG hpm hb1
  unfold pk pv
  go_enter Tryz.func69, Tryz.ntmps69
  go_upto_region 1 with fail
  rw [← hw1]
  clear hw1
  apply share
  case h =>
    intro HT
    obtain ⟨SS, hSS⟩ : ∃ SS : World → Prop, SS = fun v => v.cell? ⟨w.heap.size, 2, none⟩ = some (.string p.nm) ∧ v.cell? ⟨w.heap.size, 3, none⟩ = some (.string p.bd) ∧ v.cell? ⟨w.heap.size, 6, none⟩ = some (.slice TA p.T.length tc) ∧ v.cell? ⟨w.heap.size, 7, none⟩ = some (.slice UA p.U.length uc) := ⟨_, rfl⟩
    have HS : Hid (∀ v Y', PtM v Y' w.heap.size p TA tc UA uc → SS v) := Lib.hid fun v Y' hv => by rw [hSS]; exact ⟨hv.cells.2.2.1, hv.cells.2.2.2.1, hv.cells.2.2.2.2.2.1, hv.cells.2.2.2.2.2.2⟩
    obtain ⟨wd, hwd⟩ : ∃ wd, wd = w1.drew := ⟨_, rfl⟩
    have HBd : Hid (Below w1.heap.size w1 wd) := Lib.hid (by rw [hwd]; exact (Below.refl _ _).drew)
    have HMd := Lib.hid (HPM.out.later HBd.out)
    have HWd := Lib.hid (H.out.later HBd.out)
    have HFd : Hid (Fr Y w wd ∧ YNew Y Y w) := Lib.hid ⟨Fr.below (ext_trans HB.out HBd.out), YNew.refl _ _⟩
    have hsd : SS wd := HS.out _ _ HMd.out
    refine wp_region_L_drew (S := SS) [9] (by kernel_rfl) (by rw [← hwd]; exact hsd) (fun hHeld => ?_)
    rw [← hwd] at hHeld ⊢
    clear hwd
    refine onA 0 [1, 7, 9] (some 8) rfl rfl ?_
    refine onA 1 [7, 9] (some 9) rfl rfl ?_
    refine onA 2 [3, 6, 7, 9] (some 10) rfl rfl ?_
    refine onA 3 [6, 7, 9] (some 11) rfl rfl ?_
    refine onA 4 [5, 6, 7, 9] (some 12) rfl rfl ?_
    refine onA 5 [6, 7, 9] (some 13) rfl rfl ?_
    have HAR := Lib.hid (fun v (hv : Below wd.heap.size wd v) => pArrow_any TA UA tc uc p.T p.U v (HMd.out.later hv).T.ty.tyA (HMd.out.later hv).U.ty.tyA (by have := HD.out.1.len; have := HD.out.2.1.len; omega))
    refine twoL 6 8 (by kernel_rfl) rfl rfl (by rfl) (by rfl) ?_ ?_
    · refine opCall (some 14) rfl (by kernel_rfl) (HAR.out wd (Below.refl _ _)) ?_
      rintro e w2 ⟨A1, c1, rfl, hown, hb⟩
      have HM2 := Lib.hid (HMd.out.later hb)
      have HB2 := Lib.hid hb
      have HO := Lib.hid hown
      clear hown hb
      refine ⟨_, rfl, fun _ => HS.out _ _ HM2.out, ?_⟩
      refine putA ?_
      refine onA 7 [9] (some 15) rfl rfl (hS := HS.out _ _ HM2.out) ?_
      refine valL 8 (some 7) (v := ?_) (w' := ?_) rfl rfl (by kernel_rfl) (by rfl) ?_ (fun _ => ?_) ?_
      rotate_left
      rotate_left
      · (go_simp; first | with_reducible rfl | (constructor <;> with_reducible rfl))
      · exact HS.out _ _ (HM2.out.later (ext_alloc (Below.refl _ _) _))
      refine putA ?_
      obtain ⟨w3, hw3⟩ : ∃ w3, w3 = w2.alloc (.cells #[.string ⟨#[]⟩, .slice none 0 0] 36) := ⟨_, rfl⟩
      have hb3 : w3.heap[w2.heap.size]? = some (.cells #[.string ⟨#[]⟩, .slice none 0 0] 36 (0, 0)) := by rw [hw3]; exact heap_alloc_new _ _
      have HB3 : Hid (Below w2.heap.size w2 w3) := Lib.hid (by rw [hw3]; exact ext_alloc (Below.refl _ _) _)
      rw [← hw3]
      clear hw3
      have g0 : w3.cell? ⟨w2.heap.size, 0, none⟩ = some (.string ⟨#[]⟩) := by simp [World.cell?, hb3]
      have g1 : w3.cell? ⟨w2.heap.size, 1, none⟩ = some (.slice none 0 0) := by simp [World.cell?, hb3]
      have f0 : w3.frozen? ⟨w2.heap.size, 0, none⟩ = false := by simp [World.frozen?, hb3]
      have f1 : w3.frozen? ⟨w2.heap.size, 1, none⟩ = false := by simp [World.frozen?, hb3]
      refine skipL 9 none (w' := ?_) rfl rfl (by kernel_rfl) (by rfl) ?_ (zL (by kernel_rfl)) ?_
      rotate_left
      · (go_simp; try with_reducible rfl)
      refine putA ?_
      refine doneL (by kernel_rfl) ?_ _
      have HQ : Hid (Fr Y w ((w3.setCell ⟨w2.heap.size, 0, none⟩ (.string p.nm)).setCell ⟨w2.heap.size, 1, none⟩ (.slice A1 (arrowN p.T p.U).length c1)) ∧ WkE P es env (.ok a) Y ((w3.setCell ⟨w2.heap.size, 0, none⟩ (.string p.nm)).setCell ⟨w2.heap.size, 1, none⟩ (.slice A1 (arrowN p.T p.U).length c1)) ∧ PtM ((w3.setCell ⟨w2.heap.size, 0, none⟩ (.string p.nm)).setCell ⟨w2.heap.size, 1, none⟩ (.slice A1 (arrowN p.T p.U).length c1)) Y w.heap.size p TA tc UA uc ∧ BdM ((w3.setCell ⟨w2.heap.size, 0, none⟩ (.string p.nm)).setCell ⟨w2.heap.size, 1, none⟩ (.slice A1 (arrowN p.T p.U).length c1)) Y w2.heap.size p.nm A1 c1 (arrowN p.T p.U)) := Lib.hid (by
        have hY2 : ¬ Y w2.heap.size := fun h => by have := HWd.out.lt _ h; have := HB2.out.size; omega
        have ht : TyV w3 Y A1 c1 (arrowN p.T p.U) := (TyV.own HO.out HWd.out.lt).later HB3.out
        have hs := bdM_set (s := p.nm) hb3 hY2 ht (fun a ha => .inl (by have := (OwnL.lt HO.out a ha).2; omega))
        have hbd := ext_trans HB2.out HB3.out
        have hn : wd.heap.size ≤ w2.heap.size := HB2.out.size
        have hbb := (Fr.toBelow (Fr.new (Fr.below hbd) hs.2 (fun b e => .inr (by omega)) : Fr (fun _ => False) wd _) fun k e => e.elim)
        exact ⟨HFd.out.1.trans (Fr.below hbb), HWd.out.later hbb, HMd.out.later hbb, hs.1⟩)
      obtain ⟨w5, hw5⟩ : ∃ w5, w5 = (w3.setCell ⟨w2.heap.size, 0, none⟩ (.string p.nm)).setCell ⟨w2.heap.size, 1, none⟩ (.slice A1 (arrowN p.T p.U).length c1) := ⟨_, rfl⟩
      rw [← hw5] at HQ ⊢
      obtain ⟨ff, hff⟩ : ∃ ff, ff = w2.heap.size := ⟨_, rfl⟩
      rw [← hff] at HQ ⊢
      clear hw5 hff hb3 g0 g1 f0 f1 HO
      revert HQ
      revert w5 ff A1 c1
      exact HT.out
    · refine opVal (some 7) (v := ?_) (w' := ?_) rfl ?_ ?_
      rotate_left
      rotate_left
      · (go_simp; first | with_reducible rfl | (constructor <;> with_reducible rfl))
      refine ⟨fun _ => HS.out _ _ (HMd.out.later (ext_alloc (Below.refl _ _) _)), ?_⟩
      refine putA ?_
      obtain ⟨w2, hw2⟩ : ∃ w2, w2 = wd.alloc (.cells #[.string ⟨#[]⟩, .slice none 0 0] 36) := ⟨_, rfl⟩
      have hb2 : w2.heap[wd.heap.size]? = some (.cells #[.string ⟨#[]⟩, .slice none 0 0] 36 (0, 0)) := by rw [hw2]; exact heap_alloc_new _ _
      have HB2 : Hid (Below wd.heap.size wd w2) := Lib.hid (by rw [hw2]; exact ext_alloc (Below.refl _ _) _)
      rw [← hw2]
      clear hw2
      refine callL 6 (some 14) rfl rfl (by kernel_rfl) (by rfl) (by kernel_rfl) (HAR.out w2 HB2.out) ?_
      rintro e w3 ⟨A1, c1, rfl, hown, hb⟩
      have hlt2 : wd.heap.size < w2.heap.size := (Array.getElem?_eq_some_iff.1 hb2).1
      have hb3 : w3.heap[wd.heap.size]? = some (.cells #[.string ⟨#[]⟩, .slice none 0 0] 36 (0, 0)) := (hb.block _ hlt2).trans hb2
      have HB3 := Lib.hid hb
      have HM3 := Lib.hid (HMd.out.later (ext_trans HB2.out hb))
      have HO := Lib.hid hown
      clear hown hb
      refine ⟨_, rfl, HS.out _ _ HM3.out, ?_⟩
      refine putA ?_
      refine onA 7 [9] (some 15) rfl rfl (hS := HS.out _ _ HM3.out) ?_
      have g0 : w3.cell? ⟨wd.heap.size, 0, none⟩ = some (.string ⟨#[]⟩) := by simp [World.cell?, hb3]
      have g1 : w3.cell? ⟨wd.heap.size, 1, none⟩ = some (.slice none 0 0) := by simp [World.cell?, hb3]
      have f0 : w3.frozen? ⟨wd.heap.size, 0, none⟩ = false := by simp [World.frozen?, hb3]
      have f1 : w3.frozen? ⟨wd.heap.size, 1, none⟩ = false := by simp [World.frozen?, hb3]
      refine skipL 9 none (w' := ?_) rfl rfl (by kernel_rfl) (by rfl) ?_ (zL (by kernel_rfl)) ?_
      rotate_left
      · (go_simp; try with_reducible rfl)
      refine putA ?_
      refine doneL (by kernel_rfl) ?_ _
      have HQ : Hid (Fr Y w ((w3.setCell ⟨wd.heap.size, 0, none⟩ (.string p.nm)).setCell ⟨wd.heap.size, 1, none⟩ (.slice A1 (arrowN p.T p.U).length c1)) ∧ WkE P es env (.ok a) Y ((w3.setCell ⟨wd.heap.size, 0, none⟩ (.string p.nm)).setCell ⟨wd.heap.size, 1, none⟩ (.slice A1 (arrowN p.T p.U).length c1)) ∧ PtM ((w3.setCell ⟨wd.heap.size, 0, none⟩ (.string p.nm)).setCell ⟨wd.heap.size, 1, none⟩ (.slice A1 (arrowN p.T p.U).length c1)) Y w.heap.size p TA tc UA uc ∧ BdM ((w3.setCell ⟨wd.heap.size, 0, none⟩ (.string p.nm)).setCell ⟨wd.heap.size, 1, none⟩ (.slice A1 (arrowN p.T p.U).length c1)) Y wd.heap.size p.nm A1 c1 (arrowN p.T p.U)) := Lib.hid (by
        have hY2 : ¬ Y wd.heap.size := fun h => by have := HWd.out.lt _ h; omega
        have ht : TyV w3 Y A1 c1 (arrowN p.T p.U) := TyV.own HO.out (fun q hq => by have := HWd.out.lt _ hq; omega)
        have hs := bdM_set (s := p.nm) hb3 hY2 ht (fun a ha => .inl (by have := (OwnL.lt HO.out a ha).1; omega))
        have hbd := ext_trans HB2.out HB3.out
        have hbb := (Fr.toBelow (Fr.new (Fr.below hbd) hs.2 (fun b e => .inr (by omega)) : Fr (fun _ => False) wd _) fun k e => e.elim)
        exact ⟨HFd.out.1.trans (Fr.below hbb), HWd.out.later hbb, HMd.out.later hbb, hs.1⟩)
      obtain ⟨w5, hw5⟩ : ∃ w5, w5 = (w3.setCell ⟨wd.heap.size, 0, none⟩ (.string p.nm)).setCell ⟨wd.heap.size, 1, none⟩ (.slice A1 (arrowN p.T p.U).length c1) := ⟨_, rfl⟩
      rw [← hw5] at HQ ⊢
      obtain ⟨ff, hff⟩ : ∃ ff, ff = wd.heap.size := ⟨_, rfl⟩
      rw [← hff] at HQ ⊢
      clear hw5 hff hb3 g0 g1 f0 f1 HO
      revert HQ
      revert w5 ff A1 c1
      exact HT.out
  case t =>
    intro A1 c1 w5 ff HQ
    have G := HQ
    clear HQ HPM HB H
    go_upto_region 2 with fail
    obtain ⟨SS, hSS⟩ : ∃ SS : World → Prop, SS = fun v => v.cell? ⟨w.heap.size, 2, none⟩ = some (.string p.nm) ∧ v.cell? ⟨w.heap.size, 3, none⟩ = some (.string p.bd) ∧ v.cell? ⟨w.heap.size, 6, none⟩ = some (.slice TA p.T.length tc) ∧ v.cell? ⟨w.heap.size, 7, none⟩ = some (.slice UA p.U.length uc) ∧ v.cell? ⟨ff, 0, none⟩ = some (.string p.nm) ∧ v.cell? ⟨ff, 1, none⟩ = some (.slice A1 (arrowN p.T p.U).length c1) := ⟨_, rfl⟩
    have HS : Hid (∀ v Y', PtM v Y' w.heap.size p TA tc UA uc → BdM v Y' ff p.nm A1 c1 (arrowN p.T p.U) → SS v) := Lib.hid fun v Y' hv hb => by rw [hSS]; exact ⟨hv.cells.2.2.1, hv.cells.2.2.2.1, hv.cells.2.2.2.2.2.1, hv.cells.2.2.2.2.2.2, hb.cells⟩
    obtain ⟨wd, hwd⟩ : ∃ wd, wd = w5.drew := ⟨_, rfl⟩
    have hBd : Below w5.heap.size w5 wd := by rw [hwd]; exact (Below.refl _ _).drew
    have HBM := Lib.hid (G.out.2.2.2.later hBd)
    have HMd := Lib.hid (G.out.2.2.1.later hBd)
    have HWd := Lib.hid (G.out.2.1.later hBd)
    have HFd : Hid (Fr Y w wd ∧ YNew Y Y w) := Lib.hid ⟨G.out.1.trans (Fr.below hBd), YNew.refl _ _⟩
    have hsd : SS wd := HS.out _ _ HMd.out HBM.out
    refine wp_region_L_drew (S := SS) [13] (by kernel_rfl) (by rw [← hwd]; exact hsd) (fun hHeld => ?_)
    rw [← hwd] at hHeld ⊢
    clear hwd hBd
    refine onA 0 [13] (some 16) rfl rfl ?_
    refine onA 1 [9, 13] (some 17) rfl rfl ?_
    refine onA 2 [8, 9, 13] (some 18) rfl rfl ?_
    refine onA 3 [4, 7, 8, 9, 13] (some 19) rfl rfl ?_
    refine onA 4 [7, 8, 9, 13] (some 20) rfl rfl ?_
    refine onA 5 [6, 7, 8, 9, 13] (some 21) rfl rfl ?_
    refine onA 6 [7, 8, 9, 13] (some 22) rfl rfl ?_
    refine onA 7 [8, 9, 13] (some 23) rfl rfl ?_
    refine onA 10 [11, 13] (some 26) rfl rfl ?_
    refine onA 11 [13] (some 27) rfl rfl ?_
    refine onA 12 [13] (some 28) rfl rfl ?_
    refine valL 8 (some 24) (v := ?_) (w' := ?_) rfl rfl (by kernel_rfl) (by rfl) ?_ (fun _ => ?_) ?_
    rotate_left
    rotate_left
    · (go_simp; first | with_reducible rfl | (constructor <;> with_reducible rfl))
    · exact HS.out _ _ (HMd.out.later (ext_alloc (Below.refl _ _) _)) (HBM.out.later (ext_alloc (Below.refl _ _) _))
    refine putA ?_
    obtain ⟨we, hwe⟩ : ∃ we, we = wd.alloc (.cells #[.string p.nm, .slice A1 (arrowN p.T p.U).length c1, .string p.bd, .slice TA p.T.length tc] 36) := ⟨_, rfl⟩
    have HBe : Hid (Below wd.heap.size wd we) := Lib.hid (by rw [hwe]; exact ext_alloc (Below.refl _ _) _)
    have HX := Lib.hid (fun r1 (h1 : nx (env ++ [(p.nm, arrowN p.T p.U), (p.bd, p.T)]) a = some r1) => with_any P es nx HN env [(p.nm, arrowN p.T p.U), (p.bd, p.T)] (.ok a) r1 (some ⟨wd.heap.size, 0, none⟩) 2 [⟨p.nm, A1, (arrowN p.T p.U).length, c1⟩, ⟨p.bd, TA, p.T.length, tc⟩] Y we (HWd.out.later HBe.out) (by rw [hwe, World.size_alloc]; exact readB_two wd ⟨p.nm, A1, (arrowN p.T p.U).length, c1⟩ ⟨p.bd, TA, p.T.length, tc⟩) (EnvM.app (EnvM.one (HBM.out.later HBe.out).ty rfl) (EnvM.one (HMd.out.later HBe.out).T rfl)) (by simp) HD.out.2.2.2 h1)
    unfold pk at HX
    have HF1 : Hid (Fr Y w we ∧ PtM we Y w.heap.size p TA tc UA uc ∧ BdM we Y ff p.nm A1 c1 (arrowN p.T p.U)) := Lib.hid ⟨HFd.out.1.trans (Fr.below HBe.out), HMd.out.later HBe.out, HBM.out.later HBe.out⟩
    rw [← hwe]
    clear hwe
    rcases HR.out with ⟨x, h1, hr⟩ | ⟨t, b, h1, hr⟩
    · refine callL 9 (some 25) rfl rfl (by kernel_rfl) (by rfl) (by kernel_rfl) (HX.out _ h1) ?_
      rintro e w2 ⟨Y2, hf2, hy2, hk2, rfl⟩
      have HM2 := Lib.hid (HF1.out.2.1.fr hf2 hy2)
      have HB2 := Lib.hid (HF1.out.2.2.fr hf2 hy2)
      refine ⟨_, rfl, HS.out _ _ HM2.out HB2.out, ?_⟩
      refine putA ?_
      have HF2 : Hid (Fr Y w w2 ∧ YNew Y Y2 w) := Lib.hid ⟨Fr.new HF1.out.1 hf2 (YNew.refl _ _), YNew.trans (YNew.refl _ _) hy2 HF1.out.1.size⟩
      have HX2 := Lib.hid (agree_bad P es env x (.slice none 0 0) (.slice UA p.U.length uc) at0 Y2 w2 hk2)
      unfold pk at HX2
      refine callL 13 (some 29) rfl rfl (by kernel_rfl) (by rfl) (by kernel_rfl) HX2.out ?_
      rintro e w3 ⟨⟨v3, rfl⟩, hf3, hk3⟩
      have HM3 := Lib.hid (HM2.out.fr hf3 (YNew.refl _ _))
      have HB3 := Lib.hid (HB2.out.fr hf3 (YNew.refl _ _))
      refine ⟨_, rfl, HS.out _ _ HM3.out HB3.out, ?_⟩
      refine putA ?_
      refine doneL (by kernel_rfl) ?_ _
      go_upto_region 3 with fail
      have HX3 := Lib.hid (with_any P es nx HN env [(p.nm, arrowN p.T p.U)] (.error x) r (some ⟨w3.heap.size, 0, none⟩) 1 [⟨p.nm, A1, (arrowN p.T p.U).length, c1⟩] Y2 (w3.alloc (.cells #[.string p.nm, .slice A1 (arrowN p.T p.U).length c1] 36)) (hk3.later (ext_alloc (Below.refl _ _) _)) (by rw [World.size_alloc]; exact readB_new w3 ⟨p.nm, A1, (arrowN p.T p.U).length, c1⟩) (EnvM.one (HB3.out.later (ext_alloc (Below.refl _ _) _)).ty rfl) (by simp) HD.out.2.2.2 (by rw [hr]; rfl))
      have HF3 : Hid (Fr Y w (w3.alloc (.cells #[.string p.nm, .slice A1 (arrowN p.T p.U).length c1] 36)) ∧ YNew Y Y2 w) := Lib.hid ⟨(Fr.new HF2.out.1 hf3 HF2.out.2).alloc _, HF2.out.2⟩
      obtain ⟨k0, k1⟩ := HB3.out.cells
      unfold pk at HX3
      clear hf2 hy2 hk2 hf3 hk3 hHeld hsd h1 hr
      go_wp2_with fail
      refine HX3.out.mono ?_
      intro e w4 hp
      have HQ := Lib.hid (hp.to HF3.out.1 HF3.out.2)
      clear hp
      obtain ⟨v9, hv9⟩ := HQ.out.ret
      subst hv9
      clear k0 k1
      go_wp2_with fail
      go_ret
      exact HQ.out
    · refine callL 9 (some 25) rfl rfl (by kernel_rfl) (by rfl) (by kernel_rfl) (HX.out _ h1) ?_
      rintro e w2 ⟨Y2, hf2, hy2, hk2, A2, c2, rfl, ht2⟩
      have HM2 := Lib.hid (HF1.out.2.1.fr hf2 hy2)
      have HB2 := Lib.hid (HF1.out.2.2.fr hf2 hy2)
      refine ⟨_, rfl, HS.out _ _ HM2.out HB2.out, ?_⟩
      refine putA ?_
      have HF2 : Hid (Fr Y w w2 ∧ YNew Y Y2 w) := Lib.hid ⟨Fr.new HF1.out.1 hf2 (YNew.refl _ _), YNew.trans (YNew.refl _ _) hy2 HF1.out.1.size⟩
      have HX2 := Lib.hid (agree_ok P es env b A2 UA c2 uc t p.U at0 Y2 w2 hk2 ht2.ty HM2.out.U.ty (HD.out.2.2.1 _ _ _ _ h1) HD.out.2.1)
      unfold pk at HX2
      refine callL 13 (some 29) rfl rfl (by kernel_rfl) (by rfl) (by kernel_rfl) HX2.out ?_
      rintro e w3 ⟨⟨v3, rfl⟩, hf3, hk3⟩
      have HM3 := Lib.hid (HM2.out.fr hf3 (YNew.refl _ _))
      have HB3 := Lib.hid (HB2.out.fr hf3 (YNew.refl _ _))
      refine ⟨_, rfl, HS.out _ _ HM3.out HB3.out, ?_⟩
      refine putA ?_
      refine doneL (by kernel_rfl) ?_ _
      go_upto_region 3 with fail
      have HX3 := Lib.hid (with_any P es nx HN env [(p.nm, arrowN p.T p.U)] (agS t p.U at0 b) r (some ⟨w3.heap.size, 0, none⟩) 1 [⟨p.nm, A1, (arrowN p.T p.U).length, c1⟩] Y2 (w3.alloc (.cells #[.string p.nm, .slice A1 (arrowN p.T p.U).length c1] 36)) (hk3.later (ext_alloc (Below.refl _ _) _)) (by rw [World.size_alloc]; exact readB_new w3 ⟨p.nm, A1, (arrowN p.T p.U).length, c1⟩) (EnvM.one (HB3.out.later (ext_alloc (Below.refl _ _) _)).ty rfl) (by simp) HD.out.2.2.2 hr)
      have HF3 : Hid (Fr Y w (w3.alloc (.cells #[.string p.nm, .slice A1 (arrowN p.T p.U).length c1] 36)) ∧ YNew Y Y2 w) := Lib.hid ⟨(Fr.new HF2.out.1 hf3 HF2.out.2).alloc _, HF2.out.2⟩
      obtain ⟨k0, k1⟩ := HB3.out.cells
      unfold pk at HX3
      clear hf2 hy2 hk2 hf3 hk3 hHeld hsd h1 hr ht2
      go_wp2_with fail
      refine HX3.out.mono ?_
      intro e w4 hp
      have HQ := Lib.hid (hp.to HF3.out.1 HF3.out.2)
      clear hp
      obtain ⟨v9, hv9⟩ := HQ.out.ret
      subst hv9
      clear k0 k1
      go_wp2_with fail
      go_ret
      exact HQ.out
end Go.Proofs.YtmjdhfbnmmdjiaaGreat
