/- Laid together by a tool from the texts of this seat: TrI TrR TrS TrT RowG. Conditions: each theorem's own. -/
import Derived.Test.YtblfeokjlecgkaaT11
import Derived.Test.YtblfeokjlecgkaaT05
import Derived.Test.YtblfeokjlecgkaaT10
/- Types that are read from tokens, walked: a type, out of what stands in it. -/
namespace Go.Proofs.Ytblfeokjlecgkaa
open Go.RowKit

attribute [local go_sem ↓] Go.wp_at_zero Go.wp_at_succ

section
variable {rb c : Nat} {A SA SA' : Option Addr} {L : List Tk} {s0 : Int} {w w1 w' : World} {B : Option Addr} {t : List Nd} {st : RS} {sc : Nat}
theorem tyA_fr {Y : Nat → Prop} {xs : List Nd} {Z : Nat} (h : TyA w Z B xs) (hf : Fr Y w w') (hB : Z ≤ w.heap.size) (hn : ∀ a, B = some a → ¬ Y a.block) : TyA w' Z B xs := by
  refine ReadL.tyA fun hne => ?_
  obtain ⟨b, o, hA, hb, hr⟩ := h.readL hne
  refine ⟨b, o, hA, hb, fun i x hx j u hu => ?_⟩
  exact (World.cell?_of_block (a := ⟨b, o + i * 3 + j, none⟩) (hf.block b (Nat.lt_of_lt_of_le hb hB) (hn _ hA))).trans (hr i x hx j u hu)
theorem HasT.step (h : HasT w w1 B t SA) (k : RStep rb SA SA' w1 w') (hr : rb < w.heap.size) : HasT w w' B t SA' := by
  refine ⟨(tyA_fr h.t k.fr (Nat.le_refl _) fun a ha hx => ?_).more k.fr.size, h.lo, fun a ha => Nat.lt_of_lt_of_le (h.hi a ha) k.fr.size, fun a ha b hb => ?_⟩
  · have h1 := h.lo a ha
    rcases hx with hx | ⟨b, hb, hx⟩
    · omega
    · exact h.off a ha b hb hx
  · have h1 := h.lo a ha
    have h2 := h.hi a ha
    rcases k.sa b hb with (hx | ⟨b', hb', hx⟩) | hx
    · omega
    · rw [← hx]; exact h.off a ha b' hb'
    · omega
theorem HasT.down (h : HasT w1 w' B t SA) (k : w.heap.size ≤ w1.heap.size) : HasT w w' B t SA := ⟨h.t, fun a ha => Nat.le_trans k (h.lo a ha), h.hi, h.off⟩
theorem RdO.later (h : RdO w rb A c L s0 st SA sc) (hb : Below w.heap.size w w') : RdO w' rb A c L s0 st SA sc := ⟨h.m.later hb, h.o.below hb (Nat.le_refl _)⟩
theorem RdO.own {p : Nat} (h : RdO w rb A c L s0 st SA sc) (hm : RdM w' rb A c L p (s0 + (st.si.length : Int)) SA st.si.length sc) (hf : Fr (fun k => k = rb) w w') : RdO w' rb A c L s0 ⟨p, st.si⟩ SA sc := ⟨hm, h.o.fr hf fun b hb => by omega⟩
theorem RdO.put (h : RdO w rb A c L s0 st SA sc) (q : Nat) : RdO (w.setCell ⟨rb, 1, none⟩ (.int .i64 q)) rb A c L s0 ⟨q, st.si⟩ SA sc := h.own (h.m.setP q) (Fr.setCell (X := fun k => k = rb) (Fr.refl _ _) (.inl rfl) _)
end

/-- What reads a type at a level. -/
def ReadsT (rb : Nat) (A : Option Addr) (c : Nat) (L : List Tk) (s0 : Int) (lv : Int) (W : RS → RRes) : Prop :=
  ∀ (st : RS) (SA : Option Addr) (sc : Nat) (w : World), RdO w rb A c L s0 st SA sc → st.pos ≤ L.length → st.si.length ≤ st.pos →
    Calls Try.prog 122 #[pk rb, .int .i64 lv] w (WPost rb A c L s0 SA w (W st))

set_option maxRecDepth 100000 in
set_option maxHeartbeats 8000000 in
theorem whole_step {rb c sc : Nat} {A SA : Option Addr} {L : List Tk} {s0 : Int} {st : RS} {w : World} {lv : Int} {W : Option (RS → RRes)} {r : RRes} (h : RdO w rb A c L s0 st SA sc) (hL : L.length ≤ 100000) (hp : st.pos ≤ L.length) (hs : st.si.length ≤ st.pos) (h0 : 0 ≤ lv)
    (hW : GoodO L W) (hn : W = none → 100 ≤ lv) (hy : ∀ W', W = some W' → lv < 100 ∧ ReadsT rb A c L s0 (lv + 1) W')
    (hr : GoodR L st r) (ha : Calls Try.prog 153 #[pk rb, .int .i64 lv] w (WPost rb A c L s0 SA w r)) :
    Calls Try.prog 122 #[pk rb, .int .i64 lv] w (WPost rb A c L s0 SA w (arrF L W r)) := by
  have H := Lib.hid h
  have HA := Lib.hid ha
  have HL := Lib.hid hL
  have HP := Lib.hid hp
  have HS := Lib.hid hs
  have HN := Lib.hid hn
  have HY := Lib.hid hy
  have HW := Lib.hid hW
  have HR := Lib.hid hr
  have hrl := Lib.hid h.m.r.lt
  clear h ha hL hp hs hn hy hW hr
  unfold pk at *
  cases r with
  | bad p x =>
    go_enter Try.func122, Try.ntmps122
    go_wp2_with fail
    refine HA.out.mono ?_
    rintro e w1 ⟨rfl, SA', hs'⟩
    exact ⟨rfl, rfl, SA', hs'⟩
  | ok a st1 =>
    obtain ⟨q, hq⟩ : ∃ q, q = arrF L W (.ok a st1) := ⟨_, rfl⟩
    rw [← hq]
    have HQ := Lib.hid hq
    clear hq
    go_enter Try.func122, Try.ntmps122
    go_wp2_with fail
    refine HA.out.mono ?_
    rintro e w1 ⟨B, cb, SA1, sc1, rfl, h1, t1, s1⟩
    have H1 := Lib.hid h1
    have T1 := Lib.hid t1
    have S1 := Lib.hid s1
    have HI := Lib.hid (is_any h1.m sArr)
    unfold pk at HI
    clear h1 t1 s1
    cases hx : isS L st1.pos sArr with
    | false =>
      rw [hx] at HI
      have HX := Lib.hid hx
      clear hx
      go_wp2_with fail
      refine HI.out.mono ?_
      rintro e w2 ⟨rfl, hb⟩
      have HB := Lib.hid hb
      clear hb
      go_wp2_with fail
      go_ret
      have e1 : arrF L W (.ok a st1) = .ok a st1 := by simp [arrF, HX.out]
      rw [HQ.out, e1]
      exact ⟨B, cb, SA1, sc1, rfl, H1.out.later HB.out, T1.out.step (RStep.below HB.out) hrl.out, S1.out.trans (RStep.below HB.out)⟩
    | true =>
      rw [hx] at HI
      have HX := Lib.hid hx
      clear hx
      go_wp2_with fail
      refine HI.out.mono ?_
      rintro e w2 ⟨rfl, hb⟩
      have H2 := Lib.hid (H1.out.later hb)
      have T2 := Lib.hid (T1.out.step (RStep.below (rb := rb) (SA := SA1) hb) hrl.out)
      have S2 := Lib.hid (S1.out.trans (RStep.below hb))
      have HD := Lib.hid (down_any H2.out.m lv h0)
      unfold pk at HD
      clear hb
      go_wp2_with fail
      refine HD.out.mono ?_
      rintro e w3 ⟨hb, hd | hd⟩
      · obtain ⟨hd1, rfl⟩ := hd
        have e1 : arrF L W (.ok a st1) = .bad st1.pos 4 := by
          cases hw : W with
          | none => simp [arrF, HX.out]
          | some W' => exact absurd (HY.out W' hw).1 (by omega)
        refine ⟨rfl, ?_⟩
        rw [HQ.out, e1]
        exact ⟨rfl, SA1, S2.out.trans (RStep.below hb)⟩
      · obtain ⟨hd1, rfl⟩ := hd
        cases hw : W with
        | none => exact absurd (HN.out hw) (by omega)
        | some W' =>
          have hlt := isS_lt HX.out
          have h3 := H2.out.later hb
          obtain ⟨f1, f2, f3, m, f4, f5⟩ := HR.out
          have hml : st1.si.length = st.si.length + m.length := by rw [f4, List.length_append]
          have hs1 : st1.si.length ≤ st1.pos := by have := HS.out; omega
          have H4 : RdO (w3.setCell ⟨rb, 1, none⟩ (.int .i64 ((st1.pos : Int) + 1))) rb A c L s0 ⟨st1.pos + 1, st1.si⟩ SA1 sc1 := h3.put (st1.pos + 1)
          have HZ := Lib.hid ((HY.out W' hw).2 ⟨st1.pos + 1, st1.si⟩ SA1 sc1 _ H4 (by dsimp only; omega) (by dsimp only; omega))
          have GZ := Lib.hid (HW.out W' hw ⟨st1.pos + 1, st1.si⟩ (by dsimp only; omega))
          have S4 : RStep rb SA1 SA1 w2 (w3.setCell ⟨rb, 1, none⟩ (.int .i64 ((st1.pos : Int) + 1))) := (RStep.below hb).trans (RStep.own (Fr.setCell (X := fun k => k = rb) (Fr.refl _ _) (.inl rfl) _))
          have T4 := Lib.hid (T2.out.step S4 hrl.out)
          have S5 := Lib.hid (S2.out.trans S4)
          have k1 := h3.m.r.at_
          have k2 := h3.m.r.fz
          have e1 : IntKind.i64.wrap ((st1.pos : Int) + 1) = (st1.pos : Int) + 1 := IntWalk.i64_in _ (by have := HL.out; omega)
          have HF := Lib.hid (And.intro f2 hlt)
          clear f1 f2 f3 f4 f5 hml hs1 H4 S4 hb h3 hlt
          unfold pk at HZ
          cases hz : W' ⟨st1.pos + 1, st1.si⟩ with
          | bad p x =>
            rw [hz] at HZ
            have e2 : arrF L W (.ok a st1) = .bad p x := by simp [arrF, HX.out, hw, hz]
            have E2 := Lib.hid e2
            clear e2 hz hw
            go_wp2_with fail
            refine HZ.out.mono ?_
            rintro e w5 ⟨rfl, SA', hs'⟩
            refine ⟨rfl, ?_⟩
            rw [HQ.out, E2.out]
            exact ⟨rfl, SA', S5.out.trans hs'⟩
          | ok b st5 =>
            rw [hz] at HZ GZ
            have e2 : arrF L W (.ok a st1) = .ok (arrowN a b) st5 := by simp [arrF, HX.out, hw, hz]
            have E2 := Lib.hid e2
            clear e2 hz hw
            go_wp2_with fail
            refine HZ.out.mono ?_
            rintro e w5 ⟨B5, cb5, SA5, sc5, rfl, h5, t5, s5⟩
            have H5 := Lib.hid h5
            have T5 := Lib.hid t5
            have T6 := Lib.hid (T4.out.step s5 hrl.out)
            have S6 := Lib.hid (S5.out.trans s5)
            have HV := Lib.hid (pArrow_any B B5 cb cb5 a b w5 T6.out.t T5.out.t (by
              have h1 := GZ.out.le
              have h2 := GZ.out.top
              have h3 := HF.out.1
              have h4 := HL.out
              dsimp only at h1
              omega))
            clear h5 t5 s5
            go_wp2_with fail
            refine HV.out.mono ?_
            rintro e w6 ⟨A6, c6, rfl, own6, hb6⟩
            have O6 := Lib.hid own6
            have HB6 := Lib.hid hb6
            clear own6 hb6
            go_wp2_with fail
            go_ret
            rw [HQ.out, E2.out]
            refine ⟨A6, c6, SA5, sc5, rfl, H5.out.later HB6.out, ⟨?_, ?_, ?_, ?_⟩, S6.out.trans (RStep.below HB6.out)⟩
            · exact O6.out.tyA
            · intro a' ha'
              have h1 := (OwnL.lt O6.out a' ha').1
              have h2 := S6.out.fr.size
              omega
            · intro a' ha'
              exact (OwnL.lt O6.out a' ha').2
            · intro a' ha' b' hb'
              have h1 := (OwnL.lt O6.out a' ha').1
              have h2 := (OwnL.lt H5.out.o b' hb').2
              omega
end Go.Proofs.Ytblfeokjlecgkaa

/- A row's parts by their labels: the sorted order is one. -/
namespace Go.Proofs.Ytblfeokjlecgkaa

abbrev FsL := ByteArray × List Nd
theorem insP_perm (p : FsL) (l : List FsL) : (insP p l).Perm (p :: l) := by
  induction l with
  | nil => exact List.Perm.refl _
  | cons q l ih =>
    unfold insP
    split
    · exact List.Perm.refl _
    · exact (ih.cons q).trans (List.Perm.swap p q l)
theorem insP_sort (p : FsL) (l : List FsL) (hs : l.Pairwise fun a b => ltB a.1 b.1 = true) (hn : ∀ q ∈ l, q.1 ≠ p.1) : (insP p l).Pairwise fun a b => ltB a.1 b.1 = true := by
  induction l with
  | nil => simp [insP]
  | cons q l ih =>
    rw [List.pairwise_cons] at hs
    unfold insP
    by_cases h : ltB p.1 q.1 = true
    · rw [if_pos h, List.pairwise_cons, List.pairwise_cons]
      refine ⟨fun r hr => ?_, hs⟩
      rcases List.mem_cons.1 hr with rfl | hr
      · exact h
      · exact ltB_trans h (hs.1 r hr)
    · rw [if_neg h, List.pairwise_cons]
      refine ⟨fun r hr => ?_, ih hs.2 fun r hr => hn r (List.mem_cons_of_mem _ hr)⟩
      rcases List.mem_cons.1 ((insP_perm p l).subset hr) with rfl | hr
      · cases h2 : ltB q.1 r.1 with
        | true => rfl
        | false => exact absurd (ltB_eq h2 (by simpa using h)) (hn q (List.mem_cons_self ..))
      · exact hs.1 r hr
theorem srtP_go (l : List FsL) : ∀ acc : List FsL, (acc ++ l).Pairwise (fun a b => a.1 ≠ b.1) → acc.Pairwise (fun a b => ltB a.1 b.1 = true) →
    (l.foldl (fun a p => insP p a) acc).Perm (acc ++ l) ∧ (l.foldl (fun a p => insP p a) acc).Pairwise fun a b => ltB a.1 b.1 = true := by
  induction l with
  | nil => intro acc _ h; simpa using h
  | cons p l ih =>
    intro acc hd hs
    rw [List.foldl_cons]
    have hp : (insP p acc ++ l).Perm (acc ++ p :: l) := ((insP_perm p acc).append_right l).trans (by simpa using (List.perm_middle (a := p) (l₁ := acc) (l₂ := l)).symm)
    have hd2 : (insP p acc ++ l).Pairwise fun a b => a.1 ≠ b.1 := hp.symm.pairwise hd (fun h => Ne.symm h)
    have hn : ∀ q ∈ acc, q.1 ≠ p.1 := fun q hq => (List.pairwise_append.1 hd).2.2 q hq p (List.mem_cons_self ..)
    obtain ⟨h1, h2⟩ := ih (insP p acc) hd2 (insP_sort p acc hs hn)
    exact ⟨h1.trans hp, h2⟩
theorem ltB_no {a b : ByteArray} (h : ltB a b = true) : ltB b a = false := by
  cases k : ltB b a with
  | false => rfl
  | true =>
    have := ltB_trans h k
    rw [ltB_irrefl] at this
    cases this
theorem rowNR_eq (k : Int) (fs : List FsL) (hd : (fs.map (·.1)).Nodup) (os : List Nat) (hp : os.Perm (List.range (fs.map (·.2)).length)) (ho : os.Pairwise fun i j => ltB (lab (fs.map (·.1)) i) (lab (fs.map (·.1)) j) = true) :
    rowNR k (fs.map (·.1)) (fs.map (·.2)) os = rowL k fs := by
  have hd2 : fs.Pairwise fun a b => a.1 ≠ b.1 := by
    have h := hd
    unfold List.Nodup at h
    rw [List.pairwise_map] at h
    exact h
  obtain ⟨h1, h2⟩ := srtP_go fs [] (by simpa using hd2) List.Pairwise.nil
  have hr : (List.range fs.length).map (fun i => ((lab (fs.map (·.1)) i, ((fs.map (·.2))[i]?).getD []) : FsL)) = fs := by
    refine List.ext_getElem (by simp) fun i hi hj => ?_
    simp only [List.getElem_map, List.getElem_range]
    simp [lab, List.getElem?_eq_getElem hj]
  have e : os.map (fun i => ((lab (fs.map (·.1)) i, ((fs.map (·.2))[i]?).getD []) : FsL)) = srtP fs := by
    refine List.Perm.eq_of_pairwise (le := fun a b => ltB a.1 b.1 = true) (fun a b _ _ h k => ?_) ?_ h2 ?_
    · rw [ltB_no h] at k
      cases k
    · rw [List.pairwise_map]
      exact ho
    · rw [List.length_map] at hp
      refine (hp.map _).trans ?_
      rw [hr]
      simpa [srtP] using h1.symm
  unfold rowNR rowL
  rw [← e, List.flatMap_map, List.length_map]
  rfl
end Go.Proofs.Ytblfeokjlecgkaa

/- Types that are read from tokens, walked: a row, in memory. -/
namespace Go.Proofs.Ytblfeokjlecgkaa
open Go.RowKit

theorem OwnL.still {α : Type} {e size base : Nat} {enc : α → List Value} {Y : Nat → Prop} {w w' : World} {A : Option Addr} {cap : Nat} {l : List α} (h : OwnL e size enc w base A cap l) (hf : Fr Y w w') (hn : ∀ a, A = some a → ¬ Y a.block) : OwnL e size enc w' base A cap l := by
  obtain ⟨h1, h2⟩ := h
  refine ⟨h1, ?_⟩
  rcases h2 with h2 | ⟨g, cap', cur, hv, hb, hg, hr⟩
  · exact .inl h2
  · refine .inr ⟨g, cap', cur, hv, hb, ?_, hr⟩
    injection hv with hA _ _
    rw [hf.block g (Array.getElem?_eq_some_iff.1 hg).1 (hn _ hA)]
    exact hg

abbrev OwnT (w : World) (base : Nat) (A : Option Addr) (cap : Nat) (l : List ByteArray) : Prop := OwnL 9 1 encL w base A cap l
/-- Two rows lie in two blocks. -/
def Apart (X Y : Option Addr) : Prop := ∀ a b, X = some a → Y = some b → a.block ≠ b.block
theorem apart_new {X Y : Option Addr} {H : Nat} (hx : ∀ a, X = some a → a.block < H) (hy : ∀ b, Y = some b → H ≤ b.block) : Apart X Y := fun a b ha hb e => by
  have h1 := hx a ha
  have h2 := hy b hb
  omega

/-- A row that is being read. -/
structure RowI (rb : Nat) (A : Option Addr) (c : Nat) (L : List Tk) (s0 : Int) (SA0 : Option Addr) (w : World) (ns : List ByteArray) (xss : List (List Nd)) (st : RS) (SA : Option Addr) (sc : Nat) (LA : Option Addr) (lc : Nat) (VA : Option Addr) (vc : Nat) (vs : List (Option Addr × Nat × Nat)) (wr : World) : Prop where
  o : RdO wr rb A c L s0 st SA sc
  l : OwnT wr w.heap.size LA lc ns
  v : OwnS wr w.heap.size VA vc vs
  s : Sls wr wr.heap.size vs xss
  k : ∀ x ∈ vs, (∀ a, x.1 = some a → w.heap.size ≤ a.block ∧ a.block < wr.heap.size) ∧ Apart SA x.1 ∧ Apart LA x.1 ∧ Apart VA x.1
  lv : Apart LA VA
  ls : Apart SA LA
  vs : Apart SA VA
  r : RStep rb SA0 SA w wr
  lt : rb < w.heap.size

section
variable {rb : Nat} {A : Option Addr} {c : Nat} {L : List Tk} {s0 : Int} {SA0 : Option Addr} {w : World} {ns : List ByteArray} {xss : List (List Nd)} {st st' : RS} {SA SA' : Option Addr} {sc sc' : Nat} {LA : Option Addr} {lc : Nat} {VA : Option Addr} {vc : Nat} {vs : List (Option Addr × Nat × Nat)} {wr w' : World}
theorem apart_step {X : Option Addr} (k : RStep rb SA SA' wr w') (hr : rb < w.heap.size) (hx : ∀ a, X = some a → w.heap.size ≤ a.block ∧ a.block < wr.heap.size) (ha : Apart SA X) : Apart SA' X := fun b a hb hxa e => by
  have h1 := hx a hxa
  rcases k.sa b hb with (h2 | ⟨b', hb', h2⟩) | h2
  · omega
  · exact ha b' a hb' hxa (h2.trans e)
  · omega
theorem off_xs {X : Option Addr} (hr : rb < w.heap.size) (hx : ∀ a, X = some a → w.heap.size ≤ a.block) (ha : Apart SA X) : ∀ a, X = some a → ¬ XS rb SA a.block := fun a hxa hxs => by
  have h1 := hx a hxa
  rcases hxs with h2 | ⟨b', hb', h2⟩
  · omega
  · exact ha b' a hb' hxa h2
theorem sls_at {vs : List (Option Addr × Nat × Nat)} {xss : List (List Nd)} {B B' : Nat} (h : Sls wr B vs xss) (hk : ∀ x ∈ vs, ∀ t, TyA wr B x.1 t → TyA w' B' x.1 t) : Sls w' B' vs xss :=
  ⟨h.1, fun i v xs hv hx => ⟨(h.2 i v xs hv hx).1, hk v (List.mem_of_getElem? hv) xs (h.2 i v xs hv hx).2⟩⟩
/-- The reader has gone on. -/
theorem RowI.step (h : RowI rb A c L s0 SA0 w ns xss st SA sc LA lc VA vc vs wr) (ho : RdO w' rb A c L s0 st' SA' sc') (k : RStep rb SA SA' wr w') : RowI rb A c L s0 SA0 w ns xss st' SA' sc' LA lc VA vc vs w' where
  o := ho
  l := h.l.still k.fr (off_xs h.lt (fun a ha => (OwnL.lt h.l a ha).1) h.ls)
  v := h.v.still k.fr (off_xs h.lt (fun a ha => (OwnL.lt h.v a ha).1) h.vs)
  s := sls_at h.s fun x hx _t ht => (tyA_fr ht k.fr (Nat.le_refl _) (off_xs h.lt (fun a ha => ((h.k x hx).1 a ha).1) (h.k x hx).2.1)).more k.fr.size
  k := fun x hx => ⟨fun a ha => ⟨((h.k x hx).1 a ha).1, Nat.lt_of_lt_of_le ((h.k x hx).1 a ha).2 k.fr.size⟩, apart_step k h.lt (h.k x hx).1 (h.k x hx).2.1, (h.k x hx).2.2⟩
  lv := h.lv
  ls := apart_step k h.lt (OwnL.lt h.l) h.ls
  vs := apart_step k h.lt (OwnL.lt h.v) h.vs
  r := h.r.trans k
  lt := h.lt

/-- One row has grown: what stands beside it. -/
theorem grown_by {X X' : Option Addr} {H n m p q : Nat} (_hlo : ∀ a, X = some a → H ≤ a.block) (hg : wr.grownBy w' ((Value.slice X n p).ownBlock)) (hA : (Value.slice X' m q).ownBlock = (Value.slice X n p).ownBlock ∨ (Value.slice X' m q).ownBlock = some wr.heap.size) :
    Fr (fun k => ∃ a, X = some a ∧ a.block = k) wr w' ∧ (∀ Y : Option Addr, (∀ a, Y = some a → a.block < wr.heap.size) → Apart X Y → Apart X' Y) := by
  refine ⟨Fr.grown hg fun k e => ownBlock_of e, fun Y hY hx a' b ha' hb e => ?_⟩
  rcases hA with e2 | e2
  · rw [ha'] at e2
    obtain ⟨a, ha, h1⟩ := ownBlock_of e2.symm
    exact hx a b ha hb (h1.trans e)
  · rw [ha'] at e2
    have h1 : a'.block = wr.heap.size := Option.some.inj e2
    have := hY b hb
    omega
theorem no_of {X Y : Option Addr} (hx : Apart X Y) : ∀ a, Y = some a → ¬ ∃ b, X = some b ∧ b.block = a.block := fun a ha ⟨b, hb, e⟩ => hx b a hb ha e
theorem Apart.symm {X Y : Option Addr} (h : Apart X Y) : Apart Y X := fun a b ha hb e => h b a hb ha e.symm
/-- The reader, past a row that has grown. -/
theorem RdO.grown {X : Option Addr} {H : Nat} (h : RdO wr rb A c L s0 st SA sc) (hf : Fr (fun k => ∃ a, X = some a ∧ a.block = k) wr w') (hX : ∀ a, X = some a → H ≤ a.block) (hr : rb < H) (hs : Apart SA X) : RdO w' rb A c L s0 st SA sc := by
  have hlo : ∀ k, k ≤ rb → ¬ ∃ b, X = some b ∧ b.block = k := fun k hk ⟨b, hb, e⟩ => by
    have h1 := hX b hb
    omega
  refine ⟨⟨(hf.block rb h.m.r.lt (hlo _ (Nat.le_refl _))).trans h.m.r, ?_, h.m.l⟩, h.o.still hf (no_of hs.symm)⟩
  exact ReadL.below h.m.k ⟨hf.os, hf.tape, hf.output, hf.size, fun k hk => hf.block k (Nat.lt_trans hk h.m.r.lt) (hlo _ (Nat.le_of_lt hk))⟩

/-- A label has been laid behind the others. -/
theorem RowI.putL {s : ByteArray} {LA' : Option Addr} {lc' n m p q : Nat} (h : RowI rb A c L s0 SA0 w ns xss st SA sc LA lc VA vc vs wr) (ho : OwnT w' w.heap.size LA' lc' (ns ++ [s]))
    (hg : wr.grownBy w' ((Value.slice LA n p).ownBlock)) (hA : (Value.slice LA' m q).ownBlock = (Value.slice LA n p).ownBlock ∨ (Value.slice LA' m q).ownBlock = some wr.heap.size) :
    RowI rb A c L s0 SA0 w (ns ++ [s]) xss st SA sc LA' lc' VA vc vs w' := by
  have hlo : ∀ a, LA = some a → w.heap.size ≤ a.block := fun a ha => (OwnL.lt h.l a ha).1
  obtain ⟨hf, hap⟩ := grown_by hlo hg hA
  refine ⟨h.o.grown hf hlo h.lt h.ls, ho, h.v.still hf (no_of h.lv), ?_, fun x hx => ⟨fun a ha => ⟨((h.k x hx).1 a ha).1, Nat.lt_of_lt_of_le ((h.k x hx).1 a ha).2 hf.size⟩, (h.k x hx).2.1, hap _ (fun a ha => ((h.k x hx).1 a ha).2) (h.k x hx).2.2.1, (h.k x hx).2.2.2⟩, hap _ (fun a ha => (OwnL.lt h.v a ha).2) h.lv, (hap _ (fun a ha => (OwnL.lt h.o.o a ha).2) h.ls.symm).symm, h.vs, ?_, h.lt⟩
  · exact sls_at h.s fun x hx t ht => (tyA_fr ht hf (Nat.le_refl _) (no_of (h.k x hx).2.2.1)).more hf.size
  · exact ⟨h.r.fr.new hf fun b ⟨a, ha, e⟩ => .inr (by rw [← e]; exact hlo a ha), h.r.sa⟩

/-- A type has been laid behind the others. -/
theorem RowI.putV {t : List Nd} {B : Option Addr} {cb : Nat} {VA' : Option Addr} {vc' n m p q : Nat} (h : RowI rb A c L s0 SA0 w ns xss st SA sc LA lc VA vc vs wr) (ht : TyA wr wr.heap.size B t) (hB : ∀ a, B = some a → w.heap.size ≤ a.block ∧ a.block < wr.heap.size) (hs : Apart SA B) (hl : Apart LA B) (hv : Apart VA B)
    (ho : OwnS w' w.heap.size VA' vc' (vs ++ [(B, t.length, cb)]))
    (hg : wr.grownBy w' ((Value.slice VA n p).ownBlock)) (hA : (Value.slice VA' m q).ownBlock = (Value.slice VA n p).ownBlock ∨ (Value.slice VA' m q).ownBlock = some wr.heap.size) :
    RowI rb A c L s0 SA0 w ns (xss ++ [t]) st SA sc LA lc VA' vc' (vs ++ [(B, t.length, cb)]) w' := by
  have hlo : ∀ a, VA = some a → w.heap.size ≤ a.block := fun a ha => (OwnL.lt h.v a ha).1
  obtain ⟨hf, hap⟩ := grown_by hlo hg hA
  refine ⟨h.o.grown hf hlo h.lt h.vs, h.l.still hf (no_of h.lv.symm), ho, ?_, fun x hx => ?_, (hap _ (fun a ha => (OwnL.lt h.l a ha).2) h.lv.symm).symm, h.ls, (hap _ (fun a ha => (OwnL.lt h.o.o a ha).2) h.vs.symm).symm, ?_, h.lt⟩
  · refine ⟨by simp [h.s.1], fun i v xs hi hx => ?_⟩
    by_cases hc : i < vs.length
    · rw [List.getElem?_append_left hc] at hi
      rw [List.getElem?_append_left (by rw [← h.s.1]; exact hc)] at hx
      have h1 := h.s.2 i v xs hi hx
      exact ⟨h1.1, (tyA_fr h1.2 hf (Nat.le_refl _) (no_of (h.k v (List.mem_of_getElem? hi)).2.2.2)).more hf.size⟩
    · rw [List.getElem?_append_right (by omega)] at hi
      rw [List.getElem?_append_right (by rw [← h.s.1]; omega), ← h.s.1] at hx
      cases hz : i - vs.length with
      | zero =>
        rw [hz] at hi hx
        simp only [List.getElem?_cons_zero, Option.some.injEq] at hi hx
        subst hi hx
        exact ⟨rfl, (tyA_fr ht hf (Nat.le_refl _) (no_of hv)).more hf.size⟩
      | succ j =>
        rw [hz] at hi
        simp at hi
  · rcases List.mem_append.1 hx with hx | hx
    · exact ⟨fun a ha => ⟨((h.k x hx).1 a ha).1, Nat.lt_of_lt_of_le ((h.k x hx).1 a ha).2 hf.size⟩, (h.k x hx).2.1, (h.k x hx).2.2.1, hap _ (fun a ha => ((h.k x hx).1 a ha).2) (h.k x hx).2.2.2⟩
    · simp only [List.mem_singleton] at hx
      subst hx
      exact ⟨fun a ha => ⟨(hB a ha).1, Nat.lt_of_lt_of_le (hB a ha).2 hf.size⟩, hs, hl, hap _ (fun a ha => (hB a ha).2) hv⟩
  · exact ⟨h.r.fr.new hf fun b ⟨a, ha, e⟩ => .inr (by rw [← e]; exact hlo a ha), h.r.sa⟩
end
end Go.Proofs.Ytblfeokjlecgkaa

/- Types that are read from tokens: a row, round by round. -/
namespace Go.Proofs.Ytblfeokjlecgkaa
open Go.RowKit

/-- How a row ends. -/
def endF (L : List Tk) (k : Int) (fin : ByteArray) (fs : List FsL) (st : RS) : RRes := if isS L st.pos fin = true then .ok (rowL k fs) ⟨st.pos + 1, st.si⟩ else .bad st.pos 2
/-- A row that has come so far; b: more is to come. -/
structure RowQ (L : List Tk) (W : RS → RRes) (k lk : Int) (btw fin : ByteArray) (r : RRes) (fs : List FsL) (st : RS) (b : Bool) : Prop where
  e : r = if b = true then rowF L W k lk btw fin (L.length + 1 - fs.length) fs st else endF L k fin fs st
  p : st.pos ≤ L.length
  si : st.si.length ≤ st.pos
  n : fs.length ≤ st.pos
  n2 : fs.length ≤ 50
  nd : (fs.map (·.1)).Nodup
  ok : ∀ p ∈ fs, (if lk == 1 then wordB p.1 else tagB p.1) = true ∧ p.2 ≠ [] ∧ p.2.length ≤ 100000
  nz : b = false → fs ≠ []

theorem idxFrom_in (l : List ByteArray) (x : ByteArray) (n : Nat) : ∀ f j, j + f = l.length → n = f → (idxFrom l x f j < 0 → ∀ y ∈ l.drop j, y ≠ x) := by
  intro f
  induction f generalizing n with
  | zero => intro j hj _ _ y hy; rw [List.drop_eq_nil_of_le (by omega)] at hy; cases hy
  | succ f ih =>
    intro j hj _ h y hy
    have hlt : j < l.length := by omega
    unfold idxFrom at h
    rw [List.getElem?_eq_getElem hlt] at h
    dsimp only at h
    by_cases hx : (x.toList == l[j].toList) = true
    · rw [if_pos hx] at h
      omega
    · rw [if_neg hx] at h
      rw [List.drop_eq_getElem_cons hlt] at hy
      rcases List.mem_cons.1 hy with rfl | hy
      · intro e
        apply hx
        rw [e]
        simp
      · exact ih f (j + 1) (by omega) rfl h y hy
theorem idxS_no {l : List ByteArray} {x : ByteArray} (h : ¬ 0 ≤ idxS l x) : x ∉ l := fun hx => idxFrom_in l x l.length l.length 0 (by omega) rfl (by unfold idxS at h; omega) x (by simpa using hx) rfl

section
variable {L : List Tk} {W : RS → RRes} {k lk : Int} {btw fin : ByteArray} {r : RRes} {fs : List FsL} {st : RS}
theorem RowQ.one (h : RowQ L W k lk btw fin r fs st true) : ∃ f, L.length + 1 - fs.length = f + 1 ∧ r = rowF L W k lk btw fin (f + 1) fs st := by
  have h1 := h.n
  have h2 := h.p
  have h3 := h.e
  rw [if_pos rfl] at h3
  exact ⟨L.length - fs.length, by omega, by rw [h3]; congr 1; omega⟩
theorem RowQ.b1 (h : RowQ L W k lk btw fin r fs st true) (hn : namesB lk (hereT L st.pos) = false) : r = .bad st.pos 2 := by
  obtain ⟨f, _, e⟩ := h.one
  rw [e, rowF, if_pos hn]
theorem RowQ.b2 (h : RowQ L W k lk btw fin r fs st true) (hn : namesB lk (hereT L st.pos) = true) (hi : 0 ≤ idxS (fs.map (·.1)) (hereT L st.pos).s) : r = .bad st.pos 7 := by
  obtain ⟨f, _, e⟩ := h.one
  rw [e, rowF, if_neg (by simp [hn]), if_pos hi]
theorem RowQ.b3 (h : RowQ L W k lk btw fin r fs st true) (hn : namesB lk (hereT L st.pos) = true) (hi : ¬ 0 ≤ idxS (fs.map (·.1)) (hereT L st.pos).s) (hf : 50 ≤ fs.length) : r = .bad st.pos 3 := by
  obtain ⟨f, _, e⟩ := h.one
  rw [e, rowF, if_neg (by simp [hn]), if_neg hi, if_pos hf]
theorem RowQ.b4 (h : RowQ L W k lk btw fin r fs st true) (hn : namesB lk (hereT L st.pos) = true) (hi : ¬ 0 ≤ idxS (fs.map (·.1)) (hereT L st.pos).s) (hf : ¬ 50 ≤ fs.length) (hc : isS L (st.pos + 1) sCol = false) : r = .bad (st.pos + 1) 2 := by
  obtain ⟨f, _, e⟩ := h.one
  rw [e, rowF, if_neg (by simp [hn]), if_neg hi, if_neg hf, if_pos hc]
theorem RowQ.b5 (h : RowQ L W k lk btw fin r fs st true) (hn : namesB lk (hereT L st.pos) = true) (hi : ¬ 0 ≤ idxS (fs.map (·.1)) (hereT L st.pos).s) (hf : ¬ 50 ≤ fs.length) (hc : isS L (st.pos + 1) sCol = true) {p : Nat} {x : Int} (hw : W ⟨st.pos + 2, st.si⟩ = .bad p x) : r = .bad p x := by
  obtain ⟨f, _, e⟩ := h.one
  rw [e, rowF, if_neg (by simp [hn]), if_neg hi, if_neg hf, if_neg (by simp [hc]), hw]
theorem RowQ.next (h : RowQ L W k lk btw fin r fs st true) (hW : GoodW L W) (hL : L.length ≤ 100000) (_hlk : lk ≠ 0) (hn : namesB lk (hereT L st.pos) = true) (hi : ¬ 0 ≤ idxS (fs.map (·.1)) (hereT L st.pos).s) (hf : ¬ 50 ≤ fs.length) (hc : isS L (st.pos + 1) sCol = true) {t : List Nd} {st2 : RS} (hw : W ⟨st.pos + 2, st.si⟩ = .ok t st2) :
    RowQ L W k lk btw fin r (fs ++ [((hereT L st.pos).s, t)]) ⟨if isS L st2.pos btw = true then st2.pos + 1 else st2.pos, st2.si⟩ (isS L st2.pos btw) := by
  obtain ⟨f, hf1, e⟩ := h.one
  rw [rowF, if_neg (by simp [hn]), if_neg hi, if_neg hf, if_neg (by simp [hc]), hw] at e
  dsimp only at e
  have hlt := isS_lt hc
  have hg := hW ⟨st.pos + 2, st.si⟩ (by dsimp only; omega)
  rw [hw] at hg
  obtain ⟨g1, g2, g3, m, g4, g5⟩ := hg
  dsimp only at g2 g4 g5
  have hsl : st2.si.length = st.si.length + m.length := by rw [g4, List.length_append]
  have hsi := h.si
  have hn1 := h.n
  have hle : (if isS L st2.pos btw = true then st2.pos + 1 else st2.pos) ≤ L.length ∧ st2.pos ≤ (if isS L st2.pos btw = true then st2.pos + 1 else st2.pos) := by
    split
    · rename_i hb
      have := isS_lt hb
      omega
    · omega
  refine ⟨?_, hle.1, by dsimp only; omega, by dsimp only; rw [List.length_append, List.length_singleton]; omega, by rw [List.length_append, List.length_singleton]; omega, ?_, fun p hp => ?_, fun _ => by simp⟩
  · rw [e]
    cases hb : isS L st2.pos btw with
    | true =>
      rw [if_pos rfl, if_pos rfl, if_pos rfl]
      congr 1
      rw [List.length_append, List.length_singleton]
      omega
    | false => rfl
  · rw [List.map_append, List.nodup_append]
    refine ⟨h.nd, by simp, fun a ha b hb => ?_⟩
    simp only [List.map_cons, List.map_nil, List.mem_singleton] at hb
    subst hb
    exact fun e => idxS_no hi (e ▸ ha)
  · rcases List.mem_append.1 hp with hp | hp
    · exact h.ok p hp
    · simp only [List.mem_singleton] at hp
      subst hp
      unfold namesB at hn
      simp only [Bool.and_eq_true] at hn
      exact ⟨hn.2, g1, by dsimp only; omega⟩
end
end Go.Proofs.Ytblfeokjlecgkaa

/- ty.Row where nothing is odd. -/
namespace Go.Proofs.Ytblfeokjlecgkaa
open Go.RowKit

theorem asI_range_succ (k : Nat) : asI (List.range (k + 1)) = asI (List.range k) ++ [(k : Int)] := by
  rw [List.range_succ, asI_append]
  rfl

theorem set_name (out ys : List Nd) (x : Nd) (s : ByteArray) : (out ++ x :: ys).set out.length (x.name s) = out ++ nameR s (x :: ys) := by
  rw [List.set_append_right _ _ (Nat.le_refl _)]
  simp [nameR]

theorem not_nodup {ls : List ByteArray} {os : List Nat} {k p i : Nat} (ho : os.Perm (List.range ls.length)) (hp : os[k]? = some p) (hi : os[k + 1]? = some i) (he : ((lab ls p).toList == (lab ls i).toList) = true) : ¬ ls.Nodup := by
  intro hn
  have hnd : os.Nodup := (ho.nodup_iff).2 List.nodup_range
  have hpl : p < ls.length := List.mem_range.1 ((ho.mem_iff).1 (List.mem_of_getElem? hp))
  have hil : i < ls.length := List.mem_range.1 ((ho.mem_iff).1 (List.mem_of_getElem? hi))
  have e1 : (lab ls p).toList = (lab ls i).toList := by simpa using he
  have e2 : lab ls p = lab ls i := by
    refine ltB_eq ?_ ?_
    · unfold ltB; rw [e1, bless_eq]; simp [List.lt_irrefl]
    · unfold ltB; rw [e1, bless_eq]; simp [List.lt_irrefl]
  have e3 : ls[p] = ls[i] := by
    have h1 := lab_at hpl
    have h2 := lab_at hil
    rw [List.getElem?_eq_getElem hpl] at h1
    rw [List.getElem?_eq_getElem hil] at h2
    injection h1 with h1
    injection h2 with h2
    rw [h1, h2, e2]
  have e4 : p = i := (List.getElem_inj hn).1 e3
  subst e4
  have h1 := getq_lt hp
  have h2 := getq_lt hi
  rw [List.getElem?_eq_getElem h1] at hp
  rw [List.getElem?_eq_getElem h2] at hi
  injection hp with hp
  injection hi with hi
  have := (List.getElem_inj hnd (h₀ := h1) (h₁ := h2)).1 (by rw [hp, hi])
  omega

set_option maxRecDepth 100000 in
set_option maxHeartbeats 8000000 in
theorem rowGood_any (L V : Option Addr) (cl cv : Nat) (kind : Int) (ls : List ByteArray) (vs : List (Option Addr × Nat × Nat)) (xss : List (List Nd)) (w : World) (hL : ReadT w w.heap.size L ls) (hV : ReadS w w.heap.size V vs) (hS : Sls w w.heap.size vs xss)
    (hne : ∀ xs ∈ xss, xs ≠ [] ∧ xs.length ≤ 100000) (hgood : badRow kind ls xss.length = false) :
    Calls Try.prog 217 #[.int .i64 kind, .slice L ls.length cl, .slice V vs.length cv] w (RowPost kind ls xss w) := by
  have hgood2 := hgood
  unfold badRow at hgood2
  simp only [Bool.or_eq_false_iff, Bool.not_eq_false', decide_eq_true_eq, decide_eq_false_iff_not, Bool.and_eq_false_iff] at hgood2
  obtain ⟨⟨⟨⟨h1, h2⟩, h3⟩, h4⟩, h5⟩ := hgood2
  have Hgood := Lib.hid hgood
  have hvl : vs.length = ls.length := by rw [hS.1, h2]
  have Hx := Lib.hid h2
  rw [hvl]
  have HS := Lib.hid hS.2
  have Hne := Lib.hid hne
  have h50 : ls.length ≤ 50 := by omega
  obtain ⟨W, hW⟩ : ∃ W, W = (w.alloc (.cells #[.int .i64 kind] 3)).alloc (.cells #[.slice L ls.length cl] 95) := ⟨_, rfl⟩
  have hWs : W.heap.size = w.heap.size + 2 := by rw [hW]; simp
  have hbW : Below w.heap.size w W := by rw [hW]; exact ext_alloc (ext_alloc (Below.refl _ _) _) _
  have c1 : W.cell? ⟨w.heap.size, 0, none⟩ = some (.int .i64 kind) := by rw [hW]; simp
  have c2 : W.cell? ⟨w.heap.size + 1, 0, none⟩ = some (.slice L ls.length cl) := by rw [hW]; simp
  have hL1 := ReadL.below hL hbW
  have hV1 := ReadL.below hV hbW
  have hT1 : Hid (∀ (i : Nat) (v : Option Addr × Nat × Nat) (xs : List Nd), vs[i]? = some v → xss[i]? = some xs → v.2.1 = xs.length ∧ TyA W w.heap.size v.1 xs) := Lib.hid fun i v xs hv hx => ⟨(HS.out i v xs hv hx).1, (HS.out i v xs hv hx).2.below hbW⟩
  have H1 := Lib.hid h1
  have H5 := Lib.hid h5
  have h7 : (kind == 7) = false ∨ ((kind == 7) = true ∧ ¬ ls.length = 0) := by
    by_cases h : kind = 7
    · refine .inr ⟨by simp [h], fun h0 => ?_⟩
      rcases h4 with h4 | h4
      · exact h4 h
      · omega
    · exact .inl (by simpa using h)
  generalize hnn : ls.length = n at *
  have Hnn := Lib.hid hnn
  clear h1 h2 h3 h4 h5 hgood hL hV hS hne hnn
  have h7' : (kind == 7) = false ∨ ((kind == 7) = true ∧ ((n : Int) == 0) = false) := by
    rcases h7 with h7 | ⟨h7, h0⟩
    · exact .inl h7
    · exact .inr ⟨h7, by rw [beq_eq_false_iff_ne]; omega⟩
  clear h7
  rcases h7' with h7 | ⟨h7, h0b⟩
  all_goals
    go_enter Try.func217, Try.ntmps217
    go_wp2_with fail
    rw [← hW]
    refine (isRow_any _ _ _ _).mono ?_
    rintro e w1 ⟨rfl, hbx⟩
    rw [H1.out]
    have c1' := (hbx.cell (p := ⟨w.heap.size, 0, none⟩) (by simp; omega)).trans c1
    have c2' := (hbx.cell (p := ⟨w.heap.size + 1, 0, none⟩) (by simp; omega)).trans c2
    have z1 := hbx.size
    go_wp2_with fail
    have hcon := containsStr_any L cl ls kind w.heap.size w1 (ReadL.more (ReadL.below hL1 (hbx.mono (by omega))) (by omega)) c1' (by omega) (by rw [Hnn.out]; omega)
    rw [Hnn.out] at hcon
    refine hcon.mono ?_
    rintro e w2 ⟨rfl, hby⟩
    rw [H5.out]
    have hb2 := ext_trans hbx hby
    clear hcon c1' c2' z1 hbx hby
    have z2 := hb2.size
    have c1' := (hb2.cell (p := ⟨w.heap.size, 0, none⟩) (by simp; omega)).trans c1
    have c2' := (hb2.cell (p := ⟨w.heap.size + 1, 0, none⟩) (by simp; omega)).trans c2
    go_wp2_with fail
    obtain ⟨w3, hmk, hown3, hgr3⟩ := make_int w2 W.heap.size n (by omega) z2
    rw [hmk]
    have hb3 := ext_trans hb2 (below_made hgr3)
    clear hb2 hgr3 c1' c2' hmk
    generalize hG : w2.heap.size = G at *
    have hGl : G < w3.heap.size := (OwnL.block hown3 G rfl).2
    go_wp2_with fail
    go_loopw [51] (fun k51 wr => ∃ (k : Nat) (M : List Int), k51 = .int .i64 k ∧ k ≤ n ∧ M.length = n ∧ OwnI wr W.heap.size (some ⟨G, 0, none⟩) n M ∧ Below W.heap.size W wr ∧ Hid (M.take k = asI (List.range k)))
      (fun k51 _ => n - (intOf k51).toNat)
    case atStart => exact ⟨0, List.replicate n 0, rfl, Nat.zero_le _, by simp, hown3, hb3, Lib.hid (by simp [asI])⟩
    case round =>
      clear hown3 hb3 hGl hG w2 z2
      obtain ⟨k, M, rfl, hk, hMl, hown, hbel, htk⟩ := hrel
      have zr := hbel.size
      have hGl : G < wr.heap.size := (OwnL.block hown G rfl).2
      by_cases hlt : k < n
      · obtain ⟨g, hg, hbg, hglt, ⟨m, hm, hcell⟩, hfz, hown2, hgr2⟩ := hown.setI (j := k) (by omega) (k : Int)
        injection hg with hg
        injection hg with hg1 _ _
        subst hg1
        have hbel2 := ext_set (p := ⟨G, k, none⟩) hbel hbg (.int .i64 (k : Int))
        have htk2 : Hid ((M.set k (k : Int)).take (k + 1) = asI (List.range (k + 1))) := Lib.hid (by rw [take_set_succ _ _ _ (by omega), htk.out, asI_range_succ])
        have hlen2 : (M.set k (k : Int)).length = n := by simp [hMl]
        clear hm
        go_wp2_with fail
        go_roundw
        case rel => exact ⟨k + 1, M.set k (k : Int), by go_num, by omega, hlen2, hown2, hbel2, htk2⟩
        case measure => simp [intOf]; omega
      · have hM : M = asI (List.range n) := by
          have hkk : k = n := by omega
          subst hkk
          rw [← htk.out, ← hMl, List.take_length]
        subst hM
        have c1' := (hbel.cell (p := ⟨w.heap.size, 0, none⟩) (by simp; omega)).trans c1
        have c2' := (hbel.cell (p := ⟨w.heap.size + 1, 0, none⟩) (by simp; omega)).trans c2
        have hbG := (OwnL.block hown G rfl).1
        clear htk hMl
        go_wp2_with fail
        refine (sort_any L cl ls n (w.heap.size + 1) G n W.heap.size w.heap.size wr Hnn.out (by omega) c2' (by omega) (ReadL.below hL1 (hbel.mono (by omega))) (by omega) hown).mono ?_
        rintro e w4 ⟨rfl, os, hperm, hsort, hown4, hgr4⟩
        have hbel4 : Below W.heap.size W w4 := hbel.grown hgr4 zr fun k hk => by injection hk with hk; omega
        have Hperm := Lib.hid hperm
        have Hsort := Lib.hid hsort
        have hosl : os.length = n := by rw [hperm.length_eq]; simp
        clear hlt hk hown hbel hgr4 hsort hperm c1' c2' zr hGl
        have z4 := hbel4.size
        have c1' := (hbel4.cell (p := ⟨w.heap.size, 0, none⟩) (by simp; omega)).trans c1
        have c2' := (hbel4.cell (p := ⟨w.heap.size + 1, 0, none⟩) (by simp; omega)).trans c2
        have hone := own_one w4 ⟨kind, ⟨#[]⟩, (n : Int)⟩
        have hbone := ext_alloc (Below.refl w4.heap.size w4) (.cells #[.int .i64 kind, .string ⟨#[]⟩, .int .i64 (n : Int)] 48)
        have hrow0 : ReadI w4 w4.heap.size (some ⟨G, 0, none⟩) (asI os) := OwnL.read encI_len hown4
        go_wp2_with fail
        clear c1' c2' hown4
        go_loopw [11, 69] (fun s11 i69 wr => ∃ (k : Nat) (A' : Option Addr) (cap' m : Nat) (out : List Nd), s11 = .slice A' m cap' ∧ i69 = .int .i64 k ∧ k ≤ n ∧ m ≤ 1 + k * 100000 ∧ OwnN wr w4.heap.size A' cap' out ∧ Below w4.heap.size w4 wr ∧
            Hid (m = out.length ∧ out = ⟨kind, ⟨#[]⟩, (n : Int)⟩ :: (os.take k).flatMap (rowPart ls xss)) ∧ Hid (∀ (j a b : Nat), j + 1 < k → os[j]? = some a → os[j + 1]? = some b → lab ls a ≠ lab ls b))
          (fun _ i69 _ => n - (intOf i69).toNat)
        case atStart => exact ⟨0, _, 1, 1, _, rfl, rfl, Nat.zero_le _, by omega, hone, hbone, Lib.hid ⟨rfl, by simp⟩, Lib.hid fun j a b h => by omega⟩
        case round =>
          clear hone hbone
          obtain ⟨k, A', cap', m, out, rfl, rfl, hk, hmk, hown, hbel, hout, hadj⟩ := hrel
          have zr := hbel.size
          have hbelW : Below W.heap.size W wr := hbel4.trans (hbel.mono z4)
          have c1' := (hbelW.cell (p := ⟨w.heap.size, 0, none⟩) (by simp; omega)).trans c1
          have c2' := (hbelW.cell (p := ⟨w.heap.size + 1, 0, none⟩) (by simp; omega)).trans c2
          have hLw := ReadL.below hL1 (hbelW.mono (by omega))
          have hVw := ReadL.below hV1 (hbelW.mono (by omega))
          by_cases hlt : k < n
          · obtain ⟨i, hi⟩ := getq_ex (show k < os.length by omega)
            have hin : i < n := List.mem_range.1 ((Hperm.out.mem_iff).1 (List.mem_of_getElem? hi))
            obtain ⟨gb, go, hgo, hglt, ho1⟩ := (ReadL.below hrow0 hbel).int (show (asI os)[k]? = some (i : Int) by simp [asI, hi])
            injection hgo with hgo
            injection hgo with hgo1 hgo2 _
            subst hgo1 hgo2
            rw [Nat.zero_add] at ho1
            obtain ⟨v, hv⟩ := getq_ex (show i < vs.length by omega)
            obtain ⟨xs, hxs⟩ := getq_ex (show i < xss.length by rw [← Hx.out]; exact hin)
            obtain ⟨hv1, hta⟩ := hT1.out i v xs hv hxs
            obtain ⟨xne, xlen⟩ := Hne.out xs (List.mem_of_getElem? hxs)
            obtain ⟨x, ys, rfl⟩ : ∃ x ys, xs = x :: ys := by
              cases xs with
              | nil => exact absurd rfl xne
              | cons x ys => exact ⟨x, ys, rfl⟩
            have hil : ls[i]? = some (lab ls i) := lab_at (by rw [Hnn.out]; exact hin)
            obtain ⟨lb, lo, rfl, hlb, hlc⟩ := hLw.str hil
            obtain ⟨vb, vo, rfl, hvb, hvc⟩ := hVw.slice hv
            rw [hv1] at hvc
            obtain ⟨hm, ho⟩ := hout.out
            have lblt : lb < wr.heap.size := by omega
            have vblt : vb < wr.heap.size := by omega
            have hstep : out ++ nameR (lab ls i) (x :: ys) = ⟨kind, ⟨#[]⟩, (n : Int)⟩ :: (os.take (k + 1)).flatMap (rowPart ls xss) := by
              rw [List.take_add_one, hi, List.flatMap_append, ho]
              simp [rowPart, hxs]
            have Hstep := Lib.hid hstep
            have Hi := Lib.hid hi
            have htaw : TyA wr w.heap.size v.1 (x :: ys) := hta.below (hbelW.mono (by omega))
            subst hm
            have Hil := Lib.hid hil
            clear hi hv hxs hta xne hil ho hstep hv1 hout hlt
            simp only [List.length_cons] at xlen
            have hlt : k < n := by have := getq_lt Hi.out; omega
            generalize hlab : lab ls i = s at *
            have Hlab := Lib.hid hlab
            cases k with
            | zero =>
              have Hadj := Lib.hid (show ∀ (j a b : Nat), j + 1 < 0 + 1 → os[j]? = some a → os[j + 1]? = some b → lab ls a ≠ lab ls b from fun j a b h => by omega)
              clear hadj hlab
              go_wp2_with fail
              go_quiet (fail)
              go_wp2_with (at_builtin; (refine wpList_appN rfl (.tmp 93) (.tmp 97) rfl w4.heap.size (l := out) rfl (OwnL.drewN hown _) (l2 := x :: ys) rfl (htaw.drewN _) (by simp; omega) (by simp; omega) ?_; intro A2 cap2 w5 hown5 hg5 _; have hbel5 : Below w4.heap.size w4 w5 := ext_app (ext_drewN hbel _) hg5 (fun k hk => (OwnL.block hown k hk).1); have hx5 : (out ++ x :: ys)[out.length]? = some x := (by simp); obtain ⟨g5, rfl, hbg5, hg5l, hcell5, hfz5, hown6, hgr6⟩ := OwnL.setN hown5 (j := out.length) (x := x) hx5 s; rw [set_name] at hown6; have hbel6 := ext_set (p := ⟨g5, out.length * 3 + 1, none⟩) hbel5 hbg5 (.string s); clear hx5; have hbW5 : Below W.heap.size W w5 := hbel4.trans (hbel5.mono z4); have c1x := (hbW5.cell (p := ⟨w.heap.size, 0, none⟩) (by simp; omega)).trans c1; have c2x := (hbW5.cell (p := ⟨w.heap.size + 1, 0, none⟩) (by simp; omega)).trans c2; have lbx := (hbel5.block lb (by omega)).trans (hbel.block lb (by omega)).symm; have hlx := (World.cell?_of_block (a := ⟨lb, lo + i, none⟩) lbx).trans hlc))
              go_roundw
              case rel => exact ⟨0 + 1, some ⟨g5, 0, none⟩, cap2, out.length + (ys.length + 1), out ++ nameR s (x :: ys), rfl, by go_num, by omega, by omega, hown6, hbel6, Lib.hid ⟨by simp [nameR], Hstep.out⟩, Hadj⟩
              case measure => simp [intOf]; omega
            | succ k =>
              obtain ⟨p, hp⟩ := getq_ex (show k < os.length by omega)
              have hpn : p < n := List.mem_range.1 ((Hperm.out.mem_iff).1 (List.mem_of_getElem? hp))
              obtain ⟨_, _, hgo, _, ho2⟩ := (ReadL.below hrow0 hbel).int (show (asI os)[k]? = some (p : Int) by simp [asI, hp])
              injection hgo with hgo
              injection hgo with hgo1 hgo2 _
              subst hgo1 hgo2
              rw [Nat.zero_add] at ho2
              obtain ⟨_, _, hl2, _, hlc2⟩ := hLw.str (lab_at (show p < ls.length by rw [Hnn.out]; exact hpn))
              simp only [Option.some.injEq, Addr.mk.injEq, and_true] at hl2
              obtain ⟨rfl, rfl⟩ := hl2
              generalize hlabp : lab ls p = sp at *
              have Hlabp := Lib.hid hlabp
              have Hp := Lib.hid hp
              clear hp
              cases he : (sp.toList == s.toList)
              · have Hadj := Lib.hid (show ∀ (j a b : Nat), j + 1 < k + 1 + 1 → os[j]? = some a → os[j + 1]? = some b → lab ls a ≠ lab ls b from fun j a b h ha hb => by
                  by_cases hj : j = k
                  · subst hj
                    rw [Hp.out] at ha
                    rw [Hi.out] at hb
                    injection ha with ha
                    injection hb with hb
                    subst ha hb
                    rw [Hlabp.out, Hlab.out]
                    intro e
                    rw [e] at he
                    simp at he
                  · exact hadj.out j a b (by omega) ha hb)
                clear hadj hlab hlabp
                go_wp2_with fail
                go_quiet (fail)
                go_wp2_with (at_builtin; (refine wpList_appN rfl (.tmp 93) (.tmp 97) rfl w4.heap.size (l := out) rfl (OwnL.drewN hown _) (l2 := x :: ys) rfl (htaw.drewN _) (by simp; omega) (by simp; omega) ?_; intro A2 cap2 w5 hown5 hg5 _; have hbel5 : Below w4.heap.size w4 w5 := ext_app (ext_drewN hbel _) hg5 (fun k hk => (OwnL.block hown k hk).1); have hx5 : (out ++ x :: ys)[out.length]? = some x := (by simp); obtain ⟨g5, rfl, hbg5, hg5l, hcell5, hfz5, hown6, hgr6⟩ := OwnL.setN hown5 (j := out.length) (x := x) hx5 s; rw [set_name] at hown6; have hbel6 := ext_set (p := ⟨g5, out.length * 3 + 1, none⟩) hbel5 hbg5 (.string s); clear hx5; have hbW5 : Below W.heap.size W w5 := hbel4.trans (hbel5.mono z4); have c1x := (hbW5.cell (p := ⟨w.heap.size, 0, none⟩) (by simp; omega)).trans c1; have c2x := (hbW5.cell (p := ⟨w.heap.size + 1, 0, none⟩) (by simp; omega)).trans c2; have lbx := (hbel5.block lb (by omega)).trans (hbel.block lb (by omega)).symm; have hlx := (World.cell?_of_block (a := ⟨lb, lo + i, none⟩) lbx).trans hlc))
                go_roundw
                case rel => exact ⟨k + 1 + 1, some ⟨g5, 0, none⟩, cap2, out.length + (ys.length + 1), out ++ nameR s (x :: ys), rfl, by go_num, by omega, by omega, hown6, hbel6, Lib.hid ⟨by simp [nameR], Hstep.out⟩, Hadj⟩
                case measure => simp [intOf]; omega
              · have Hnd := Lib.hid (not_nodup (by rw [Hnn.out]; exact Hperm.out) Hp.out Hi.out (by rw [Hlabp.out, Hlab.out]; exact he))
                clear hadj hlab hlabp
                go_wp2_with fail
                go_quiet (fail)
                go_wp2_with fail
                go_ret2
                exact ⟨ext_trans hbW (below_drewN hbelW _), .inr (.inl ⟨Hgood.out, Hnd.out, rfl⟩)⟩
          · have hkk : k = n := by omega
            go_wp2_with fail
            go_ret2
            obtain ⟨hm, ho⟩ := hout.out
            have hfin : out = rowNR kind ls xss os := by rw [ho, hkk, ← hosl, List.take_length, hosl]; unfold rowNR; rw [← Hx.out]; rfl
            subst hm
            rw [hfin] at hown ⊢
            refine ⟨ext_trans hbW hbelW, .inr (.inr ⟨Hgood.out, os, A', cap', by rw [← Hx.out]; exact Hperm.out, strict_of Hsort.out fun j a b ha hb => hadj.out j a b (by have := getq_lt hb; omega) ha hb, rfl, OwnL.lower hown (by omega)⟩)⟩
end Go.Proofs.Ytblfeokjlecgkaa
