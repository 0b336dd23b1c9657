/- Laid together by a tool from the texts of this seat: RKids UniV UniW UniX UBes RFresh ULoose. Conditions: each theorem's own. -/
import Derived.Test.YtblfeokjlecgkaaG01
import Derived.Deep.RegionHeld3
import Derived.Deep.DrawnRows
/- The document's kids of a type (layer 12), walked: copies of the children, the tail apart. -/
namespace Go.Proofs.Ytblfeokjlecgkaa
open Go.RowKit

attribute [local go_sem ↓] Go.wp_at_zero Go.wp_at_succ

theorem tail_stop {tss : List (List Nd)} {k : Nat} {ts : List Nd} (h : tss[k]? = some ts) (h9 : ∀ t ∈ lOf tss, (headNd t).k ≠ 9) (hk : (headNd ts).k = 9) : lOf tss = tss.take k ∧ tOf tss = [ts] := by
  have hi := getq_lt h
  cases ht : tailB tss
  · have e : lOf tss = tss := by unfold lOf; rw [ht]; rfl
    exact absurd hk (h9 ts (by rw [e]; exact List.mem_of_getElem? h))
  · have e : lOf tss = tss.take (tss.length - 1) := by unfold lOf; rw [if_pos ht]
    have e2 : tOf tss = tss.drop (tss.length - 1) := by unfold tOf; rw [if_pos ht]
    have hkl : k = tss.length - 1 := by
      apply Classical.byContradiction
      intro hne
      refine h9 ts ?_ hk
      rw [e]
      exact List.mem_of_getElem? (i := k) (by rw [List.getElem?_take_of_lt (by omega)]; exact h)
    subst hkl
    exact ⟨e, by rw [e2, drop_cons h, List.drop_eq_nil_of_le (by omega)]⟩

theorem tail_none {tss : List (List Nd)} (h : ∀ t ∈ tss, (headNd t).k ≠ 9) : lOf tss = tss ∧ tOf tss = [] := by
  have ht : tailB tss = false := by
    unfold tailB
    cases hl : tss.getLast? with
    | none => rfl
    | some t => simpa using h t (List.mem_of_getLast? hl)
  unfold lOf tOf
  rw [ht]
  exact ⟨rfl, rfl⟩

theorem kidsGo_lenF {T : List Nd} : ∀ (d : Nat) (at_ : Nat) (zs : List (List Nd)), zs.length = d → T.drop at_ = zs.flatten → (∀ z ∈ zs, Fo 1 z ∧ okAll z) → (kidsGo T d at_).length = d
  | 0, _, _, _, _, _ => rfl
  | d + 1, at_, [], h, _, _ => by simp at h
  | d + 1, at_, z :: zs, hz, hd, h1 => by
    rw [List.flatten_cons] at hd
    obtain ⟨hz1, hz2⟩ := h1 z (by simp)
    rw [kidsGo_step (drop_lt hd hz1.pos), List.length_cons, endGo_one hd hz2 hz1, kidsGo_lenF d _ zs (by simpa using hz) (drop_more hd) fun y hy => h1 y (by simp [hy])]

def KidsPost (tss : List (List Nd)) (w : World) (e : Ending) (w' : World) : Prop :=
  ∃ (V : Option Addr) (cv : Nat) (vs : List (Option Addr × Nat × Nat)) (A3 : Option Addr) (c3 : Nat), e = .returned (.tuple #[.slice V vs.length cv, .slice A3 (tOf tss).flatten.length c3]) ∧ OwnS w' w.heap.size V cv vs ∧ Sls w' w'.heap.size vs (lOf tss) ∧
    TyA w' w'.heap.size A3 (tOf tss).flatten ∧ (∀ q ∈ vs, q.2.1 ≤ q.2.2) ∧ Below w.heap.size w w'

set_option maxRecDepth 100000 in
set_option maxHeartbeats 8000000 in
theorem rKids12_any (A : Option Addr) (c : Nat) (T ks : List Nd) (x : Nd) (tss : List (List Nd)) (w : World) (ha : TyA w w.heap.size A T) (hl : T.length ≤ 1000000) (hc : T.length ≤ c) (hT : T = x :: ks) (hxo : okNode x.k x.n = true) (hok : okAll ks) (ht : Trees (manyN x) ks tss) (h9 : ∀ t ∈ lOf tss, (headNd t).k ≠ 9) :
    Calls Try.prog 110 #[.slice A T.length c, .int .i64 0] w (KidsPost tss w) := by
  have hx : T[0]? = some x := by rw [hT]; rfl
  have hm50 : manyN x ≤ 50 := manyN_le hxo
  have hokT : okAll T := fun y hy => by
    rw [hT] at hy
    rcases List.mem_cons.1 hy with rfl | hy
    · exact hxo
    · exact hok y hy
  obtain ⟨M, hM, hM50, _⟩ := many_nat hxo
  have hMm : M = manyN x := by unfold manyN; rw [hM]; simp
  subst hMm
  have hkr : kidsR T 0 = kidsGo T (manyN x) 1 := by
    unfold kidsR
    rw [if_neg (by omega)]
    simp only [Int.toNat_zero, hx, hM]
    simp
  have hown0 := own_empty 34 1 encS w
  have hb0 := ext_alloc (Below.refl w.heap.size w) (.cells #[] 34)
  have hkc := Lib.hid (rKids_any A c T 0 (w.alloc (.cells #[] 34)) ((ha.below hb0).more hb0.size) hl hokT)
  have Ht := Lib.hid ht
  have HokT := Lib.hid hokT
  have H9 := Lib.hid h9
  have hT1 : T.drop 1 = (tss.drop 0).flatten := by rw [hT, List.drop_zero, ht.flat]; rfl
  have htl := ht.len
  have hGl : (kidsGo T (manyN x) 1).length = manyN x := kidsGo_lenF _ _ tss htl (by rw [hT1, List.drop_zero]) fun z hz => ⟨ht.one z hz, fun y hy => hok y (by rw [← ht.flat]; exact List.mem_flatten.2 ⟨z, hz, hy⟩)⟩
  have hokz : ∀ z ∈ tss, okAll z := fun z hz y hy => hok y (by rw [← ht.flat]; exact List.mem_flatten.2 ⟨z, hz, hy⟩)
  have Hokz := Lib.hid hokz
  have Ha := Lib.hid ha
  have hown0 := Lib.hid hown0
  have Hb0 := Lib.hid hb0
  obtain ⟨bT, oT, rfl, hbT, _, _, _⟩ := ha.at_ hx
  have HEnd : Hid (∀ (at_ : Nat) (ts rest : List Nd) (v : World), TyA v v.heap.size (some ⟨bT, oT, none⟩) T → T.drop at_ = ts ++ rest → okAll ts → Fo 1 ts → Calls Try.prog 62 #[.slice (some ⟨bT, oT, none⟩) T.length c, .int .i64 (at_ : Int)] v fun e w' => e = .returned (.int .i64 ((at_ : Int) + (ts.length : Int))) ∧ Below v.heap.size v w') := Lib.hid fun at_ ts rest v hv hd ho hf => by
    have h := rEnd_any (some ⟨bT, oT, none⟩) c T (at_ : Int) v hv hl hokT
    rw [endR_nat (drop_lt hd hf.pos), endGo_one hd ho hf] at h
    simpa using h
  rw [hkr] at hkc
  generalize hm : manyN x = m at *
  generalize hG : kidsGo T m 1 = G at *
  have HG : Hid (G = [] ++ kidsGo T (m - 0) 1 ∧ ([] : List Nat).length = 0) := Lib.hid ⟨by rw [← hG]; rfl, rfl⟩
  have HT1 := Lib.hid hT1
  have Htl := Lib.hid htl
  have HGl := Lib.hid hGl
  clear hx hT hxo hok ht h9 hkr hb0 hM hokT hT1 hm htl ha hM50 hG hGl hokz
  go_enter Try.func110, Try.ntmps110
  go_wp2_with fail
  refine hkc.out.mono ?_
  rintro e w1 ⟨K, ck, rfl, hown, hb⟩
  rw [asI_len, HGl.out]
  have M0 : Hid (RowH w K ck (asI G) (some ⟨w.heap.size, 0, none⟩) 0 [] (tss.take 0) none 0 [] w1) := Lib.hid ⟨RowM.start w _ 0 (hown0.out.below hb (Nat.le_refl _)) (ext_trans Hb0.out hb), OwnL.lower hown Hb0.out.size, fun a b h1 h2 e => by
      have := (OwnL.lt hown a h1).1
      cases h2
      simp at this e
      omega, (fun a b _ h2 => by cases h2), (fun v hv => by cases hv)⟩
  clear hkc hown hb hown0 Hb0
  go_wp2_with fail
  go_loopw [6, 8] (fun s6 s8 wr => ∃ (k at_ : Nat) (V : Option Addr) (cv : Nat) (vs : List (Option Addr × Nat × Nat)) (pre : List Nat), s6 = .slice V vs.length cv ∧ s8 = .int .i64 k ∧ k ≤ m ∧ vs.length ≤ 50 ∧ Hid (vs.length = k ∧ G = pre ++ kidsGo T (m - k) at_ ∧ pre.length = k ∧ T.drop at_ = (tss.drop k).flatten) ∧
      Hid (RowH w K ck (asI G) V cv vs (tss.take k) none 0 [] wr) ∧ Hid ((∀ t ∈ tss.take k, (headNd t).k ≠ 9) ∧ ∀ q ∈ vs, q.2.1 ≤ q.2.2)) (fun _ s8 _ => m - (intOf s8).toNat)
  case atStart => exact ⟨0, 1, some ⟨w.heap.size, 0, none⟩, 0, [], [], rfl, rfl, Nat.zero_le _, by simp, Lib.hid ⟨rfl, HG.out.1, rfl, HT1.out⟩, M0, Lib.hid ⟨fun t ht => by simp at ht, fun q hq => by simp at hq⟩⟩
  case round =>
    clear M0 HG HT1
    obtain ⟨k, at_, V, cv, vs, pre, rfl, rfl, hkm, hv50, hpos, M, HF⟩ := hrel
    by_cases hlt : k < m
    · obtain ⟨ts, hts⟩ := getq_ex (show k < tss.length by rw [Htl.out]; exact hlt)
      have hmem := List.mem_of_getElem? hts
      have hf := Ht.out.one ts hmem
      have hok := Hokz.out ts hmem
      obtain ⟨hvk, hGp, hpl, hdr⟩ := hpos.out
      have hd := hdr
      rw [flatten_drop_step hts] at hd
      have hal : at_ < T.length := drop_lt hd hf.pos
      obtain ⟨d, hdd⟩ : ∃ d, m - k = d + 1 := ⟨m - k - 1, by omega⟩
      have hGk : G[k]? = some at_ := by
        rw [hdd, kidsGo_step hal] at hGp
        rw [hGp, List.getElem?_append_right (by rw [hpl]; exact Nat.le_refl _), hpl]
        simp
      have hpos' : Hid (G = (pre ++ [at_]) ++ kidsGo T (m - (k + 1)) (at_ + ts.length) ∧ (pre ++ [at_]).length = k + 1 ∧ T.drop (at_ + ts.length) = (tss.drop (k + 1)).flatten) := Lib.hid ⟨by
        rw [hdd, kidsGo_step hal, endGo_one hd hok hf] at hGp
        rw [hGp, show m - (k + 1) = d by omega]; simp, by simp [hpl], drop_more hd⟩
      have hle : at_ + ts.length ≤ T.length := by
        have := congrArg List.length hd
        rw [List.length_drop, List.length_append] at this
        omega
      obtain ⟨y0, ys, rfl⟩ : ∃ y0 ys, ts = y0 :: ys := by
        cases ts with
        | nil => exact absurd hf.nil_of (by omega)
        | cons y0 ys => exact ⟨y0, ys, rfl⟩
      obtain ⟨bk, ok, hke, hkb, kc⟩ := ReadL.int (OwnL.read encI_len M.out.had) (asI_get hGk)
      subst hke
      have hkG : k < G.length := getq_lt hGk
      have HTy : Hid (∀ v, Below wr.heap.size wr v → TyA v v.heap.size (some ⟨bT, oT, none⟩) T) := Lib.hid fun v hb => ((Ha.out.below M.out.m.bel).below (hb.mono M.out.m.bel.size)).more (Nat.le_trans M.out.m.bel.size hb.size)
      have HE := Lib.hid (fun v hb => HEnd.out at_ (y0 :: ys) _ v (HTy.out v hb) hd hok hf)
      have HPart : Hid (∀ v, Below wr.heap.size wr v → TyA v v.heap.size (some ⟨bT, oT + at_ * 3, none⟩) (y0 :: ys)) := Lib.hid fun v hb => TyA.part (HTy.out v hb) hd
      have S0 : Hid (∀ v, Below wr.heap.size wr v → v.cell? ⟨bk, ok + k, none⟩ = some (.int .i64 (at_ : Int)) ∧ Hid (Below wr.heap.size wr v)) := Lib.hid fun v hb => ⟨(hb.cell (p := ⟨bk, ok + k, none⟩) hkb).trans kc, Lib.hid hb⟩
      have Hts := Lib.hid hts
      have HGk := Lib.hid HGl.out
      have hv49 : vs.length ≤ 49 := by omega
      have hac : at_ + (y0 :: ys).length ≤ c := by omega
      have hyl : (y0 :: ys).length ≤ 1000000 := by omega
      have hL0 : 0 < (y0 :: ys).length := by simp
      have hI1 : (0 : Int) ≤ (at_ : Int) := by omega
      have hI2 : (at_ : Int) ≤ (at_ : Int) + ((y0 :: ys).length : Int) := by omega
      have hI3 : (at_ : Int) + ((y0 :: ys).length : Int) ≤ (c : Int) := by omega
      have hown0 := Lib.hid (own_empty 48 3 encN wr)
      have hwz := M.out.m.bel.size
      generalize hL : (y0 :: ys).length = L at *
      have HL := Lib.hid hL
      clear hts hmem hf hok hvk hGp hpl hdr hd hdd hGk kc hal hL
      go_wp2_with fail
      go_region_held3 (fun v => v.cell? ⟨bk, ok + k, none⟩ = some (.int .i64 (at_ : Int)) ∧ Hid (Below wr.heap.size wr v))
        (first
          | exact S0.out _ (Below.refl _ _).drew
          | exact S0.out _ (ext_alloc (Below.refl _ _) _).drew
          | exact S0.out _ hw1.out
          | exact S0.out _ (ext_alloc hw1.out _)
          | exact S0.out _ hw2.out)
        (first
          | (go_at_call 62; (with_reducible refine (HE.out _ (Below.refl _ _).drew).mono ?_); rintro e w2 ⟨rfl, hb2⟩; have hw1 := Lib.hid (ext_trans (Below.refl _ wr).drew hb2); have hO := Lib.hid (own_empty 48 3 encN w2); clear hb2)
          | (go_at_call 62; (with_reducible refine (HE.out _ (ext_alloc (Below.refl _ _) _).drew).mono ?_); rintro e w2 ⟨rfl, hb2⟩; have hw1 := Lib.hid (ext_trans (ext_alloc (Below.refl _ wr) _).drew hb2); have hO := Lib.hid (OwnL.below (OwnL.below hown0.out (Below.refl _ _).drew (Nat.le_refl _)) hb2 (Nat.le_refl _)); clear hb2)
          | (refine step_appN (by rfl) _ _ (by rfl) wr.heap.size (l := []) (by rfl) hO.out (l2 := y0 :: ys) (A2 := some ⟨bT, oT + at_ * 3, none⟩) (c := c - at_) (by show Value.slice (if c = at_ then _ else _) (((at_ : Int) + (L : Int)).toNat - at_) (c - at_) = _; rw [if_neg (by omega), HL.out, show ((at_ : Int) + (L : Int)).toNat - at_ = L by omega]) (B := w2.heap.size) (HPart.out _ hw1.out) (by rw [HL.out]; simp; omega) (by have := hw1.out.size; omega) ?_; intro A2 cap2 w2' hown2 hg2 _; have hw2 := Lib.hid (ext_app hw1.out hg2 (fun q hq => (OwnL.block hO.out q hq).1)); have hX := Lib.hid hown2; clear hown2 hg2)
          | (refine step_appN (by rfl) _ _ (by rfl) w2.heap.size (l := []) (by rfl) hO.out (l2 := y0 :: ys) (A2 := some ⟨bT, oT + at_ * 3, none⟩) (c := c - at_) (by show Value.slice (if c = at_ then _ else _) (((at_ : Int) + (L : Int)).toNat - at_) (c - at_) = _; rw [if_neg (by omega), HL.out, show ((at_ : Int) + (L : Int)).toNat - at_ = L by omega]) (B := w2.heap.size + 1) (by have h := HPart.out _ (ext_alloc hw1.out (.cells #[] 48)); simpa using h) (by rw [HL.out]; simp; omega) (by simp) ?_; intro A2 cap2 w2' hown2 hg2 _; have hw2 := Lib.hid (ext_app (ext_alloc hw1.out _) hg2 (fun q hq => Nat.le_trans hw1.out.size (OwnL.block hO.out q hq).1)); have hX := Lib.hid (OwnL.lower hown2 hw1.out.size); clear hown2 hg2))
      all_goals
        rw [List.nil_append] at hX
        have MX := Lib.hid (M.out.fresh hX.out hw2.out)
        obtain ⟨g, hA2, _, _, _, _, _, _⟩ := OwnL.setM hX.out (j := 0) (x := y0) rfl 0
        subst hA2
        obtain ⟨b9, o9, hA9, hb9, c10, _, _⟩ := (OwnL.tyA MX.out.m.cur).at_ (i := 0) (x := y0) rfl
        injection hA9 with hA9
        injection hA9 with e1 e2 _
        subst e1 e2
        simp only [Nat.zero_mul, Nat.zero_add] at c10
        have HX2 := Lib.hid hX.out
        have hcp := Lib.hid (OwnL.le_cap hX.out)
        clear hX hw2 M HTy HE HPart S0 hown0 hkb
        cases h9 : (y0.k == 9)
        · have H9k := Lib.hid h9
          go_wp2_with (at_builtin; refine wpList_appS rfl (.tmp 41) (.tmp 43) rfl w.heap.size (l := vs) rfl (OwnL.alloc MX.out.m.row _) (l2 := [(some ⟨g, 0, none⟩, ys.length + 1, cap2)]) rfl (readS_new _ (some ⟨g, 0, none⟩, ys.length + 1, cap2)) (by simp; omega) (by have := MX.out.m.bel.size; simp; omega) ?_; intro V2 cv2 w8 hown8 hg8 hA8; have M3 := Lib.hid ((MX.out.alloc _).app hown8 hg8 hA8); clear hown8 hg8 hA8)
          go_roundw
          case rel => exact ⟨k + 1, at_ + L, V2, cv2, vs ++ [(some ⟨g, 0, none⟩, ys.length + 1, cap2)], pre ++ [at_], by simp, by go_num, hlt, by simp; omega, Lib.hid ⟨by simp [hpos.out.1], hpos'.out⟩, Lib.hid (by
            have h := M3.out
            rw [List.take_add_one, Hts.out]
            exact h), Lib.hid ⟨fun t ht => by
            rw [List.take_add_one, Hts.out] at ht
            rcases List.mem_append.1 ht with ht | ht
            · exact HF.out.1 t ht
            · simp at ht
              subst ht
              simpa [headNd] using H9k.out, fun q hq => by
            rcases List.mem_append.1 hq with hq | hq
            · exact HF.out.2 q hq
            · simp at hq
              subst hq
              exact hcp.out⟩⟩
          case measure => simp [intOf]; omega
        · have H9k := Lib.hid h9
          go_wp2_with fail
          go_ret2
          obtain ⟨e1, e2⟩ := tail_stop Hts.out H9.out (by simpa [headNd] using H9k.out)
          refine ⟨V, cv, vs, some ⟨g, 0, none⟩, cap2, ?_, MX.out.m.row, by rw [e1]; exact MX.out.m.sls, ?_, HF.out.2, MX.out.m.bel⟩
          · rw [e2]; simp only [List.flatten_cons, List.flatten_nil, List.append_nil]; rfl
          · rw [e2]; simp only [List.flatten_cons, List.flatten_nil, List.append_nil]; exact OwnL.tyA MX.out.m.cur
    · have hkm2 : k = m := by omega
      have e1 : tss.take k = tss := by rw [hkm2, ← Htl.out, List.take_length]
      rw [e1] at M HF
      obtain ⟨e2, e3⟩ := tail_none HF.out.1
      have E2 := Lib.hid (And.intro e2 e3)
      clear e1 e2 e3 hkm2
      go_wp2_with fail
      go_ret2
      refine ⟨V, cv, vs, none, 0, ?_, M.out.m.row, by rw [E2.out.1]; exact M.out.m.sls, ?_, HF.out.2, M.out.m.bel⟩
      · rw [E2.out.2]; rfl
      · rw [E2.out.2]; exact TyA.nil
end Go.Proofs.Ytblfeokjlecgkaa

/- Plain types told behind a run; types that hold for all that is told. -/
namespace Go.Proofs.Ytblfeokjlecgkaa

theorem mays_good {U : List Lb} {next : Int} {l : List Stp} (hU : ∀ y ∈ labsM l, y ∈ U) (h : maysB next l = true) : ∀ x ∈ l, GoodS U next x := fun x hx => by
  obtain ⟨_, _, _, _, h4, _⟩ := mays_parts h
  obtain ⟨a, b⟩ := mem_labsM hx
  exact good_of_may (hU _ (by simp [labsM])) (hU _ (by simp [labsM])) (hU _ a) (fun e => ⟨fun y hy => hU _ ((b e).1 y hy), fun y hy => hU _ ((b e).2 y hy)⟩) (h4 x hx)
section
variable {types : List (List Nd)}
end
end Go.Proofs.Ytblfeokjlecgkaa

/- What is known of the first variables may be told again. -/
namespace Go.Proofs.Ytblfeokjlecgkaa

section
variable {U : List Lb} {S : Kn}
theorem chain_ex (h : KG U S) {k n : Int} {fs : Fl} {tl : Option Int} (h8 : k ≠ 8) (g : TG U S (.mk k n fs tl)) : ∃ x p, Chain S k fs tl x p ∧ ∀ q, p = some q → S.κ q = none := by
  obtain ⟨r, h1, h2⟩ := h.rk
  obtain rfl := okT_num g.pend.1 h8
  have key : ∀ (N : Nat) (x : Fl) (p : Option Int), Chain S k fs tl x p → (∀ q, p = some q → r q ≤ N) → ∃ x p, Chain S k fs tl x p ∧ ∀ q, p = some q → S.κ q = none := by
    intro N
    induction N with
    | zero =>
      intro x p c hp
      refine ⟨x, p, c, fun q hq => ?_⟩
      cases hk : S.κ q with
      | none => rfl
      | some t => have := (h2 q t hk).1; have := hp q hq; omega
    | succ N ih =>
      intro x p c hp
      cases p with
      | none => exact ⟨x, none, c, fun q hq => by cases hq⟩
      | some q =>
        cases hk : S.κ q with
        | none => exact ⟨x, some q, c, fun q' hq => by injection hq with hq; subst hq; exact hk⟩
        | some t =>
          obtain ⟨_, _, d, _⟩ := c.row h.inv h.fu h8 g.pend g.fu
          obtain ⟨_, ls, hls, _⟩ := d q rfl
          have hr := h.inv.row q t ls hk hls
          obtain ⟨k', n', gs, q'⟩ := t
          obtain rfl := okT_num (h.inv.dom q _ hk).2.1 hr.1
          refine ih _ _ (.more c hk) fun q2 hq2 => ?_
          have := (h2 q _ hk).2.2 ls q2 hls hq2
          have := hp q rfl
          omega
  cases tl with
  | none => exact ⟨fs, none, .here, fun q hq => by cases hq⟩
  | some q => exact key (r q) fs (some q) .here fun q' hq => by injection hq with hq; subst hq; exact Nat.le_refl _
theorem row_ex (h : KG U S) {t : Ut} (hr : isRowB t.k = true) (g : TG U S t) : ∃ x p, RowG U S t x p := by
  obtain ⟨k, n, fs, tl⟩ := t
  have h8 : k ≠ 8 := by rintro rfl; cases hr
  obtain ⟨x, p, c, hp⟩ := chain_ex h h8 g
  exact ⟨_, _, RowG.of_chain h h8 g c hp⟩
theorem tg_res (h : KG U S) : ∀ (N : Nat) (t : Ut), tsz (inst S.σ t) ≤ N → TG U S t → nnT (inst S.σ t) ∧ labT U (inst S.σ t) ∧ fuT S.L (inst S.σ t) := by
  intro N
  induction N with
  | zero =>
    intro t ht
    cases e : inst S.σ t with
    | mk k n fs tl => rw [e, tsz_mk] at ht; omega
  | succ N ih =>
    intro t ht g
    obtain ⟨u, hl⟩ := looks_ex h.rk t
    obtain ⟨gu, _, eu⟩ := hl.good h g
    rw [eu] at ht ⊢
    have hend := hl.end_
    clear eu hl g
    obtain ⟨k, n, fs, tl⟩ := u
    by_cases h8 : k = 8
    · obtain ⟨e, _⟩ := okT_shape gu.pend.1 h8
      have hun : S.κ n = none := hend h8
      rw [e, inst_var, (h.inv.unk n hun).1]
      have := gu.nn
      rw [e] at this
      exact ⟨this, labT_var U n, by rw [← e]; exact gu.fu⟩
    · cases hr : isRowB k with
      | false =>
        obtain ⟨rfl, rfl, hin⟩ := inst_plain (S := S) gu.pend.1 gu.sh h8 hr
        have hc : ∀ p ∈ fs, nnT (inst S.σ p.2) ∧ labT U (inst S.σ p.2) ∧ fuT S.L (inst S.σ p.2) := fun p hp => ih p.2 (by have := plain_less gu.pend.1 gu.sh h8 hr hp; omega) (gu.child hp)
        have hlb := gu.lb
        rw [labT_mk] at hlb
        rw [hin, nnT_mk, labT_mk, fuT_mk, mapF_labs]
        refine ⟨⟨fun e => absurd e h8, fun p hp => (by cases hp), fun p hp => ?_⟩, ⟨hlb.1, fun p hp => ?_⟩, fun q ls hq => (by cases hq), fun p hp => ?_⟩
        · obtain ⟨q, hq, rfl⟩ := List.mem_map.1 hp
          exact (hc q hq).1
        · obtain ⟨q, hq, rfl⟩ := List.mem_map.1 hp
          exact (hc q hq).2.1
        · obtain ⟨q, hq, rfl⟩ := List.mem_map.1 hp
          exact (hc q hq).2.2
      | true =>
        obtain ⟨x, p, r⟩ := row_ex (t := .mk k n fs tl) h hr gu
        have hc : ∀ c ∈ x, nnT (inst S.σ c.2) ∧ labT U (inst S.σ c.2) ∧ fuT S.L (inst S.σ c.2) := fun c hc => ih c.2 (by have := r.less hc; omega) (r.el c hc)
        rw [r.is, nnT_mk, labT_mk, fuT_mk, mapF_labs]
        refine ⟨⟨fun e => absurd e h8, r.nn, fun p hp => ?_⟩, ⟨r.lb, fun p hp => ?_⟩, fun q ls hq hls l hl => ?_, fun p hp => ?_⟩
        · obtain ⟨q, hq, rfl⟩ := List.mem_map.1 hp
          exact (hc q hq).1
        · obtain ⟨q, hq, rfl⟩ := List.mem_map.1 hp
          exact (hc q hq).2.1
        · obtain ⟨_, _, ls', e1, e2⟩ := r.of.tl q hq
          rw [hls] at e1
          injection e1 with e1
          subst e1
          exact (e2 l).1 hl
        · obtain ⟨q, hq, rfl⟩ := List.mem_map.1 hp
          exact (hc q hq).2.2
end

noncomputable def mendT : Ut → Ut
  | .mk k n fs tl => if k = 7 ∧ fs = [] ∧ tl = none then .mk 6 n [] none else .mk k n (fs.attach.map fun p => (p.1.1, mendT p.1.2)) tl
termination_by t => SizeOf.sizeOf t
decreasing_by all_goals exact Ut.size_mem p.2
theorem mendT_mk (k n : Int) (fs : Fl) (tl : Option Int) : mendT (.mk k n fs tl) = if k = 7 ∧ fs = [] ∧ tl = none then .mk 6 n [] none else .mk k n (mapF mendT fs) tl := by
  rw [mendT, attach_map]
theorem mapF_nil_iff {f : Ut → Ut} {fs : Fl} : mapF f fs = [] ↔ fs = [] := by
  unfold mapF; simp
theorem mendT_st : ∀ t, stT t ∧ riT t → stT (mendT t) ∧ riT (mendT t) := by
  refine Ut.ind fun k n fs tl ih h => ?_
  rw [stT_mk, riT_mk] at h
  obtain ⟨⟨h0, hc⟩, hr, hrc⟩ := h
  rw [mendT_mk]
  split
  · rw [stT_mk, riT_mk]
    exact ⟨⟨by decide, fun p hp => by cases hp⟩, List.Pairwise.nil, fun p hp => by cases hp⟩
  · have hm : ∀ p ∈ mapF mendT fs, stT p.2 ∧ riT p.2 := fun p hp => by
      obtain ⟨q, hq, rfl⟩ := List.mem_map.1 hp
      exact ih q hq ⟨hc q hq, hrc q hq⟩
    rw [stT_mk, riT_mk]
    exact ⟨⟨h0, fun p hp => (hm p hp).1⟩, rise_mapF hr, fun p hp => (hm p hp).2⟩
theorem getF_nil_iff {fs : Fl} : fs = [] ↔ ∀ l, (getF l fs).isSome = false := by
  constructor
  · rintro rfl l; rfl
  · intro h
    cases fs with
    | nil => rfl
    | cons p fs =>
      have := h p.1
      rw [getF, if_pos rfl] at this
      cases this
theorem mendT_co {a b : Ut} (h : Co a b) : Co (mendT a) (mendT b) := by
  induction h with
  | dl n fs tl b => rw [mendT_mk, if_neg (by simp)]; exact .dl _ _ _ _
  | dr n fs tl a => rw [mendT_mk, if_neg (by simp)]; exact .dr _ _ _ _
  | nd k n fs gs tl hl hc ih =>
    have e : fs = [] ↔ gs = [] := by
      rw [getF_nil_iff, getF_nil_iff]
      constructor
      · intro h l; rw [← hl]; exact h l
      · intro h l; rw [hl]; exact h l
    rw [mendT_mk, mendT_mk]
    by_cases h7 : k = 7 ∧ fs = [] ∧ tl = none
    · rw [if_pos h7, if_pos ⟨h7.1, e.1 h7.2.1, h7.2.2⟩]; exact Co.refl _
    · rw [if_neg h7, if_neg (fun h => h7 ⟨h.1, e.2 h.2.1, h.2.2⟩)]
      refine .nd k n _ _ tl (fun l => ?_) fun l x y hx hy => ?_
      · rw [getF_mapF, getF_mapF, Option.isSome_map, Option.isSome_map]; exact hl l
      · rw [getF_mapF] at hx hy
        obtain ⟨x', hx', rfl⟩ := Option.map_eq_some_iff.1 hx
        obtain ⟨y', hy', rfl⟩ := Option.map_eq_some_iff.1 hy
        exact ih l x' y' hx' hy'
noncomputable def mendVa (τ : Va) : Va := ⟨fun n => mendT (τ.v n), τ.t⟩
theorem mendT_inst (τ : Va) {m0 : Int} : ∀ t, wfT t → noTl m0 t → inst (mendVa τ) t = mendT (inst τ t) := by
  refine Ut.ind fun k n fs tl ih hw no => ?_
  rw [noTl_mk] at no
  rw [wfT_mk] at hw
  obtain ⟨_, rfl, nc⟩ := no
  by_cases h8 : k = 8
  · rw [inst_eq, inst_eq, if_pos h8, if_pos h8]; rfl
  · rw [inst_plain' h8 (wf_rise hw.1), inst_plain' h8 (wf_rise hw.1), mendT_mk, if_neg, mapF_comp]
    · congr 1
      exact mapF_congr fun p hp => ih p hp (hw.2 p hp) (nc p hp)
    · rintro ⟨h7, he, _⟩
      have h1 := hw.1.un h7
      rw [mapF_nil_iff.1 he] at h1
      simp [tailN] at h1
theorem mendVa_holds {U : List Lb} {m0 : Int} {l : List Stp} (hg : ∀ x ∈ l, GoodS U m0 x) {τ : Va} (h : allC l τ) : allC l (mendVa τ) := by
  intro x hx
  have hh := h x hx
  have hc := (hg x hx).c
  unfold Stp.cst at hh hc ⊢
  by_cases hz : x.l.size = 0
  · rw [if_pos hz] at hh hc ⊢
    show Co (inst _ _) (inst _ _)
    rw [mendT_inst _ _ hc.1.wf hc.1.no, mendT_inst _ _ hc.2.wf hc.2.no]
    exact mendT_co hh
  · rw [if_neg hz] at hh ⊢
    obtain ⟨R, tl, e1, e2⟩ := hh
    refine ⟨mapF mendT R, tl, ?_, ?_⟩
    · show mendT (τ.v x.n) = _
      rw [e1, mendT_mk, if_neg]
      rintro ⟨_, rfl, _⟩
      cases e2
    · show _ = some (mendT (τ.v x.m))
      rw [getF_mapF, e2]; rfl
def unT : Ut → Prop
  | .mk k _ fs tl => (k = 7 → fs ≠ [] ∨ tl ≠ none) ∧ ∀ p ∈ fs, unT p.2
termination_by t => SizeOf.sizeOf t
decreasing_by exact Ut.size_mem (by assumption)
theorem unT_mk {k n : Int} {fs : Fl} {tl : Option Int} : unT (.mk k n fs tl) ↔ (k = 7 → fs ≠ [] ∨ tl ≠ none) ∧ ∀ p ∈ fs, unT p.2 := by rw [unT]
theorem un_of {L : Sorts} {τ : Va} (hτ : τ.Ok L) : ∀ t, okT L t → mendT t = inst τ t → unT t := by
  refine Ut.ind fun k n fs tl ih ok e => ?_
  rw [okT_mk] at ok
  rw [unT_mk]
  rw [mendT_mk, inst_eq] at e
  by_cases h8 : k = 8
  · obtain ⟨rfl, rfl⟩ := ok.1.2.1 (.inr h8)
    exact ⟨fun h => by rw [h8] at h; exact absurd h (by decide), fun p hp => (by cases hp)⟩
  · rw [if_neg h8] at e
    by_cases h7 : k = 7 ∧ fs = [] ∧ tl = none
    · rw [if_pos h7] at e
      injection e with e _
      rw [h7.1] at e
      exact absurd e (by decide)
    · rw [if_neg h7] at e
      injection e with _ _ e _
      refine ⟨fun hk => ?_, fun p hp => ih p hp (ok.2 p hp) ?_⟩
      · by_cases hf : fs = []
        · right; intro ht; exact h7 ⟨hk, hf, ht⟩
        · exact .inl hf
      · have hgp : getF p.1 fs = some p.2 := getF_of_mem ok.1.1 hp
        have h1 := inst_get hτ ok.1 p.1
        rw [hgp, ← e] at h1
        have h2 : ((some p.2).map (inst τ)).or (getF p.1 (τ.tail tl).1) = some (inst τ p.2) := rfl
        rw [h2, getF_mapF, hgp] at h1
        simpa using h1
theorem run_un {U : List Lb} {m0 : Int} {S : Kn} {l : List Stp} (h : Run U m0 (allC l) S) (hg : ∀ x ∈ l, GoodS U m0 x) {n : Int} (hn : n < m0) : unT (S.σ.v n) := by
  have hc := mendVa_holds hg h.most.self
  obtain ⟨τ, hτ, e⟩ := h.most.above h.low (τ := mendVa S.σ) (fun x hx => mendT_st _ (h.most.st hx)) hc
  exact un_of hτ.1 _ (h.kg.inv.wf.v n (h.most.sort n hn)) (e n hn).2.symm

theorem wf_known {L : Sorts} {Lo U : List Lb} (hLo : Lo.length ≤ 40) : ∀ t, okT L t → shT t → riT t → nnT t → labT U t → unT t → fewLo Lo t → ndT t ≤ 10000 → wfT t := by
  refine Ut.ind fun k n fs tl ih ok sh ri nn lb un few nd => ?_
  rw [okT_mk] at ok
  rw [shT_mk] at sh
  rw [riT_mk] at ri
  rw [nnT_mk] at nn
  rw [labT_mk] at lb
  rw [unT_mk] at un
  rw [fewLo_mk] at few
  rw [ndT_mk] at nd
  have h50 : fs.length ≤ 50 := by
    split at nd
    · omega
    · omega
  rw [if_neg (by omega)] at nd
  rw [wfT_mk]
  refine ⟨⟨ok.1.1, ok.1.2.1, ok.1.2.2.2.1, nn.1, sh.1, fun hr => ⟨ri.1, fun l hl => (lb.1 l hl).2 hr⟩, nn.2.1, fun hr => ?_, fun h7 => ?_⟩, fun p hp => ih p hp (ok.2 p hp) (sh.2 p hp) (ri.2 p hp) (nn.2.2 p hp) (lb.2 p hp) (un.2 p hp) (few.2 p hp) (by have := nd_mem hp; omega)⟩
  · cases tl with
    | none => simpa [tailN] using h50
    | some q =>
      have h1 := few.1 rfl
      have h2 := nodup_len ok.1.1 h1
      unfold labsF at h2
      rw [List.length_map] at h2
      simp only [tailN, List.length_singleton]
      omega
  · rcases un.1 h7 with h | h
    · have := List.length_pos_iff.2 h
      omega
    · cases tl with
      | none => exact absurd rfl h
      | some q => simp [tailN]
theorem run_wf {U : List Lb} {m0 : Int} {S : Kn} {l : List Stp} (h : Run U m0 (allC l) S) (hg : ∀ x ∈ l, GoodS U m0 x) (hl : l.length ≤ 12) {n : Int} (h0 : 0 ≤ n) (hn : n < m0) : wfT (S.σ.v n) ∧ TG U S (S.σ.v n) ∧ inst S.σ (S.σ.v n) = S.σ.v n := by
  have hL := h.most.sort n hn
  have ok := h.kg.inv.wf.v n hL
  have hv := h.kg.var hL h0 (by have := h.most.m; omega)
  obtain ⟨nn, lb, fu⟩ := tg_res h.kg _ (varT n) (Nat.le_refl _) hv
  rw [inst_var] at nn lb fu
  have hsh := h.kg.sh.σ.v n hL
  have hid : inst S.σ (S.σ.v n) = S.σ.v n := by
    have := h.kg.inv.gen S.σ h.kg.inv.sat.1 h.kg.inv.sat.2 (varT n) (okT_var hL)
    rwa [inst_var] at this
  have hLo : (opnL l).length ≤ 40 := by
    unfold opnL
    rw [List.length_map]
    have := List.length_filter_le (fun x : Stp => !(x.l.size == 0)) l
    omega
  refine ⟨wf_known hLo _ ok hsh (h.most.st hn).2 nn lb (run_un h hg hn) (run_few h hg hn) (h.fit n h0 hn).1, ?_, hid⟩
  refine ⟨⟨ok, h.kg.inv.bd.v n (by have := h.most.m; omega) hL⟩, fu, hsh, nn, lb⟩
end Go.Proofs.Ytblfeokjlecgkaa

/- What is known, without its variables: loose, and ground. -/
namespace Go.Proofs.Ytblfeokjlecgkaa

theorem fl_split {k n : Int} {fs : Fl} {tl : Option Int} (h : wfT (.mk k n fs tl)) (s : Lb) : ∃ (x : Nd) (tss : List (List Nd)), flT s (.mk k n fs tl) = x :: tss.flatten ∧ Trees (manyN x) tss.flatten tss ∧ x.k = k ∧ x.s = s ∧ (isRowB k = false → x.n = n) ∧
    lOf tss = fs.map (fun p => flT (if isRowB k = true then p.1 else ByteArray.empty) p.2) ∧ tOf tss = (tailN tl).map fun x => [x] := by
  have h9 : ∀ (f : Lb × Ut → Lb), ∀ t ∈ fs.map (fun p => flT (f p) p.2), (headNd t).k ≠ 9 := fun f t ht => by
    obtain ⟨p, hp, rfl⟩ := List.mem_map.1 ht
    rw [(flT_head (t := p.2) (f p)).2]
    exact ((wfT_mk.1 h).2 p hp).k9
  have hfo : ∀ p ∈ fs, ∀ s, Fo 1 (flT s p.2) := fun p hp s => (wf_fl p.2 ((wfT_mk.1 h).2 p hp) s).1.fo
  have h1 := (wfT_mk.1 h).1
  rw [flT_mk]
  cases hr : isRowB k with
  | true =>
    have h67 : k = 6 ∨ k = 7 := by simpa [isRowB] using hr
    obtain ⟨e1, e2⟩ := lt_app (tl := tl) (h9 fun p => p.1)
    refine ⟨⟨k, s, (fs.length + (tailN tl).length : Nat)⟩, fs.map (fun p => flT p.1 p.2) ++ (tailN tl).map fun x => [x], ?_, ⟨?_, rfl, fun ts hts => ?_⟩, rfl, rfl, fun e => (by cases e), by rw [e1]; simp, e2⟩
    · rw [if_pos rfl, List.flatten_append, flF_flat]
      cases tl <;> rfl
    · unfold manyN many
      rw [if_neg (by show k ≠ 5; omega), if_pos hr]
      simp
      omega
    · rcases List.mem_append.1 hts with hts | hts
      · obtain ⟨p, hp, rfl⟩ := List.mem_map.1 hts
        exact hfo p hp p.1
      · obtain ⟨x, hx, rfl⟩ := List.mem_map.1 hts
        cases tl with
        | none => cases hx
        | some q =>
          simp only [tailN, List.mem_singleton] at hx
          subst hx
          rfl
  | false =>
    have e1 := lt_app (tl := none) (h9 fun _ => ByteArray.empty)
    simp only [tailN, List.map_nil, List.append_nil] at e1
    have htl : tl = none := by
      by_cases h5 : k = 5
      · exact (h1.sh.2.2.1 h5).2
      · exact (h1.sh.2.2.2 h5 hr).2
    subst htl
    refine ⟨⟨k, s, n⟩, fs.map (fun p => flT ByteArray.empty p.2), by rw [if_neg (by simp), flE_flat], ⟨?_, rfl, fun ts hts => ?_⟩, rfl, rfl, fun _ => rfl, by rw [e1.1]; simp, e1.2⟩
    · rw [List.length_map]
      unfold manyN many
      by_cases h5 : k = 5
      · obtain ⟨⟨a, b, rfl⟩, _⟩ := h1.sh.2.2.1 h5
        rw [if_pos h5]; rfl
      · obtain ⟨rfl, _⟩ := h1.sh.2.2.2 h5 hr
        rw [if_neg h5]
        show _ = ((if isRowB k = true then n else 0 : Int)).toNat
        rw [hr]; rfl
    · obtain ⟨p, hp, rfl⟩ := List.mem_map.1 hts
      exact hfo p hp _

noncomputable def looseT : Ut → Ut
  | .mk k n fs tl => if k = 8 then dynU else .mk k n (fs.attach.map fun p => (p.1.1, looseT p.1.2)) tl
termination_by t => SizeOf.sizeOf t
decreasing_by all_goals exact Ut.size_mem p.2
theorem looseT_mk (k n : Int) (fs : Fl) (tl : Option Int) : looseT (.mk k n fs tl) = if k = 8 then dynU else .mk k n (mapF looseT fs) tl := by
  rw [looseT, attach_map]
theorem looseT_co {a b : Ut} (h : Co a b) : Co (looseT a) (looseT b) := by
  induction h with
  | dl n fs tl b => rw [looseT_mk, if_neg (by decide)]; exact .dl _ _ _ _
  | dr n fs tl a => rw [looseT_mk, if_neg (by decide)]; exact .dr _ _ _ _
  | nd k n fs gs tl hl hc ih =>
    rw [looseT_mk, looseT_mk]
    split
    · exact Co.refl _
    · refine .nd k n _ _ tl (fun l => ?_) fun l x y hx hy => ?_
      · rw [getF_mapF, getF_mapF, Option.isSome_map, Option.isSome_map]; exact hl l
      · rw [getF_mapF] at hx hy
        obtain ⟨x', hx', rfl⟩ := Option.map_eq_some_iff.1 hx
        obtain ⟨y', hy', rfl⟩ := Option.map_eq_some_iff.1 hy
        exact ih l x' y' hx' hy'
def looseN (x : Nd) : Nd := if x.k = 8 then ⟨0, x.s, 0⟩ else x
theorem loose_fl : ∀ t, wfT t → ∀ s, flT s (looseT t) = (flT s t).map looseN := by
  refine Ut.ind fun k n fs tl ih h s => ?_
  rw [wfT_mk] at h
  have hF : ∀ gs : Fl, (∀ p ∈ gs, ∀ s, flT s (looseT p.2) = (flT s p.2).map looseN) → flF (mapF looseT gs) = (flF gs).map looseN ∧ flE (mapF looseT gs) = (flE gs).map looseN := by
    intro gs
    induction gs with
    | nil =>
      intro _
      have : mapF looseT [] = [] := rfl
      rw [this, flF_nil, flE_nil]
      exact ⟨rfl, rfl⟩
    | cons p gs ih2 =>
      intro h
      obtain ⟨a, b⟩ := ih2 fun q hq => h q (by simp [hq])
      rw [mapF_cons, flF_cons, flE_cons, flF_cons, flE_cons, List.map_append, List.map_append, a, b, h p (by simp), h p (by simp)]
      exact ⟨rfl, rfl⟩
  obtain ⟨hf, he⟩ := hF fs fun p hp => ih p hp (h.2 p hp)
  rw [looseT_mk]
  by_cases h8 : k = 8
  · obtain ⟨rfl, rfl⟩ := h.1.lf (.inr h8)
    rw [if_pos h8, flT_mk, h8]
    unfold dynU
    rw [flT_mk, if_neg (by decide), if_neg (by decide), flE_nil]
    rfl
  · rw [if_neg h8, flT_mk, flT_mk]
    have hn : ∀ m : Int, looseN ⟨k, s, m⟩ = ⟨k, s, m⟩ := fun m => if_neg h8
    split
    · rw [List.map_cons, List.map_append, hn, hf, mapF_len]
      congr 2
      cases tl with
      | none => rfl
      | some q => rfl
    · rw [List.map_cons, hn, he]
theorem dyn_wf : wfT dynU := gd_wf (gd_of (T := [bareNd 0 0]) (by rfl)).1
theorem loose_wf : ∀ t, wfT t → wfT (looseT t) := by
  refine Ut.ind fun k n fs tl ih h => ?_
  rw [wfT_mk] at h
  rw [looseT_mk]
  split
  · exact dyn_wf
  · rw [wfT_mk]
    refine ⟨h.1.mapF, fun p hp => ?_⟩
    obtain ⟨q, hq, rfl⟩ := List.mem_map.1 hp
    exact ih q hq (h.2 q hq)
theorem loose_no : ∀ t, wfT t → ∀ s, (∀ x ∈ flT s t, x.k ≠ 9) → noTl 0 (looseT t) := by
  refine Ut.ind fun k n fs tl ih h s hs => ?_
  rw [wfT_mk] at h
  rw [looseT_mk]
  split
  · unfold dynU
    rw [noTl_mk]
    exact ⟨fun e => absurd e (by decide), rfl, fun c hc => by cases hc⟩
  · next h8 =>
    rw [flT_mk] at hs
    rw [noTl_mk]
    have key : ∀ p ∈ fs, ∃ s, ∀ x ∈ flT s p.2, x.k ≠ 9 := fun p hp => by
      split at hs
      · refine ⟨p.1, fun x hx => hs x (List.mem_cons_of_mem _ (List.mem_append.2 (.inl ?_)))⟩
        rw [flF_flat]
        exact List.mem_flatten.2 ⟨_, List.mem_map.2 ⟨p, hp, rfl⟩, hx⟩
      · refine ⟨ByteArray.empty, fun x hx => hs x (List.mem_cons_of_mem _ ?_)⟩
        rw [flE_flat]
        exact List.mem_flatten.2 ⟨_, List.mem_map.2 ⟨p, hp, rfl⟩, hx⟩
    refine ⟨fun e => absurd e h8, ?_, fun c hc => ?_⟩
    · cases tl with
      | none => rfl
      | some q =>
        exfalso
        split at hs
        · exact hs ⟨9, ByteArray.empty, q⟩ (by simp [tailN]) rfl
        · next hr =>
          have hr : isRowB k = false := by simpa using hr
          by_cases h5 : k = 5
          · obtain ⟨_, e⟩ := h.1.sh.2.2.1 h5; cases e
          · obtain ⟨_, e⟩ := h.1.sh.2.2.2 h5 hr; cases e
    · obtain ⟨q, hq, rfl⟩ := List.mem_map.1 hc
      obtain ⟨s', hs'⟩ := key q hq
      exact ih q hq (h.2 q hq) s' hs'
theorem loose_agree {a b : Ut} (ha : wfT a) (hb : wfT b) (h : Co a b) {s s' : Lb} (na : ∀ x ∈ flT s a, x.k ≠ 9) (nb : ∀ x ∈ flT s' b, x.k ≠ 9) : agG ((flT s a).map looseN).length ((flT s a).map looseN) ((flT s' b).map looseN) = true := by
  obtain ⟨g1, u1⟩ := wf_fl _ (loose_wf a ha) s
  obtain ⟨g2, u2⟩ := wf_fl _ (loose_wf b hb) s'
  rw [← loose_fl a ha, ← loose_fl b hb]
  rw [agG_co _ _ _ g1 g2 (by rw [u1]; exact loose_no a ha s na) (by rw [u2]; exact loose_no b hb s' nb) (Nat.le_refl _), u1, u2]
  exact looseT_co h
theorem wf_inst {m0 : Int} {σ : Va} (h : ∀ n, 0 ≤ n → n < m0 → wfT (σ.v n)) : ∀ t, wfT t → noTl m0 t → wfT (inst σ t) := by
  refine Ut.ind fun k n fs tl ih hw hn => ?_
  rw [wfT_mk] at hw
  rw [noTl_mk] at hn
  obtain ⟨h8, rfl, hc⟩ := hn
  by_cases e8 : k = 8
  · rw [inst_eq, if_pos e8]
    exact h n (hw.1.n8 e8) (h8 e8)
  · rw [inst_plain' e8 (wf_rise hw.1), wfT_mk]
    refine ⟨hw.1.mapF, fun p hp => ?_⟩
    obtain ⟨q, hq, rfl⟩ := List.mem_map.1 hp
    exact ih q hq (hw.2 q hq) (hc q hq)

noncomputable def grT : Ut → Ut
  | .mk k n fs _ => if k = 8 ∨ (k = 7 ∧ fs.length = 0) then unitT else .mk k n (fs.attach.map fun p => (p.1.1, grT p.1.2)) none
termination_by t => SizeOf.sizeOf t
decreasing_by all_goals exact Ut.size_mem p.2
theorem grT_mk (k n : Int) (fs : Fl) (tl : Option Int) : grT (.mk k n fs tl) = if k = 8 ∨ (k = 7 ∧ fs.length = 0) then unitT else .mk k n (mapF grT fs) none := by
  rw [grT, attach_map]
theorem unit_wf : wfT unitT := gd_wf (gd_of (T := [bareNd 4 0]) (by rfl)).1
theorem gr_wf : ∀ t, wfT t → wfT (grT t) ∧ noTl 0 (grT t) ∧ dpT (grT t) ≤ dpT t ∧ ndT (grT t) ≤ ndT t := by
  refine Ut.ind fun k n fs tl ih h => ?_
  rw [wfT_mk] at h
  rw [grT_mk]
  have hF : ∀ gs : Fl, (∀ p ∈ gs, dpT (grT p.2) ≤ dpT p.2 ∧ ndT (grT p.2) ≤ ndT p.2) → dpF (mapF grT gs) ≤ dpF gs ∧ ndF (mapF grT gs) ≤ ndF gs := by
    intro gs
    induction gs with
    | nil => intro _; exact ⟨Nat.le_refl _, Nat.le_refl _⟩
    | cons p gs ih2 =>
      intro h
      obtain ⟨a, b⟩ := ih2 fun q hq => h q (by simp [hq])
      have := h p (by simp)
      rw [mapF_cons, dpF_cons, ndF_cons, dpF_cons, ndF_cons]
      show max (dpT (grT p.2)) _ ≤ _ ∧ ndT (grT p.2) + _ ≤ _
      omega
  obtain ⟨d1, d2⟩ := hF fs fun p hp => (ih p hp (h.2 p hp)).2.2
  split
  · refine ⟨unit_wf, ?_, ?_, ?_⟩
    · unfold unitT; rw [noTl_mk]; exact ⟨fun e => absurd e (by decide), rfl, fun c hc => by cases hc⟩
    · unfold unitT; rw [dpT_mk, dpF_nil]; exact dpT_pos _
    · unfold unitT; rw [ndT_mk, ndF_nil]; have := (ndT_le (.mk k n fs tl)).1; simp; exact this
  · next hk =>
    refine ⟨?_, ?_, ?_, ?_⟩
    · rw [wfT_mk]
      obtain ⟨a1, a2, a3, a4, a5, a6, a7, a8, a9⟩ := h.1.mapF (f := grT)
      refine ⟨⟨a1, fun e => ⟨(a2 e).1, rfl⟩, a3, a4, ⟨a5.1, a5.2.1, fun e => ⟨(a5.2.2.1 e).1, rfl⟩, fun e1 e2 => ⟨(a5.2.2.2 e1 e2).1, rfl⟩⟩, a6, fun p hp => (by cases hp), fun hr => (by have := a8 hr; simp only [tailN, List.length_nil]; omega), fun h7 => ?_⟩, fun p hp => ?_⟩
      · rw [mapF_len]
        have : fs.length ≠ 0 := fun e => hk (.inr ⟨h7, e⟩)
        omega
      · obtain ⟨q, hq, rfl⟩ := List.mem_map.1 hp
        exact (ih q hq (h.2 q hq)).1
    · rw [noTl_mk]
      refine ⟨fun e => absurd (.inl e) hk, rfl, fun c hc => ?_⟩
      obtain ⟨q, hq, rfl⟩ := List.mem_map.1 hc
      exact (ih q hq (h.2 q hq)).2.1
    · rw [dpT_mk, dpT_mk]; omega
    · rw [ndT_mk, ndT_mk, mapF_len]; split <;> omega
theorem gr_fl : ∀ t, wfT t → ∀ s, grdT (flT s t) = flT s (grT t) := by
  refine Ut.ind fun k n fs tl ih h s => ?_
  obtain ⟨x, tss, e, tr, xk, xs, xn, hl, _⟩ := fl_split h s
  rw [e, grdT_cons, ← tr.uniq, hl, grT_mk, List.length_map, xk, xs]
  split
  · unfold unitT
    rw [flT_mk, if_neg (by decide), flE_nil]
  · rw [flT_mk, List.map_map]
    have hc : fs.map (grdT ∘ fun p => flT (if isRowB k = true then p.1 else ByteArray.empty) p.2) = (mapF grT fs).map fun p => flT (if isRowB k = true then p.1 else ByteArray.empty) p.2 := by
      unfold mapF
      rw [List.map_map]
      exact List.map_congr_left fun p hp => ih p hp ((wfT_mk.1 h).2 p hp) _
    rw [hc]
    cases hr : isRowB k with
    | true =>
      simp only [if_true]
      rw [flF_flat, mapF_len]
      simp [tailN]
    | false =>
      rw [if_neg (by simp), if_neg (by simp), flE_flat]
      have : x = ⟨k, s, n⟩ := by
        obtain ⟨a, b, c⟩ := x
        simp only at xk xs
        have xn := xn hr
        simp only at xn
        rw [xk, xs, xn]
      rw [this]
      simp
theorem fl_len_no {m : Int} : ∀ t, noTl m t → ndT t ≤ 10000 → ∀ s, (flT s t).length ≤ ndT t := by
  refine Ut.ind fun k n fs tl ih no h s => ?_
  rw [noTl_mk] at no
  obtain ⟨_, rfl, nc⟩ := no
  rw [ndT_mk] at h ⊢
  split at h
  · omega
  · next h50 =>
    rw [if_neg h50]
    have h2 := flF_le (f := ndT) (fs := fs) fun p hp s => ih p hp (nc p hp) (by have := nd_mem hp; omega) s
    rw [← ndF_sum] at h2
    rw [flT_mk]
    split
    · simp only [List.length_cons, List.length_append, tailN, List.length_nil]; omega
    · simp only [List.length_cons]; omega

theorem gd_ok {x : Nd} {ks : List Nd} (h : GdT (x :: ks)) : okNode x.k x.n = true := by
  generalize hT : x :: ks = T at h
  cases h with
  | mk y tss ok => injection hT with h1 _; rw [h1]; exact ok
theorem lt_leS {a b : Lb} (h : ltB a b = true) : leS b a = false := by
  rw [leS_not]
  have : Op.bytesLess a.toList b.toList = true := h
  rw [this]; rfl
theorem childOk_of {x y : Nd} {k : Int} {last : Lb} (h9 : y.k ≠ 9) (hr : isRowB x.k = true → rowLabelB x.k y.s = true ∧ ltB last y.s = true) (he : isRowB x.k = false → y.s = ByteArray.empty) : childOk x k last y = true := by
  unfold childOk
  rw [if_neg h9]
  cases hx : isRowB x.k with
  | true =>
    obtain ⟨a, b⟩ := hr hx
    rw [lt_leS b]
    unfold rowLabelB at a
    unfold labelB
    split
    · next e => rw [if_pos e] at a; rw [a]; rfl
    · next e =>
      rw [if_neg e] at a
      split
      · next e2 => rw [if_pos e2] at a; rw [a]; rfl
      · next e2 => rw [if_neg e2] at a; cases a
  | false =>
    rw [he hx]
    unfold labelB
    have : x.k ≠ 6 ∧ x.k ≠ 7 := by simpa [isRowB] using hx
    rw [if_neg this.1, if_neg this.2]
    rfl
theorem rt_list {f : Nat} {x : Nd} : ∀ (tss : List (List Nd)) (k : Int) (last : Lb), (∀ ts ∈ tss, ∃ y ks, ts = y :: ks ∧ y.k ≠ 9 ∧ okNode y.k y.n = true ∧ RtF f y 0 ByteArray.empty (manyN y) ks) →
    (isRowB x.k = true → (labsT tss).Pairwise (fun a b => ltB a b = true) ∧ ∀ l ∈ labsT tss, rowLabelB x.k l = true ∧ ltB last l = true) → (isRowB x.k = false → ∀ l ∈ labsT tss, l = ByteArray.empty) → RtF (f + 1) x k last tss.length tss.flatten
  | [], k, last, _, _, _ => .nil _ _ _ _
  | t :: tss, k, last, h, hr, he => by
    obtain ⟨y, ks, rfl, h9, ho, h1⟩ := h t (by simp)
    have hlab : labsT ((y :: ks) :: tss) = y.s :: labsT tss := rfl
    rw [List.flatten_cons, List.cons_append, List.length_cons]
    refine .cons ho (childOk_of h9 (fun hx => (hr hx).2 y.s (by rw [hlab]; simp)) fun hx => he hx y.s (by rw [hlab]; simp)) h1 (rt_list tss (k + 1) y.s (fun ts hts => h ts (by simp [hts])) (fun hx => ?_) fun hx l hl => he hx l (by rw [hlab]; simp [hl]))
    obtain ⟨a, b⟩ := hr hx
    rw [hlab, List.pairwise_cons] at a
    exact ⟨a.2, fun l hl => ⟨(b l (by rw [hlab]; simp [hl])).1, a.1 l hl⟩⟩
theorem rowLabel_pos {k : Int} {l : Lb} (h : rowLabelB k l = true) : ltB ByteArray.empty l = true := by
  have hne : l.data.toList ≠ [] := by
    intro e
    unfold rowLabelB wordB tagB at h
    rw [e] at h
    split at h
    · cases h
    · split at h
      · cases h
      · cases h
  have e1 : l.toList = l.data.toList := ByteArray.toList_eq l
  have e2 : ByteArray.empty.toList = [] := by rw [ByteArray.toList_eq]; rfl
  unfold ltB
  rw [bless_eq, e1, e2]
  cases hl : l.data.toList with
  | nil => exact absurd hl hne
  | cons c cs => exact decide_eq_true (List.nil_lt_cons c cs)
theorem fl_rt {m : Int} : ∀ t, wfT t → noTl m t → ∀ (f : Nat) (s : Lb), dpT t ≤ f + 1 → ∃ x ks, flT s t = x :: ks ∧ x.k = t.k ∧ x.s = s ∧ okNode x.k x.n = true ∧ RtF f x 0 ByteArray.empty (manyN x) ks := by
  refine Ut.ind fun k n fs tl ih hw hn f s hd => ?_
  obtain ⟨x, tss, e, tr, xk, xs, xn, hl, ht⟩ := fl_split hw s
  have ho : okNode x.k x.n = true := gd_ok (ks := tss.flatten) (by rw [← e]; exact (wf_fl _ hw s).1)
  rw [wfT_mk] at hw
  rw [noTl_mk] at hn
  obtain ⟨_, rfl, nc⟩ := hn
  have htss : tss = fs.map (fun p => flT (if isRowB k = true then p.1 else ByteArray.empty) p.2) := by
    have := lOf_tOf tss
    rw [ht, hl] at this
    rw [← this]
    simp [tailN]
  refine ⟨x, tss.flatten, e, xk, xs, ho, ?_⟩
  rw [← tr.len]
  rw [dpT_mk] at hd
  have hdp : ∀ p ∈ fs, dpT p.2 ≤ dpF fs := by
    have : ∀ gs : Fl, ∀ p ∈ gs, dpT p.2 ≤ dpF gs := by
      intro gs
      induction gs with
      | nil => intro p hp; cases hp
      | cons q gs ih =>
        intro p hp
        rw [dpF_cons]
        rcases List.mem_cons.1 hp with rfl | hp
        · omega
        · have := ih p hp; omega
    exact this fs
  cases hfs : fs with
  | nil =>
    rw [hfs] at htss
    rw [htss]
    exact .nil _ _ _ _
  | cons p0 fs0 =>
    have hp0 := hdp p0 (by rw [hfs]; simp)
    have h1 := dpT_pos p0.2
    obtain ⟨f, rfl⟩ : ∃ f', f = f' + 1 := ⟨f - 1, by omega⟩
    refine rt_list tss 0 ByteArray.empty (fun ts hts => ?_) (fun hr => ?_) fun hr l hl2 => ?_
    · rw [htss] at hts
      obtain ⟨p, hp, rfl⟩ := List.mem_map.1 hts
      obtain ⟨y, ks, e1, e2, e3, e4, e5⟩ := ih p hp (hw.2 p hp) (nc p hp) f (if isRowB k = true then p.1 else ByteArray.empty) (by have := hdp p hp; omega)
      exact ⟨y, ks, e1, by rw [e2]; exact (hw.2 p hp).k9, e4, e5⟩
    · rw [xk] at hr
      have hlab : labsT tss = labsF fs := by
        rw [htss, labsT, List.map_map, labsF]
        refine List.map_congr_left fun p _ => ?_
        show (headNd (flT _ p.2)).s = p.1
        rw [(flT_head _).1, if_pos hr]
      rw [hlab, xk]
      obtain ⟨a, b⟩ := hw.1.row hr
      exact ⟨List.pairwise_map.2 a, fun l hl => ⟨b l hl, rowLabel_pos (b l hl)⟩⟩
    · rw [xk] at hr
      rw [htss, labsT, List.map_map] at hl2
      obtain ⟨p, _, rfl⟩ := List.mem_map.1 hl2
      show (headNd (flT _ p.2)).s = _
      rw [(flT_head _).1, hr]
      rfl
theorem fl_right {m : Int} {t : Ut} (hw : wfT t) (hn : noTl m t) (hd : dpT t ≤ 100) (hl : ndT t ≤ 10000) : rightB (flT ByteArray.empty t) = true := by
  obtain ⟨x, ks, e1, e2, e3, e4, e5⟩ := fl_rt t hw hn 99 ByteArray.empty hd
  exact IsR.right ⟨e1, by have := fl_len_no t hn hl ByteArray.empty; omega, e3, by rw [e2]; exact hw.k9, e4, e5⟩
theorem ground_right {t : Ut} (hw : wfT t) (hd : dpT t ≤ 100) (hl : ndT t ≤ 10000) : rightB (grdT (flT ByteArray.empty t)) = true := by
  obtain ⟨a, b, c, d⟩ := gr_wf t hw
  rw [gr_fl t hw]
  exact fl_right a b (by omega) (by omega)
end Go.Proofs.Ytblfeokjlecgkaa

/- Rows of types stand while a solver is written. -/
namespace Go.Proofs.Ytblfeokjlecgkaa
open Go.RowKit

structure OffR (w : World) (g : Nat) : Prop where
  cell : ∀ (o : Nat) (v : Value), w.cell? ⟨g, o, none⟩ = some v → (∀ l, v ≠ .string l) ∧ ∀ A n c, v ≠ .slice A n c
section
variable {X : Nat → Prop} {w w' : World}
theorem TyA.past {B : Nat} {A : Option Addr} {xs : List Nd} (h : TyA w B A xs) (hX : ∀ k, X k → OffR w k) (hf : Fr X w w') (hB : B ≤ w.heap.size) : TyA w' B A xs := by
  refine h.frame hf hB fun hne a ha hx => ?_
  cases xs with
  | nil => exact hne rfl
  | cons x xs =>
    obtain ⟨b1, o1, rfl, _, _, c1, _⟩ := h.at_ (i := 0) (x := x) rfl
    injection ha with ha
    subst ha
    exact ((hX b1 hx).cell _ _ c1).1 _ rfl
theorem ReadS.past {B : Nat} {V : Option Addr} {vs : List (Option Addr × Nat × Nat)} (h : ReadS w B V vs) (hX : ∀ k, X k → OffR w k) (hf : Fr X w w') (hB : B ≤ w.heap.size) : ReadS w' B V vs := fun hne => by
  obtain ⟨b, o, hA, hb, hr⟩ := h hne
  refine ⟨b, o, hA, hb, fun i x hx j u hu => ?_⟩
  refine (World.cell?_of_block (a := ⟨b, o + i * 1 + j, none⟩) (hf.block b (Nat.lt_of_lt_of_le hb hB) fun hx2 => ?_)).trans (hr i x hx j u hu)
  have hj : j = 0 := by have := getq_lt hu; rw [encS_len] at this; omega
  subst hj
  have h1 := hr i x hx 0 _ rfl
  exact ((hX b hx2).cell _ _ h1).2 _ _ _ rfl
theorem RowS.past {V : Option Addr} {vs : List (Option Addr × Nat × Nat)} {tss : List (List Nd)} (h : RowS V vs tss w) (hX : ∀ k, X k → OffR w k) (hf : Fr X w w') : RowS V vs tss w' :=
  ⟨(h.1.past hX hf (Nat.le_refl _)).more hf.size, ⟨h.2.1, fun i v xs hv hx => ⟨(h.2.2 i v xs hv hx).1, (((h.2.2 i v xs hv hx).2).past hX hf (Nat.le_refl _)).more hf.size⟩⟩⟩
end
def ToldI (U : List Lb) (s m m0 : Nat) (l : List Stp) (i : Nat) (wr : World) : Prop := ∃ S, RunB U (m0 : Int) (l.take i) S ∧ SolG U s m m0 wr S
theorem ToldI.next {U : List Lb} {s m m0 : Nat} {l : List Stp} {i : Nat} {x : Stp} {w : World} {e : Ending} {w' : World} (hx : l[i]? = some x) (h : DoPost U s m m0 (l.take i) x w e w') : ∃ v : Int, e = .returned (.int .i64 v) ∧ (v = 0 ∨ v = 9) ∧ Fr (SX s m) w w' ∧ (v = 0 → ToldI U s m m0 l (i + 1) w') ∧ (v = 9 → Bad (m0 : Int) (allC (l.take (i + 1)))) := by
  obtain ⟨ok, rfl, hf, hno, hyes⟩ := h
  have e1 : l.take i ++ [x] = l.take (i + 1) := by rw [List.take_add_one, hx]; rfl
  rw [e1] at hno hyes
  cases ok with
  | false => exact ⟨9, rfl, .inr rfl, hf, fun e => (by cases e), fun _ => hno rfl⟩
  | true => exact ⟨0, rfl, .inl rfl, hf, fun _ => hyes rfl, fun e => by cases e⟩
theorem Stps.more {w : World} {B B' : Nat} {vs : List StV} {xs : List Stp} (h : Stps w B vs xs) (hB : B ≤ B') : Stps w B' vs xs := ⟨h.1, fun i v x hv hx => by
  have h := h.2 i v x hv hx
  exact ⟨h.l, h.k, h.n, h.m, h.al, h.aa.more hB, h.ac, h.bl, h.ba.more hB, h.bc⟩⟩
end Go.Proofs.Ytblfeokjlecgkaa

/- The document's Fresh, walked. -/
namespace Go.Proofs.Ytblfeokjlecgkaa
open Go.RowKit

theorem flatMap_setS (v : ByteArray) (x : Nd) : ∀ (l : List Nd) (j : Nat), l[j]? = some x → (l.set j ⟨x.k, v, x.n⟩).flatMap encN = (l.flatMap encN).set (j * 3 + 1) (.string v)
  | [], j, h => by simp at h
  | y :: l, 0, h => by
    simp at h
    subst h
    rw [List.set_cons_zero, List.flatMap_cons, List.flatMap_cons]
    rfl
  | y :: l, j + 1, h => by
    rw [List.getElem?_cons_succ] at h
    rw [List.set_cons_succ, List.flatMap_cons, List.flatMap_cons, flatMap_setS v x l j h, List.set_append_right _ _ (by rw [encN_len]; omega), encN_len, show (j + 1) * 3 + 1 - 3 = j * 3 + 1 by omega]

theorem OwnL.setL {w : World} {base : Nat} {A : Option Addr} {cap : Nat} {l : List Nd} (h : OwnN w base A cap l) {j : Nat} {x : Nd} (hx : l[j]? = some x) (v : ByteArray) :
    ∃ g, A = some ⟨g, 0, none⟩ ∧ base ≤ g ∧ g < w.heap.size ∧ w.cell? ⟨g, j * 3 + 1, none⟩ = some (.string x.s) ∧ w.frozen? ⟨g, j * 3 + 1, none⟩ = false ∧
      OwnN (w.setCell ⟨g, j * 3 + 1, none⟩ (.string v)) base A cap (l.set j ⟨x.k, v, x.n⟩) ∧ w.grownBy (w.setCell ⟨g, j * 3 + 1, none⟩ (.string v)) (some g) := by
  obtain ⟨b, o, hA, hb, c0, c1, c2⟩ := (OwnL.tyA h).at_ hx
  have hc := c1
  have h' : w.ownsRow base 48 3 (.slice A l.length cap) l.length (l.flatMap encN) := h
  rcases h'.2 with ⟨hv, hn⟩ | ⟨g, cap', cur, hv, hbg, hg, hnc, hcm, hcs, htake⟩
  · injection hv with hA' hl hc'
    rw [hA'] at hA
    cases hA
  · injection hv with hA' hl hc'
    subst hA'
    injection hA with hA
    injection hA with hA1 hA2 hA3
    subst hA1
    rw [← hA2, Nat.zero_add] at hc
    obtain ⟨h2, h3⟩ := World.ownsRow.stored h' (j * 3 + 1) (.string v)
    refine ⟨g, rfl, hbg, hb, hc, World.ownsRow.frozenAt h' _, ?_, h3⟩
    show (w.setCell ⟨g, j * 3 + 1, none⟩ (.string v)).ownsRow base 48 3 (.slice (some ⟨g, 0, none⟩) (l.set j ⟨x.k, v, x.n⟩).length cap) (l.set j ⟨x.k, v, x.n⟩).length ((l.set j ⟨x.k, v, x.n⟩).flatMap encN)
    rw [List.length_set, flatMap_setS v x l j hx]
    exact h2

theorem OwnL.setAll {w : World} {base : Nat} {A : Option Addr} {cap : Nat} {l : List Nd} (h : OwnN w base A cap l) {j : Nat} {x : Nd} (hx : l[j]? = some x) (y : Nd) :
    ∃ g, A = some ⟨g, 0, none⟩ ∧ base ≤ g ∧ g < w.heap.size ∧ (w.cell? ⟨g, j * 3, none⟩ = some (.int .i64 x.k) ∧ w.frozen? ⟨g, j * 3, none⟩ = false) ∧ (w.cell? ⟨g, j * 3 + 1, none⟩ = some (.string x.s) ∧ w.frozen? ⟨g, j * 3 + 1, none⟩ = false) ∧ (w.cell? ⟨g, j * 3 + 2, none⟩ = some (.int .i64 x.n) ∧ w.frozen? ⟨g, j * 3 + 2, none⟩ = false) ∧
      Hid (OwnN (((w.setCell ⟨g, j * 3, none⟩ (.int .i64 y.k)).setCell ⟨g, j * 3 + 1, none⟩ (.string y.s)).setCell ⟨g, j * 3 + 2, none⟩ (.int .i64 y.n)) base A cap (l.set j y) ∧
        w.grownBy (((w.setCell ⟨g, j * 3, none⟩ (.int .i64 y.k)).setCell ⟨g, j * 3 + 1, none⟩ (.string y.s)).setCell ⟨g, j * 3 + 2, none⟩ (.int .i64 y.n)) (some g)) := by
  obtain ⟨g, rfl, hbg, hg, ck, fk, h1, g1⟩ := OwnL.setK h hx y.k
  obtain ⟨gs, es, _, _, cs, fs, _, _⟩ := OwnL.setL h hx y.s
  injection es with es
  injection es with es _ _
  subst es
  obtain ⟨gm, em, _, _, cm, fm, _, _⟩ := OwnL.setM h hx y.n
  injection em with em
  injection em with em _ _
  subst em
  refine ⟨g, rfl, hbg, hg, ⟨ck, fk⟩, ⟨cs, fs⟩, ⟨cm, fm⟩, ?_⟩
  have hx2 : (l.set j ⟨y.k, x.s, x.n⟩)[j]? = some ⟨y.k, x.s, x.n⟩ := by rw [List.getElem?_set_self (getq_lt hx)]
  obtain ⟨g4, e4, _, _, _, _, h4, g2⟩ := OwnL.setL h1 hx2 y.s
  injection e4 with e4
  injection e4 with e4 _ _
  subst e4
  rw [List.set_set] at h4
  have hx3 : (l.set j ⟨y.k, y.s, x.n⟩)[j]? = some ⟨y.k, y.s, x.n⟩ := by rw [List.getElem?_set_self (getq_lt hx)]
  obtain ⟨g5, e5, _, _, _, _, h5, g3⟩ := OwnL.setM h4 hx3 y.n
  injection e5 with e5
  injection e5 with e5 _ _
  subst e5
  rw [List.set_set] at h5
  exact Lib.hid ⟨h5, only_trans (only_trans g1 g2) g3⟩

end Go.Proofs.Ytblfeokjlecgkaa

/- The law's loose, walked. -/
namespace Go.Proofs.Ytblfeokjlecgkaa
open Go.RowKit

def looseTo (xs : List Nd) (k : Nat) : List Nd := (xs.take k).map looseN ++ xs.drop k
theorem looseTo_zero (xs : List Nd) : looseTo xs 0 = xs := by simp [looseTo]
theorem looseTo_end (xs : List Nd) : looseTo xs xs.length = xs.map looseN := by simp [looseTo]
theorem looseTo_len (xs : List Nd) (k : Nat) : (looseTo xs k).length = xs.length := by
  simp only [looseTo, List.length_append, List.length_map, List.length_take, List.length_drop]
  omega
theorem looseTo_at {xs : List Nd} {k : Nat} {x : Nd} (hx : xs[k]? = some x) : (looseTo xs k)[k]? = some x := by
  have := getq_lt hx
  unfold looseTo
  rw [List.getElem?_append_right (by simp only [List.length_map, List.length_take]; omega), List.length_map, List.length_take, Nat.min_eq_left (by omega), Nat.sub_self, List.getElem?_drop]
  exact hx
theorem looseTo_step {xs : List Nd} {k : Nat} {x : Nd} (hx : xs[k]? = some x) : looseTo xs (k + 1) = (looseTo xs k).set k (looseN x) := by
  have hk := getq_lt hx
  unfold looseTo
  have e : (xs.take k).map looseN ++ xs.drop k = (xs.take k).map looseN ++ (x :: xs.drop (k + 1)) := by rw [drop_cons hx]
  have hl : ((xs.take k).map looseN).length = k := by simp only [List.length_map, List.length_take]; omega
  rw [e, List.set_append_right _ _ (by omega), hl, Nat.sub_self, List.set_cons_zero, List.take_add_one, hx, List.map_append, List.append_assoc]
  rfl
def LoosePost (xs : List Nd) (w : World) (e : Ending) (w' : World) : Prop := Below w.heap.size w w' ∧
  ((e = .returned (.tuple #[.slice none 0 0, .bool false]) ∧ ∃ x ∈ xs, x.k = 9) ∨ ∃ A c, e = .returned (.tuple #[.slice A xs.length c, .bool (decide (0 < xs.length))]) ∧ TyA w' w'.heap.size A (xs.map looseN) ∧ xs.length ≤ c ∧ ∀ x ∈ xs, x.k ≠ 9)

set_option maxRecDepth 100000 in
set_option maxHeartbeats 4000000 in
theorem loose_any (A : Option Addr) (c : Nat) (xs : List Nd) (w : World) (ha : TyA w w.heap.size A xs) (hl : xs.length ≤ 1000000) :
    Calls Try.prog 25 #[.slice A xs.length c] w (LoosePost xs w) := by
  have Ha := Lib.hid ha
  have hown0 := Lib.hid (own_empty 48 3 encN w)
  have hb0 := Lib.hid (ext_alloc (Below.refl w.heap.size w) (.cells #[] 48))
  clear ha
  go_enter Try.func25, Try.ntmps25
  go_wp2_with (at_builtin; refine wpList_appN rfl (.tmp 6) (.tmp 7) rfl w.heap.size (l := []) rfl hown0.out (l2 := xs) rfl (Ha.out.below hb0.out) (by simp; omega) (by simp) ?_; intro A1 c1 w1 hown1 hg1 _)
  rw [List.nil_append] at hown1
  have M := Lib.hid (And.intro hown1 (ext_app hb0.out hg1 (fun k hk => (OwnL.block hown0.out k hk).1)))
  clear hown1 hg1 hown0 hb0
  go_loopw [5] (fun s5 wr => ∃ k : Nat, s5 = .int .i64 k ∧ k ≤ xs.length ∧ Hid (∀ x ∈ xs.take k, x.k ≠ 9) ∧ Hid (OwnN wr w.heap.size A1 c1 (looseTo xs k) ∧ Below w.heap.size w wr))
    (fun s5 _ => xs.length - (intOf s5).toNat)
  case atStart => exact ⟨0, rfl, Nat.zero_le _, Lib.hid (by simp), Lib.hid ⟨by rw [looseTo_zero]; exact M.out.1, M.out.2⟩⟩
  case round =>
    clear M
    obtain ⟨k, rfl, hk, hd, M⟩ := hrel
    by_cases hp : k < xs.length
    · obtain ⟨x, hx⟩ := getq_ex hp
      have Hx := Lib.hid hx
      obtain ⟨g, rfl, hbg, hg, ⟨ck, fk⟩, ⟨cs, fs⟩, ⟨cm, fm⟩, M2⟩ := OwnL.setAll M.out.1 (looseTo_at hx) ⟨0, x.s, 0⟩
      have hfl := Lib.hid (looseTo_len xs k)
      clear hx
      cases h9 : (x.k == 9)
      · have H9 := Lib.hid h9
        have hnext : Hid (∀ y ∈ xs.take (k + 1), y.k ≠ 9) := Lib.hid fun y hy => by
          rw [List.take_add_one, Hx.out] at hy
          rcases List.mem_append.1 hy with hy | hy
          · exact hd.out y hy
          · simp at hy
            rw [hy]
            simpa using H9.out
        cases h8 : (x.k == 8)
        · have H8 := Lib.hid h8
          go_wp2_with fail
          go_roundw
          case rel => exact ⟨k + 1, by go_num, hp, hnext, Lib.hid ⟨by
            rw [looseTo_step Hx.out, show looseN x = x from if_neg (by simpa using H8.out), set_self (looseTo_at Hx.out)]
            exact M.out.1, M.out.2⟩⟩
          case measure => simp [intOf]; omega
        · have H8 := Lib.hid h8
          go_wp2_with fail
          go_roundw
          case rel => exact ⟨k + 1, by go_num, hp, hnext, Lib.hid ⟨by
            rw [looseTo_step Hx.out, show looseN x = ⟨0, x.s, 0⟩ from if_pos (by simpa using H8.out)]
            exact M2.out.1, M.out.2.grown M2.out.2 M.out.2.size (fun q hq => by cases hq; exact hbg)⟩⟩
          case measure => simp [intOf]; omega
      · have H9 := Lib.hid h9
        go_wp2_with fail
        go_ret2
        exact ⟨M.out.2, .inl ⟨rfl, x, List.mem_of_getElem? Hx.out, by simpa using H9.out⟩⟩
    · have hkk : k = xs.length := by omega
      subst hkk
      have hcap := OwnL.le_cap M.out.1
      rw [looseTo_len] at hcap
      go_wp2_with fail
      go_ret2
      refine ⟨M.out.2, .inr ⟨A1, c1, ?_, ?_, hcap, ?_⟩⟩
      · simp
      · rw [← looseTo_end]; exact OwnL.tyA M.out.1
      · have := hd.out
        rwa [List.take_length] at this
end Go.Proofs.Ytblfeokjlecgkaa
