/- The document's kids of a type (layer 12), walked: copies of the children, the tail apart. -/
import Derived.Test.YtblfeokjlecgkaaGreatRCanon
import Derived.Deep.RegionHeld3
import Derived.Deep.DrawnRows
namespace Go.Proofs.YtblfeokjlecgkaaGreat
open Go.RowKit

attribute [local go_sem ↓] Go.wp_at_zero Go.wp_at_succ

/-- An append in a region that draws its order. -/
theorem step_appN {w : World} {ops : Array Oper} {o : Oper} {a : Act} {K : Act → World → Prop} {Q : Exit → Act → World → Prop} {E : Prop} (hgd : o.guard = none) (s x : Operand)
    (ho : o.op = .call { callee := .builtin .append, args := #[s, x], argTypes := #[23, 23] })
    (base : Nat) {A : Option Addr} {cap : Nat} {l : List Nd} (hs : a.eval s = .slice A l.length cap) (hown : OwnN w base A cap l) {B : Nat} {A2 : Option Addr} {c : Nat} {l2 : List Nd} (hx : a.eval x = .slice A2 l2.length c) (hr : TyA w B A2 l2)
    (hlen : l.length + l2.length ≤ 1000000000000) (hbase : base ≤ w.heap.size)
    (h : ∀ A' cap' w', OwnN w' base A' cap' (l ++ l2) → w.grownBy w' ((Value.slice A l.length cap).ownBlock) →
      ((Value.slice A' (l.length + l2.length) cap').ownBlock = (Value.slice A l.length cap).ownBlock ∨ (Value.slice A' (l.length + l2.length) cap').ownBlock = some w.heap.size) → K (a.put o.dst (.slice A' (l.length + l2.length) cap')) w') : if Region.wanted o (yielded ops a.tmps) = true then Oper.wp Tryz.prog o a w K Q else E := by
  obtain ⟨i0, hi, hz0, hz1, hz2⟩ := info_parts infoN
  have hw : Region.wanted o (yielded ops a.tmps) = true := by simp [Region.wanted, hgd]
  rw [if_pos hw]
  exact wp_app w encN_len encN_one s x 23 ho base 39 i0 _ 32 Tryz.underlying23 hi hz0 hz1 hz2 rfl (by decide) hs hown hx hr.readL (by unfold maxLen; omega) (by omega) hbase h

theorem tail_stop {tss : List (List Nd)} {k : Nat} {ts : List Nd} (h : tss[k]? = some ts) (h9 : ∀ t ∈ lOf tss, (headNd t).k ≠ 9) (hk : (headNd ts).k = 9) : lOf tss = tss.take k ∧ tOf tss = [ts] := by
  have hi := getq_lt h
  cases ht : tailB tss
  · have e : lOf tss = tss := by unfold lOf; rw [ht]; rfl
    exact absurd hk (h9 ts (by rw [e]; exact List.mem_of_getElem? h))
  · have e : lOf tss = tss.take (tss.length - 1) := by unfold lOf; rw [if_pos ht]
    have e2 : tOf tss = tss.drop (tss.length - 1) := by unfold tOf; rw [if_pos ht]
    have hkl : k = tss.length - 1 := by
      apply Classical.byContradiction
      intro hne
      refine h9 ts ?_ hk
      rw [e]
      exact List.mem_of_getElem? (i := k) (by rw [List.getElem?_take_of_lt (by omega)]; exact h)
    subst hkl
    exact ⟨e, by rw [e2, drop_cons h, List.drop_eq_nil_of_le (by omega)]⟩

theorem tail_none {tss : List (List Nd)} (h : ∀ t ∈ tss, (headNd t).k ≠ 9) : lOf tss = tss ∧ tOf tss = [] := by
  have ht : tailB tss = false := by
    unfold tailB
    cases hl : tss.getLast? with
    | none => rfl
    | some t => simpa using h t (List.mem_of_getLast? hl)
  unfold lOf tOf
  rw [ht]
  exact ⟨rfl, rfl⟩

theorem kidsGo_lenF {T : List Nd} : ∀ (d : Nat) (at_ : Nat) (zs : List (List Nd)), zs.length = d → T.drop at_ = zs.flatten → (∀ z ∈ zs, Fo 1 z ∧ okAll z) → (kidsGo T d at_).length = d
  | 0, _, _, _, _, _ => rfl
  | d + 1, at_, [], h, _, _ => by simp at h
  | d + 1, at_, z :: zs, hz, hd, h1 => by
    rw [List.flatten_cons] at hd
    obtain ⟨hz1, hz2⟩ := h1 z (by simp)
    rw [kidsGo_step (drop_lt hd hz1.pos), List.length_cons, endGo_one hd hz2 hz1, kidsGo_lenF d _ zs (by simpa using hz) (drop_more hd) fun y hy => h1 y (by simp [hy])]

/-- What kids gives back. -/
def KidsPost (tss : List (List Nd)) (w : World) (e : Ending) (w' : World) : Prop :=
  ∃ (V : Option Addr) (cv : Nat) (vs : List (Option Addr × Nat × Nat)) (A3 : Option Addr) (c3 : Nat), e = .returned (.tuple #[.slice V vs.length cv, .slice A3 (tOf tss).flatten.length c3]) ∧ OwnS w' w.heap.size V cv vs ∧ Sls w' w'.heap.size vs (lOf tss) ∧
    TyA w' w'.heap.size A3 (tOf tss).flatten ∧ (∀ q ∈ vs, q.2.1 ≤ q.2.2) ∧ Below w.heap.size w w'

set_option maxRecDepth 100000 in
set_option maxHeartbeats 8000000 in
theorem rKids12_any (A : Option Addr) (c : Nat) (T ks : List Nd) (x : Nd) (tss : List (List Nd)) (w : World) (ha : TyA w w.heap.size A T) (hl : T.length ≤ 1000000) (hc : T.length ≤ c) (hT : T = x :: ks) (hxo : okNode x.k x.n = true) (hok : okAll ks) (ht : Trees (manyN x) ks tss) (h9 : ∀ t ∈ lOf tss, (headNd t).k ≠ 9) :
    Calls Tryz.prog 43 #[.slice A T.length c, .int .i64 0] w (KidsPost tss w) := by
  have hx : T[0]? = some x := by rw [hT]; rfl
  have hm50 : manyN x ≤ 50 := manyN_le hxo
  have hokT : okAll T := fun y hy => by
    rw [hT] at hy
    rcases List.mem_cons.1 hy with rfl | hy
    · exact hxo
    · exact hok y hy
  obtain ⟨M, hM, hM50, _⟩ := many_nat hxo
  have hMm : M = manyN x := by unfold manyN; rw [hM]; simp
  subst hMm
  have hkr : kidsR T 0 = kidsGo T (manyN x) 1 := by
    unfold kidsR
    rw [if_neg (by omega)]
    simp only [Int.toNat_zero, hx, hM]
    simp
  have hown0 := own_empty 23 1 encS w
  have hb0 := ext_alloc (Below.refl w.heap.size w) (.cells #[] 23)
  have hkc := Lib.hid (rKids_any A c T 0 (w.alloc (.cells #[] 23)) ((ha.below hb0).more hb0.size) hl hokT)
  have Ht := Lib.hid ht
  have HokT := Lib.hid hokT
  have H9 := Lib.hid h9
  have hT1 : T.drop 1 = (tss.drop 0).flatten := by rw [hT, List.drop_zero, ht.flat]; rfl
  have htl := ht.len
  have hGl : (kidsGo T (manyN x) 1).length = manyN x := kidsGo_lenF _ _ tss htl (by rw [hT1, List.drop_zero]) fun z hz => ⟨ht.one z hz, fun y hy => hok y (by rw [← ht.flat]; exact List.mem_flatten.2 ⟨z, hz, hy⟩)⟩
  have hokz : ∀ z ∈ tss, okAll z := fun z hz y hy => hok y (by rw [← ht.flat]; exact List.mem_flatten.2 ⟨z, hz, hy⟩)
  have Hokz := Lib.hid hokz
  have Ha := Lib.hid ha
  have hown0 := Lib.hid hown0
  have Hb0 := Lib.hid hb0
  obtain ⟨bT, oT, rfl, hbT, _, _, _⟩ := ha.at_ hx
  have HEnd : Hid (∀ (at_ : Nat) (ts rest : List Nd) (v : World), TyA v v.heap.size (some ⟨bT, oT, none⟩) T → T.drop at_ = ts ++ rest → okAll ts → Fo 1 ts → Calls Tryz.prog 45 #[.slice (some ⟨bT, oT, none⟩) T.length c, .int .i64 (at_ : Int)] v fun e w' => e = .returned (.int .i64 ((at_ : Int) + (ts.length : Int))) ∧ Below v.heap.size v w') := Lib.hid fun at_ ts rest v hv hd ho hf => by
    have h := rEnd_any (some ⟨bT, oT, none⟩) c T (at_ : Int) v hv hl hokT
    rw [endR_nat (drop_lt hd hf.pos), endGo_one hd ho hf] at h
    simpa using h
  rw [hkr] at hkc
  generalize hm : manyN x = m at *
  generalize hG : kidsGo T m 1 = G at *
  have HG : Hid (G = [] ++ kidsGo T (m - 0) 1 ∧ ([] : List Nat).length = 0) := Lib.hid ⟨by rw [← hG]; rfl, rfl⟩
  have HT1 := Lib.hid hT1
  have Htl := Lib.hid htl
  have HGl := Lib.hid hGl
  clear hx hT hxo hok ht h9 hkr hb0 hM hokT hT1 hm htl ha hM50 hG hGl hokz
  go_enter Tryz.func43, Tryz.ntmps43
  go_wp2_with fail
  refine hkc.out.mono ?_
  rintro e w1 ⟨K, ck, rfl, hown, hb⟩
  rw [asI_len, HGl.out]
  have M0 : Hid (RowH w K ck (asI G) (some ⟨w.heap.size, 0, none⟩) 0 [] (tss.take 0) none 0 [] w1) := Lib.hid ⟨RowM.start w _ 0 (hown0.out.below hb (Nat.le_refl _)) (ext_trans Hb0.out hb), OwnL.lower hown Hb0.out.size, fun a b h1 h2 e => by
      have := (OwnL.lt hown a h1).1
      cases h2
      simp at this e
      omega, (fun a b _ h2 => by cases h2), (fun v hv => by cases hv)⟩
  clear hkc hown hb hown0 Hb0
  go_wp2_with fail
  go_loopw [6, 8] (fun s6 s8 wr => ∃ (k at_ : Nat) (V : Option Addr) (cv : Nat) (vs : List (Option Addr × Nat × Nat)) (pre : List Nat), s6 = .slice V vs.length cv ∧ s8 = .int .i64 k ∧ k ≤ m ∧ vs.length ≤ 50 ∧ Hid (vs.length = k ∧ G = pre ++ kidsGo T (m - k) at_ ∧ pre.length = k ∧ T.drop at_ = (tss.drop k).flatten) ∧
      Hid (RowH w K ck (asI G) V cv vs (tss.take k) none 0 [] wr) ∧ Hid ((∀ t ∈ tss.take k, (headNd t).k ≠ 9) ∧ ∀ q ∈ vs, q.2.1 ≤ q.2.2)) (fun _ s8 _ => m - (intOf s8).toNat)
  case atStart => exact ⟨0, 1, some ⟨w.heap.size, 0, none⟩, 0, [], [], rfl, rfl, Nat.zero_le _, by simp, Lib.hid ⟨rfl, HG.out.1, rfl, HT1.out⟩, M0, Lib.hid ⟨fun t ht => by simp at ht, fun q hq => by simp at hq⟩⟩
  case round =>
    clear M0 HG HT1
    obtain ⟨k, at_, V, cv, vs, pre, rfl, rfl, hkm, hv50, hpos, M, HF⟩ := hrel
    by_cases hlt : k < m
    · obtain ⟨ts, hts⟩ := getq_ex (show k < tss.length by rw [Htl.out]; exact hlt)
      have hmem := List.mem_of_getElem? hts
      have hf := Ht.out.one ts hmem
      have hok := Hokz.out ts hmem
      obtain ⟨hvk, hGp, hpl, hdr⟩ := hpos.out
      have hd := hdr
      rw [flatten_drop_step hts] at hd
      have hal : at_ < T.length := drop_lt hd hf.pos
      obtain ⟨d, hdd⟩ : ∃ d, m - k = d + 1 := ⟨m - k - 1, by omega⟩
      have hGk : G[k]? = some at_ := by
        rw [hdd, kidsGo_step hal] at hGp
        rw [hGp, List.getElem?_append_right (by rw [hpl]; exact Nat.le_refl _), hpl]
        simp
      have hpos' : Hid (G = (pre ++ [at_]) ++ kidsGo T (m - (k + 1)) (at_ + ts.length) ∧ (pre ++ [at_]).length = k + 1 ∧ T.drop (at_ + ts.length) = (tss.drop (k + 1)).flatten) := Lib.hid ⟨by
        rw [hdd, kidsGo_step hal, endGo_one hd hok hf] at hGp
        rw [hGp, show m - (k + 1) = d by omega]; simp, by simp [hpl], drop_more hd⟩
      have hle : at_ + ts.length ≤ T.length := by
        have := congrArg List.length hd
        rw [List.length_drop, List.length_append] at this
        omega
      obtain ⟨y0, ys, rfl⟩ : ∃ y0 ys, ts = y0 :: ys := by
        cases ts with
        | nil => exact absurd hf.nil_of (by omega)
        | cons y0 ys => exact ⟨y0, ys, rfl⟩
      obtain ⟨bk, ok, hke, hkb, kc⟩ := ReadL.int (OwnL.read encI_len M.out.had) (asI_get hGk)
      subst hke
      have hkG : k < G.length := getq_lt hGk
      have HTy : Hid (∀ v, Below wr.heap.size wr v → TyA v v.heap.size (some ⟨bT, oT, none⟩) T) := Lib.hid fun v hb => ((Ha.out.below M.out.m.bel).below (hb.mono M.out.m.bel.size)).more (Nat.le_trans M.out.m.bel.size hb.size)
      have HE := Lib.hid (fun v hb => HEnd.out at_ (y0 :: ys) _ v (HTy.out v hb) hd hok hf)
      have HPart : Hid (∀ v, Below wr.heap.size wr v → TyA v v.heap.size (some ⟨bT, oT + at_ * 3, none⟩) (y0 :: ys)) := Lib.hid fun v hb => TyA.part (HTy.out v hb) hd
      have S0 : Hid (∀ v, Below wr.heap.size wr v → v.cell? ⟨bk, ok + k, none⟩ = some (.int .i64 (at_ : Int)) ∧ Hid (Below wr.heap.size wr v)) := Lib.hid fun v hb => ⟨(hb.cell (p := ⟨bk, ok + k, none⟩) hkb).trans kc, Lib.hid hb⟩
      have Hts := Lib.hid hts
      have HGk := Lib.hid HGl.out
      have hv49 : vs.length ≤ 49 := by omega
      have hac : at_ + (y0 :: ys).length ≤ c := by omega
      have hyl : (y0 :: ys).length ≤ 1000000 := by omega
      have hL0 : 0 < (y0 :: ys).length := by simp
      have hI1 : (0 : Int) ≤ (at_ : Int) := by omega
      have hI2 : (at_ : Int) ≤ (at_ : Int) + ((y0 :: ys).length : Int) := by omega
      have hI3 : (at_ : Int) + ((y0 :: ys).length : Int) ≤ (c : Int) := by omega
      have hown0 := Lib.hid (own_empty 39 3 encN wr)
      have hwz := M.out.m.bel.size
      generalize hL : (y0 :: ys).length = L at *
      have HL := Lib.hid hL
      clear hts hmem hf hok hvk hGp hpl hdr hd hdd hGk kc hal hL
      go_wp2_with fail
      go_region_held3 (fun v => v.cell? ⟨bk, ok + k, none⟩ = some (.int .i64 (at_ : Int)) ∧ Hid (Below wr.heap.size wr v))
        (first
          | exact S0.out _ (Below.refl _ _).drew
          | exact S0.out _ (ext_alloc (Below.refl _ _) _).drew
          | exact S0.out _ hw1.out
          | exact S0.out _ (ext_alloc hw1.out _)
          | exact S0.out _ hw2.out)
        (first
          | (go_at_call 45; (with_reducible refine (HE.out _ (Below.refl _ _).drew).mono ?_); rintro e w2 ⟨rfl, hb2⟩; have hw1 := Lib.hid (ext_trans (Below.refl _ wr).drew hb2); have hO := Lib.hid (own_empty 39 3 encN w2); clear hb2)
          | (go_at_call 45; (with_reducible refine (HE.out _ (ext_alloc (Below.refl _ _) _).drew).mono ?_); rintro e w2 ⟨rfl, hb2⟩; have hw1 := Lib.hid (ext_trans (ext_alloc (Below.refl _ wr) _).drew hb2); have hO := Lib.hid (OwnL.below (OwnL.below hown0.out (Below.refl _ _).drew (Nat.le_refl _)) hb2 (Nat.le_refl _)); clear hb2)
          | (refine step_appN (by rfl) _ _ (by rfl) wr.heap.size (l := []) (by rfl) hO.out (l2 := y0 :: ys) (A2 := some ⟨bT, oT + at_ * 3, none⟩) (c := c - at_) (by show Value.slice (if c = at_ then _ else _) (((at_ : Int) + (L : Int)).toNat - at_) (c - at_) = _; rw [if_neg (by omega), HL.out, show ((at_ : Int) + (L : Int)).toNat - at_ = L by omega]) (B := w2.heap.size) (HPart.out _ hw1.out) (by rw [HL.out]; simp; omega) (by have := hw1.out.size; omega) ?_; intro A2 cap2 w2' hown2 hg2 _; have hw2 := Lib.hid (ext_app hw1.out hg2 (fun q hq => (OwnL.block hO.out q hq).1)); have hX := Lib.hid hown2; clear hown2 hg2)
          | (refine step_appN (by rfl) _ _ (by rfl) w2.heap.size (l := []) (by rfl) hO.out (l2 := y0 :: ys) (A2 := some ⟨bT, oT + at_ * 3, none⟩) (c := c - at_) (by show Value.slice (if c = at_ then _ else _) (((at_ : Int) + (L : Int)).toNat - at_) (c - at_) = _; rw [if_neg (by omega), HL.out, show ((at_ : Int) + (L : Int)).toNat - at_ = L by omega]) (B := w2.heap.size + 1) (by have h := HPart.out _ (ext_alloc hw1.out (.cells #[] 39)); simpa using h) (by rw [HL.out]; simp; omega) (by simp) ?_; intro A2 cap2 w2' hown2 hg2 _; have hw2 := Lib.hid (ext_app (ext_alloc hw1.out _) hg2 (fun q hq => Nat.le_trans hw1.out.size (OwnL.block hO.out q hq).1)); have hX := Lib.hid (OwnL.lower hown2 hw1.out.size); clear hown2 hg2))
      all_goals
        rw [List.nil_append] at hX
        have MX := Lib.hid (M.out.fresh hX.out hw2.out)
        obtain ⟨g, hA2, _, _, _, _, _, _⟩ := OwnL.setM hX.out (j := 0) (x := y0) rfl 0
        subst hA2
        obtain ⟨b9, o9, hA9, hb9, c10, _, _⟩ := (OwnL.tyA MX.out.m.cur).at_ (i := 0) (x := y0) rfl
        injection hA9 with hA9
        injection hA9 with e1 e2 _
        subst e1 e2
        simp only [Nat.zero_mul, Nat.zero_add] at c10
        have HX2 := Lib.hid hX.out
        have hcp := Lib.hid (OwnL.le_cap hX.out)
        clear hX hw2 M HTy HE HPart S0 hown0 hkb
        cases h9 : (y0.k == 9)
        · have H9k := Lib.hid h9
          go_wp2_with (at_builtin; refine wpList_appS rfl (.tmp 41) (.tmp 43) rfl w.heap.size (l := vs) rfl (OwnL.alloc MX.out.m.row _) (l2 := [(some ⟨g, 0, none⟩, ys.length + 1, cap2)]) rfl (readS_new _ (some ⟨g, 0, none⟩, ys.length + 1, cap2)) (by simp; omega) (by have := MX.out.m.bel.size; simp; omega) ?_; intro V2 cv2 w8 hown8 hg8 hA8; have M3 := Lib.hid ((MX.out.alloc _).app hown8 hg8 hA8); clear hown8 hg8 hA8)
          go_roundw
          case rel => exact ⟨k + 1, at_ + L, V2, cv2, vs ++ [(some ⟨g, 0, none⟩, ys.length + 1, cap2)], pre ++ [at_], by simp, by go_num, hlt, by simp; omega, Lib.hid ⟨by simp [hpos.out.1], hpos'.out⟩, Lib.hid (by
            have h := M3.out
            rw [List.take_add_one, Hts.out]
            exact h), Lib.hid ⟨fun t ht => by
            rw [List.take_add_one, Hts.out] at ht
            rcases List.mem_append.1 ht with ht | ht
            · exact HF.out.1 t ht
            · simp at ht
              subst ht
              simpa [headNd] using H9k.out, fun q hq => by
            rcases List.mem_append.1 hq with hq | hq
            · exact HF.out.2 q hq
            · simp at hq
              subst hq
              exact hcp.out⟩⟩
          case measure => simp [intOf]; omega
        · have H9k := Lib.hid h9
          go_wp2_with fail
          go_ret2
          obtain ⟨e1, e2⟩ := tail_stop Hts.out H9.out (by simpa [headNd] using H9k.out)
          refine ⟨V, cv, vs, some ⟨g, 0, none⟩, cap2, ?_, MX.out.m.row, by rw [e1]; exact MX.out.m.sls, ?_, HF.out.2, MX.out.m.bel⟩
          · rw [e2]; simp only [List.flatten_cons, List.flatten_nil, List.append_nil]; rfl
          · rw [e2]; simp only [List.flatten_cons, List.flatten_nil, List.append_nil]; exact OwnL.tyA MX.out.m.cur
    · have hkm2 : k = m := by omega
      have e1 : tss.take k = tss := by rw [hkm2, ← Htl.out, List.take_length]
      rw [e1] at M HF
      obtain ⟨e2, e3⟩ := tail_none HF.out.1
      have E2 := Lib.hid (And.intro e2 e3)
      clear e1 e2 e3 hkm2
      go_wp2_with fail
      go_ret2
      refine ⟨V, cv, vs, none, 0, ?_, M.out.m.row, by rw [E2.out.1]; exact M.out.m.sls, ?_, HF.out.2, M.out.m.bel⟩
      · rw [E2.out.2]; rfl
      · rw [E2.out.2]; exact TyA.nil
end Go.Proofs.YtblfeokjlecgkaaGreat
