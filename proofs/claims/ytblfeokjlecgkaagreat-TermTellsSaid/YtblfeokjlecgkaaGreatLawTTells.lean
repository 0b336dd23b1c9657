/- TermTells, walked. -/
import Derived.Test.YtblfeokjlecgkaaGreatRGround
import Derived.Test.YtblfeokjlecgkaaGreatRCanon
import Derived.Test.YtblfeokjlecgkaaGreatRFresh
import Derived.Test.YtblfeokjlecgkaaGreatInts
import Derived.Test.YtblfeokjlecgkaaGreatAlive12
namespace Go.Proofs.YtblfeokjlecgkaaGreat
open Go.RowKit

theorem sls_one (w : World) (B : Nat) (A : Option Addr) (c : Nat) (x : List Nd) (h : TyA w B A x) : Sls w B [(A, x.length, c)] [x] := ⟨rfl, fun i v xs hv hx => by
  match i, hv, hx with
  | 0, hv, hx => simp at hv hx; subst hv hx; exact ⟨rfl, h⟩
  | i + 1, hv, hx => simp at hv⟩

theorem few_one (A : Option Addr) (c : Nat) (x : List Nd) (w : World) (h : TyA w w.heap.size A x) (hl : x.length ≤ 9223372036854775807) (hs : ∀ y ∈ x, y.s.size ≤ 9223372036854775807) :
    Calls Tryz.prog 4 #[.slice (some ⟨w.heap.size, 0, none⟩) 1 1] (w.alloc (.cells #[.slice A x.length c] 23)) fun e w' => e = .returned (.bool (few60 x)) ∧ Below w.heap.size w w' := by
  have hb := ext_alloc (Below.refl w.heap.size w) (.cells #[.slice A x.length c] 23)
  have hz : (w.alloc (.cells #[.slice A x.length c] 23)).heap.size = w.heap.size + 1 := by simp
  have h1 := few_any (some ⟨w.heap.size, 0, none⟩) 1 [(A, x.length, c)] [x] _ (by rw [hz]; exact readS_new w (A, x.length, c)) (sls_one _ _ A c x ((h.below hb).more hb.size)) (by simp) (fun xs hx => by simp at hx; subst hx; exact ⟨hl, hs⟩)
  refine h1.mono ?_
  rintro e w' ⟨rfl, hb1⟩
  refine ⟨?_, ext_trans hb hb1⟩
  unfold fewsB
  simp

theorem few_parts {x : List Nd} (h : few60 x = true) : x.length ≤ 60 ∧ (∀ y ∈ x, y.s.size ≤ 100) ∧ rightB x = true := by
  obtain ⟨h1, h2, h3⟩ := fewB_parts h
  exact ⟨by omega, h2, by rw [← right_eq]; exact h3⟩

set_option maxRecDepth 100000 in
set_option maxHeartbeats 8000000 in
theorem termTells_law (A : Option Addr) (c : Nat) (x : List Nd) (V : Option Addr) (cv : Nat) (vs : List (Option Addr × Nat × Nat)) (xss : List (List Nd)) (n : Int) (W : World) (t : TyA W W.heap.size A x) (hc : x.length ≤ c) (l : x.length ≤ 9223372036854775807) (o : ∀ y ∈ x, y.Ok)
    (hr : ReadS W W.heap.size V vs) (hS : Sls W W.heap.size vs xss) (hl : vs.length ≤ 9223372036854775807) (hok : ∀ xs ∈ xss, xs.length ≤ 9223372036854775807 ∧ ∀ x ∈ xs, x.Ok) :
    Calls Tryz.prog 3 #[.slice A x.length c, .slice V vs.length cv, .int .i64 n] W fun e w' => e = .returned (.bool true) ∧ Below W.heap.size W w' := by
  have Hlx := Lib.hid hS.1
  have hfw := Lib.hid (few_one A c x W t l (fun y hy => (o y hy).s1))
  have Hok := Lib.hid hok
  have M := Lib.hid (Mem.start (P := fun v => TyA v v.heap.size A x ∧ RowS V vs xss v) ⟨t, hr, hS⟩ ((keep_ty A x).and (keep_rowS V vs xss)))
  have hfs := Lib.hid (fun v (h : RowS V vs xss v) => few_any V cv vs xss v h.1 h.2 hl (fun xs hx => ⟨(hok xs hx).1, fun x hy => ((hok xs hx).2 x hy).s1⟩))
  clear t o hr hS hok
  go_enter Tryz.func3, Tryz.ntmps3
  go_wp2_with fail
  refine hfw.out.mono ?_
  rintro e w1 ⟨rfl, hb⟩
  replace M := Lib.hid (M.out.step hb)
  clear hb hfw
  cases hf : few60 x
  · have HF := Lib.hid hf
    clear hf
    go_wp2_with fail
    refine (alive_any _).mono ?_
    rintro e w2 ⟨rfl, hb⟩
    go_wp2_with fail
    go_ret
    exact ⟨rfl, (M.out.step hb).ext⟩
  · have HF := Lib.hid hf
    clear hf
    go_wp2_with fail
    refine (hfs.out _ M.out.p.2).mono ?_
    rintro e w2 ⟨rfl, hb⟩
    replace M := Lib.hid (M.out.step hb)
    clear hb hfs
    cases hf : fewsB xss
    · have HF2 := Lib.hid hf
      clear hf
      go_wp2_with fail
      refine (alive_any _).mono ?_
      rintro e w3 ⟨rfl, hb⟩
      go_wp2_with fail
      go_ret
      exact ⟨rfl, (M.out.step hb).ext⟩
    · have HF2 := Lib.hid (fews_parts hf)
      have hv10 : vs.length ≤ 10 := by have := HF2.out.1; have := Hlx.out; omega
      clear hf hl
      by_cases hn0 : n < 0
      · go_wp2_with fail
        refine (alive_any _).mono ?_
        rintro e w3 ⟨rfl, hb⟩
        go_wp2_with fail
        go_ret
        exact ⟨rfl, (M.out.step hb).ext⟩
      · by_cases hn1 : 1000000 < n
        · go_wp2_with fail
          refine (alive_any _).mono ?_
          rintro e w3 ⟨rfl, hb⟩
          go_wp2_with fail
          go_ret
          exact ⟨rfl, (M.out.step hb).ext⟩
        · obtain ⟨p1, p2, p3⟩ := few_parts HF.out
          have I := isT_of p3
          have F : Hid (rightB x = true ∧ IsT x ∧ (∀ y ∈ x, isVarB y.k = true → 0 ≤ y.n)) := Lib.hid ⟨p3, I, fun y hy hv => var_pos (I.ok y hy) hv⟩
          have hn64 : n ≤ 1000000 := by omega
          have hn00 : 0 ≤ n := by omega
          have hgl := grd_len x I.fo
          have HX : Hid (xss.length ≤ 10 ∧ (∀ xs ∈ xss, xs ≠ []) ∧ (∀ xs ∈ xss, xs.length ≤ 60) ∧ (∀ xs ∈ xss, ∀ x ∈ xs, I64 x.n)) := Lib.hid ⟨HF2.out.1, fun xs h => (HF2.out.2 xs h).2, fun xs h => (HF2.out.2 xs h).1, fun xs hx x hy => ⟨((Hok.out xs hx).2 x hy).n0, ((Hok.out xs hx).2 x hy).n1⟩⟩
          have hcan := Lib.hid (fun v (h : RowS V vs xss v) => canon_any V cv vs xss v h.1 h.2 HX.out.2.1 (by omega) (fun xs hx => by have := HX.out.2.2.1 xs hx; omega) HX.out.2.2.2)
          have hrcan := Lib.hid (fun v (h : RowS V vs xss v) => rCanon_any V cv vs xss v h.1 h.2 HX.out.2.1 (by omega) (fun xs hx => by have := HX.out.2.2.1 xs hx; omega))
          have hcok : Hid ((∀ t ∈ canT [] xss, t.length ≤ 60) ∧ (canT [] xss).length = xss.length) := Lib.hid ⟨fun t ht => (canT_lens (fun xs h => ⟨HX.out.2.2.1 xs h, HX.out.2.1 xs h⟩) [] t ht).1, canT_len [] xss⟩
          have hown0 := Lib.hid (own_empty 39 3 encN w2)
          have hb0 := Lib.hid (ext_alloc (Below.refl w2.heap.size w2) (.cells #[] 39))
          have hvl := varsL_le x
          have hfl := freshL_len n x
          have HFL := Lib.hid hfl
          have hfl60 : (freshL n x).length ≤ 60 := by omega
          have hgl60 : (grdT x).length ≤ 60 := by omega
          have hvl60 : (varsL x).length ≤ 60 := by omega
          clear p2 p3 I hn0 hn1 hfl hgl hvl Hok HF HF2
          go_wp2_with (at_builtin; refine wpList_appN rfl (.tmp 31) (.tmp 32) rfl w2.heap.size (l := []) rfl hown0.out (l2 := x) rfl (M.out.p.1.below hb0.out) (by simp; omega) (by simp) ?_; intro A2 c2 w3 hown3 hg3 _)
          rw [List.nil_append] at hown3
          have hb3 := ext_app hb0.out hg3 (fun q hq => (OwnL.block hown0.out q hq).1)
          replace M := Lib.hid ((M.out.step hb3).add (Q := fun v => TyA v v.heap.size A2 x) (OwnL.tyA hown3) (keep_ty A2 x))
          clear hown3 hg3 hb3 hown0 hb0
          refine (fresh_any A c x n w3 M.out.p.1.1 F.out.2.1.ne (by omega) hn00 hn64).mono ?_
          rintro e w4 ⟨A3, c3, rfl, hown, hb⟩
          replace M := Lib.hid ((M.out.step hb).add (Q := fun v => TyA v v.heap.size A3 (freshL n x)) (OwnL.tyA hown) (keep_ty A3 _))
          clear hown hb
          go_wp2_with fail
          refine (rFresh_any A c x n w4 M.out.p.1.1.1 (by omega) hn00 hn64).mono ?_
          rintro e w5 ⟨A4, c4, rfl, hown, hb⟩
          replace M := Lib.hid ((M.out.step hb).add (Q := fun v => TyA v v.heap.size A4 (freshL n x)) (OwnL.tyA hown) (keep_ty A4 _))
          clear hown hb
          generalize n + (dynN x : Int) = z at *
          have hzz : (z == z) = true := by simp
          go_wp2_with fail
          refine (vars_any A c x w5 M.out.p.1.1.1.1 (by omega)).mono ?_
          rintro e w6 ⟨A5, c5, rfl, hrd, hb⟩
          have M2 := Lib.hid ((M.out.step hb).add (Q := fun v => ReadI v v.heap.size A5 (varsL x)) hrd (keep_read _ _ _ _))
          clear hrd hb
          go_wp2_with fail
          refine (rVars_any A c x w6 M2.out.p.1.1.1.1.1 (by omega) F.out.2.2).mono ?_
          rintro e w7 ⟨A6, c6, rfl, hrd, hb⟩
          replace M2 := Lib.hid ((M2.out.step hb).add (Q := fun v => ReadI v v.heap.size A6 (varsL x)) hrd (keep_read _ _ _ _))
          clear hrd hb
          go_wp2_with fail
          refine (ints_any A5 A6 c5 c6 _ _ (varsL x) (varsL x) w7 M2.out.p.1.2 M2.out.p.2 (by omega)).mono ?_
          rw [show decide (varsL x = varsL x) = true from decide_eq_true rfl]
          rintro e w8 ⟨rfl, q, rfl⟩
          replace M := Lib.hid ((M2.out.drewN q).drop (Q := fun v => (((TyA v v.heap.size A x ∧ RowS V vs xss v) ∧ TyA v v.heap.size A2 x) ∧ TyA v v.heap.size A3 (freshL n x)) ∧ TyA v v.heap.size A4 (freshL n x)) (fun v h => h.1.1) M.out.keep)
          clear M2
          go_wp2_with fail
          refine (one_any A3 A4 c3 c4 _ _ (freshL n x) (freshL n x) _ M.out.p.1.2 M.out.p.2 (by omega)).mono ?_
          rw [show decide (freshL n x = freshL n x) = true from decide_eq_true rfl]
          rintro e w9 ⟨rfl, q2, rfl⟩
          have hM2 := M.out.drewN q2
          rw [World.drewN_drewN] at hM2
          replace M := Lib.hid (hM2.drop (Q := fun v => (TyA v v.heap.size A x ∧ RowS V vs xss v) ∧ TyA v v.heap.size A2 x) (fun v h => h.1.1) (((keep_ty A x).and (keep_rowS V vs xss)).and (keep_ty A2 x)))
          clear hM2
          go_wp2_with fail
          refine (ground_any x.length A c _ x _ (Nat.le_refl _) (by omega) F.out.2.1.fo F.out.2.1.ok M.out.p.1.1 (Nat.le_refl _) hc).mono ?_
          rintro e w10 ⟨A7, c7, rfl, hown, hb⟩
          replace M := Lib.hid ((M.out.step hb).add (Q := fun v => TyA v v.heap.size A7 (grdT x)) (OwnL.tyA hown) (keep_ty A7 _))
          clear hown hb
          go_wp2_with fail
          refine (rGround_any A c x _ M.out.p.1.1.1 F.out.1 (by omega) hc).mono ?_
          rintro e w11 ⟨A8, c8, rfl, hown, hb⟩
          replace M := Lib.hid ((M.out.step hb).add (Q := fun v => TyA v v.heap.size A8 (grdT x)) (OwnL.tyA hown) (keep_ty A8 _))
          clear hown hb
          go_wp2_with fail
          refine (one_any A7 A8 c7 c8 _ _ (grdT x) (grdT x) _ M.out.p.1.2 M.out.p.2 (by omega)).mono ?_
          rw [show decide (grdT x = grdT x) = true from decide_eq_true rfl]
          rintro e w12 ⟨rfl, q3, rfl⟩
          replace M := Lib.hid ((M.out.drewN q3).drop (Q := fun v => (TyA v v.heap.size A x ∧ RowS V vs xss v) ∧ TyA v v.heap.size A2 x) (fun v h => h.1.1) (((keep_ty A x).and (keep_rowS V vs xss)).and (keep_ty A2 x)))
          go_wp2_with fail
          refine (alive_any _).mono ?_
          rintro e w13 ⟨rfl, hb⟩
          replace M := Lib.hid (M.out.step hb)
          clear hb
          go_wp2_with fail
          refine (hcan.out _ M.out.p.1.2).mono ?_
          rintro e w14 ⟨Vc, cc, vc, rfl, hrow, hsls, hb⟩
          replace M := Lib.hid ((M.out.step hb).add (Q := RowS Vc vc (canT [] xss)) ⟨OwnL.read encS_len hrow, hsls⟩ (keep_rowS _ _ _))
          have hlc : vc.length ≤ 10 := by have := hsls.1; have := hcok.out.2; have := HX.out.1; omega
          clear hrow hsls hb hcan
          go_wp2_with fail
          refine (hrcan.out _ M.out.p.1.1.2).mono ?_
          rintro e w15 ⟨Vd, cd, vd, rfl, hrow, hsls, hb⟩
          replace M := Lib.hid ((M.out.step hb).add (Q := RowS Vd vd (canT [] xss)) ⟨OwnL.read encS_len hrow, hsls⟩ (keep_rowS _ _ _))
          have hld : vd.length ≤ 10 := by have := hsls.1; have := hcok.out.2; have := HX.out.1; omega
          clear hrow hsls hb hrcan
          go_wp2_with fail
          refine (types_any Vc Vd cc cd vc vd _ _ _ M.out.p.1.2.1 M.out.p.2.1 M.out.p.1.2.2 M.out.p.2.2 (by omega) (fun xs hx => by have := hcok.out.1 xs hx; omega)).mono ?_
          rw [show decide (canT [] xss = canT [] xss) = true from decide_eq_true rfl]
          rintro e w16 ⟨rfl, q4, rfl⟩
          replace M := Lib.hid (M.out.drewN q4)
          go_wp2_with fail
          refine (one_any A A2 c c2 _ _ x x _ M.out.p.1.1.1.1 M.out.p.1.1.2 (by omega)).mono ?_
          rw [show decide (x = x) = true from decide_eq_true rfl]
          rintro e w17 ⟨rfl, q5, rfl⟩
          go_wp2_with fail
          go_ret
          have hM2 := M.out.drewN q5
          rw [World.drewN_drewN] at hM2
          exact ⟨rfl, hM2.ext⟩
end Go.Proofs.YtblfeokjlecgkaaGreat
