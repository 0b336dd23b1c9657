/- TermGround, walked. -/
import Derived.Test.YtblfeokjlecgkaaAlive12
namespace Go.Proofs.Ytblfeokjlecgkaa
open Go.RowKit

theorem sls_one (w : World) (B : Nat) (A : Option Addr) (c : Nat) (x : List Nd) (h : TyA w B A x) : Sls w B [(A, x.length, c)] [x] := ⟨rfl, fun i v xs hv hx => by
  match i, hv, hx with
  | 0, hv, hx => simp at hv hx; subst hv hx; exact ⟨rfl, h⟩
  | i + 1, hv, hx => simp at hv⟩

theorem few_one (A : Option Addr) (c : Nat) (x : List Nd) (w : World) (h : TyA w w.heap.size A x) (hl : x.length ≤ 9223372036854775807) (hs : ∀ y ∈ x, y.s.size ≤ 9223372036854775807) :
    Calls Try.prog 42 #[.slice (some ⟨w.heap.size, 0, none⟩) 1 1] (w.alloc (.cells #[.slice A x.length c] 34)) fun e w' => e = .returned (.bool (few60 x)) ∧ Below w.heap.size w w' := by
  have hb := ext_alloc (Below.refl w.heap.size w) (.cells #[.slice A x.length c] 34)
  have hz : (w.alloc (.cells #[.slice A x.length c] 34)).heap.size = w.heap.size + 1 := by simp
  have h1 := few_any (some ⟨w.heap.size, 0, none⟩) 1 [(A, x.length, c)] [x] _ (by rw [hz]; exact readS_new w (A, x.length, c)) (sls_one _ _ A c x ((h.below hb).more hb.size)) (by simp) (fun xs hx => by simp at hx; subst hx; exact ⟨hl, hs⟩)
  refine h1.mono ?_
  rintro e w' ⟨rfl, hb1⟩
  refine ⟨?_, ext_trans hb hb1⟩
  unfold fewsB
  simp

theorem few_parts {x : List Nd} (h : few60 x = true) : x.length ≤ 60 ∧ (∀ y ∈ x, y.s.size ≤ 100) ∧ rightB x = true := by
  obtain ⟨h1, h2, h3⟩ := fewB_parts h
  exact ⟨by omega, h2, by rw [← right_eq]; exact h3⟩

theorem grd_labels : ∀ (f : Nat) (ts : List Nd) (z : Nd), z ∈ grd f ts → ∃ y ∈ ts, z.s = y.s := by
  intro f
  induction f with
  | zero => intro ts z h; simp [grd] at h
  | succ f ih =>
    intro ts z h
    match ts, h with
    | [], h => simp [grd] at h
    | x :: ks, h =>
      simp only [grd] at h
      split at h
      · simp at h
        subst h
        exact ⟨x, by simp, rfl⟩
      · simp only [List.mem_cons, List.mem_flatten, List.mem_map] at h
        rcases h with rfl | ⟨o, ⟨t, ht, rfl⟩, hz⟩
        · refine ⟨x, by simp, ?_⟩
          split <;> rfl
        · obtain ⟨y, hy, e⟩ := ih t z hz
          exact ⟨y, List.mem_cons_of_mem _ (splitF_sub _ _ _ _ (mem_lOf ht) hy), e⟩

theorem fresh_labels : ∀ (n : Int) (ts : List Nd) (z : Nd), z ∈ freshL n ts → ∃ y ∈ ts, z.s = y.s
  | _, [], z, h => by simp [freshL] at h
  | n, x :: xs, z, h => by
    rw [freshL_cons] at h
    split at h
    · rcases List.mem_cons.1 h with rfl | h
      · exact ⟨x, by simp, rfl⟩
      · obtain ⟨y, hy, e⟩ := fresh_labels (n + 1) xs z h
        exact ⟨y, by simp [hy], e⟩
    · rcases List.mem_cons.1 h with rfl | h
      · exact ⟨z, by simp, rfl⟩
      · obtain ⟨y, hy, e⟩ := fresh_labels n xs z h
        exact ⟨y, by simp [hy], e⟩

theorem dyn_eq (n : Int) (x : List Nd) : (n + (dynN x : Int) == n) = staticB x := by
  rw [dynN_static, Bool.eq_iff_iff]
  simp
  omega

set_option maxRecDepth 100000 in
set_option maxHeartbeats 8000000 in
theorem termGround_law (A : Option Addr) (c : Nat) (x : List Nd) (n : Int) (W : World) (t : TyA W W.heap.size A x) (hc : x.length ≤ c) (l : x.length ≤ 9223372036854775807) (o : ∀ y ∈ x, y.Ok) :
    Calls Try.prog 12 #[.slice A x.length c, .int .i64 n] W fun e w' => e = .returned (.bool true) ∧ Below W.heap.size W w' := by
  have hfw := Lib.hid (few_one A c x W t l (fun y hy => (o y hy).s1))
  have M := Lib.hid (Mem.start (P := fun v => TyA v v.heap.size A x) t (keep_ty A x))
  have Ho := Lib.hid o
  clear t o
  go_enter Try.func12, Try.ntmps12
  go_wp2_with fail
  refine hfw.out.mono ?_
  rintro e w1 ⟨rfl, hb⟩
  replace M := Lib.hid (M.out.step hb)
  clear hb hfw
  cases hf : few60 x
  · have HF := Lib.hid hf
    clear hf
    go_wp2_with fail
    refine (alive_any _).mono ?_
    rintro e w2 ⟨rfl, hb⟩
    go_wp2_with fail
    go_ret
    exact ⟨rfl, (M.out.step hb).ext⟩
  · have HF := Lib.hid hf
    clear hf
    by_cases hn0 : n < 0
    · go_wp2_with fail
      refine (alive_any _).mono ?_
      rintro e w2 ⟨rfl, hb⟩
      go_wp2_with fail
      go_ret
      exact ⟨rfl, (M.out.step hb).ext⟩
    · by_cases hn1 : 1000000 < n
      · go_wp2_with fail
        refine (alive_any _).mono ?_
        rintro e w2 ⟨rfl, hb⟩
        go_wp2_with fail
        go_ret
        exact ⟨rfl, (M.out.step hb).ext⟩
      · obtain ⟨p1, p2, p3⟩ := few_parts HF.out
        obtain ⟨g, G⟩ := ground_type p3
        obtain ⟨gg, GG⟩ := ground_type G.right
        have hgg : gg = g := GG.same G.plain
        subst hgg
        have I := isT_of p3
        have IG := isT_of G.right
        have hfr : rightB (freshL n x) = true := by
          obtain ⟨y, ks, R⟩ := isR_of p3
          exact R.like (likeF_fresh n x (by omega))
        have IF := isT_of hfr
        have hlf := freshL_len n x
        have hne : ((gg.length : Int) == 0) = false := by
          have := List.length_pos_iff.2 G.ne
          simp
          exact G.ne
        have gl : gg.length ≤ 60 := Nat.le_trans G.len p1
        have hsg : ∀ y ∈ gg, y.s.size ≤ 9223372036854775807 := fun z hz => by
          rw [← G.eq] at hz
          obtain ⟨y, hy, e⟩ := grd_labels _ _ _ hz
          rw [e]
          exact (Ho.out y hy).s1
        have hsf : ∀ y ∈ freshL n x, y.s.size ≤ 9223372036854775807 := fun z hz => by
          obtain ⟨y, hy, e⟩ := fresh_labels _ _ _ hz
          rw [e]
          exact (Ho.out y hy).s1
        have hq1 : ((freshL n x).length == x.length) = true := by rw [hlf]; simp
        have hq2 : (((freshL n x).length : Int) == (x.length : Int)) = true := by rw [hlf]; simp
        have hdy := dyn_eq n x
        have hge : n ≤ n + (dynN x : Int) := by omega
        have hfl60 : (freshL n x).length ≤ 60 := by omega
        have hgr := Lib.hid (fun v (h : TyA v v.heap.size A x) => ground_any x.length A c v.heap.size x v (Nat.le_refl _) (by omega) I.fo I.ok h (Nat.le_refl _) hc)
        have hfs := Lib.hid (fun v (h : TyA v v.heap.size A x) => fresh_any A c x n v h I.ne (by omega) (by omega) (by omega))
        have F := Lib.hid (And.intro G (And.intro GG (And.intro IG (And.intro IF (And.intro hlf (And.intro hsg hsf))))))
        have HG := Lib.hid G.eq
        have HGG := Lib.hid GG.eq
        clear G GG I IG IF hfr hlf hsg hsf p2 p3
        cases hst : staticB x <;> cases hpl : plainB x
        all_goals
          have Hst := Lib.hid hst
          have Hpl := Lib.hid hpl
          rw [hst] at hdy
          clear hst hpl
          have hw := Lib.hid (hgr.out _ M.out.p)
          go_wp2_with fail
          refine hw.out.mono ?_
          rw [HG.out]
          rintro e w2 ⟨A2, c2, rfl, hown, hb⟩
          replace M := Lib.hid ((M.out.step hb).add (OwnL.tyA hown) (keep_ty A2 gg))
          have hc2 := OwnL.le_cap hown
          clear hown hb hw
          have hw := Lib.hid (hfs.out _ M.out.p.1)
          go_wp2_with fail
          refine hw.out.mono ?_
          rintro e w3 ⟨A3, c3, rfl, hown, hb⟩
          replace M := Lib.hid ((M.out.step hb).add (OwnL.tyA hown) (keep_ty A3 (freshL n x)))
          clear hown hb hw
          have hw := Lib.hid (rRight_any A2 c2 gg w3 M.out.p.1.2 (by omega) F.out.2.2.2.2.2.1)
          go_wp2_with fail
          refine hw.out.mono ?_
          rw [show rRightB gg = true by rw [right_eq]; exact F.out.2.2.1.right]
          rintro e w4 ⟨rfl, hb⟩
          replace M := Lib.hid (M.out.step hb)
          clear hb hw
          have hw := Lib.hid (rPlain_any A2 c2 _ gg w4 M.out.p.1.2 (by omega))
          go_wp2_with fail
          refine hw.out.mono ?_
          rw [F.out.1.plain]
          rintro e w5 ⟨rfl, rfl⟩
          clear hw
          have hw := Lib.hid (rStatic_any A c _ x w4 M.out.p.1.1 (by omega))
          go_wp2_with fail
          refine hw.out.mono ?_
          rw [Hst.out]
          rintro e w5 ⟨rfl, rfl⟩
          clear hw
          have hw := Lib.hid (rStatic_any A2 c2 _ gg w4 M.out.p.1.2 (by omega))
          go_wp2_with fail
          refine hw.out.mono ?_
          rw [F.out.1.stat, Hst.out]
          rintro e w5 ⟨rfl, rfl⟩
          clear hw
          have hw := Lib.hid (rPlain_any A c _ x w4 M.out.p.1.1 (by omega))
          go_wp2_with fail
          refine hw.out.mono ?_
          rw [Hpl.out]
          rintro e w5 ⟨rfl, rfl⟩
          clear hw
          go_wp2_with fail
          first
            | (refine (one_any A2 A c2 c _ _ gg x _ M.out.p.1.2 M.out.p.1.1 (by omega)).mono ?_
               rw [show decide (gg = x) = true from decide_eq_true (F.out.1.same Hpl.out)]
               rintro e w5 ⟨rfl, q, rfl⟩
               replace M := Lib.hid (M.out.drewN q)
               go_wp2_with fail)
            | skip
          refine (alive_any _).mono ?_
          rintro e w6 ⟨rfl, hb⟩
          replace M := Lib.hid (M.out.step hb)
          clear hb
          have hw := Lib.hid (ground_any gg.length A2 c2 w6.heap.size gg w6 (Nat.le_refl _) (by omega) F.out.2.2.1.fo F.out.2.2.1.ok M.out.p.1.2 (Nat.le_refl _) hc2)
          go_wp2_with fail
          refine hw.out.mono ?_
          rw [HGG.out]
          rintro e w7 ⟨A4, c4, rfl, hown, hb⟩
          replace M := Lib.hid ((M.out.step hb).add (OwnL.tyA hown) (keep_ty A4 gg))
          clear hown hb hw
          go_wp2_with fail
          refine (one_any A4 A2 c4 c2 _ _ gg gg _ M.out.p.2 M.out.p.1.1.2 (by omega)).mono ?_
          rw [show decide (gg = gg) = true from decide_eq_true rfl]
          rintro e w8 ⟨rfl, q8, rfl⟩
          replace M := Lib.hid (M.out.drewN q8)
          have hw := Lib.hid (rRight_any A3 c3 (freshL n x) _ M.out.p.1.2 (by omega) F.out.2.2.2.2.2.2)
          go_wp2_with fail
          refine hw.out.mono ?_
          rw [show rRightB (freshL n x) = true by rw [right_eq]; exact F.out.2.2.2.1.right]
          rintro e w9 ⟨rfl, hb⟩
          replace M := Lib.hid (M.out.step hb)
          clear hb hw
          have hw := Lib.hid (rStatic_any A3 c3 _ (freshL n x) w9 M.out.p.1.2 (by omega))
          go_wp2_with fail
          refine hw.out.mono ?_
          rw [fresh_static]
          rintro e w10 ⟨rfl, rfl⟩
          clear hw
          have hw := Lib.hid (rStatic_any A c _ x w9 M.out.p.1.1.1 (by omega))
          go_wp2_with fail
          refine hw.out.mono ?_
          rw [Hst.out]
          rintro e w10 ⟨rfl, rfl⟩
          go_wp2_with fail
          go_ret
          exact ⟨rfl, M.out.ext⟩
end Go.Proofs.Ytblfeokjlecgkaa
