/- The document's Ground, walked. -/
import Derived.Test.YtblfeokjlecgkaaGreatRKids
import Derived.Test.YtblfeokjlecgkaaGreatRowS
import Derived.Test.YtblfeokjlecgkaaGreatGrd
namespace Go.Proofs.YtblfeokjlecgkaaGreat
open Go.RowKit

/-- A tree whose tails are last. -/
inductive Mid : List Nd → Prop
  | node (x : Nd) (ks : List Nd) : (∀ t ∈ lOf (splitF (manyN x) ks), (headNd t).k ≠ 9) → (∀ t ∈ splitF (manyN x) ks, Mid t) → Mid (x :: ks)

theorem manyN_n {y : Nd} (ho : okNode y.k y.n = true) (hr : isRowB y.k = true) : (0 : Int) + (manyN y : Nat) = y.n := by
  obtain ⟨M, hM, _, hn⟩ := many_nat ho
  have : manyN y = M := by unfold manyN; rw [hM]; simp
  rw [this, hn hr]
  omega

theorem mid_rt {f : Nat} {x : Nd} {k : Int} {last : ByteArray} {d : Nat} {ks : List Nd} (h : RtF f x k last d ks) : ∀ t ∈ splitF d ks, Mid t := by
  induction h with
  | nil => intro t ht; simp [splitF] at ht
  | @cons f x k last d y ks rs ho hc h1 h2 i1 i2 =>
    intro t ht
    rw [splitF_cons h1.fo] at ht
    rcases List.mem_cons.1 ht with rfl | ht
    · exact .node y ks (rt_l9 h1 (fun hr => manyN_n ho hr)) i1
    · exact i2 t ht

theorem IsR.mid {T : List Nd} {y : Nd} {ks : List Nd} (h : IsR T y ks) : Mid T := by
  rw [h.eq]
  exact .node y ks (rt_l9 h.rt (fun hr => manyN_n h.ok hr)) (mid_rt h.rt)

theorem below_calls {B : Nat} {a b c : World} (h : Below B a b) (k : Below b.heap.size b c) (hB : B ≤ b.heap.size) : Below B a c := h.trans (k.mono hB)

set_option maxRecDepth 100000 in
set_option maxHeartbeats 8000000 in
theorem rground_any (N : Nat) : ∀ (A : Option Addr) (c : Nat) (xs : List Nd) (w : World), xs.length ≤ N → xs.length ≤ 1000000 → Fo 1 xs → okAll xs → Mid xs → TyA w w.heap.size A xs → xs.length ≤ c →
    Calls Tryz.prog 28 #[.slice A xs.length c, .int .i64 0] w (RetN w (grdT xs)) := by
  induction N with
  | zero =>
    intro A c xs w h0 _ hf
    have := hf.pos
    omega
  | succ N ih =>
    have Ih := Lib.hid ih
    clear ih
    intro A c xs w hN hl hf hok hmid ha hc
    cases hmid with
    | node x ks0 h9 hm =>
      obtain ⟨ks, rs, hks0, hks, hrs⟩ := hf.uncons
      have := hrs.of_zero
      subst this
      rw [List.append_nil] at hks0
      subst hks0
      have ht := trees_of hks
      generalize splitF (manyN x) ks0 = tss at *
      have hxo : okNode x.k x.n = true := hok x (by simp)
      have hoks : okAll ks0 := fun y hy => hok y (by simp [hy])
      have hkc := Lib.hid (rKids12_any A c (x :: ks0) ks0 x tss w ha hl hc rfl hxo hoks ht h9)
      obtain ⟨b1, o1, rfl, hb1, c10, c11, c12⟩ := ha.at_ (i := 0) (x := x) rfl
      simp only [Nat.zero_mul, Nat.add_zero] at c10 c11 c12
      have hgc : Hid (grdT (x :: ks0) = if x.k = 8 ∨ (x.k = 7 ∧ (lOf tss).length = 0) then [⟨4, x.s, 0⟩] else grHd x (lOf tss).length :: ((lOf tss).map grdT).flatten) := Lib.hid (by
        rw [grdT_cons, ← ht.uniq]; rfl)
      have hmn : manyN x ≤ 50 := manyN_le hxo
      have Hll : Hid ((lOf tss).length ≤ 50 ∧ (lOf tss).flatten.length ≤ ks0.length ∧ (∀ t ∈ lOf tss, Fo 1 t ∧ okAll t ∧ Mid t)) := Lib.hid ⟨by have := lOf_le tss; rw [ht.len] at this; omega, by have := flat_lOf tss; rwa [ht.flat] at this, fun t hm2 => ⟨ht.one t (mem_lOf hm2), fun y hy => hoks y (by rw [← ht.flat]; exact List.mem_flatten.2 ⟨t, mem_lOf hm2, hy⟩), hm t (mem_lOf hm2)⟩⟩
      have Ha := Lib.hid ha
      have hlN : ks0.length ≤ N := by simp at hN; omega
      have hl6 : ks0.length ≤ 1000000 := by simp at hl; omega
      have hx0 : 0 < (x :: ks0).length := by simp
      clear ha hf hok hks hrs ht hxo hoks hmn hN hl hc hm h9
      generalize hL : (x :: ks0).length = L at *
      have HL := Lib.hid hL
      clear hL
      have HX : Hid (∀ v, Below w.heap.size w v → v.cell? ⟨b1, o1, none⟩ = some (.int .i64 x.k) ∧ v.cell? ⟨b1, o1 + 1, none⟩ = some (.string x.s) ∧ v.cell? ⟨b1, o1 + 2, none⟩ = some (.int .i64 x.n)) := Lib.hid fun v hb => ⟨(hb.cell (p := ⟨b1, o1, none⟩) hb1).trans c10, (hb.cell (p := ⟨b1, o1 + 1, none⟩) hb1).trans c11, (hb.cell (p := ⟨b1, o1 + 2, none⟩) hb1).trans c12⟩
      go_enter Tryz.func28, Tryz.ntmps28
      cases h8 : (x.k == 8)
      · have H8 := Lib.hid h8
        clear c11 c12
        go_wp2_with fail
        refine hkc.out.mono ?_
        rintro e w1 ⟨V, cv, vs, A3, c3, rfl, hown, hS, _, hcap, hb⟩
        have G := Lib.hid (And.intro (OwnL.read encS_len hown) (And.intro hS (And.intro hcap hb)))
        have hnl : Hid (vs.length = (lOf tss).length) := Lib.hid hS.1
        have hv50 : vs.length ≤ 50 := by rw [hnl.out]; exact Hll.out.1
        have hbw : b1 < w1.heap.size := Nat.lt_of_lt_of_le hb1 hb.size
        obtain ⟨c10, c11, c12⟩ := HX.out w1 hb
        clear hkc hown hS hcap hb
        have hcase : ((x.k == 7) = true ∧ ((vs.length : Int) == 0) = true) ∨ ((x.k == 7) = true ∧ ((vs.length : Int) == 0) = false) ∨ (x.k == 7) = false := by
          cases (x.k == 7) <;> cases ((vs.length : Int) == 0) <;> simp
        rcases hcase with ⟨h7, h0⟩ | hcase
        · have H7 := Lib.hid h7
          have H0 := Lib.hid h0
          go_wp2_with fail
          go_ret
          have e : grdT (x :: ks0) = [⟨4, x.s, 0⟩] := by
            rw [hgc.out, if_pos (.inr ⟨by simpa using H7.out, by rw [← hnl.out]; simpa using H0.out⟩)]
          unfold RetN
          rw [e]
          exact ⟨_, _, rfl, (own_one w1 ⟨4, x.s, 0⟩).lower G.out.2.2.2.size, ext_alloc G.out.2.2.2 _⟩
        · have hg : Hid (grdT (x :: ks0) = grHd x vs.length :: ((lOf tss).map grdT).flatten) := Lib.hid (by
            rw [hgc.out, if_neg, hnl.out]
            rintro (e | ⟨e7, e0⟩)
            · rw [e] at h8; cases h8
            · rcases hcase with ⟨_, h0⟩ | h7
              · rw [hnl.out, e0] at h0; cases h0
              · rw [e7] at h7; cases h7)
          have hO := Lib.hid (own_one w1 x)
          have hB1 := Lib.hid (ext_alloc (Below.refl w1.heap.size w1) (.cells #[.int .i64 x.k, .string x.s, .int .i64 x.n] 39))
          have hrow : ((x.k == 7) = true ∧ ((vs.length : Int) == 0) = false ∧ (x.k == 6) = false ∧ isRowB x.k = true) ∨ ((x.k == 7) = false ∧ (x.k == 6) = false ∧ isRowB x.k = false) ∨ ((x.k == 7) = false ∧ (x.k == 6) = true ∧ isRowB x.k = true) := by
            unfold isRowB
            rcases hcase with ⟨h7, h0⟩ | h7
            · refine .inl ⟨h7, h0, ?_, by rw [h7]; simp⟩
              rw [beq_eq_false_iff_ne]
              rw [beq_iff_eq] at h7
              omega
            · cases h6 : (x.k == 6)
              · exact .inr (.inl ⟨h7, rfl, by rw [h7]; rfl⟩)
              · exact .inr (.inr ⟨h7, rfl, rfl⟩)
          clear hcase
          rcases hrow with ⟨h7, h0, h6, hr⟩ | ⟨h7, h6, hr⟩ | ⟨h7, h6, hr⟩
          · have M4 : Hid (OwnN (w1.alloc (.cells #[.int .i64 x.k, .string x.s, .int .i64 (vs.length : Int)] 39)) w1.heap.size (some ⟨w1.heap.size, 0, none⟩) 1 [grHd x vs.length] ∧ Below w1.heap.size w1 (w1.alloc (.cells #[.int .i64 x.k, .string x.s, .int .i64 (vs.length : Int)] 39))) := Lib.hid ⟨by
              have e : grHd x vs.length = ⟨x.k, x.s, (vs.length : Int)⟩ := by unfold grHd; rw [if_pos hr]
              rw [e]; exact own_one w1 ⟨x.k, x.s, (vs.length : Int)⟩, ext_alloc (Below.refl _ _) _⟩
            clear hr
            go_wp2_with fail
            go_loopw [7, 8] (fun s7 s8 wr => ∃ (k : Nat) (A5 : Option Addr) (c5 : Nat) (out : List Nd), s7 = .slice A5 out.length c5 ∧ s8 = .int .i64 k ∧ k ≤ vs.length ∧ out.length ≤ 1000001 ∧ Hid (out = grHd x vs.length :: grCat (lOf tss) k) ∧ Hid (OwnN wr w1.heap.size A5 c5 out ∧ Below w1.heap.size w1 wr)) (fun _ s8 _ => vs.length - (intOf s8).toNat)
            case atStart => exact ⟨0, some ⟨w1.heap.size, 0, none⟩, 1, [grHd x vs.length], rfl, rfl, Nat.zero_le _, by simp, Lib.hid (by simp [grCat]), M4⟩
            case round =>
              clear M4
              obtain ⟨k, A5, c5, out, rfl, rfl, hk, hol, hout, M⟩ := hrel
              by_cases hp : k < vs.length
              · obtain ⟨v, hv⟩ := getq_ex hp
                obtain ⟨t, ht⟩ := getq_ex (show k < (lOf tss).length by rw [← hnl.out]; exact hp)
                obtain ⟨b, o, rfl, hb, c0⟩ := ReadL.slice (ReadL.more (ReadL.below G.out.1 M.out.2) M.out.2.size) hv
                obtain ⟨e1, e2⟩ := (G.out.2.1.moreB M.out.2 M.out.2.size).2 k v t hv ht
                have hmt := Hll.out.2.2 t (List.mem_of_getElem? ht)
                have hlt : t.length ≤ ks0.length := by
                  have h1 := List.Sublist.length_le (List.sublist_flatten_of_mem (List.mem_of_getElem? ht))
                  have h2 := Hll.out.2.1
                  omega
                have hcap := G.out.2.2.1 v (List.mem_of_getElem? hv)
                rw [e1] at c0 hcap
                have hI := Lib.hid (Ih.out v.1 v.2.2 t wr (by omega) (by omega) hmt.1 hmt.2.1 hmt.2.2 e2 hcap)
                have hout' : Hid (out ++ grdT t = grHd x vs.length :: grCat (lOf tss) (k + 1)) := Lib.hid (by rw [hout.out, grCat_step ht, List.cons_append])
                have hol' : out.length + (grdT t).length ≤ 1000001 := by
                  have h1 := congrArg List.length hout'.out
                  rw [List.length_append, List.length_cons] at h1
                  have h2 := grCat_le (fun t ht => (Hll.out.2.2 t ht).1) (k + 1)
                  have h3 := Hll.out.2.1
                  omega
                clear hv ht e1 e2 hmt hcap
                go_wp2_with fail
                refine hI.out.mono ?_
                rintro e w5 ⟨A6, c6, rfl, hown6, hb6⟩
                replace M := Lib.hid (And.intro (OwnL.below M.out.1 hb6 (Nat.le_refl _)) (below_calls M.out.2 hb6 M.out.2.size))
                have H6 := Lib.hid (OwnL.tyA hown6)
                clear hown6 hb6 hI c0
                go_wp2_with (at_builtin; refine wpList_appN rfl (.tmp 76) (.tmp 81) rfl w1.heap.size (l := out) rfl M.out.1 (l2 := grdT t) rfl H6.out (by omega) M.out.2.size ?_; intro A7 c7 w7 hown7 hg7 _; replace M := Lib.hid (And.intro hown7 (M.out.2.trans (below_app hg7 M.out.2.size (fun a ha => (OwnL.lt M.out.1 a ha).1)))); clear hown7 hg7)
                go_roundw
                case rel => exact ⟨k + 1, A7, c7, out ++ grdT t, by simp, by go_num, hp, by simp; omega, hout', M⟩
                case measure => simp [intOf]; omega
              · have hkn : k = (lOf tss).length := by have := hnl.out; omega
                have e : out = grdT (x :: ks0) := by rw [hg.out, hout.out, hkn, grCat_end]
                have E := Lib.hid e
                clear e hkn
                go_wp2_with fail
                go_ret
                unfold RetN
                rw [← E.out]
                exact ⟨A5, c5, rfl, OwnL.lower M.out.1 G.out.2.2.2.size, G.out.2.2.2.trans (M.out.2.mono G.out.2.2.2.size)⟩
          · have M4 : Hid (OwnN (w1.alloc (.cells #[.int .i64 x.k, .string x.s, .int .i64 x.n] 39)) w1.heap.size (some ⟨w1.heap.size, 0, none⟩) 1 [grHd x vs.length] ∧ Below w1.heap.size w1 (w1.alloc (.cells #[.int .i64 x.k, .string x.s, .int .i64 x.n] 39))) := Lib.hid ⟨by
              have e : grHd x vs.length = x := by unfold grHd; rw [if_neg (by rw [hr]; simp)]
              rw [e]; exact hO.out, hB1.out⟩
            clear hr
            go_wp2_with fail
            go_loopw [7, 8] (fun s7 s8 wr => ∃ (k : Nat) (A5 : Option Addr) (c5 : Nat) (out : List Nd), s7 = .slice A5 out.length c5 ∧ s8 = .int .i64 k ∧ k ≤ vs.length ∧ out.length ≤ 1000001 ∧ Hid (out = grHd x vs.length :: grCat (lOf tss) k) ∧ Hid (OwnN wr w1.heap.size A5 c5 out ∧ Below w1.heap.size w1 wr)) (fun _ s8 _ => vs.length - (intOf s8).toNat)
            case atStart => exact ⟨0, some ⟨w1.heap.size, 0, none⟩, 1, [grHd x vs.length], rfl, rfl, Nat.zero_le _, by simp, Lib.hid (by simp [grCat]), M4⟩
            case round =>
              clear M4
              obtain ⟨k, A5, c5, out, rfl, rfl, hk, hol, hout, M⟩ := hrel
              by_cases hp : k < vs.length
              · obtain ⟨v, hv⟩ := getq_ex hp
                obtain ⟨t, ht⟩ := getq_ex (show k < (lOf tss).length by rw [← hnl.out]; exact hp)
                obtain ⟨b, o, rfl, hb, c0⟩ := ReadL.slice (ReadL.more (ReadL.below G.out.1 M.out.2) M.out.2.size) hv
                obtain ⟨e1, e2⟩ := (G.out.2.1.moreB M.out.2 M.out.2.size).2 k v t hv ht
                have hmt := Hll.out.2.2 t (List.mem_of_getElem? ht)
                have hlt : t.length ≤ ks0.length := by
                  have h1 := List.Sublist.length_le (List.sublist_flatten_of_mem (List.mem_of_getElem? ht))
                  have h2 := Hll.out.2.1
                  omega
                have hcap := G.out.2.2.1 v (List.mem_of_getElem? hv)
                rw [e1] at c0 hcap
                have hI := Lib.hid (Ih.out v.1 v.2.2 t wr (by omega) (by omega) hmt.1 hmt.2.1 hmt.2.2 e2 hcap)
                have hout' : Hid (out ++ grdT t = grHd x vs.length :: grCat (lOf tss) (k + 1)) := Lib.hid (by rw [hout.out, grCat_step ht, List.cons_append])
                have hol' : out.length + (grdT t).length ≤ 1000001 := by
                  have h1 := congrArg List.length hout'.out
                  rw [List.length_append, List.length_cons] at h1
                  have h2 := grCat_le (fun t ht => (Hll.out.2.2 t ht).1) (k + 1)
                  have h3 := Hll.out.2.1
                  omega
                clear hv ht e1 e2 hmt hcap
                go_wp2_with fail
                refine hI.out.mono ?_
                rintro e w5 ⟨A6, c6, rfl, hown6, hb6⟩
                replace M := Lib.hid (And.intro (OwnL.below M.out.1 hb6 (Nat.le_refl _)) (below_calls M.out.2 hb6 M.out.2.size))
                have H6 := Lib.hid (OwnL.tyA hown6)
                clear hown6 hb6 hI c0
                go_wp2_with (at_builtin; refine wpList_appN rfl (.tmp 76) (.tmp 81) rfl w1.heap.size (l := out) rfl M.out.1 (l2 := grdT t) rfl H6.out (by omega) M.out.2.size ?_; intro A7 c7 w7 hown7 hg7 _; replace M := Lib.hid (And.intro hown7 (M.out.2.trans (below_app hg7 M.out.2.size (fun a ha => (OwnL.lt M.out.1 a ha).1)))); clear hown7 hg7)
                go_roundw
                case rel => exact ⟨k + 1, A7, c7, out ++ grdT t, by simp, by go_num, hp, by simp; omega, hout', M⟩
                case measure => simp [intOf]; omega
              · have hkn : k = (lOf tss).length := by have := hnl.out; omega
                have e : out = grdT (x :: ks0) := by rw [hg.out, hout.out, hkn, grCat_end]
                have E := Lib.hid e
                clear e hkn
                go_wp2_with fail
                go_ret
                unfold RetN
                rw [← E.out]
                exact ⟨A5, c5, rfl, OwnL.lower M.out.1 G.out.2.2.2.size, G.out.2.2.2.trans (M.out.2.mono G.out.2.2.2.size)⟩
          · have M4 : Hid (OwnN (w1.alloc (.cells #[.int .i64 x.k, .string x.s, .int .i64 (vs.length : Int)] 39)) w1.heap.size (some ⟨w1.heap.size, 0, none⟩) 1 [grHd x vs.length] ∧ Below w1.heap.size w1 (w1.alloc (.cells #[.int .i64 x.k, .string x.s, .int .i64 (vs.length : Int)] 39))) := Lib.hid ⟨by
              have e : grHd x vs.length = ⟨x.k, x.s, (vs.length : Int)⟩ := by unfold grHd; rw [if_pos hr]
              rw [e]; exact own_one w1 ⟨x.k, x.s, (vs.length : Int)⟩, ext_alloc (Below.refl _ _) _⟩
            clear hr
            go_wp2_with fail
            go_loopw [7, 8] (fun s7 s8 wr => ∃ (k : Nat) (A5 : Option Addr) (c5 : Nat) (out : List Nd), s7 = .slice A5 out.length c5 ∧ s8 = .int .i64 k ∧ k ≤ vs.length ∧ out.length ≤ 1000001 ∧ Hid (out = grHd x vs.length :: grCat (lOf tss) k) ∧ Hid (OwnN wr w1.heap.size A5 c5 out ∧ Below w1.heap.size w1 wr)) (fun _ s8 _ => vs.length - (intOf s8).toNat)
            case atStart => exact ⟨0, some ⟨w1.heap.size, 0, none⟩, 1, [grHd x vs.length], rfl, rfl, Nat.zero_le _, by simp, Lib.hid (by simp [grCat]), M4⟩
            case round =>
              clear M4
              obtain ⟨k, A5, c5, out, rfl, rfl, hk, hol, hout, M⟩ := hrel
              by_cases hp : k < vs.length
              · obtain ⟨v, hv⟩ := getq_ex hp
                obtain ⟨t, ht⟩ := getq_ex (show k < (lOf tss).length by rw [← hnl.out]; exact hp)
                obtain ⟨b, o, rfl, hb, c0⟩ := ReadL.slice (ReadL.more (ReadL.below G.out.1 M.out.2) M.out.2.size) hv
                obtain ⟨e1, e2⟩ := (G.out.2.1.moreB M.out.2 M.out.2.size).2 k v t hv ht
                have hmt := Hll.out.2.2 t (List.mem_of_getElem? ht)
                have hlt : t.length ≤ ks0.length := by
                  have h1 := List.Sublist.length_le (List.sublist_flatten_of_mem (List.mem_of_getElem? ht))
                  have h2 := Hll.out.2.1
                  omega
                have hcap := G.out.2.2.1 v (List.mem_of_getElem? hv)
                rw [e1] at c0 hcap
                have hI := Lib.hid (Ih.out v.1 v.2.2 t wr (by omega) (by omega) hmt.1 hmt.2.1 hmt.2.2 e2 hcap)
                have hout' : Hid (out ++ grdT t = grHd x vs.length :: grCat (lOf tss) (k + 1)) := Lib.hid (by rw [hout.out, grCat_step ht, List.cons_append])
                have hol' : out.length + (grdT t).length ≤ 1000001 := by
                  have h1 := congrArg List.length hout'.out
                  rw [List.length_append, List.length_cons] at h1
                  have h2 := grCat_le (fun t ht => (Hll.out.2.2 t ht).1) (k + 1)
                  have h3 := Hll.out.2.1
                  omega
                clear hv ht e1 e2 hmt hcap
                go_wp2_with fail
                refine hI.out.mono ?_
                rintro e w5 ⟨A6, c6, rfl, hown6, hb6⟩
                replace M := Lib.hid (And.intro (OwnL.below M.out.1 hb6 (Nat.le_refl _)) (below_calls M.out.2 hb6 M.out.2.size))
                have H6 := Lib.hid (OwnL.tyA hown6)
                clear hown6 hb6 hI c0
                go_wp2_with (at_builtin; refine wpList_appN rfl (.tmp 76) (.tmp 81) rfl w1.heap.size (l := out) rfl M.out.1 (l2 := grdT t) rfl H6.out (by omega) M.out.2.size ?_; intro A7 c7 w7 hown7 hg7 _; replace M := Lib.hid (And.intro hown7 (M.out.2.trans (below_app hg7 M.out.2.size (fun a ha => (OwnL.lt M.out.1 a ha).1)))); clear hown7 hg7)
                go_roundw
                case rel => exact ⟨k + 1, A7, c7, out ++ grdT t, by simp, by go_num, hp, by simp; omega, hout', M⟩
                case measure => simp [intOf]; omega
              · have hkn : k = (lOf tss).length := by have := hnl.out; omega
                have e : out = grdT (x :: ks0) := by rw [hg.out, hout.out, hkn, grCat_end]
                have E := Lib.hid e
                clear e hkn
                go_wp2_with fail
                go_ret
                unfold RetN
                rw [← E.out]
                exact ⟨A5, c5, rfl, OwnL.lower M.out.1 G.out.2.2.2.size, G.out.2.2.2.trans (M.out.2.mono G.out.2.2.2.size)⟩
      · have H8 := Lib.hid h8
        go_wp2_with fail
        go_ret
        have e : grdT (x :: ks0) = [⟨4, x.s, 0⟩] := by rw [hgc.out, if_pos (.inl (by simpa using H8.out))]
        unfold RetN
        rw [e]
        exact ⟨_, _, rfl, (own_one w ⟨4, x.s, 0⟩), ext_alloc (Below.refl _ _) _⟩

theorem var_pos {k n : Int} (ho : okNode k n = true) (hv : isVarB k = true) : 0 ≤ n := by
  unfold isVarB at hv
  simp only [Bool.or_eq_true, beq_iff_eq] at hv
  unfold okNode at ho
  rw [if_pos (by rcases hv with h | h <;> simp [h])] at ho
  exact of_decide_eq_true ho

theorem rGround_any (A : Option Addr) (c : Nat) (xs : List Nd) (w : World) (ha : TyA w w.heap.size A xs) (hr : rightB xs = true) (hl : xs.length ≤ 1000000) (hc : xs.length ≤ c) :
    Calls Tryz.prog 13 #[.slice A xs.length c] w (RetN w (grdT xs)) := by
  obtain ⟨y, ks, I⟩ := isR_of hr
  have h := Lib.hid (rground_any xs.length A c xs w (Nat.le_refl _) hl (isT_of hr).fo (isT_of hr).ok I.mid ha hc)
  clear ha hr I
  go_enter Tryz.func13, Tryz.ntmps13
  go_wp2_with fail
  refine h.out.mono ?_
  rintro e w1 ⟨A', c', rfl, hown, hb⟩
  go_wp2_with fail
  go_ret
  exact ⟨A', c', rfl, hown, hb⟩
end Go.Proofs.YtblfeokjlecgkaaGreat
