/- Laid together by a tool from the texts of this seat: Grd RGround StQ R07. Conditions: each theorem's own. -/
import Derived.Test.YtblfeokjlecgkaaG02
import Derived.Test.YtblfeokjlecgkaaG01
import Derived.Deep.DeepCutAuto
import Derived.Deep.CutRange
/- term.Ground, walked. -/
namespace Go.Proofs.Ytblfeokjlecgkaa
open Go.RowKit

structure GKids (w0 w : World) (B Bv : Nat) (V : Option Addr) (n : Nat) (vs : List (Option Addr × Nat × Nat)) (l : List (List Nd)) : Prop where
  ext : Below w0.heap.size w0 w
  r : ReadS w Bv V vs
  s : Sls w B vs l
  n : n = vs.length
  caps : ∀ q ∈ vs, q.2.1 ≤ q.2.2
  lo : w0.heap.size ≤ Bv
  hi : Bv ≤ w.heap.size

theorem GKids.step {w0 w w' : World} {B Bv : Nat} {V : Option Addr} {n : Nat} {vs : List (Option Addr × Nat × Nat)} {l : List (List Nd)} (h : GKids w0 w B Bv V n vs l) (hb : Below Bv w w') (hB : B ≤ w0.heap.size) : GKids w0 w' B Bv V n vs l :=
  ⟨h.ext.trans (hb.mono h.lo), ReadL.below h.r hb, sls_below h.s (hb.mono (Nat.le_trans hB h.lo)), h.n, h.caps, h.lo, Nat.le_trans h.hi hb.size⟩

def grCat (l : List (List Nd)) (k : Nat) : List Nd := ((l.take k).map grdT).flatten

theorem grCat_step {l : List (List Nd)} {k : Nat} {t : List Nd} (h : l[k]? = some t) : grCat l (k + 1) = grCat l k ++ grdT t := by
  unfold grCat
  rw [List.take_add_one, h, List.map_append, List.flatten_append]
  simp

theorem grCat_end (l : List (List Nd)) : grCat l l.length = (l.map grdT).flatten := by simp [grCat]

theorem grCat_le {l : List (List Nd)} (h : ∀ t ∈ l, Fo 1 t) (k : Nat) : (grCat l k).length ≤ l.flatten.length := by
  unfold grCat
  have h1 := flat_map_le (p := grdT) (l := l.take k) fun t ht => grd_len t (h t (List.mem_of_mem_take ht))
  have h2 := flatten_take_le l k
  omega

def grHd (x : Nd) (m : Nat) : Nd := if isRowB x.k = true then ⟨x.k, x.s, (m : Nat)⟩ else x

end Go.Proofs.Ytblfeokjlecgkaa

/- The document's Ground, walked. -/
namespace Go.Proofs.Ytblfeokjlecgkaa
open Go.RowKit

inductive Mid : List Nd → Prop
  | node (x : Nd) (ks : List Nd) : (∀ t ∈ lOf (splitF (manyN x) ks), (headNd t).k ≠ 9) → (∀ t ∈ splitF (manyN x) ks, Mid t) → Mid (x :: ks)

theorem manyN_n {y : Nd} (ho : okNode y.k y.n = true) (hr : isRowB y.k = true) : (0 : Int) + (manyN y : Nat) = y.n := by
  obtain ⟨M, hM, _, hn⟩ := many_nat ho
  have : manyN y = M := by unfold manyN; rw [hM]; simp
  rw [this, hn hr]
  omega

theorem mid_rt {f : Nat} {x : Nd} {k : Int} {last : ByteArray} {d : Nat} {ks : List Nd} (h : RtF f x k last d ks) : ∀ t ∈ splitF d ks, Mid t := by
  induction h with
  | nil => intro t ht; simp [splitF] at ht
  | @cons f x k last d y ks rs ho hc h1 h2 i1 i2 =>
    intro t ht
    rw [splitF_cons h1.fo] at ht
    rcases List.mem_cons.1 ht with rfl | ht
    · exact .node y ks (rt_l9 h1 (fun hr => manyN_n ho hr)) i1
    · exact i2 t ht

theorem IsR.mid {T : List Nd} {y : Nd} {ks : List Nd} (h : IsR T y ks) : Mid T := by
  rw [h.eq]
  exact .node y ks (rt_l9 h.rt (fun hr => manyN_n h.ok hr)) (mid_rt h.rt)

theorem below_calls {B : Nat} {a b c : World} (h : Below B a b) (k : Below b.heap.size b c) (hB : B ≤ b.heap.size) : Below B a c := h.trans (k.mono hB)

set_option maxRecDepth 100000 in
set_option maxHeartbeats 8000000 in
theorem rground_any (N : Nat) : ∀ (A : Option Addr) (c : Nat) (xs : List Nd) (w : World), xs.length ≤ N → xs.length ≤ 1000000 → Fo 1 xs → okAll xs → Mid xs → TyA w w.heap.size A xs → xs.length ≤ c →
    Calls Try.prog 65 #[.slice A xs.length c, .int .i64 0] w (RetN w (grdT xs)) := by
  induction N with
  | zero =>
    intro A c xs w h0 _ hf
    have := hf.pos
    omega
  | succ N ih =>
    have Ih := Lib.hid ih
    clear ih
    intro A c xs w hN hl hf hok hmid ha hc
    cases hmid with
    | node x ks0 h9 hm =>
      obtain ⟨ks, rs, hks0, hks, hrs⟩ := hf.uncons
      have := hrs.of_zero
      subst this
      rw [List.append_nil] at hks0
      subst hks0
      have ht := trees_of hks
      generalize splitF (manyN x) ks0 = tss at *
      have hxo : okNode x.k x.n = true := hok x (by simp)
      have hoks : okAll ks0 := fun y hy => hok y (by simp [hy])
      have hkc := Lib.hid (rKids12_any A c (x :: ks0) ks0 x tss w ha hl hc rfl hxo hoks ht h9)
      obtain ⟨b1, o1, rfl, hb1, c10, c11, c12⟩ := ha.at_ (i := 0) (x := x) rfl
      simp only [Nat.zero_mul, Nat.add_zero] at c10 c11 c12
      have hgc : Hid (grdT (x :: ks0) = if x.k = 8 ∨ (x.k = 7 ∧ (lOf tss).length = 0) then [⟨4, x.s, 0⟩] else grHd x (lOf tss).length :: ((lOf tss).map grdT).flatten) := Lib.hid (by
        rw [grdT_cons, ← ht.uniq]; rfl)
      have hmn : manyN x ≤ 50 := manyN_le hxo
      have Hll : Hid ((lOf tss).length ≤ 50 ∧ (lOf tss).flatten.length ≤ ks0.length ∧ (∀ t ∈ lOf tss, Fo 1 t ∧ okAll t ∧ Mid t)) := Lib.hid ⟨by have := lOf_le tss; rw [ht.len] at this; omega, by have := flat_lOf tss; rwa [ht.flat] at this, fun t hm2 => ⟨ht.one t (mem_lOf hm2), fun y hy => hoks y (by rw [← ht.flat]; exact List.mem_flatten.2 ⟨t, mem_lOf hm2, hy⟩), hm t (mem_lOf hm2)⟩⟩
      have Ha := Lib.hid ha
      have hlN : ks0.length ≤ N := by simp at hN; omega
      have hl6 : ks0.length ≤ 1000000 := by simp at hl; omega
      have hx0 : 0 < (x :: ks0).length := by simp
      clear ha hf hok hks hrs ht hxo hoks hmn hN hl hc hm h9
      generalize hL : (x :: ks0).length = L at *
      have HL := Lib.hid hL
      clear hL
      have HX : Hid (∀ v, Below w.heap.size w v → v.cell? ⟨b1, o1, none⟩ = some (.int .i64 x.k) ∧ v.cell? ⟨b1, o1 + 1, none⟩ = some (.string x.s) ∧ v.cell? ⟨b1, o1 + 2, none⟩ = some (.int .i64 x.n)) := Lib.hid fun v hb => ⟨(hb.cell (p := ⟨b1, o1, none⟩) hb1).trans c10, (hb.cell (p := ⟨b1, o1 + 1, none⟩) hb1).trans c11, (hb.cell (p := ⟨b1, o1 + 2, none⟩) hb1).trans c12⟩
      go_enter Try.func65, Try.ntmps65
      cases h8 : (x.k == 8)
      · have H8 := Lib.hid h8
        clear c11 c12
        go_wp2_with fail
        refine hkc.out.mono ?_
        rintro e w1 ⟨V, cv, vs, A3, c3, rfl, hown, hS, _, hcap, hb⟩
        have G := Lib.hid (And.intro (OwnL.read encS_len hown) (And.intro hS (And.intro hcap hb)))
        have hnl : Hid (vs.length = (lOf tss).length) := Lib.hid hS.1
        have hv50 : vs.length ≤ 50 := by rw [hnl.out]; exact Hll.out.1
        have hbw : b1 < w1.heap.size := Nat.lt_of_lt_of_le hb1 hb.size
        obtain ⟨c10, c11, c12⟩ := HX.out w1 hb
        clear hkc hown hS hcap hb
        have hcase : ((x.k == 7) = true ∧ ((vs.length : Int) == 0) = true) ∨ ((x.k == 7) = true ∧ ((vs.length : Int) == 0) = false) ∨ (x.k == 7) = false := by
          cases (x.k == 7) <;> cases ((vs.length : Int) == 0) <;> simp
        rcases hcase with ⟨h7, h0⟩ | hcase
        · have H7 := Lib.hid h7
          have H0 := Lib.hid h0
          go_wp2_with fail
          go_ret
          have e : grdT (x :: ks0) = [⟨4, x.s, 0⟩] := by
            rw [hgc.out, if_pos (.inr ⟨by simpa using H7.out, by rw [← hnl.out]; simpa using H0.out⟩)]
          unfold RetN
          rw [e]
          exact ⟨_, _, rfl, (own_one w1 ⟨4, x.s, 0⟩).lower G.out.2.2.2.size, ext_alloc G.out.2.2.2 _⟩
        · have hg : Hid (grdT (x :: ks0) = grHd x vs.length :: ((lOf tss).map grdT).flatten) := Lib.hid (by
            rw [hgc.out, if_neg, hnl.out]
            rintro (e | ⟨e7, e0⟩)
            · rw [e] at h8; cases h8
            · rcases hcase with ⟨_, h0⟩ | h7
              · rw [hnl.out, e0] at h0; cases h0
              · rw [e7] at h7; cases h7)
          have hO := Lib.hid (own_one w1 x)
          have hB1 := Lib.hid (ext_alloc (Below.refl w1.heap.size w1) (.cells #[.int .i64 x.k, .string x.s, .int .i64 x.n] 48))
          have hrow : ((x.k == 7) = true ∧ ((vs.length : Int) == 0) = false ∧ (x.k == 6) = false ∧ isRowB x.k = true) ∨ ((x.k == 7) = false ∧ (x.k == 6) = false ∧ isRowB x.k = false) ∨ ((x.k == 7) = false ∧ (x.k == 6) = true ∧ isRowB x.k = true) := by
            unfold isRowB
            rcases hcase with ⟨h7, h0⟩ | h7
            · refine .inl ⟨h7, h0, ?_, by rw [h7]; simp⟩
              rw [beq_eq_false_iff_ne]
              rw [beq_iff_eq] at h7
              omega
            · cases h6 : (x.k == 6)
              · exact .inr (.inl ⟨h7, rfl, by rw [h7]; rfl⟩)
              · exact .inr (.inr ⟨h7, rfl, rfl⟩)
          clear hcase
          rcases hrow with ⟨h7, h0, h6, hr⟩ | ⟨h7, h6, hr⟩ | ⟨h7, h6, hr⟩
          · have M4 : Hid (OwnN (w1.alloc (.cells #[.int .i64 x.k, .string x.s, .int .i64 (vs.length : Int)] 48)) w1.heap.size (some ⟨w1.heap.size, 0, none⟩) 1 [grHd x vs.length] ∧ Below w1.heap.size w1 (w1.alloc (.cells #[.int .i64 x.k, .string x.s, .int .i64 (vs.length : Int)] 48))) := Lib.hid ⟨by
              have e : grHd x vs.length = ⟨x.k, x.s, (vs.length : Int)⟩ := by unfold grHd; rw [if_pos hr]
              rw [e]; exact own_one w1 ⟨x.k, x.s, (vs.length : Int)⟩, ext_alloc (Below.refl _ _) _⟩
            clear hr
            go_wp2_with fail
            go_loopw [7, 8] (fun s7 s8 wr => ∃ (k : Nat) (A5 : Option Addr) (c5 : Nat) (out : List Nd), s7 = .slice A5 out.length c5 ∧ s8 = .int .i64 k ∧ k ≤ vs.length ∧ out.length ≤ 1000001 ∧ Hid (out = grHd x vs.length :: grCat (lOf tss) k) ∧ Hid (OwnN wr w1.heap.size A5 c5 out ∧ Below w1.heap.size w1 wr)) (fun _ s8 _ => vs.length - (intOf s8).toNat)
            case atStart => exact ⟨0, some ⟨w1.heap.size, 0, none⟩, 1, [grHd x vs.length], rfl, rfl, Nat.zero_le _, by simp, Lib.hid (by simp [grCat]), M4⟩
            case round =>
              clear M4
              obtain ⟨k, A5, c5, out, rfl, rfl, hk, hol, hout, M⟩ := hrel
              by_cases hp : k < vs.length
              · obtain ⟨v, hv⟩ := getq_ex hp
                obtain ⟨t, ht⟩ := getq_ex (show k < (lOf tss).length by rw [← hnl.out]; exact hp)
                obtain ⟨b, o, rfl, hb, c0⟩ := ReadL.slice (ReadL.more (ReadL.below G.out.1 M.out.2) M.out.2.size) hv
                obtain ⟨e1, e2⟩ := (G.out.2.1.moreB M.out.2 M.out.2.size).2 k v t hv ht
                have hmt := Hll.out.2.2 t (List.mem_of_getElem? ht)
                have hlt : t.length ≤ ks0.length := by
                  have h1 := List.Sublist.length_le (List.sublist_flatten_of_mem (List.mem_of_getElem? ht))
                  have h2 := Hll.out.2.1
                  omega
                have hcap := G.out.2.2.1 v (List.mem_of_getElem? hv)
                rw [e1] at c0 hcap
                have hI := Lib.hid (Ih.out v.1 v.2.2 t wr (by omega) (by omega) hmt.1 hmt.2.1 hmt.2.2 e2 hcap)
                have hout' : Hid (out ++ grdT t = grHd x vs.length :: grCat (lOf tss) (k + 1)) := Lib.hid (by rw [hout.out, grCat_step ht, List.cons_append])
                have hol' : out.length + (grdT t).length ≤ 1000001 := by
                  have h1 := congrArg List.length hout'.out
                  rw [List.length_append, List.length_cons] at h1
                  have h2 := grCat_le (fun t ht => (Hll.out.2.2 t ht).1) (k + 1)
                  have h3 := Hll.out.2.1
                  omega
                clear hv ht e1 e2 hmt hcap
                go_wp2_with fail
                refine hI.out.mono ?_
                rintro e w5 ⟨A6, c6, rfl, hown6, hb6⟩
                replace M := Lib.hid (And.intro (OwnL.below M.out.1 hb6 (Nat.le_refl _)) (below_calls M.out.2 hb6 M.out.2.size))
                have H6 := Lib.hid (OwnL.tyA hown6)
                clear hown6 hb6 hI c0
                go_wp2_with (at_builtin; refine wpList_appN rfl (.tmp 76) (.tmp 81) rfl w1.heap.size (l := out) rfl M.out.1 (l2 := grdT t) rfl H6.out (by omega) M.out.2.size ?_; intro A7 c7 w7 hown7 hg7 _; replace M := Lib.hid (And.intro hown7 (M.out.2.trans (below_app hg7 M.out.2.size (fun a ha => (OwnL.lt M.out.1 a ha).1)))); clear hown7 hg7)
                go_roundw
                case rel => exact ⟨k + 1, A7, c7, out ++ grdT t, by simp, by go_num, hp, by simp; omega, hout', M⟩
                case measure => simp [intOf]; omega
              · have hkn : k = (lOf tss).length := by have := hnl.out; omega
                have e : out = grdT (x :: ks0) := by rw [hg.out, hout.out, hkn, grCat_end]
                have E := Lib.hid e
                clear e hkn
                go_wp2_with fail
                go_ret
                unfold RetN
                rw [← E.out]
                exact ⟨A5, c5, rfl, OwnL.lower M.out.1 G.out.2.2.2.size, G.out.2.2.2.trans (M.out.2.mono G.out.2.2.2.size)⟩
          · have M4 : Hid (OwnN (w1.alloc (.cells #[.int .i64 x.k, .string x.s, .int .i64 x.n] 48)) w1.heap.size (some ⟨w1.heap.size, 0, none⟩) 1 [grHd x vs.length] ∧ Below w1.heap.size w1 (w1.alloc (.cells #[.int .i64 x.k, .string x.s, .int .i64 x.n] 48))) := Lib.hid ⟨by
              have e : grHd x vs.length = x := by unfold grHd; rw [if_neg (by rw [hr]; simp)]
              rw [e]; exact hO.out, hB1.out⟩
            clear hr
            go_wp2_with fail
            go_loopw [7, 8] (fun s7 s8 wr => ∃ (k : Nat) (A5 : Option Addr) (c5 : Nat) (out : List Nd), s7 = .slice A5 out.length c5 ∧ s8 = .int .i64 k ∧ k ≤ vs.length ∧ out.length ≤ 1000001 ∧ Hid (out = grHd x vs.length :: grCat (lOf tss) k) ∧ Hid (OwnN wr w1.heap.size A5 c5 out ∧ Below w1.heap.size w1 wr)) (fun _ s8 _ => vs.length - (intOf s8).toNat)
            case atStart => exact ⟨0, some ⟨w1.heap.size, 0, none⟩, 1, [grHd x vs.length], rfl, rfl, Nat.zero_le _, by simp, Lib.hid (by simp [grCat]), M4⟩
            case round =>
              clear M4
              obtain ⟨k, A5, c5, out, rfl, rfl, hk, hol, hout, M⟩ := hrel
              by_cases hp : k < vs.length
              · obtain ⟨v, hv⟩ := getq_ex hp
                obtain ⟨t, ht⟩ := getq_ex (show k < (lOf tss).length by rw [← hnl.out]; exact hp)
                obtain ⟨b, o, rfl, hb, c0⟩ := ReadL.slice (ReadL.more (ReadL.below G.out.1 M.out.2) M.out.2.size) hv
                obtain ⟨e1, e2⟩ := (G.out.2.1.moreB M.out.2 M.out.2.size).2 k v t hv ht
                have hmt := Hll.out.2.2 t (List.mem_of_getElem? ht)
                have hlt : t.length ≤ ks0.length := by
                  have h1 := List.Sublist.length_le (List.sublist_flatten_of_mem (List.mem_of_getElem? ht))
                  have h2 := Hll.out.2.1
                  omega
                have hcap := G.out.2.2.1 v (List.mem_of_getElem? hv)
                rw [e1] at c0 hcap
                have hI := Lib.hid (Ih.out v.1 v.2.2 t wr (by omega) (by omega) hmt.1 hmt.2.1 hmt.2.2 e2 hcap)
                have hout' : Hid (out ++ grdT t = grHd x vs.length :: grCat (lOf tss) (k + 1)) := Lib.hid (by rw [hout.out, grCat_step ht, List.cons_append])
                have hol' : out.length + (grdT t).length ≤ 1000001 := by
                  have h1 := congrArg List.length hout'.out
                  rw [List.length_append, List.length_cons] at h1
                  have h2 := grCat_le (fun t ht => (Hll.out.2.2 t ht).1) (k + 1)
                  have h3 := Hll.out.2.1
                  omega
                clear hv ht e1 e2 hmt hcap
                go_wp2_with fail
                refine hI.out.mono ?_
                rintro e w5 ⟨A6, c6, rfl, hown6, hb6⟩
                replace M := Lib.hid (And.intro (OwnL.below M.out.1 hb6 (Nat.le_refl _)) (below_calls M.out.2 hb6 M.out.2.size))
                have H6 := Lib.hid (OwnL.tyA hown6)
                clear hown6 hb6 hI c0
                go_wp2_with (at_builtin; refine wpList_appN rfl (.tmp 76) (.tmp 81) rfl w1.heap.size (l := out) rfl M.out.1 (l2 := grdT t) rfl H6.out (by omega) M.out.2.size ?_; intro A7 c7 w7 hown7 hg7 _; replace M := Lib.hid (And.intro hown7 (M.out.2.trans (below_app hg7 M.out.2.size (fun a ha => (OwnL.lt M.out.1 a ha).1)))); clear hown7 hg7)
                go_roundw
                case rel => exact ⟨k + 1, A7, c7, out ++ grdT t, by simp, by go_num, hp, by simp; omega, hout', M⟩
                case measure => simp [intOf]; omega
              · have hkn : k = (lOf tss).length := by have := hnl.out; omega
                have e : out = grdT (x :: ks0) := by rw [hg.out, hout.out, hkn, grCat_end]
                have E := Lib.hid e
                clear e hkn
                go_wp2_with fail
                go_ret
                unfold RetN
                rw [← E.out]
                exact ⟨A5, c5, rfl, OwnL.lower M.out.1 G.out.2.2.2.size, G.out.2.2.2.trans (M.out.2.mono G.out.2.2.2.size)⟩
          · have M4 : Hid (OwnN (w1.alloc (.cells #[.int .i64 x.k, .string x.s, .int .i64 (vs.length : Int)] 48)) w1.heap.size (some ⟨w1.heap.size, 0, none⟩) 1 [grHd x vs.length] ∧ Below w1.heap.size w1 (w1.alloc (.cells #[.int .i64 x.k, .string x.s, .int .i64 (vs.length : Int)] 48))) := Lib.hid ⟨by
              have e : grHd x vs.length = ⟨x.k, x.s, (vs.length : Int)⟩ := by unfold grHd; rw [if_pos hr]
              rw [e]; exact own_one w1 ⟨x.k, x.s, (vs.length : Int)⟩, ext_alloc (Below.refl _ _) _⟩
            clear hr
            go_wp2_with fail
            go_loopw [7, 8] (fun s7 s8 wr => ∃ (k : Nat) (A5 : Option Addr) (c5 : Nat) (out : List Nd), s7 = .slice A5 out.length c5 ∧ s8 = .int .i64 k ∧ k ≤ vs.length ∧ out.length ≤ 1000001 ∧ Hid (out = grHd x vs.length :: grCat (lOf tss) k) ∧ Hid (OwnN wr w1.heap.size A5 c5 out ∧ Below w1.heap.size w1 wr)) (fun _ s8 _ => vs.length - (intOf s8).toNat)
            case atStart => exact ⟨0, some ⟨w1.heap.size, 0, none⟩, 1, [grHd x vs.length], rfl, rfl, Nat.zero_le _, by simp, Lib.hid (by simp [grCat]), M4⟩
            case round =>
              clear M4
              obtain ⟨k, A5, c5, out, rfl, rfl, hk, hol, hout, M⟩ := hrel
              by_cases hp : k < vs.length
              · obtain ⟨v, hv⟩ := getq_ex hp
                obtain ⟨t, ht⟩ := getq_ex (show k < (lOf tss).length by rw [← hnl.out]; exact hp)
                obtain ⟨b, o, rfl, hb, c0⟩ := ReadL.slice (ReadL.more (ReadL.below G.out.1 M.out.2) M.out.2.size) hv
                obtain ⟨e1, e2⟩ := (G.out.2.1.moreB M.out.2 M.out.2.size).2 k v t hv ht
                have hmt := Hll.out.2.2 t (List.mem_of_getElem? ht)
                have hlt : t.length ≤ ks0.length := by
                  have h1 := List.Sublist.length_le (List.sublist_flatten_of_mem (List.mem_of_getElem? ht))
                  have h2 := Hll.out.2.1
                  omega
                have hcap := G.out.2.2.1 v (List.mem_of_getElem? hv)
                rw [e1] at c0 hcap
                have hI := Lib.hid (Ih.out v.1 v.2.2 t wr (by omega) (by omega) hmt.1 hmt.2.1 hmt.2.2 e2 hcap)
                have hout' : Hid (out ++ grdT t = grHd x vs.length :: grCat (lOf tss) (k + 1)) := Lib.hid (by rw [hout.out, grCat_step ht, List.cons_append])
                have hol' : out.length + (grdT t).length ≤ 1000001 := by
                  have h1 := congrArg List.length hout'.out
                  rw [List.length_append, List.length_cons] at h1
                  have h2 := grCat_le (fun t ht => (Hll.out.2.2 t ht).1) (k + 1)
                  have h3 := Hll.out.2.1
                  omega
                clear hv ht e1 e2 hmt hcap
                go_wp2_with fail
                refine hI.out.mono ?_
                rintro e w5 ⟨A6, c6, rfl, hown6, hb6⟩
                replace M := Lib.hid (And.intro (OwnL.below M.out.1 hb6 (Nat.le_refl _)) (below_calls M.out.2 hb6 M.out.2.size))
                have H6 := Lib.hid (OwnL.tyA hown6)
                clear hown6 hb6 hI c0
                go_wp2_with (at_builtin; refine wpList_appN rfl (.tmp 76) (.tmp 81) rfl w1.heap.size (l := out) rfl M.out.1 (l2 := grdT t) rfl H6.out (by omega) M.out.2.size ?_; intro A7 c7 w7 hown7 hg7 _; replace M := Lib.hid (And.intro hown7 (M.out.2.trans (below_app hg7 M.out.2.size (fun a ha => (OwnL.lt M.out.1 a ha).1)))); clear hown7 hg7)
                go_roundw
                case rel => exact ⟨k + 1, A7, c7, out ++ grdT t, by simp, by go_num, hp, by simp; omega, hout', M⟩
                case measure => simp [intOf]; omega
              · have hkn : k = (lOf tss).length := by have := hnl.out; omega
                have e : out = grdT (x :: ks0) := by rw [hg.out, hout.out, hkn, grCat_end]
                have E := Lib.hid e
                clear e hkn
                go_wp2_with fail
                go_ret
                unfold RetN
                rw [← E.out]
                exact ⟨A5, c5, rfl, OwnL.lower M.out.1 G.out.2.2.2.size, G.out.2.2.2.trans (M.out.2.mono G.out.2.2.2.size)⟩
      · have H8 := Lib.hid h8
        go_wp2_with fail
        go_ret
        have e : grdT (x :: ks0) = [⟨4, x.s, 0⟩] := by rw [hgc.out, if_pos (.inl (by simpa using H8.out))]
        unfold RetN
        rw [e]
        exact ⟨_, _, rfl, (own_one w ⟨4, x.s, 0⟩), ext_alloc (Below.refl _ _) _⟩

end Go.Proofs.Ytblfeokjlecgkaa

/- Rows that grow side by side: a row of types and a row of labels, and what lies beside them. -/
namespace Go.Proofs.Ytblfeokjlecgkaa
open Go.RowKit







theorem encT_one (s : ByteArray) : ∀ u ∈ encT s, u.oneCell' = true := by
  intro u hu
  simp [encT] at hu
  subst hu
  rfl
theorem infoS : (Try.prog.info? 9).map (fun i => (i.zero, i.size, i.bytes)) = some (some (.string ByteArray.empty), 1, 16) := by kernel_rfl
abbrev OwnT (w : World) (base : Nat) (A : Option Addr) (cap : Nat) (l : List ByteArray) : Prop := OwnL 9 1 encT w base A cap l

theorem readT_new (w : World) (s : ByteArray) : ReadT (w.alloc (.cells #[.string s] 9)) (w.heap.size + 1) (some ⟨w.heap.size, 0, none⟩) [s] := fun _ => by
  refine ⟨w.heap.size, 0, rfl, by omega, fun i x hx j u hu => ?_⟩
  match i, hx with
  | 0, hx =>
    simp at hx
    subst hx
    match j, hu with
    | 0, hu => simp [encT] at hu; subst hu; simp
    | j + 1, hu => simp [encT] at hu
  | i + 1, hx => simp at hx

section
variable {w : World} {ops : Array Oper} {rest : List Oper} {o : Oper} {a : Act} {Q : Exit → Act → World → Prop}
theorem wpList_appT (hgd : o.guard = none) (s x : Operand)
    (ho : o.op = .call { callee := .builtin .append, args := #[s, x], argTypes := #[95, 95] })
    (base : Nat) {A : Option Addr} {cap : Nat} {l : List ByteArray} (hs : a.eval s = .slice A l.length cap) (hown : OwnT w base A cap l) {B : Nat} {A2 : Option Addr} {c : Nat} {l2 : List ByteArray} (hx : a.eval x = .slice A2 l2.length c) (hr : ReadT w B A2 l2)
    (hlen : l.length + l2.length ≤ 10000000) (hbase : base ≤ w.heap.size)
    (h : ∀ A' cap' w', OwnT w' base A' cap' (l ++ l2) → w.grownBy w' ((Value.slice A l.length cap).ownBlock) →
      ((Value.slice A' (l.length + l2.length) cap').ownBlock = (Value.slice A l.length cap).ownBlock ∨ (Value.slice A' (l.length + l2.length) cap').ownBlock = some w.heap.size) → wpList Try.prog ops Q rest (a.put o.dst (.slice A' (l.length + l2.length) cap')) w') : wpList Try.prog ops Q (o :: rest) a w := by
  obtain ⟨i0, hi, hz0, hz1, hz2⟩ := info_parts infoS
  exact wpList_app w encT_len encT_one hgd s x 95 ho base 9 i0 _ 16 Try.underlying95 hi hz0 hz1 hz2 rfl (by decide) hs hown hx hr (by unfold maxLen; omega) (by omega) hbase h
end

structure StQ (w0 : World) (A0 : Option Addr) (T : List Nd) (K : Option Addr) (ck : Nat) (kl : List Int) (V : Option Addr) (cv : Nat) (vs : List (Option Addr × Nat × Nat)) (ps : List (List Nd)) (L : Option Addr) (cl : Nat) (ls : List ByteArray) (w : World) : Prop where
  ext : Below w0.heap.size w0 w
  t : TyA w w0.heap.size A0 T
  k : OwnI w w0.heap.size K ck kl
  v : OwnS w w0.heap.size V cv vs
  l : OwnT w w0.heap.size L cl ls
  s : Sls w w.heap.size vs ps
  b : ∀ q ∈ vs, ∀ a, q.1 = some a → a.block < w.heap.size
  vl : Off V L
  vk : Off V K
  lk : Off L K
  ov : ∀ q ∈ vs, Off V q.1
  ol : ∀ q ∈ vs, Off L q.1

section
variable {w0 w w' : World} {A0 K V V' L L' Aq : Option Addr} {T P : List Nd} {ck cv cv' cl cl' cq n' : Nat} {kl : List Int} {vs : List (Option Addr × Nat × Nat)} {ps : List (List Nd)} {ls : List ByteArray} {s : ByteArray}

theorem StQ.step (h : StQ w0 A0 T K ck kl V cv vs ps L cl ls w) (hb : Below w.heap.size w w') : StQ w0 A0 T K ck kl V cv vs ps L cl ls w' where
  ext := ext_trans h.ext hb
  t := h.t.below (hb.mono h.ext.size)
  k := h.k.below hb (Nat.le_refl _)
  v := h.v.below hb (Nat.le_refl _)
  l := h.l.below hb (Nat.le_refl _)
  s := ⟨h.s.1, fun i q xs hq hx => ⟨(h.s.2 i q xs hq hx).1, ((h.s.2 i q xs hq hx).2.below hb).more hb.size⟩⟩
  b := fun q hq a ha => Nat.lt_of_lt_of_le (h.b q hq a ha) hb.size
  vl := h.vl
  vk := h.vk
  lk := h.lk
  ov := h.ov
  ol := h.ol

structure PartQ (w : World) (V L Aq : Option Addr) (P : List Nd) : Prop where
  t : TyA w w.heap.size Aq P
  ov : Off V Aq
  ol : Off L Aq
  b : ∀ a, Aq = some a → a.block < w.heap.size

theorem PartQ.step (h : PartQ w V L Aq P) (hb : Below w.heap.size w w') : PartQ w' V L Aq P :=
  ⟨(h.t.below hb).more hb.size, h.ov, h.ol, fun a ha => Nat.lt_of_lt_of_le (h.b a ha) hb.size⟩

theorem StQ.part (h : StQ w0 A0 T K ck kl V cv vs ps L cl ls w) (ho : OwnN w' w.heap.size Aq cq P) : PartQ w' V L Aq P :=
  ⟨OwnL.tyA ho, fun a b ha hb e => by have h1 := (OwnL.lt h.v a ha).2; have h2 := (OwnL.lt ho b hb).1; omega, fun a b ha hb e => by have h1 := (OwnL.lt h.l a ha).2; have h2 := (OwnL.lt ho b hb).1; omega, fun a ha => (OwnL.lt ho a ha).2⟩



theorem StQ.appV (h : StQ w0 A0 T K ck kl V cv vs ps L cl ls w) (hp : PartQ w V L Aq P) (hg : w.grownBy w' ((Value.slice V vs.length cv).ownBlock)) (ho : OwnS w' w0.heap.size V' cv' (vs ++ [(Aq, P.length, cq)]))
    (hA : (Value.slice V' n' cv').ownBlock = (Value.slice V vs.length cv).ownBlock ∨ (Value.slice V' n' cv').ownBlock = some w.heap.size) : StQ w0 A0 T K ck kl V' cv' (vs ++ [(Aq, P.length, cq)]) (ps ++ [P]) L cl ls w' where
  ext := ext_app h.ext hg fun k hk => (OwnL.block h.v k hk).1
  t := h.t.below (below_app hg h.ext.size fun a ha => (OwnL.lt h.v a ha).1)
  k := kept_off h.k hg h.vk
  v := ho
  l := kept_off h.l hg h.vl
  s := ⟨by simp [h.s.1], fun i q xs hq hx => by
    by_cases hi : i < vs.length
    · rw [List.getElem?_append_left hi] at hq
      rw [List.getElem?_append_left (by rw [← h.s.1]; exact hi)] at hx
      obtain ⟨h1, h2⟩ := h.s.2 i q xs hq hx
      exact ⟨h1, (h2.grown (Nat.le_refl _) hg (h.ov q (List.mem_of_getElem? hq))).more hg.size⟩
    · rw [List.getElem?_append_right (by omega)] at hq
      rw [List.getElem?_append_right (by rw [← h.s.1]; omega), ← h.s.1] at hx
      have hi0 : i - vs.length = 0 := by have := getq_lt hq; simpa using this
      rw [hi0] at hq hx
      simp at hq hx
      subst hq hx
      exact ⟨rfl, (hp.t.grown (Nat.le_refl _) hg hp.ov).more hg.size⟩⟩
  b := fun q hq a ha => by
    rcases List.mem_append.1 hq with hq | hq
    · exact Nat.lt_of_lt_of_le (h.b q hq a ha) hg.size
    · rw [List.mem_singleton.1 hq] at ha
      exact Nat.lt_of_lt_of_le (hp.b a ha) hg.size
  vl := h.vl.app hA fun x hx => (OwnL.lt h.l x hx).2
  vk := h.vk.app hA fun x hx => (OwnL.lt h.k x hx).2
  lk := h.lk
  ov := fun q hq => by
    rcases List.mem_append.1 hq with hq | hq
    · exact (h.ov q hq).app hA (h.b q hq)
    · rw [List.mem_singleton.1 hq]
      exact hp.ov.app hA hp.b
  ol := fun q hq => by
    rcases List.mem_append.1 hq with hq | hq
    · exact h.ol q hq
    · rw [List.mem_singleton.1 hq]
      exact hp.ol

theorem StQ.appL (h : StQ w0 A0 T K ck kl V cv vs ps L cl ls w) (hg : w.grownBy w' ((Value.slice L ls.length cl).ownBlock)) (ho : OwnT w' w0.heap.size L' cl' (ls ++ [s]))
    (hA : (Value.slice L' n' cl').ownBlock = (Value.slice L ls.length cl).ownBlock ∨ (Value.slice L' n' cl').ownBlock = some w.heap.size) : StQ w0 A0 T K ck kl V cv vs ps L' cl' (ls ++ [s]) w' where
  ext := ext_app h.ext hg fun k hk => (OwnL.block h.l k hk).1
  t := h.t.below (below_app hg h.ext.size fun a ha => (OwnL.lt h.l a ha).1)
  k := kept_off h.k hg h.lk
  v := kept_off h.v hg h.vl.symm
  l := ho
  s := ⟨h.s.1, fun i q xs hq hx => ⟨(h.s.2 i q xs hq hx).1, ((h.s.2 i q xs hq hx).2.grown (Nat.le_refl _) hg (h.ol q (List.mem_of_getElem? hq))).more hg.size⟩⟩
  b := fun q hq a ha => Nat.lt_of_lt_of_le (h.b q hq a ha) hg.size
  vl := (h.vl.symm.app hA fun x hx => (OwnL.lt h.v x hx).2).symm
  vk := h.vk
  lk := h.lk.app hA fun x hx => (OwnL.lt h.k x hx).2
  ov := h.ov
  ol := fun q hq => (h.ol q hq).app hA (h.b q hq)
end
end Go.Proofs.Ytblfeokjlecgkaa

/- leavenref07: kids, alike, Agree, Plain, walked. -/
namespace Go.Proofs.Ytblfeokjlecgkaa
open Go.RowKit

theorem bareN_kids {t : List Nd} : kidsL (bareN t) = kidsL t ∧ (headNd (bareN t)).k = (headNd t).k := by
  cases t with
  | nil => exact ⟨rfl, rfl⟩
  | cons x ks => exact ⟨rfl, rfl⟩
theorem agG_bare : ∀ (f : Nat) (a b : List Nd), agG f (bareN a) (bareN b) = agG f a b
  | 0, _, _ => rfl
  | f + 1, a, b => by
    unfold agG
    rw [bareN_kids.1, bareN_kids.1, bareN_kids.2, bareN_kids.2]
theorem kidsL_len {a t : List Nd} (h : t ∈ kidsL a) : t.length < a.length := by
  cases a with
  | nil => simp [kidsL] at h
  | cons x ks =>
    have := splitF_mem (manyN x) ks t h
    simp only [List.length_cons]
    omega
theorem kidsL_fo {a t : List Nd} (ha : Fo 1 a) (h : t ∈ kidsL a) : Fo 1 t := by
  cases a with
  | nil => simp [kidsL] at h
  | cons x ks =>
    obtain ⟨k1, rs, e, h1, h2⟩ := ha.uncons
    rw [h2.of_zero, List.append_nil] at e
    subst e
    exact (trees_of h1).one t h
theorem agG_fuel : ∀ (f g : Nat) (a b : List Nd), a.length ≤ f → a.length ≤ g → Fo 1 a → agG f a b = agG g a b := by
  intro f
  induction f with
  | zero => intro g a b h _ h0; have := h0.pos; omega
  | succ f ih =>
    intro g a b hf hg h0
    obtain ⟨g, rfl⟩ : ∃ g', g = g' + 1 := ⟨g - 1, by have := h0.pos; omega⟩
    unfold agG
    split
    · rfl
    · split
      · rfl
      · congr 1
        have : ∀ p ∈ (kidsL a).zip (kidsL b), agG f p.1 p.2 = agG g p.1 p.2 := fun p hp => by
          have h1 := (List.of_mem_zip hp).1
          have h2 := kidsL_len h1
          exact ih g p.1 p.2 (by omega) (by omega) (kidsL_fo h0 h1)
        rw [Bool.eq_iff_iff, List.all_eq_true, List.all_eq_true]
        exact ⟨fun h p hp => by rw [← this p hp]; exact h p hp, fun h p hp => by rw [this p hp]; exact h p hp⟩
structure TrW (T : List Nd) : Prop where
  fo : Fo 1 T
  ok : okAll T
theorem TrW.kid {T t : List Nd} (h : TrW T) (ht : t ∈ kidsL T) : TrW t := by
  refine ⟨kidsL_fo h.fo ht, fun y hy => h.ok y ?_⟩
  cases T with
  | nil => simp [kidsL] at ht
  | cons x ks =>
    obtain ⟨k1, rs, e, h1, h2⟩ := h.fo.uncons
    rw [h2.of_zero, List.append_nil] at e
    subst e
    have := (trees_of h1).flat
    refine List.mem_cons_of_mem _ ?_
    rw [← this]
    exact List.mem_flatten.2 ⟨t, ht, hy⟩
theorem TrW.bare {T : List Nd} (h : TrW T) : TrW (bareN T) := by
  cases T with
  | nil => exact h
  | cons x ks => exact ⟨h.fo, fun y hy => by
      rcases List.mem_cons.1 hy with rfl | hy
      · exact h.ok x (by simp)
      · exact h.ok y (by simp [hy])⟩
theorem TrW.fifty {T : List Nd} (h : TrW T) : (kidsL T).length ≤ 50 := by
  cases T with
  | nil => exact Nat.zero_le _
  | cons x ks =>
    obtain ⟨k1, rs, e, h1, h2⟩ := h.fo.uncons
    rw [h2.of_zero, List.append_nil] at e
    subst e
    have := (trees_of h1).len
    show (splitF (manyN x) ks).length ≤ 50
    rw [this]
    exact manyN_le (h.ok x (by simp))
theorem GdT.trw {T : List Nd} (h : GdT T) : TrW T := ⟨h.fo1, h.okAll⟩
theorem kidsR_zero {x : Nd} {ks : List Nd} : kidsR (x :: ks) 0 = kidsGo (x :: ks) (manyN x) 1 := rfl

def Kids07 (T : List Nd) (w : World) (e : Ending) (w' : World) : Prop :=
  ∃ (V : Option Addr) (cv : Nat) (vs : List (Option Addr × Nat × Nat)) (L : Option Addr) (cl : Nat), e = .returned (.tuple #[.slice V vs.length cv, .slice L (kidsL T).length cl]) ∧ ReadS w' w'.heap.size V vs ∧ Sls w' w'.heap.size vs ((kidsL T).map bareN) ∧ ReadT w' w'.heap.size L (labsT (kidsL T)) ∧ (∀ v ∈ vs, v.2.1 ≤ v.2.2) ∧ Below w.heap.size w w'

set_option maxRecDepth 100000 in
set_option maxHeartbeats 4000000 in
theorem kids07_any (A : Option Addr) (c : Nat) (T : List Nd) (w : World) (ha : TyA w w.heap.size A T) (hT : TrW T) (hl : T.length ≤ 100000) (hc : T.length ≤ c) :
    Calls Try.prog 60 #[.slice A T.length c] w (Kids07 T w) := by
  obtain ⟨x, ks, rfl⟩ : ∃ x ks, T = x :: ks := by
    have := hT.fo.pos
    cases T with
    | nil => simp at this
    | cons x ks => exact ⟨x, ks, rfl⟩
  have htr : Trees (manyN x) ks (kidsL (x :: ks)) := by
    obtain ⟨k1, rs, e, h1, h2⟩ := hT.fo.uncons
    rw [h2.of_zero, List.append_nil] at e
    subst e
    exact trees_of h1
  have h50 : (kidsL (x :: ks)).length ≤ 50 := by rw [htr.len]; exact manyN_le (hT.ok x (by simp))
  obtain ⟨q1, q2⟩ := kidsGo_at (T := x :: ks) (kidsL (x :: ks)) 1 [] (by rw [htr.flat]; simp) fun z hz => ⟨kidsL_fo hT.fo hz, (hT.kid hz).ok⟩
  rw [htr.len] at q1 q2
  rw [← kidsR_zero] at q1 q2
  have hK := Lib.hid fun W (hW : Below w.heap.size w W) => rKids_any A c (x :: ks) 0 W ((ha.below hW).more hW.size) (by omega) hT.ok
  have HA := Lib.hid (And.intro ha hT)
  have HQ := Lib.hid (And.intro q1 (And.intro q2 htr.len))
  obtain ⟨b1, o1, rfl, hb1, _⟩ := ha (by simp)
  clear ha hT htr q1 q2
  obtain ⟨T, hTd⟩ : ∃ T, T = x :: ks := ⟨_, rfl⟩
  rw [← hTd] at HA HQ hK hl hc h50 ⊢
  have HTd := Lib.hid hTd
  clear hTd
  have hown0 := Lib.hid (own_empty 34 1 encS w)
  have hown1 := Lib.hid (own_empty 9 1 encT (w.alloc (.cells #[] 34)))
  have hbe := Lib.hid (ext_alloc (ext_alloc (Below.refl w.heap.size w) (.cells #[] 34)) (.cells #[] 9))
  go_enter Try.func60, Try.ntmps60
  go_wp2_with fail
  refine (hK.out _ hbe.out).mono ?_
  clear hK
  rintro e w1 ⟨K, ck, rfl, hok, hb⟩
  have hkl : (asI (kidsR T 0)).length = (kidsL T).length := by rw [asI, List.length_map, HQ.out.1, HQ.out.2.2]
  have S0 : Hid (StQ w (some ⟨b1, o1, none⟩) T K ck (asI (kidsR T 0)) (some ⟨w.heap.size, 0, none⟩) 0 [] [] (some ⟨w.heap.size + 1, 0, none⟩) 0 [] w1) := Lib.hid (by
    have h0 := OwnL.below (OwnL.alloc hown0.out (.cells #[] 9)) hb (by simp)
    have h1 := OwnL.below hown1.out hb (by simp)
    simp only [World.size_alloc] at h1 hok
    refine ⟨ext_trans hbe.out hb, HA.out.1.below (ext_trans hbe.out hb), hok.lower (by omega), h0, h1.lower (by omega), ⟨rfl, fun i q xs hq => by simp at hq⟩, fun q hq => (by cases hq), ?_, ?_, ?_, fun q hq => (by cases hq), fun q hq => (by cases hq)⟩
    · intro a b ha hb e; injection ha with ha; injection hb with hb; subst ha hb; simp at e
    · intro a b ha hb e; injection ha with ha; subst ha; have := (OwnL.lt hok b hb).1; have e : w.heap.size = b.block := e; omega
    · intro a b ha hb e; injection ha with ha; subst ha; have := (OwnL.lt hok b hb).1; have e : w.heap.size + 1 = b.block := e; omega)
  obtain ⟨kl, hkl0⟩ : ∃ kl, kl = asI (kidsR T 0) := ⟨_, rfl⟩
  rw [← hkl0] at hkl S0 ⊢
  have HKL := Lib.hid (fun (j p : Nat) (h : (kidsR T 0)[j]? = some p) => (show kl[j]? = some (p : Int) by rw [hkl0, asI, List.getElem?_map, h]; rfl))
  rw [hkl]
  clear hkl hkl0 hok hb hown0 hown1 hbe
  go_wp2_with fail
  go_loopw [4, 5, 7] (fun s4 s5 s7 wr => ∃ (k : Nat) (V : Option Addr) (cv : Nat) (vs : List (Option Addr × Nat × Nat)) (L : Option Addr) (cl : Nat) (ls : List ByteArray), s4 = .slice V vs.length cv ∧ s5 = .slice L ls.length cl ∧ s7 = .int .i64 k ∧ k ≤ (kidsL T).length ∧ Hid (vs.length = k ∧ ls = labsT ((kidsL T).take k) ∧ ls.length = k) ∧ Hid (StQ w (some ⟨b1, o1, none⟩) T K ck kl V cv vs (((kidsL T).take k).map bareN) L cl ls wr ∧ ∀ v ∈ vs, v.2.1 ≤ v.2.2)) (fun _ _ s7 _ => (kidsL T).length - (intOf s7).toNat)
  case atStart => exact ⟨0, _, 0, [], _, 0, [], rfl, rfl, rfl, Nat.zero_le _, Lib.hid ⟨rfl, rfl, rfl⟩, Lib.hid ⟨S0.out, fun v hv => by cases hv⟩⟩
  case round =>
    clear S0
    obtain ⟨k, V, cv, vs, L, cl, ls, rfl, rfl, rfl, hk, HL, M⟩ := hrel
    by_cases hp : k < (kidsL T).length
    · obtain ⟨ts, hts⟩ := getq_ex hp
      obtain ⟨p, r2, hkp, hdp⟩ := HQ.out.2.1 k ts hts
      have hmem := List.mem_of_getElem? hts
      have hkid := HA.out.2.kid hmem
      obtain ⟨bk, ok, rfl, hbk, hck⟩ := ReadL.int (OwnL.read encI_len M.out.1.k) (HKL.out k p hkp)
      have hsz := M.out.1.ext.size
      have hpart := Lib.hid (rPart_any (some ⟨b1, o1, none⟩) c T ts r2 p wr (M.out.1.t.more hsz) (by omega) hc hdp hkid.ok HA.out.2.ok hkid.fo)
      have hyp : T[p]? = some (headNd ts) := by
        have := congrArg (·[0]?) hdp
        simp only [List.getElem?_drop, Nat.add_zero] at this
        have hpos := hkid.fo.pos
        rw [this]
        cases ts with
        | nil => simp at hpos
        | cons y ys => rfl
      have Hyp := Lib.hid hyp
      have hpT := getq_lt hyp
      have hp0 : (0 : Int) ≤ (p : Int) := by omega
      have hp1 : (p : Int) < (T.length : Int) := by omega
      have Hts := Lib.hid hts
      have HKP := Lib.hid hkp
      have hvl : vs.length ≤ 100 := by have := HL.out.1; omega
      have hll : ls.length ≤ 100 := by have := HL.out.2.2; omega
      clear hts hkp hdp hmem hkid hyp
      go_wp2_with fail
      refine hpart.out.mono ?_
      clear hpart
      rintro e w5 ⟨Aq, cq, rfl, hoq, hbq⟩
      have hcap := Lib.hid (OwnL.le_cap hoq)
      have PQ := Lib.hid (M.out.1.part hoq)
      have S5 := Lib.hid (M.out.1.step hbq)
      obtain ⟨P, hP⟩ : ∃ P, P = bareN ts := ⟨_, rfl⟩
      rw [← hP] at PQ hcap ⊢
      have HP := Lib.hid hP
      have HV := Lib.hid M.out.2
      have HKp := Lib.hid (HKL.out k p HKP.out)
      have hbw5 : bk < w5.heap.size := Nat.lt_of_lt_of_le hbk hbq.size
      clear hoq hbq hP M hck
      go_wp2_with (first
        | (at_builtin; refine wpList_appS rfl (.tmp 18) (.tmp 25) rfl w.heap.size (l := vs) rfl (OwnL.alloc S5.out.v _) (l2 := [(Aq, P.length, cq)]) rfl (readS_new _ (Aq, P.length, cq)) (by simp; omega) (by have := S5.out.ext.size; simp; omega) ?_; intro V2 cv2 w8 hown8 hg8 hA8; have S6 := Lib.hid (StQ.appV (S5.out.step (ext_alloc (Below.refl _ _) _)) (PQ.out.step (ext_alloc (Below.refl _ _) _)) hg8 hown8 hA8); obtain ⟨bk6, ok6, eK, hbk6, hck6⟩ := ReadL.int (OwnL.read encI_len S6.out.k) HKp.out; injection eK with eK; injection eK with eK1 eK2 _; subst eK1 eK2; obtain ⟨hbT, c10, c11, c12⟩ := (S6.out.t.more S6.out.ext.size).cells Hyp.out; clear hown8 hg8 hA8)
        | (at_builtin; refine wpList_appT rfl (.tmp 27) (.tmp 36) rfl w.heap.size (l := ls) rfl (OwnL.alloc S6.out.l _) (l2 := [(headNd ts).s]) rfl (readT_new _ (headNd ts).s) (by simp; omega) (by have := S6.out.ext.size; simp; omega) ?_; intro L2 cl2 w9 hown9 hg9 hA9; have S7 := Lib.hid (StQ.appL (S6.out.step (ext_alloc (Below.refl _ _) _)) hg9 hown9 hA9); clear c10 c11 c12 hck6 hown9 hg9 hA9))
      go_roundw
      case rel =>
        refine ⟨k + 1, V2, cv2, vs ++ [(Aq, P.length, cq)], L2, cl2, ls ++ [(headNd ts).s], by simp, by simp, by go_num, hp, Lib.hid ⟨by simp [HL.out.1], ?_, by simp [HL.out.2.2]⟩, Lib.hid ⟨?_, fun v hv => ?_⟩⟩
        · rw [HL.out.2.1, List.take_add_one, Hts.out]; simp [labsT]
        · rw [List.take_add_one, Hts.out, List.map_append]
          have h := S7.out
          rw [HP.out] at h ⊢
          exact h
        · rcases List.mem_append.1 hv with hv | hv
          · exact HV.out v hv
          · rw [List.mem_singleton.1 hv]; exact hcap.out
      case measure => simp [intOf]; omega
    · have e1 : (kidsL T).take k = kidsL T := List.take_of_length_le (by omega)
      rw [e1] at HL M
      have hkk : Hid (ls.length = (kidsL T).length) := Lib.hid (by have := HL.out.2.2; omega)
      go_wp2_with fail
      go_ret2
      unfold Kids07
      rw [← hkk.out]
      refine ⟨V, cv, vs, L, cl, rfl, OwnL.read encS_len M.out.1.v, M.out.1.s, ?_, M.out.2, M.out.1.ext⟩
      rw [← HL.out.2.1]
      exact OwnL.read encT_len M.out.1.l

theorem labs_ne {l : List Lb} {l2 : List Lb} {i : Nat} {a b : Lb} (h1 : l[i]? = some a) (h2 : l2[i]? = some b) (h : a ≠ b) : l ≠ l2 := by
  rintro rfl
  rw [h1] at h2
  injection h2 with h2
  exact h h2
theorem str_ne {a b : ByteArray} (h : a ≠ b) : (a.toList != b.toList) = true := by
  rw [bne_iff_ne]
  intro e
  apply h
  rw [ByteArray.toList_eq, ByteArray.toList_eq] at e
  cases a; cases b
  simp only at e
  congr
  exact Array.toList_inj.1 e
theorem bel_drewN (w : World) (n : Nat) : Below w.heap.size w (w.drewN n) := ((Fr.refl (fun _ => False) w).drewN n).toBelow fun _ e => e.elim
def alikeB (a b : List Nd) : Bool := decide ((headNd a).k = (headNd b).k) && decide (labsT (kidsL a) = labsT (kidsL b))

set_option maxRecDepth 100000 in
set_option maxHeartbeats 4000000 in
theorem alike_any (A B : Option Addr) (c d : Nat) (a b : List Nd) (w : World) (ha : TyA w w.heap.size A a) (hb : TyA w w.heap.size B b) (ta : TrW a) (tb : TrW b) (la : a.length ≤ 100000) (lb : b.length ≤ 100000) (lc : a.length ≤ c) (ld : b.length ≤ d) :
    Calls Try.prog 59 #[.slice A a.length c, .slice B b.length d] w fun e w' => e = .returned (.bool (alikeB a b)) ∧ Below w.heap.size w w' := by
  have hxa : a[0]? = some (headNd a) := by
    have := ta.fo.pos
    cases a with
    | nil => simp at this
    | cons x ks => rfl
  have hxb : b[0]? = some (headNd b) := by
    have := tb.fo.pos
    cases b with
    | nil => simp at this
    | cons x ks => rfl
  have ka := Lib.hid fun W (hW : Below w.heap.size w W) => kids07_any A c a W ((ha.below hW).more hW.size) ta la lc
  have kb := Lib.hid fun W (hW : Below w.heap.size w W) => kids07_any B d b W ((hb.below hW).more hW.size) tb lb ld
  have h50 := ta.fifty
  have p1 := getq_lt hxa
  have p2 := getq_lt hxb
  obtain ⟨b1, o1, rfl, hb1, c10, _, _⟩ := ha.at_ hxa
  obtain ⟨b2, o2, rfl, hb2, d10, _, _⟩ := hb.at_ hxb
  simp only [Nat.zero_mul, Nat.add_zero] at c10 d10
  clear ha hb ta tb hxa hxb
  go_enter Try.func59, Try.ntmps59
  cases hk : ((headNd a).k != (headNd b).k) with
  | true =>
    have HK : Hid ((headNd a).k ≠ (headNd b).k) := Lib.hid (by simpa using hk)
    go_wp2_with fail
    go_quiet (fail)
    go_wp2_with fail
    go_ret
    exact ⟨ret_bool (by unfold alikeB; rw [decide_eq_false HK.out]; rfl), bel_drewN _ _⟩
  | false =>
    have HK : Hid ((headNd a).k = (headNd b).k) := Lib.hid (by simpa using hk)
    have HAB : Hid (alikeB a b = decide (labsT (kidsL a) = labsT (kidsL b))) := Lib.hid (by unfold alikeB; rw [decide_eq_true HK.out]; rfl)
    go_wp2_with fail
    go_quiet (fail)
    go_wp2_with fail
    refine (ka.out _ (bel_drewN _ _)).mono ?_
    clear ka
    rintro e w1 ⟨V1, cv1, vs1, L1, cl1, rfl, r1, s1, l1, q1, hb⟩
    have G1 := Lib.hid (And.intro (ext_trans (bel_drewN _ _) hb) l1)
    clear r1 s1 l1 q1 hb
    go_wp2_with fail
    refine (kb.out _ G1.out.1).mono ?_
    clear kb
    rintro e w2 ⟨V2, cv2, vs2, L2, cl2, rfl, r2, s2, l2, q2, hb⟩
    have G2 := Lib.hid (And.intro (ext_trans G1.out.1 hb) (And.intro ((ReadL.below G1.out.2 hb).more hb.size) l2))
    clear r2 s2 l2 q2 hb c10 d10
    obtain ⟨la1, hla⟩ : ∃ l, l = labsT (kidsL a) := ⟨_, rfl⟩
    obtain ⟨lb1, hlb⟩ : ∃ l, l = labsT (kidsL b) := ⟨_, rfl⟩
    have ea : (kidsL a).length = la1.length := by rw [hla, labsT_length]
    have eb : (kidsL b).length = lb1.length := by rw [hlb, labsT_length]
    rw [← hla, ← hlb] at G2 HAB
    rw [ea] at h50
    rw [ea, eb]
    clear hla hlb ea eb
    cases hn : ((la1.length : Int) != (lb1.length : Int)) with
    | true =>
      have HN : Hid (la1.length ≠ lb1.length) := Lib.hid (by
        have h : (la1.length : Int) ≠ (lb1.length : Int) := by simpa using hn
        omega)
      go_wp2_with fail
      go_ret
      exact ⟨ret_bool (by rw [HAB.out, decide_eq_false (fun e => HN.out (by rw [e]))]), G2.out.1⟩
    | false =>
      have HN : Hid (la1.length = lb1.length) := Lib.hid (by
        have h : (la1.length : Int) = (lb1.length : Int) := by simpa using hn
        omega)
      go_wp2_with fail
      go_loopw [9] (fun s9 wr => ∃ i : Nat, s9 = .int .i64 i ∧ i ≤ la1.length ∧ Hid (Below w2.heap.size w2 wr ∧ la1.take i = lb1.take i)) (fun s9 _ => la1.length - (intOf s9).toNat)
      case atStart => exact ⟨0, rfl, Nat.zero_le _, Lib.hid ⟨Below.refl _ _, rfl⟩⟩
      case round =>
        obtain ⟨i, rfl, hi, M⟩ := hrel
        by_cases hp : i < la1.length
        · obtain ⟨x, hx⟩ := getq_ex hp
          obtain ⟨y, hy⟩ := getq_ex (show i < lb1.length by rw [← HN.out]; exact hp)
          have hp2 : i < lb1.length := getq_lt hy
          obtain ⟨g1, o3, rfl, _, k1⟩ := ReadL.str ((G2.out.2.1.below M.out.1).more M.out.1.size) hx
          obtain ⟨g2, o4, rfl, _, k2⟩ := ReadL.str ((G2.out.2.2.below M.out.1).more M.out.1.size) hy
          have Hxy := Lib.hid (And.intro hx hy)
          clear hx hy
          cases hs : (x.toList == y.toList) with
          | false =>
            have HS : Hid (x ≠ y) := Lib.hid (by rintro rfl; simp at hs)
            have hs2 : (x.toList != y.toList) = true := by unfold bne; rw [hs]; rfl
            go_wp2_with fail
            go_quiet (fail)
            go_wp2_with fail
            go_ret
            refine ⟨ret_bool (by rw [HAB.out, decide_eq_false (labs_ne Hxy.out.1 Hxy.out.2 HS.out)]), ?_⟩
            exact ext_trans (ext_trans G2.out.1 M.out.1) (bel_drewN _ _)
          | true =>
            have HS : Hid (x = y) := Lib.hid (Classical.byContradiction fun h => by have := str_ne h; unfold bne at this; rw [hs] at this; cases this)
            have hs2 : (x.toList != y.toList) = false := by unfold bne; rw [hs]; rfl
            go_wp2_with fail
            go_quiet (fail)
            go_wp2_with fail
            go_roundw
            case rel => exact ⟨i + 1, by go_num, hp, Lib.hid ⟨ext_trans M.out.1 (bel_drewN _ _), by rw [List.take_add_one, List.take_add_one, Hxy.out.1, Hxy.out.2, M.out.2, HS.out]⟩⟩
            case measure => simp [intOf]; omega
        · have e1 : Hid (la1 = lb1) := Lib.hid (by
            have := M.out.2
            rw [List.take_of_length_le (by omega), List.take_of_length_le (by have := HN.out; omega)] at this
            exact this)
          go_wp2_with fail
          go_ret
          refine ⟨ret_bool (by rw [HAB.out, decide_eq_true e1.out]), ?_⟩
          exact ext_trans G2.out.1 M.out.1

theorem agG_split {a b : List Nd} (ta : TrW a) (h0 : ¬ ((headNd a).k = 0 ∨ (headNd b).k = 0)) : agG a.length a b = (alikeB a b && ((kidsL a).zip (kidsL b)).all fun p => agG p.1.length p.1 p.2) := by
  obtain ⟨f, hf⟩ : ∃ f, a.length = f + 1 := ⟨a.length - 1, by have := ta.fo.pos; omega⟩
  have e : agG (f + 1) a b = if (headNd a).k = 0 ∨ (headNd b).k = 0 then true else if (headNd a).k ≠ (headNd b).k then false else decide (labsT (kidsL a) = labsT (kidsL b)) && ((kidsL a).zip (kidsL b)).all fun p => agG f p.1 p.2 := rfl
  have this : ∀ p ∈ (kidsL a).zip (kidsL b), agG f p.1 p.2 = agG p.1.length p.1 p.2 := fun p hp => by
    have h1 := (List.of_mem_zip hp).1
    have h2 := kidsL_len h1
    exact agG_fuel _ _ _ _ (by omega) (Nat.le_refl _) (kidsL_fo ta.fo h1)
  have e2 : (((kidsL a).zip (kidsL b)).all fun p => agG f p.1 p.2) = ((kidsL a).zip (kidsL b)).all fun p => agG p.1.length p.1 p.2 := by
    rw [Bool.eq_iff_iff, List.all_eq_true, List.all_eq_true]
    exact ⟨fun h p hp => by rw [← this p hp]; exact h p hp, fun h p hp => by rw [this p hp]; exact h p hp⟩
  rw [hf, e, if_neg h0, e2]
  unfold alikeB
  by_cases hk : (headNd a).k ≠ (headNd b).k
  · rw [if_pos hk, decide_eq_false hk]; rfl
  · rw [if_neg hk, decide_eq_true (show (headNd a).k = (headNd b).k from Classical.not_not.1 hk), Bool.true_and]
theorem zip_get {α β : Type} {l : List α} {m : List β} {i : Nat} {a : α} {b : β} (h1 : l[i]? = some a) (h2 : m[i]? = some b) : (l.zip m)[i]? = some (a, b) := List.getElem?_zip_eq_some.2 ⟨h1, h2⟩

set_option maxRecDepth 100000 in
set_option maxHeartbeats 8000000 in
theorem rAgree_any : ∀ (N : Nat) (A B : Option Addr) (c d : Nat) (a b : List Nd) (w : World), a.length ≤ N → TyA w w.heap.size A a → TyA w w.heap.size B b → TrW a → TrW b → a.length ≤ 100000 → b.length ≤ 100000 → a.length ≤ c → b.length ≤ d →
    Calls Try.prog 26 #[.slice A a.length c, .slice B b.length d] w fun e w' => e = .returned (.bool (agG a.length a b)) ∧ Below w.heap.size w w' := by
  intro N
  induction N with
  | zero => intro A B c d a b w h0 _ _ ta; have := ta.fo.pos; omega
  | succ N ih =>
    have IH := Lib.hid ih
    clear ih
    intro A B c d a b w hN ha hb ta tb la lb lc ld
    have hxa : a[0]? = some (headNd a) := by
      have := ta.fo.pos
      cases a with
      | nil => simp at this
      | cons x ks => rfl
    have hxb : b[0]? = some (headNd b) := by
      have := tb.fo.pos
      cases b with
      | nil => simp at this
      | cons x ks => rfl
    have kal := Lib.hid (alike_any A B c d a b w ha hb ta tb la lb lc ld)
    have ka := Lib.hid fun W (hW : Below w.heap.size w W) => kids07_any A c a W ((ha.below hW).more hW.size) ta la lc
    have kb := Lib.hid fun W (hW : Below w.heap.size w W) => kids07_any B d b W ((hb.below hW).more hW.size) tb lb ld
    have HT := Lib.hid (And.intro ta tb)
    have p1 := getq_lt hxa
    have p2 := getq_lt hxb
    have HN := Lib.hid (And.intro hN (And.intro la lb))
    obtain ⟨b1, o1, rfl, hb1, c10, _, _⟩ := ha.at_ hxa
    obtain ⟨b2, o2, rfl, hb2, d10, _, _⟩ := hb.at_ hxb
    simp only [Nat.zero_mul, Nat.add_zero] at c10 d10
    clear ha hb ta tb hxa hxb hN
    go_enter Try.func26, Try.ntmps26
    have hcase : ((headNd a).k == 0) = true ∨ (((headNd a).k == 0) = false ∧ ((headNd b).k == 0) = true) ∨ (((headNd a).k == 0) = false ∧ ((headNd b).k == 0) = false) := by
      cases ((headNd a).k == 0) <;> cases ((headNd b).k == 0) <;> simp
    have hpos : Hid (((headNd a).k = 0 ∨ (headNd b).k = 0) → agG a.length a b = true) := Lib.hid fun h => by
      obtain ⟨f, hf⟩ : ∃ f, a.length = f + 1 := ⟨a.length - 1, by omega⟩
      rw [hf]
      unfold agG
      rw [if_pos h]
    rcases hcase with h1 | ⟨h1, h2⟩ | ⟨h1, h2⟩
    · have H1 := Lib.hid h1
      go_wp2_with fail
      go_ret
      exact ⟨ret_bool (by rw [hpos.out (.inl (by simpa using H1.out))]), Below.refl _ _⟩
    · have H1 := Lib.hid h2
      go_wp2_with fail
      go_ret
      exact ⟨ret_bool (by rw [hpos.out (.inr (by simpa using H1.out))]), Below.refl _ _⟩
    · have HAG : Hid (agG a.length a b = (alikeB a b && ((kidsL a).zip (kidsL b)).all fun p => agG p.1.length p.1 p.2)) := Lib.hid (agG_split HT.out.1 (by
        have h3 : (headNd a).k ≠ 0 := by simpa using h1
        have h4 : (headNd b).k ≠ 0 := by simpa using h2
        rintro (h | h)
        · exact h3 h
        · exact h4 h))
      clear hpos
      go_wp2_with fail
      refine kal.out.mono ?_
      clear kal
      rintro e w1 ⟨rfl, hb⟩
      have G1 := Lib.hid hb
      clear hb c10 d10
      cases hal : alikeB a b with
      | false =>
        have HA := Lib.hid hal
        clear hal
        go_wp2_with fail
        go_ret
        exact ⟨ret_bool (by rw [HAG.out, HA.out]; rfl), G1.out⟩
      | true =>
        have HA := Lib.hid hal
        have hll : Hid ((kidsL a).length = (kidsL b).length) := Lib.hid (by
          unfold alikeB at hal
          simp only [Bool.and_eq_true, decide_eq_true_eq] at hal
          have := congrArg List.length hal.2
          rwa [labsT_length, labsT_length] at this)
        clear hal
        go_wp2_with fail
        refine (ka.out _ G1.out).mono ?_
        clear ka
        rintro e w2 ⟨V1, cv1, vs1, L1, cl1, rfl, r1, s1, _, q1, hb⟩
        have G2 := Lib.hid (And.intro (ext_trans G1.out hb) (And.intro r1 (And.intro s1 q1)))
        clear r1 s1 q1 hb
        go_wp2_with fail
        refine (kb.out _ G2.out.1).mono ?_
        clear kb
        rintro e w3 ⟨V2, cv2, vs2, L2, cl2, rfl, r2, s2, _, q2, hb⟩
        have G3 := Lib.hid (And.intro (ext_trans G2.out.1 hb) (And.intro ((ReadL.below G2.out.2.1 hb).more hb.size) (And.intro (G2.out.2.2.1.moreB hb hb.size) (And.intro r2 (And.intro s2 q2)))))
        clear r2 s2 q2 hb
        have hv1 : Hid (vs1.length = (kidsL a).length) := Lib.hid (by rw [G3.out.2.2.1.1, List.length_map])
        have hv50 : vs1.length ≤ 50 := by rw [hv1.out]; exact HT.out.1.fifty
        have hv2 : Hid (vs2.length = (kidsL b).length) := Lib.hid (by rw [G3.out.2.2.2.2.1.1, List.length_map])
        go_wp2_with fail
        go_loopw [9] (fun s9 wr => ∃ i : Nat, s9 = .int .i64 i ∧ i ≤ vs1.length ∧ Hid (Below w3.heap.size w3 wr ∧ (((kidsL a).zip (kidsL b)).take i).all (fun p => agG p.1.length p.1 p.2) = true)) (fun s9 _ => vs1.length - (intOf s9).toNat)
        case atStart => exact ⟨0, rfl, Nat.zero_le _, Lib.hid ⟨Below.refl _ _, by simp⟩⟩
        case round =>
          obtain ⟨i, rfl, hi, M⟩ := hrel
          by_cases hp : i < vs1.length
          · have hpv2 : i < vs2.length := by have := hv1.out; have := hv2.out; have := hll.out; omega
            obtain ⟨v, hv⟩ := getq_ex hp
            obtain ⟨u, hu⟩ := getq_ex hpv2
            obtain ⟨ts, hts⟩ := getq_ex (l := kidsL a) (i := i) (by rw [← hv1.out]; exact hp)
            obtain ⟨us, hus⟩ := getq_ex (l := kidsL b) (i := i) (by rw [← hv2.out]; exact hpv2)
            obtain ⟨g1, o3, rfl, hg1, k1⟩ := ReadL.slice ((G3.out.2.1.below M.out.1).more M.out.1.size) hv
            obtain ⟨g2, o4, rfl, hg2, k2⟩ := ReadL.slice ((G3.out.2.2.2.1.below M.out.1).more M.out.1.size) hu
            obtain ⟨e1, t1⟩ := (G3.out.2.2.1.moreB M.out.1 M.out.1.size).2 i v (bareN ts) hv (by rw [List.getElem?_map, hts]; rfl)
            obtain ⟨e2, t2⟩ := (G3.out.2.2.2.2.1.moreB M.out.1 M.out.1.size).2 i u (bareN us) hu (by rw [List.getElem?_map, hus]; rfl)
            have z1 := G2.out.2.2.2 v (List.mem_of_getElem? hv)
            have z2 := G3.out.2.2.2.2.2 u (List.mem_of_getElem? hu)
            have m1 := List.mem_of_getElem? hts
            have m2 := List.mem_of_getElem? hus
            have n1 := kidsL_len m1
            have n2 := kidsL_len m2
            have hzip : ((kidsL a).zip (kidsL b))[i]? = some (ts, us) := zip_get hts hus
            rw [e1] at k1 z1
            rw [e2] at k2 z2
            have hcall : Hid (∀ W, Below wr.heap.size wr W → Calls Try.prog 26 #[.slice v.1 (bareN ts).length v.2.2, .slice u.1 (bareN us).length u.2.2] W fun e w' => e = .returned (.bool (agG ts.length ts us)) ∧ Below wr.heap.size wr w') := Lib.hid fun W hW => by
              have h := IH.out v.1 u.1 v.2.2 u.2.2 (bareN ts) (bareN us) W (by rw [bareN_length]; have := HN.out.1; omega) ((t1.below hW).more hW.size) ((t2.below hW).more hW.size) (HT.out.1.kid m1).bare (HT.out.2.kid m2).bare (by rw [bareN_length]; have := HN.out.2.1; omega) (by rw [bareN_length]; have := HN.out.2.2; omega) z1 z2
              rw [agG_bare, show (bareN ts).length = ts.length from bareN_length ts] at h
              rw [show (bareN ts).length = ts.length from bareN_length ts]
              exact h.mono fun e w' he => ⟨he.1, ext_trans hW he.2⟩
            have HZ := Lib.hid hzip
            clear hv hu hts hus e1 t1 e2 t2 z1 z2 m1 m2 n1 n2 hzip
            go_wp2_with fail
            go_region_law
              (first
                | (go_simp; (with_reducible refine (hcall.out _ ?_).mono ?_); (first | exact Below.refl _ _ | exact (Below.refl _ _).drew); rintro e w5 ⟨rfl, hb5⟩; have G5 := Lib.hid hb5; clear hb5; generalize hq : agG ts.length ts us = q; have HQ := Lib.hid hq; clear hq; dsimp only))
            all_goals
              cases q with
              | false =>
                go_wp2_with fail
                go_ret
                refine ⟨ret_bool (by rw [HAG.out, all_no HZ.out HQ.out, Bool.and_false]), ext_trans (ext_trans G3.out.1 M.out.1) G5.out⟩
              | true =>
                go_wp2_with fail
                go_roundw
                case rel => exact ⟨i + 1, by go_num, hp, Lib.hid ⟨ext_trans M.out.1 G5.out, all_snoc HZ.out M.out.2 HQ.out⟩⟩
                case measure => simp [intOf]; omega
          · have e1 : Hid (((kidsL a).zip (kidsL b)).all (fun p => agG p.1.length p.1 p.2) = true) := Lib.hid (by
              have := M.out.2
              rwa [List.take_of_length_le (by rw [List.length_zip]; have := hv1.out; omega)] at this)
            go_wp2_with fail
            go_ret
            exact ⟨ret_bool (by rw [HAG.out, HA.out, e1.out]; rfl), ext_trans G3.out.1 M.out.1⟩
end Go.Proofs.Ytblfeokjlecgkaa
