/- Laid together by a tool from the texts of this seat: TrRd TrN TrRe TrX TrY TrZ. Conditions: each theorem's own. -/
import Derived.Test.YtblfeokjlecgkaaT13
import Derived.Recover
import Derived.Test.YtblfeokjlecgkaaT11
import Derived.Test.YtblfeokjlecgkaaT10
import Derived.Test.YtblfeokjlecgkaaT05
/- Types that are read from tokens, walked: what is wrong comes back as a result. -/
namespace Go.Proofs.Ytblfeokjlecgkaa
open Go.RowKit

attribute [local go_sem ↓] Go.wp_at_zero Go.wp_at_succ
theorem assertW (W : World) (v : Value) : (Instr.typeAssert (.iface 120 v) 20 120 false).run Try.prog W = .ok v W := by kernel_rfl

theorem heap_set_ne {w : World} {b c : Nat} (hne : b ≠ c) (i : Nat) (u : Value) : (w.setCell ⟨b, i, none⟩ u).heap[c]? = w.heap[c]? := by
  simp only [World.setCell, Array.getElem?_modify]
  rw [if_neg hne]
/-- The boxes of read's results. -/
structure BoxR (w : World) (b1 b2 : Nat) (A : Option Addr) (n c : Nat) (p e : Int) : Prop where
  t : w.heap[b1]? = some (.cells #[.slice A n c] 34 (0, 0))
  b : w.heap[b2]? = some (.cells #[.int .i64 p, .int .i64 e] 120 (0, 0))
section
variable {w w' : World} {b1 b2 n c : Nat} {A : Option Addr} {p e : Int}
theorem BoxR.at_ (h : BoxR w b1 b2 A n c p e) : w.cell? ⟨b1, 0, none⟩ = some (.slice A n c) ∧ w.cell? ⟨b2, 0, none⟩ = some (.int .i64 p) ∧ w.cell? ⟨b2, 1, none⟩ = some (.int .i64 e) := by
  have h1 := h.t
  have h2 := h.b
  exact ⟨by simp [World.cell?, h1], by simp [World.cell?, h2], by simp [World.cell?, h2]⟩
theorem BoxR.fz (h : BoxR w b1 b2 A n c p e) : w.frozen? ⟨b1, 0, none⟩ = false ∧ w.frozen? ⟨b2, 0, none⟩ = false ∧ w.frozen? ⟨b2, 1, none⟩ = false := by
  have h1 := h.t
  have h2 := h.b
  exact ⟨by simp [World.frozen?, h1], by simp [World.frozen?, h2], by simp [World.frozen?, h2]⟩
theorem BoxR.set1 (h : BoxR w b1 b2 A n c p e) (hne : b1 ≠ b2) {B : Option Addr} {m d : Nat} : BoxR (w.setCell ⟨b1, 0, none⟩ (.slice B m d)) b1 b2 B m d p e := ⟨heap_set h.t 0 _, (heap_set_ne hne _ _).trans h.b⟩
theorem BoxR.set2 (h : BoxR w b1 b2 A n c p e) (hne : b1 ≠ b2) {q : Int} : BoxR (w.setCell ⟨b2, 0, none⟩ (.int .i64 q)) b1 b2 A n c q e := ⟨(heap_set_ne (Ne.symm hne) _ _).trans h.t, heap_set h.b 0 _⟩
theorem BoxR.set3 (h : BoxR w b1 b2 A n c p e) (hne : b1 ≠ b2) {q : Int} : BoxR (w.setCell ⟨b2, 1, none⟩ (.int .i64 q)) b1 b2 A n c p q := ⟨(heap_set_ne (Ne.symm hne) _ _).trans h.t, heap_set h.b 1 _⟩
theorem BoxR.lt (h : BoxR w b1 b2 A n c p e) : b1 < w.heap.size ∧ b2 < w.heap.size := ⟨(Array.getElem?_eq_some_iff.1 h.t).1, (Array.getElem?_eq_some_iff.1 h.b).1⟩
end

def Read1Post (b1 b2 : Nat) (p e : Int) (older : List PanicEntry) (w : World) (x : Ending) (u' : FrameMode) (w' : World) : Prop :=
  x = .returned (.tuple #[]) ∧ u' = .panicking ({ v := .iface 120 (.agg #[.int .i64 p, .int .i64 e]), recovered := true } :: older) ∧ w' = ((w.drew.setCell ⟨b1, 0, none⟩ (.slice none 0 0)).setCell ⟨b2, 0, none⟩ (.int .i64 p)).setCell ⟨b2, 1, none⟩ (.int .i64 e)

set_option maxRecDepth 100000 in
set_option maxHeartbeats 8000000 in
theorem read1_bad (b1 b2 : Nat) (A : Option Addr) (n c : Nat) (p0 e0 p e : Int) (older : List PanicEntry) (w : World) (h : BoxR w b1 b2 A n c p0 e0) (hne : b1 ≠ b2) :
    CallsD Try.prog 121 #[.pointer (some ⟨b1, 0, none⟩), .pointer (some ⟨b2, 0, none⟩)] (.panicking ({ v := .iface 120 (.agg #[.int .i64 p, .int .i64 e]), recovered := false } :: older)) w (Read1Post b1 b2 p e older w) := by
  have k1 := h.at_
  have k2 := h.fz
  refine callsD_of_wpS Try.func121 rfl fun c₀ cs hu => ?_
  apply wpS_seq
  apply wpS_region
  simp [wpOpsS, go_sem, recoverD, hu, Try.ntmps121, Exit.thenS]
  apply wpS_seq
  apply wpS_region
  simp [wpOpsS, go_sem, Exit.thenS]
  refine wpS_cond (t := true) (by simp [Act.eval, Array.replicate]) ?_
  simp only [if_true]
  refine wpS_of_wp ?_
  simp only [show Array.replicate 6 undef = #[undef, undef, undef, undef, undef, undef] from rfl, List.setIfInBounds_toArray, List.set_cons_zero, List.set_cons_succ, List.append_toArray, List.cons_append, List.nil_append]
  obtain ⟨SS, hSS⟩ : ∃ SS : World → Prop, SS = fun _ => True := ⟨_, rfl⟩
  have SA : ∀ v, SS v := fun v => by rw [hSS]; trivial
  clear hSS k1 k2
  obtain ⟨wd, hwd⟩ : ∃ wd, wd = w.drew := ⟨_, rfl⟩
  have hd : BoxR wd b1 b2 A n c p0 e0 := by rw [hwd]; exact ⟨h.t, h.b⟩
  refine wp_region_L_drew (S := SS) [3] (by kernel_rfl) (SA _) (fun hHeld => ?_)
  rw [← hwd] at hHeld ⊢
  have HW := Lib.hid hwd
  clear hwd
  refine onA 0 [1, 3] (some 6) rfl rfl ?_
  refine onA 1 [3] (some 7) rfl rfl ?_ (v := .agg #[.int .i64 p, .int .i64 e]) (hy := fun w _ => ?_)
  rotate_left
  · go_simp
    rw [assertW]
    rfl
  have HD1 : BoxR (wd.setCell ⟨b1, 0, none⟩ (.slice none 0 0)) b1 b2 none 0 0 p0 e0 := hd.set1 hne
  have HD2 : BoxR ((wd.setCell ⟨b1, 0, none⟩ (.slice none 0 0)).setCell ⟨b2, 0, none⟩ (.int .i64 p)) b1 b2 none 0 0 p e0 := HD1.set2 hne
  have k1 := hd.at_
  have k2 := hd.fz
  refine skipL 2 none (w' := wd.setCell ⟨b1, 0, none⟩ (.slice none 0 0)) rfl rfl (by kernel_rfl) (by rfl) (by go_simp) (fun _ => SA _) ?_
  refine putA ?_
  clear k1 k2
  obtain ⟨w1, hw1⟩ : ∃ w1, w1 = wd.setCell ⟨b1, 0, none⟩ (.slice none 0 0) := ⟨_, rfl⟩
  rw [← hw1] at HD1 HD2 ⊢
  have HW1 := Lib.hid hw1
  clear hw1
  have k1 := HD1.at_
  have k2 := HD1.fz
  have k3 := HD2.at_
  have k4 := HD2.fz
  refine skipL 3 none (w' := (w1.setCell ⟨b2, 0, none⟩ (.int .i64 p)).setCell ⟨b2, 1, none⟩ (.int .i64 e)) rfl rfl (by kernel_rfl) (by rfl) (by go_simp) (fun _ => SA _) ?_
  refine putA ?_
  refine doneL (by kernel_rfl) ?_ _
  refine ⟨rfl, _, rfl, _, by simp [results, Try.results121, go_sem], rfl, rfl, ?_⟩
  rw [HW1.out, HW.out]

set_option maxRecDepth 100000 in
set_option maxHeartbeats 8000000 in
theorem read1_idle (p1 p2 : Addr) (w : World) :
    CallsD Try.prog 121 #[.pointer (some p1), .pointer (some p2)] .returning w fun e u' w' => e = .returned (.tuple #[]) ∧ u' = .returning ∧ w' = w := by
  refine callsD_of_wpS Try.func121 rfl fun c₀ cs hu => ?_
  apply wpS_seq
  apply wpS_region
  simp [wpOpsS, go_sem, recoverD, hu, Try.ntmps121, Exit.thenS]
  apply wpS_seq
  apply wpS_region
  simp [wpOpsS, go_sem, Exit.thenS]
  refine wpS_cond (t := false) (by simp [Act.eval, Array.replicate]) ?_
  simp only [Bool.false_eq_true, if_false]
  refine wpS_of_wp (wp_skip ?_)
  cases c₀
  simp_all [bodyPostS, results, Try.results121]

theorem rd_new {X : Nat → Prop} {w w1 w2 : World} {Y : Nat → Prop} (h : Fr X w w1) (k : Fr Y w1 w2) (hY : ∀ b, Y b → w.heap.size ≤ b) : Fr X w w2 := h.new k fun b hb => .inr (hY b hb)
theorem BoxR.fr {w w' : World} {b1 b2 n c : Nat} {A : Option Addr} {p e : Int} {X : Nat → Prop} (h : BoxR w b1 b2 A n c p e) (hf : Fr X w w') (h1 : ¬ X b1) (h2 : ¬ X b2) : BoxR w' b1 b2 A n c p e := ⟨(hf.block b1 h.lt.1 h1).trans h.t, (hf.block b2 h.lt.2 h2).trans h.b⟩
theorem BoxR.new (w : World) : BoxR ((w.alloc (.cells #[.slice none 0 0] 34)).alloc (.cells #[.int .i64 0, .int .i64 0] 120)) w.heap.size (w.heap.size + 1) none 0 0 0 0 := by
  have h1 := heap_alloc_new w (.cells #[.slice none 0 0] 34)
  have h2 := heap_alloc_new (w.alloc (.cells #[.slice none 0 0] 34)) (.cells #[.int .i64 0, .int .i64 0] 120)
  have hb := (ext_alloc (Below.refl (w.alloc (.cells #[.slice none 0 0] 34)).heap.size (w.alloc (.cells #[.slice none 0 0] 34))) (.cells #[.int .i64 0, .int .i64 0] 120)).block w.heap.size (by rw [World.size_alloc]; omega)
  rw [World.size_alloc] at h2
  exact ⟨hb.trans h1, h2⟩

theorem OwnL.frA {α : Type} {enc : α → List Value} {e size cap base : Nat} {A : Option Addr} {l : List α} {w w' : World} {Y : Nat → Prop} (h : OwnL e size enc w base A cap l) (hf : Fr Y w w') (hY : ∀ a, A = some a → ¬ Y a.block) : OwnL e size enc w' base A cap l := by
  cases A with
  | none =>
    rcases h.2 with ⟨hv, hn⟩ | ⟨g, cap', cur, hv, _⟩
    · have hl : l = [] := List.eq_nil_of_length_eq_zero hn
      subst hl
      injection hv with _ _ hc
      subst hc
      exact OwnL.nil
    · cases hv
  | some a =>
    rcases h.2 with ⟨hv, hn⟩ | ⟨g, cap', cur, hv, hbg, hg, hr⟩
    · cases hv
    · have hlt : g < w.heap.size := (Array.getElem?_eq_some_iff.1 hg).1
      have ha : a = ⟨g, 0, none⟩ := by injection hv with e1; injection e1
      exact ⟨h.1, .inr ⟨g, cap', cur, hv, hbg, (hf.block g hlt (hY ⟨g, 0, none⟩ (by rw [ha]))).trans hg, hr⟩⟩
/-- Stores above the reader, and off its sites, hurt it not. -/
theorem RdO.past {rb c sc : Nat} {A SA : Option Addr} {L : List Tk} {s0 : Int} {st : RS} {w w' : World} {Y : Nat → Prop} (h : RdO w rb A c L s0 st SA sc) (hf : Fr Y w w') (h1 : ∀ k, Y k → rb < k) (h2 : ∀ a, SA = some a → ¬ Y a.block) : RdO w' rb A c L s0 st SA sc :=
  ⟨⟨(hf.block rb h.m.r.lt fun e => Nat.lt_irrefl _ (h1 rb e)).trans h.m.r, ReadL.below h.m.k ⟨hf.os, hf.tape, hf.output, hf.size, fun k hk => hf.block k (Nat.lt_trans hk h.m.r.lt) fun e => by have := h1 k e; omega⟩, h.m.l⟩, h.o.frA hf h2⟩

/-- What reading leaves, where what is wrong comes back. -/
def RdPost (rb : Nat) (A : Option Addr) (c : Nat) (L : List Tk) (s0 : Int) (SA : Option Addr) (w : World) (r : RRes) (e : Ending) (w' : World) : Prop :=
  match r with
  | .ok t st => ∃ (B : Option Addr) (cb : Nat) (SA' : Option Addr) (sc' : Nat), e = .returned (.tuple #[.slice B t.length cb, .agg #[.int .i64 0, .int .i64 0]]) ∧ RdO w' rb A c L s0 st SA' sc' ∧ HasT w w' B t SA' ∧ RStep rb SA SA' w w'
  | .bad p x => e = .returned (.tuple #[.slice none 0 0, .agg #[.int .i64 p, .int .i64 x]]) ∧ Fr (XS rb SA) w w'

set_option maxRecDepth 100000 in
set_option maxHeartbeats 8000000 in
theorem read_any {rb c sc : Nat} {A SA : Option Addr} {L : List Tk} {s0 : Int} {st : RS} {w : World} {lv : Int} {W : RS → RRes} (h : RdO w rb A c L s0 st SA sc) (hW : ReadsT rb A c L s0 lv W) (hp : st.pos ≤ L.length) (hs : st.si.length ≤ st.pos) :
    Calls Try.prog 78 #[pk rb, .int .i64 lv] w (RdPost rb A c L s0 SA w (W st)) := by
  have hmf : ∀ (fn : Fn) (first cap : Array Value) (w : World), (Instr.makeFunc fn first cap).run Try.prog w = .ok (.func fn first cap) w := fun _ _ _ _ => rfl
  obtain ⟨w2, hw2⟩ : ∃ w2, w2 = (w.alloc (.cells #[.slice none 0 0] 34)).alloc (.cells #[.int .i64 0, .int .i64 0] 120) := ⟨_, rfl⟩
  have hb2 : Below w.heap.size w w2 := by rw [hw2]; exact ext_alloc (ext_alloc (Below.refl _ _) _) _
  have HX : Hid (BoxR w2 w.heap.size (w.heap.size + 1) none 0 0 0 0) := Lib.hid (by rw [hw2]; exact BoxR.new w)
  have HB := Lib.hid hb2
  have H := Lib.hid h
  have hrl := h.m.r.lt
  have HN : Hid (∀ b, w.heap.size ≤ b → ¬ XS rb SA b) := Lib.hid fun b hb hx => by
    rcases hx with hx | ⟨a, ha, hx⟩
    · omega
    · have := (OwnL.lt h.o a ha).2
      omega
  have HZ := Lib.hid (hW st SA sc w2 (h.later hb2) hp hs)
  have HS2 : Hid (w2.heap.size = w.heap.size + 2) := Lib.hid (by rw [hw2, World.size_alloc, World.size_alloc])
  have HY : Hid (Fr (XS rb SA) w w2) := Lib.hid (Fr.below hb2)
  unfold pk at *
  cases hr : W st with
  | bad p x =>
    rw [hr] at HZ
    clear hb2 h hp hs hW hr
    go_enter_defers Try.func78, Try.ntmps78
    go_upto_region 2 with fail
    rw [← hw2]
    clear hw2
    go_wp2_with fail
    refine HZ.out.mono ?_
    rintro e w3 ⟨rfl, SA', hs'⟩
    have BX := HX.out.fr hs'.fr (HN.out _ (Nat.le_refl _)) (HN.out _ (Nat.le_succ _))
    refine leaves_cons (f := 121) (args := #[.pointer (some ⟨w.heap.size, 0, none⟩), .pointer (some ⟨w.heap.size + 1, 0, none⟩)]) (by simp) (by simp [go_sem]) ?_
    refine (read1_bad w.heap.size (w.heap.size + 1) none 0 0 0 0 p x [] w3 BX (Nat.ne_of_lt (Nat.lt_succ_self _))).mono ?_
    rintro e u' w4 ⟨rfl, rfl, hw4⟩
    have BD : BoxR w3.drew w.heap.size (w.heap.size + 1) none 0 0 0 0 := ⟨BX.t, BX.b⟩
    have hne : w.heap.size ≠ w.heap.size + 1 := Nat.ne_of_lt (Nat.lt_succ_self _)
    have B4 : BoxR w4 w.heap.size (w.heap.size + 1) none 0 0 p x := by rw [hw4]; exact ((BD.set1 hne).set2 hne).set3 hne
    have F4 : Fr (XS rb SA) w w4 := by
      rw [hw4]
      refine rd_new (Y := fun k => w.heap.size ≤ k) ((HY.out.trans hs'.fr).trans (Fr.below (Below.refl w3.heap.size w3).drew)) ?_ fun b hb => hb
      exact (((Fr.refl _ _).setCell (p := ⟨w.heap.size, 0, none⟩) (.inl (Nat.le_refl _)) _).setCell (p := ⟨w.heap.size + 1, 0, none⟩) (.inl (Nat.le_succ _)) _).setCell (p := ⟨w.heap.size + 1, 1, none⟩) (.inl (Nat.le_succ _)) _
    clear hw4
    obtain ⟨z1, z2, z3⟩ := B4.at_
    exact ⟨.tuple #[.slice none 0 0, .agg #[.int .i64 p, .int .i64 x]], by simp [results, Try.results78, go_sem, z1, z2, z3], rfl, F4⟩
  | ok t st2 =>
    rw [hr] at HZ
    clear hb2 h hp hs hW hr
    go_enter_defers Try.func78, Try.ntmps78
    go_upto_region 2 with fail
    rw [← hw2]
    clear hw2
    go_wp2_with fail
    refine HZ.out.mono ?_
    rintro e w3 ⟨B, cb, SA', sc', rfl, h3, t3, s3⟩
    have BX := HX.out.fr s3.fr (HN.out _ (Nat.le_refl _)) (HN.out _ (Nat.le_succ _))
    have hne : w.heap.size ≠ w.heap.size + 1 := Nat.ne_of_lt (Nat.lt_succ_self _)
    have BX1 := BX.set1 hne (B := B) (m := t.length) (d := cb)
    have BX2 := BX1.set2 hne (q := 0)
    have H3 := Lib.hid (And.intro h3 (And.intro t3 s3))
    clear h3 t3 s3
    have k1 := BX.at_
    have k2 := BX.fz
    have k3 := BX1.at_
    have k4 := BX1.fz
    have k5 := BX2.at_
    have k6 := BX2.fz
    clear BX BX1 BX2 hne
    go_wp2_with fail
    obtain ⟨w4, hw4⟩ : ∃ w4, w4 = (((w3.setCell ⟨w.heap.size, 0, none⟩ (.slice B t.length cb)).setCell ⟨w.heap.size + 1, 0, none⟩ (.int .i64 0)).setCell ⟨w.heap.size + 1, 1, none⟩ (.int .i64 0)) := ⟨_, rfl⟩
    rw [← hw4]
    have BX := HX.out.fr H3.out.2.2.fr (HN.out _ (Nat.le_refl _)) (HN.out _ (Nat.le_succ _))
    have hne : w.heap.size ≠ w.heap.size + 1 := Nat.ne_of_lt (Nat.lt_succ_self _)
    have B4 : BoxR w4 w.heap.size (w.heap.size + 1) B t.length cb 0 0 := by rw [hw4]; exact ((BX.set1 hne).set2 hne).set3 hne
    have F4 : Fr (fun k => k = w.heap.size ∨ k = w.heap.size + 1) w3 w4 := by
      rw [hw4]
      exact (((Fr.refl _ _).setCell (p := ⟨w.heap.size, 0, none⟩) (.inl (.inl rfl)) _).setCell (p := ⟨w.heap.size + 1, 0, none⟩) (.inl (.inr rfl)) _).setCell (p := ⟨w.heap.size + 1, 1, none⟩) (.inl (.inr rfl)) _
    clear hw4 k1 k2 k3 k4 k5 k6 hne
    refine leaves_cons (f := 121) (args := #[.pointer (some ⟨w.heap.size, 0, none⟩), .pointer (some ⟨w.heap.size + 1, 0, none⟩)]) (by simp) (by simp [go_sem]) ?_
    refine (read1_idle _ _ w4).mono ?_
    rintro e u' w5 ⟨rfl, rfl, rfl⟩
    obtain ⟨z1, z2, z3⟩ := B4.at_
    obtain ⟨h3, t3, s3⟩ := H3.out
    have hw2s : w2.heap.size = w.heap.size + 2 := HS2.out
    have hSA : ∀ a, SA' = some a → ¬ (a.block = w.heap.size ∨ a.block = w.heap.size + 1) := fun a ha e => by
      rcases s3.sa a ha with (hx | ⟨b, hb, hx⟩) | hx
      · omega
      · have := (OwnL.lt H.out.o b hb).2
        omega
      · omega
    refine ⟨.tuple #[.slice B t.length cb, .agg #[.int .i64 0, .int .i64 0]], by simp [results, Try.results78, go_sem, z1, z2, z3], B, cb, SA', sc', rfl, h3.past F4 (fun k hk => by rcases hk with rfl | rfl <;> omega) hSA, ⟨?_, ?_, ?_, t3.off⟩, ⟨?_, fun a ha => ?_⟩⟩
    · exact (tyA_fr t3.t F4 (Nat.le_refl _) fun a ha e => by
        have := t3.lo a ha
        omega).more F4.size
    · intro a ha
      have := t3.lo a ha
      omega
    · intro a ha
      have := t3.hi a ha
      have := F4.size
      omega
    · exact rd_new (HY.out.trans s3.fr) F4 fun b hb => by omega
    · rcases s3.sa a ha with hx | hx
      · exact .inl hx
      · exact .inr (by omega)
end Go.Proofs.Ytblfeokjlecgkaa

/- Types that are read from tokens: labels are the tokens' texts; what is wrong has a number. -/
namespace Go.Proofs.Ytblfeokjlecgkaa

/-- Labels among the tokens are no longer than that. -/
def LabOk (M : Nat) (L : List Tk) : Prop := ∀ p, ((hereT L p).k = 1 ∨ (hereT L p).k = 2) → (hereT L p).s.size ≤ M
def NamR (M : Nat) : RRes → Prop
  | .ok t _ => ∀ x ∈ t, x.s.size ≤ M
  | .bad _ e => 0 < e ∧ e < 100
def NamW (M : Nat) (W : RS → RRes) : Prop := ∀ st, NamR M (W st)
def NamO (M : Nat) (W : Option (RS → RRes)) : Prop := ∀ W', W = some W' → NamW M W'

theorem nam_row {M : Nat} {k : Int} {fs : List (ByteArray × List Nd)} (h : ∀ p ∈ fs, p.1.size ≤ M ∧ ∀ x ∈ p.2, x.s.size ≤ M) : ∀ x ∈ rowL k fs, x.s.size ≤ M := by
  intro x hx
  unfold rowL at hx
  rcases List.mem_cons.1 hx with rfl | hx
  · exact Nat.zero_le _
  · obtain ⟨p, hp, hx⟩ := List.mem_flatMap.1 hx
    have hp2 : p ∈ fs := by
      have key : ∀ (l acc : List (ByteArray × List Nd)), p ∈ l.foldl (fun a q => insP q a) acc → p ∈ l ∨ p ∈ acc := by
        intro l
        induction l with
        | nil => exact fun acc h => .inr h
        | cons q l ih =>
          intro acc h
          rcases ih _ h with h | h
          · exact .inl (List.mem_cons_of_mem _ h)
          · have ins : ∀ acc : List (ByteArray × List Nd), p ∈ insP q acc → p = q ∨ p ∈ acc := by
              intro acc
              induction acc with
              | nil => exact fun h => .inl (List.mem_singleton.1 h)
              | cons y acc ih2 =>
                intro h
                unfold insP at h
                split at h
                · rcases List.mem_cons.1 h with h | h
                  · exact .inl h
                  · exact .inr h
                · rcases List.mem_cons.1 h with h | h
                  · exact .inr (h ▸ List.mem_cons_self)
                  · rcases ih2 h with h | h
                    · exact .inl h
                    · exact .inr (List.mem_cons_of_mem _ h)
            rcases ins acc h with h | h
            · exact .inl (h ▸ List.mem_cons_self)
            · exact .inr h
      rcases key fs [] hp with h | h
      · exact h
      · cases h
    obtain ⟨h1, h2⟩ := h p hp2
    cases hq : p.2 with
    | nil => rw [hq] at hx; cases hx
    | cons y ys =>
      rw [hq] at hx h2
      rcases List.mem_cons.1 hx with rfl | hx
      · exact h1
      · exact h2 x (List.mem_cons_of_mem _ hx)

section
variable {L : List Tk} {s0 : Int} {M : Nat} (hM : LabOk M L)
include hM
theorem rowF_nam {W : RS → RRes} (hW : NamW M W) (k lk : Int) (hk : lk = 1 ∨ lk = 2) (btw fin : ByteArray) : ∀ (f : Nat) (fs : List (ByteArray × List Nd)) (st : RS), (∀ p ∈ fs, p.1.size ≤ M ∧ ∀ x ∈ p.2, x.s.size ≤ M) → NamR M (rowF L W k lk btw fin f fs st) := by
  intro f
  induction f with
  | zero => intro fs st h; exact (by decide : (0 : Int) < 2 ∧ (2 : Int) < 100)
  | succ f ih =>
    intro fs st h
    unfold rowF
    split
    · exact (by decide : (0 : Int) < 2 ∧ (2 : Int) < 100)
    · rename_i hn
      split
      · exact (by decide : (0 : Int) < 7 ∧ (7 : Int) < 100)
      · split
        · exact (by decide : (0 : Int) < 3 ∧ (3 : Int) < 100)
        · split
          · exact (by decide : (0 : Int) < 2 ∧ (2 : Int) < 100)
          · have hg := hW ⟨st.pos + 2, st.si⟩
            split
            · rename_i p e he
              rw [he] at hg
              exact hg
            · rename_i t st2 he
              rw [he] at hg
              have h2 : ∀ p ∈ fs ++ [((hereT L st.pos).s, t)], p.1.size ≤ M ∧ ∀ x ∈ p.2, x.s.size ≤ M := fun p hp => by
                rcases List.mem_append.1 hp with hp | hp
                · exact h p hp
                · rw [List.mem_singleton] at hp
                  subst hp
                  refine ⟨hM _ ?_, hg⟩
                  have hn2 : namesB lk (hereT L st.pos) = true := by simpa using hn
                  unfold namesB at hn2
                  simp only [Bool.and_eq_true, beq_iff_eq] at hn2
                  rcases hk with rfl | rfl
                  · exact .inl hn2.1
                  · exact .inr hn2.1
              split
              · exact ih _ _ h2
              · split
                · exact nam_row h2
                · exact (by decide : (0 : Int) < 2 ∧ (2 : Int) < 100)

theorem atomF_nam {W : Option (RS → RRes)} (hW : NamO M W) (st : RS) : NamR M (atomF L s0 W st) := by
  have d2 : (0 : Int) < 2 ∧ (2 : Int) < 100 := by decide
  have d4 : (0 : Int) < 4 ∧ (4 : Int) < 100 := by decide
  have one : ∀ (k n : Int) (st : RS), NamR M (.ok [⟨k, ByteArray.empty, n⟩] st) := fun k n st x hx => by
    rw [List.mem_singleton] at hx
    subst hx
    exact Nat.zero_le _
  unfold atomF
  split
  · exact one _ _ _
  · split
    · exact one _ _ _
    · split
      · split
        · exact d4
        · rename_i _ W'
          have hg := hW W' rfl ⟨st.pos + 1, st.si⟩
          split
          · rename_i p e he
            rw [he] at hg
            exact hg
          · rename_i t st2 he
            rw [he] at hg
            split
            · exact hg
            · exact d2
      · split
        · split
          · exact d4
          · rename_i _ W'
            split
            · exact one _ _ _
            · exact rowF_nam hM (hW W' rfl) 6 1 (.inl rfl) sCo sRb (L.length + 1) [] ⟨st.pos + 1, st.si⟩ fun p hp => by cases hp
        · split
          · split
            · exact d4
            · rename_i _ W'
              exact rowF_nam hM (hW W' rfl) 7 2 (.inr rfl) sBar sRk (L.length + 1) [] ⟨st.pos + 1, st.si⟩ fun p hp => by cases hp
          · exact d2

omit hM in
theorem arrF_nam {W : Option (RS → RRes)} (hW : NamO M W) {r : RRes} (hr : NamR M r) : NamR M (arrF L W r) := by
  unfold arrF
  split
  · exact hr
  · rename_i a st1
    split
    · split
      · exact (by decide : (0 : Int) < 4 ∧ (4 : Int) < 100)
      · rename_i _ W'
        have hg := hW W' rfl ⟨st1.pos + 1, st1.si⟩
        split
        · rename_i p e he
          rw [he] at hg
          exact hg
        · rename_i b st2 he
          rw [he] at hg
          intro x hx
          unfold arrowN at hx
          rcases List.mem_cons.1 hx with rfl | hx
          · exact Nat.zero_le _
          · rcases List.mem_append.1 hx with hx | hx
            · exact hr x hx
            · exact hg x hx
    · exact hr

theorem wholeF_nam : ∀ d, NamW M (wholeF L s0 d) := by
  intro d
  induction d with
  | zero => exact fun st => arrF_nam (fun _ h => by cases h) (atomF_nam hM (fun _ h => by cases h) st)
  | succ d ih =>
    intro st
    have hO : NamO M (some (wholeF L s0 d)) := fun _ h => by cases h; exact ih
    exact arrF_nam hO (atomF_nam hM hO st)
end

/-- Of a text's tokens. -/
theorem toksR_lab {s : ByteArray} {k : Nat} {l : List Tk} (h : ToksR s k l) : ∀ t ∈ l, (t.k = 1 ∨ t.k = 2) → t.s.size ≤ s.size := by
  induction h with
  | stop k h => exact fun t ht => by cases ht
  | step k hk t l h1 h2 h3 ih =>
    intro x hx hk2
    rcases List.mem_cons.1 hx with rfl | hx
    · rcases h1 with ⟨_, h⟩ | ⟨_, h⟩
      · have := (h rfl).1
        omega
      · unfold oneF at h
        repeat' split at h
        all_goals (injection h with a b; subst a; dsimp only at hk2 ⊢)
        all_goals first | omega | (rw [ByteArray.size_extract]; omega)
    · exact ih x hx hk2
theorem lab_toks {s : ByteArray} {k : Nat} {l : List Tk} (h : ToksR s k l) : LabOk s.size (l ++ [endT s]) := by
  intro p hp
  unfold hereT at *
  cases hx : (l ++ [endT s])[p]? with
  | none => exact Nat.zero_le _
  | some t =>
    rw [hx] at hp
    rcases List.mem_append.1 (List.mem_of_getElem? hx) with ht | ht
    · exact toksR_lab h t ht hp
    · rw [List.mem_singleton] at ht
      subst ht
      exact Nat.zero_le _
end Go.Proofs.Ytblfeokjlecgkaa

/- Types that are read from tokens, walked: Read. -/
namespace Go.Proofs.Ytblfeokjlecgkaa
open Go.RowKit

attribute [local go_sem ↓] Go.wp_at_zero Go.wp_at_succ

theorem reads_deep {rb c : Nat} {A : Option Addr} {L : List Tk} {s0 lv : Int} (hL : L.length ≤ 100000) (hs0 : 0 ≤ s0) (hs1 : s0 ≤ 1000000) (hlv : 100 ≤ lv) : ReadsT rb A c L s0 lv (wholeF L s0 0) := by
  intro st SA sc w h hp hs
  rw [wholeF_eq]
  have hn : downF L s0 0 = none → (100 : Int) ≤ lv := fun _ => hlv
  have hy : ∀ W', downF L s0 0 = some W' → lv < 100 ∧ ReadsT rb A c L s0 (lv + 1) W' := fun W' e => by cases e
  exact whole_step h hL hp hs (by omega) (downF_good L s0 0) hn hy (atomF_good (downF_good L s0 0) st hp) (atom_any h hL hp hs (by omega) hs0 hs1 (downF_good L s0 0) hn hy rfl)
/-- How many levels are left. -/
def leftN (lv : Int) : Nat := (100 - lv).toNat
theorem reads_at {rb c : Nat} {A : Option Addr} {L : List Tk} {s0 lv : Int} (hL : L.length ≤ 100000) (hs0 : 0 ≤ s0) (hs1 : s0 ≤ 1000000) (hlv : 0 ≤ lv) : ReadsT rb A c L s0 lv (wholeF L s0 (leftN lv)) := by
  rcases Int.lt_or_le lv 100 with h | h
  · have := reads_all (rb := rb) (A := A) (c := c) hL hs0 hs1 (leftN lv) (by unfold leftN; omega)
    rwa [show 100 - ((leftN lv : Nat) : Int) = lv by unfold leftN; omega] at this
  · rw [show leftN lv = 0 by unfold leftN; omega]
    exact reads_deep hL hs0 hs1 h

theorem frA_below {w w1 w2 : World} (h : Below w.heap.size w w1) (_hlt : w.heap.size < w1.heap.size) (hf : Fr (XS w.heap.size none) w1 w2) : Below w.heap.size w w2 := by
  have h1 : Fr (fun k => w.heap.size ≤ k) w w2 := (Fr.below (X := fun k => w.heap.size ≤ k) h).trans (hf.mono fun k hk => by
    rcases hk with hk | ⟨a, ha, _⟩
    · omega
    · cases ha)
  exact h1.toBelow fun k hk => hk

theorem wr_at {w : World} {b : Nat} {p e : Int} (h : w.heap[b]? = some (.cells #[.int .i64 p, .int .i64 e] 120 (0, 0))) : w.cell? ⟨b, 0, none⟩ = some (.int .i64 p) ∧ w.cell? ⟨b, 1, none⟩ = some (.int .i64 e) := ⟨by simp [World.cell?, h], by simp [World.cell?, h]⟩

/-- What Read comes to. -/
def ReadPost (p : Nat) (r : RRes) (w : World) (e : Ending) (w' : World) : Prop :=
  Below w.heap.size w w' ∧ match r with
  | .ok t st => (rightB t = true ∧ ∃ (B : Option Addr) (cb : Nat) (SA : Option Addr) (sc : Nat), e = .returned (.tuple #[.slice B t.length cb, .int .i64 st.pos, .slice SA st.si.length sc, .int .i64 0, .int .i64 0]) ∧ TyA w' w'.heap.size B t ∧ OwnSi w' w.heap.size SA sc st.si) ∨
      (rightB t = false ∧ ∃ x : Int, 0 < x ∧ x < 100 ∧ e = .returned (.tuple #[.slice none 0 0, .int .i64 0, .slice none 0 0, .int .i64 p, .int .i64 x]))
  | .bad q x => e = .returned (.tuple #[.slice none 0 0, .int .i64 0, .slice none 0 0, .int .i64 q, .int .i64 x])

set_option maxRecDepth 100000 in
set_option maxHeartbeats 8000000 in
theorem Read_any {A : Option Addr} {c : Nat} {L : List Tk} {p M : Nat} {s0 lv : Int} {w : World} (hk : ReadK w w.heap.size A L) (hL : L.length ≤ 100000) (hp : p ≤ L.length) (hs0 : 1 ≤ s0) (hs1 : s0 ≤ 1000000) (hlv : 1 ≤ lv) (hM : LabOk M L) (hM1 : M ≤ 1000000) :
    Calls Try.prog 41 #[.slice A L.length c, .int .i64 p, .int .i64 s0, .int .i64 lv] w (ReadPost p (wholeF L s0 (leftN lv) ⟨p, []⟩) w) := by
  obtain ⟨n, hn⟩ : ∃ n, n = L.length := ⟨_, rfl⟩
  obtain ⟨w1, hw1⟩ : ∃ w1, w1 = w.alloc (.cells #[.slice A n c, .int .i64 p, .int .i64 s0, .slice none 0 0] 118) := ⟨_, rfl⟩
  have hb1 : Below w.heap.size w w1 := by rw [hw1]; exact ext_alloc (Below.refl _ _) _
  have HR : Hid (RdO w1 w.heap.size A c L s0 ⟨p, []⟩ none 0) := Lib.hid ⟨⟨by rw [hw1, hn]; simp only [List.length_nil, Int.natCast_zero, Int.add_zero]; exact heap_alloc_new w _, ReadL.below hk hb1, by omega⟩, OwnL.nil⟩
  obtain ⟨r, hr⟩ : ∃ r, r = wholeF L s0 (leftN lv) ⟨p, []⟩ := ⟨_, rfl⟩
  have HNa : Hid (NamR M r) := Lib.hid (by rw [hr]; exact wholeF_nam hM _ _)
  have HG : Hid (GoodR L ⟨p, []⟩ r) := Lib.hid (by rw [hr]; exact wholeF_good L s0 _ _ hp)
  have HC : Hid (Calls Try.prog 78 #[pk w.heap.size, .int .i64 lv] w1 (RdPost w.heap.size A c L s0 none w1 r)) := Lib.hid (by
    rw [hr]
    exact read_any HR.out (reads_at hL (by omega) hs1 (by omega)) hp (Nat.zero_le _))
  have HB1 := Lib.hid hb1
  have HW : Hid (w.heap.size < w1.heap.size) := Lib.hid (by rw [hw1, World.size_alloc]; omega)
  have HL : Hid (L.length ≤ 100000) := Lib.hid hL
  have hmin : min (p : Int) (n : Int) = p := by omega
  have hq : (w1.cell? ⟨w.heap.size, 1, none⟩ = some (.int .i64 p)) := HR.out.m.r.at_.2.1
  have g1 : ¬ (p : Int) < 0 := by omega
  have g2 : ¬ s0 < 1 := by omega
  have g3 : ¬ lv < 1 := by omega
  rw [← hr, ← hn]
  have HN := Lib.hid hn
  have HM := Lib.hid hM1
  clear hr hk hL hp hM hM1 hn hs0 hs1 hlv hb1
  unfold pk at *
  go_enter Try.func41, Try.ntmps41
  go_upto_region 4 with fail
  rw [← hw1]
  clear hw1
  cases r with
  | bad q x =>
    have HNb := HNa.out
    have hx1 : 0 < x := HNb.1
    have hx : (x == 0) = false := by rw [beq_eq_false_iff_ne]; omega
    clear hx1 HNb
    go_wp2_with fail
    refine HC.out.mono ?_
    rintro e w2 ⟨rfl, hf⟩
    have HF : Hid (Below w.heap.size w w2) := Lib.hid (frA_below HB1.out HW.out hf)
    clear hf
    obtain ⟨w3, hw3⟩ : ∃ w3, w3 = w2.alloc (.cells #[.int .i64 q, .int .i64 x] 120) := ⟨_, rfl⟩
    have HF3 : Hid (Below w.heap.size w w3) := Lib.hid (by rw [hw3]; exact ext_alloc HF.out _)
    have e0 : ∀ j, (w3.drewN j).heap[w2.heap.size]? = some (.cells #[.int .i64 q, .int .i64 x] 120 (0, 0)) := fun j => by rw [hw3]; exact heap_alloc_new w2 _
    have c0 : ∀ j, (w3.drewN j).cell? ⟨w2.heap.size, 0, none⟩ = some (.int .i64 q) := fun j => (wr_at (e0 j)).1
    have c1 : ∀ j, (w3.drewN j).cell? ⟨w2.heap.size, 1, none⟩ = some (.int .i64 x) := fun j => (wr_at (e0 j)).2
    clear e0
    have d1 : w3.cell? ⟨w2.heap.size, 1, none⟩ = some (.int .i64 x) := c1 0
    go_upto_region 6 with fail
    rw [← hw3]
    clear hw3
    go_upto_region 7 with fail
    go_quiet (fail)
    go_wp2_with fail
    exact bodyPost_ret (v := .tuple #[.slice none 0 0, .int .i64 0, .slice none 0 0, .int .i64 q, .int .i64 x]) (by simp [results, Try.results41, go_sem]) rfl ⟨below_drewN HF3.out _, rfl⟩
  | ok t st =>
    go_wp2_with fail
    refine HC.out.mono ?_
    rintro e w2 ⟨B, cb, SA, sc, rfl, h2, t2, s2⟩
    have H2 := Lib.hid (And.intro h2 (And.intro t2 s2))
    obtain ⟨w3, hw3⟩ : ∃ w3, w3 = w2.alloc (.cells #[.int .i64 0, .int .i64 0] 120) := ⟨_, rfl⟩
    have hb3 : Below w2.heap.size w2 w3 := by rw [hw3]; exact ext_alloc (Below.refl _ _) _
    have HF3 : Hid (Below w.heap.size w w3) := Lib.hid (ext_trans (frA_below HB1.out HW.out s2.fr) hb3)
    have H3 : Hid (RdO w3 w.heap.size A c L s0 st SA sc) := Lib.hid (h2.later hb3)
    have T3 : Hid (TyA w3 w3.heap.size B t) := Lib.hid ((t2.t.below hb3).more hb3.size)
    have e0 : w3.heap[w2.heap.size]? = some (.cells #[.int .i64 0, .int .i64 0] 120 (0, 0)) := by rw [hw3]; exact heap_alloc_new w2 _
    have d1 : w3.cell? ⟨w2.heap.size, 1, none⟩ = some (.int .i64 0) := (wr_at e0).2
    clear e0
    have HLn : Hid (t.length ≤ 100000) := Lib.hid (by
      have h := HG.out.le
      have h4 := HG.out.top
      have h5 := HL.out
      omega)
    clear h2 t2 s2 hb3
    go_upto_region 6 with fail
    rw [← hw3]
    clear hw3
    by_cases hl : 10000 < t.length
    · have hl2 : (t.length : Int) > 10000 := by omega
      have HF : Hid (rightB t = false) := Lib.hid (by
        unfold rightB
        rw [decide_eq_false (by omega)]
        rfl)
      clear hl
      go_wp2_with fail
      exact bodyPost_ret (v := .tuple #[.slice none 0 0, .int .i64 0, .slice none 0 0, .int .i64 p, .int .i64 3]) (by simp [results, Try.results41, go_sem]) rfl ⟨HF3.out, .inr ⟨HF.out, 3, by decide, by decide, rfl⟩⟩
    · have hl2 : ¬ (t.length : Int) > 10000 := by omega
      clear hl
      have HRg := Lib.hid (right_any B cb t w3 T3.out (by have := HLn.out; omega) fun x hx => by
        have h1 := HNa.out x hx
        have h2 := HM.out
        omega)
      cases hr : rightB t with
      | false =>
        rw [hr] at HRg
        have HR0 := Lib.hid hr
        clear hr
        go_wp2_with fail
        refine HRg.out.mono ?_
        rintro e w4 ⟨rfl, hb4⟩
        go_wp2_with fail
        exact bodyPost_ret (v := .tuple #[.slice none 0 0, .int .i64 0, .slice none 0 0, .int .i64 p, .int .i64 4]) (by simp [results, Try.results41, go_sem]) rfl ⟨ext_trans HF3.out hb4, .inr ⟨HR0.out, 4, by decide, by decide, rfl⟩⟩
      | true =>
        rw [hr] at HRg
        have HR0 := Lib.hid hr
        clear hr
        go_wp2_with fail
        refine HRg.out.mono ?_
        rintro e w4 ⟨rfl, hb4⟩
        have H4 : Hid (RdO w4 w.heap.size A c L s0 st SA sc) := Lib.hid (H3.out.later hb4)
        have T4 : Hid (TyA w4 w4.heap.size B t) := Lib.hid ((T3.out.below hb4).more hb4.size)
        have HF4 := Lib.hid (ext_trans HF3.out hb4)
        have k1 : ∀ j, (w4.drewN j).cell? ⟨w.heap.size, 1, none⟩ = some (.int .i64 st.pos) := fun j => (H4.out.m.r.later (below_drewN (Below.refl _ _) j)).at_.2.1
        have k3 : ∀ j, (w4.drewN j).cell? ⟨w.heap.size, 3, none⟩ = some (.slice SA st.si.length sc) := fun j => (H4.out.m.r.later (below_drewN (Below.refl _ _) j)).at_.2.2.2
        clear hb4
        go_upto_region 12 with fail
        go_quiet (fail)
        go_wp2_with fail
        exact bodyPost_ret (v := .tuple #[.slice B t.length cb, .int .i64 st.pos, .slice SA st.si.length sc, .int .i64 0, .int .i64 0]) (by simp [results, Try.results41, go_sem]) rfl ⟨below_drewN HF4.out _, .inl ⟨HR0.out, B, cb, SA, sc, rfl, T4.out.drewN _, (OwnL.lower H4.out.o (Nat.le_succ _)).below (below_drewN (Below.refl _ _) _) (Nat.le_refl _)⟩⟩
end Go.Proofs.Ytblfeokjlecgkaa

/- Types that are read from tokens: their sites are the tokens' ?s, one after another; the ?s of a type bear just their numbers. -/
namespace Go.Proofs.Ytblfeokjlecgkaa

/-- So many numbers from one on. -/
def figsL (s : Int) : Nat → List Int
  | 0 => []
  | n + 1 => s :: figsL (s + 1) n
theorem figsL_add (s : Int) (m n : Nat) : figsL s (m + n) = figsL s m ++ figsL (s + (m : Int)) n := by
  induction m generalizing s with
  | zero => simp [figsL]
  | succ m ih =>
    rw [show m + 1 + n = (m + n) + 1 by omega]
    simp only [figsL, List.cons_append]
    rw [ih, show s + 1 + (m : Int) = s + ((m + 1 : Nat) : Int) by omega]
theorem figsL_mem {s x : Int} {n : Nat} (h : x ∈ figsL s n) : s ≤ x ∧ x < s + (n : Int) := by
  induction n generalizing s with
  | zero => cases h
  | succ n ih =>
    rcases List.mem_cons.1 h with rfl | h
    · omega
    · have := ih h
      omega
theorem figsL_nodup (s : Int) (n : Nat) : (figsL s n).Nodup := by
  induction n generalizing s with
  | zero => simp [figsL]
  | succ n ih =>
    refine List.nodup_cons.2 ⟨fun h => ?_, ih _⟩
    have := figsL_mem h
    omega
theorem figsL_len (s : Int) (n : Nat) : (figsL s n).length = n := by
  induction n generalizing s with
  | zero => rfl
  | succ n ih => simp [figsL, ih]

/-- The numbers of a type's ?s. -/
def dqsN (t : List Nd) : List Int := (t.filter fun x => x.k == 0).map (·.n)
theorem dqsN_app (a b : List Nd) : dqsN (a ++ b) = dqsN a ++ dqsN b := by simp [dqsN]
theorem dqsN_name (s : ByteArray) (t : List Nd) : dqsN (nameR s t) = dqsN t := by
  cases t with
  | nil => rfl
  | cons x t =>
    show dqsN (x.name s :: t) = dqsN (x :: t)
    unfold dqsN
    rw [List.filter_cons, List.filter_cons]
    show List.map _ (if (x.k == 0) = true then x.name s :: _ else _) = _
    split <;> rfl
theorem dqsN_out {k : Int} {s : ByteArray} {n : Int} (h : k ≠ 0) (t : List Nd) : dqsN (⟨k, s, n⟩ :: t) = dqsN t := by
  unfold dqsN
  rw [List.filter_cons]
  have : (k == 0) = false := by simpa using h
  simp [this]
abbrev dqsP (fs : List (ByteArray × List Nd)) : List Int := fs.flatMap fun p => dqsN p.2
theorem dqsN_flat (fs : List (ByteArray × List Nd)) : dqsN (fs.flatMap fun p => nameR p.1 p.2) = dqsP fs := by
  induction fs with
  | nil => rfl
  | cons p fs ih => rw [List.flatMap_cons, dqsN_app, dqsN_name, ih]; rfl
theorem insP_permX (p : ByteArray × List Nd) (l : List (ByteArray × List Nd)) : (insP p l).Perm (p :: l) := by
  induction l with
  | nil => exact List.Perm.refl _
  | cons q l ih =>
    unfold insP
    split
    · exact List.Perm.refl _
    · exact (ih.cons q).trans (List.Perm.swap p q l)
theorem srtP_perm (l acc : List (ByteArray × List Nd)) : (l.foldl (fun a p => insP p a) acc).Perm (l ++ acc) := by
  induction l generalizing acc with
  | nil => exact List.Perm.refl _
  | cons p l ih =>
    rw [List.foldl_cons]
    refine (ih _).trans ?_
    refine ((insP_permX p acc).append_left l).trans ?_
    rw [List.cons_append]
    exact List.perm_middle
theorem dqsN_row {k : Int} (hk : k ≠ 0) (fs : List (ByteArray × List Nd)) : (dqsN (rowL k fs)).Perm (dqsP fs) := by
  unfold rowL
  rw [dqsN_out hk, dqsN_flat]
  have h := srtP_perm fs []
  rw [List.append_nil] at h
  exact h.flatMap_right _

/-- ?s that stand one after another, from a place to another one. -/
def SiR (L : List Tk) (a b : Nat) (m : List (Nat × Nat)) : Prop := ∃ ps : List Nat, m = ps.map (fun p => ((hereT L p).f, (hereT L p).t)) ∧ ps.Pairwise (· < ·) ∧ ∀ p ∈ ps, a ≤ p ∧ p < b ∧ isS L p sAny = true
theorem SiR.nil (L : List Tk) (a b : Nat) : SiR L a b [] := ⟨[], rfl, List.Pairwise.nil, fun p hp => by cases hp⟩
theorem SiR.more {L : List Tk} {a b a' b' : Nat} {m : List (Nat × Nat)} (h : SiR L a b m) (ha : a' ≤ a) (hb : b ≤ b') : SiR L a' b' m := by
  obtain ⟨ps, h1, h2, h3⟩ := h
  exact ⟨ps, h1, h2, fun p hp => by have := h3 p hp; exact ⟨by omega, by omega, this.2.2⟩⟩
theorem SiR.app {L : List Tk} {a b c d : Nat} {m n : List (Nat × Nat)} (h : SiR L a b m) (k : SiR L c d n) (hab : a ≤ c) (hbc : b ≤ c) (hcd : b ≤ d) : SiR L a d (m ++ n) := by
  obtain ⟨ps, h1, h2, h3⟩ := h
  obtain ⟨qs, k1, k2, k3⟩ := k
  refine ⟨ps ++ qs, by rw [h1, k1, List.map_append], List.pairwise_append.2 ⟨h2, k2, fun p hp q hq => ?_⟩, fun p hp => ?_⟩
  · have := h3 p hp
    have := k3 q hq
    omega
  · rcases List.mem_append.1 hp with hp | hp
    · have := h3 p hp
      exact ⟨by omega, by omega, this.2.2⟩
    · have := k3 p hp
      exact ⟨by omega, by omega, this.2.2⟩

/-- What reading a type comes to; D: the numbers of ?s that were there; N: behind it no token is. -/
def Sites (L : List Tk) (s0 : Int) (N : Nat) (D : List Int) (st : RS) : RRes → Prop
  | .ok t st2 => st2.pos ≤ N ∧ st.pos < st2.pos ∧ ∃ m, st2.si = st.si ++ m ∧ SiR L st.pos st2.pos m ∧ (dqsN t).Perm (D ++ figsL (s0 + (st.si.length : Int)) m.length)
  | .bad _ _ => True
def SitesW (L : List Tk) (s0 : Int) (N : Nat) (W : RS → RRes) : Prop := ∀ st, st.pos ≤ N → Sites L s0 N [] st (W st)
def SitesO (L : List Tk) (s0 : Int) (N : Nat) (W : Option (RS → RRes)) : Prop := ∀ W', W = some W' → SitesW L s0 N W'

theorem isS_ne {L : List Tk} {p : Nat} {s : ByteArray} (h : isS L p s = true) : (hereT L p).k ≠ 0 := by
  unfold isS at h
  simp only [Bool.and_eq_true, beq_iff_eq] at h
  rw [h.1]; decide
section
variable {L : List Tk} {s0 : Int} {N : Nat} (hN : ∀ p, (hereT L p).k ≠ 0 → p < N)
include hN
theorem rowF_sites {W : RS → RRes} (hW : SitesW L s0 N W) (k lk : Int) (hk0 : k ≠ 0) (_hk : lk ≠ 0) (btw fin : ByteArray) : ∀ (f : Nat) (fs : List (ByteArray × List Nd)) (st : RS), st.pos ≤ N → Sites L s0 N (dqsP fs) st (rowF L W k lk btw fin f fs st) := by
  intro f
  induction f with
  | zero => intro fs st hp; trivial
  | succ f ih =>
    intro fs st hp
    unfold rowF
    split
    · trivial
    · rename_i hn
      split
      · trivial
      · split
        · trivial
        · split
          · trivial
          · rename_i hc
            have hc2 := hN _ (isS_ne (by simpa using hc))
            have hg := hW ⟨st.pos + 2, st.si⟩ (by dsimp only; omega)
            split
            · trivial
            · rename_i t st2 he
              rw [he] at hg
              obtain ⟨g1, g2, m, g3, g4, g5⟩ := hg
              dsimp only at g2 g3 g4 g5
              have g6 : (dqsP (fs ++ [((hereT L st.pos).s, t)])).Perm (dqsP fs ++ figsL (s0 + (st.si.length : Int)) m.length) := by
                unfold dqsP
                rw [List.flatMap_append, List.flatMap_singleton]
                exact (g5.trans (by simp)).append_left _
              split
              · rename_i hb
                have hb2 := hN _ (isS_ne hb)
                have h6 := ih (fs ++ [((hereT L st.pos).s, t)]) ⟨st2.pos + 1, st2.si⟩ (by dsimp only; omega)
                cases hr : rowF L W k lk btw fin f (fs ++ [((hereT L st.pos).s, t)]) ⟨st2.pos + 1, st2.si⟩ with
                | bad p e => trivial
                | ok t3 st3 =>
                  rw [hr] at h6
                  obtain ⟨k1, k2, m2, k3, k4, k5⟩ := h6
                  dsimp only at k2 k3 k4 k5
                  refine ⟨k1, by omega, m ++ m2, by rw [k3, g3, List.append_assoc], g4.app k4 (by omega) (by omega) (by omega) |>.more (by omega) (Nat.le_refl _), k5.trans ?_⟩
                  rw [List.length_append, figsL_add, g3, List.length_append, ← List.append_assoc, show s0 + ((st.si.length + m.length : Nat) : Int) = s0 + (st.si.length : Int) + (m.length : Int) by omega]
                  exact g6.append_right _
              · split
                · rename_i hf
                  have hf2 := hN _ (isS_ne hf)
                  exact ⟨hf2, by dsimp only; omega, m, g3, g4.more (by omega) (by dsimp only; omega), (dqsN_row hk0 _).trans g6⟩
                · trivial

theorem atomF_sites {W : Option (RS → RRes)} (hW : SitesO L s0 N W) (st : RS) (_hp : st.pos ≤ N) : Sites L s0 N [] st (atomF L s0 W st) := by
  unfold atomF
  split
  · rename_i k hk
    have : (hereT L st.pos).k ≠ 0 := by
      intro e
      rw [e] at hk
      simp at hk
    have h1 := hN _ this
    refine ⟨h1, by dsimp only; omega, [], by simp, SiR.nil _ _ _, ?_⟩
    rw [dqsN_out (by omega)]
    exact List.Perm.refl _
  · split
    · rename_i h
      have h1 := hN _ (isS_ne h)
      exact ⟨h1, by dsimp only; omega, [((hereT L st.pos).f, (hereT L st.pos).t)], rfl, ⟨[st.pos], rfl, List.pairwise_singleton _ _, fun p hp => by
        rw [List.mem_singleton] at hp
        subst hp
        exact ⟨Nat.le_refl _, Nat.lt_succ_self _, h⟩⟩, List.Perm.refl _⟩
    · split
      · rename_i h
        have h1 := hN _ (isS_ne h)
        split
        · trivial
        · rename_i _ W'
          have hg := hW W' rfl ⟨st.pos + 1, st.si⟩ (by dsimp only; omega)
          split
          · trivial
          · rename_i t st2 he
            rw [he] at hg
            obtain ⟨g1, g2, m, g3, g4, g5⟩ := hg
            dsimp only at g2 g3 g4 g5
            split
            · rename_i hc
              have hc2 := hN _ (isS_ne hc)
              exact ⟨hc2, by dsimp only; omega, m, g3, g4.more (by omega) (by dsimp only; omega), g5⟩
            · trivial
      · split
        · rename_i h
          have h1 := hN _ (isS_ne h)
          split
          · trivial
          · rename_i _ W'
            split
            · rename_i hc
              have hc2 := hN _ (isS_ne hc)
              exact ⟨hc2, by dsimp only; omega, [], by simp, SiR.nil _ _ _, List.Perm.refl _⟩
            · have hg := rowF_sites hN (hW W' rfl) 6 1 (by decide) (by decide) sCo sRb (L.length + 1) [] ⟨st.pos + 1, st.si⟩ (by dsimp only; omega)
              cases hr : rowF L W' 6 1 sCo sRb (L.length + 1) [] ⟨st.pos + 1, st.si⟩ with
              | bad p e => trivial
              | ok t3 st3 =>
                rw [hr] at hg
                obtain ⟨g1, g2, m, g3, g4, g5⟩ := hg
                dsimp only at g2 g3 g4 g5
                exact ⟨g1, by omega, m, g3, g4.more (by omega) (Nat.le_refl _), g5⟩
        · split
          · rename_i h
            have h1 := hN _ (isS_ne h)
            split
            · trivial
            · rename_i _ W'
              have hg := rowF_sites hN (hW W' rfl) 7 2 (by decide) (by decide) sBar sRk (L.length + 1) [] ⟨st.pos + 1, st.si⟩ (by dsimp only; omega)
              cases hr : rowF L W' 7 2 sBar sRk (L.length + 1) [] ⟨st.pos + 1, st.si⟩ with
              | bad p e => trivial
              | ok t3 st3 =>
                rw [hr] at hg
                obtain ⟨g1, g2, m, g3, g4, g5⟩ := hg
                dsimp only at g2 g3 g4 g5
                exact ⟨g1, by omega, m, g3, g4.more (by omega) (Nat.le_refl _), g5⟩
          · trivial

theorem arrF_sites {W : Option (RS → RRes)} (hW : SitesO L s0 N W) {st : RS} {r : RRes} (hr : Sites L s0 N [] st r) : Sites L s0 N [] st (arrF L W r) := by
  unfold arrF
  split
  · trivial
  · rename_i a st1
    obtain ⟨g1, g2, m, g3, g4, g5⟩ := hr
    split
    · rename_i h
      have h1 := hN _ (isS_ne h)
      split
      · trivial
      · rename_i _ W'
        have hg := hW W' rfl ⟨st1.pos + 1, st1.si⟩ (by dsimp only; omega)
        split
        · trivial
        · rename_i b st2 he
          rw [he] at hg
          obtain ⟨k1, k2, m2, k3, k4, k5⟩ := hg
          dsimp only at k2 k3 k4 k5
          refine ⟨k1, by omega, m ++ m2, by rw [k3, g3, List.append_assoc], g4.app k4 (by omega) (by omega) (by omega), ?_⟩
          unfold arrowN
          rw [dqsN_out (by decide), dqsN_app, List.length_append, figsL_add]
          refine (g5.append k5).trans ?_
          rw [g3, List.length_append, show s0 + ((st.si.length + m.length : Nat) : Int) = s0 + (st.si.length : Int) + (m.length : Int) by omega]
          exact List.Perm.refl _
    · exact ⟨g1, g2, m, g3, g4, g5⟩

theorem wholeF_sites : ∀ d, SitesW L s0 N (wholeF L s0 d) := by
  intro d
  induction d with
  | zero => exact fun st hp => arrF_sites hN (fun _ h => by cases h) (atomF_sites hN (fun _ h => by cases h) st hp)
  | succ d ih =>
    intro st hp
    have hO : SitesO L s0 N (some (wholeF L s0 d)) := fun _ h => by cases h; exact ih
    exact arrF_sites hN hO (atomF_sites hN hO st hp)
end
end Go.Proofs.Ytblfeokjlecgkaa

/- Tokens of a text: each sign is a sign of the text, they rise; the sites of what is read are ?s of the text. -/
namespace Go.Proofs.Ytblfeokjlecgkaa

theorem btw_ge (s : ByteArray) (k : Nat) : k ≤ btw s k := by unfold btw; omega
theorem oneR_lo {s : ByteArray} {k : Nat} {hk : k < s.size} {t : Tk} (h : OneR s k hk t true) : t.f = k ∧ k < t.t ∧ t.k ≠ 0 := by
  obtain ⟨h1, h2, _⟩ := oneR_le h
  refine ⟨h1, h2, ?_⟩
  rcases h with ⟨_, h⟩ | ⟨_, h⟩
  · rw [(h rfl).1]; decide
  · unfold oneF at h
    repeat' split at h
    all_goals (injection h with a b; subst a; dsimp only; omega)
theorem signAt_one {s : ByteArray} {k : Nat} {c : UInt8} (h : signAt s k ⟨#[c]⟩ = true) : ∃ hk : k < s.size, s[k]'hk = c := by
  unfold signAt at h
  simp only [Bool.and_eq_true, decide_eq_true_eq, beq_iff_eq] at h
  obtain ⟨h1, h2⟩ := h
  have h1' : k + 1 ≤ s.size := h1
  have hk : k < s.size := by omega
  refine ⟨hk, ?_⟩
  have e : (s.extract k (k + 1)).data.toList = [c] := by
    rw [Go.ByteArray.toList_eq, Go.ByteArray.toList_eq] at h2
    exact h2
  have e2 : (s.extract k (k + 1)).data.toList = [s[k]'hk] := by
    have : (s.extract k (k + 1)).data = s.data.extract k (k + 1) := by simp
    rw [this, Array.toList_extract, List.extract_eq_take_drop]
    have hd : s.data.toList.drop k = (s[k]'hk) :: s.data.toList.drop (k + 1) := List.drop_eq_getElem_cons (show k < s.data.toList.length from hk)
    rw [hd, show k + 1 - k = 1 by omega]
    rfl
  rw [e2] at e
  injection e
theorem oneR_any {s : ByteArray} {k : Nat} {hk : k < s.size} {t : Tk} (h : OneR s k hk t true) (h5 : t.k = 5) (hs : t.s.toList = sAny.toList) : t.t = k + 1 ∧ s[k]'hk = 63 := by
  rcases h with ⟨_, h⟩ | ⟨_, h⟩
  · have := (h rfl).1
    omega
  · unfold oneF at h
    repeat' split at h
    all_goals (injection h with a b; subst a; dsimp only at h5 hs ⊢)
    all_goals try omega
    have he : signB s k = sAny := by
      rw [Go.ByteArray.toList_eq, Go.ByteArray.toList_eq] at hs
      exact ByteArray.ext (Array.toList_inj.1 hs)
    refine ⟨by rw [he]; rfl, ?_⟩
    unfold signB signFrom at he
    cases hf : (signsL.drop 0).find? (signAt s k) with
    | none => rw [hf] at he; exact absurd (congrArg ByteArray.size he) (by decide)
    | some x =>
      rw [hf] at he
      simp only [Option.getD_some] at he
      have hx := List.find?_some hf
      rw [he] at hx
      exact (signAt_one hx).2

/-- Of tokens from a place on: none is the end; they rise; ?s are ?s of the text. -/
theorem toksR_all {s : ByteArray} {k : Nat} {l : List Tk} (h : ToksR s k l) : (l.Pairwise fun a b => a.f < b.f) ∧ ∀ t ∈ l, k ≤ t.f ∧ t.k ≠ 0 ∧ (t.k = 5 → t.s.toList = sAny.toList → t.t = t.f + 1 ∧ ∃ hk : t.f < s.size, s[t.f]'hk = 63) := by
  induction h with
  | stop k h => exact ⟨List.Pairwise.nil, fun t ht => by cases ht⟩
  | step k hk t l h1 h2 h3 ih =>
    obtain ⟨ih1, ih2⟩ := ih
    obtain ⟨a1, a2, a3⟩ := oneR_lo h1
    have hb := btw_ge s t.t
    refine ⟨List.pairwise_cons.2 ⟨fun b hb' => ?_, ih1⟩, fun x hx => ?_⟩
    · have := (ih2 b hb').1
      omega
    · rcases List.mem_cons.1 hx with rfl | hx
      · refine ⟨by omega, a3, fun h5 hs => ?_⟩
        obtain ⟨b1, b2⟩ := oneR_any h1 h5 hs
        subst a1
        exact ⟨b1, hk, b2⟩
      · have := ih2 x hx
        exact ⟨by omega, this.2⟩
theorem hereT_app {l : List Tk} {e : Tk} (he : e.k = 0) {p : Nat} (h : (hereT (l ++ [e]) p).k ≠ 0) : ∃ hp : p < l.length, hereT (l ++ [e]) p = l[p] := by
  have hp : p < l.length := by
    rcases Nat.lt_or_ge p l.length with hp | hp
    · exact hp
    · exfalso
      apply h
      unfold hereT
      rcases Nat.lt_or_ge l.length p with hq | hq
      · rw [List.getElem?_eq_none (by simp; omega)]
        rfl
      · obtain rfl : p = l.length := by omega
        rw [List.getElem?_append_right (Nat.le_refl _)]
        simpa using he
  refine ⟨hp, ?_⟩
  unfold hereT
  rw [List.getElem?_append_left hp, List.getElem?_eq_getElem hp]
  rfl

/-- A site is the bytes of a ?, and rises above the one ahead of it. -/
def SiteOk (s : ByteArray) (m : List (Nat × Nat)) : Prop := (∀ x ∈ m, x.2 = x.1 + 1 ∧ ∃ hk : x.1 < s.size, s[x.1]'hk = 63) ∧ m.Pairwise fun a b => a.1 < b.1
theorem sites_ok {s : ByteArray} {k : Nat} {l : List Tk} (h : ToksR s k l) {a b : Nat} {m : List (Nat × Nat)} (hm : SiR (l ++ [endT s]) a b m) : SiteOk s m := by
  obtain ⟨h1, h2⟩ := toksR_all h
  obtain ⟨ps, rfl, p1, p2⟩ := hm
  have key : ∀ p ∈ ps, ∃ hp : p < l.length, hereT (l ++ [endT s]) p = l[p] := fun p hp => hereT_app rfl (isS_ne (p2 p hp).2.2)
  refine ⟨fun x hx => ?_, ?_⟩
  · obtain ⟨p, hp, rfl⟩ := List.mem_map.1 hx
    obtain ⟨hlt, e⟩ := key p hp
    have hs := (p2 p hp).2.2
    unfold isS at hs
    simp only [Bool.and_eq_true, beq_iff_eq] at hs
    rw [e] at hs ⊢
    exact (h2 _ (List.getElem_mem hlt)).2.2 hs.1 hs.2
  · rw [List.pairwise_map]
    refine List.Pairwise.imp_of_mem ?_ p1
    intro p q hp hq hpq
    obtain ⟨hlt, e⟩ := key p hp
    obtain ⟨hlt2, e2⟩ := key q hq
    rw [e, e2]
    exact (List.pairwise_iff_getElem.1 h1) p q hlt hlt2 hpq

/-- All that the law tells of what is read. -/
theorem read_sites {s : ByteArray} {k : Nat} {l : List Tk} (h : ToksR s k l) {s0 : Int} {d : Nat} {t : List Nd} {st : RS} (hw : wholeF (l ++ [endT s]) s0 d ⟨0, []⟩ = .ok t st) :
    0 < st.pos ∧ st.pos ≤ l.length ∧ SiteOk s st.si ∧ (dqsN t).Perm (figsL s0 st.si.length) := by
  have hN : ∀ p, (hereT (l ++ [endT s]) p).k ≠ 0 → p < l.length := fun p hp => (hereT_app rfl hp).1
  have hg := wholeF_sites (s0 := s0) hN d ⟨0, []⟩ (Nat.zero_le _)
  rw [hw] at hg
  obtain ⟨g1, g2, m, g3, g4, g5⟩ := hg
  simp only [List.nil_append] at g3 g5
  subst g3
  simp only [List.length_nil] at g5
  exact ⟨g2, g1, sites_ok h g4, by simpa using g5⟩

theorem dyn_in {t : List Nd} {s0 : Int} {n : Nat} (h : (dqsN t).Perm (figsL s0 n)) {x : Nd} (hx : x ∈ t) (hk : (x.k == 0) = true) : s0 ≤ x.n ∧ x.n < s0 + (n : Int) :=
  figsL_mem (h.mem_iff.1 (List.mem_map.2 ⟨x, List.mem_filter.2 ⟨hx, hk⟩, rfl⟩))
theorem dyn_two {t : List Nd} {s0 : Int} {n : Nat} (h : (dqsN t).Perm (figsL s0 n)) {i j : Nat} {x y : Nd} (hi : t[i]? = some x) (hj : t[j]? = some y) (hij : i < j) (hx : (x.k == 0) = true) (hy : (y.k == 0) = true) : x.n ≠ y.n := by
  have h1 : (dqsN t).Nodup := h.nodup_iff.2 (figsL_nodup s0 n)
  unfold dqsN at h1
  rw [List.Nodup, List.pairwise_map, List.pairwise_filter, List.pairwise_iff_getElem] at h1
  obtain ⟨hi1, rfl⟩ := List.getElem?_eq_some_iff.1 hi
  obtain ⟨hj1, rfl⟩ := List.getElem?_eq_some_iff.1 hj
  exact h1 i j hi1 hj1 hij hx hy
/-- How many ?s there are up to a place. -/
def dqsC (t : List Nd) (i : Nat) : Nat := (dqsN (t.take i)).length
theorem dqsC_succ {t : List Nd} {i : Nat} {x : Nd} (h : t[i]? = some x) : dqsC t (i + 1) = dqsC t i + if (x.k == 0) = true then 1 else 0 := by
  obtain ⟨hi, rfl⟩ := List.getElem?_eq_some_iff.1 h
  unfold dqsC
  rw [List.take_succ_eq_append_getElem hi, dqsN_app, List.length_append]
  congr 1
  unfold dqsN
  rw [List.filter_cons]
  split <;> rfl
theorem dqsC_le (t : List Nd) (i : Nat) : dqsC t i ≤ i := by
  unfold dqsC dqsN
  rw [List.length_map]
  exact Nat.le_trans (List.length_filter_le _ _) (List.length_take_le _ _)
theorem dqsC_all {t : List Nd} {s0 : Int} {n : Nat} (h : (dqsN t).Perm (figsL s0 n)) : dqsC t t.length = n := by
  unfold dqsC
  rw [List.take_length, h.length_eq, figsL_len]
end Go.Proofs.Ytblfeokjlecgkaa

/- Types that are read from tokens: the live question's text, its tokens, and what they are read as. -/
namespace Go.Proofs.Ytblfeokjlecgkaa

theorem toksF_eq {s : ByteArray} {k : Nat} {l : List Tk} (h : ToksR s k l) : ∀ (f : Nat) (l' : List Tk), toksF s f k = some l' → l = l' := by
  induction h with
  | stop k h =>
    intro f l' e
    cases f with
    | zero => cases e
    | succ f =>
      rw [toksF, dif_neg h] at e
      injection e
  | step k hk t l h1 h2 h3 ih =>
    intro f l' e
    cases f with
    | zero => cases e
    | succ f =>
      rw [toksF, dif_pos hk] at e
      by_cases hq : (s[k]'hk).toNat = 34
      · rw [if_pos hq] at e
        cases e
      · rw [if_neg hq] at e
        rcases h1 with ⟨hq2, _⟩ | ⟨_, h1⟩
        · exact absurd hq2 hq
        · rw [← h1] at e
          dsimp only at e
          cases hr : toksF s f (btw s t.t) with
          | none => rw [hr] at e; cases e
          | some r =>
            rw [hr] at e
            injection e with e
            rw [← e, ih f r hr]

def lv4S : ByteArray := ⟨#[63, 32, 45, 62, 32, 123, 98, 58, 32, 63, 44, 32, 97, 58, 32, 105, 110, 116, 125]⟩
def lv4K : List Tk := [⟨5, ⟨#[63]⟩, 0, 1⟩, ⟨5, ⟨#[45, 62]⟩, 2, 4⟩, ⟨5, ⟨#[123]⟩, 5, 6⟩, ⟨1, ⟨#[98]⟩, 6, 7⟩, ⟨5, ⟨#[58]⟩, 7, 8⟩, ⟨5, ⟨#[63]⟩, 9, 10⟩, ⟨5, ⟨#[44]⟩, 10, 11⟩, ⟨1, ⟨#[97]⟩, 12, 13⟩, ⟨5, ⟨#[58]⟩, 13, 14⟩, ⟨6, ⟨#[105, 110, 116]⟩, 15, 18⟩, ⟨5, ⟨#[125]⟩, 18, 19⟩]
def lv4L : List Tk := lv4K ++ [endT lv4S]
def lv4T : List Nd := [⟨5, ByteArray.empty, 0⟩, ⟨0, ByteArray.empty, 1⟩, ⟨6, ByteArray.empty, 2⟩, ⟨1, ⟨#[97]⟩, 0⟩, ⟨0, ⟨#[98]⟩, 2⟩]
theorem lv4_toks : toksF lv4S 20 (btw lv4S 0) = some lv4K := by decide +kernel
theorem lv4_all {l : List Tk} (h : ToksR lv4S (btw lv4S 0) l) : l = lv4K := toksF_eq h _ _ lv4_toks
theorem lv4_read : wholeF lv4L 1 99 ⟨0, []⟩ = .ok lv4T ⟨11, [(0, 1), (9, 10)]⟩ := by decide +kernel
theorem lv4_deep : wholeF lv4L 1 0 ⟨2, []⟩ = .bad 2 4 := by decide +kernel
theorem lv4_right : rightB lv4T = true := by decide +kernel
theorem lv4_tree : treeP lv4T 100 0 = some 5 := by decide +kernel
theorem lv4_pr : (⟨(prS 100 lv4T).toArray⟩ : ByteArray) = ⟨#[63, 32, 45, 62, 32, 123, 97, 58, 32, 105, 110, 116, 44, 32, 98, 58, 32, 63, 125]⟩ := by decide +kernel
theorem lv4_okA : okAll lv4T := by
  have : (lv4T.all fun x => okNode x.k x.n) = true := by decide +kernel
  exact fun x hx => List.all_eq_true.1 this x hx
theorem lv4_okN : ∀ x ∈ lv4T, x.Ok := fun x hx => by
  have : (lv4T.all fun x => decide (-100 ≤ x.k) && decide (x.k ≤ 100) && decide (-100 ≤ x.n) && decide (x.n ≤ 100) && decide (x.s.size ≤ 100)) = true := by decide +kernel
  have := List.all_eq_true.1 this x hx
  simp only [Bool.and_eq_true, decide_eq_true_eq] at this
  obtain ⟨⟨⟨⟨a, b⟩, c⟩, d⟩, e⟩ := this
  exact ⟨by omega, by omega, by omega, by omega, by omega⟩
end Go.Proofs.Ytblfeokjlecgkaa
