/- Laid together by a tool from the texts of this seat: RP07 RField UOpensP OpenA OpenTys OpenG. Conditions: each theorem's own. -/
import Derived.Test.YtblfeokjlecgkaaO01
import Derived.Test.YtblfeokjlecgkaaO02
import Derived.Test.YtblfeokjlecgkaaO03
import Derived.Test.YtblfeokjlecgkaaO04
import Derived.Test.YtblfeokjlecgkaaO05
import Derived.Test.YtblfeokjlecgkaaO06
import Derived.Test.YtblfeokjlecgkaaO07
import Derived.Test.YtblfeokjlecgkaaO08
import Derived.Test.YtblfeokjlecgkaaO09
import Derived.Test.YtblfeokjlecgkaaO10
import Derived.Test.YtblfeokjlecgkaaO11
import Derived.Test.YtblfeokjlecgkaaO12
import Derived.Test.YtblfeokjlecgkaaO13
import Derived.Test.YtblfeokjlecgkaaO14
import Derived.Test.YtblfeokjlecgkaaO15
import Derived.Test.YtblfeokjlecgkaaO16
import Derived.Test.YtblfeokjlecgkaaO17
import Derived.Test.YtblfeokjlecgkaaO18
import Derived.Test.YtblfeokjlecgkaaO19
import Derived.Test.YtblfeokjlecgkaaO20
import Derived.Test.YtblfeokjlecgkaaO21
import Derived.Test.YtblfeokjlecgkaaO22
import Derived.Test.YtblfeokjlecgkaaO23
import Derived.Test.YtblfeokjlecgkaaO24
import Derived.Test.YtblfeokjlecgkaaO25
import Derived.Test.YtblfeokjlecgkaaO26
import Derived.Test.YtblfeokjlecgkaaO27
import Derived.Test.YtblfeokjlecgkaaO28
import Derived.Test.YtblfeokjlecgkaaO29
import Derived.Test.YtblfeokjlecgkaaO30
import Derived.Test.YtblfeokjlecgkaaO31
import Derived.Test.YtblfeokjlecgkaaO32
import Derived.Test.YtblfeokjlecgkaaQ01
import Derived.Test.YtblfeokjlecgkaaRows
import Derived.ProofKit
import Derived.LaidMore
import Derived.OpenShut
import Derived.Stop.Joined
import Derived.Stop.LaidErr
import Derived.Deep.Slices
import Derived.Deep.Fields
/- leavenref07.Plain, walked. -/
namespace Go.Proofs.Ytblfeokjlecgkaa
open Go.RowKit

def plain07B (xs : List Nd) (m : Int) : Bool := fewB xs m && plainB xs
theorem plain07_parts {xs : List Nd} {m : Int} (h : plain07B xs m = true) : (xs.length : Int) ≤ m ∧ rightB xs = true ∧ ∀ x ∈ xs, plN x = true := by
  unfold plain07B at h
  rw [Bool.and_eq_true] at h
  obtain ⟨h1, _, h3⟩ := fewB_parts h.1
  refine ⟨h1, by rw [← right_eq]; exact h3, fun x hx => ?_⟩
  have h4 := h.2
  unfold plainB at h4
  rw [List.all_eq_true] at h4
  have := h4 x hx
  unfold isVarB at this
  unfold plN
  simpa using this

set_option maxRecDepth 100000 in
set_option maxHeartbeats 2000000 in
theorem plain07_any (A : Option Addr) (c : Nat) (xs : List Nd) (m : Int) (w : World) (ha : TyA w w.heap.size A xs) (hl : xs.length ≤ 9223372036854775807) (hs : ∀ x ∈ xs, x.s.size ≤ 9223372036854775807) :
    Calls Try.prog 31 #[.slice A xs.length c, .int .i64 m] w fun e w' => e = .returned (.bool (plain07B xs m)) ∧ Below w.heap.size w w' := by
  have Hs := Lib.hid hs
  clear hs
  by_cases h0 : (xs.length : Int) ≤ m
  · have h0' : ¬ m < (xs.length : Int) := by omega
    have H0 := Lib.hid h0
    clear h0
    go_enter Try.func31, Try.ntmps31
    go_wp2_with fail
    go_loop [5] (fun i => ∃ k : Nat, k ≤ xs.length ∧ i = .int .i64 k ∧ Hid (allFrom shortB xs k = xs.all shortB)) (fun i => xs.length - (intOf i).toNat)
    case atStart => exact ⟨0, Nat.zero_le _, rfl, Lib.hid rfl⟩
    case round =>
      clear h0'
      obtain ⟨k, hk, rfl, hgood⟩ := hrel
      by_cases hp : k < xs.length
      · obtain ⟨x, hx⟩ := getq_ex hp
        have hstep := Lib.hid (allFrom_step (p := shortB) hx)
        have hxs := Hs.out x (List.mem_of_getElem? hx)
        obtain ⟨b1, o1, rfl, hb1, c10, c11, c12⟩ := ha.at_ hx
        clear hx
        by_cases h100 : x.s.size ≤ 100
        · have h100' : ¬ (100 : Int) < (x.s.size : Int) := by omega
          have H := Lib.hid h100
          clear h100
          go_wp2_with fail
          go_round
          case rel => exact ⟨k + 1, hp, by go_num, Lib.hid (by rw [← hgood.out, hstep.out]; simp [shortB, H.out])⟩
          case measure => simp [intOf]; omega
        · have h100' : (100 : Int) < (x.s.size : Int) := by omega
          have H := Lib.hid h100
          clear h100
          go_wp2_with fail
          go_ret
          exact ⟨ret_bool (by
            have e : xs.all shortB = false := by rw [← hgood.out, hstep.out]; simp [shortB, H.out]
            unfold plain07B fewB; rw [e]; simp), Below.refl _ _⟩
      · have hend := Lib.hid (allFrom_end (p := shortB) hp)
        go_wp2_with fail
        refine (rRight_any A c xs _ ha hl Hs.out).mono ?_
        rintro e w1 ⟨rfl, hb⟩
        have B1 := Lib.hid hb
        have T1 := Lib.hid ((ha.below hb).more hb.size)
        clear hb
        cases hr : rRightB xs with
        | false =>
          have HR := Lib.hid hr
          clear hr
          go_wp2_with fail
          go_ret
          exact ⟨ret_bool (by unfold plain07B fewB; rw [HR.out]; simp), B1.out⟩
        | true =>
          have HR := Lib.hid hr
          clear hr
          go_wp2_with fail
          refine (rPlain_any A c w1.heap.size xs w1 T1.out hl).mono ?_
          rintro e w2 ⟨rfl, rfl⟩
          go_wp2_with fail
          go_ret
          exact ⟨ret_bool (by
            have e : xs.all shortB = true := by rw [← hgood.out, hend.out]
            unfold plain07B fewB; rw [e, HR.out, decide_eq_true H0.out]; simp), B1.out⟩
  · have h0' : m < (xs.length : Int) := by omega
    have H0 := Lib.hid h0
    clear h0
    go_enter Try.func31, Try.ntmps31
    go_wp2_with fail
    go_ret
    exact ⟨ret_bool (by unfold plain07B fewB; rw [decide_eq_false (by have := H0.out; omega)]; rfl), Below.refl _ _⟩
end Go.Proofs.Ytblfeokjlecgkaa

/- leavenref07.Field, walked. -/
namespace Go.Proofs.Ytblfeokjlecgkaa
open Go.RowKit

/-- A type's field. -/
def fieldL (t : List Nd) (l : Lb) : Option (List Nd) := if (headNd t).k = 5 then none else (kidsL t).find? fun z => decide ((headNd z).s = l)
/-- What 'Field' answers. -/
def FieldPost (r : Option (List Nd)) (w : World) (e : Ending) (w' : World) : Prop := Below w.heap.size w w' ∧ match r with
  | none => e = .returned (.tuple #[.slice none 0 0, .int .i64 9])
  | some z => ∃ A c, e = .returned (.tuple #[.slice A (bareN z).length c, .int .i64 0]) ∧ TyA w' w'.heap.size A (bareN z) ∧ (bareN z).length ≤ c
theorem find_step {l : List (List Nd)} {p : List Nd → Bool} {i : Nat} {z : List Nd} (h : l[i]? = some z) (hp : p z = false) : (l.drop i).find? p = (l.drop (i + 1)).find? p := by
  rw [drop_cons h, List.find?_cons_of_neg (by simp [hp])]
theorem find_hit {l : List (List Nd)} {p : List Nd → Bool} {i : Nat} {z : List Nd} (h : l[i]? = some z) (hp : p z = true) : (l.drop i).find? p = some z := by
  rw [drop_cons h, List.find?_cons_of_pos (by simp [hp])]

set_option maxRecDepth 100000 in
set_option maxHeartbeats 4000000 in
theorem field_any (A : Option Addr) (c : Nat) (t : List Nd) (l : Lb) (w : World) (ha : TyA w w.heap.size A t) (ht : TrW t) (hl : t.length ≤ 100000) (hc : t.length ≤ c) (h0 : (headNd t).k ≠ 0) :
    Calls Try.prog 38 #[.slice A t.length c, .string l] w (FieldPost (fieldL t l) w) := by
  have hx : t[0]? = some (headNd t) := by
    have := ht.fo.pos
    cases t with
    | nil => simp at this
    | cons x ks => rfl
  have hk := Lib.hid (kids07_any A c t w ha ht hl hc)
  have h50 := ht.fifty
  have p1 := getq_lt hx
  obtain ⟨b1, o1, rfl, hb1, c10, _, _⟩ := ha.at_ hx
  simp only [Nat.zero_mul, Nat.add_zero] at c10
  have hk0 : ((headNd t).k == 0) = false := by rw [beq_eq_false_iff_ne]; exact h0
  obtain ⟨fl, hfl⟩ : ∃ fl, fl = fieldL t l := ⟨_, rfl⟩
  have HF : Hid (fl = if (headNd t).k = 5 then none else (kidsL t).find? fun z => decide ((headNd z).s = l)) := Lib.hid (by rw [hfl]; rfl)
  rw [← hfl]
  clear ha ht hx h0 hfl
  go_enter Try.func38, Try.ntmps38
  go_wp2_with fail
  refine hk.out.mono ?_
  clear hk
  rintro e w1 ⟨V, cv, vs, L, cl, rfl, r1, s1, l1, q1, hb⟩
  have G := Lib.hid (And.intro r1 (And.intro s1 (And.intro l1 (And.intro q1 hb))))
  have d10 := (hb.cell (p := ⟨b1, o1, none⟩) hb1).trans c10
  have hbw : b1 < w1.heap.size := Nat.lt_of_lt_of_le hb1 hb.size
  have hvl : Hid (vs.length = (kidsL t).length) := Lib.hid (by rw [s1.1, List.length_map])
  have hv50 : vs.length ≤ 50 := by rw [hvl.out]; exact h50
  clear r1 s1 l1 q1 hb c10 h50
  have hz : ((kidsL t).length : Int) = (vs.length : Int) := by rw [hvl.out]
  obtain ⟨kl, hkl⟩ : ∃ kl, kl = (kidsL t).length := ⟨_, rfl⟩
  rw [← hkl] at hz ⊢
  have HKL := Lib.hid hkl
  clear hz hkl
  cases h5 : ((headNd t).k != 5) with
  | false =>
    have HN : Hid (fl = none) := Lib.hid (by rw [HF.out, if_pos (by simpa using h5)])
    by_cases hv0 : 0 < vs.length
    · go_wp2_with fail
      go_loopw [8] (fun s8 wr => s8 = .int .i64 0 ∧ wr = w1) (fun s8 _ => 0)
      case atStart => exact ⟨rfl, rfl⟩
      case round =>
        obtain ⟨rfl, rfl⟩ := hrel
        go_wp2_with fail
        go_ret2
        exact ⟨G.out.2.2.2.2, by rw [HN.out]; rfl⟩
    · go_wp2_with fail
      go_loopw [8] (fun s8 wr => s8 = .int .i64 0 ∧ wr = w1) (fun s8 _ => 0)
      case atStart => exact ⟨rfl, rfl⟩
      case round =>
        obtain ⟨rfl, rfl⟩ := hrel
        go_wp2_with fail
        go_ret2
        exact ⟨G.out.2.2.2.2, by rw [HN.out]; rfl⟩
  | true =>
    have HN : Hid (fl = (kidsL t).find? fun z => decide ((headNd z).s = l)) := Lib.hid (by rw [HF.out, if_neg (by simpa using h5)])
    clear HF
    go_wp2_with fail
    go_loopw [8] (fun s8 wr => ∃ i : Nat, s8 = .int .i64 i ∧ i ≤ vs.length ∧ wr = w1 ∧ Hid (fl = ((kidsL t).drop i).find? fun z => decide ((headNd z).s = l))) (fun s8 _ => vs.length - (intOf s8).toNat)
    case atStart => exact ⟨0, rfl, Nat.zero_le _, rfl, Lib.hid (by rw [List.drop_zero]; exact HN.out)⟩
    case round =>
      obtain ⟨i, rfl, hi, rfl, M⟩ := hrel
      by_cases hp : i < vs.length
      · obtain ⟨z, hz⟩ := getq_ex (l := kidsL t) (i := i) (by rw [← hvl.out]; exact hp)
        obtain ⟨v, hv⟩ := getq_ex hp
        have hpk : i < kl := by rw [HKL.out, ← hvl.out]; exact hp
        obtain ⟨g1, o3, rfl, z1, k1⟩ := ReadL.str G.out.2.2.1 (i := i) (s := (headNd z).s) (by rw [labsT, List.getElem?_map, hz]; rfl)
        obtain ⟨g2, o4, rfl, z2, k2⟩ := ReadL.slice G.out.1 hv
        obtain ⟨e1, t1⟩ := G.out.2.1.2 i v (bareN z) hv (by rw [List.getElem?_map, hz]; rfl)
        have hq := G.out.2.2.2.1 v (List.mem_of_getElem? hv)
        rw [e1] at k2 hq
        have HZ := Lib.hid (And.intro hz (And.intro t1 hq))
        clear hz hv e1 t1 hq
        cases hs : ((headNd z).s.toList == l.toList) with
        | true =>
          have HS : Hid ((headNd z).s = l) := Lib.hid (Classical.byContradiction fun h => by have := str_ne h; unfold bne at this; rw [hs] at this; cases this)
          go_wp2_with fail
          go_ret2
          refine ⟨G.out.2.2.2.2, ?_⟩
          rw [M.out, find_hit HZ.out.1 (decide_eq_true HS.out)]
          exact ⟨_, _, rfl, HZ.out.2.1, HZ.out.2.2⟩
        | false =>
          have HS : Hid ((headNd z).s ≠ l) := Lib.hid (by rintro rfl; simp at hs)
          go_wp2_with fail
          go_roundw
          case rel => exact ⟨i + 1, by go_num, hp, by first | rfl | trivial, Lib.hid (by rw [M.out, find_step HZ.out.1 (decide_eq_false HS.out)])⟩
          case measure => simp [intOf]; omega
      · have HN2 : Hid (fl = none) := Lib.hid (by rw [M.out, List.drop_eq_nil_of_le (by rw [← hvl.out]; omega)]; rfl)
        go_wp2_with fail
        go_ret2
        exact ⟨G.out.2.2.2.2, by rw [HN2.out]; rfl⟩
end Go.Proofs.Ytblfeokjlecgkaa

/- What UnifyOpens asks: plain. -/
namespace Go.Proofs.Ytblfeokjlecgkaa
open Go.RowKit

theorem row_label {k : Int} {l : Lb} (hk : isRowB k = true) (h : rRightB [⟨k, ByteArray.empty, 1⟩, ⟨1, l, 0⟩] = true) : rowLabelB k l = true := by
  rw [right_eq] at h
  obtain ⟨g, _, _⟩ := gd_of h
  generalize hT : ([⟨k, ByteArray.empty, 1⟩, ⟨1, l, 0⟩] : List Nd) = T at g
  cases g with
  | mk x tss ok k9 tr ch row els tl =>
    injection hT with h1 h2
    subst h1
    have hm : manyN ⟨k, ByteArray.empty, 1⟩ = 1 := by
      unfold manyN many
      have h5 : k ≠ 5 := by intro e; rw [e] at hk; cases hk
      show (if k = 5 then (2 : Int) else if isRowB k = true then 1 else 0).toNat = 1
      rw [if_neg h5, if_pos hk]
      rfl
    have hu := tr.uniq
    rw [← h2, hm] at hu
    have e : tss = [[⟨1, l, 0⟩]] := by rw [hu]; rfl
    have hl : lOf tss = [[⟨1, l, 0⟩]] := by rw [e]; rfl
    have := (row hk).2 l (by rw [hl]; simp [labsT, headNd])
    exact this

theorem rowLabel_ne {k : Int} {l : Lb} (h : rowLabelB k l = true) : l ≠ ByteArray.empty := by
  rintro rfl
  unfold rowLabelB wordB tagB at h
  have e : ByteArray.empty.data.toList = [] := rfl
  rw [e] at h
  split at h
  · cases h
  · split at h
    · cases h
    · cases h
theorem field_get {t : List Nd} {l : Lb} (g : GdT t) (hr : isRowB (headNd t).k = true) (hl : l ≠ ByteArray.empty) : (fieldL t l).isSome = true ↔ ∃ x, getF l (utT t).fs = some x := by
  cases g with
  | mk x tss ok k9 tr ch row els tl =>
    have hr' : isRowB x.k = true := hr
    have hk : kidsL (x :: tss.flatten) = tss := tr.uniq.symm
    have h5 : x.k ≠ 5 := by intro e; rw [e] at hr'; cases hr'
    unfold fieldL
    rw [if_neg (show ¬ (headNd (x :: tss.flatten)).k = 5 from h5), hk, List.find?_isSome]
    rw [utT_cons tr]
    show _ ↔ ∃ u, getF l ((labsU x.k (lOf tss)).zip ((lOf tss).map utT)) = some u
    have e1 : labsU x.k (lOf tss) = labsT (lOf tss) := if_neg h5
    rw [e1]
    constructor
    · rintro ⟨z, hz, he⟩
      have he := of_decide_eq_true he
      have hz' : z ∈ lOf tss := by
        rw [← lOf_tOf tss] at hz
        rcases List.mem_append.1 hz with hz | hz
        · exact hz
        · obtain ⟨n, _, e⟩ := tl z hz
          rw [e] at he
          exact absurd he.symm hl
      cases hg : getF l ((labsT (lOf tss)).zip ((lOf tss).map utT)) with
      | some u => exact ⟨u, rfl⟩
      | none =>
        exfalso
        refine getF_none.1 hg ?_
        rw [labsF_zip (by simp [labsT])]
        exact List.mem_map.2 ⟨z, hz', he⟩
    · rintro ⟨u, hu⟩
      have := getF_lab hu
      rw [labsF_zip (by simp [labsT])] at this
      obtain ⟨z, hz, he⟩ := List.mem_map.1 this
      exact ⟨z, lOf_mem hz, decide_eq_true he⟩
theorem ut_k {t : List Nd} (g : GdT t) : (utT t).k = (headNd t).k := by
  cases g with
  | mk x tss ok k9 tr ch row els tl => rw [utT_cons tr]; rfl
theorem ut_n {t : List Nd} (g : GdT t) (h : (headNd t).k ≠ 8) : (utT t).n = 0 := by
  cases g with
  | mk x tss ok k9 tr ch row els tl =>
    rw [utT_cons tr]
    show (if x.k = 8 then x.n else 0) = 0
    exact if_neg h

/-! ### The states -/
/-- The solver behind its first Var. -/
def opS0 : Kn := (Kn.zero 1).up 2
theorem opS0_kg (U : List Lb) : KG U opS0 := (zero_kg U (by omega)).up (by decide)
theorem opS0_sat (τ : Va) (h : ∀ n, stT (τ.v n) ∧ riT (τ.v n)) : ∃ τ', opS0.Sat τ' ∧ ∀ x, x < opS0.m → τ.v x = τ'.v x := ⟨τ, zero_sat 1 2 τ h, fun _ _ => rfl⟩
theorem op0_ok {U : List Lb} {k : Int} {l : Lb} (hk : isRowB k = true) (hl : rowLabelB k l = true) (hU : l ∈ U) : OpnOk U opS0 k l 0 1 :=
  ⟨hk, hl, hU, by omega, ⟨by show (0 : Int) < 2; omega, rfl⟩, by omega, by show (1 : Int) < 2; omega, rfl⟩
structure Op1 (U : List Lb) (k : Int) (l0 : Lb) (S1 : Kn) : Prop where
  st : Step opS0 S1 (Cst.opn k l0 0 1).holds
  kg : KG U S1
  m : S1.m + (S1.un : Int) ≤ 100
  ge : 2 ≤ S1.m
  L : ∀ n : Int, n < 1 → S1.L n = none
theorem Op1.ok {U : List Lb} {k : Int} {l0 l1 : Lb} {S1 : Kn} (h : Op1 U k l0 S1) (hk : isRowB k = true) (hl : rowLabelB k l1 = true) (hU : l1 ∈ U) : OpnOk U (S1.up (S1.m + 1)) k l1 0 S1.m :=
  ⟨hk, hl, hU, by omega, ⟨by show (0 : Int) < S1.m + 1; have := h.ge; omega, h.L 0 (by omega)⟩, by have := h.ge; omega, by show S1.m < S1.m + 1; omega, h.kg.inv.new _ (Int.le_refl _)⟩
structure Op2 (U : List Lb) (k : Int) (l1 : Lb) (S1 S2 : Kn) : Prop where
  st : Step (S1.up (S1.m + 1)) S2 (Cst.opn k l1 0 S1.m).holds
  kg : KG U S2
  m : S2.m + (S2.un : Int) ≤ 1000
  ge : 3 ≤ S2.m
  L : ∀ n : Int, n < 1 → S2.L n = none
theorem un_up {S : Kn} (h : S.Inv) (hm : 0 ≤ S.m) : (S.up (S.m + 1)).un = S.un + 1 := by
  show cnt (fun i => (S.κ (i : Int)).isNone) (S.m + 1).toNat = cnt (fun i => (S.κ (i : Int)).isNone) S.m.toNat + 1
  rw [show (S.m + 1).toNat = S.m.toNat + 1 by omega, cnt_more fun i h1 h2 => by rw [h.free (show S.m ≤ (i : Int) by omega)]; rfl]
theorem opS0_un : (opS0.un : Int) = 2 := by
  have h1 := un_up (S := Kn.zero 1) (zero_kg [] (by omega)).inv (by show (0 : Int) ≤ 1; omega)
  have h2 := zero_un (m0 := 1) (by omega)
  have h3 : opS0.un = ((Kn.zero 1).up ((Kn.zero 1).m + 1)).un := rfl
  omega
theorem dyn_open (k : Int) (l : Lb) (u q : Int) (hk : isRowB k = true) (n : Int) : dynT (varT n) + dynT (openT k l u q) = 0 := by
  obtain ⟨k8, k0, _⟩ := isRow_k hk
  unfold openT varT
  rw [dynT_mk, dynT_mk, dynF_nil, dynF_cons, dynF_nil, dynT_mk, dynF_nil]
  simp [k0]

theorem op1_of {U : List Lb} {k : Int} {l0 : Lb} {s m : Nat} {w w' : World} {e : Ending} (hk : isRowB k = true) (hl : rowLabelB k l0 = true) (hU : l0 ∈ U) (h : AgrPost U s m 1 (opS0.freshT [l0]) (varT 0) (openT k l0 1 2) w e w') :
    e = .returned (.int .i64 0) ∧ Fr (SX s m) w w' ∧ ∃ S1, Op1 U k l0 S1 ∧ SolG U s m 1 w' S1 := by
  obtain ⟨ok, rfl, hf, hno, hyes⟩ := h
  have og := op0_ok (U := U) hk hl hU
  have K := opS0_kg U
  obtain ⟨k8, k0, _⟩ := isRow_k hk
  cases ok with
  | false =>
    exfalso
    obtain ⟨τ, t1, t2, t3⟩ := opens_first (k := k) (l0 := l0) (u0 := 1) (m := 1) (m' := 2) k0 (by omega)
    rcases hno rfl with d | ⟨S', d, hn⟩
    · exact openG_dis og K d τ t1 t2
    · exact hn (step_fit (S := opS0) (by decide) (fun _ _ => rfl) (openG_done og K d.st) t1 t2 fun n h0 hn => by rw [show n = 0 by omega]; exact t3)
  | true =>
    obtain ⟨S', d, hfit, hS'⟩ := hyes rfl
    have st := openG_done og K d.st
    refine ⟨rfl, hf, S', ⟨st, d.kg, ?_, st.le.m, fun n hn => hS'.hL n hn⟩, hS'⟩
    have h1 := d.m
    have h2 := un_freshT K.inv K.nn [l0]
    have h3 : (opS0.freshT [l0]).m = 3 := rfl
    have h4 := opS0_un
    rw [dyn_open k l0 1 2 hk 0] at h1
    omega
/-- A type with both labels. -/
theorem both_ex (k : Int) (l0 l1 : Lb) (k0 : k ≠ 0) : ∃ (F : Fl) (x0 x1 : Ut), stT (.mk k 0 F none) ∧ riT (.mk k 0 F none) ∧ getF l0 F = some x0 ∧ getF l1 F = some x1 ∧ ndT (.mk k 0 F none) ≤ 10000 ∧ dpT (.mk k 0 F none) ≤ 100 := by
  have key : ∀ ls : List Lb, ls.Nodup → l0 ∈ ls → l1 ∈ ls → ls.length ≤ 2 → ∃ (F : Fl) (x0 x1 : Ut), stT (.mk k 0 F none) ∧ riT (.mk k 0 F none) ∧ getF l0 F = some x0 ∧ getF l1 F = some x1 ∧ ndT (.mk k 0 F none) ≤ 10000 ∧ dpT (.mk k 0 F none) ≤ 100 := fun ls hn i0 i1 h2 =>
    ⟨_, _, _, (rowL_st k0 hn).1, (rowL_st k0 hn).2, rowL_get hn i0, rowL_get hn i1, rowL_fit (k := k) (ls := ls) (by omega)⟩
  by_cases h : l0 = l1
  · exact key [l0] (by simp) (by simp) (by simp [h]) (by simp)
  · exact key [l0, l1] (by simp [h]) (by simp) (by simp) (by simp)
theorem op2_of {U : List Lb} {k : Int} {l0 l1 : Lb} {s m : Nat} {w w' : World} {e : Ending} {S1 : Kn} (O : Op1 U k l0 S1) (hk : isRowB k = true) (hl : rowLabelB k l1 = true) (hU : l1 ∈ U) (h : AgrPost U s m 1 ((S1.up (S1.m + 1)).freshT [l1]) (varT 0) (openT k l1 S1.m (S1.m + 1)) w e w') :
    e = .returned (.int .i64 0) ∧ Fr (SX s m) w w' ∧ ∃ S2, Op2 U k l1 S1 S2 ∧ SolG U s m 1 w' S2 := by
  obtain ⟨ok, rfl, hf, hno, hyes⟩ := h
  have og := O.ok hk hl hU
  have K : KG U (S1.up (S1.m + 1)) := O.kg.up (by omega)
  have hge := O.ge
  obtain ⟨k8, k0, _⟩ := isRow_k hk
  cases ok with
  | false =>
    exfalso
    obtain ⟨F, x0, x1, h1, h2, h3, h4, h5⟩ := both_ex k l0 l1 k0
    obtain ⟨τ, t1, t2, t3⟩ := opens_mid (U := U) (S0 := opS0) (u0 := 1) rfl h1 h2 h3 h4 opS0_sat (by omega) (by show (1 : Int) < 2; omega) (by show (0 : Int) < 2; omega) O.st O.kg rfl
    rcases hno rfl with d | ⟨S', d, hn⟩
    · exact openG_dis og K d τ t1 t2
    · exact hn (step_fit (S := S1.up (S1.m + 1)) (by show ((1 : Nat) : Int) ≤ S1.m + 1; omega) (fun n hn => O.L n hn) (openG_done og K d.st) t1 t2 fun n h0 hn => by rw [show n = 0 by omega, t3]; exact h5)
  | true =>
    obtain ⟨S', d, hfit, hS'⟩ := hyes rfl
    have st := openG_done og K d.st
    have hm : S1.m + 1 ≤ S'.m := st.le.m
    refine ⟨rfl, hf, S', ⟨st, d.kg, ?_, by omega, fun n hn => hS'.hL n hn⟩, hS'⟩
    have h1 := d.m
    have h2 := un_freshT K.inv K.nn [l1]
    have h3 : ((S1.up (S1.m + 1)).freshT [l1]).m = S1.m + 1 + 1 := rfl
    have h4 := un_up O.kg.inv (show 0 ≤ S1.m by omega)
    have h5 := O.m
    rw [dyn_open k l1 S1.m (S1.m + 1) hk 0] at h1
    omega
/-- Whether a type has both labels. -/
def fitsB (t : List Nd) (k : Int) (l0 l1 : Lb) : Bool := (decide ((headNd t).k = k) && (fieldL t l0).isSome) && (fieldL t l1).isSome
theorem op3_of {U : List Lb} {k : Int} {l0 l1 : Lb} {s m : Nat} {w w' : World} {e : Ending} {S1 S2 : Kn} {t : List Nd} (O : Op1 U k l0 S1) (O2 : Op2 U k l1 S1 S2) (hk : isRowB k = true) (n0 : l0 ≠ ByteArray.empty) (n1 : l1 ≠ ByteArray.empty) (g : GdT t) (hT : Told U 0 (utT t)) (hs : stT (utT t)) (hlen : t.length ≤ 100)
    (h : AgrPost U s m 1 S2 (varT 0) (utT t) w e w') : e = .returned (.int .i64 (if fitsB t k l0 l1 = true then 0 else 9)) ∧ Fr (SX s m) w w' ∧ (fitsB t k l0 l1 = true → ∃ S3, SolG U s m 1 w' S3 ∧ S3.σ.v 0 = utT t) := by
  obtain ⟨ok, rfl, hf, hno, hyes⟩ := h
  have hri := wf_ri _ hT.wf
  have hinst : ∀ τ : Va, inst τ (utT t) = utT t := fun τ => plain_inst τ _ hT.wf hT.no
  obtain ⟨k8, k0, _⟩ := isRow_k hk
  have hge := O.ge
  have hge2 := O2.ge
  have hto : fitsB t k l0 l1 = true → ok = true := fun hfit => by
    unfold fitsB at hfit
    rw [Bool.and_eq_true, Bool.and_eq_true, decide_eq_true_eq] at hfit
    obtain ⟨⟨e1, f0⟩, f1⟩ := hfit
    have hr : isRowB (headNd t).k = true := by rw [e1]; exact hk
    obtain ⟨x0, g0⟩ := (field_get g hr n0).1 f0
    obtain ⟨x1, g1⟩ := (field_get g hr n1).1 f1
    have hut : utT t = .mk k 0 (utT t).fs (utT t).tl := by
      have h1 := ut_k g
      have h2 := ut_n g (by rw [e1]; exact k8)
      generalize utT t = z at h1 h2 ⊢
      obtain ⟨a, b, c, d⟩ := z
      have h1 : a = (headNd t).k := h1
      have h2 : b = 0 := h2
      rw [h1, h2, e1]
      rfl
    obtain ⟨τ, t1, t2⟩ := opens_more (U := U) (S0 := opS0) (u0 := 1) hut hs hri g0 g1 opS0_sat (by omega) (by show (1 : Int) < 2; omega) (by show (0 : Int) < 2; omega) O.st O.kg rfl O2.st
    have hco : CoI (varT 0) (utT t) τ := by
      unfold CoI
      rw [inst_var, hinst, t2]
      exact Co.refl _
    cases ok with
    | true => rfl
    | false =>
      exfalso
      rcases hno rfl with d | ⟨S', d, hn⟩
      · exact d τ t1 hco
      · exact hn (step_fit (S := S2) (by omega) (fun n hn => O2.L n hn) d.st t1 hco fun n h0 hn => by rw [show n = 0 by omega, t2]; exact fit_small g hlen)
  have hfrom : ok = true → fitsB t k l0 l1 = true ∧ ∃ S3, SolG U s m 1 w' S3 ∧ S3.σ.v 0 = utT t := fun hok => by
    obtain ⟨S3, d, hfit, hS3⟩ := hyes hok
    have hL3 : S3.L 0 = none := hS3.hL 0 (by omega)
    have hco := d.st.co _ d.st.inv.sat
    unfold CoI at hco
    rw [inst_var, hinst] at hco
    have o0 := d.st.inv.wf.ok.v 0 hL3
    have e0 : S3.σ.v 0 = utT t := hco.eq o0.1 hs o0.2 hri
    obtain ⟨τ, t1, a1⟩ := d.st.le.sat _ d.st.inv.sat
    obtain ⟨R, tl, x0, x1, e1, g0, g1⟩ := opens_has (U := U) (S0 := opS0) (u0 := 1) (by show (1 : Int) < 2; omega) (by show (0 : Int) < 2; omega) O.st O.kg O2.st t1
    have e2 : utT t = .mk k 0 R tl := by rw [← e0, ← e1, (a1 0 (by omega)).1]
    have hkt : (headNd t).k = k := by rw [← ut_k g, e2]; rfl
    have hr : isRowB (headNd t).k = true := by rw [hkt]; exact hk
    refine ⟨?_, S3, hS3, e0⟩
    unfold fitsB
    rw [Bool.and_eq_true, Bool.and_eq_true, decide_eq_true_eq]
    exact ⟨⟨hkt, (field_get g hr n0).2 ⟨x0, by rw [e2]; exact g0⟩⟩, (field_get g hr n1).2 ⟨x1, by rw [e2]; exact g1⟩⟩
  have hiff : ok = fitsB t k l0 l1 := by
    cases hf2 : fitsB t k l0 l1 with
    | true => exact hto hf2
    | false =>
      cases ok with
      | false => rfl
      | true => have := (hfrom rfl).1; rw [hf2] at this; cases this
  exact ⟨by rw [hiff], hf, fun h => (hfrom (by rw [hiff]; exact h)).2⟩
/-- What is known of the Var then. -/
theorem op2_known {U : List Lb} {k : Int} {l0 l1 : Lb} {S1 S2 : Kn} (O : Op1 U k l0 S1) (O2 : Op2 U k l1 S1 S2) (hk : isRowB k = true) :
    ∃ (cs : List Nd) (q : Int), flT ByteArray.empty (S2.σ.v 0) = ⟨k, ByteArray.empty, (cs.length + 1 : Nat)⟩ :: (cs ++ [⟨9, ByteArray.empty, q⟩]) ∧ cs.length = (if l0 = l1 then 1 else 2) ∧ staticB (flT ByteArray.empty (S2.σ.v 0)) = true := by
  obtain ⟨cs, q, h1, h2⟩ := opens_known (U := U) (S0 := opS0) (u0 := 1) hk opS0_sat (by omega) (by show (1 : Int) < 2; omega) (by show (0 : Int) < 2; omega) (O2.L 0 (by omega)) O.st O.kg rfl O2.st O2.kg
  refine ⟨cs, q, h1, h2, ?_⟩
  unfold staticB
  rw [List.all_eq_true]
  intro x hx
  have := fl_static _ (O2.kg.inv.wf.ok.v 0 (O2.L 0 (by omega))).1 _ x hx
  simpa using this
end Go.Proofs.Ytblfeokjlecgkaa

/- From a row's arguments to what the walks ask. -/
namespace Go.Proofs.Ytblfeokjlecgkaa
open Go.ChangeShapes Go.WideShapes Go.ChangeAt Go.WideMaps Go.WideElems Go.RowKit Go.Deep

section
variable {H : Type} {enc : TypeId × Value → H} {W : World} {base : Nat} {d : DataW H} {p : List MemPlace} {v : Value}

set_option maxRecDepth 100000 in
/-- A type among the arguments. -/
theorem open_ty (hv : Value.okWide Try.prog W .any base 34 v) (h : DataW.Trod enc Try.prog W 0 (fun _ => true) true 34 v d p) :
    ∃ (A : Option Addr) (xs : List Nd) (c : Nat), v = .slice A xs.length c ∧ TyA W W.heap.size A xs ∧ xs.length ≤ c ∧ xs.length ≤ 9223372036854775807 ∧ ∀ x ∈ xs, x.Ok := by
  obtain ⟨a0, n0, c0, rfl⟩ := okWide_slice Try.underlying34 hv
  obtain ⟨fuel, hf⟩ := h
  rcases open_slice Try.underlying34 hf with ⟨hcs, _⟩ | ⟨a, len, cap, m, n, D, Pl, hcs, _, hl, hcm, hm, _, hel⟩
  · simp [Value.cells] at hcs
    obtain ⟨rfl, rfl, rfl⟩ := hcs
    exact ⟨none, [], 0, rfl, TyA.nil, Nat.le_refl _, by simp, by simp⟩
  · simp [Value.cells] at hcs
    obtain ⟨rfl, rfl, rfl⟩ := hcs
    simp only [if_true] at hm
    subst hm
    have hnode : ∀ i, i < n0 → ∃ x : Nd, x.Ok ∧ W.cell? (a.add (i * 3)) = some (.int .i64 x.k) ∧ W.cell? (a.add (i * 3 + 1)) = some (.string x.s) ∧ W.cell? (a.add (i * 3 + 2)) = some (.int .i64 x.n) := fun i hi => by
      obtain ⟨cs', hc, ht⟩ := hel i (by omega)
      rw [nodeCells] at hc
      obtain ⟨_, hlen, hat⟩ := World.cells?_some hc
      match cs', hlen with
      | [v0, v1, v2], _ =>
        obtain ⟨ys, n', _, _, _, _, hfld⟩ := DataW.trod_struct Try.underlying48 ht
        have h0 := hfld 0 _ rfl
        have h1 := hfld 1 _ rfl
        have h2 := hfld 2 _ rfl
        change DataW.trod enc Try.prog W 0 _ true n' 3 (([v0, v1, v2].drop 0).take (Try.prog.cellsOf 3)) = _ at h0
        change DataW.trod enc Try.prog W 0 _ true n' 9 (([v0, v1, v2].drop 1).take (Try.prog.cellsOf 9)) = _ at h1
        change DataW.trod enc Try.prog W 0 _ true n' 3 (([v0, v1, v2].drop 2).take (Try.prog.cellsOf 3)) = _ at h2
        rw [show Try.prog.cellsOf 3 = 1 by kernel_rfl] at h0 h2
        rw [show Try.prog.cellsOf 9 = 1 by kernel_rfl] at h1
        have hne : ∀ j, j < 3 → ∃ y, ys[j]? = some y := fun j hj => by
          have : ys.length = 3 := by assumption
          exact getq_ex (by omega)
        obtain ⟨y0, e0⟩ := hne 0 (by omega)
        obtain ⟨y1, e1⟩ := hne 1 (by omega)
        obtain ⟨y2, e2⟩ := hne 2 (by omega)
        obtain ⟨k, hk, _, hkw⟩ := DataW.trod_int Try.underlying3 (h0.trans e0)
        obtain ⟨s, hs, _, hsw⟩ := DataW.trod_string Try.underlying9 (h1.trans e1)
        obtain ⟨nn, hnn, _, hnw⟩ := DataW.trod_int Try.underlying3 (h2.trans e2)
        simp at hk hs hnn
        subst hk hs hnn
        obtain ⟨k0, k1⟩ := int_ok hkw
        obtain ⟨n0, n1⟩ := int_ok hnw
        refine ⟨⟨k, s, nn⟩, ⟨k0, k1, n0, n1, hsw⟩, ?_, ?_, ?_⟩
        · have := hat 0 (by omega); rw [add_add] at this; simpa using this
        · have := hat 1 (by omega); rw [add_add] at this; simpa using this
        · have := hat 2 (by omega); rw [add_add] at this; simpa using this
    have hch : ∃ f : Nat → Nd, ∀ i, i < n0 → (f i).Ok ∧ W.cell? (a.add (i * 3)) = some (.int .i64 (f i).k) ∧ W.cell? (a.add (i * 3 + 1)) = some (.string (f i).s) ∧ W.cell? (a.add (i * 3 + 2)) = some (.int .i64 (f i).n) :=
      ⟨fun i => if h : i < n0 then Classical.choose (hnode i h) else default, fun i hi => by
        simp only [dif_pos hi]
        exact Classical.choose_spec (hnode i hi)⟩
    obtain ⟨f, hf2⟩ := hch
    have hxl : ((List.range n0).map f).length = n0 := by simp
    have hget : ∀ i x, ((List.range n0).map f)[i]? = some x → i < n0 ∧ x = f i := fun i x hx => by
      have hi : i < n0 := by have := getq_lt hx; simpa using this
      rw [List.getElem?_map, List.getElem?_range hi] at hx
      injection hx with hx
      exact ⟨hi, hx.symm⟩
    refine ⟨some a, (List.range n0).map f, m, by rw [hxl], fun hne => ?_, by rw [hxl]; exact hl, by rw [hxl]; unfold maxLen at hcm; omega, fun x hx => ?_⟩
    · have hn : 0 < n0 := by
        rcases Nat.eq_zero_or_pos n0 with h | h
        · subst h; exact absurd rfl hne
        · exact h
      obtain ⟨b, off, spot⟩ := a
      have h0 := (hf2 0 hn).2.1
      have hspot : spot = none := by simpa [Addr.add] using World.cell?_spot h0
      subst hspot
      simp only [add_plain] at hf2
      refine ⟨b, off, rfl, ?_, ⟨fun i x hx => ?_, fun i x hx => ?_, fun i x hx => ?_⟩⟩
      · exact World.block_lt_of_cell? W _ (hf2 0 hn).2.1
      · obtain ⟨hi, rfl⟩ := hget i x hx; exact (hf2 i hi).2.1
      · obtain ⟨hi, rfl⟩ := hget i x hx; have := (hf2 i hi).2.2.1; rwa [← Nat.add_assoc] at this
      · obtain ⟨hi, rfl⟩ := hget i x hx; have := (hf2 i hi).2.2.2; rwa [← Nat.add_assoc] at this
    · obtain ⟨i, hi, rfl⟩ := List.mem_map.1 hx
      exact (hf2 i (List.mem_range.1 hi)).1
end

end Go.Proofs.Ytblfeokjlecgkaa

/- Pairs among a row's arguments. -/
namespace Go.Proofs.Ytblfeokjlecgkaa
open Go.ChangeShapes Go.WideShapes Go.ChangeAt Go.WideMaps Go.WideElems Go.RowKit Go.Deep
section
variable {H : Type} {enc : TypeId × Value → H} {W : World} {base : Nat} {d : DataW H} {p : List MemPlace} {v : Value} {fuel : Nat} {cs : List Value} {X : DataW H × List MemPlace}

set_option maxRecDepth 100000 in
theorem okWide_pair {t e : TypeId} (ht : Try.prog.underlying t = some (.array 2 e)) (hc : Try.prog.cellsOf t = 2) (hv : Value.okWide Try.prog W .any base t v) : ∃ v0 v1, v = .agg #[v0, v1] := by
  simp only [Value.okWide, ht] at hv
  obtain ⟨cs, h1, h2, _⟩ := hv
  rw [hc] at h2
  obtain ⟨l⟩ := cs
  have hl : l.length = 2 := h2
  match l, hl with
  | [v0, v1], _ => exact ⟨v0, v1, h1⟩

end
end Go.Proofs.Ytblfeokjlecgkaa

/- Two strings among the arguments. -/
namespace Go.Proofs.Ytblfeokjlecgkaa
open Go.ChangeShapes Go.WideShapes Go.ChangeAt Go.WideMaps Go.WideElems Go.RowKit Go.Deep
section
variable {H : Type} {enc : TypeId × Value → H} {W : World} {base : Nat} {d : DataW H} {p : List MemPlace} {v : Value}
set_option maxRecDepth 100000 in
theorem open_strs2 (hv : Value.okWide Try.prog W .any base 59 v) (h : DataW.Trod enc Try.prog W 0 (fun _ => true) true 59 v d p) :
    ∃ (s0 s1 : ByteArray), v = .agg #[.string s0, .string s1] ∧ s0.size ≤ 9223372036854775807 ∧ s1.size ≤ 9223372036854775807 := by
  obtain ⟨v0, v1, rfl⟩ := okWide_pair Try.underlying59 (by kernel_rfl) hv
  obtain ⟨fuel, hf⟩ := h
  obtain ⟨xs, m, _, _, _, hl, hat⟩ := DataW.trod_array Try.underlying59 hf
  have h0 := hat 0 (by omega)
  have h1 := hat 1 (by omega)
  rw [show Try.prog.cellsOf 9 = 1 by kernel_rfl] at h0 h1
  obtain ⟨y0, e0⟩ := getq_ex (show 0 < xs.length by omega)
  obtain ⟨y1, e1⟩ := getq_ex (show 1 < xs.length by omega)
  obtain ⟨s0, hs0, _, z0⟩ := DataW.trod_string Try.underlying9 (h0.trans e0)
  obtain ⟨s1, hs1, _, z1⟩ := DataW.trod_string Try.underlying9 (h1.trans e1)
  simp [Value.cells] at hs0 hs1
  subst hs0 hs1
  exact ⟨s0, s1, rfl, z0, z1⟩
end
end Go.Proofs.Ytblfeokjlecgkaa
