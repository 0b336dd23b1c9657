/- Laid together by a tool from the texts of this seat: FrR FrS. Conditions: each theorem's own. -/
import Derived.Test.YtmjdhfbnmmdjiaaGreatN01
/- The document's in and free. -/
namespace Go.Proofs.YtmjdhfbnmmdjiaaGreat
open Go.RowKit

theorem own_oneT (w : World) (s : ByteArray) : OwnT (w.alloc (.cells #[.string s] 9)) w.heap.size (some ⟨w.heap.size, 0, none⟩) 1 [s] :=
  ⟨rfl, .inr ⟨w.heap.size, 1, _, rfl, Nat.le_refl _, heap_alloc_new w _, Nat.le_refl _, by simp [maxLen], rfl, rfl⟩⟩

set_option maxRecDepth 100000 in
theorem rin_any (A : Option Addr) (c : Nat) (L : List ByteArray) (s : ByteArray) (w : World) (ha : ReadT w w.heap.size A L) (hl : L.length ≤ 1000000) :
    Calls Tryz.prog 51 #[.slice A L.length c, .string s] w fun e w' => e = .returned (.bool (inB s L)) ∧ w' = w := by
  have H := Lib.hid ha
  clear ha
  go_enter Tryz.func51, Tryz.ntmps51
  go_wp2_with fail
  go_loopw [5] (fun i5 wr => ∃ k : Nat, i5 = .int .i64 k ∧ k ≤ L.length ∧ Hid (∀ (j : Nat) (x : ByteArray), j < k → L[j]? = some x → x ≠ s) ∧ wr = w) (fun i5 _ => L.length - (Lib.intOf i5).toNat)
  case atStart => exact ⟨0, rfl, by omega, Lib.hid fun j x h => by omega, rfl⟩
  case round =>
    obtain ⟨k, rfl, hk, HI, rfl⟩ := hrel
    by_cases hlt : k < L.length
    · obtain ⟨x, hx⟩ := getq_ex hlt
      obtain ⟨b, o, hA, hb, c0⟩ := ReadL.str H.out hx
      subst hA
      cases hq : (x.toList == s.toList)
      · have HN : Hid (∀ (j : Nat) (y : ByteArray), j < k + 1 → L[j]? = some y → y ≠ s) := Lib.hid fun j y hj hy => by
          by_cases hjk : j < k
          · exact HI.out j y hjk hy
          · have : j = k := by omega
            subst this
            rw [hx] at hy
            injection hy with hy
            subst hy
            rintro rfl
            simp at hq
        clear hx
        go_wp2_with fail
        go_roundw
        case rel => exact ⟨k + 1, by go_num, by omega, HN, by trivial⟩
        case measure => simp [Lib.intOf]; omega
      · have HO : Hid (inB s L = true) := Lib.hid (by
          have : x = s := strEqI hq
          subst this
          exact inB_true.2 (List.mem_of_getElem? hx))
        clear hx
        go_wp2_with fail
        go_ret
        exact ⟨ret_bool HO.out.symm, rfl⟩
    · have HO : Hid (inB s L = false) := Lib.hid (by
        refine inB_false.2 fun hs => ?_
        obtain ⟨j, hj⟩ := List.getElem?_of_mem hs
        exact HI.out j s (by have := getq_lt hj; omega) hj rfl)
      go_wp2_with fail
      go_ret
      exact ⟨ret_bool HO.out.symm, rfl⟩

theorem rKids_few (es : List Pt) : ∀ (n a : Nat), (rKids es n a).length ≤ n
  | 0, a => by simp [rKids]
  | n + 1, a => by
    unfold rKids
    split
    · have := rKids_few es n (rEnd (es.drop a) 1 a)
      simp only [List.length_cons]
      omega
    · simp
theorem freeK_step {p : Pt} {fr : Nat → List ByteArray → List ByteArray} {bound : List ByteArray} {k c : Nat} {l : List Nat} (h : l[k]? = some c) : freeK p fr bound k (l.drop k) = fr c (bound ++ moreB p k) ++ freeK p fr bound (k + 1) (l.drop (k + 1)) := by
  rw [List.drop_eq_getElem_cons (getq_lt h), (List.getElem?_eq_some_iff.1 h).2]
  rfl

theorem free_next {wr w8 w9 w4 : World} {G oc c9 : Nat} {OA A9 : Option Addr} {out fr rest all : List ByteArray} {X : Prop} (HI : OwnT wr G OA oc out ∧ Fr (fun q => q = G) w4 wr ∧ (∀ a, OA = some a → a.block = G ∨ w4.heap.size ≤ a.block) ∧ X) (HB8 : Below wr.heap.size wr w8) (hown9 : OwnT w9 G A9 c9 (out ++ fr))
    (hg9 : w8.grownBy w9 ((Value.slice OA out.length oc).ownBlock)) (hd9 : (Value.slice A9 (out.length + fr.length) c9).ownBlock = (Value.slice OA out.length oc).ownBlock ∨ (Value.slice A9 (out.length + fr.length) c9).ownBlock = some w8.heap.size) (hS : out ++ (fr ++ rest) = all) :
    OwnT w9 G A9 c9 (out ++ fr) ∧ Fr (fun q => q = G) w4 w9 ∧ (∀ a, A9 = some a → a.block = G ∨ w4.heap.size ≤ a.block) ∧ (out ++ fr) ++ rest = all := by
  refine ⟨hown9, ?_, fun a ha => ?_, by rw [List.append_assoc]; exact hS⟩
  · have h1 : Fr (fun q => q = G) w4 w8 := HI.2.1.new (Fr.below HB8 : Fr (fun _ => False) wr w8) fun b hb => hb.elim
    exact h1.new (Fr.grown (X := fun q => (Value.slice OA out.length oc).ownBlock = some q) hg9 fun k hk => hk) fun b hb => by
      obtain ⟨a, ha, hab⟩ := ownBlock_of hb
      subst hab
      exact HI.2.2.1 a ha
  · have h2 : (Value.slice A9 (out.length + fr.length) c9).ownBlock = some a.block := by subst ha; rfl
    have hs1 := HI.2.1.size
    have hs2 := HB8.size
    rcases hd9 with h | h
    · rw [h2] at h
      obtain ⟨a2, ha2, hab⟩ := ownBlock_of h.symm
      rw [← hab]
      exact HI.2.2.1 a2 ha2
    · rw [h2] at h
      injection h with h
      right
      omega

set_option maxRecDepth 100000 in
set_option maxHeartbeats 8000000 in
theorem rfree_any (Y : Nat → Prop) (A : Option Addr) (c : Nat) (es : List Pt) (hok : PsOk es) (hT : ∀ i, i < es.length → ∃ b, EA es 1 i b) (hl : es.length ≤ 1000) :
    ∀ (n i : Nat) (BA : Option Addr) (bc : Nat) (bound : List ByteArray) (w : World), es.length - i ≤ n → i < es.length → ExX w Y A es → ReadT w w.heap.size BA bound → bound.length + 2 * n ≤ 10000 →
    Calls Tryz.prog 34 #[.slice A es.length c, .int .i64 (i : Int), .slice BA bound.length bc] w fun e w' => ∃ A' cap', e = .returned (.slice A' (freeE es i bound).length cap') ∧ OwnT w' w.heap.size A' cap' (freeE es i bound) ∧ Below w.heap.size w w' := by
  intro n
  induction n with
  | zero => intro i BA bc bound w hn hi; omega
  | succ n ih =>
    intro i BA bc bound w hn hi hx hr hbl
    obtain ⟨p, hp⟩ := getq_ex hi
    have hxo := hok p (List.mem_of_getElem? hp)
    have HIh := Lib.hid ih
    have H := Lib.hid (And.intro hx hr)
    have HKd := Lib.hid (fun v (hv : Below w.heap.size w v) => rKidsE_any Y A c es i p v (hx.fr (Fr.below hv : Fr Y w v) fun q hq => .inl hq) (by omega) hok hp)
    obtain ⟨eb, eo, rfl, hb, hy, ⟨TA, tc, UA, uc, _, _, c0, c1, c2, c3, c4, c5, c6, c7⟩, _⟩ := hx i p hp
    have h0' : (0 : Int) ≤ (i : Int) := by omega
    have h1' : (i : Int) < (es.length : Int) := by omega
    have HE := Lib.hid (freeE_eq hp bound)
    have HL : Hid ((freeE es i bound).length ≤ es.length) := Lib.hid (by
      obtain ⟨b, hb⟩ := hT i hi
      have := (free_len (es := es) es.length).1 i b bound hb (by omega)
      have := hb.lt
      omega)
    have HLt : Hid (∀ c ∈ rKids es (manyE p) (i + 1), i + 1 ≤ c ∧ c < es.length) := Lib.hid fun c hc => rKids_le _ _ _ hc
    have HM0 : Hid (p.k = 1 → rKids es (manyE p) (i + 1) = []) := Lib.hid fun h => by
      rw [show manyE p = 0 from by unfold manyE; simp [h]]
      rfl
    have HMore : Hid (∀ k, moreB p k = (if p.k = 2 ∨ p.k = 8 ∨ (p.k = 4 ∧ k = 1) ∨ (p.k = 5 ∧ k = 0) then [p.bd] else []) ++ if p.k = 5 then [p.nm] else []) := Lib.hid fun k => rfl
    obtain ⟨k0, hk0⟩ : ∃ k0, k0 = p.k := ⟨_, rfl⟩
    obtain ⟨nm, hnm⟩ : ∃ nm, nm = p.nm := ⟨_, rfl⟩
    obtain ⟨bd, hbd⟩ : ∃ bd, bd = p.bd := ⟨_, rfl⟩
    rw [← hk0] at c0 HE HM0 HMore
    rw [← hnm] at c2 HE HMore
    rw [← hbd] at c3 HMore
    obtain ⟨l, hll⟩ : ∃ l, l = rKids es (manyE p) (i + 1) := ⟨_, rfl⟩
    have hl51 : l.length ≤ 51 := by
      have h1 := rKids_few es (manyE p) (i + 1)
      have h2 := manyE_le hxo.2
      rw [hll]
      omega
    rw [← hll] at HKd HE HLt HM0
    have Hn := Lib.hid hn
    clear hx hr hxo hp hy hk0 hnm hbd hll ih hok hT hn
    go_enter Tryz.func34, Tryz.ntmps34
    go_upto_region 2 with fail
    obtain ⟨w1, hw1⟩ : ∃ w1, w1 = w.alloc (.cells #[.int .i64 k0, .string p.lb, .string nm, .string bd, .int .i64 p.mn, .int .i64 p.num, .slice TA p.T.length tc, .slice UA p.U.length uc] 33) := ⟨_, rfl⟩
    obtain ⟨P, hP⟩ : ∃ P, P = w.heap.size := ⟨_, rfl⟩
    have hb1 : Below w.heap.size w w1 := by rw [hw1]; exact ext_alloc (Below.refl _ _) _
    have hbl : w1.heap[P]? = some (.cells #[.int .i64 k0, .string p.lb, .string nm, .string bd, .int .i64 p.mn, .int .i64 p.num, .slice TA p.T.length tc, .slice UA p.U.length uc] 33 (0, 0)) := by rw [hw1, hP]; exact heap_alloc_new _ _
    have hs1 : P < w1.heap.size := by rw [hw1, hP]; simp
    have HP : Hid (∀ v, Below w1.heap.size w1 v → v.cell? ⟨P, 0, none⟩ = some (.int .i64 k0) ∧ v.cell? ⟨P, 2, none⟩ = some (.string nm) ∧ v.cell? ⟨P, 3, none⟩ = some (.string bd)) := Lib.hid fun v hv => by
      refine ⟨(hv.cell (p := ⟨P, 0, none⟩) hs1).trans ?_, (hv.cell (p := ⟨P, 2, none⟩) hs1).trans ?_, (hv.cell (p := ⟨P, 3, none⟩) hs1).trans ?_⟩ <;> simp [World.cell?, hbl]
    obtain ⟨p0, p2, p3⟩ := HP.out w1 (Below.refl _ _)
    have HB1 := Lib.hid hb1
    have HPw : Hid (P = w.heap.size ∧ P < w1.heap.size) := Lib.hid ⟨hP, hs1⟩
    have HR1 : Hid (ReadT w1 w1.heap.size BA bound) := Lib.hid ((ReadL.below H.out.2 hb1).more hb1.size)
    rw [← hw1, ← hP]
    clear hw1 hP hb1 hbl hs1 c0 c1 c2 c3 c4 c5 c6 c7

    have HE1 : Hid (k0 = 1 → inB nm bound = false → freeE es i bound = [nm]) := Lib.hid fun h1 h2 => by rw [HE.out, if_pos ⟨h1, h2⟩]
    have HE2 : Hid (¬ (k0 = 1 ∧ inB nm bound = false) → freeE es i bound = freeK p (freeE es) bound 0 l) := Lib.hid fun h => by rw [HE.out, if_neg h]
    by_cases hk1 : k0 = 1
    · have hkb : (k0 == 1) = true := by rw [hk1]; rfl
      have HK1 := Lib.hid hk1
      clear hk1
      go_wp2_with fail
      refine (rin_any BA bc bound nm w1 HR1.out (by omega)).mono ?_
      rintro e w2 ⟨rfl, rfl⟩
      cases hin : inB nm bound
      · have HF := Lib.hid (HE1.out HK1.out hin)
        go_wp2_with fail
        go_ret
        rw [HF.out]
        exact ⟨_, _, rfl, OwnL.lower (own_oneT w2 nm) (HB1.out.size), ext_alloc HB1.out _⟩
      · have HL0 : Hid (l = []) := Lib.hid (HM0.out HK1.out)
        have HF : Hid (freeE es i bound = []) := Lib.hid (by rw [HE2.out (fun h => by rw [hin] at h; cases h.2), HL0.out]; rfl)
        have hl0 := HL0.out
        subst hl0
        go_wp2_with fail
        refine (HKd.out _ (ext_alloc HB1.out _)).mono ?_
        rintro e w4 ⟨A1, cc, rfl, hown1, hb4⟩
        have HS4 : Hid (w2.heap.size < w4.heap.size) := Lib.hid (by have := hb4.size; simp at this; omega)
        have HL4 := Lib.hid (OwnL.read encI_len hown1)
        have HA1 : Hid (∀ a, A1 = some a → w2.heap.size < a.block) := Lib.hid fun a ha => by
          have := (OwnL.block hown1 a.block (by subst ha; rfl)).1
          simp at this
          omega
        have HO4 : Hid (OwnT w4 w2.heap.size (some ⟨w2.heap.size, 0, none⟩) 0 []) := Lib.hid (OwnL.below (own_empty 9 1 encT w2) hb4 (Nat.le_refl _))
        have HB14 : Hid (Below w2.heap.size w2 w4) := Lib.hid (ext_trans (ext_alloc (Below.refl _ _) _) hb4)
        have HB4 : Hid (Below w.heap.size w w4) := Lib.hid (ext_trans (ext_alloc HB1.out _) hb4)
        have hal : (asI []).length = 0 := rfl
        rw [hal]
        obtain ⟨G, hG⟩ : ∃ G, G = w2.heap.size := ⟨_, rfl⟩
        have HG := Lib.hid hG
        rw [← hG] at HO4 HA1 HS4 ⊢
        clear hown1 hb4 hal hG p0 p2 p3
        go_wp2_with fail
        go_loopw [8, 10] (fun o8 i10 wr => o8 = .slice (some ⟨G, 0, none⟩) 0 0 ∧ i10 = .int .i64 0 ∧ wr = w4) (fun _ _ _ => 0)
        case atStart => exact ⟨rfl, rfl, rfl⟩
        case round =>
          obtain ⟨rfl, rfl, rfl⟩ := hrel
          go_wp2_with fail
          go_ret
          rw [HF.out]
          exact ⟨_, _, rfl, OwnL.lower HO4.out (by rw [HG.out]; exact HB1.out.size), HB4.out⟩
    · have hkb : (k0 == 1) = false := by simpa using hk1
      have HF : Hid (freeE es i bound = freeK p (freeE es) bound 0 l) := Lib.hid (HE2.out fun h => hk1 h.1)
      clear hk1
      go_wp2_with fail
      refine (HKd.out _ (ext_alloc HB1.out _)).mono ?_
      rintro e w4 ⟨A1, cc, rfl, hown1, hb4⟩
      have HS4 : Hid (w1.heap.size < w4.heap.size) := Lib.hid (by have := hb4.size; simp at this; omega)
      have HL4 := Lib.hid (OwnL.read encI_len hown1)
      have HA1 : Hid (∀ a, A1 = some a → w1.heap.size < a.block) := Lib.hid fun a ha => by
        have := (OwnL.block hown1 a.block (by subst ha; rfl)).1
        simp at this
        omega
      have HO4 : Hid (OwnT w4 w1.heap.size (some ⟨w1.heap.size, 0, none⟩) 0 []) := Lib.hid (OwnL.below (own_empty 9 1 encT w1) hb4 (Nat.le_refl _))
      have HB14 : Hid (Below w1.heap.size w1 w4) := Lib.hid (ext_trans (ext_alloc (Below.refl _ _) _) hb4)
      have HB4 : Hid (Below w.heap.size w w4) := Lib.hid (ext_trans (ext_alloc HB1.out _) hb4)
      have hal : (asI l).length = l.length := by simp [asI]
      rw [hal]
      obtain ⟨G, hG⟩ : ∃ G, G = w1.heap.size := ⟨_, rfl⟩
      have HG := Lib.hid hG
      rw [← hG] at HO4 HA1 HS4 ⊢
      clear hown1 hb4 hal hG p0 p2 p3
      go_wp2_with fail
      go_loopw [8, 10] (fun o8 i10 wr => ∃ (k : Nat) (OA : Option Addr) (oc : Nat) (out : List ByteArray), o8 = .slice OA out.length oc ∧ i10 = .int .i64 k ∧ k ≤ l.length ∧
          Hid (OwnT wr G OA oc out ∧ Fr (fun q => q = G) w4 wr ∧ (∀ a, OA = some a → a.block = G ∨ w4.heap.size ≤ a.block) ∧ out ++ freeK p (freeE es) bound k (l.drop k) = freeE es i bound))
        (fun _ i10 _ => l.length - (Lib.intOf i10).toNat)
      case atStart => exact ⟨0, _, _, [], rfl, rfl, Nat.zero_le _, Lib.hid ⟨HO4.out, Fr.refl _ _, fun a ha => by injection ha with ha; subst ha; exact .inl rfl, by rw [HF.out]; rfl⟩⟩
      case round =>
        obtain ⟨k, OA, oc, out, rfl, rfl, hk, HI⟩ := hrel
        have HBr : Hid (Below w.heap.size w wr) := Lib.hid (Fr.toBelow (X := fun _ => False) (Fr.new (Fr.below HB4.out) HI.out.2.1 fun b hb => .inr (by rw [hb, HG.out]; exact HB1.out.size)) fun k h => h.elim)
        by_cases hlt : k < l.length
        rotate_left
        · have HO : Hid (out = freeE es i bound) := Lib.hid (by
            have := HI.out.2.2.2
            rw [List.drop_of_length_le (by omega)] at this
            simpa [freeK] using this)
          go_wp2_with fail
          go_ret
          rw [← HO.out]
          exact ⟨_, _, rfl, OwnL.lower HI.out.1 (by rw [HG.out]; exact HB1.out.size), HBr.out⟩
        obtain ⟨ch, hch⟩ := getq_ex hlt
        have hcr := HLt.out ch (List.mem_of_getElem? hch)
        have HS : Hid (out ++ (freeE es ch (bound ++ moreB p k) ++ freeK p (freeE es) bound (k + 1) (l.drop (k + 1))) = freeE es i bound) := Lib.hid (by rw [← freeK_step hch]; exact HI.out.2.2.2)
        have hol : out.length ≤ 1000 ∧ (freeE es ch (bound ++ moreB p k)).length ≤ 1000 := by
          have h1 := congrArg List.length HS.out
          have h2 := HL.out
          simp only [List.length_append] at h1
          omega
        obtain ⟨gl, go, hA1, hgl, cl⟩ := ReadL.int (ReadL.keep (B := w4.heap.size) HL4.out (w' := w4) fun b off _ => rfl) (i := k) (n := (ch : Int)) (by simp [asI, hch])
        subst hA1
        have hglG : gl ≠ G := by
          have := HA1.out _ rfl
          dsimp only at this
          omega
        have cl : wr.cell? ⟨gl, go + k, none⟩ = some (.int .i64 ch) := by
          simp only [World.cell?, HI.out.2.1.block gl hgl hglG] at cl ⊢
          exact cl
        have HKl : Hid (k + 1 ≤ l.length) := Lib.hid hlt
        have HC : Hid (∀ v, Below wr.heap.size wr v → v.cell? ⟨P, 0, none⟩ = some (.int .i64 k0) ∧ v.cell? ⟨P, 2, none⟩ = some (.string nm) ∧ v.cell? ⟨P, 3, none⟩ = some (.string bd) ∧ v.cell? ⟨gl, go + k, none⟩ = some (.int .i64 ch)) := Lib.hid fun v hv => by
          have hsz := HI.out.2.1.size
          have hPG : P < G := by
            have := HPw.out
            have := HG.out
            omega
          have hG4 := HS4.out
          obtain ⟨p0, p2, p3⟩ := HP.out w4 HB14.out
          have hbk := HI.out.2.1.block P (by omega) (by omega)
          refine ⟨?_, ?_, ?_, ?_⟩
          · rw [hv.cell (p := ⟨P, 0, none⟩) (show P < wr.heap.size by omega)]; simp only [World.cell?, hbk] at p0 ⊢; exact p0
          · rw [hv.cell (p := ⟨P, 2, none⟩) (show P < wr.heap.size by omega)]; simp only [World.cell?, hbk] at p2 ⊢; exact p2
          · rw [hv.cell (p := ⟨P, 3, none⟩) (show P < wr.heap.size by omega)]; simp only [World.cell?, hbk] at p3 ⊢; exact p3
          · rw [hv.cell (p := ⟨gl, go + k, none⟩) (show gl < wr.heap.size by omega)]; exact cl
        have HRb : Hid (ReadT (wr.alloc (.cells #[] 9)) wr.heap.size BA bound) := Lib.hid (by
          have hsz := HI.out.2.1.size
          have hG4 := HS4.out
          have hGe := HG.out
          have h1 := (HR1.out.keep (w' := wr) fun b off hb => (by
            have h2 : wr.heap[b]? = w1.heap[b]? := (HI.out.2.1.block b (by omega) (by omega)).trans (HB14.out.block b hb)
            simp only [World.cell?, h2]))
          exact (ReadL.below h1 (Below.alloc (Below.refl _ _) (by omega) _)).more (by omega))
        have HW5 := Lib.hid (own_empty 9 1 encT wr)
        obtain ⟨d0, d2, d3, dc⟩ := HC.out wr (Below.refl _ _)
        have HMk : Hid (moreB p k = (if k0 = 2 ∨ k0 = 8 ∨ (k0 = 4 ∧ k = 1) ∨ (k0 = 5 ∧ k = 0) then [bd] else []) ++ if k0 = 5 then [nm] else []) := Lib.hid (HMore.out k)
        have HCr := Lib.hid hcr
        clear hch cl hglG hgl hcr
        have hcs : k0 = 2 ∨ k0 = 8 ∨ (k0 = 4 ∧ k = 1) ∨ (k0 = 4 ∧ k ≠ 1) ∨ (k0 = 5 ∧ k = 0) ∨ (k0 = 5 ∧ k ≠ 0) ∨ (k0 ≠ 2 ∧ k0 ≠ 8 ∧ k0 ≠ 4 ∧ k0 ≠ 5) := by omega
        rcases hcs with hk2 | hk8 | ⟨hk4, hkk⟩ | ⟨hk4, hkk⟩ | ⟨hk5, hkk⟩ | ⟨hk5, hkk⟩ | ⟨hk2, hk8, hk4, hk5⟩
        · have e2 : (k0 == 2) = true := by simp; omega
          have e8 : (k0 == 8) = false := by simp; omega
          have e4 : (k0 == 4) = false := by simp; omega
          have e5 : (k0 == 5) = false := by simp; omega
          have HM : Hid (moreB p k = [bd]) := Lib.hid (by rw [HMk.out]; simp [*])
          clear HMk
          try clear hkk
          try clear hk2
          try clear hk8
          try clear hk4
          try clear hk5
          go_wp2_with (first | (at_builtin; refine wpList_appT rfl (.tmp 39) (.tmp 40) rfl wr.heap.size (m := 0) (n := bound.length) (l := []) rfl rfl HW5.out (l2 := bound) rfl rfl HRb.out (by omega) (by simp) ?_; intro A5 c5 w5 hown5 hg5 _; have HB5 : Hid (Below wr.heap.size wr w5) := Lib.hid (ext_app (ext_alloc (Below.refl _ _) _) hg5 (fun k hk => (OwnL.block HW5.out k hk).1)); have HO5 : Hid (OwnT w5 wr.heap.size A5 c5 bound) := Lib.hid (by simpa using hown5); obtain ⟨d0, d2, d3, dc⟩ := HC.out w5 HB5.out; clear hown5 hg5) | (at_builtin; refine wpList_appT rfl (.tmp 68) (.tmp 71) rfl wr.heap.size (m := bound.length) (n := 1) (l := bound) (by simp) rfl (OwnL.alloc HO5.out _) (l2 := [bd]) rfl rfl (readT_new _ _) (by omega) (by have := HB5.out.size; simp; omega) ?_; intro A6 c6 w6 hown6 hg6 _; have HB6 : Hid (Below wr.heap.size wr w6) := Lib.hid (ext_app (ext_alloc HB5.out _) hg6 (fun k hk => (OwnL.block HO5.out k (by simpa using hk)).1)); have HO6 : Hid (OwnT w6 wr.heap.size A6 c6 (bound ++ [bd])) := Lib.hid hown6; obtain ⟨d0, d2, d3, dc⟩ := HC.out w6 HB6.out; clear hown6 hg6))
          have hcl : (bound ++ moreB p k).length = (bound.length + 1) := by rw [HM.out]; simp
          have HCl := HIh.out ch A6 c6 (bound ++ moreB p k) w6 (by have := Hn.out; have := HCr.out; omega) HCr.out.2 (H.out.1.fr (Fr.below (ext_trans HBr.out HB6.out) : Fr Y w w6) fun q hq => .inl hq) (OwnL.read encT_len (by rw [HM.out]; simpa using HO6.out)) (by rw [hcl]; omega)
          rw [hcl] at HCl
          have HCl := Lib.hid HCl
          clear hcl
          refine HCl.out.mono ?_
          rintro e w8 ⟨A8, c8, rfl, hown8, hb8⟩
          have HB8 : Hid (Below wr.heap.size wr w8) := Lib.hid (ext_trans HB6.out hb8)
          have HO8 := Lib.hid (OwnL.read encT_len hown8)
          have HOut : Hid (OwnT w8 G OA oc out) := Lib.hid (OwnL.below HI.out.1 HB8.out (Nat.le_refl _))
          clear hown8 hb8 d0 d2 d3 dc
          go_wp2_with (at_builtin; refine wpList_appT rfl (.tmp 81) (.tmp 88) rfl G (m := out.length) (n := (freeE es ch (bound ++ moreB p k)).length) (l := out) rfl rfl HOut.out (l2 := freeE es ch (bound ++ moreB p k)) rfl rfl HO8.out (by omega) (by have := HB8.out.size; have := HI.out.2.1.size; have := HS4.out; omega) ?_; intro A9 c9 w9 hown9 hg9 hd9)
          have HI9 : Hid (OwnT w9 G A9 c9 (out ++ freeE es ch (bound ++ moreB p k)) ∧ Fr (fun q => q = G) w4 w9 ∧ (∀ a, A9 = some a → a.block = G ∨ w4.heap.size ≤ a.block) ∧ (out ++ freeE es ch (bound ++ moreB p k)) ++ freeK p (freeE es) bound (k + 1) (l.drop (k + 1)) = freeE es i bound) := Lib.hid (free_next HI.out HB8.out hown9 hg9 hd9 HS.out)
          clear hown9 hg9 hd9
          go_wp2_with fail
          go_roundw
          case rel => exact ⟨k + 1, A9, c9, out ++ freeE es ch (bound ++ moreB p k), by rw [List.length_append], by go_num, HKl.out, HI9⟩
          case measure => have := HKl.out; simp [Lib.intOf]; omega
        · have e2 : (k0 == 2) = false := by simp; omega
          have e8 : (k0 == 8) = true := by simp; omega
          have e4 : (k0 == 4) = false := by simp; omega
          have e5 : (k0 == 5) = false := by simp; omega
          have HM : Hid (moreB p k = [bd]) := Lib.hid (by rw [HMk.out]; simp [*])
          clear HMk
          try clear hkk
          try clear hk2
          try clear hk8
          try clear hk4
          try clear hk5
          go_wp2_with (first | (at_builtin; refine wpList_appT rfl (.tmp 39) (.tmp 40) rfl wr.heap.size (m := 0) (n := bound.length) (l := []) rfl rfl HW5.out (l2 := bound) rfl rfl HRb.out (by omega) (by simp) ?_; intro A5 c5 w5 hown5 hg5 _; have HB5 : Hid (Below wr.heap.size wr w5) := Lib.hid (ext_app (ext_alloc (Below.refl _ _) _) hg5 (fun k hk => (OwnL.block HW5.out k hk).1)); have HO5 : Hid (OwnT w5 wr.heap.size A5 c5 bound) := Lib.hid (by simpa using hown5); obtain ⟨d0, d2, d3, dc⟩ := HC.out w5 HB5.out; clear hown5 hg5) | (at_builtin; refine wpList_appT rfl (.tmp 68) (.tmp 71) rfl wr.heap.size (m := bound.length) (n := 1) (l := bound) (by simp) rfl (OwnL.alloc HO5.out _) (l2 := [bd]) rfl rfl (readT_new _ _) (by omega) (by have := HB5.out.size; simp; omega) ?_; intro A6 c6 w6 hown6 hg6 _; have HB6 : Hid (Below wr.heap.size wr w6) := Lib.hid (ext_app (ext_alloc HB5.out _) hg6 (fun k hk => (OwnL.block HO5.out k (by simpa using hk)).1)); have HO6 : Hid (OwnT w6 wr.heap.size A6 c6 (bound ++ [bd])) := Lib.hid hown6; obtain ⟨d0, d2, d3, dc⟩ := HC.out w6 HB6.out; clear hown6 hg6))
          have hcl : (bound ++ moreB p k).length = (bound.length + 1) := by rw [HM.out]; simp
          have HCl := HIh.out ch A6 c6 (bound ++ moreB p k) w6 (by have := Hn.out; have := HCr.out; omega) HCr.out.2 (H.out.1.fr (Fr.below (ext_trans HBr.out HB6.out) : Fr Y w w6) fun q hq => .inl hq) (OwnL.read encT_len (by rw [HM.out]; simpa using HO6.out)) (by rw [hcl]; omega)
          rw [hcl] at HCl
          have HCl := Lib.hid HCl
          clear hcl
          refine HCl.out.mono ?_
          rintro e w8 ⟨A8, c8, rfl, hown8, hb8⟩
          have HB8 : Hid (Below wr.heap.size wr w8) := Lib.hid (ext_trans HB6.out hb8)
          have HO8 := Lib.hid (OwnL.read encT_len hown8)
          have HOut : Hid (OwnT w8 G OA oc out) := Lib.hid (OwnL.below HI.out.1 HB8.out (Nat.le_refl _))
          clear hown8 hb8 d0 d2 d3 dc
          go_wp2_with (at_builtin; refine wpList_appT rfl (.tmp 81) (.tmp 88) rfl G (m := out.length) (n := (freeE es ch (bound ++ moreB p k)).length) (l := out) rfl rfl HOut.out (l2 := freeE es ch (bound ++ moreB p k)) rfl rfl HO8.out (by omega) (by have := HB8.out.size; have := HI.out.2.1.size; have := HS4.out; omega) ?_; intro A9 c9 w9 hown9 hg9 hd9)
          have HI9 : Hid (OwnT w9 G A9 c9 (out ++ freeE es ch (bound ++ moreB p k)) ∧ Fr (fun q => q = G) w4 w9 ∧ (∀ a, A9 = some a → a.block = G ∨ w4.heap.size ≤ a.block) ∧ (out ++ freeE es ch (bound ++ moreB p k)) ++ freeK p (freeE es) bound (k + 1) (l.drop (k + 1)) = freeE es i bound) := Lib.hid (free_next HI.out HB8.out hown9 hg9 hd9 HS.out)
          clear hown9 hg9 hd9
          go_wp2_with fail
          go_roundw
          case rel => exact ⟨k + 1, A9, c9, out ++ freeE es ch (bound ++ moreB p k), by rw [List.length_append], by go_num, HKl.out, HI9⟩
          case measure => have := HKl.out; simp [Lib.intOf]; omega
        · have e2 : (k0 == 2) = false := by simp; omega
          have e8 : (k0 == 8) = false := by simp; omega
          have e4 : (k0 == 4) = true := by simp; omega
          have e5 : (k0 == 5) = false := by simp; omega
          have ek1 : ((k : Int) == 1) = true := by simp; omega
          have HM : Hid (moreB p k = [bd]) := Lib.hid (by rw [HMk.out]; simp [*])
          clear HMk
          try clear hkk
          try clear hk2
          try clear hk8
          try clear hk4
          try clear hk5
          go_wp2_with (first | (at_builtin; refine wpList_appT rfl (.tmp 39) (.tmp 40) rfl wr.heap.size (m := 0) (n := bound.length) (l := []) rfl rfl HW5.out (l2 := bound) rfl rfl HRb.out (by omega) (by simp) ?_; intro A5 c5 w5 hown5 hg5 _; have HB5 : Hid (Below wr.heap.size wr w5) := Lib.hid (ext_app (ext_alloc (Below.refl _ _) _) hg5 (fun k hk => (OwnL.block HW5.out k hk).1)); have HO5 : Hid (OwnT w5 wr.heap.size A5 c5 bound) := Lib.hid (by simpa using hown5); obtain ⟨d0, d2, d3, dc⟩ := HC.out w5 HB5.out; clear hown5 hg5) | (at_builtin; refine wpList_appT rfl (.tmp 68) (.tmp 71) rfl wr.heap.size (m := bound.length) (n := 1) (l := bound) (by simp) rfl (OwnL.alloc HO5.out _) (l2 := [bd]) rfl rfl (readT_new _ _) (by omega) (by have := HB5.out.size; simp; omega) ?_; intro A6 c6 w6 hown6 hg6 _; have HB6 : Hid (Below wr.heap.size wr w6) := Lib.hid (ext_app (ext_alloc HB5.out _) hg6 (fun k hk => (OwnL.block HO5.out k (by simpa using hk)).1)); have HO6 : Hid (OwnT w6 wr.heap.size A6 c6 (bound ++ [bd])) := Lib.hid hown6; obtain ⟨d0, d2, d3, dc⟩ := HC.out w6 HB6.out; clear hown6 hg6))
          have hcl : (bound ++ moreB p k).length = (bound.length + 1) := by rw [HM.out]; simp
          have HCl := HIh.out ch A6 c6 (bound ++ moreB p k) w6 (by have := Hn.out; have := HCr.out; omega) HCr.out.2 (H.out.1.fr (Fr.below (ext_trans HBr.out HB6.out) : Fr Y w w6) fun q hq => .inl hq) (OwnL.read encT_len (by rw [HM.out]; simpa using HO6.out)) (by rw [hcl]; omega)
          rw [hcl] at HCl
          have HCl := Lib.hid HCl
          clear hcl
          refine HCl.out.mono ?_
          rintro e w8 ⟨A8, c8, rfl, hown8, hb8⟩
          have HB8 : Hid (Below wr.heap.size wr w8) := Lib.hid (ext_trans HB6.out hb8)
          have HO8 := Lib.hid (OwnL.read encT_len hown8)
          have HOut : Hid (OwnT w8 G OA oc out) := Lib.hid (OwnL.below HI.out.1 HB8.out (Nat.le_refl _))
          clear hown8 hb8 d0 d2 d3 dc
          go_wp2_with (at_builtin; refine wpList_appT rfl (.tmp 81) (.tmp 88) rfl G (m := out.length) (n := (freeE es ch (bound ++ moreB p k)).length) (l := out) rfl rfl HOut.out (l2 := freeE es ch (bound ++ moreB p k)) rfl rfl HO8.out (by omega) (by have := HB8.out.size; have := HI.out.2.1.size; have := HS4.out; omega) ?_; intro A9 c9 w9 hown9 hg9 hd9)
          have HI9 : Hid (OwnT w9 G A9 c9 (out ++ freeE es ch (bound ++ moreB p k)) ∧ Fr (fun q => q = G) w4 w9 ∧ (∀ a, A9 = some a → a.block = G ∨ w4.heap.size ≤ a.block) ∧ (out ++ freeE es ch (bound ++ moreB p k)) ++ freeK p (freeE es) bound (k + 1) (l.drop (k + 1)) = freeE es i bound) := Lib.hid (free_next HI.out HB8.out hown9 hg9 hd9 HS.out)
          clear hown9 hg9 hd9
          go_wp2_with fail
          go_roundw
          case rel => exact ⟨k + 1, A9, c9, out ++ freeE es ch (bound ++ moreB p k), by rw [List.length_append], by go_num, HKl.out, HI9⟩
          case measure => have := HKl.out; simp [Lib.intOf]; omega
        · have e2 : (k0 == 2) = false := by simp; omega
          have e8 : (k0 == 8) = false := by simp; omega
          have e4 : (k0 == 4) = true := by simp; omega
          have e5 : (k0 == 5) = false := by simp; omega
          have ek1 : ((k : Int) == 1) = false := by simp; omega
          have HM : Hid (moreB p k = []) := Lib.hid (by rw [HMk.out]; simp [*])
          clear HMk
          try clear hkk
          try clear hk2
          try clear hk8
          try clear hk4
          try clear hk5
          go_wp2_with (first | (at_builtin; refine wpList_appT rfl (.tmp 39) (.tmp 40) rfl wr.heap.size (m := 0) (n := bound.length) (l := []) rfl rfl HW5.out (l2 := bound) rfl rfl HRb.out (by omega) (by simp) ?_; intro A5 c5 w5 hown5 hg5 _; have HB5 : Hid (Below wr.heap.size wr w5) := Lib.hid (ext_app (ext_alloc (Below.refl _ _) _) hg5 (fun k hk => (OwnL.block HW5.out k hk).1)); have HO5 : Hid (OwnT w5 wr.heap.size A5 c5 bound) := Lib.hid (by simpa using hown5); obtain ⟨d0, d2, d3, dc⟩ := HC.out w5 HB5.out; clear hown5 hg5))
          have hcl : (bound ++ moreB p k).length = bound.length := by rw [HM.out]; simp
          have HCl := HIh.out ch A5 c5 (bound ++ moreB p k) w5 (by have := Hn.out; have := HCr.out; omega) HCr.out.2 (H.out.1.fr (Fr.below (ext_trans HBr.out HB5.out) : Fr Y w w5) fun q hq => .inl hq) (OwnL.read encT_len (by rw [HM.out]; simpa using HO5.out)) (by rw [hcl]; omega)
          rw [hcl] at HCl
          have HCl := Lib.hid HCl
          clear hcl
          refine HCl.out.mono ?_
          rintro e w8 ⟨A8, c8, rfl, hown8, hb8⟩
          have HB8 : Hid (Below wr.heap.size wr w8) := Lib.hid (ext_trans HB5.out hb8)
          have HO8 := Lib.hid (OwnL.read encT_len hown8)
          have HOut : Hid (OwnT w8 G OA oc out) := Lib.hid (OwnL.below HI.out.1 HB8.out (Nat.le_refl _))
          clear hown8 hb8 d0 d2 d3 dc
          go_wp2_with (at_builtin; refine wpList_appT rfl (.tmp 81) (.tmp 88) rfl G (m := out.length) (n := (freeE es ch (bound ++ moreB p k)).length) (l := out) rfl rfl HOut.out (l2 := freeE es ch (bound ++ moreB p k)) rfl rfl HO8.out (by omega) (by have := HB8.out.size; have := HI.out.2.1.size; have := HS4.out; omega) ?_; intro A9 c9 w9 hown9 hg9 hd9)
          have HI9 : Hid (OwnT w9 G A9 c9 (out ++ freeE es ch (bound ++ moreB p k)) ∧ Fr (fun q => q = G) w4 w9 ∧ (∀ a, A9 = some a → a.block = G ∨ w4.heap.size ≤ a.block) ∧ (out ++ freeE es ch (bound ++ moreB p k)) ++ freeK p (freeE es) bound (k + 1) (l.drop (k + 1)) = freeE es i bound) := Lib.hid (free_next HI.out HB8.out hown9 hg9 hd9 HS.out)
          clear hown9 hg9 hd9
          go_wp2_with fail
          go_roundw
          case rel => exact ⟨k + 1, A9, c9, out ++ freeE es ch (bound ++ moreB p k), by rw [List.length_append], by go_num, HKl.out, HI9⟩
          case measure => have := HKl.out; simp [Lib.intOf]; omega
        · have e2 : (k0 == 2) = false := by simp; omega
          have e8 : (k0 == 8) = false := by simp; omega
          have e4 : (k0 == 4) = false := by simp; omega
          have e5 : (k0 == 5) = true := by simp; omega
          have ek0 : ((k : Int) == 0) = true := by simp; omega
          have HM : Hid (moreB p k = [bd, nm]) := Lib.hid (by rw [HMk.out]; simp [*])
          clear HMk
          try clear hkk
          try clear hk2
          try clear hk8
          try clear hk4
          try clear hk5
          go_wp2_with (first | (at_builtin; refine wpList_appT rfl (.tmp 39) (.tmp 40) rfl wr.heap.size (m := 0) (n := bound.length) (l := []) rfl rfl HW5.out (l2 := bound) rfl rfl HRb.out (by omega) (by simp) ?_; intro A5 c5 w5 hown5 hg5 _; have HB5 : Hid (Below wr.heap.size wr w5) := Lib.hid (ext_app (ext_alloc (Below.refl _ _) _) hg5 (fun k hk => (OwnL.block HW5.out k hk).1)); have HO5 : Hid (OwnT w5 wr.heap.size A5 c5 bound) := Lib.hid (by simpa using hown5); obtain ⟨d0, d2, d3, dc⟩ := HC.out w5 HB5.out; clear hown5 hg5) | (at_builtin; refine wpList_appT rfl (.tmp 68) (.tmp 71) rfl wr.heap.size (m := bound.length) (n := 1) (l := bound) (by simp) rfl (OwnL.alloc HO5.out _) (l2 := [bd]) rfl rfl (readT_new _ _) (by omega) (by have := HB5.out.size; simp; omega) ?_; intro A6 c6 w6 hown6 hg6 _; have HB6 : Hid (Below wr.heap.size wr w6) := Lib.hid (ext_app (ext_alloc HB5.out _) hg6 (fun k hk => (OwnL.block HO5.out k (by simpa using hk)).1)); have HO6 : Hid (OwnT w6 wr.heap.size A6 c6 (bound ++ [bd])) := Lib.hid hown6; obtain ⟨d0, d2, d3, dc⟩ := HC.out w6 HB6.out; clear hown6 hg6) | (at_builtin; refine wpList_appT rfl (.tmp 76) (.tmp 79) rfl wr.heap.size (m := (bound.length + 1)) (n := 1) (l := (bound ++ [bd])) (by simp) rfl (OwnL.alloc HO6.out _) (l2 := [nm]) rfl rfl (readT_new _ _) (by omega) (by have := HB6.out.size; simp; omega) ?_; intro A7 c7 w7 hown7 hg7 _; have HB7 : Hid (Below wr.heap.size wr w7) := Lib.hid (ext_app (ext_alloc HB6.out _) hg7 (fun k hk => (OwnL.block HO6.out k (by simpa using hk)).1)); have HO7 : Hid (OwnT w7 wr.heap.size A7 c7 ((bound ++ [bd]) ++ [nm])) := Lib.hid hown7; obtain ⟨d0, d2, d3, dc⟩ := HC.out w7 HB7.out; clear hown7 hg7))
          have hcl : (bound ++ moreB p k).length = ((bound.length + 1) + 1) := by rw [HM.out]; simp
          have HCl := HIh.out ch A7 c7 (bound ++ moreB p k) w7 (by have := Hn.out; have := HCr.out; omega) HCr.out.2 (H.out.1.fr (Fr.below (ext_trans HBr.out HB7.out) : Fr Y w w7) fun q hq => .inl hq) (OwnL.read encT_len (by rw [HM.out]; simpa using HO7.out)) (by rw [hcl]; omega)
          rw [hcl] at HCl
          have HCl := Lib.hid HCl
          clear hcl
          refine HCl.out.mono ?_
          rintro e w8 ⟨A8, c8, rfl, hown8, hb8⟩
          have HB8 : Hid (Below wr.heap.size wr w8) := Lib.hid (ext_trans HB7.out hb8)
          have HO8 := Lib.hid (OwnL.read encT_len hown8)
          have HOut : Hid (OwnT w8 G OA oc out) := Lib.hid (OwnL.below HI.out.1 HB8.out (Nat.le_refl _))
          clear hown8 hb8 d0 d2 d3 dc
          go_wp2_with (at_builtin; refine wpList_appT rfl (.tmp 81) (.tmp 88) rfl G (m := out.length) (n := (freeE es ch (bound ++ moreB p k)).length) (l := out) rfl rfl HOut.out (l2 := freeE es ch (bound ++ moreB p k)) rfl rfl HO8.out (by omega) (by have := HB8.out.size; have := HI.out.2.1.size; have := HS4.out; omega) ?_; intro A9 c9 w9 hown9 hg9 hd9)
          have HI9 : Hid (OwnT w9 G A9 c9 (out ++ freeE es ch (bound ++ moreB p k)) ∧ Fr (fun q => q = G) w4 w9 ∧ (∀ a, A9 = some a → a.block = G ∨ w4.heap.size ≤ a.block) ∧ (out ++ freeE es ch (bound ++ moreB p k)) ++ freeK p (freeE es) bound (k + 1) (l.drop (k + 1)) = freeE es i bound) := Lib.hid (free_next HI.out HB8.out hown9 hg9 hd9 HS.out)
          clear hown9 hg9 hd9
          go_wp2_with fail
          go_roundw
          case rel => exact ⟨k + 1, A9, c9, out ++ freeE es ch (bound ++ moreB p k), by rw [List.length_append], by go_num, HKl.out, HI9⟩
          case measure => have := HKl.out; simp [Lib.intOf]; omega
        · have e2 : (k0 == 2) = false := by simp; omega
          have e8 : (k0 == 8) = false := by simp; omega
          have e4 : (k0 == 4) = false := by simp; omega
          have e5 : (k0 == 5) = true := by simp; omega
          have ek0 : ((k : Int) == 0) = false := by simp; omega
          have HM : Hid (moreB p k = [nm]) := Lib.hid (by rw [HMk.out]; simp [*])
          clear HMk
          try clear hkk
          try clear hk2
          try clear hk8
          try clear hk4
          try clear hk5
          go_wp2_with (first | (at_builtin; refine wpList_appT rfl (.tmp 39) (.tmp 40) rfl wr.heap.size (m := 0) (n := bound.length) (l := []) rfl rfl HW5.out (l2 := bound) rfl rfl HRb.out (by omega) (by simp) ?_; intro A5 c5 w5 hown5 hg5 _; have HB5 : Hid (Below wr.heap.size wr w5) := Lib.hid (ext_app (ext_alloc (Below.refl _ _) _) hg5 (fun k hk => (OwnL.block HW5.out k hk).1)); have HO5 : Hid (OwnT w5 wr.heap.size A5 c5 bound) := Lib.hid (by simpa using hown5); obtain ⟨d0, d2, d3, dc⟩ := HC.out w5 HB5.out; clear hown5 hg5) | (at_builtin; refine wpList_appT rfl (.tmp 76) (.tmp 79) rfl wr.heap.size (m := bound.length) (n := 1) (l := bound) (by simp) rfl (OwnL.alloc HO5.out _) (l2 := [nm]) rfl rfl (readT_new _ _) (by omega) (by have := HB5.out.size; simp; omega) ?_; intro A7 c7 w7 hown7 hg7 _; have HB7 : Hid (Below wr.heap.size wr w7) := Lib.hid (ext_app (ext_alloc HB5.out _) hg7 (fun k hk => (OwnL.block HO5.out k (by simpa using hk)).1)); have HO7 : Hid (OwnT w7 wr.heap.size A7 c7 (bound ++ [nm])) := Lib.hid hown7; obtain ⟨d0, d2, d3, dc⟩ := HC.out w7 HB7.out; clear hown7 hg7))
          have hcl : (bound ++ moreB p k).length = (bound.length + 1) := by rw [HM.out]; simp
          have HCl := HIh.out ch A7 c7 (bound ++ moreB p k) w7 (by have := Hn.out; have := HCr.out; omega) HCr.out.2 (H.out.1.fr (Fr.below (ext_trans HBr.out HB7.out) : Fr Y w w7) fun q hq => .inl hq) (OwnL.read encT_len (by rw [HM.out]; simpa using HO7.out)) (by rw [hcl]; omega)
          rw [hcl] at HCl
          have HCl := Lib.hid HCl
          clear hcl
          refine HCl.out.mono ?_
          rintro e w8 ⟨A8, c8, rfl, hown8, hb8⟩
          have HB8 : Hid (Below wr.heap.size wr w8) := Lib.hid (ext_trans HB7.out hb8)
          have HO8 := Lib.hid (OwnL.read encT_len hown8)
          have HOut : Hid (OwnT w8 G OA oc out) := Lib.hid (OwnL.below HI.out.1 HB8.out (Nat.le_refl _))
          clear hown8 hb8 d0 d2 d3 dc
          go_wp2_with (at_builtin; refine wpList_appT rfl (.tmp 81) (.tmp 88) rfl G (m := out.length) (n := (freeE es ch (bound ++ moreB p k)).length) (l := out) rfl rfl HOut.out (l2 := freeE es ch (bound ++ moreB p k)) rfl rfl HO8.out (by omega) (by have := HB8.out.size; have := HI.out.2.1.size; have := HS4.out; omega) ?_; intro A9 c9 w9 hown9 hg9 hd9)
          have HI9 : Hid (OwnT w9 G A9 c9 (out ++ freeE es ch (bound ++ moreB p k)) ∧ Fr (fun q => q = G) w4 w9 ∧ (∀ a, A9 = some a → a.block = G ∨ w4.heap.size ≤ a.block) ∧ (out ++ freeE es ch (bound ++ moreB p k)) ++ freeK p (freeE es) bound (k + 1) (l.drop (k + 1)) = freeE es i bound) := Lib.hid (free_next HI.out HB8.out hown9 hg9 hd9 HS.out)
          clear hown9 hg9 hd9
          go_wp2_with fail
          go_roundw
          case rel => exact ⟨k + 1, A9, c9, out ++ freeE es ch (bound ++ moreB p k), by rw [List.length_append], by go_num, HKl.out, HI9⟩
          case measure => have := HKl.out; simp [Lib.intOf]; omega
        · have e2 : (k0 == 2) = false := by simp; omega
          have e8 : (k0 == 8) = false := by simp; omega
          have e4 : (k0 == 4) = false := by simp; omega
          have e5 : (k0 == 5) = false := by simp; omega
          have HM : Hid (moreB p k = []) := Lib.hid (by rw [HMk.out]; simp [*])
          clear HMk
          try clear hkk
          try clear hk2
          try clear hk8
          try clear hk4
          try clear hk5
          go_wp2_with (first | (at_builtin; refine wpList_appT rfl (.tmp 39) (.tmp 40) rfl wr.heap.size (m := 0) (n := bound.length) (l := []) rfl rfl HW5.out (l2 := bound) rfl rfl HRb.out (by omega) (by simp) ?_; intro A5 c5 w5 hown5 hg5 _; have HB5 : Hid (Below wr.heap.size wr w5) := Lib.hid (ext_app (ext_alloc (Below.refl _ _) _) hg5 (fun k hk => (OwnL.block HW5.out k hk).1)); have HO5 : Hid (OwnT w5 wr.heap.size A5 c5 bound) := Lib.hid (by simpa using hown5); obtain ⟨d0, d2, d3, dc⟩ := HC.out w5 HB5.out; clear hown5 hg5))
          have hcl : (bound ++ moreB p k).length = bound.length := by rw [HM.out]; simp
          have HCl := HIh.out ch A5 c5 (bound ++ moreB p k) w5 (by have := Hn.out; have := HCr.out; omega) HCr.out.2 (H.out.1.fr (Fr.below (ext_trans HBr.out HB5.out) : Fr Y w w5) fun q hq => .inl hq) (OwnL.read encT_len (by rw [HM.out]; simpa using HO5.out)) (by rw [hcl]; omega)
          rw [hcl] at HCl
          have HCl := Lib.hid HCl
          clear hcl
          refine HCl.out.mono ?_
          rintro e w8 ⟨A8, c8, rfl, hown8, hb8⟩
          have HB8 : Hid (Below wr.heap.size wr w8) := Lib.hid (ext_trans HB5.out hb8)
          have HO8 := Lib.hid (OwnL.read encT_len hown8)
          have HOut : Hid (OwnT w8 G OA oc out) := Lib.hid (OwnL.below HI.out.1 HB8.out (Nat.le_refl _))
          clear hown8 hb8 d0 d2 d3 dc
          go_wp2_with (at_builtin; refine wpList_appT rfl (.tmp 81) (.tmp 88) rfl G (m := out.length) (n := (freeE es ch (bound ++ moreB p k)).length) (l := out) rfl rfl HOut.out (l2 := freeE es ch (bound ++ moreB p k)) rfl rfl HO8.out (by omega) (by have := HB8.out.size; have := HI.out.2.1.size; have := HS4.out; omega) ?_; intro A9 c9 w9 hown9 hg9 hd9)
          have HI9 : Hid (OwnT w9 G A9 c9 (out ++ freeE es ch (bound ++ moreB p k)) ∧ Fr (fun q => q = G) w4 w9 ∧ (∀ a, A9 = some a → a.block = G ∨ w4.heap.size ≤ a.block) ∧ (out ++ freeE es ch (bound ++ moreB p k)) ++ freeK p (freeE es) bound (k + 1) (l.drop (k + 1)) = freeE es i bound) := Lib.hid (free_next HI.out HB8.out hown9 hg9 hd9 HS.out)
          clear hown9 hg9 hd9
          go_wp2_with fail
          go_roundw
          case rel => exact ⟨k + 1, A9, c9, out ++ freeE es ch (bound ++ moreB p k), by rw [List.length_append], by go_num, HKl.out, HI9⟩
          case measure => have := HKl.out; simp [Lib.intOf]; omega
end Go.Proofs.YtmjdhfbnmmdjiaaGreat

/- The document's Free. -/
namespace Go.Proofs.YtmjdhfbnmmdjiaaGreat
open Go.RowKit

def candB (O : List ByteArray) (x : ByteArray) : Bool :=
  match O.getLast? with
  | none => true
  | some y => ltB y x
structure SelO (O l : List ByteArray) (b : ByteArray) (had : Bool) : Prop where
  no : had = false → ∀ x ∈ l, candB O x = false
  yes : had = true → b ∈ l ∧ candB O b = true ∧ ∀ x ∈ l, candB O x = true → ltB x b = false
theorem SelO.skip {O l : List ByteArray} {b x : ByteArray} {had : Bool} (h : SelO O l b had) (hx : candB O x = false) : SelO O (l ++ [x]) b had :=
  ⟨fun e y hy => by
    rcases List.mem_append.1 hy with hy | hy
    · exact h.no e y hy
    · simp at hy
      rw [hy]
      exact hx,
  fun e => ⟨by simp [(h.yes e).1], (h.yes e).2.1, fun y hy hc => by
    rcases List.mem_append.1 hy with hy | hy
    · exact (h.yes e).2.2 y hy hc
    · simp at hy
      rw [hy, hx] at hc
      cases hc⟩⟩
theorem SelO.less {O l : List ByteArray} {b x : ByteArray} (h : SelO O l b true) (hx : ltB x b = false) : SelO O (l ++ [x]) b true :=
  ⟨(fun e => by cases e), fun e => ⟨by simp [(h.yes e).1], (h.yes e).2.1, fun y hy hc => by
    rcases List.mem_append.1 hy with hy | hy
    · exact (h.yes e).2.2 y hy hc
    · simp at hy
      rw [hy]
      exact hx⟩⟩
theorem ltB_asym {a b : ByteArray} (h : ltB a b = true) : ltB b a = false := by
  cases k : ltB b a with
  | false => rfl
  | true =>
    have := ltB_trans h k
    rw [ltB_irrefl] at this
    cases this
theorem SelO.take0 {O l : List ByteArray} {b x : ByteArray} (h : SelO O l b false) (hx : candB O x = true) : SelO O (l ++ [x]) x true :=
  ⟨(fun e => by cases e), fun _ => ⟨by simp, hx, fun y hy hc => by
    rcases List.mem_append.1 hy with hy | hy
    · rw [h.no rfl y hy] at hc
      cases hc
    · simp at hy
      rw [hy]
      exact ltB_irrefl x⟩⟩
theorem SelO.take1 {O l : List ByteArray} {b x : ByteArray} (h : SelO O l b true) (hx : candB O x = true) (hl : ltB x b = true) : SelO O (l ++ [x]) x true :=
  ⟨(fun e => by cases e), fun _ => ⟨by simp, hx, fun y hy hc => by
    rcases List.mem_append.1 hy with hy | hy
    · cases k : ltB y x with
      | false => rfl
      | true =>
        have := ltB_trans k hl
        rw [(h.yes rfl).2.2 y hy hc] at this
        cases this
    · simp at hy
      rw [hy]
      exact ltB_irrefl x⟩⟩
structure Fnd (l O : List ByteArray) : Prop where
  sub : ∀ x ∈ O, x ∈ l
  all : ∀ x ∈ l, x ∈ O ∨ candB O x = true
  len : O.length + (l.filter (candB O)).length ≤ l.length
theorem filt_lt {l : List ByteArray} {p q : ByteArray → Bool} (h : ∀ x, p x = true → q x = true) {y : ByteArray} (hy : y ∈ l) (hq : q y = true) (hp : p y = false) : (l.filter p).length < (l.filter q).length := by
  have hle : ∀ m : List ByteArray, (m.filter p).length ≤ (m.filter q).length := fun m => by
    induction m with
    | nil => simp
    | cons x m ih =>
      simp only [List.filter_cons]
      cases hpx : p x with
      | true =>
        rw [if_pos rfl, h x hpx, if_pos rfl]
        simpa using ih
      | false =>
        rw [if_neg (by simp)]
        split
        · simp only [List.length_cons]; omega
        · exact ih
  induction l with
  | nil => simp at hy
  | cons x l ih =>
    simp only [List.filter_cons]
    rcases List.mem_cons.1 hy with rfl | hy
    · rw [hp, hq, if_neg (by simp), if_pos rfl]
      have := hle l
      simp only [List.length_cons]
      omega
    · have := ih hy
      cases hpx : p x with
      | true =>
        rw [if_pos rfl, h x hpx, if_pos rfl]
        simpa using this
      | false =>
        rw [if_neg (by simp)]
        split
        · simp only [List.length_cons]; omega
        · exact this
theorem cand_snoc (O : List ByteArray) (b x : ByteArray) : candB (O ++ [b]) x = ltB b x := by
  simp [candB]
theorem Fnd.next {l O : List ByteArray} {b : ByteArray} (h : Fnd l O) (s : SelO O l b true) : Fnd l (O ++ [b]) := by
  obtain ⟨s1, s2, s3⟩ := s.yes rfl
  refine ⟨fun x hx => ?_, fun x hx => ?_, ?_⟩
  · rcases List.mem_append.1 hx with hx | hx
    · exact h.sub x hx
    · simp at hx
      rw [hx]
      exact s1
  · rw [cand_snoc]
    rcases h.all x hx with h1 | h1
    · exact .inl (by simp [h1])
    · have h2 := s3 x hx h1
      cases h3 : ltB b x with
      | true => exact .inr rfl
      | false => exact .inl (by rw [ltB_eq h2 h3]; simp)
  · have h1 := h.len
    have h2 := filt_lt (l := l) (p := candB (O ++ [b])) (q := candB O) (fun x hx => by
      rw [cand_snoc] at hx
      unfold candB at s2 ⊢
      cases hO : O.getLast? with
      | none => rfl
      | some y =>
        rw [hO] at s2
        dsimp only at s2 ⊢
        exact ltB_trans s2 hx) s1 s2 (by rw [cand_snoc]; exact ltB_irrefl b)
    rw [List.length_append]
    simp only [List.length_singleton]
    omega
theorem Fnd.room {l O : List ByteArray} {b : ByteArray} (h : Fnd l O) (s : SelO O l b true) : O.length + 1 ≤ l.length := by
  have := (h.next s).len
  rw [List.length_append] at this
  simp only [List.length_singleton] at this
  omega
theorem Fnd.done {l O : List ByteArray} {b : ByteArray} (h : Fnd l O) (s : SelO O l b false) (x : ByteArray) : x ∈ O ↔ x ∈ l := ⟨h.sub x, fun hx => by
  rcases h.all x hx with h1 | h1
  · exact h1
  · rw [s.no rfl x hx] at h1
    cases h1⟩
theorem eqS {x y : ByteArray} (h : Op.bytesLess x.toList y.toList = false) (k : Op.bytesLess y.toList x.toList = false) : (x.toList == y.toList) = true := by
  have : x = y := ltB_eq h k
  rw [this]
  simp
theorem neS {x y : ByteArray} (h : Op.bytesLess y.toList x.toList = true) : (x.toList == y.toList) = false := by
  cases hc : (x.toList == y.toList) with
  | false => rfl
  | true =>
    have := strEqI hc
    subst this
    have h2 : ltB x x = true := h
    rw [ltB_irrefl] at h2
    cases h2
theorem free_meas {M n k : Nat} (h : n + 1 ≤ k) (e : n = M) : k - (M + 1) < k - M := by omega
theorem take_snoc {l : List ByteArray} {i : Nat} {x : ByteArray} (h : l[i]? = some x) : l.take (i + 1) = l.take i ++ [x] := by
  rw [List.take_add_one, h]
  rfl

set_option maxRecDepth 100000 in
set_option maxHeartbeats 8000000 in
theorem rFree_any (Y : Nat → Prop) (A : Option Addr) (c : Nat) (es : List Pt) (hok : PsOk es) (hT : ∀ i, i < es.length → ∃ b, EA es 1 i b) (hl : es.length ≤ 1000) (hpos : 0 < es.length) (w : World) (hx : ExX w Y A es) :
    Calls Tryz.prog 16 #[.slice A es.length c] w fun e w' => ∃ (A' : Option Addr) (cap' : Nat) (out : List ByteArray), e = .returned (.slice A' out.length cap') ∧ OwnT w' w.heap.size A' cap' out ∧ (∀ s, s ∈ out ↔ s ∈ freeE es 0 []) ∧ out.length ≤ 1000 ∧ Below w.heap.size w w' := by
  have HFr := Lib.hid (rfree_any Y A c es hok hT hl es.length 0 none 0 [] w (by omega) hpos hx ReadL.nil (by simp; omega))
  have hfl : (freeE es 0 []).length ≤ 1000 := by
    obtain ⟨b, hb⟩ := hT 0 hpos
    have := (free_len (es := es) es.length).1 0 b [] hb (by omega)
    have := hb.lt
    omega
  obtain ⟨l, hll⟩ : ∃ l, l = freeE es 0 [] := ⟨_, rfl⟩
  rw [← hll] at hfl HFr ⊢
  clear hll hok hT hx
  go_enter Tryz.func16, Tryz.ntmps16
  go_wp2_with fail
  refine HFr.out.mono ?_
  rintro e w1 ⟨A1, c1, rfl, hown1, hb1⟩
  have HL := Lib.hid (OwnL.read encT_len hown1)
  have HB1 := Lib.hid hb1
  have HO0 := Lib.hid (own_empty 9 1 encT w1)
  clear hown1 hb1
  go_wp2_with fail
  go_loopw [4] (fun o4 wr => ∃ (A4 : Option Addr) (c4 : Nat) (O : List ByteArray), o4 = .slice A4 O.length c4 ∧ Hid (OwnT wr w1.heap.size A4 c4 O ∧ Below w1.heap.size w1 wr ∧ Fnd l O)) (fun o4 _ => l.length - lenOf o4)
  case atStart => exact ⟨_, _, [], rfl, Lib.hid ⟨HO0.out, ext_alloc (Below.refl _ _) _, ⟨by simp, fun x hx => .inr rfl, by simpa using List.length_filter_le _ _⟩⟩⟩
  case round =>
    obtain ⟨A4, c4, O, rfl, HI⟩ := hrel
    have hOl : O.length ≤ l.length := by have := HI.out.2.2.len; omega
    have hcs : O = [] ∨ ∃ O2 y, O = O2 ++ [y] := by
      rcases List.eq_nil_or_concat O with h | ⟨O2, y, h⟩
      · exact .inl h
      · exact .inr ⟨O2, y, by simpa using h⟩
    rcases hcs with rfl | ⟨O2, y, hO⟩
    · go_wp2_with fail
      go_loopw [5, 6, 7] (fun o5 o6 o7 wi => ∃ (b : ByteArray) (had : Bool) (i : Nat), o5 = .string b ∧ o6 = .bool had ∧ o7 = .int .i64 i ∧ i ≤ l.length ∧ Hid (OwnT wi w1.heap.size A4 c4 [] ∧ Below w1.heap.size w1 wi ∧ SelO [] (l.take i) b had)) (fun _ _ o7 _ => l.length - (Lib.intOf o7).toNat)
      case atStart => exact ⟨_, false, 0, rfl, rfl, rfl, Nat.zero_le _, Lib.hid ⟨HI.out.1, HI.out.2.1, ⟨fun _ x hx => by simp at hx, (fun e => by cases e)⟩⟩⟩
      case round =>
        obtain ⟨b, had, i, rfl, rfl, rfl, hi, HS⟩ := hrel
        by_cases hlt : i < l.length
        · obtain ⟨x, hx⟩ := getq_ex hlt
          have HT := Lib.hid (take_snoc hx)
          obtain ⟨bl, ol, hA1, _, cx⟩ := ReadL.str (ReadL.below HL.out HS.out.2.1) hx
          subst hA1
          have HKl : Hid (i + 1 ≤ l.length) := Lib.hid hlt
          clear hx
          cases had
          · skip
            go_upto_region 7 with fail
            go_quiet (fail)
            go_wp2_with fail
            go_roundw
            case rel => exact ⟨x, true, i + 1, rfl, rfl, by go_num, HKl.out, Lib.hid ⟨HS.out.1, below_drewN HS.out.2.1 _, by rw [HT.out]; exact HS.out.2.2.take0 rfl⟩⟩
            case measure => have := HKl.out; simp [Lib.intOf]; omega
          · cases hxb : Op.bytesLess x.toList b.toList
            · skip
              go_upto_region 7 with fail
              go_quiet (fail)
              go_wp2_with fail
              go_roundw
              case rel => exact ⟨b, true, i + 1, rfl, rfl, by go_num, HKl.out, Lib.hid ⟨HS.out.1, below_drewN HS.out.2.1 _, by rw [HT.out]; exact HS.out.2.2.less hxb⟩⟩
              case measure => have := HKl.out; simp [Lib.intOf]; omega
            · skip
              go_upto_region 7 with fail
              go_quiet (fail)
              go_wp2_with fail
              go_roundw
              case rel => exact ⟨x, true, i + 1, rfl, rfl, by go_num, HKl.out, Lib.hid ⟨HS.out.1, below_drewN HS.out.2.1 _, by rw [HT.out]; exact HS.out.2.2.take1 rfl hxb⟩⟩
              case measure => have := HKl.out; simp [Lib.intOf]; omega
        · have HS2 : Hid (SelO [] l b had) := Lib.hid (by
            have := HS.out.2.2
            rwa [List.take_of_length_le (by omega)] at this)
          cases had
          · go_wp2_with fail
            go_ret
            exact ⟨_, c4, [], rfl, OwnL.lower HS.out.1 HB1.out.size, HI.out.2.2.done HS2.out, by have := HI.out.2.2.len; omega, ext_trans HB1.out HS.out.2.1⟩
          · have HRm := Lib.hid (HI.out.2.2.room HS2.out)
            go_wp2_with (at_builtin; refine wpList_appT rfl (.tmp 52) (.tmp 54) rfl w1.heap.size (m := 0) (n := 1) (l := []) rfl rfl (OwnL.alloc HS.out.1 _) (l2 := [b]) rfl rfl (readT_new _ _) (by omega) (by have := HS.out.2.1.size; simp; omega) ?_; intro A9 c9 w9 hown9 hg9 hd9)
            have HI9 : Hid (OwnT w9 w1.heap.size A9 c9 ([] ++ [b]) ∧ Below w1.heap.size w1 w9 ∧ Fnd l ([] ++ [b])) := Lib.hid ⟨hown9, ext_app (ext_alloc HS.out.2.1 _) hg9 (fun k hk => (OwnL.block HS.out.1 k hk).1), HI.out.2.2.next HS2.out⟩
            clear hown9 hg9 hd9
            go_roundw
            case rel => exact ⟨A9, c9, [] ++ [b], by simp, HI9⟩
            case measure => exact free_meas HRm.out rfl
    · obtain ⟨m, hm⟩ : ∃ m, O.length = m + 1 := ⟨O2.length, by rw [hO]; simp⟩
      have hm2 : m = O2.length := by rw [hO] at hm; simp at hm; omega
      obtain ⟨b3, hA4, hbw3, hb3, _, _⟩ := OwnL.form HI.out.1 (by omega)
      have HCy : Hid (∀ v, OwnT v w1.heap.size (some ⟨b3, 0, none⟩) c4 O → v.cell? ⟨b3, m, none⟩ = some (.string y)) := Lib.hid fun v hv => by
        obtain ⟨_, _, e3, _, cy⟩ := ReadL.str (OwnL.read encT_len hv) (i := m) (s := y) (by rw [hO, List.getElem?_append_right (by omega)]; simp [hm2])
        simp only [Option.some.injEq, Addr.mk.injEq, and_true] at e3
        obtain ⟨rfl, rfl⟩ := e3
        rwa [Nat.zero_add] at cy
      have HCd : Hid (∀ x, candB O x = ltB y x) := Lib.hid fun x => by rw [hO]; exact cand_snoc O2 y x
      obtain ⟨M, hM⟩ : ∃ M, M = O.length := ⟨_, rfl⟩
      have Hm : Hid (O.length = M) := Lib.hid hM.symm
      have hmM : m < M := by omega
      have hmM' : (m : Int) < (M : Int) := by omega
      have hm0' : (0 : Int) ≤ (m : Int) := by omega
      rw [← hM] at hOl ⊢
      subst hA4
      have hwm : IntKind.i64.wrap ((M : Int) - 1) = (m : Int) := by
        rw [show (M : Int) - 1 = (m : Int) by omega]
        exact IntWalk.i64_in _ (by omega)
      have hzm : ((M : Int) == 0) = false := by simp; omega
      clear hO hm hm2 hM

      go_wp2_with fail
      go_loopw [5, 6, 7] (fun o5 o6 o7 wi => ∃ (b : ByteArray) (had : Bool) (i : Nat), o5 = .string b ∧ o6 = .bool had ∧ o7 = .int .i64 i ∧ i ≤ l.length ∧ Hid (OwnT wi w1.heap.size (some ⟨b3, 0, none⟩) c4 O ∧ Below w1.heap.size w1 wi ∧ SelO O (l.take i) b had)) (fun _ _ o7 _ => l.length - (Lib.intOf o7).toNat)
      case atStart => exact ⟨_, false, 0, rfl, rfl, rfl, Nat.zero_le _, Lib.hid ⟨HI.out.1, HI.out.2.1, ⟨fun _ x hx => by simp at hx, (fun e => by cases e)⟩⟩⟩
      case round =>
        obtain ⟨b, had, i, rfl, rfl, rfl, hi, HS⟩ := hrel
        by_cases hlt : i < l.length
        · obtain ⟨x, hx⟩ := getq_ex hlt
          have HT := Lib.hid (take_snoc hx)
          obtain ⟨bl, ol, hA1, _, cx⟩ := ReadL.str (ReadL.below HL.out HS.out.2.1) hx
          subst hA1
          have HKl : Hid (i + 1 ≤ l.length) := Lib.hid hlt
          have cy := HCy.out _ HS.out.1
          clear hx
          cases hyx : Op.bytesLess y.toList x.toList
          · cases hxy : Op.bytesLess x.toList y.toList
            · have hxe : (x.toList == y.toList) = true := eqS hxy hyx
              cases had
              · skip
                go_upto_region 7 with fail
                go_quiet (fail)
                go_wp2_with fail
                go_roundw
                case rel => exact ⟨b, false, i + 1, rfl, rfl, by go_num, HKl.out, Lib.hid ⟨HS.out.1, below_drewN HS.out.2.1 _, by rw [HT.out]; exact HS.out.2.2.skip ((HCd.out x).trans hyx)⟩⟩
                case measure => have := HKl.out; simp [Lib.intOf]; omega
              · skip
                go_upto_region 7 with fail
                go_quiet (fail)
                go_wp2_with fail
                go_roundw
                case rel => exact ⟨b, true, i + 1, rfl, rfl, by go_num, HKl.out, Lib.hid ⟨HS.out.1, below_drewN HS.out.2.1 _, by rw [HT.out]; exact HS.out.2.2.skip ((HCd.out x).trans hyx)⟩⟩
                case measure => have := HKl.out; simp [Lib.intOf]; omega
            · skip
              cases had
              · skip
                go_upto_region 7 with fail
                go_quiet (fail)
                go_wp2_with fail
                go_roundw
                case rel => exact ⟨b, false, i + 1, rfl, rfl, by go_num, HKl.out, Lib.hid ⟨HS.out.1, below_drewN HS.out.2.1 _, by rw [HT.out]; exact HS.out.2.2.skip ((HCd.out x).trans hyx)⟩⟩
                case measure => have := HKl.out; simp [Lib.intOf]; omega
              · skip
                go_upto_region 7 with fail
                go_quiet (fail)
                go_wp2_with fail
                go_roundw
                case rel => exact ⟨b, true, i + 1, rfl, rfl, by go_num, HKl.out, Lib.hid ⟨HS.out.1, below_drewN HS.out.2.1 _, by rw [HT.out]; exact HS.out.2.2.skip ((HCd.out x).trans hyx)⟩⟩
                case measure => have := HKl.out; simp [Lib.intOf]; omega
          · have hxy : Op.bytesLess x.toList y.toList = false := ltB_asym hyx
            have hxe : (x.toList == y.toList) = false := neS hyx
            cases had
            · skip
              go_upto_region 7 with fail
              go_quiet (fail)
              go_wp2_with fail
              go_roundw
              case rel => exact ⟨x, true, i + 1, rfl, rfl, by go_num, HKl.out, Lib.hid ⟨HS.out.1, below_drewN HS.out.2.1 _, by rw [HT.out]; exact HS.out.2.2.take0 ((HCd.out x).trans hyx)⟩⟩
              case measure => have := HKl.out; simp [Lib.intOf]; omega
            · cases hxb : Op.bytesLess x.toList b.toList
              · skip
                go_upto_region 7 with fail
                go_quiet (fail)
                go_wp2_with fail
                go_roundw
                case rel => exact ⟨b, true, i + 1, rfl, rfl, by go_num, HKl.out, Lib.hid ⟨HS.out.1, below_drewN HS.out.2.1 _, by rw [HT.out]; exact HS.out.2.2.less hxb⟩⟩
                case measure => have := HKl.out; simp [Lib.intOf]; omega
              · skip
                go_upto_region 7 with fail
                go_quiet (fail)
                go_wp2_with fail
                go_roundw
                case rel => exact ⟨x, true, i + 1, rfl, rfl, by go_num, HKl.out, Lib.hid ⟨HS.out.1, below_drewN HS.out.2.1 _, by rw [HT.out]; exact HS.out.2.2.take1 ((HCd.out x).trans hyx) hxb⟩⟩
                case measure => have := HKl.out; simp [Lib.intOf]; omega
        · have HS2 : Hid (SelO O l b had) := Lib.hid (by
            have := HS.out.2.2
            rwa [List.take_of_length_le (by omega)] at this)
          cases had
          · go_wp2_with fail
            go_ret
            exact ⟨_, c4, O, by rw [Hm.out]; rfl, OwnL.lower HS.out.1 HB1.out.size, HI.out.2.2.done HS2.out, by have := HI.out.2.2.len; omega, ext_trans HB1.out HS.out.2.1⟩
          · have HRm := Lib.hid (HI.out.2.2.room HS2.out)
            go_wp2_with (at_builtin; refine wpList_appT rfl (.tmp 52) (.tmp 54) rfl w1.heap.size (m := M) (n := 1) (l := O) Hm.out rfl (OwnL.alloc HS.out.1 _) (l2 := [b]) rfl rfl (readT_new _ _) (by omega) (by have := HS.out.2.1.size; simp; omega) ?_; intro A9 c9 w9 hown9 hg9 hd9)
            have HI9 : Hid (OwnT w9 w1.heap.size A9 c9 (O ++ [b]) ∧ Below w1.heap.size w1 w9 ∧ Fnd l (O ++ [b])) := Lib.hid ⟨hown9, ext_app (ext_alloc HS.out.2.1 _) hg9 (fun k hk => (OwnL.block HS.out.1 k hk).1), HI.out.2.2.next HS2.out⟩
            clear hown9 hg9 hd9
            go_roundw
            case rel => exact ⟨A9, c9, O ++ [b], by rw [List.length_append, Hm.out]; rfl, HI9⟩
            case measure => exact free_meas HRm.out Hm.out
end Go.Proofs.YtmjdhfbnmmdjiaaGreat
