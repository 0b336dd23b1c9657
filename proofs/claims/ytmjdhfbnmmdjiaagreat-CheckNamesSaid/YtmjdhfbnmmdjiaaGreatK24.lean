/- Laid together by a tool from the texts of this seat: Figures PrintR AlC. Conditions: each theorem's own. -/
import Derived.Test.YtmjdhfbnmmdjiaaGreatK01
import Derived.Lib.ItoaLen
import Derived.Laws.IdiomStrings
import Derived.Test.YtmjdhfbnmmdjiaaGreatK04
import Derived.Test.YtmjdhfbnmmdjiaaGreatK02
import Derived.Test.YtmjdhfbnmmdjiaaGreatK17
import Derived.Test.YtmjdhfbnmmdjiaaGreatK23
/- The document's numerals. -/
namespace Go.Proofs.YtmjdhfbnmmdjiaaGreat
open Go.RowKit

/-- A text of one byte, made of a new row. -/
theorem run_one (w : World) (z : Int) (c : UInt8) (hz : z = c.toNat) :
    (convert 131 9 (.slice (some ⟨w.heap.size, 0, none⟩) 1 1)).run Tryz.prog (w.alloc (.cells #[.int .u8 z] 5)) = .ok (.string ⟨#[c]⟩) (w.alloc (.cells #[.int .u8 z] 5)) := by
  have h := run_convert_bytes_back (P := Tryz.prog) (w.alloc (.cells #[.int .u8 z] 5)) 131 9 5 ⟨w.heap.size, 0, none⟩ 1 [c] Tryz.underlying131 Tryz.underlying5 Tryz.underlying9 (by
    intro j hj
    have hj0 : j = 0 := by simpa using hj
    subst hj0
    rw [hz]
    exact World.cell?_alloc_new _ _ _ _)
  exact h

theorem dec_small {m : Nat} (h : ¬ 9 < m) : Lib.decDigits m = [UInt8.ofNat (48 + m)] := by
  rw [Lib.decDigits, dif_pos (by omega)]
theorem dec_big {m : Nat} (h : 9 < m) : Lib.decDigits m = Lib.decDigits (m / 10) ++ [UInt8.ofNat (48 + m % 10)] := by
  rw [Lib.decDigits, dif_neg (by omega)]

theorem byte_num {d : Nat} (h : d ≤ 9) : ((UInt8.ofNat (48 + d)).toNat : Int) = 48 + (d : Int) := by
  rw [UInt8.toNat_ofNat_of_lt' (by show 48 + d < 256; omega)]
  omega

theorem dec_len {n m : Nat} {t : ByteArray} (hn : n ≤ 9223372036854775807) (h : Lib.decDigits m ++ t.data.toList = Lib.decDigits n) : t.size ≤ 20 := by
  have h1 := congrArg List.length h
  rw [List.length_append, Lib.decDigits_length, Lib.decDigits_length] at h1
  have h2 := Lib.nDigits_le20 n (by omega)
  have h3 : t.data.toList.length = t.size := rfl
  omega

set_option maxRecDepth 100000 in
set_option maxHeartbeats 1000000 in
theorem figures_any (n : Nat) (hn : n ≤ 9223372036854775807) (w : World) :
    Calls Tryz.prog 94 #[.int .i64 (n : Int)] w fun e w' => e = .returned (.string ⟨(Lib.decDigits n).toArray⟩) ∧ Below w.heap.size w w' := by
  go_enter Tryz.func94, Tryz.ntmps94
  go_wp2_with fail
  go_loopw [0, 3] (fun a0 s3 wr => ∃ (m : Nat) (t : ByteArray), a0 = .int .i64 m ∧ s3 = .string t ∧ m ≤ n ∧ Below w.heap.size w wr ∧ Hid (Lib.decDigits m ++ t.data.toList = Lib.decDigits n))
    (fun a0 _ _ => (intOf a0).toNat)
  case atStart => exact ⟨n, _, rfl, rfl, Nat.le_refl _, Below.refl _ _, Lib.hid (by simp)⟩
  case round =>
    obtain ⟨m, t, rfl, rfl, hm, hbel, hgood⟩ := hrel
    have hmod0 : (0 : Int) ≤ (m : Int) % 10 := by omega
    have hmod1 : (m : Int) % 10 ≤ 9 := by omega
    have hts := dec_len hn hgood.out
    by_cases h9 : 9 < m
    · have h9i : (9 : Int) < (m : Int) := by omega
      have hgood2 := dec_big h9
      have hz := byte_num (show m % 10 ≤ 9 by omega)
      generalize UInt8.ofNat (48 + m % 10) = c at *
      have Hgood2 := Lib.hid hgood2
      have hconv := run_one wr (48 + (m : Int) % 10) c (by rw [hz]; simp)
      clear hgood2 hz
      go_wp2_with fail
      go_roundw
      case rel => exact ⟨m / 10, ⟨#[c]⟩ ++ t, by go_num, rfl, by omega, ext_alloc hbel _, Lib.hid (by rw [← hgood.out, Hgood2.out, ByteArray.data_append]; simp)⟩
      case measure => simp [intOf]; omega
    · have h9i : ¬ (9 : Int) < (m : Int) := by omega
      have hgood2 := dec_small h9
      have hz := byte_num (show m ≤ 9 by omega)
      generalize UInt8.ofNat (48 + m) = c at *
      have Hgood2 := Lib.hid hgood2
      have hconv := run_one wr (48 + (m : Int)) c (by rw [hz])
      clear hgood2 hz
      go_wp2_with fail
      go_ret
      exact ⟨ret_str (by rw [← hgood.out, Hgood2.out]; apply ByteArray.ext; simp [ByteArray.data_append]), ext_alloc hbel _⟩
end Go.Proofs.YtmjdhfbnmmdjiaaGreat

/- The document's printed: words, arrows, rows, any node. -/
namespace Go.Proofs.YtmjdhfbnmmdjiaaGreat
open Go.RowKit

theorem txt_eq {s : ByteArray} {l : List UInt8} (h : s.data.toList = l) : s = ⟨l.toArray⟩ := by
  obtain ⟨⟨x⟩⟩ := s
  simp only at h
  rw [h]

theorem itoa_nat (n : Nat) : Lib.itoa (n : Int) = Lib.decDigits n := by
  unfold Lib.itoa
  rw [if_neg (by omega)]
  rfl

/-- A node without children, as a text. -/
theorem rWord_any (x : Nd) (hok : okNode x.k x.n = true) (hn : x.n ≤ 9223372036854775807) (h5 : x.k ≠ 5) (hr : isRowB x.k = false) (w : World) :
    Calls Tryz.prog 63 #[.agg #[.int .i64 x.k, .string x.s, .int .i64 x.n]] w fun e w' => e = .returned (.string ⟨(wordT x).toArray⟩) ∧ Below w.heap.size w w' := by
  obtain ⟨k, s, n⟩ := x
  simp only at hok hn h5 hr ⊢
  have hk9 : 0 ≤ k ∧ k ≤ 9 := by
    unfold okNode at hok
    split at hok
    · omega
    split at hok
    · omega
    split at hok
    · omega
    · simp at hok; omega
  have h6 : k ≠ 6 := by rintro rfl; cases hr
  have h7 : k ≠ 7 := by rintro rfl; cases hr
  clear hr
  have hk : (k = 8 ∨ k = 9) ∨ k = 0 ∨ k = 1 ∨ k = 2 ∨ k = 3 ∨ k = 4 := by omega
  clear h5 h6 h7 hk9
  rcases hk with hk | hk
  · have hn0 : 0 ≤ n := by
      rcases hk with rfl | rfl <;> simpa [okNode] using hok
    obtain ⟨m, rfl⟩ := Int.eq_ofNat_of_zero_le hn0
    clear hok hn0
    have hlen := Lib.nDigits_le20 m (by omega)
    rw [← Lib.decDigits_length] at hlen
    obtain ⟨t, ht⟩ : ∃ t : ByteArray, t = ⟨(Lib.decDigits m).toArray⟩ := ⟨_, rfl⟩
    have hts : t.size ≤ 20 := by rw [ht]; simpa [ByteArray.size] using hlen
    have Ht := Lib.hid ht
    clear ht hlen
    rcases hk with rfl | rfl
    · go_enter Tryz.func63, Tryz.ntmps63
      go_wp2_with fail
      refine (figures_any m (by omega) _).mono ?_
      rintro e w1 ⟨rfl, hb⟩
      rw [← Ht.out]
      have hbel := (ext_alloc (Below.refl w.heap.size w) (.cells #[.int .i64 8, .string s, .int .i64 m] 49)).trans (hb.mono (by simp))
      clear hb
      go_wp2_with fail
      go_ret
      exact ⟨ret_str (by rw [Ht.out]; simp only [wordT]; rw [itoa_nat]; apply ByteArray.ext; simp [ByteArray.data_append]), hbel⟩
    · go_enter Tryz.func63, Tryz.ntmps63
      go_wp2_with fail
      refine (figures_any m (by omega) _).mono ?_
      rintro e w1 ⟨rfl, hb⟩
      rw [← Ht.out]
      have hbel := (ext_alloc (Below.refl w.heap.size w) (.cells #[.int .i64 9, .string s, .int .i64 m] 49)).trans (hb.mono (by simp))
      clear hb
      go_wp2_with fail
      go_ret
      exact ⟨ret_str (by rw [Ht.out]; simp only [wordT]; rw [itoa_nat]; apply ByteArray.ext; simp [ByteArray.data_append]), hbel⟩
  · clear hok hn
    rcases hk with rfl | rfl | rfl | rfl | rfl
    all_goals
      go_enter Tryz.func63, Tryz.ntmps63
      go_wp2_with fail
      go_ret
      exact ⟨rfl, ext_alloc (Below.refl _ _) _⟩

def RNode (f : Nat) : Prop := ∀ (i j c : Nat) (A : Option Addr) (T : List Nd) (w : World), treeP T f i = some j → TyA w w.heap.size A T → T.length ≤ 1000000 → okAll T →
  (∀ x ∈ T, x.Ok) → (prS f (T.drop i)).length ≤ 1000000000 →
  Calls Tryz.prog 44 #[.slice A T.length c, .int .i64 (i : Int)] w fun e w' => e = .returned (.string ⟨(prS f (T.drop i)).toArray⟩) ∧ Below w.heap.size w w'

/-- A tree's end, as the document's End tells it. -/
theorem tree_end {T : List Nd} {f i j : Nat} (h : treeP T f i = some j) : i < T.length ∧ endGo (T.drop i) 1 i = j := by
  obtain ⟨ts, rest, ht⟩ := treeP_sound _ _ _ h
  exact ⟨drop_lt ht.at_ ht.fo.pos, by rw [endGo_one ht.at_ ht.ok ht.fo, ht.ej]⟩

theorem kidsR_node {T : List Nd} {i : Nat} {x : Nd} (hx : T[i]? = some x) : kidsR T (i : Int) = kidsGo T (manyN x) (i + 1) := by
  unfold kidsR manyN
  rw [if_neg (by omega)]
  simp [hx]

set_option maxRecDepth 100000 in
set_option maxHeartbeats 1000000 in
theorem printed_word (i c : Nat) (A : Option Addr) (T : List Nd) (w : World) (x : Nd) (hx : T[i]? = some x) (h5 : x.k ≠ 5) (hr : isRowB x.k = false) (ha : TyA w w.heap.size A T) (hl : T.length ≤ 1000000) (hok : okAll T) (hOk : ∀ x ∈ T, x.Ok) :
    Calls Tryz.prog 44 #[.slice A T.length c, .int .i64 (i : Int)] w fun e w' => e = .returned (.string ⟨(wordT x).toArray⟩) ∧ Below w.heap.size w w' := by
  have hi := getq_lt hx
  have Hx := Lib.hid hx
  have Hok := Lib.hid hok
  have Hxo := Lib.hid (hok x (mem_of_getq hx))
  have hxn := (hOk x (mem_of_getq hx)).n1
  have h5b : (x.k == 5) = false := by simpa using h5
  have h6b : (x.k != 6) = true := by
    simp only [isRowB, Bool.or_eq_false_iff] at hr
    simpa using hr.1
  have h7b : (x.k != 7) = true := by
    simp only [isRowB, Bool.or_eq_false_iff] at hr
    simpa using hr.2
  have H5 := Lib.hid h5
  have Hr := Lib.hid hr
  have hi0 : ¬ (i : Int) < 0 := by omega
  have hi1 : ¬ (T.length : Int) ≤ (i : Int) := by omega
  clear hx hok hOk h5 hr
  go_enter Tryz.func44, Tryz.ntmps44
  go_wp2_with fail
  refine (rKids_any A c T i w ha hl Hok.out).mono ?_
  rintro e w1 ⟨A', cap', rfl, _, hb1⟩
  obtain ⟨b1, o1, rfl, hlt, c10, c11, c12⟩ := ((ha.below hb1).more hb1.size).at_ Hx.out
  generalize (asI (kidsR T i)).length = L
  go_wp2_with fail
  refine (rWord_any x Hxo.out hxn H5.out Hr.out _).mono ?_
  rintro e w2 ⟨rfl, hb2⟩
  go_wp2_with fail
  go_ret
  exact ⟨rfl, ext_trans hb1 hb2⟩

set_option maxRecDepth 100000 in
set_option maxHeartbeats 4000000 in
theorem printed_arrow (f : Nat) (hN : RNode f) (i j1 j c : Nat) (A : Option Addr) (T : List Nd) (w : World) (x : Nd) (hx : T[i]? = some x) (h5 : x.k = 5) (h1 : treeP T f (i + 1) = some j1) (h2 : treeP T f j1 = some j) (ha : TyA w w.heap.size A T) (hl : T.length ≤ 1000000) (hok : okAll T) (hOk : ∀ x ∈ T, x.Ok)
    (hlen : ((if (headNd (T.drop (i + 1))).k = 5 then 40 :: (prS f (T.drop (i + 1)) ++ [41]) else prS f (T.drop (i + 1))) ++ ([32, 45, 62, 32] ++ prS f (T.drop j1))).length ≤ 1000000000) :
    Calls Tryz.prog 44 #[.slice A T.length c, .int .i64 (i : Int)] w fun e w' => e = .returned (.string ⟨((if (headNd (T.drop (i + 1))).k = 5 then 40 :: (prS f (T.drop (i + 1)) ++ [41]) else prS f (T.drop (i + 1))) ++ ([32, 45, 62, 32] ++ prS f (T.drop j1))).toArray⟩) ∧ Below w.heap.size w w' := by
  generalize htxt : ((if (headNd (T.drop (i + 1))).k = 5 then 40 :: (prS f (T.drop (i + 1)) ++ [41]) else prS f (T.drop (i + 1))) ++ ([32, 45, 62, 32] ++ prS f (T.drop j1))) = txt at *
  have HN := Lib.hid hN
  have hi := getq_lt hx
  have Hx := Lib.hid hx
  have Hok := Lib.hid hok
  have HOk := Lib.hid hOk
  have H1 := Lib.hid h1
  have H2 := Lib.hid h2
  obtain ⟨k, s, n⟩ := x
  simp only at h5
  subst h5
  obtain ⟨y, hy⟩ := treeP_get h1
  rw [headNd_drop hy] at htxt
  have Htxt := Lib.hid htxt
  have Hy := Lib.hid hy
  obtain ⟨hi1, he1⟩ := tree_end h1
  obtain ⟨hj1, _⟩ := tree_end h2
  have hkk : asI (kidsR T (i : Int)) = [((i + 1 : Nat) : Int), ((j1 : Nat) : Int)] := by
    rw [kidsR_node hx, show manyN (⟨5, s, n⟩ : Nd) = 2 from rfl, kidsGo_step hi1, he1, kidsGo_step hj1]
    rfl
  have Hkk := Lib.hid hkk
  have hi0 : ¬ (i : Int) < 0 := by omega
  have hi1' : ¬ (T.length : Int) ≤ (i : Int) := by omega
  obtain ⟨sa, hsa⟩ : ∃ s : ByteArray, s = ⟨(prS f (T.drop (i + 1))).toArray⟩ := ⟨_, rfl⟩
  obtain ⟨sb, hsb⟩ : ∃ s : ByteArray, s = ⟨(prS f (T.drop j1)).toArray⟩ := ⟨_, rfl⟩
  have hla : sa.size = (prS f (T.drop (i + 1))).length := by rw [hsa]; simp [ByteArray.size]
  have hlb : sb.size = (prS f (T.drop j1)).length := by rw [hsb]; simp [ByteArray.size]
  have hbnd : sa.size ≤ 1000000000 ∧ sb.size ≤ 1000000000 := by
    rw [hla, hlb]
    rw [← htxt] at hlen
    split at hlen <;> simp at hlen <;> omega
  obtain ⟨hba, hbb⟩ := hbnd
  have hpa : (prS f (T.drop (i + 1))).length ≤ 1000000000 := by omega
  have hpb : (prS f (T.drop j1)).length ≤ 1000000000 := by omega
  have Hsa := Lib.hid hsa
  have Hsb := Lib.hid hsb
  clear hx hok hOk h1 h2 hy he1 hkk hsa hsb hla hlb hN hlen htxt
  cases h5 : (y.k == 5)
  all_goals
    have H5 := Lib.hid h5
    go_enter Tryz.func44, Tryz.ntmps44
    go_wp2_with fail
    refine (rKids_any A c T i w ha hl Hok.out).mono ?_
    rintro e w1 ⟨A', cap', rfl, hown, hb1⟩
    rw [Hkk.out] at hown ⊢
    have ha1 := (ha.below hb1).more hb1.size
    have hown1 := OwnL.read encI_len hown
    obtain ⟨b1, o1, rfl, hlt, c10, c11, c12⟩ := ha1.at_ Hx.out
    obtain ⟨_, _, hee, _, d10, d11, d12⟩ := ha1.at_ Hy.out
    simp only [Option.some.injEq, Addr.mk.injEq, and_true] at hee
    obtain ⟨rfl, rfl⟩ := hee
    obtain ⟨b2, o2, rfl, hlt2, k0⟩ := ReadL.int hown1 (i := 0) rfl
    obtain ⟨_, _, hee, _, k1⟩ := ReadL.int hown1 (i := 1) rfl
    simp only [Option.some.injEq, Addr.mk.injEq, and_true] at hee
    obtain ⟨rfl, rfl⟩ := hee
    rw [Nat.add_zero] at k0
    have hl2 : ([((i + 1 : Nat) : Int), ((j1 : Nat) : Int)] : List Int).length = 2 := rfl
    rw [hl2]
    clear hl2 hown
    go_wp2_with fail
    have hcall := HN.out (i + 1) j1 c (some ⟨b1, o1, none⟩) T w1 H1.out ha1 hl Hok.out HOk.out hpa
    rw [← Hsa.out, Int.natCast_add, Int.natCast_one] at hcall
    refine hcall.mono ?_
    rintro e w2 ⟨rfl, hb2⟩
    clear hcall
    obtain ⟨hc2, hf2⟩ := bcell hb2
    have hb12 := ext_trans hb1 hb2
    have ha2 := (ha1.below hb2).more hb2.size
    have z2 := hb2.size
    go_wp2_with fail
    have hcall := HN.out j1 j c (some ⟨b1, o1, none⟩) T w2 H2.out ha2 hl Hok.out HOk.out hpb
    rw [← Hsb.out] at hcall
    refine hcall.mono ?_
    rintro e w3 ⟨rfl, hb3⟩
    clear hcall
    go_wp2_with fail
    go_ret
    refine ⟨ret_str ?_, ext_trans hb12 hb3⟩
    have h5' := H5.out
    simp only [beq_iff_eq, beq_eq_false_iff_ne] at h5'
    rw [← Htxt.out, Hsa.out, Hsb.out]
    first | rw [if_neg h5'] | rw [if_pos h5']
    apply ByteArray.ext
    simp [ByteArray.data_append]

theorem kidsGo_full {T : List Nd} {f : Nat} {x : Nd} : ∀ (d : Nat) (k : Int) (last : ByteArray) (i j : Nat), kidsP (treeP T f) T x d k last i = some j → (kidsGo T d i).length = d
  | 0, _, _, _, _, _ => rfl
  | d + 1, k, last, i, j, h => by
    obtain ⟨y, at', _, hat, hk⟩ := kidsP_step h
    obtain ⟨hal, hae⟩ := tree_end hat
    rw [kidsGo_step hal, hae, List.length_cons, kidsGo_full d _ _ _ _ hk]

set_option maxRecDepth 100000 in
set_option maxHeartbeats 4000000 in
theorem printed_row6 (f : Nat) (hN : RNode f) (i j c m : Nat) (A : Option Addr) (T : List Nd) (w : World) (x : Nd) (hx : T[i]? = some x) (h5 : x.k = 6) (hm : manyN x = m) (hm50 : m ≤ 50) (h1 : kidsP (treeP T f) T x m 0 ByteArray.empty (i + 1) = some j) (ha : TyA w w.heap.size A T) (hl : T.length ≤ 1000000) (hok : okAll T) (hOk : ∀ x ∈ T, x.Ok)
    (hlen : (123 :: (prKids (prS f) [44, 32] m [] (T.drop (i + 1)) ++ [125])).length ≤ 1000000000) :
    Calls Tryz.prog 44 #[.slice A T.length c, .int .i64 (i : Int)] w fun e w' => e = .returned (.string ⟨(123 :: (prKids (prS f) [44, 32] m [] (T.drop (i + 1)) ++ [125])).toArray⟩) ∧ Below w.heap.size w w' := by
  generalize hfull : (123 :: (prKids (prS f) [44, 32] m [] (T.drop (i + 1)) ++ [125])) = full at *
  have Hfull := Lib.hid hfull
  rw [← hfull] at hlen
  have HN := Lib.hid hN
  have hi := getq_lt hx
  have Hx := Lib.hid hx
  have Hok := Lib.hid hok
  have HOk := Lib.hid hOk
  have H1 := Lib.hid h1
  have hkR : Hid (kidsR T (i : Int) = kidsGo T m (i + 1)) := Lib.hid (by rw [kidsR_node hx, hm])
  have hX := Lib.hid h5
  have hi0 : ¬ (i : Int) < 0 := by omega
  have hi1' : ¬ (T.length : Int) ≤ (i : Int) := by omega
  simp only [List.length_cons, List.length_append, List.length_nil] at hlen
  clear hx hok hOk h1 hN hm h5 hfull
  go_enter Tryz.func44, Tryz.ntmps44
  go_wp2_with fail
  refine (rKids_any A c T i w ha hl Hok.out).mono ?_
  rintro e w1 ⟨A', cap', rfl, hown, hb1⟩
  have ha1 := (ha.below hb1).more hb1.size
  have hown1 := OwnL.read encI_len hown
  obtain ⟨b1, o1, rfl, hlt, c10, c11, c12⟩ := ha1.at_ Hx.out
  rw [hX.out] at c10
  have hK := Lib.hid (kidsGo_full (T := T) (f := f) (x := x) m 0 ByteArray.empty (i + 1) j H1.out)
  rw [hkR.out] at hown1 ⊢
  have hKl : (asI (kidsGo T m (i + 1))).length = m := by rw [asI_len]; exact hK.out
  rw [hKl]
  have HKl := Lib.hid hKl
  clear hown hKl
  generalize hG : kidsGo T m (i + 1) = G at *
  have HG := Lib.hid hG
  clear hG hkR hK
  go_wp2_with fail
  go_loopw [10, 11] (fun s10 k11 wr => ∃ (k at_ : Nat) (s : ByteArray) (last : ByteArray) (pre : List Nat), s10 = .string s ∧ k11 = .int .i64 k ∧ k ≤ m ∧ Hid (kidsP (treeP T f) T x (m - k) k last at_ = some j) ∧ Below w1.heap.size w1 wr ∧
      Hid (G = pre ++ kidsGo T (m - k) at_ ∧ pre.length = k) ∧ s.size + (prKids (prS f) [44, 32] (m - k) (if k = 0 then [] else [44, 32]) (T.drop at_)).length ≤ 999999999 ∧
      Hid (s.data.toList ++ prKids (prS f) [44, 32] (m - k) (if k = 0 then [] else [44, 32]) (T.drop at_) = 123 :: prKids (prS f) [44, 32] m [] (T.drop (i + 1))))
    (fun _ k11 _ => m - (intOf k11).toNat)
  case atStart => exact ⟨0, i + 1, _, ByteArray.empty, [], rfl, rfl, Nat.zero_le _, Lib.hid H1.out, Below.refl _ _, Lib.hid ⟨by rw [← HG.out]; rfl, rfl⟩, by simp [ByteArray.size_mk']; omega, Lib.hid rfl⟩
  case round =>
    obtain ⟨k, at_, s, last, pre, rfl, rfl, hkm, hkids, hbel, hpre, hsz, htxt⟩ := hrel
    have har := (ha1.below hbel).more hbel.size
    have hor := (ReadL.below hown1 hbel).more hbel.size
    by_cases hlt' : k < m
    · obtain ⟨d, hd⟩ : ∃ d, m - k = d + 1 := ⟨m - k - 1, by omega⟩
      rw [hd] at hkids hpre htxt hsz
      obtain ⟨y, at', hy, hat, hkids'⟩ := kidsP_step hkids.out
      have Hk' := Lib.hid hkids'
      obtain ⟨hal, hae⟩ := tree_end hat
      have hGk : G[k]? = some at_ := by
        rw [hpre.out.1, kidsGo_step hal, List.getElem?_append_right (by rw [hpre.out.2]; exact Nat.le_refl _), hpre.out.2]
        simp
      have hpre' : Hid (G = (pre ++ [at_]) ++ kidsGo T d at' ∧ (pre ++ [at_]).length = k + 1) := Lib.hid ⟨by rw [hpre.out.1, kidsGo_step hal, hae]; simp, by simp [hpre.out.2]⟩
      have hrest := tree_rest1 hat
      have htx : prKids (prS f) [44, 32] (d + 1) (if k = 0 then [] else [44, 32]) (T.drop at_) = (if k = 0 then [] else [44, 32]) ++ ((if y.k = 9 then [] else y.s.data.toList ++ [58, 32]) ++ (prS f (T.drop at_) ++ prKids (prS f) [44, 32] d [44, 32] (T.drop at'))) := by
        simp only [prKids]
        rw [headNd_drop hy, hrest]
      rw [htx] at hsz
      have Htx := Lib.hid htx
      obtain ⟨bk, ok, hke, _, kc⟩ := ReadL.int hor (asI_get hGk)
      obtain ⟨b3, o3, hee, _, d10, d11, d12⟩ := har.at_ hy
      simp only [Option.some.injEq, Addr.mk.injEq, and_true] at hee
      obtain ⟨rfl, rfl⟩ := hee
      subst hke
      have Hat := Lib.hid hat
      have Hd := Lib.hid hd
      obtain ⟨st, hst⟩ : ∃ s : ByteArray, s = ⟨(prS f (T.drop at_)).toArray⟩ := ⟨_, rfl⟩
      have hsl : st.size = (prS f (T.drop at_)).length := by rw [hst]; simp [ByteArray.size]
      simp only [List.length_append] at hsz
      rw [← hsl] at hsz
      have hpl : (prS f (T.drop at_)).length ≤ 1000000000 := by omega
      have Hst := Lib.hid hst
      have Hsl := Lib.hid hsl
      have hy0 := head_bytes y.s
      rw [hy0] at *
      obtain ⟨r, hr⟩ : ∃ r, r = (prKids (prS f) [44, 32] d [44, 32] (T.drop at')).length := ⟨_, rfl⟩
      rw [← hr] at hsz
      have Hr := Lib.hid hr
      clear hat hd hst hsl hy hae hGk hrest htx hkids hkids' hpre hr
      by_cases hk0 : k = 0
      all_goals
        have Hk0 := Lib.hid hk0
        by_cases h9 : y.k = 9
      all_goals
        have H9 := Lib.hid h9
        first | (have hk0i : ¬ (0 : Int) < (k : Int) := by omega) | (have hk0i : (0 : Int) < (k : Int) := by omega)
        first | (have h9b : (y.k != 9) = true := by simpa using h9) | (have h9b : (y.k != 9) = false := by simpa using h9)
        first | rw [if_pos hk0] at hsz | rw [if_neg hk0] at hsz
        first | rw [if_pos h9] at hsz | rw [if_neg h9] at hsz
        simp only [List.length_append, List.length_cons, List.length_nil, head_bytes] at hsz
        clear hk0 h9
        go_wp2_with fail
        have hcall := HN.out at_ at' c (some ⟨b1, o1, none⟩) T wr Hat.out har hl Hok.out HOk.out hpl
        rw [← Hst.out] at hcall
        refine hcall.mono ?_
        rintro e w2 ⟨rfl, hb2⟩
        clear hcall
        go_wp2_with fail
        go_roundw
        case rel =>
          refine ⟨k + 1, at', _, y.s, pre ++ [at_], rfl, by go_num, by omega, Lib.hid (by rw [show m - (k + 1) = d by have := Hd.out; omega]; exact Hk'.out), ext_trans hbel hb2, Lib.hid (by rw [show m - (k + 1) = d by have := Hd.out; omega]; exact hpre'.out), ?_, Lib.hid ?_⟩
          · rw [if_neg (by omega), show m - (k + 1) = d by have := Hd.out; omega, ← Hr.out]
            simp [ByteArray.size_mk']
            omega
          · rw [if_neg (by omega), show m - (k + 1) = d by have := Hd.out; omega, ← htxt.out, Htx.out]
            first | rw [if_pos Hk0.out] | rw [if_neg Hk0.out]
            first | rw [if_pos H9.out] | rw [if_neg H9.out]
            rw [Hst.out]
            simp [ByteArray.data_append]
        case measure => simp [intOf]; omega
    · have hkm' : m - k = 0 := by omega
      rw [hkm'] at htxt hsz
      have Hkm := Lib.hid hkm'
      simp only [prKids, List.length_nil] at hsz
      clear hkm'
      go_wp2_with fail
      go_ret
      refine ⟨ret_str ?_, ext_trans hb1 hbel⟩
      have ht2 := htxt.out
      simp only [prKids, List.append_nil] at ht2
      rw [← Hfull.out]
      refine txt_eq ?_
      rw [ByteArray.data_append, Array.toList_append, ht2]
      simp

set_option maxRecDepth 100000 in
set_option maxHeartbeats 4000000 in
theorem printed_row7 (f : Nat) (hN : RNode f) (i j c m : Nat) (A : Option Addr) (T : List Nd) (w : World) (x : Nd) (hx : T[i]? = some x) (h5 : x.k = 7) (hm : manyN x = m) (hm50 : m ≤ 50) (h1 : kidsP (treeP T f) T x m 0 ByteArray.empty (i + 1) = some j) (ha : TyA w w.heap.size A T) (hl : T.length ≤ 1000000) (hok : okAll T) (hOk : ∀ x ∈ T, x.Ok)
    (hlen : (91 :: (prKids (prS f) [32, 124, 32] m [] (T.drop (i + 1)) ++ [93])).length ≤ 1000000000) :
    Calls Tryz.prog 44 #[.slice A T.length c, .int .i64 (i : Int)] w fun e w' => e = .returned (.string ⟨(91 :: (prKids (prS f) [32, 124, 32] m [] (T.drop (i + 1)) ++ [93])).toArray⟩) ∧ Below w.heap.size w w' := by
  generalize hfull : (91 :: (prKids (prS f) [32, 124, 32] m [] (T.drop (i + 1)) ++ [93])) = full at *
  have Hfull := Lib.hid hfull
  rw [← hfull] at hlen
  have HN := Lib.hid hN
  have hi := getq_lt hx
  have Hx := Lib.hid hx
  have Hok := Lib.hid hok
  have HOk := Lib.hid hOk
  have H1 := Lib.hid h1
  have hkR : Hid (kidsR T (i : Int) = kidsGo T m (i + 1)) := Lib.hid (by rw [kidsR_node hx, hm])
  have hX := Lib.hid h5
  have hi0 : ¬ (i : Int) < 0 := by omega
  have hi1' : ¬ (T.length : Int) ≤ (i : Int) := by omega
  simp only [List.length_cons, List.length_append, List.length_nil] at hlen
  clear hx hok hOk h1 hN hm h5 hfull
  go_enter Tryz.func44, Tryz.ntmps44
  go_wp2_with fail
  refine (rKids_any A c T i w ha hl Hok.out).mono ?_
  rintro e w1 ⟨A', cap', rfl, hown, hb1⟩
  have ha1 := (ha.below hb1).more hb1.size
  have hown1 := OwnL.read encI_len hown
  obtain ⟨b1, o1, rfl, hlt, c10, c11, c12⟩ := ha1.at_ Hx.out
  rw [hX.out] at c10
  have hK := Lib.hid (kidsGo_full (T := T) (f := f) (x := x) m 0 ByteArray.empty (i + 1) j H1.out)
  rw [hkR.out] at hown1 ⊢
  have hKl : (asI (kidsGo T m (i + 1))).length = m := by rw [asI_len]; exact hK.out
  rw [hKl]
  have HKl := Lib.hid hKl
  clear hown hKl
  generalize hG : kidsGo T m (i + 1) = G at *
  have HG := Lib.hid hG
  clear hG hkR hK
  go_wp2_with fail
  go_loopw [10, 11] (fun s10 k11 wr => ∃ (k at_ : Nat) (s : ByteArray) (last : ByteArray) (pre : List Nat), s10 = .string s ∧ k11 = .int .i64 k ∧ k ≤ m ∧ Hid (kidsP (treeP T f) T x (m - k) k last at_ = some j) ∧ Below w1.heap.size w1 wr ∧
      Hid (G = pre ++ kidsGo T (m - k) at_ ∧ pre.length = k) ∧ s.size + (prKids (prS f) [32, 124, 32] (m - k) (if k = 0 then [] else [32, 124, 32]) (T.drop at_)).length ≤ 999999999 ∧
      Hid (s.data.toList ++ prKids (prS f) [32, 124, 32] (m - k) (if k = 0 then [] else [32, 124, 32]) (T.drop at_) = 91 :: prKids (prS f) [32, 124, 32] m [] (T.drop (i + 1))))
    (fun _ k11 _ => m - (intOf k11).toNat)
  case atStart => exact ⟨0, i + 1, _, ByteArray.empty, [], rfl, rfl, Nat.zero_le _, Lib.hid H1.out, Below.refl _ _, Lib.hid ⟨by rw [← HG.out]; rfl, rfl⟩, by simp [ByteArray.size_mk']; omega, Lib.hid rfl⟩
  case round =>
    obtain ⟨k, at_, s, last, pre, rfl, rfl, hkm, hkids, hbel, hpre, hsz, htxt⟩ := hrel
    have har := (ha1.below hbel).more hbel.size
    have hor := (ReadL.below hown1 hbel).more hbel.size
    by_cases hlt' : k < m
    · obtain ⟨d, hd⟩ : ∃ d, m - k = d + 1 := ⟨m - k - 1, by omega⟩
      rw [hd] at hkids hpre htxt hsz
      obtain ⟨y, at', hy, hat, hkids'⟩ := kidsP_step hkids.out
      have Hk' := Lib.hid hkids'
      obtain ⟨hal, hae⟩ := tree_end hat
      have hGk : G[k]? = some at_ := by
        rw [hpre.out.1, kidsGo_step hal, List.getElem?_append_right (by rw [hpre.out.2]; exact Nat.le_refl _), hpre.out.2]
        simp
      have hpre' : Hid (G = (pre ++ [at_]) ++ kidsGo T d at' ∧ (pre ++ [at_]).length = k + 1) := Lib.hid ⟨by rw [hpre.out.1, kidsGo_step hal, hae]; simp, by simp [hpre.out.2]⟩
      have hrest := tree_rest1 hat
      have htx : prKids (prS f) [32, 124, 32] (d + 1) (if k = 0 then [] else [32, 124, 32]) (T.drop at_) = (if k = 0 then [] else [32, 124, 32]) ++ ((if y.k = 9 then [] else y.s.data.toList ++ [58, 32]) ++ (prS f (T.drop at_) ++ prKids (prS f) [32, 124, 32] d [32, 124, 32] (T.drop at'))) := by
        simp only [prKids]
        rw [headNd_drop hy, hrest]
      rw [htx] at hsz
      have Htx := Lib.hid htx
      obtain ⟨bk, ok, hke, _, kc⟩ := ReadL.int hor (asI_get hGk)
      obtain ⟨b3, o3, hee, _, d10, d11, d12⟩ := har.at_ hy
      simp only [Option.some.injEq, Addr.mk.injEq, and_true] at hee
      obtain ⟨rfl, rfl⟩ := hee
      subst hke
      have Hat := Lib.hid hat
      have Hd := Lib.hid hd
      obtain ⟨st, hst⟩ : ∃ s : ByteArray, s = ⟨(prS f (T.drop at_)).toArray⟩ := ⟨_, rfl⟩
      have hsl : st.size = (prS f (T.drop at_)).length := by rw [hst]; simp [ByteArray.size]
      simp only [List.length_append] at hsz
      rw [← hsl] at hsz
      have hpl : (prS f (T.drop at_)).length ≤ 1000000000 := by omega
      have Hst := Lib.hid hst
      have Hsl := Lib.hid hsl
      have hy0 := head_bytes y.s
      rw [hy0] at *
      obtain ⟨r, hr⟩ : ∃ r, r = (prKids (prS f) [32, 124, 32] d [32, 124, 32] (T.drop at')).length := ⟨_, rfl⟩
      rw [← hr] at hsz
      have Hr := Lib.hid hr
      clear hat hd hst hsl hy hae hGk hrest htx hkids hkids' hpre hr
      by_cases hk0 : k = 0
      all_goals
        have Hk0 := Lib.hid hk0
        by_cases h9 : y.k = 9
      all_goals
        have H9 := Lib.hid h9
        first | (have hk0i : ¬ (0 : Int) < (k : Int) := by omega) | (have hk0i : (0 : Int) < (k : Int) := by omega)
        first | (have h9b : (y.k != 9) = true := by simpa using h9) | (have h9b : (y.k != 9) = false := by simpa using h9)
        first | rw [if_pos hk0] at hsz | rw [if_neg hk0] at hsz
        first | rw [if_pos h9] at hsz | rw [if_neg h9] at hsz
        simp only [List.length_append, List.length_cons, List.length_nil, head_bytes] at hsz
        clear hk0 h9
        go_wp2_with fail
        have hcall := HN.out at_ at' c (some ⟨b1, o1, none⟩) T wr Hat.out har hl Hok.out HOk.out hpl
        rw [← Hst.out] at hcall
        refine hcall.mono ?_
        rintro e w2 ⟨rfl, hb2⟩
        clear hcall
        go_wp2_with fail
        go_roundw
        case rel =>
          refine ⟨k + 1, at', _, y.s, pre ++ [at_], rfl, by go_num, by omega, Lib.hid (by rw [show m - (k + 1) = d by have := Hd.out; omega]; exact Hk'.out), ext_trans hbel hb2, Lib.hid (by rw [show m - (k + 1) = d by have := Hd.out; omega]; exact hpre'.out), ?_, Lib.hid ?_⟩
          · rw [if_neg (by omega), show m - (k + 1) = d by have := Hd.out; omega, ← Hr.out]
            simp [ByteArray.size_mk']
            omega
          · rw [if_neg (by omega), show m - (k + 1) = d by have := Hd.out; omega, ← htxt.out, Htx.out]
            first | rw [if_pos Hk0.out] | rw [if_neg Hk0.out]
            first | rw [if_pos H9.out] | rw [if_neg H9.out]
            rw [Hst.out]
            simp [ByteArray.data_append]
        case measure => simp [intOf]; omega
    · have hkm' : m - k = 0 := by omega
      rw [hkm'] at htxt hsz
      have Hkm := Lib.hid hkm'
      simp only [prKids, List.length_nil] at hsz
      clear hkm'
      go_wp2_with fail
      go_ret
      refine ⟨ret_str ?_, ext_trans hb1 hbel⟩
      have ht2 := htxt.out
      simp only [prKids, List.append_nil] at ht2
      rw [← Hfull.out]
      refine txt_eq ?_
      rw [ByteArray.data_append, Array.toList_append, ht2]
      simp

theorem rNode_of : ∀ f, RNode f
  | 0 => by intro i j c A T w h; cases h
  | f + 1 => by
    have HN := rNode_of f
    intro i j c A T w htree ha hl hok hOk hlen
    obtain ⟨x, hx⟩ := treeP_get htree
    simp only [treeP, hx] at htree
    split at htree
    · rename_i hnode
      rw [drop_cons hx] at hlen ⊢
      by_cases h5 : x.k = 5
      · have hm : (many x.k x.n).toNat = 2 := by unfold many; simp [h5]
        rw [hm] at htree
        obtain ⟨y, j1, hy, h1, htr2⟩ := kidsP_step htree
        obtain ⟨y2, j2, hy2, h2, htr3⟩ := kidsP_step htr2
        simp only [kidsP, Option.some.injEq] at htr3
        subst htr3
        simp only [prS, if_pos h5, tree_rest1 h1] at hlen ⊢
        exact printed_arrow f HN i j1 j2 c A T w x hx h5 h1 h2 ha hl hok hOk hlen
      · by_cases h6 : x.k = 6
        · have h50 : manyN x ≤ 50 := by
            have hmm := manyN_ok hnode
            have := many_bound hnode
            omega
          simp only [prS, if_neg h5, if_pos h6] at hlen ⊢
          exact printed_row6 f HN i j c (manyN x) A T w x hx h6 rfl h50 htree ha hl hok hOk hlen
        · by_cases h7 : x.k = 7
          · have h50 : manyN x ≤ 50 := by
              have hmm := manyN_ok hnode
              have := many_bound hnode
              omega
            simp only [prS, if_neg h5, if_neg h6, if_pos h7] at hlen ⊢
            exact printed_row7 f HN i j c (manyN x) A T w x hx h7 rfl h50 htree ha hl hok hOk hlen
          · simp only [prS, if_neg h5, if_neg h6, if_neg h7] at hlen ⊢
            exact printed_word i c A T w x hx h5 (by simp [isRowB, h6, h7]) ha hl hok hOk
    · cases htree

theorem rPrint_any (j c : Nat) (A : Option Addr) (T : List Nd) (w : World) (htree : treeP T 100 0 = some j) (ha : TyA w w.heap.size A T) (hl : T.length ≤ 1000000) (hok : okAll T) (hOk : ∀ x ∈ T, x.Ok) (hlen : (prS 100 T).length ≤ 1000000000) :
    Calls Tryz.prog 30 #[.slice A T.length c] w fun e w' => e = .returned (.string ⟨(prS 100 T).toArray⟩) ∧ Below w.heap.size w w' := by
  have h := rNode_of 100 0 j c A T w htree ha hl hok hOk (by rw [List.drop_zero]; exact hlen)
  rw [List.drop_zero, Int.natCast_zero] at h
  have H := Lib.hid h
  clear h hok hOk htree
  go_enter Tryz.func30, Tryz.ntmps30
  go_wp2_with fail
  refine H.out.mono ?_
  rintro e w1 ⟨rfl, hb⟩
  go_wp2_with fail
  go_ret
  exact ⟨rfl, hb⟩
end Go.Proofs.YtmjdhfbnmmdjiaaGreat

/- The laws' live question of layer 10: its answer. -/
namespace Go.Proofs.YtmjdhfbnmmdjiaaGreat
open Go.RowKit

def aE0 : Pt := ⟨2, ⟨#[]⟩, ⟨#[]⟩, ⟨#[120]⟩, 0, 0, [⟨0, ⟨#[]⟩, 0⟩], []⟩
def aE1 : Pt := ⟨9, ⟨#[]⟩, ⟨#[43]⟩, ⟨#[]⟩, 0, 0, [], []⟩
def aE2 : Pt := ⟨1, ⟨#[]⟩, ⟨#[120]⟩, ⟨#[]⟩, 0, 0, [], []⟩
def aE3 : Pt := ⟨0, ⟨#[]⟩, ⟨#[]⟩, ⟨#[]⟩, 0, 1, [⟨1, ⟨#[]⟩, 0⟩], []⟩
def aEs : List Pt := [aE0, aE1, aE2, aE3]
set_option maxRecDepth 100000 in
theorem alive_chk : chk 5 aEs [] 0 = some (.ok ([⟨5, ⟨#[]⟩, 0⟩, ⟨0, ⟨#[]⟩, 0⟩, ⟨1, ⟨#[]⟩, 0⟩], 4)) := by kernel_rfl
set_option maxRecDepth 100000 in
theorem alive_chk2 : chk 5 [aE1, aE2, aE3] [] 0 = some (.error (1, 5)) := by kernel_rfl
set_option maxRecDepth 100000 in
theorem alive_pr : prS 100 [⟨5, ⟨#[]⟩, 0⟩, ⟨0, ⟨#[]⟩, 0⟩, ⟨1, ⟨#[]⟩, 0⟩] = [63, 32, 45, 62, 32, 105, 110, 116] := by kernel_rfl

def aPtV (p : Pt) (TA : Option Addr) (tc : Nat) : List Value := [.int .i64 p.k, .string p.lb, .string p.nm, .string p.bd, .int .i64 p.mn, .int .i64 p.num, .slice TA p.T.length tc, .slice none 0 0]
theorem alive_mem (w : World) (t0 t1 : Nat) (h0 : w.heap[t0]? = some (.cells #[.int .i64 0, .string ⟨#[]⟩, .int .i64 0] 49 (0, 0))) (h1 : w.heap[t1]? = some (.cells #[.int .i64 1, .string ⟨#[]⟩, .int .i64 0] 49 (0, 0))) (b : Nat)
    (hb : w.heap[b]? = some (.cells (aPtV aE0 (some ⟨t0, 0, none⟩) 1 ++ aPtV aE1 none 0 ++ aPtV aE2 none 0 ++ aPtV aE3 (some ⟨t1, 0, none⟩) 1).toArray 33 (0, 0))) :
    ExX w (fun _ => False) (some ⟨b, 0, none⟩) aEs ∧ ExX w (fun _ => False) (some ⟨b, 8, none⟩) [aE1, aE2, aE3] := by
  have l0 := (Array.getElem?_eq_some_iff.1 h0).1
  have l1 := (Array.getElem?_eq_some_iff.1 h1).1
  have lb := (Array.getElem?_eq_some_iff.1 hb).1
  have hT0 : TyV w (fun _ => False) (some ⟨t0, 0, none⟩) 1 aE0.T := ⟨fun _ => ⟨t0, 0, rfl, l0, fun h => h, ⟨fun i x hx => by
      match i, hx with
      | 0, hx => simp [aE0] at hx; subst hx; simp [World.cell?, h0]
      | i + 1, hx => simp [aE0] at hx, fun i x hx => by
      match i, hx with
      | 0, hx => simp [aE0] at hx; subst hx; simp [World.cell?, h0]
      | i + 1, hx => simp [aE0] at hx, fun i x hx => by
      match i, hx with
      | 0, hx => simp [aE0] at hx; subst hx; simp [World.cell?, h0]
      | i + 1, hx => simp [aE0] at hx⟩, .inr fun q h => h.elim⟩, by simp [aE0]⟩
  have hT1 : TyV w (fun _ => False) (some ⟨t1, 0, none⟩) 1 aE3.T := ⟨fun _ => ⟨t1, 0, rfl, l1, fun h => h, ⟨fun i x hx => by
      match i, hx with
      | 0, hx => simp [aE3] at hx; subst hx; simp [World.cell?, h1]
      | i + 1, hx => simp [aE3] at hx, fun i x hx => by
      match i, hx with
      | 0, hx => simp [aE3] at hx; subst hx; simp [World.cell?, h1]
      | i + 1, hx => simp [aE3] at hx, fun i x hx => by
      match i, hx with
      | 0, hx => simp [aE3] at hx; subst hx; simp [World.cell?, h1]
      | i + 1, hx => simp [aE3] at hx⟩, .inr fun q h => h.elim⟩, by simp [aE3]⟩
  have hN : ∀ A, TyV w (fun _ => False) A 0 [] := fun A => TyV.nil
  have p0 : PtAt w (fun _ => False) b 0 aE0 := ⟨some ⟨t0, 0, none⟩, 1, none, 0, hT0, hN _, by simp [World.cell?, hb, aPtV, aE0, aE1, aE2, aE3]⟩
  have p1 : PtAt w (fun _ => False) b 8 aE1 := ⟨none, 0, none, 0, hN _, hN _, by simp [World.cell?, hb, aPtV, aE0, aE1, aE2, aE3]⟩
  have p2 : PtAt w (fun _ => False) b 16 aE2 := ⟨none, 0, none, 0, hN _, hN _, by simp [World.cell?, hb, aPtV, aE0, aE1, aE2, aE3]⟩
  have p3 : PtAt w (fun _ => False) b 24 aE3 := ⟨some ⟨t1, 0, none⟩, 1, none, 0, hT1, hN _, by simp [World.cell?, hb, aPtV, aE0, aE1, aE2, aE3]⟩
  refine ⟨fun i p hp => ⟨b, 0, rfl, lb, fun h => h, ?_, .inr fun q h => h.elim⟩, fun i p hp => ⟨b, 8, rfl, lb, fun h => h, ?_, .inr fun q h => h.elim⟩⟩
  · match i, hp with
    | 0, hp => simp [aEs] at hp; subst hp; exact p0
    | 1, hp => simp [aEs] at hp; subst hp; exact p1
    | 2, hp => simp [aEs] at hp; subst hp; exact p2
    | 3, hp => simp [aEs] at hp; subst hp; exact p3
    | i + 4, hp => simp [aEs] at hp
  · match i, hp with
    | 0, hp => simp at hp; subst hp; exact p1
    | 1, hp => simp at hp; subst hp; exact p2
    | 2, hp => simp at hp; subst hp; exact p3
    | i + 3, hp => simp at hp

set_option maxRecDepth 100000 in
set_option maxHeartbeats 4000000 in
theorem alive10_any (w : World) : Calls Tryz.prog 10 #[] w fun e w' => e = .returned (.bool true) ∧ Below w.heap.size w w' := by
  go_enter Tryz.func10, Tryz.ntmps10
  go_upto_region 2 with fail
  obtain ⟨w1, hw1⟩ : ∃ w1, w1 = (((w.alloc (.cells #[.int .i64 0, .string ⟨#[]⟩, .int .i64 0] 49)).alloc (.cells #[.int .i64 1, .string ⟨#[]⟩, .int .i64 0] 49)).alloc (.cells #[.int .i64 2, .string ⟨#[]⟩, .string ⟨#[]⟩, .string ⟨#[120]⟩, .int .i64 0, .int .i64 0, .slice (some ⟨w.heap.size, 0, none⟩) 1 1, .slice none 0 0, .int .i64 9, .string ⟨#[]⟩, .string ⟨#[43]⟩, .string ⟨#[]⟩, .int .i64 0, .int .i64 0, .slice none 0 0, .slice none 0 0, .int .i64 1, .string ⟨#[]⟩, .string ⟨#[120]⟩, .string ⟨#[]⟩, .int .i64 0, .int .i64 0, .slice none 0 0, .slice none 0 0, .int .i64 0, .string ⟨#[]⟩, .string ⟨#[]⟩, .string ⟨#[]⟩, .int .i64 0, .int .i64 1, .slice (some ⟨w.heap.size + 1, 0, none⟩) 1 1, .slice none 0 0] 33)) := ⟨_, rfl⟩
  have hb1 : Below w.heap.size w w1 := by rw [hw1]; exact ext_alloc (ext_alloc (ext_alloc (Below.refl _ _) _) _) _
  have hmem : ExX w1 (fun _ => False) (some ⟨w.heap.size + 1 + 1, 0, none⟩) aEs ∧ ExX w1 (fun _ => False) (some ⟨w.heap.size + 1 + 1, 8, none⟩) [aE1, aE2, aE3] := by
    refine alive_mem w1 w.heap.size (w.heap.size + 1) ?_ ?_ (w.heap.size + 1 + 1) ?_
    · rw [hw1]
      refine (Below.heap_alloc _ _ _ ?_).trans ((Below.heap_alloc _ _ _ ?_).trans (heap_alloc_new _ _))
      · simp only [World.size_alloc]; omega
      · simp only [World.size_alloc]; omega
    · rw [hw1]
      refine (Below.heap_alloc _ _ _ ?_).trans ?_
      · simp only [World.size_alloc]; omega
      · have := heap_alloc_new (w.alloc (.cells #[.int .i64 0, .string ⟨#[]⟩, .int .i64 0] 49)) (.cells #[.int .i64 1, .string ⟨#[]⟩, .int .i64 0] 49)
        have e : (w.alloc (.cells #[.int .i64 0, .string ⟨#[]⟩, .int .i64 0] 49)).heap.size = w.heap.size + 1 := by simp only [World.size_alloc]
        rw [e] at this
        exact this
    · rw [hw1]
      have := heap_alloc_new ((w.alloc (.cells #[.int .i64 0, .string ⟨#[]⟩, .int .i64 0] 49)).alloc (.cells #[.int .i64 1, .string ⟨#[]⟩, .int .i64 0] 49)) (.cells #[.int .i64 2, .string ⟨#[]⟩, .string ⟨#[]⟩, .string ⟨#[120]⟩, .int .i64 0, .int .i64 0, .slice (some ⟨w.heap.size, 0, none⟩) 1 1, .slice none 0 0, .int .i64 9, .string ⟨#[]⟩, .string ⟨#[43]⟩, .string ⟨#[]⟩, .int .i64 0, .int .i64 0, .slice none 0 0, .slice none 0 0, .int .i64 1, .string ⟨#[]⟩, .string ⟨#[120]⟩, .string ⟨#[]⟩, .int .i64 0, .int .i64 0, .slice none 0 0, .slice none 0 0, .int .i64 0, .string ⟨#[]⟩, .string ⟨#[]⟩, .string ⟨#[]⟩, .int .i64 0, .int .i64 1, .slice (some ⟨w.heap.size + 1, 0, none⟩) 1 1, .slice none 0 0] 33)
      have e : ((w.alloc (.cells #[.int .i64 0, .string ⟨#[]⟩, .int .i64 0] 49)).alloc (.cells #[.int .i64 1, .string ⟨#[]⟩, .int .i64 0] 49)).heap.size = w.heap.size + 1 + 1 := by simp only [World.size_alloc]
      rw [e] at this
      exact this
  rw [← hw1]
  clear hw1
  obtain ⟨g, hg⟩ : ∃ g, g = w.heap.size + 1 + 1 := ⟨_, rfl⟩
  rw [← hg] at hmem ⊢
  clear hg
  have HB1 := Lib.hid hb1
  have HX := Lib.hid hmem
  clear hb1 hmem
  have HE1 := Lib.hid (expr_any 5 aEs (by unfold PsOk; decide) [] _ none (some ⟨g, 0, none⟩) 0 4 [] w1 ReadL.nil (fun _ => rfl) (fun a h => by cases h) EnvM.nil HX.out.1 (by decide) (by decide) alive_chk)
  go_wp2_with fail
  refine HE1.out.mono ?_
  rintro e w2 ⟨hb2, A, c, rfl, hTX, hc⟩
  have HB2 := Lib.hid hb2
  have HT2 := Lib.hid hTX.tyA
  clear hb2 hTX hc
  have HE2 := Lib.hid (expr_any 5 [aE1, aE2, aE3] (by unfold PsOk; decide) [] _ none (some ⟨g, 8, none⟩) 0 3 [] w2 ReadL.nil (fun _ => rfl) (fun a h => by cases h) EnvM.nil (HX.out.2.fr (Fr.below HB2.out : Fr (fun _ => False) w1 w2) fun q hq => .inl hq) (by decide) (by decide) alive_chk2)
  go_wp2_with fail
  refine HE2.out.mono ?_
  rintro e w3 ⟨hb3, rfl⟩
  have HB3 := Lib.hid hb3
  clear hb3
  have HP := Lib.hid (rPrint_any 3 c A [⟨5, ⟨#[]⟩, 0⟩, ⟨0, ⟨#[]⟩, 0⟩, ⟨1, ⟨#[]⟩, 0⟩] w3 (by kernel_rfl) ((HT2.out.below HB3.out).more HB3.out.size) (by decide) (by decide) (fun x hx => by
    simp only [List.mem_cons, List.not_mem_nil, or_false] at hx
    rcases hx with rfl | rfl | rfl <;> exact ⟨by decide, by decide, by decide, by decide, by decide⟩) (by rw [alive_pr]; decide))
  rw [alive_pr] at HP
  go_wp2_with fail
  refine HP.out.mono ?_
  rintro e w4 ⟨rfl, hb4⟩
  have HB4 := Lib.hid (ext_trans HB1.out (ext_trans HB2.out (ext_trans HB3.out hb4)))
  clear hb4
  go_wp2_with fail
  go_ret
  exact ⟨rfl, HB4.out⟩
end Go.Proofs.YtmjdhfbnmmdjiaaGreat
