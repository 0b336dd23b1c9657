/- term.kids, walked; term's leaves. -/
import Derived.Test.YtblfeokjlecgkaaGreatTrees
import Derived.Test.YtblfeokjlecgkaaGreatOff
import Derived.Test.YtblfeokjlecgkaaGreatPKids
import Derived.Test.YtblfeokjlecgkaaGreatAsk
namespace Go.Proofs.YtblfeokjlecgkaaGreat
open Go.RowKit

theorem tIsVar_any (k n : Int) (s : ByteArray) (w : World) :
    Calls Tryz.prog 21 #[.agg #[.int .i64 k, .string s, .int .i64 n]] w fun e w' => e = .returned (.bool (isVarB k)) ∧ Below w.heap.size w w' := by
  unfold isVarB
  cases h8 : (k == 8) <;> cases h9 : (k == 9)
  all_goals
    go_enter Tryz.func21, Tryz.ntmps21
    go_wp2_with fail
    go_ret
    exact ⟨by simp, ext_alloc (Below.refl _ _) _⟩

theorem tIsRow_any (k n : Int) (s : ByteArray) (w : World) :
    Calls Tryz.prog 27 #[.agg #[.int .i64 k, .string s, .int .i64 n]] w fun e w' => e = .returned (.bool (isRowB k)) ∧ Below w.heap.size w w' := by
  unfold isRowB
  cases h8 : (k == 6) <;> cases h9 : (k == 7)
  all_goals
    go_enter Tryz.func27, Tryz.ntmps27
    go_wp2_with fail
    go_ret
    exact ⟨by simp, ext_alloc (Below.refl _ _) _⟩

/-- The children of a type in memory, each a stretch of it. -/
def Stretches (b1 o1 : Nat) (T : List Nd) (vs : List (Option Addr × Nat × Nat)) (tss : List (List Nd)) : Prop :=
  ∀ (i : Nat) (v : Option Addr × Nat × Nat) (ts : List Nd), vs[i]? = some v → tss[i]? = some ts → v.2.1 = ts.length ∧ v.2.1 ≤ v.2.2 ∧ ∃ j rest, v.1 = some ⟨b1, o1 + j * 3, none⟩ ∧ T.drop j = ts ++ rest

set_option maxRecDepth 100000 in
set_option maxHeartbeats 4000000 in
theorem tkids_any (A : Option Addr) (c B : Nat) (T ks : List Nd) (x : Nd) (tss : List (List Nd)) (w : World) (ha : TyA w B A T) (hB : B ≤ w.heap.size) (hl : T.length ≤ 1000000) (hc : T.length ≤ c) (hT : T = x :: ks) (hxo : okNode x.k x.n = true) (hok : okAll ks) (ht : Trees (manyN x) ks tss) :
    Calls Tryz.prog 26 #[.slice A T.length c, .int .i64 0] w fun e w' => ∃ (V : Option Addr) (cv : Nat) (vs : List (Option Addr × Nat × Nat)), e = .returned (.slice V vs.length cv) ∧ OwnS w' w.heap.size V cv vs ∧ vs.length = manyN x ∧ Sls w' B vs tss ∧ (∀ q ∈ vs, q.2.1 ≤ q.2.2) ∧ Below w.heap.size w w' := by
  have hx : T[0]? = some x := by rw [hT]; rfl
  have hdk : T.drop (0 + 1) = ks ++ [] := by rw [hT]; simp
  have hfo := ht.fo
  have hm50 : manyN x ≤ 50 := manyN_le hxo
  have hkc := pKids_any A c T ks [] x 0 w (ha.more hB) hl hx hxo hdk hok hfo
  have hGl : (kidsGo T (manyN x) (0 + 1)).length = manyN x ∧ ∀ k, k < manyN x → True := ⟨by
    have key : ∀ (d : Nat) (at_ : Nat) (zs : List (List Nd)), zs.length = d → T.drop at_ = zs.flatten → (∀ z ∈ zs, Fo 1 z ∧ okAll z) → (kidsGo T d at_).length = d := by
      intro d
      induction d with
      | zero => intro at_ zs _ _ _; rfl
      | succ d ih =>
        intro at_ zs hz hd h1
        match zs, hz with
        | z :: zs, hz =>
          rw [List.flatten_cons] at hd
          obtain ⟨hz1, hz2⟩ := h1 z (by simp)
          rw [kidsGo_step (drop_lt hd hz1.pos), List.length_cons, endGo_one hd hz2 hz1, ih _ zs (by simpa using hz) (drop_more hd) fun y hy => h1 y (by simp [hy])]
    exact key _ _ tss ht.len (by rw [hdk, List.append_nil, ht.flat]) fun z hz => ⟨ht.one z hz, fun y hy => hok y (by rw [← ht.flat]; exact List.mem_flatten.2 ⟨z, hz, hy⟩)⟩, fun _ _ => trivial⟩
  obtain ⟨hGl, _⟩ := hGl
  obtain ⟨b1, o1, rfl, _, _, _, _⟩ := ha.at_ hx
  have hokz : ∀ z ∈ tss, okAll z := fun z hz y hy => hok y (by rw [← ht.flat]; exact List.mem_flatten.2 ⟨z, hz, hy⟩)
  have Hokz := Lib.hid hokz
  have Ht := Lib.hid ht
  have hT1 : T.drop 1 = (tss.drop 0).flatten := by
    rw [show (1 : Nat) = 0 + 1 from rfl, hdk, List.append_nil, List.drop_zero, ht.flat]
  have HT1 := Lib.hid hT1
  have Hkc := Lib.hid hkc
  have htl := ht.len
  generalize hm : manyN x = m at *
  generalize hG : kidsGo T m (0 + 1) = G at *
  have HG : Hid (G = [] ++ kidsGo T (m - 0) 1 ∧ ([] : List Nat).length = 0) := Lib.hid ⟨by rw [← hG]; rfl, rfl⟩
  have Ha := Lib.hid ha
  have Htl := Lib.hid htl
  have HGl := Lib.hid hGl
  clear hx hdk hfo hxo hok ht hT hokz hT1 hkc hm hG ha htl hGl
  go_enter Tryz.func26, Tryz.ntmps26
  go_wp2_with fail
  have hk := Hkc.out
  rw [Int.natCast_zero] at hk
  refine hk.mono ?_
  rintro e w1 ⟨K, ck, rfl, hown, hb⟩
  clear hk Hkc
  rw [asI_len, HGl.out]
  have M := Lib.hid (And.intro hown hb)
  clear hown hb
  go_wp2_with fail
  go_loopw [5, 12] (fun s5 s12 wr => ∃ (k at_ : Nat) (V : Option Addr) (cv : Nat) (vs : List (Option Addr × Nat × Nat)) (pre : List Nat), s5 = .slice V vs.length cv ∧ s12 = .int .i64 k ∧ k ≤ m ∧ vs.length ≤ 50 ∧
      Hid ((OwnI wr w.heap.size K ck (asI G) ∧ Below w.heap.size w wr) ∧ OwnS wr w.heap.size V cv vs ∧ Off V K) ∧ Hid (vs.length = k ∧ G = pre ++ kidsGo T (m - k) at_ ∧ pre.length = k ∧ T.drop at_ = (tss.drop k).flatten) ∧ Hid (Stretches b1 o1 T vs (tss.take k)))
    (fun _ s12 _ => m - (intOf s12).toNat)
  case atStart => exact ⟨0, 1, none, 0, [], [], rfl, rfl, Nat.zero_le _, by simp, Lib.hid ⟨M.out, OwnL.nil, fun a b h => by cases h⟩, Lib.hid ⟨rfl, HG.out.1, rfl, HT1.out⟩, Lib.hid fun i v ts hv => by simp at hv⟩
  case round =>
    clear M HG HT1
    obtain ⟨k, at_, V, cv, vs, pre, rfl, rfl, hkm, hv50, M, hpos, hst⟩ := hrel
    by_cases hlt : k < m
    · obtain ⟨ts, hts⟩ := getq_ex (show k < tss.length by rw [Htl.out]; exact hlt)
      have hmem := List.mem_of_getElem? hts
      have hf := Ht.out.one ts hmem
      have hok := Hokz.out ts hmem
      obtain ⟨hvk, hGp, hpl, hdr⟩ := hpos.out
      have hd := hdr
      rw [flatten_drop_step hts] at hd
      have hal : at_ < T.length := drop_lt hd hf.pos
      obtain ⟨d, hdd⟩ : ∃ d, m - k = d + 1 := ⟨m - k - 1, by omega⟩
      have hGk : G[k]? = some at_ := by
        rw [hdd, kidsGo_step hal] at hGp
        rw [hGp, List.getElem?_append_right (by rw [hpl]; exact Nat.le_refl _), hpl]
        simp
      have hpos' : Hid (G = (pre ++ [at_]) ++ kidsGo T (m - (k + 1)) (at_ + ts.length) ∧ (pre ++ [at_]).length = k + 1 ∧ T.drop (at_ + ts.length) = (tss.drop (k + 1)).flatten) := Lib.hid ⟨by
        rw [hdd, kidsGo_step hal, endGo_one hd hok hf] at hGp
        rw [hGp, show m - (k + 1) = d by omega]; simp, by simp [hpl], drop_more hd⟩
      have hle : at_ + ts.length ≤ T.length := by
        have := congrArg List.length hd
        rw [List.length_drop, List.length_append] at this
        omega
      have hst' : Hid (Stretches b1 o1 T (vs ++ [(some ⟨b1, o1 + at_ * 3, none⟩, ts.length, c - at_)]) (tss.take (k + 1))) := Lib.hid (by
        intro i v zs hv hz
        by_cases hi : i < k
        · rw [List.getElem?_append_left (by omega)] at hv
          rw [List.getElem?_take_of_lt (by omega)] at hz
          exact hst.out i v zs hv (by rw [List.getElem?_take_of_lt hi]; exact hz)
        · have hi2 : i = k := by
            have := getq_lt hz
            rw [List.length_take] at this
            omega
          subst hi2
          rw [List.getElem?_append_right (by omega), hvk, Nat.sub_self] at hv
          rw [List.getElem?_take_of_lt (by omega), hts] at hz
          simp at hv hz
          subst hv hz
          exact ⟨rfl, by show ts.length ≤ c - at_; omega, at_, _, rfl, hd⟩)
      have hkl : k < G.length := getq_lt hGk
      have hEc := Lib.hid (fun W (h : TyA W W.heap.size (some ⟨b1, o1, none⟩) T) => pEnd_any (some ⟨b1, o1, none⟩) c T ts _ at_ W h hl hd hok hf)
      obtain ⟨bk, ok, hke, hkb, kc⟩ := ReadL.int (OwnL.read encI_len M.out.1.1) (asI_get hGk)
      subst hke
      have hv49 : vs.length ≤ 49 := by omega
      have hvk' := Lib.hid hvk
      have hac : at_ + ts.length ≤ c := by omega
      clear hts hmem hf hok hvk hGp hpl hdr hd hdd hGk hpos hst
      go_wp2_with fail
      refine (hEc.out _ ((Ha.out.below (M.out.1.2.mono hB)).more (Nat.le_trans hB M.out.1.2.size))).mono ?_
      rintro e w2 ⟨rfl, hb⟩
      replace M := Lib.hid (show (OwnI w2 w.heap.size (some ⟨bk, ok, none⟩) ck (asI G) ∧ Below w.heap.size w w2) ∧ OwnS w2 w.heap.size V cv vs ∧ Off V (some ⟨bk, ok, none⟩) from ⟨⟨M.out.1.1.below hb (Nat.le_refl _), ext_trans M.out.1.2 hb⟩, M.out.2.1.below hb (Nat.le_refl _), M.out.2.2⟩)
      clear hb kc hkb
      go_wp2_with (at_builtin; refine wpList_appS rfl (.tmp 16) (.tmp 23) rfl w.heap.size (l := vs) rfl (OwnL.alloc M.out.2.1 _) (l2 := [(some ⟨b1, o1 + at_ * 3, none⟩, ts.length, c - at_)]) rfl (readS_new _ (some ⟨b1, o1 + at_ * 3, none⟩, ts.length, c - at_)) (by simp; omega) (by have := M.out.1.2.size; simp; omega) ?_; intro V2 cv2 w8 hown8 hg8 hA8; replace M := Lib.hid (show (OwnI w8 w.heap.size (some ⟨bk, ok, none⟩) ck (asI G) ∧ Below w.heap.size w w8) ∧ OwnS w8 w.heap.size V2 cv2 (vs ++ [(some ⟨b1, o1 + at_ * 3, none⟩, ts.length, c - at_)]) ∧ Off V2 (some ⟨bk, ok, none⟩) from ⟨⟨kept_off (OwnL.alloc M.out.1.1 _) hg8 M.out.2.2, ext_app (ext_alloc M.out.1.2 _) hg8 (fun k hk => (OwnL.block M.out.2.1 k hk).1)⟩, hown8, M.out.2.2.app hA8 (fun q hq => by have := (OwnL.lt M.out.1.1 q hq).2; simp; omega)⟩); clear hown8 hg8 hA8)
      go_roundw
      case rel => exact ⟨k + 1, at_ + ts.length, V2, cv2, _, pre ++ [at_], by simp, by go_num, hlt, by simp; omega, M, Lib.hid ⟨by simp [hvk'.out], hpos'.out⟩, hst'⟩
      case measure => simp [intOf]; omega
    · have hkk : m - k = 0 := by omega
      go_wp2_with fail
      go_ret
      obtain ⟨hvk, _, _, _⟩ := hpos.out
      have hkm' : k = m := by omega
      refine ⟨V, cv, vs, rfl, M.out.2.1, by omega, ⟨by rw [Htl.out]; omega, fun i v zs hv hz => ?_⟩, fun q hq => ?_, M.out.1.2⟩
      · have hi := getq_lt hz
        rw [Htl.out] at hi
        obtain ⟨h1, _, j, rest, h2, h3⟩ := hst.out i v zs hv (by rw [List.getElem?_take_of_lt (by omega)]; exact hz)
        refine ⟨h1, ?_⟩
        rw [h2]
        exact TyA.part (Ha.out.below (M.out.1.2.mono hB)) h3
      · obtain ⟨i, hi⟩ := List.getElem?_of_mem hq
        have hil := getq_lt hi
        obtain ⟨zs, hz⟩ := getq_ex (show i < tss.length by rw [Htl.out]; omega)
        exact (hst.out i q zs hi (by rw [List.getElem?_take_of_lt (by omega)]; exact hz)).2.1
end Go.Proofs.YtblfeokjlecgkaaGreat
