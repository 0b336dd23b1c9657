/- Laid together by a tool from the texts of this seat: R07 UPut RP07 RField UOpensP ULeP. Conditions: each theorem's own. -/
import Derived.Test.YtblfeokjlecgkaaL01
/- leavenref07: kids, alike, Agree, Plain, walked. -/
namespace Go.Proofs.Ytblfeokjlecgkaa
open Go.RowKit

theorem bareN_kids {t : List Nd} : kidsL (bareN t) = kidsL t ∧ (headNd (bareN t)).k = (headNd t).k := by
  cases t with
  | nil => exact ⟨rfl, rfl⟩
  | cons x ks => exact ⟨rfl, rfl⟩
theorem agG_bare : ∀ (f : Nat) (a b : List Nd), agG f (bareN a) (bareN b) = agG f a b
  | 0, _, _ => rfl
  | f + 1, a, b => by
    unfold agG
    rw [bareN_kids.1, bareN_kids.1, bareN_kids.2, bareN_kids.2]
theorem kidsL_len {a t : List Nd} (h : t ∈ kidsL a) : t.length < a.length := by
  cases a with
  | nil => simp [kidsL] at h
  | cons x ks =>
    have := splitF_mem (manyN x) ks t h
    simp only [List.length_cons]
    omega
theorem kidsL_fo {a t : List Nd} (ha : Fo 1 a) (h : t ∈ kidsL a) : Fo 1 t := by
  cases a with
  | nil => simp [kidsL] at h
  | cons x ks =>
    obtain ⟨k1, rs, e, h1, h2⟩ := ha.uncons
    rw [h2.of_zero, List.append_nil] at e
    subst e
    exact (trees_of h1).one t h
theorem agG_fuel : ∀ (f g : Nat) (a b : List Nd), a.length ≤ f → a.length ≤ g → Fo 1 a → agG f a b = agG g a b := by
  intro f
  induction f with
  | zero => intro g a b h _ h0; have := h0.pos; omega
  | succ f ih =>
    intro g a b hf hg h0
    obtain ⟨g, rfl⟩ : ∃ g', g = g' + 1 := ⟨g - 1, by have := h0.pos; omega⟩
    unfold agG
    split
    · rfl
    · split
      · rfl
      · congr 1
        have : ∀ p ∈ (kidsL a).zip (kidsL b), agG f p.1 p.2 = agG g p.1 p.2 := fun p hp => by
          have h1 := (List.of_mem_zip hp).1
          have h2 := kidsL_len h1
          exact ih g p.1 p.2 (by omega) (by omega) (kidsL_fo h0 h1)
        rw [Bool.eq_iff_iff, List.all_eq_true, List.all_eq_true]
        exact ⟨fun h p hp => by rw [← this p hp]; exact h p hp, fun h p hp => by rw [this p hp]; exact h p hp⟩
structure TrW (T : List Nd) : Prop where
  fo : Fo 1 T
  ok : okAll T
theorem TrW.kid {T t : List Nd} (h : TrW T) (ht : t ∈ kidsL T) : TrW t := by
  refine ⟨kidsL_fo h.fo ht, fun y hy => h.ok y ?_⟩
  cases T with
  | nil => simp [kidsL] at ht
  | cons x ks =>
    obtain ⟨k1, rs, e, h1, h2⟩ := h.fo.uncons
    rw [h2.of_zero, List.append_nil] at e
    subst e
    have := (trees_of h1).flat
    refine List.mem_cons_of_mem _ ?_
    rw [← this]
    exact List.mem_flatten.2 ⟨t, ht, hy⟩
theorem TrW.bare {T : List Nd} (h : TrW T) : TrW (bareN T) := by
  cases T with
  | nil => exact h
  | cons x ks => exact ⟨h.fo, fun y hy => by
      rcases List.mem_cons.1 hy with rfl | hy
      · exact h.ok x (by simp)
      · exact h.ok y (by simp [hy])⟩
theorem TrW.fifty {T : List Nd} (h : TrW T) : (kidsL T).length ≤ 50 := by
  cases T with
  | nil => exact Nat.zero_le _
  | cons x ks =>
    obtain ⟨k1, rs, e, h1, h2⟩ := h.fo.uncons
    rw [h2.of_zero, List.append_nil] at e
    subst e
    have := (trees_of h1).len
    show (splitF (manyN x) ks).length ≤ 50
    rw [this]
    exact manyN_le (h.ok x (by simp))
theorem GdT.trw {T : List Nd} (h : GdT T) : TrW T := ⟨h.fo1, h.okAll⟩
theorem kidsR_zero {x : Nd} {ks : List Nd} : kidsR (x :: ks) 0 = kidsGo (x :: ks) (manyN x) 1 := rfl

def Kids07 (T : List Nd) (w : World) (e : Ending) (w' : World) : Prop :=
  ∃ (V : Option Addr) (cv : Nat) (vs : List (Option Addr × Nat × Nat)) (L : Option Addr) (cl : Nat), e = .returned (.tuple #[.slice V vs.length cv, .slice L (kidsL T).length cl]) ∧ ReadS w' w'.heap.size V vs ∧ Sls w' w'.heap.size vs ((kidsL T).map bareN) ∧ ReadT w' w'.heap.size L (labsT (kidsL T)) ∧ (∀ v ∈ vs, v.2.1 ≤ v.2.2) ∧ Below w.heap.size w w'

set_option maxRecDepth 100000 in
set_option maxHeartbeats 4000000 in
theorem kids07_any (A : Option Addr) (c : Nat) (T : List Nd) (w : World) (ha : TyA w w.heap.size A T) (hT : TrW T) (hl : T.length ≤ 100000) (hc : T.length ≤ c) :
    Calls Try.prog 60 #[.slice A T.length c] w (Kids07 T w) := by
  obtain ⟨x, ks, rfl⟩ : ∃ x ks, T = x :: ks := by
    have := hT.fo.pos
    cases T with
    | nil => simp at this
    | cons x ks => exact ⟨x, ks, rfl⟩
  have htr : Trees (manyN x) ks (kidsL (x :: ks)) := by
    obtain ⟨k1, rs, e, h1, h2⟩ := hT.fo.uncons
    rw [h2.of_zero, List.append_nil] at e
    subst e
    exact trees_of h1
  have h50 : (kidsL (x :: ks)).length ≤ 50 := by rw [htr.len]; exact manyN_le (hT.ok x (by simp))
  obtain ⟨q1, q2⟩ := kidsGo_at (T := x :: ks) (kidsL (x :: ks)) 1 [] (by rw [htr.flat]; simp) fun z hz => ⟨kidsL_fo hT.fo hz, (hT.kid hz).ok⟩
  rw [htr.len] at q1 q2
  rw [← kidsR_zero] at q1 q2
  have hK := Lib.hid fun W (hW : Below w.heap.size w W) => rKids_any A c (x :: ks) 0 W ((ha.below hW).more hW.size) (by omega) hT.ok
  have HA := Lib.hid (And.intro ha hT)
  have HQ := Lib.hid (And.intro q1 (And.intro q2 htr.len))
  obtain ⟨b1, o1, rfl, hb1, _⟩ := ha (by simp)
  clear ha hT htr q1 q2
  obtain ⟨T, hTd⟩ : ∃ T, T = x :: ks := ⟨_, rfl⟩
  rw [← hTd] at HA HQ hK hl hc h50 ⊢
  have HTd := Lib.hid hTd
  clear hTd
  have hown0 := Lib.hid (own_empty 34 1 encS w)
  have hown1 := Lib.hid (own_empty 9 1 encT (w.alloc (.cells #[] 34)))
  have hbe := Lib.hid (ext_alloc (ext_alloc (Below.refl w.heap.size w) (.cells #[] 34)) (.cells #[] 9))
  go_enter Try.func60, Try.ntmps60
  go_wp2_with fail
  refine (hK.out _ hbe.out).mono ?_
  clear hK
  rintro e w1 ⟨K, ck, rfl, hok, hb⟩
  have hkl : (asI (kidsR T 0)).length = (kidsL T).length := by rw [asI, List.length_map, HQ.out.1, HQ.out.2.2]
  have S0 : Hid (StQ w (some ⟨b1, o1, none⟩) T K ck (asI (kidsR T 0)) (some ⟨w.heap.size, 0, none⟩) 0 [] [] (some ⟨w.heap.size + 1, 0, none⟩) 0 [] w1) := Lib.hid (by
    have h0 := OwnL.below (OwnL.alloc hown0.out (.cells #[] 9)) hb (by simp)
    have h1 := OwnL.below hown1.out hb (by simp)
    simp only [World.size_alloc] at h1 hok
    refine ⟨ext_trans hbe.out hb, HA.out.1.below (ext_trans hbe.out hb), hok.lower (by omega), h0, h1.lower (by omega), ⟨rfl, fun i q xs hq => by simp at hq⟩, fun q hq => (by cases hq), ?_, ?_, ?_, fun q hq => (by cases hq), fun q hq => (by cases hq)⟩
    · intro a b ha hb e; injection ha with ha; injection hb with hb; subst ha hb; simp at e
    · intro a b ha hb e; injection ha with ha; subst ha; have := (OwnL.lt hok b hb).1; have e : w.heap.size = b.block := e; omega
    · intro a b ha hb e; injection ha with ha; subst ha; have := (OwnL.lt hok b hb).1; have e : w.heap.size + 1 = b.block := e; omega)
  obtain ⟨kl, hkl0⟩ : ∃ kl, kl = asI (kidsR T 0) := ⟨_, rfl⟩
  rw [← hkl0] at hkl S0 ⊢
  have HKL := Lib.hid (fun (j p : Nat) (h : (kidsR T 0)[j]? = some p) => (show kl[j]? = some (p : Int) by rw [hkl0, asI, List.getElem?_map, h]; rfl))
  rw [hkl]
  clear hkl hkl0 hok hb hown0 hown1 hbe
  go_wp2_with fail
  go_loopw [4, 5, 7] (fun s4 s5 s7 wr => ∃ (k : Nat) (V : Option Addr) (cv : Nat) (vs : List (Option Addr × Nat × Nat)) (L : Option Addr) (cl : Nat) (ls : List ByteArray), s4 = .slice V vs.length cv ∧ s5 = .slice L ls.length cl ∧ s7 = .int .i64 k ∧ k ≤ (kidsL T).length ∧ Hid (vs.length = k ∧ ls = labsT ((kidsL T).take k) ∧ ls.length = k) ∧ Hid (StQ w (some ⟨b1, o1, none⟩) T K ck kl V cv vs (((kidsL T).take k).map bareN) L cl ls wr ∧ ∀ v ∈ vs, v.2.1 ≤ v.2.2)) (fun _ _ s7 _ => (kidsL T).length - (intOf s7).toNat)
  case atStart => exact ⟨0, _, 0, [], _, 0, [], rfl, rfl, rfl, Nat.zero_le _, Lib.hid ⟨rfl, rfl, rfl⟩, Lib.hid ⟨S0.out, fun v hv => by cases hv⟩⟩
  case round =>
    clear S0
    obtain ⟨k, V, cv, vs, L, cl, ls, rfl, rfl, rfl, hk, HL, M⟩ := hrel
    by_cases hp : k < (kidsL T).length
    · obtain ⟨ts, hts⟩ := getq_ex hp
      obtain ⟨p, r2, hkp, hdp⟩ := HQ.out.2.1 k ts hts
      have hmem := List.mem_of_getElem? hts
      have hkid := HA.out.2.kid hmem
      obtain ⟨bk, ok, rfl, hbk, hck⟩ := ReadL.int (OwnL.read encI_len M.out.1.k) (HKL.out k p hkp)
      have hsz := M.out.1.ext.size
      have hpart := Lib.hid (rPart_any (some ⟨b1, o1, none⟩) c T ts r2 p wr (M.out.1.t.more hsz) (by omega) hc hdp hkid.ok HA.out.2.ok hkid.fo)
      have hyp : T[p]? = some (headNd ts) := by
        have := congrArg (·[0]?) hdp
        simp only [List.getElem?_drop, Nat.add_zero] at this
        have hpos := hkid.fo.pos
        rw [this]
        cases ts with
        | nil => simp at hpos
        | cons y ys => rfl
      have Hyp := Lib.hid hyp
      have hpT := getq_lt hyp
      have hp0 : (0 : Int) ≤ (p : Int) := by omega
      have hp1 : (p : Int) < (T.length : Int) := by omega
      have Hts := Lib.hid hts
      have HKP := Lib.hid hkp
      have hvl : vs.length ≤ 100 := by have := HL.out.1; omega
      have hll : ls.length ≤ 100 := by have := HL.out.2.2; omega
      clear hts hkp hdp hmem hkid hyp
      go_wp2_with fail
      refine hpart.out.mono ?_
      clear hpart
      rintro e w5 ⟨Aq, cq, rfl, hoq, hbq⟩
      have hcap := Lib.hid (OwnL.le_cap hoq)
      have PQ := Lib.hid (M.out.1.part hoq)
      have S5 := Lib.hid (M.out.1.step hbq)
      obtain ⟨P, hP⟩ : ∃ P, P = bareN ts := ⟨_, rfl⟩
      rw [← hP] at PQ hcap ⊢
      have HP := Lib.hid hP
      have HV := Lib.hid M.out.2
      have HKp := Lib.hid (HKL.out k p HKP.out)
      have hbw5 : bk < w5.heap.size := Nat.lt_of_lt_of_le hbk hbq.size
      clear hoq hbq hP M hck
      go_wp2_with (first
        | (at_builtin; refine wpList_appS rfl (.tmp 18) (.tmp 25) rfl w.heap.size (l := vs) rfl (OwnL.alloc S5.out.v _) (l2 := [(Aq, P.length, cq)]) rfl (readS_new _ (Aq, P.length, cq)) (by simp; omega) (by have := S5.out.ext.size; simp; omega) ?_; intro V2 cv2 w8 hown8 hg8 hA8; have S6 := Lib.hid (StQ.appV (S5.out.step (ext_alloc (Below.refl _ _) _)) (PQ.out.step (ext_alloc (Below.refl _ _) _)) hg8 hown8 hA8); obtain ⟨bk6, ok6, eK, hbk6, hck6⟩ := ReadL.int (OwnL.read encI_len S6.out.k) HKp.out; injection eK with eK; injection eK with eK1 eK2 _; subst eK1 eK2; obtain ⟨hbT, c10, c11, c12⟩ := (S6.out.t.more S6.out.ext.size).cells Hyp.out; clear hown8 hg8 hA8)
        | (at_builtin; refine wpList_appT rfl (.tmp 27) (.tmp 36) rfl w.heap.size (l := ls) rfl (OwnL.alloc S6.out.l _) (l2 := [(headNd ts).s]) rfl (readT_new _ (headNd ts).s) (by simp; omega) (by have := S6.out.ext.size; simp; omega) ?_; intro L2 cl2 w9 hown9 hg9 hA9; have S7 := Lib.hid (StQ.appL (S6.out.step (ext_alloc (Below.refl _ _) _)) hg9 hown9 hA9); clear c10 c11 c12 hck6 hown9 hg9 hA9))
      go_roundw
      case rel =>
        refine ⟨k + 1, V2, cv2, vs ++ [(Aq, P.length, cq)], L2, cl2, ls ++ [(headNd ts).s], by simp, by simp, by go_num, hp, Lib.hid ⟨by simp [HL.out.1], ?_, by simp [HL.out.2.2]⟩, Lib.hid ⟨?_, fun v hv => ?_⟩⟩
        · rw [HL.out.2.1, List.take_add_one, Hts.out]; simp [labsT]
        · rw [List.take_add_one, Hts.out, List.map_append]
          have h := S7.out
          rw [HP.out] at h ⊢
          exact h
        · rcases List.mem_append.1 hv with hv | hv
          · exact HV.out v hv
          · rw [List.mem_singleton.1 hv]; exact hcap.out
      case measure => simp [intOf]; omega
    · have e1 : (kidsL T).take k = kidsL T := List.take_of_length_le (by omega)
      rw [e1] at HL M
      have hkk : Hid (ls.length = (kidsL T).length) := Lib.hid (by have := HL.out.2.2; omega)
      go_wp2_with fail
      go_ret2
      unfold Kids07
      rw [← hkk.out]
      refine ⟨V, cv, vs, L, cl, rfl, OwnL.read encS_len M.out.1.v, M.out.1.s, ?_, M.out.2, M.out.1.ext⟩
      rw [← HL.out.2.1]
      exact OwnL.read encT_len M.out.1.l

theorem labs_ne {l : List Lb} {l2 : List Lb} {i : Nat} {a b : Lb} (h1 : l[i]? = some a) (h2 : l2[i]? = some b) (h : a ≠ b) : l ≠ l2 := by
  rintro rfl
  rw [h1] at h2
  injection h2 with h2
  exact h h2
theorem str_ne {a b : ByteArray} (h : a ≠ b) : (a.toList != b.toList) = true := by
  rw [bne_iff_ne]
  intro e
  apply h
  rw [ByteArray.toList_eq, ByteArray.toList_eq] at e
  cases a; cases b
  simp only at e
  congr
  exact Array.toList_inj.1 e
theorem bel_drewN (w : World) (n : Nat) : Below w.heap.size w (w.drewN n) := ((Fr.refl (fun _ => False) w).drewN n).toBelow fun _ e => e.elim
def alikeB (a b : List Nd) : Bool := decide ((headNd a).k = (headNd b).k) && decide (labsT (kidsL a) = labsT (kidsL b))

set_option maxRecDepth 100000 in
set_option maxHeartbeats 4000000 in
theorem alike_any (A B : Option Addr) (c d : Nat) (a b : List Nd) (w : World) (ha : TyA w w.heap.size A a) (hb : TyA w w.heap.size B b) (ta : TrW a) (tb : TrW b) (la : a.length ≤ 100000) (lb : b.length ≤ 100000) (lc : a.length ≤ c) (ld : b.length ≤ d) :
    Calls Try.prog 59 #[.slice A a.length c, .slice B b.length d] w fun e w' => e = .returned (.bool (alikeB a b)) ∧ Below w.heap.size w w' := by
  have hxa : a[0]? = some (headNd a) := by
    have := ta.fo.pos
    cases a with
    | nil => simp at this
    | cons x ks => rfl
  have hxb : b[0]? = some (headNd b) := by
    have := tb.fo.pos
    cases b with
    | nil => simp at this
    | cons x ks => rfl
  have ka := Lib.hid fun W (hW : Below w.heap.size w W) => kids07_any A c a W ((ha.below hW).more hW.size) ta la lc
  have kb := Lib.hid fun W (hW : Below w.heap.size w W) => kids07_any B d b W ((hb.below hW).more hW.size) tb lb ld
  have h50 := ta.fifty
  have p1 := getq_lt hxa
  have p2 := getq_lt hxb
  obtain ⟨b1, o1, rfl, hb1, c10, _, _⟩ := ha.at_ hxa
  obtain ⟨b2, o2, rfl, hb2, d10, _, _⟩ := hb.at_ hxb
  simp only [Nat.zero_mul, Nat.add_zero] at c10 d10
  clear ha hb ta tb hxa hxb
  go_enter Try.func59, Try.ntmps59
  cases hk : ((headNd a).k != (headNd b).k) with
  | true =>
    have HK : Hid ((headNd a).k ≠ (headNd b).k) := Lib.hid (by simpa using hk)
    go_wp2_with fail
    go_quiet (fail)
    go_wp2_with fail
    go_ret
    exact ⟨ret_bool (by unfold alikeB; rw [decide_eq_false HK.out]; rfl), bel_drewN _ _⟩
  | false =>
    have HK : Hid ((headNd a).k = (headNd b).k) := Lib.hid (by simpa using hk)
    have HAB : Hid (alikeB a b = decide (labsT (kidsL a) = labsT (kidsL b))) := Lib.hid (by unfold alikeB; rw [decide_eq_true HK.out]; rfl)
    go_wp2_with fail
    go_quiet (fail)
    go_wp2_with fail
    refine (ka.out _ (bel_drewN _ _)).mono ?_
    clear ka
    rintro e w1 ⟨V1, cv1, vs1, L1, cl1, rfl, r1, s1, l1, q1, hb⟩
    have G1 := Lib.hid (And.intro (ext_trans (bel_drewN _ _) hb) l1)
    clear r1 s1 l1 q1 hb
    go_wp2_with fail
    refine (kb.out _ G1.out.1).mono ?_
    clear kb
    rintro e w2 ⟨V2, cv2, vs2, L2, cl2, rfl, r2, s2, l2, q2, hb⟩
    have G2 := Lib.hid (And.intro (ext_trans G1.out.1 hb) (And.intro ((ReadL.below G1.out.2 hb).more hb.size) l2))
    clear r2 s2 l2 q2 hb c10 d10
    obtain ⟨la1, hla⟩ : ∃ l, l = labsT (kidsL a) := ⟨_, rfl⟩
    obtain ⟨lb1, hlb⟩ : ∃ l, l = labsT (kidsL b) := ⟨_, rfl⟩
    have ea : (kidsL a).length = la1.length := by rw [hla, labsT_length]
    have eb : (kidsL b).length = lb1.length := by rw [hlb, labsT_length]
    rw [← hla, ← hlb] at G2 HAB
    rw [ea] at h50
    rw [ea, eb]
    clear hla hlb ea eb
    cases hn : ((la1.length : Int) != (lb1.length : Int)) with
    | true =>
      have HN : Hid (la1.length ≠ lb1.length) := Lib.hid (by
        have h : (la1.length : Int) ≠ (lb1.length : Int) := by simpa using hn
        omega)
      go_wp2_with fail
      go_ret
      exact ⟨ret_bool (by rw [HAB.out, decide_eq_false (fun e => HN.out (by rw [e]))]), G2.out.1⟩
    | false =>
      have HN : Hid (la1.length = lb1.length) := Lib.hid (by
        have h : (la1.length : Int) = (lb1.length : Int) := by simpa using hn
        omega)
      go_wp2_with fail
      go_loopw [9] (fun s9 wr => ∃ i : Nat, s9 = .int .i64 i ∧ i ≤ la1.length ∧ Hid (Below w2.heap.size w2 wr ∧ la1.take i = lb1.take i)) (fun s9 _ => la1.length - (intOf s9).toNat)
      case atStart => exact ⟨0, rfl, Nat.zero_le _, Lib.hid ⟨Below.refl _ _, rfl⟩⟩
      case round =>
        obtain ⟨i, rfl, hi, M⟩ := hrel
        by_cases hp : i < la1.length
        · obtain ⟨x, hx⟩ := getq_ex hp
          obtain ⟨y, hy⟩ := getq_ex (show i < lb1.length by rw [← HN.out]; exact hp)
          have hp2 : i < lb1.length := getq_lt hy
          obtain ⟨g1, o3, rfl, _, k1⟩ := ReadL.str ((G2.out.2.1.below M.out.1).more M.out.1.size) hx
          obtain ⟨g2, o4, rfl, _, k2⟩ := ReadL.str ((G2.out.2.2.below M.out.1).more M.out.1.size) hy
          have Hxy := Lib.hid (And.intro hx hy)
          clear hx hy
          cases hs : (x.toList == y.toList) with
          | false =>
            have HS : Hid (x ≠ y) := Lib.hid (by rintro rfl; simp at hs)
            have hs2 : (x.toList != y.toList) = true := by unfold bne; rw [hs]; rfl
            go_wp2_with fail
            go_quiet (fail)
            go_wp2_with fail
            go_ret
            refine ⟨ret_bool (by rw [HAB.out, decide_eq_false (labs_ne Hxy.out.1 Hxy.out.2 HS.out)]), ?_⟩
            exact ext_trans (ext_trans G2.out.1 M.out.1) (bel_drewN _ _)
          | true =>
            have HS : Hid (x = y) := Lib.hid (Classical.byContradiction fun h => by have := str_ne h; unfold bne at this; rw [hs] at this; cases this)
            have hs2 : (x.toList != y.toList) = false := by unfold bne; rw [hs]; rfl
            go_wp2_with fail
            go_quiet (fail)
            go_wp2_with fail
            go_roundw
            case rel => exact ⟨i + 1, by go_num, hp, Lib.hid ⟨ext_trans M.out.1 (bel_drewN _ _), by rw [List.take_add_one, List.take_add_one, Hxy.out.1, Hxy.out.2, M.out.2, HS.out]⟩⟩
            case measure => simp [intOf]; omega
        · have e1 : Hid (la1 = lb1) := Lib.hid (by
            have := M.out.2
            rw [List.take_of_length_le (by omega), List.take_of_length_le (by have := HN.out; omega)] at this
            exact this)
          go_wp2_with fail
          go_ret
          refine ⟨ret_bool (by rw [HAB.out, decide_eq_true e1.out]), ?_⟩
          exact ext_trans G2.out.1 M.out.1

theorem agG_split {a b : List Nd} (ta : TrW a) (h0 : ¬ ((headNd a).k = 0 ∨ (headNd b).k = 0)) : agG a.length a b = (alikeB a b && ((kidsL a).zip (kidsL b)).all fun p => agG p.1.length p.1 p.2) := by
  obtain ⟨f, hf⟩ : ∃ f, a.length = f + 1 := ⟨a.length - 1, by have := ta.fo.pos; omega⟩
  have e : agG (f + 1) a b = if (headNd a).k = 0 ∨ (headNd b).k = 0 then true else if (headNd a).k ≠ (headNd b).k then false else decide (labsT (kidsL a) = labsT (kidsL b)) && ((kidsL a).zip (kidsL b)).all fun p => agG f p.1 p.2 := rfl
  have this : ∀ p ∈ (kidsL a).zip (kidsL b), agG f p.1 p.2 = agG p.1.length p.1 p.2 := fun p hp => by
    have h1 := (List.of_mem_zip hp).1
    have h2 := kidsL_len h1
    exact agG_fuel _ _ _ _ (by omega) (Nat.le_refl _) (kidsL_fo ta.fo h1)
  have e2 : (((kidsL a).zip (kidsL b)).all fun p => agG f p.1 p.2) = ((kidsL a).zip (kidsL b)).all fun p => agG p.1.length p.1 p.2 := by
    rw [Bool.eq_iff_iff, List.all_eq_true, List.all_eq_true]
    exact ⟨fun h p hp => by rw [← this p hp]; exact h p hp, fun h p hp => by rw [this p hp]; exact h p hp⟩
  rw [hf, e, if_neg h0, e2]
  unfold alikeB
  by_cases hk : (headNd a).k ≠ (headNd b).k
  · rw [if_pos hk, decide_eq_false hk]; rfl
  · rw [if_neg hk, decide_eq_true (show (headNd a).k = (headNd b).k from Classical.not_not.1 hk), Bool.true_and]
theorem zip_get {α β : Type} {l : List α} {m : List β} {i : Nat} {a : α} {b : β} (h1 : l[i]? = some a) (h2 : m[i]? = some b) : (l.zip m)[i]? = some (a, b) := List.getElem?_zip_eq_some.2 ⟨h1, h2⟩

set_option maxRecDepth 100000 in
set_option maxHeartbeats 8000000 in
theorem rAgree_any : ∀ (N : Nat) (A B : Option Addr) (c d : Nat) (a b : List Nd) (w : World), a.length ≤ N → TyA w w.heap.size A a → TyA w w.heap.size B b → TrW a → TrW b → a.length ≤ 100000 → b.length ≤ 100000 → a.length ≤ c → b.length ≤ d →
    Calls Try.prog 26 #[.slice A a.length c, .slice B b.length d] w fun e w' => e = .returned (.bool (agG a.length a b)) ∧ Below w.heap.size w w' := by
  intro N
  induction N with
  | zero => intro A B c d a b w h0 _ _ ta; have := ta.fo.pos; omega
  | succ N ih =>
    have IH := Lib.hid ih
    clear ih
    intro A B c d a b w hN ha hb ta tb la lb lc ld
    have hxa : a[0]? = some (headNd a) := by
      have := ta.fo.pos
      cases a with
      | nil => simp at this
      | cons x ks => rfl
    have hxb : b[0]? = some (headNd b) := by
      have := tb.fo.pos
      cases b with
      | nil => simp at this
      | cons x ks => rfl
    have kal := Lib.hid (alike_any A B c d a b w ha hb ta tb la lb lc ld)
    have ka := Lib.hid fun W (hW : Below w.heap.size w W) => kids07_any A c a W ((ha.below hW).more hW.size) ta la lc
    have kb := Lib.hid fun W (hW : Below w.heap.size w W) => kids07_any B d b W ((hb.below hW).more hW.size) tb lb ld
    have HT := Lib.hid (And.intro ta tb)
    have p1 := getq_lt hxa
    have p2 := getq_lt hxb
    have HN := Lib.hid (And.intro hN (And.intro la lb))
    obtain ⟨b1, o1, rfl, hb1, c10, _, _⟩ := ha.at_ hxa
    obtain ⟨b2, o2, rfl, hb2, d10, _, _⟩ := hb.at_ hxb
    simp only [Nat.zero_mul, Nat.add_zero] at c10 d10
    clear ha hb ta tb hxa hxb hN
    go_enter Try.func26, Try.ntmps26
    have hcase : ((headNd a).k == 0) = true ∨ (((headNd a).k == 0) = false ∧ ((headNd b).k == 0) = true) ∨ (((headNd a).k == 0) = false ∧ ((headNd b).k == 0) = false) := by
      cases ((headNd a).k == 0) <;> cases ((headNd b).k == 0) <;> simp
    have hpos : Hid (((headNd a).k = 0 ∨ (headNd b).k = 0) → agG a.length a b = true) := Lib.hid fun h => by
      obtain ⟨f, hf⟩ : ∃ f, a.length = f + 1 := ⟨a.length - 1, by omega⟩
      rw [hf]
      unfold agG
      rw [if_pos h]
    rcases hcase with h1 | ⟨h1, h2⟩ | ⟨h1, h2⟩
    · have H1 := Lib.hid h1
      go_wp2_with fail
      go_ret
      exact ⟨ret_bool (by rw [hpos.out (.inl (by simpa using H1.out))]), Below.refl _ _⟩
    · have H1 := Lib.hid h2
      go_wp2_with fail
      go_ret
      exact ⟨ret_bool (by rw [hpos.out (.inr (by simpa using H1.out))]), Below.refl _ _⟩
    · have HAG : Hid (agG a.length a b = (alikeB a b && ((kidsL a).zip (kidsL b)).all fun p => agG p.1.length p.1 p.2)) := Lib.hid (agG_split HT.out.1 (by
        have h3 : (headNd a).k ≠ 0 := by simpa using h1
        have h4 : (headNd b).k ≠ 0 := by simpa using h2
        rintro (h | h)
        · exact h3 h
        · exact h4 h))
      clear hpos
      go_wp2_with fail
      refine kal.out.mono ?_
      clear kal
      rintro e w1 ⟨rfl, hb⟩
      have G1 := Lib.hid hb
      clear hb c10 d10
      cases hal : alikeB a b with
      | false =>
        have HA := Lib.hid hal
        clear hal
        go_wp2_with fail
        go_ret
        exact ⟨ret_bool (by rw [HAG.out, HA.out]; rfl), G1.out⟩
      | true =>
        have HA := Lib.hid hal
        have hll : Hid ((kidsL a).length = (kidsL b).length) := Lib.hid (by
          unfold alikeB at hal
          simp only [Bool.and_eq_true, decide_eq_true_eq] at hal
          have := congrArg List.length hal.2
          rwa [labsT_length, labsT_length] at this)
        clear hal
        go_wp2_with fail
        refine (ka.out _ G1.out).mono ?_
        clear ka
        rintro e w2 ⟨V1, cv1, vs1, L1, cl1, rfl, r1, s1, _, q1, hb⟩
        have G2 := Lib.hid (And.intro (ext_trans G1.out hb) (And.intro r1 (And.intro s1 q1)))
        clear r1 s1 q1 hb
        go_wp2_with fail
        refine (kb.out _ G2.out.1).mono ?_
        clear kb
        rintro e w3 ⟨V2, cv2, vs2, L2, cl2, rfl, r2, s2, _, q2, hb⟩
        have G3 := Lib.hid (And.intro (ext_trans G2.out.1 hb) (And.intro ((ReadL.below G2.out.2.1 hb).more hb.size) (And.intro (G2.out.2.2.1.moreB hb hb.size) (And.intro r2 (And.intro s2 q2)))))
        clear r2 s2 q2 hb
        have hv1 : Hid (vs1.length = (kidsL a).length) := Lib.hid (by rw [G3.out.2.2.1.1, List.length_map])
        have hv50 : vs1.length ≤ 50 := by rw [hv1.out]; exact HT.out.1.fifty
        have hv2 : Hid (vs2.length = (kidsL b).length) := Lib.hid (by rw [G3.out.2.2.2.2.1.1, List.length_map])
        go_wp2_with fail
        go_loopw [9] (fun s9 wr => ∃ i : Nat, s9 = .int .i64 i ∧ i ≤ vs1.length ∧ Hid (Below w3.heap.size w3 wr ∧ (((kidsL a).zip (kidsL b)).take i).all (fun p => agG p.1.length p.1 p.2) = true)) (fun s9 _ => vs1.length - (intOf s9).toNat)
        case atStart => exact ⟨0, rfl, Nat.zero_le _, Lib.hid ⟨Below.refl _ _, by simp⟩⟩
        case round =>
          obtain ⟨i, rfl, hi, M⟩ := hrel
          by_cases hp : i < vs1.length
          · have hpv2 : i < vs2.length := by have := hv1.out; have := hv2.out; have := hll.out; omega
            obtain ⟨v, hv⟩ := getq_ex hp
            obtain ⟨u, hu⟩ := getq_ex hpv2
            obtain ⟨ts, hts⟩ := getq_ex (l := kidsL a) (i := i) (by rw [← hv1.out]; exact hp)
            obtain ⟨us, hus⟩ := getq_ex (l := kidsL b) (i := i) (by rw [← hv2.out]; exact hpv2)
            obtain ⟨g1, o3, rfl, hg1, k1⟩ := ReadL.slice ((G3.out.2.1.below M.out.1).more M.out.1.size) hv
            obtain ⟨g2, o4, rfl, hg2, k2⟩ := ReadL.slice ((G3.out.2.2.2.1.below M.out.1).more M.out.1.size) hu
            obtain ⟨e1, t1⟩ := (G3.out.2.2.1.moreB M.out.1 M.out.1.size).2 i v (bareN ts) hv (by rw [List.getElem?_map, hts]; rfl)
            obtain ⟨e2, t2⟩ := (G3.out.2.2.2.2.1.moreB M.out.1 M.out.1.size).2 i u (bareN us) hu (by rw [List.getElem?_map, hus]; rfl)
            have z1 := G2.out.2.2.2 v (List.mem_of_getElem? hv)
            have z2 := G3.out.2.2.2.2.2 u (List.mem_of_getElem? hu)
            have m1 := List.mem_of_getElem? hts
            have m2 := List.mem_of_getElem? hus
            have n1 := kidsL_len m1
            have n2 := kidsL_len m2
            have hzip : ((kidsL a).zip (kidsL b))[i]? = some (ts, us) := zip_get hts hus
            rw [e1] at k1 z1
            rw [e2] at k2 z2
            have hcall : Hid (∀ W, Below wr.heap.size wr W → Calls Try.prog 26 #[.slice v.1 (bareN ts).length v.2.2, .slice u.1 (bareN us).length u.2.2] W fun e w' => e = .returned (.bool (agG ts.length ts us)) ∧ Below wr.heap.size wr w') := Lib.hid fun W hW => by
              have h := IH.out v.1 u.1 v.2.2 u.2.2 (bareN ts) (bareN us) W (by rw [bareN_length]; have := HN.out.1; omega) ((t1.below hW).more hW.size) ((t2.below hW).more hW.size) (HT.out.1.kid m1).bare (HT.out.2.kid m2).bare (by rw [bareN_length]; have := HN.out.2.1; omega) (by rw [bareN_length]; have := HN.out.2.2; omega) z1 z2
              rw [agG_bare, show (bareN ts).length = ts.length from bareN_length ts] at h
              rw [show (bareN ts).length = ts.length from bareN_length ts]
              exact h.mono fun e w' he => ⟨he.1, ext_trans hW he.2⟩
            have HZ := Lib.hid hzip
            clear hv hu hts hus e1 t1 e2 t2 z1 z2 m1 m2 n1 n2 hzip
            go_wp2_with fail
            go_region_law
              (first
                | (go_simp; (with_reducible refine (hcall.out _ ?_).mono ?_); (first | exact Below.refl _ _ | exact (Below.refl _ _).drew); rintro e w5 ⟨rfl, hb5⟩; have G5 := Lib.hid hb5; clear hb5; generalize hq : agG ts.length ts us = q; have HQ := Lib.hid hq; clear hq; dsimp only))
            all_goals
              cases q with
              | false =>
                go_wp2_with fail
                go_ret
                refine ⟨ret_bool (by rw [HAG.out, all_no HZ.out HQ.out, Bool.and_false]), ext_trans (ext_trans G3.out.1 M.out.1) G5.out⟩
              | true =>
                go_wp2_with fail
                go_roundw
                case rel => exact ⟨i + 1, by go_num, hp, Lib.hid ⟨ext_trans M.out.1 G5.out, all_snoc HZ.out M.out.2 HQ.out⟩⟩
                case measure => simp [intOf]; omega
          · have e1 : Hid (((kidsL a).zip (kidsL b)).all (fun p => agG p.1.length p.1 p.2) = true) := Lib.hid (by
              have := M.out.2
              rwa [List.take_of_length_le (by rw [List.length_zip]; have := hv1.out; omega)] at this)
            go_wp2_with fail
            go_ret
            exact ⟨ret_bool (by rw [HAG.out, HA.out, e1.out]; rfl), ext_trans G3.out.1 M.out.1⟩
end Go.Proofs.Ytblfeokjlecgkaa

/- The law's put, walked. -/
namespace Go.Proofs.Ytblfeokjlecgkaa
open Go.RowKit

theorem putTs_step {types : List (List Nd)} {t : List Nd} {i : Nat} {x : Nd} (hx : t[i]? = some x) : putTs types (t.take (i + 1)) = putTs types (t.take i) ++ putN types x := by
  unfold putTs
  rw [List.take_add_one, hx, List.map_append, List.flatten_append]
  simp
theorem putN_var {types : List (List Nd)} {x y : Nd} {ks : List Nd} {j : Nat} (h8 : (x.k == 8) = true) (hj : x.n = (j : Int)) (hT : types[j]? = some (y :: ks)) : putN types x = ⟨y.k, x.s, y.n⟩ :: ks := by
  unfold putN
  rw [if_pos (by simpa using h8), hj, Int.toNat_natCast, hT]
  rfl
theorem putN_not {types : List (List Nd)} {x : Nd} (h8 : (x.k == 8) = false) : putN types x = [x] := if_neg (by simpa using h8)
structure PutIn (types : List (List Nd)) (t : List Nd) : Prop where
  nn : ∀ x ∈ t, x.k = 8 → 0 ≤ x.n ∧ x.n.toNat < types.length
  ne : ∀ T ∈ types, T ≠ []
  ln : ∀ T ∈ types, T.length ≤ 30
theorem PutIn.one {types : List (List Nd)} {t : List Nd} (h : PutIn types t) {x : Nd} (_hx : x ∈ t) : (putN types x).length ≤ 30 := by
  unfold putN
  split
  · split
    · simp
    · next y ks e =>
      have hm : (y :: ks) ∈ types := by
        cases hq : types[x.n.toNat]? with
        | none => rw [hq] at e; simp at e
        | some T => rw [hq] at e; simp at e; rw [← e]; exact List.mem_of_getElem? hq
      exact h.ln (y :: ks) hm
  · simp
theorem PutIn.len {types : List (List Nd)} {t : List Nd} (h : PutIn types t) : ∀ i, i ≤ t.length → (putTs types (t.take i)).length ≤ i * 30
  | 0, _ => by simp [putTs]
  | i + 1, hi => by
    obtain ⟨x, hx⟩ := getq_ex (show i < t.length by omega)
    have h1 := h.len i (by omega)
    have h2 := h.one (List.mem_of_getElem? hx)
    rw [putTs_step hx, List.length_append]
    omega

set_option maxRecDepth 100000 in
set_option maxHeartbeats 4000000 in
theorem put_any (A V : Option Addr) (ca cv : Nat) (t : List Nd) (vs : List (Option Addr × Nat × Nat)) (types : List (List Nd)) (w : World) (ha : TyA w w.heap.size A t) (hV : ReadS w w.heap.size V vs) (hS : Sls w w.heap.size vs types) (hl : t.length ≤ 1000) (P : PutIn types t) (_hv : vs.length ≤ 1000) :
    Calls Try.prog 66 #[.slice A t.length ca, .slice V vs.length cv] w (RetN w (putTs types t)) := by
  have Ha := Lib.hid (And.intro ha (And.intro hV (And.intro hS P)))
  have hown0 := Lib.hid (own_empty 48 3 encN w)
  have hb0 := Lib.hid (ext_alloc (Below.refl w.heap.size w) (.cells #[] 48))
  have hvt := Lib.hid hS.1
  clear ha hV hS P
  go_enter Try.func66, Try.ntmps66
  go_wp2_with fail
  go_loopw [5, 6] (fun s5 s6 wr => ∃ (A' : Option Addr) (n cap' i : Nat), s5 = .slice A' n cap' ∧ s6 = .int .i64 i ∧ i ≤ t.length ∧ n ≤ 30000 ∧ Hid (n = (putTs types (t.take i)).length) ∧ Hid (OwnN wr w.heap.size A' cap' (putTs types (t.take i)) ∧ Below w.heap.size w wr))
    (fun _ s6 _ => t.length - (intOf s6).toNat)
  case atStart => exact ⟨some ⟨w.heap.size, 0, none⟩, 0, 0, 0, rfl, rfl, Nat.zero_le _, by omega, Lib.hid (by simp [putTs]), Lib.hid ⟨by simpa [putTs] using hown0.out, hb0.out⟩⟩
  case round =>
    clear hown0 hb0
    obtain ⟨A', n, cap', i, rfl, rfl, hi, hn6, hn, M⟩ := hrel
    by_cases hp : i < t.length
    · obtain ⟨x, hx⟩ := getq_ex hp
      have Hx := Lib.hid hx
      have HAr := Lib.hid ((Ha.out.1.below M.out.2).more M.out.2.size)
      obtain ⟨b1, o1, rfl, hb1, c10, c11, c12⟩ := HAr.out.at_ hx
      have hz1 : b1 < w.heap.size := by
        obtain ⟨b9, o9, e9, z9, _⟩ := Ha.out.1.at_ hx
        injection e9 with e9
        injection e9 with e9 _ _
        rw [e9]; exact z9
      have hwr := M.out.2.size
      have hlen := Lib.hid (Ha.out.2.2.2.len (i + 1) (by omega))
      have hle2 : (putTs types (t.take i)).length + (putN types x).length ≤ 30000 := by
        have h1 := hlen.out
        rw [putTs_step hx, List.length_append] at h1
        omega
      generalize hys : putTs types (t.take i) = ys at *
      have Hys := Lib.hid hys
      have hn' := hn.out
      subst hn'
      cases h8 : (x.k == 8)
      · have H8 := Lib.hid h8
        rw [putN_not H8.out] at hle2
        simp only [List.length_singleton] at hle2
        have hnew := tyA_newL wr [x] #[.int .i64 x.k, .string x.s, .int .i64 x.n] rfl
        have HNW := Lib.hid (And.intro hnew (OwnL.alloc M.out.1 (.cells #[.int .i64 x.k, .string x.s, .int .i64 x.n] 48)))
        clear hx hnew hn hys
        go_wp2_with (at_builtin; refine wpList_appN rfl (.tmp 33) (.tmp 38) rfl w.heap.size (l := ys) rfl HNW.out.2 (l2 := [x]) rfl HNW.out.1 (by simp; omega) (by simp; omega) ?_; intro A2 cap2 w3 hown3 hg3 _; have B3 := Lib.hid (ext_app (ext_trans M.out.2 (ext_alloc (Below.refl _ _) _)) hg3 (fun k hk => (OwnL.block HNW.out.2 k hk).1)); have d11 := (B3.out.cell (p := ⟨b1, o1 + i * 3 + 1, none⟩) hz1).trans ((M.out.2.cell (p := ⟨b1, o1 + i * 3 + 1, none⟩) hz1).symm.trans c11); have hb13 := Nat.lt_of_lt_of_le hz1 B3.out.size; obtain ⟨g, rfl, hbg, hg, e1, e2, hown4, hgr4⟩ := OwnL.setL hown3 (j := ys.length) (x := x) (by simp) x.s; have K4 := Lib.hid (And.intro hown4 (And.intro hgr4 hbg)); clear hown3 hg3 hown4 hgr4)
        go_roundw
        case rel =>
          refine ⟨_, _, cap2, i + 1, rfl, by go_num, hp, ?_, Lib.hid (by rw [putTs_step Hx.out, Hys.out, putN_not H8.out, List.length_append]; rfl), Lib.hid ⟨?_, B3.out.grown K4.out.2.1 B3.out.size (fun q hq => by cases hq; exact K4.out.2.2)⟩⟩
          · omega
          · have h := K4.out.1
            rw [putTs_step Hx.out, Hys.out, putN_not H8.out]
            rw [set_self (by simp)] at h
            exact h
        case measure => simp [intOf]; omega
      · have H8 := Lib.hid h8
        have hnb := Ha.out.2.2.2.nn x (List.mem_of_getElem? hx) (by simpa using h8)
        obtain ⟨j, hj⟩ : ∃ j : Nat, x.n = (j : Int) := ⟨x.n.toNat, by omega⟩
        have hjt : j < types.length := by have := hnb.2; rw [hj] at this; simpa using this
        have hjv : j < vs.length := by rw [hvt.out]; exact hjt
        obtain ⟨v, hvk⟩ := getq_ex hjv
        obtain ⟨T, hT⟩ := getq_ex hjt
        obtain ⟨hvl, hta⟩ := Ha.out.2.2.1.2 j v T hvk hT
        obtain ⟨b2, o2, rfl, hb2, c20⟩ := Ha.out.2.1.slice hvk
        rw [hvl] at c20
        have c20' := (M.out.2.cell (p := ⟨b2, o2 + j, none⟩) hb2).trans c20
        have b2lt : b2 < wr.heap.size := by omega
        have hTne := Ha.out.2.2.2.ne T (List.mem_of_getElem? hT)
        obtain ⟨y, ks, rfl⟩ : ∃ y ks, T = y :: ks := by
          cases T with
          | nil => exact absurd rfl hTne
          | cons y ks => exact ⟨y, ks, rfl⟩
        have hpn := putN_var h8 hj hT
        have hkl : (putN types x).length = ks.length + 1 := by rw [hpn]; rfl
        rw [hkl] at hle2
        have HTA := Lib.hid (hta.below M.out.2)
        have HPN := Lib.hid hpn
        rw [hj] at c12
        clear hx hn hys hvk hT hvl hta c20 hTne hpn hkl hj hnb
        go_wp2_with (at_builtin; refine wpList_appN rfl (.tmp 23) (.tmp 31) rfl w.heap.size (l := ys) rfl M.out.1 (l2 := y :: ks) rfl HTA.out (by simp; omega) (by omega) ?_; intro A2 cap2 w3 hown3 hg3 _; have B3 := Lib.hid (ext_app M.out.2 hg3 (fun k hk => (OwnL.block M.out.1 k hk).1)); have d11 := (B3.out.cell (p := ⟨b1, o1 + i * 3 + 1, none⟩) hz1).trans ((M.out.2.cell (p := ⟨b1, o1 + i * 3 + 1, none⟩) hz1).symm.trans c11); have hb13 := Nat.lt_of_lt_of_le hz1 B3.out.size; obtain ⟨g, rfl, hbg, hg, e1, e2, hown4, hgr4⟩ := OwnL.setL hown3 (j := ys.length) (x := y) (by simp) x.s; have K4 := Lib.hid (And.intro hown4 (And.intro hgr4 hbg)); clear hown3 hg3 hown4 hgr4)
        go_roundw
        case rel =>
          refine ⟨_, _, cap2, i + 1, rfl, by go_num, hp, ?_, Lib.hid (by rw [putTs_step Hx.out, Hys.out, HPN.out, List.length_append]; rfl), Lib.hid ⟨?_, B3.out.grown K4.out.2.1 B3.out.size (fun q hq => by cases hq; exact K4.out.2.2)⟩⟩
          · omega
          · have h := K4.out.1
            rw [putTs_step Hx.out, Hys.out, HPN.out]
            rw [List.set_append_right _ _ (Nat.le_refl _), Nat.sub_self, List.set_cons_zero] at h
            exact h
        case measure => simp [intOf]; omega
    · have hkk : i = t.length := by omega
      subst hkk
      rw [List.take_length] at hn M
      have hn' := hn.out
      subst hn'
      clear hn
      go_wp2_with fail
      go_ret
      exact ⟨A', cap', rfl, M.out.1, M.out.2⟩
end Go.Proofs.Ytblfeokjlecgkaa

/- leavenref07.Plain, walked. -/
namespace Go.Proofs.Ytblfeokjlecgkaa
open Go.RowKit

def plain07B (xs : List Nd) (m : Int) : Bool := fewB xs m && plainB xs
theorem plain07_parts {xs : List Nd} {m : Int} (h : plain07B xs m = true) : (xs.length : Int) ≤ m ∧ rightB xs = true ∧ ∀ x ∈ xs, plN x = true := by
  unfold plain07B at h
  rw [Bool.and_eq_true] at h
  obtain ⟨h1, _, h3⟩ := fewB_parts h.1
  refine ⟨h1, by rw [← right_eq]; exact h3, fun x hx => ?_⟩
  have h4 := h.2
  unfold plainB at h4
  rw [List.all_eq_true] at h4
  have := h4 x hx
  unfold isVarB at this
  unfold plN
  simpa using this

set_option maxRecDepth 100000 in
set_option maxHeartbeats 2000000 in
theorem plain07_any (A : Option Addr) (c : Nat) (xs : List Nd) (m : Int) (w : World) (ha : TyA w w.heap.size A xs) (hl : xs.length ≤ 9223372036854775807) (hs : ∀ x ∈ xs, x.s.size ≤ 9223372036854775807) :
    Calls Try.prog 31 #[.slice A xs.length c, .int .i64 m] w fun e w' => e = .returned (.bool (plain07B xs m)) ∧ Below w.heap.size w w' := by
  have Hs := Lib.hid hs
  clear hs
  by_cases h0 : (xs.length : Int) ≤ m
  · have h0' : ¬ m < (xs.length : Int) := by omega
    have H0 := Lib.hid h0
    clear h0
    go_enter Try.func31, Try.ntmps31
    go_wp2_with fail
    go_loop [5] (fun i => ∃ k : Nat, k ≤ xs.length ∧ i = .int .i64 k ∧ Hid (allFrom shortB xs k = xs.all shortB)) (fun i => xs.length - (intOf i).toNat)
    case atStart => exact ⟨0, Nat.zero_le _, rfl, Lib.hid rfl⟩
    case round =>
      clear h0'
      obtain ⟨k, hk, rfl, hgood⟩ := hrel
      by_cases hp : k < xs.length
      · obtain ⟨x, hx⟩ := getq_ex hp
        have hstep := Lib.hid (allFrom_step (p := shortB) hx)
        have hxs := Hs.out x (List.mem_of_getElem? hx)
        obtain ⟨b1, o1, rfl, hb1, c10, c11, c12⟩ := ha.at_ hx
        clear hx
        by_cases h100 : x.s.size ≤ 100
        · have h100' : ¬ (100 : Int) < (x.s.size : Int) := by omega
          have H := Lib.hid h100
          clear h100
          go_wp2_with fail
          go_round
          case rel => exact ⟨k + 1, hp, by go_num, Lib.hid (by rw [← hgood.out, hstep.out]; simp [shortB, H.out])⟩
          case measure => simp [intOf]; omega
        · have h100' : (100 : Int) < (x.s.size : Int) := by omega
          have H := Lib.hid h100
          clear h100
          go_wp2_with fail
          go_ret
          exact ⟨ret_bool (by
            have e : xs.all shortB = false := by rw [← hgood.out, hstep.out]; simp [shortB, H.out]
            unfold plain07B fewB; rw [e]; simp), Below.refl _ _⟩
      · have hend := Lib.hid (allFrom_end (p := shortB) hp)
        go_wp2_with fail
        refine (rRight_any A c xs _ ha hl Hs.out).mono ?_
        rintro e w1 ⟨rfl, hb⟩
        have B1 := Lib.hid hb
        have T1 := Lib.hid ((ha.below hb).more hb.size)
        clear hb
        cases hr : rRightB xs with
        | false =>
          have HR := Lib.hid hr
          clear hr
          go_wp2_with fail
          go_ret
          exact ⟨ret_bool (by unfold plain07B fewB; rw [HR.out]; simp), B1.out⟩
        | true =>
          have HR := Lib.hid hr
          clear hr
          go_wp2_with fail
          refine (rPlain_any A c w1.heap.size xs w1 T1.out hl).mono ?_
          rintro e w2 ⟨rfl, rfl⟩
          go_wp2_with fail
          go_ret
          exact ⟨ret_bool (by
            have e : xs.all shortB = true := by rw [← hgood.out, hend.out]
            unfold plain07B fewB; rw [e, HR.out, decide_eq_true H0.out]; simp), B1.out⟩
  · have h0' : m < (xs.length : Int) := by omega
    have H0 := Lib.hid h0
    clear h0
    go_enter Try.func31, Try.ntmps31
    go_wp2_with fail
    go_ret
    exact ⟨ret_bool (by unfold plain07B fewB; rw [decide_eq_false (by have := H0.out; omega)]; rfl), Below.refl _ _⟩
end Go.Proofs.Ytblfeokjlecgkaa

/- leavenref07.Field, walked. -/
namespace Go.Proofs.Ytblfeokjlecgkaa
open Go.RowKit

def fieldL (t : List Nd) (l : Lb) : Option (List Nd) := if (headNd t).k = 5 then none else (kidsL t).find? fun z => decide ((headNd z).s = l)
def FieldPost (r : Option (List Nd)) (w : World) (e : Ending) (w' : World) : Prop := Below w.heap.size w w' ∧ match r with
  | none => e = .returned (.tuple #[.slice none 0 0, .int .i64 9])
  | some z => ∃ A c, e = .returned (.tuple #[.slice A (bareN z).length c, .int .i64 0]) ∧ TyA w' w'.heap.size A (bareN z) ∧ (bareN z).length ≤ c
theorem find_step {l : List (List Nd)} {p : List Nd → Bool} {i : Nat} {z : List Nd} (h : l[i]? = some z) (hp : p z = false) : (l.drop i).find? p = (l.drop (i + 1)).find? p := by
  rw [drop_cons h, List.find?_cons_of_neg (by simp [hp])]
theorem find_hit {l : List (List Nd)} {p : List Nd → Bool} {i : Nat} {z : List Nd} (h : l[i]? = some z) (hp : p z = true) : (l.drop i).find? p = some z := by
  rw [drop_cons h, List.find?_cons_of_pos (by simp [hp])]

set_option maxRecDepth 100000 in
set_option maxHeartbeats 4000000 in
theorem field_any (A : Option Addr) (c : Nat) (t : List Nd) (l : Lb) (w : World) (ha : TyA w w.heap.size A t) (ht : TrW t) (hl : t.length ≤ 100000) (hc : t.length ≤ c) (h0 : (headNd t).k ≠ 0) :
    Calls Try.prog 38 #[.slice A t.length c, .string l] w (FieldPost (fieldL t l) w) := by
  have hx : t[0]? = some (headNd t) := by
    have := ht.fo.pos
    cases t with
    | nil => simp at this
    | cons x ks => rfl
  have hk := Lib.hid (kids07_any A c t w ha ht hl hc)
  have h50 := ht.fifty
  have p1 := getq_lt hx
  obtain ⟨b1, o1, rfl, hb1, c10, _, _⟩ := ha.at_ hx
  simp only [Nat.zero_mul, Nat.add_zero] at c10
  have hk0 : ((headNd t).k == 0) = false := by rw [beq_eq_false_iff_ne]; exact h0
  obtain ⟨fl, hfl⟩ : ∃ fl, fl = fieldL t l := ⟨_, rfl⟩
  have HF : Hid (fl = if (headNd t).k = 5 then none else (kidsL t).find? fun z => decide ((headNd z).s = l)) := Lib.hid (by rw [hfl]; rfl)
  rw [← hfl]
  clear ha ht hx h0 hfl
  go_enter Try.func38, Try.ntmps38
  go_wp2_with fail
  refine hk.out.mono ?_
  clear hk
  rintro e w1 ⟨V, cv, vs, L, cl, rfl, r1, s1, l1, q1, hb⟩
  have G := Lib.hid (And.intro r1 (And.intro s1 (And.intro l1 (And.intro q1 hb))))
  have d10 := (hb.cell (p := ⟨b1, o1, none⟩) hb1).trans c10
  have hbw : b1 < w1.heap.size := Nat.lt_of_lt_of_le hb1 hb.size
  have hvl : Hid (vs.length = (kidsL t).length) := Lib.hid (by rw [s1.1, List.length_map])
  have hv50 : vs.length ≤ 50 := by rw [hvl.out]; exact h50
  clear r1 s1 l1 q1 hb c10 h50
  have hz : ((kidsL t).length : Int) = (vs.length : Int) := by rw [hvl.out]
  obtain ⟨kl, hkl⟩ : ∃ kl, kl = (kidsL t).length := ⟨_, rfl⟩
  rw [← hkl] at hz ⊢
  have HKL := Lib.hid hkl
  clear hz hkl
  cases h5 : ((headNd t).k != 5) with
  | false =>
    have HN : Hid (fl = none) := Lib.hid (by rw [HF.out, if_pos (by simpa using h5)])
    by_cases hv0 : 0 < vs.length
    · go_wp2_with fail
      go_loopw [8] (fun s8 wr => s8 = .int .i64 0 ∧ wr = w1) (fun s8 _ => 0)
      case atStart => exact ⟨rfl, rfl⟩
      case round =>
        obtain ⟨rfl, rfl⟩ := hrel
        go_wp2_with fail
        go_ret2
        exact ⟨G.out.2.2.2.2, by rw [HN.out]; rfl⟩
    · go_wp2_with fail
      go_loopw [8] (fun s8 wr => s8 = .int .i64 0 ∧ wr = w1) (fun s8 _ => 0)
      case atStart => exact ⟨rfl, rfl⟩
      case round =>
        obtain ⟨rfl, rfl⟩ := hrel
        go_wp2_with fail
        go_ret2
        exact ⟨G.out.2.2.2.2, by rw [HN.out]; rfl⟩
  | true =>
    have HN : Hid (fl = (kidsL t).find? fun z => decide ((headNd z).s = l)) := Lib.hid (by rw [HF.out, if_neg (by simpa using h5)])
    clear HF
    go_wp2_with fail
    go_loopw [8] (fun s8 wr => ∃ i : Nat, s8 = .int .i64 i ∧ i ≤ vs.length ∧ wr = w1 ∧ Hid (fl = ((kidsL t).drop i).find? fun z => decide ((headNd z).s = l))) (fun s8 _ => vs.length - (intOf s8).toNat)
    case atStart => exact ⟨0, rfl, Nat.zero_le _, rfl, Lib.hid (by rw [List.drop_zero]; exact HN.out)⟩
    case round =>
      obtain ⟨i, rfl, hi, rfl, M⟩ := hrel
      by_cases hp : i < vs.length
      · obtain ⟨z, hz⟩ := getq_ex (l := kidsL t) (i := i) (by rw [← hvl.out]; exact hp)
        obtain ⟨v, hv⟩ := getq_ex hp
        have hpk : i < kl := by rw [HKL.out, ← hvl.out]; exact hp
        obtain ⟨g1, o3, rfl, z1, k1⟩ := ReadL.str G.out.2.2.1 (i := i) (s := (headNd z).s) (by rw [labsT, List.getElem?_map, hz]; rfl)
        obtain ⟨g2, o4, rfl, z2, k2⟩ := ReadL.slice G.out.1 hv
        obtain ⟨e1, t1⟩ := G.out.2.1.2 i v (bareN z) hv (by rw [List.getElem?_map, hz]; rfl)
        have hq := G.out.2.2.2.1 v (List.mem_of_getElem? hv)
        rw [e1] at k2 hq
        have HZ := Lib.hid (And.intro hz (And.intro t1 hq))
        clear hz hv e1 t1 hq
        cases hs : ((headNd z).s.toList == l.toList) with
        | true =>
          have HS : Hid ((headNd z).s = l) := Lib.hid (Classical.byContradiction fun h => by have := str_ne h; unfold bne at this; rw [hs] at this; cases this)
          go_wp2_with fail
          go_ret2
          refine ⟨G.out.2.2.2.2, ?_⟩
          rw [M.out, find_hit HZ.out.1 (decide_eq_true HS.out)]
          exact ⟨_, _, rfl, HZ.out.2.1, HZ.out.2.2⟩
        | false =>
          have HS : Hid ((headNd z).s ≠ l) := Lib.hid (by rintro rfl; simp at hs)
          go_wp2_with fail
          go_roundw
          case rel => exact ⟨i + 1, by go_num, hp, by first | rfl | trivial, Lib.hid (by rw [M.out, find_step HZ.out.1 (decide_eq_false HS.out)])⟩
          case measure => simp [intOf]; omega
      · have HN2 : Hid (fl = none) := Lib.hid (by rw [M.out, List.drop_eq_nil_of_le (by rw [← hvl.out]; omega)]; rfl)
        go_wp2_with fail
        go_ret2
        exact ⟨G.out.2.2.2.2, by rw [HN2.out]; rfl⟩
end Go.Proofs.Ytblfeokjlecgkaa

/- What UnifyOpens asks: plain. -/
namespace Go.Proofs.Ytblfeokjlecgkaa
open Go.RowKit

theorem rowLabel_ne {k : Int} {l : Lb} (h : rowLabelB k l = true) : l ≠ ByteArray.empty := by
  rintro rfl
  unfold rowLabelB wordB tagB at h
  have e : ByteArray.empty.data.toList = [] := rfl
  rw [e] at h
  split at h
  · cases h
  · split at h
    · cases h
    · cases h
theorem ut_k {t : List Nd} (g : GdT t) : (utT t).k = (headNd t).k := by
  cases g with
  | mk x tss ok k9 tr ch row els tl => rw [utT_cons tr]; rfl
theorem ut_n {t : List Nd} (g : GdT t) (h : (headNd t).k ≠ 8) : (utT t).n = 0 := by
  cases g with
  | mk x tss ok k9 tr ch row els tl =>
    rw [utT_cons tr]
    show (if x.k = 8 then x.n else 0) = 0
    exact if_neg h

def opS0 : Kn := (Kn.zero 1).up 2
structure Op1 (U : List Lb) (k : Int) (l0 : Lb) (S1 : Kn) : Prop where
  st : Step opS0 S1 (Cst.opn k l0 0 1).holds
  kg : KG U S1
  m : S1.m + (S1.un : Int) ≤ 100
  ge : 2 ≤ S1.m
  L : ∀ n : Int, n < 1 → S1.L n = none
theorem Op1.ok {U : List Lb} {k : Int} {l0 l1 : Lb} {S1 : Kn} (h : Op1 U k l0 S1) (hk : isRowB k = true) (hl : rowLabelB k l1 = true) (hU : l1 ∈ U) : OpnOk U (S1.up (S1.m + 1)) k l1 0 S1.m :=
  ⟨hk, hl, hU, by omega, ⟨by show (0 : Int) < S1.m + 1; have := h.ge; omega, h.L 0 (by omega)⟩, by have := h.ge; omega, by show S1.m < S1.m + 1; omega, h.kg.inv.new _ (Int.le_refl _)⟩
end Go.Proofs.Ytblfeokjlecgkaa

/- What UnifyLeast asks: plain. -/
namespace Go.Proofs.Ytblfeokjlecgkaa
open Go.RowKit

theorem field_val {t z : List Nd} {l : Lb} (g : GdT t) (hr : isRowB (headNd t).k = true) (hl : l ≠ ByteArray.empty) (h : fieldL t l = some z) : z ∈ kidsL t ∧ GdT z ∧ getF l (utT t).fs = some (utT z) := by
  cases g with
  | mk x tss ok k9 tr ch row els tl =>
    have hr' : isRowB x.k = true := hr
    have hk : kidsL (x :: tss.flatten) = tss := tr.uniq.symm
    have h5 : x.k ≠ 5 := by intro e; rw [e] at hr'; cases hr'
    unfold fieldL at h
    rw [if_neg (show ¬ (headNd (x :: tss.flatten)).k = 5 from h5), hk] at h
    have hz := List.mem_of_find?_eq_some h
    have hf := List.find?_some h
    have he : (headNd z).s = l := of_decide_eq_true hf
    have hz' : z ∈ lOf tss := by
      rw [← lOf_tOf tss] at hz
      rcases List.mem_append.1 hz with hz | hz
      · exact hz
      · obtain ⟨n, _, e⟩ := tl z hz
        rw [e] at he
        exact absurd he.symm hl
    refine ⟨by rw [hk]; exact hz, ch z hz', ?_⟩
    rw [utT_cons tr]
    show getF l ((labsU x.k (lOf tss)).zip ((lOf tss).map utT)) = _
    have e1 : labsU x.k (lOf tss) = labsT (lOf tss) := if_neg h5
    rw [e1]
    obtain ⟨i, hi⟩ := List.mem_iff_getElem?.1 hz'
    have hnd : (labsT (lOf tss)).Nodup := (row hr').1.imp fun h e => by
      rw [e, ltB_irrefl] at h
      cases h
    exact getF_zip (by simp [labsT]) hnd (i := i) (by rw [labsT, List.getElem?_map, hi, ← he]; rfl) (by rw [List.getElem?_map, hi]; rfl)
theorem bareN_ut {z : List Nd} (g : GdT z) : utT (bareN z) = utT z ∧ GdT (bareN z) := by
  cases z with
  | nil => exact absurd rfl g.ne
  | cons y ks =>
    obtain ⟨a, b⟩ := g.relabel ByteArray.empty
    exact ⟨b, a⟩
theorem same_static {a b : List Nd} (ha : ∀ x ∈ a, x.k ≠ 0) (hb : ∀ x ∈ b, x.k ≠ 0) (h : sameB a b = true) : a = b := by
  have key : ∀ t : List Nd, (∀ x ∈ t, x.k ≠ 0) → t.map Nd.bare = t := fun t ht =>
    (List.map_congr_left fun x hx => show Nd.bare x = x by unfold Nd.bare; rw [if_neg (ht x hx)]).trans (List.map_id _)
  unfold sameB at h
  have := of_decide_eq_true h
  rwa [key a ha, key b hb] at this
def holdsB (types : List (List Nd)) (x : Stp) : Bool :=
  if x.l.size = 0 then agG (putTs types x.a).length (putTs types x.a) (putTs types x.b)
  else (((headNd (types[x.n.toNat]?.getD [])).k == x.k) && (fieldL (types[x.n.toNat]?.getD []) x.l).isSome) &&
    sameB (bareN ((fieldL (types[x.n.toNat]?.getD []) x.l).getD [])) (types[x.m.toNat]?.getD [])
theorem holds_of {types : List (List Nd)} (T : TypesOk types) {U : List Lb} {x : Stp} (g : GoodS U (types.length : Int) x) (ha : x.l.size = 0 → ∀ y ∈ x.a, toldN types.length y = true) (hb : x.l.size = 0 → ∀ y ∈ x.b, toldN types.length y = true) (h : holdsB types x = true) : x.cst.holds (putVa types) := by
  unfold holdsB at h
  by_cases hz : x.l.size = 0
  · rw [if_pos hz] at h
    obtain ⟨g1, g2, _, _⟩ := g.pair hz
    have e : x.cst = .pair (utT x.a) (utT x.b) := if_pos hz
    rw [e]
    exact (put_holds T g1 g2 (ha hz) (hb hz)).1 h
  · rw [if_neg hz] at h
    have hc := g.c
    have e : x.cst = .opn x.k x.l x.n x.m := if_neg hz
    rw [e] at hc ⊢
    obtain ⟨c1, c2, c3, c4, c5, c6, c7⟩ := hc
    rw [Bool.and_eq_true, Bool.and_eq_true] at h
    obtain ⟨⟨h1, h2⟩, h3⟩ := h
    obtain ⟨Tn, hTn⟩ := getq_ex (show x.n.toNat < types.length by omega)
    obtain ⟨Tm, hTm⟩ := getq_ex (show x.m.toNat < types.length by omega)
    rw [hTn, Option.getD_some] at h1 h2 h3
    rw [hTm, Option.getD_some] at h3
    have hk : (headNd Tn).k = x.k := by simpa using h1
    obtain ⟨z, hz2⟩ := Option.isSome_iff_exists.1 h2
    rw [hz2, Option.getD_some] at h3
    have gn := T.gd Tn (List.mem_of_getElem? hTn)
    have hr : isRowB (headNd Tn).k = true := by rw [hk]; exact c1
    obtain ⟨hzm, gz, hget⟩ := field_val gn hr (rowLabel_ne c2) hz2
    have hsz : ∀ y ∈ bareN z, y.k ≠ 0 := by
      intro y hy
      cases z with
      | nil => cases hy
      | cons y0 ks =>
        have hin : ∀ q ∈ y0 :: ks, q ∈ Tn := fun q hq => by
          cases gn with
          | mk x0 tss ok k9 tr ch row els tl =>
            have hkk : kidsL (x0 :: tss.flatten) = tss := tr.uniq.symm
            rw [hkk] at hzm
            exact List.mem_cons_of_mem _ (List.mem_flatten.2 ⟨_, hzm, hq⟩)
        rcases List.mem_cons.1 hy with rfl | hy
        · exact T.st Tn (List.mem_of_getElem? hTn) y0 (hin _ (by simp))
        · exact T.st Tn (List.mem_of_getElem? hTn) y (hin _ (by simp [hy]))
    have heq := same_static hsz (T.st Tm (List.mem_of_getElem? hTm)) h3
    have k8 : (headNd Tn).k ≠ 8 := by rw [hk]; exact (isRow_k c1).1
    have hut : utT Tn = .mk x.k 0 (utT Tn).fs (utT Tn).tl := by
      have h1 := ut_k gn
      have h2 := ut_n gn k8
      generalize utT Tn = q at h1 h2 ⊢
      obtain ⟨a, b, c, d⟩ := q
      have h1 : a = (headNd Tn).k := h1
      have h2 : b = 0 := h2
      rw [h1, h2, hk]
      rfl
    refine ⟨(utT Tn).fs, (utT Tn).tl, ?_, ?_⟩
    · rw [putVa_at (by omega) hTn]
      exact hut
    · rw [putVa_at (by omega) hTm, hget, ← heq, (bareN_ut gz).1]
end Go.Proofs.Ytblfeokjlecgkaa
