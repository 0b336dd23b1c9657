/- Laid together by a tool from the texts of this seat: RightEq Print Pure PEnd Concat. Conditions: each theorem's own. -/
import Derived.Test.YtmjdhfbnmmdjiaaGreatK03
import Derived.Lib.ItoaNum
import Derived.Lib.ItoaLen
import Derived.Test.YtmjdhfbnmmdjiaaGreatShelf
/- The program's Right and the document's are one: plain lists. -/
namespace Go.Proofs.YtmjdhfbnmmdjiaaGreat

theorem bless_eq : ∀ (x y : List UInt8), Op.bytesLess x y = decide (x < y)
  | [], [] => by simp [Op.bytesLess]
  | _ :: _, [] => by simp [Op.bytesLess]
  | [], _ :: _ => by simp [Op.bytesLess]
  | a :: x, b :: y => by
    rw [Op.bytesLess, bless_eq x y]
    simp only [List.cons_lt_cons_iff]
    by_cases h1 : a < b <;> by_cases h2 : a = b <;> by_cases h3 : x < y <;> simp [h1, h2, h3]

theorem leS_not (a b : ByteArray) : leS a b = !Op.bytesLess b.toList a.toList := by
  unfold leS
  rw [bless_eq, bless_eq, Bool.eq_iff_iff]
  simp only [Bool.or_eq_true, decide_eq_true_eq, beq_iff_eq, Bool.not_eq_true', decide_eq_false_iff_not]
  rw [List.not_lt, List.le_iff_lt_or_eq]

theorem label_pos {k : Int} {s : ByteArray} (hr : isRowB k = true) (hl : labelB k s = true) : s.toList ≠ [] := by
  intro he
  rw [ByteArray.toList_eq] at he
  simp only [isRowB, Bool.or_eq_true, beq_iff_eq] at hr
  rcases hr with rfl | rfl
  · simp [labelB, wordB, he, fitsL] at hl
  · simp [labelB, tagB, he, fitsL] at hl

theorem labK_childOk {x y p : Nd} {k n : Nat} {last : ByteArray} (hx : okNode x.k x.n = true) (hn : n = manyN x) (hk : k < n) (h0 : k = 0 → last = ByteArray.empty) (hp : 0 < k → p.s = last) :
    labK x y p k n = childOk x k last y := by
  have hm := manyN_ok hx
  unfold labK childOk
  by_cases h9 : y.k = 9
  · rw [if_pos h9, if_pos h9]
    cases hr : isRowB x.k
    · simp
    · have hmn : many x.k x.n = x.n := by
        unfold many
        rw [if_neg (by rintro h5; rw [h5] at hr; simp [isRowB] at hr), if_pos hr]
      rw [hmn] at hm
      have : decide (k + 1 = n) = !decide ((k : Int) < x.n - 1) := by
        rw [Bool.eq_iff_iff]
        simp
        omega
      rw [this]
  · rw [if_neg h9, if_neg h9]
    cases hl : labelB x.k y.s
    · simp
    · cases hr : isRowB x.k
      · simp
      · simp only [Bool.true_and]
        congr 1
        rw [leS_not]
        by_cases hk0 : 0 < k
        · rw [hp hk0]
          simp [hk0]
        · have hk0' : k = 0 := by omega
          rw [h0 hk0']
          have hpos := label_pos hr hl
          have he : ByteArray.empty.toList = [] := by rw [ByteArray.toList_eq]; rfl
          rw [he]
          cases hy : y.s.toList with
          | nil => exact absurd hy hpos
          | cons c cs => simp [hk0', Op.bytesLess]

/-- The document's End over a forest that is there. -/
theorem endGo_fo : ∀ (ps : List Nd) (n p : Nat) (ys : List Nd), okAll ps → Fo (n + 1) ps → endGo (ps ++ ys) ((n + 1 : Nat) : Int) p = p + ps.length := by
  intro ps
  induction ps with
  | nil => intro n p ys _ h; cases h
  | cons x ps ih =>
    intro n p ys hok h
    have h' : skip ps (n + manyN x) = some [] := h
    have hm := manyN_ok (hok x (by simp))
    simp only [List.cons_append, endGo]
    rw [hm]
    by_cases hz : n + manyN x = 0
    · rw [if_pos (by omega)]
      rw [hz, skip_zero] at h'
      injection h' with h'
      subst h'
      simp
    · rw [if_neg (by omega)]
      obtain ⟨m, hm'⟩ : ∃ m, n + manyN x = m + 1 := ⟨n + manyN x - 1, by omega⟩
      rw [hm'] at h'
      have := ih m (p + 1) ys (fun y hy => hok y (by simp [hy])) h'
      rw [show (((n + 1 : Nat) : Int) - 1 + (manyN x : Int)) = ((m + 1 : Nat) : Int) by omega, this]
      simp only [List.length_cons]
      omega

theorem endGo_one {T ts rest : List Nd} {i : Nat} (h : T.drop i = ts ++ rest) (hok : okAll ts) (hf : Fo 1 ts) : endGo (T.drop i) 1 i = i + ts.length := by
  rw [h]
  exact endGo_fo ts 0 i rest hok hf

theorem drop_more {T ts rest : List Nd} {i : Nat} (h : T.drop i = ts ++ rest) : T.drop (i + ts.length) = rest := by
  rw [← List.drop_drop, h, List.drop_left]

theorem drop_lt {T ts rest : List Nd} {i : Nat} (h : T.drop i = ts ++ rest) (hp : 0 < ts.length) : i < T.length := by
  have := congrArg List.length h
  rw [List.length_drop, List.length_append] at this
  omega

theorem getq_of_drop {T rest : List Nd} {i : Nat} {x : Nd} (h : T.drop i = x :: rest) : T[i]? = some x := by
  have : (T.drop i)[0]? = some x := by rw [h]; rfl
  rwa [List.getElem?_drop, Nat.add_zero] at this

/-- Behind a tree that is through. -/
def closeTop : List Int → List Int
  | [] => []
  | b :: r => settle r (b - 1)

theorem settle_nat (st : List Int) (n : Nat) : settle st (n : Int) = if n = 0 then closeTop st else (n : Int) :: st := by
  cases st with
  | nil =>
    simp only [settle, closeTop]
    by_cases h : n = 0
    · subst h; simp
    · rw [if_neg (by omega), if_neg h]
  | cons b r =>
    simp only [settle, closeTop]
    by_cases h : n = 0
    · subst h; simp
    · rw [if_neg (by omega), if_neg h]

/-- What the program's look at a tree has shown. -/
structure TreeOk (T : List Nd) (f i j : Nat) (ts rest : List Nd) : Prop where
  at_ : T.drop i = ts ++ rest
  ej : j = i + ts.length
  fo : Fo 1 ts
  ok : okAll ts
  lab : ∀ p, i ≤ p → p < j → labelledB T p = true
  sh : ∀ st : List Int, st.length + f = 100 → shallowGo (T.drop i) st = shallowGo rest (closeTop st)

theorem kidsP_sound {T : List Nd} {f : Nat} (ih : ∀ i j, treeP T f i = some j → ∃ ts rest, TreeOk T f i j ts rest) (x : Nd) (hx : okNode x.k x.n = true) :
    ∀ (todo k : Nat) (last : ByteArray) (at_ j : Nat), kidsP (treeP T f) T x todo k last at_ = some j → k + todo = manyN x → (k = 0 → last = ByteArray.empty) →
      ∃ ks rest, T.drop at_ = ks ++ rest ∧ j = at_ + ks.length ∧ Fo todo ks ∧ okAll ks ∧ (∀ p, at_ ≤ p → p < j → labelledB T p = true) ∧
        (∀ st : List Int, st.length + (f + 1) = 100 → shallowGo (T.drop at_) (settle st (todo : Int)) = shallowGo rest (closeTop st)) ∧
        (kidsGo T todo at_).length = todo ∧
        (∀ pre : List Nat, pre.length = k → (0 < k → (ndAt T (pre ++ kidsGo T todo at_) (k - 1)).s = last) → labFrom T x (pre ++ kidsGo T todo at_) todo k = true) := by
  intro todo
  induction todo with
  | zero =>
    intro k last at_ j h hk h0
    simp only [kidsP, Option.some.injEq] at h
    subst h
    refine ⟨[], T.drop at_, rfl, rfl, rfl, (fun x hx => by cases hx), (fun p h1 h2 => by omega), fun st _ => ?_, rfl, fun pre _ _ => rfl⟩
    rw [settle_nat, if_pos rfl]
  | succ todo iht =>
    intro k last at_ j h hk h0
    simp only [kidsP] at h
    split at h
    · cases h
    · rename_i y hy
      split at h
      · rename_i hc
        split at h
        · cases h
        · rename_i at' htr
          obtain ⟨ts, rest, ht⟩ := ih _ _ htr
          have hjt := ht.ej
          subst hjt
          obtain ⟨ks, rest', h1, h2, h3, h4, h5, h6, h7, h8⟩ := iht (k + 1) y.s _ j h (by omega) (fun h => by omega)
          have hrest : rest = ks ++ rest' := by rw [← h1, drop_more ht.at_]
          have hlt : at_ < T.length := getq_lt hy
          have hend := endGo_one ht.at_ ht.ok ht.fo
          have hkg : kidsGo T (todo + 1) at_ = at_ :: kidsGo T todo (at_ + ts.length) := by rw [kidsGo_step hlt, hend]
          refine ⟨ts ++ ks, rest', by rw [ht.at_, hrest, List.append_assoc], by rw [h2, List.length_append]; omega, ?_, ?_, ?_, ?_, ?_, ?_⟩
          · rw [Nat.add_comm]; exact ht.fo.append h3
          · intro z hz
            rcases List.mem_append.1 hz with hz | hz
            · exact ht.ok z hz
            · exact h4 z hz
          · intro p hp1 hp2
            by_cases hp : p < at_ + ts.length
            · exact ht.lab p hp1 hp
            · exact h5 p (by omega) hp2
          · intro st hst
            rw [settle_nat, if_neg (by omega), ht.sh (((todo + 1 : Nat) : Int) :: st) (by simp; omega), ← h6 st hst, h1, hrest]
            simp only [closeTop]
            congr 2
            omega
          · rw [hkg]; simp [h7]
          · intro pre hpre hprev
            rw [hkg] at hprev ⊢
            have hlen : (pre ++ at_ :: kidsGo T todo (at_ + ts.length)).length = manyN x := by simp [h7]; omega
            have hnd : ndAt T (pre ++ at_ :: kidsGo T todo (at_ + ts.length)) k = y := by
              unfold ndAt
              rw [List.getElem?_append_right (by omega)]
              simp [hpre, hy]
            have hrec := h8 (pre ++ [at_]) (by simp [hpre]) (fun _ => by
              rw [List.append_assoc, List.singleton_append, Nat.add_sub_cancel, hnd])
            rw [List.append_assoc, List.singleton_append] at hrec
            simp only [labFrom]
            rw [hrec, hnd, hlen, labK_childOk hx rfl (by omega) h0 hprev, hc]
            rfl
      · cases h

theorem treeP_sound {T : List Nd} : ∀ (f i j : Nat), treeP T f i = some j → ∃ ts rest, TreeOk T f i j ts rest := by
  intro f
  induction f with
  | zero => intro i j h; cases h
  | succ f ih =>
    intro i j h
    simp only [treeP] at h
    split at h
    · cases h
    · rename_i x hx
      split at h
      · rename_i hok
        have hmn : (many x.k x.n).toNat = manyN x := rfl
        rw [hmn] at h
        obtain ⟨ks, rest, h1, h2, h3, h4, h5, h6, h7, h8⟩ := kidsP_sound ih x hok (manyN x) 0 ByteArray.empty (i + 1) j h (by omega) (fun _ => rfl)
        have hd : T.drop i = x :: T.drop (i + 1) := drop_cons hx
        refine ⟨x :: ks, rest, ⟨by rw [hd, h1]; rfl, by rw [h2]; simp; omega, ?_, ?_, ?_, ?_⟩⟩
        · have := Fo.cons (n := 0) h3 Fo.zero
          rwa [List.append_nil] at this
        · intro z hz
          rcases List.mem_cons.1 hz with rfl | hz
          · exact hok
          · exact h4 z hz
        · intro p hp1 hp2
          by_cases hp : p = i
          · subst hp
            unfold labelledB
            rw [hx]
            have hkr : kidsR T (p : Int) = kidsGo T (manyN x) (p + 1) := by
              unfold kidsR
              rw [if_neg (by omega)]
              simp [hx, manyN]
            simp only [hkr]
            rw [h7, manyN_ok hok]
            have := h8 [] rfl (fun h => by omega)
            rw [List.nil_append] at this
            rw [this]
            simp
          · exact h5 p (by omega) hp2
        · intro st hst
          rw [hd]
          simp only [shallowGo, settleL]
          rw [if_neg (by omega), manyN_ok hok]
          exact h6 st hst
      · cases h

/-- Where all labels are right, each node has all its children. -/
theorem all_trees {T : List Nd} (hok : okAll T) (hlab : ∀ p, p < T.length → labelledB T p = true) :
    ∀ (n i : Nat), T.length - i ≤ n → i < T.length → ∃ ts rest, T.drop i = ts ++ rest ∧ Fo 1 ts ∧ okAll ts := by
  intro n
  induction n with
  | zero => intro i h1 h2; omega
  | succ n ih =>
    intro i h1 h2
    obtain ⟨x, hx⟩ := getq_ex h2
    have hl := hlab i h2
    unfold labelledB at hl
    rw [hx] at hl
    have hkr : kidsR T (i : Int) = kidsGo T (manyN x) (i + 1) := by
      unfold kidsR
      rw [if_neg (by omega)]
      simp [hx, manyN]
    simp only [hkr, Bool.and_eq_true, decide_eq_true_eq] at hl
    have hlen := hl.1
    rw [manyN_ok (hok x (mem_of_getq hx))] at hlen
    have key : ∀ (todo at_ : Nat), i < at_ → (kidsGo T todo at_).length = todo → ∃ ks rest, T.drop at_ = ks ++ rest ∧ Fo todo ks ∧ okAll ks := by
      intro todo
      induction todo with
      | zero => intro at_ _ _; exact ⟨[], _, rfl, rfl, fun z hz => by cases hz⟩
      | succ todo iht =>
        intro at_ ha hk
        by_cases hlt : at_ < T.length
        · obtain ⟨ts, rest, h3, h4, h5⟩ := ih at_ (by omega) hlt
          rw [kidsGo_step hlt, endGo_one h3 h5 h4] at hk
          obtain ⟨ks, rest', h6, h7, h8⟩ := iht (at_ + ts.length) (by omega) (by simpa using hk)
          rw [drop_more h3] at h6
          refine ⟨ts ++ ks, rest', by rw [h3, h6, List.append_assoc], by rw [Nat.add_comm]; exact h4.append h7, ?_⟩
          intro z hz
          rcases List.mem_append.1 hz with hz | hz
          · exact h5 z hz
          · exact h8 z hz
        · rw [kidsGo_out hlt] at hk
          cases hk
    obtain ⟨ks, rest, h3, h4, h5⟩ := key (manyN x) (i + 1) (by omega) (by omega)
    refine ⟨x :: ks, rest, by rw [drop_cons hx, h3]; rfl, ?_, ?_⟩
    · have := Fo.cons (n := 0) h4 Fo.zero
      rwa [List.append_nil] at this
    · intro z hz
      rcases List.mem_cons.1 hz with rfl | hz
      · exact hok _ (mem_of_getq hx)
      · exact h5 z hz

theorem okAll_left {a b : List Nd} (h : okAll (a ++ b)) : okAll a := fun x hx => h x (by simp [hx])
theorem okAll_right {a b : List Nd} (h : okAll (a ++ b)) : okAll b := fun x hx => h x (by simp [hx])

theorem kidsP_full {T : List Nd} {f : Nat}
    (ih : ∀ (i : Nat) (ts rest : List Nd) (st : List Int), T.drop i = ts ++ rest → Fo 1 ts → st.length + f = 100 → treeP T f i = some (i + ts.length) ∨ shallowGo (T.drop i) st = false) (x : Nd) (hx : okNode x.k x.n = true) :
    ∀ (todo k : Nat) (last : ByteArray) (at_ : Nat) (ks rest : List Nd) (pre : List Nat) (st : List Int), T.drop at_ = ks ++ rest → Fo todo ks → okAll ks → k + todo = manyN x → (k = 0 → last = ByteArray.empty) → pre.length = k →
      (0 < k → (ndAt T (pre ++ kidsGo T todo at_) (k - 1)).s = last) → labFrom T x (pre ++ kidsGo T todo at_) todo k = true → st.length + (f + 1) = 100 →
      kidsP (treeP T f) T x todo k last at_ = some (at_ + ks.length) ∨ shallowGo (T.drop at_) (settle st (todo : Int)) = false := by
  intro todo
  induction todo with
  | zero =>
    intro k last at_ ks rest pre st hd hf _ _ _ _ _ _ _
    have := hf.of_zero
    subst this
    exact .inl rfl
  | succ todo iht =>
    intro k last at_ ks rest pre st hd hf hokk hk h0 hpre hprev hlab hst
    obtain ⟨ts, ks', rfl, hts, hks⟩ := hf.first
    have hd' : T.drop at_ = ts ++ (ks' ++ rest) := by rw [hd, List.append_assoc]
    have hlt : at_ < T.length := drop_lt hd' hts.pos
    obtain ⟨y, hy⟩ := getq_ex hlt
    have hend := endGo_one hd' (okAll_left hokk) hts
    have hkg : kidsGo T (todo + 1) at_ = at_ :: kidsGo T todo (at_ + ts.length) := by rw [kidsGo_step hlt, hend]
    rw [hkg] at hprev hlab
    have hnd : ndAt T (pre ++ at_ :: kidsGo T todo (at_ + ts.length)) k = y := by
      unfold ndAt
      rw [List.getElem?_append_right (by omega)]
      simp [hpre, hy]
    have hglen : (kidsGo T todo (at_ + ts.length)).length = todo := by
      have key : ∀ (todo at_ : Nat) (ks rest : List Nd), T.drop at_ = ks ++ rest → Fo todo ks → okAll ks → (kidsGo T todo at_).length = todo := by
        intro todo
        induction todo with
        | zero => intro _ _ _ _ _ _; rfl
        | succ todo ih2 =>
          intro at_ ks rest hd hf hok2
          obtain ⟨t1, k1, rfl, ht1, hk1⟩ := hf.first
          have hd2 : T.drop at_ = t1 ++ (k1 ++ rest) := by rw [hd, List.append_assoc]
          rw [kidsGo_step (drop_lt hd2 ht1.pos), endGo_one hd2 (okAll_left hok2) ht1]
          simp [ih2 _ k1 rest (drop_more hd2) hk1 (okAll_right hok2)]
      exact key todo _ ks' rest (drop_more hd') hks (okAll_right hokk)
    have hlen : (pre ++ at_ :: kidsGo T todo (at_ + ts.length)).length = manyN x := by simp [hglen]; omega
    simp only [labFrom, Bool.and_eq_true] at hlab
    obtain ⟨hl1, hl2⟩ := hlab
    rw [hnd, hlen, labK_childOk hx rfl (by omega) h0 hprev] at hl1
    rcases ih at_ ts _ (((todo + 1 : Nat) : Int) :: st) hd' hts (by simp; omega) with hT | hS
    · have hsnd := treeP_sound _ _ _ hT
      obtain ⟨ts2, rest2, ht⟩ := hsnd
      have hsh := ht.sh (((todo + 1 : Nat) : Int) :: st) (by simp; omega)
      have hlen2 : ts2.length = ts.length := by have := ht.ej; omega
      have hrest2 : rest2 = ks' ++ rest := by
        have h1 := ht.at_
        rw [hd'] at h1
        exact (List.append_inj h1 hlen2.symm).2.symm
      have hr := iht (k + 1) y.s (at_ + ts.length) ks' rest (pre ++ [at_]) st (drop_more hd') hks (okAll_right hokk) (by omega) (fun h => by omega) (by simp [hpre]) (fun _ => by
        rw [List.append_assoc, List.singleton_append, Nat.add_sub_cancel, hnd]) (by rw [List.append_assoc, List.singleton_append]; exact hl2) hst
      rcases hr with hr | hr
      · left
        simp only [kidsP, hy]
        rw [if_pos hl1, hT]
        simp only
        rw [show ((k : Int) + 1) = ((k + 1 : Nat) : Int) by omega, hr, List.length_append, Nat.add_assoc]
      · right
        rw [settle_nat, if_neg (by omega), hsh, hrest2, ← drop_more hd']
        simp only [closeTop]
        rw [show (((todo + 1 : Nat) : Int) - 1) = (todo : Int) by omega]
        exact hr
    · right
      rw [settle_nat, if_neg (by omega)]
      exact hS

theorem treeP_full {T : List Nd} (hok : okAll T) (hlab : ∀ p, p < T.length → labelledB T p = true) :
    ∀ (f i : Nat) (ts rest : List Nd) (st : List Int), T.drop i = ts ++ rest → Fo 1 ts → st.length + f = 100 → treeP T f i = some (i + ts.length) ∨ shallowGo (T.drop i) st = false := by
  intro f
  induction f with
  | zero =>
    intro i ts rest st hd hf hst
    right
    have hlt := drop_lt hd hf.pos
    obtain ⟨x, hx⟩ := getq_ex hlt
    rw [drop_cons hx]
    simp only [shallowGo]
    rw [if_pos (by omega)]
  | succ f ih =>
    intro i ts rest st hd hf hst
    have hlt := drop_lt hd hf.pos
    obtain ⟨x, hx⟩ := getq_ex hlt
    have hxok := hok x (mem_of_getq hx)
    match ts, hd, hf with
    | [], hd, hf => cases hf
    | y :: ks0, hd, hf =>
      obtain ⟨ks, rs, rfl, hks, hrs⟩ := hf.uncons
      have := hrs.of_zero
      subst this
      have hxy : x = y := by
        have h1 := drop_cons hx
        rw [hd] at h1
        injection h1 with h1 _
        exact h1.symm
      subst hxy
      rw [List.append_nil] at hd hf ⊢
      have hd1 : T.drop (i + 1) = ks ++ rest := by
        have h1 := drop_cons hx
        rw [hd] at h1
        injection h1 with _ h1
        exact h1.symm
      have hokk : okAll ks := fun z hz => hok z (by
        have : z ∈ T.drop (i + 1) := by rw [hd1]; simp [hz]
        exact List.mem_of_mem_drop this)
      have hl := hlab i hlt
      unfold labelledB at hl
      rw [hx] at hl
      have hkr : kidsR T (i : Int) = kidsGo T (manyN x) (i + 1) := by
        unfold kidsR
        rw [if_neg (by omega)]
        simp [hx, manyN]
      simp only [hkr, Bool.and_eq_true, decide_eq_true_eq] at hl
      have hlen := hl.1
      rw [manyN_ok hxok] at hlen
      have hlen' : (kidsGo T (manyN x) (i + 1)).length = manyN x := by omega
      rw [hlen'] at hl
      have hkp := kidsP_full ih x hxok (manyN x) 0 ByteArray.empty (i + 1) ks rest [] st hd1 hks hokk (by omega) (fun _ => rfl) rfl (fun h => by omega) hl.2 hst
      rcases hkp with hkp | hkp
      · left
        simp only [treeP, hx]
        rw [if_pos hxok]
        have hmn : (many x.k x.n).toNat = manyN x := rfl
        rw [hmn]
        have h0 : ((0 : Nat) : Int) = 0 := rfl
        rw [h0] at hkp
        rw [hkp]
        simp
        omega
      · right
        rw [drop_cons hx]
        simp only [shallowGo, settleL]
        rw [if_neg (by omega), manyN_ok hxok]
        exact hkp

theorem labAll_iff {T : List Nd} : ∀ (d i : Nat), labAll T d i = true ↔ ∀ p, i ≤ p → p < i + d → labelledB T p = true := by
  intro d
  induction d with
  | zero => intro i; simp [labAll]; intro p h1 h2; omega
  | succ d ih =>
    intro i
    simp only [labAll, Bool.and_eq_true, ih]
    constructor
    · rintro ⟨h1, h2⟩ p h3 h4
      by_cases hp : p = i
      · subst hp; exact h1
      · exact h2 p (by omega) (by omega)
    · intro h
      exact ⟨h i (Nat.le_refl _) (by omega), fun p h3 h4 => h p (by omega) (by omega)⟩

/-- The two answers are one. -/
theorem right_eq (T : List Nd) : rRightB T = rightB T := by
  unfold rRightB rightB
  cases hlen : decide (T.length ≤ 10000)
  · simp
  cases hroot : rootOk T
  · simp
  have hpos : 0 < T.length := by
    cases T with
    | nil => cases hroot
    | cons x xs => simp
  simp only [Bool.true_and]
  rw [Bool.eq_iff_iff]
  simp only [Bool.and_eq_true, decide_eq_true_eq]
  constructor
  · rintro ⟨⟨⟨hall, hend⟩, hsh⟩, hlab⟩
    have hok : okAll T := fun x hx => List.all_eq_true.1 hall x hx
    have hlab' : ∀ p, p < T.length → labelledB T p = true := fun p hp => (labAll_iff T.length 0).1 hlab p (by omega) (by omega)
    obtain ⟨ts, rest, hd, hf, hoks⟩ := all_trees hok hlab' T.length 0 (by omega) hpos
    rcases treeP_full hok hlab' 100 0 ts rest [] hd hf rfl with h | h
    · have he := endGo_one hd hoks hf
      have hend2 : endR T ((0 : Nat) : Int) = (T.length : Int) := hend
      rw [endR_nat hpos] at hend2
      rw [h]
      congr 1
      omega
    · rw [List.drop_zero, hsh] at h
      cases h
  · intro h
    obtain ⟨ts, rest, ht⟩ := treeP_sound _ _ _ h
    have hej := ht.ej
    have hd := ht.at_
    rw [List.drop_zero] at hd
    have hl := congrArg List.length hd
    rw [List.length_append] at hl
    have hrest : rest = [] := List.eq_nil_of_length_eq_zero (by omega)
    subst hrest
    rw [List.append_nil] at hd
    refine ⟨⟨⟨?_, ?_⟩, ?_⟩, ?_⟩
    · rw [List.all_eq_true]
      intro x hx
      exact ht.ok x (by rw [← hd]; exact hx)
    · show endR T ((0 : Nat) : Int) = (T.length : Int)
      rw [endR_nat hpos, endGo_one ht.at_ ht.ok ht.fo]
      omega
    · have := ht.sh [] rfl
      rw [List.drop_zero] at this
      rw [this]
      rfl
    · rw [labAll_iff]
      intro p h1 h2
      exact ht.lab p h1 (by omega)
end Go.Proofs.YtmjdhfbnmmdjiaaGreat

/- How types are printed: plain lists of bytes. -/
namespace Go.Proofs.YtmjdhfbnmmdjiaaGreat

def wordT (x : Nd) : List UInt8 :=
  if x.k = 0 then [63] else if x.k = 1 then [105, 110, 116] else if x.k = 2 then [98, 111, 111, 108] else if x.k = 3 then [115, 116, 114, 105, 110, 103] else
  if x.k = 4 then [117, 110, 105, 116] else if x.k = 8 then 39 :: Lib.itoa x.n else 46 :: 46 :: Lib.itoa x.n

/-- What is behind the first tree. -/
def rest1 (xs : List Nd) : List Nd := (skip xs 1).getD []

def headNd (xs : List Nd) : Nd := xs.head?.getD default

/-- The children of a row, so many, the first with sep0 ahead, each other one with sep. -/
def prKids (pr : List Nd → List UInt8) (sep : List UInt8) : Nat → List UInt8 → List Nd → List UInt8
  | 0, _, _ => []
  | d + 1, sep0, ys => sep0 ++ ((if (headNd ys).k = 9 then [] else (headNd ys).s.data.toList ++ [58, 32]) ++ (pr ys ++ prKids pr sep d sep (rest1 ys)))

/-- The first tree of a row of nodes, printed; at most so deep. -/
def prS : Nat → List Nd → List UInt8
  | 0, _ => []
  | _ + 1, [] => []
  | f + 1, x :: ys =>
    if x.k = 5 then (if (headNd ys).k = 5 then 40 :: (prS f ys ++ [41]) else prS f ys) ++ ([32, 45, 62, 32] ++ prS f (rest1 ys))
    else if x.k = 6 then 123 :: (prKids (prS f) [44, 32] (manyN x) [] ys ++ [125])
    else if x.k = 7 then 91 :: (prKids (prS f) [32, 124, 32] (manyN x) [] ys ++ [93])
    else wordT x

theorem rest1_fo {ts rest : List Nd} (h : Fo 1 ts) : rest1 (ts ++ rest) = rest := by
  unfold rest1
  rw [h.pass]
  rfl

theorem head_bytes (s : ByteArray) : s.data.toList.length = s.size := rfl

theorem headNd_drop {T : List Nd} {i : Nat} {x : Nd} (h : T[i]? = some x) : headNd (T.drop i) = x := by
  rw [drop_cons h]; rfl

theorem treeP_get {T : List Nd} {f i j : Nat} (h : treeP T f i = some j) : ∃ x, T[i]? = some x := by
  cases f with
  | zero => cases h
  | succ f =>
    simp only [treeP] at h
    split at h
    · cases h
    · exact ⟨_, by assumption⟩

theorem tree_rest1 {T : List Nd} {f i j : Nat} (h : treeP T f i = some j) : rest1 (T.drop i) = T.drop j := by
  obtain ⟨ts, rest, ht⟩ := treeP_sound _ _ _ h
  rw [ht.at_, rest1_fo ht.fo, ht.ej, drop_more ht.at_]

theorem kidsP_step {tr : Nat → Option Nat} {T : List Nd} {x : Nd} {d at_ j : Nat} {k : Int} {last : ByteArray} (h : kidsP tr T x (d + 1) k last at_ = some j) :
    ∃ y at', T[at_]? = some y ∧ tr at_ = some at' ∧ kidsP tr T x d (k + 1) y.s at' = some j := by
  simp only [kidsP] at h
  split at h
  · cases h
  · rename_i y hy
    split at h
    · split at h
      · cases h
      · rename_i at' hat
        exact ⟨y, at', hy, hat, h⟩
    · cases h

end Go.Proofs.YtmjdhfbnmmdjiaaGreat

/- Trees of nodes: depth, place, printed text (no program in sight). -/
namespace Go.Proofs.YtmjdhfbnmmdjiaaGreat

/-- How deep a search may go hangs on nothing but the tree: as many levels as nodes are enough. -/
theorem kidsP_fuel {T : List Nd} {f g : Nat} (x : Nd) (ih : ∀ i j, treeP T f i = some j → i < j ∧ (j - i ≤ g → treeP T g i = some j)) :
    ∀ (d : Nat) (k : Int) (last : ByteArray) (i j : Nat), kidsP (treeP T f) T x d k last i = some j → i ≤ j ∧ (j - i ≤ g → kidsP (treeP T g) T x d k last i = some j) := by
  intro d
  induction d with
  | zero =>
    intro k last i j h
    simp only [kidsP, Option.some.injEq] at h
    subst h
    exact ⟨Nat.le_refl _, fun _ => rfl⟩
  | succ d ihd =>
    intro k last i j h
    simp only [kidsP] at h ⊢
    split at h
    · cases h
    · rename_i y hy
      split at h
      · rename_i hc
        split at h
        · cases h
        · rename_i at' hat
          obtain ⟨h1, h2⟩ := ih i at' hat
          obtain ⟨h3, h4⟩ := ihd (k + 1) y.s at' j h
          refine ⟨by omega, fun hg => ?_⟩
          simp only [hc, if_true, h2 (by omega)]
          exact h4 (by omega)
      · cases h

theorem treeP_fuel {T : List Nd} : ∀ (f g i j : Nat), treeP T f i = some j → i < j ∧ (j - i ≤ g → treeP T g i = some j) := by
  intro f
  induction f with
  | zero => intro g i j h; cases h
  | succ f ih =>
    intro g i j h
    simp only [treeP] at h
    split at h
    · cases h
    · rename_i x hx
      split at h
      · rename_i hok
        have hle : i + 1 ≤ j := by
          have := (kidsP_fuel (f := f) (g := 0) x (fun i' j' h' => ih 0 i' j' h') _ _ _ _ _ h).1
          exact this
        refine ⟨hle, fun hg => ?_⟩
        match g, hg with
        | 0, hg => omega
        | g + 1, hg =>
          have := (kidsP_fuel (f := f) (g := g) x (fun i' j' h' => ih g i' j' h') _ _ _ _ _ h).2 (by omega)
          simp only [treeP, hx]
          rw [if_pos hok]
          exact this
      · cases h

/-- A type: its root, its tree. -/
theorem right_parts {T : List Nd} (h : rightB T = true) : treeP T 100 0 = some T.length ∧ T.length ≤ 10000 ∧ ∃ x ys, T = x :: ys ∧ x.s = ByteArray.empty ∧ x.k ≠ 9 := by
  unfold rightB at h
  simp only [Bool.and_eq_true, decide_eq_true_eq] at h
  obtain ⟨⟨h1, h2⟩, h3⟩ := h
  refine ⟨h3, h1, ?_⟩
  match T, h2 with
  | x :: ys, h2 =>
    unfold rootOk at h2
    simp at h2
    exact ⟨x, ys, rfl, h2.1, h2.2⟩
end Go.Proofs.YtmjdhfbnmmdjiaaGreat

/- The program's End, walked. -/
namespace Go.Proofs.YtmjdhfbnmmdjiaaGreat
open Go.RowKit

theorem manyN_le {x : Nd} (h : okNode x.k x.n = true) : manyN x ≤ 50 := by
  have h1 := many_bound h
  have h2 := manyN_ok h
  omega

set_option maxRecDepth 100000 in
set_option maxHeartbeats 1000000 in
theorem pEnd_any (A : Option Addr) (c : Nat) (T ts rest : List Nd) (i : Nat) (w : World) (ha : TyA w w.heap.size A T) (hl : T.length ≤ 1000000000) (hd : T.drop i = ts ++ rest) (hok : okAll ts) (hf : Fo 1 ts) :
    Calls Tryz.prog 120 #[.slice A T.length c, .int .i64 (i : Int)] w fun e w' => e = .returned (.int .i64 ((i + ts.length : Nat) : Int)) ∧ Below w.heap.size w w' := by
  have hi : i < T.length := drop_lt hd hf.pos
  have Hd := Lib.hid hd
  have Hok := Lib.hid hok
  have Hf := Lib.hid hf
  clear hd hok hf
  have h0' : (0 : Int) ≤ (i : Int) := by omega
  have h1' : (i : Int) < (T.length : Int) := by omega
  have hd0 : decide ((i : Int) < 0) = false := by simp
  have hd1 : decide (T.length ≤ i) = false := by simp; omega
  go_enter Tryz.func120, Tryz.ntmps120
  go_wp2_with fail
  go_loopw [1, 5] (fun i1 o5 wr => ∃ (p n : Nat) (ps : List Nd), i1 = .int .i64 p ∧ o5 = .int .i64 n ∧ Hid (T.drop p = ps ++ rest ∧ okAll ps ∧ Fo n ps) ∧ p + ps.length = i + ts.length ∧ i ≤ p ∧ p ≤ T.length ∧ n ≤ 1 + 50 * (p - i) ∧ Below w.heap.size w wr)
    (fun i1 _ _ => T.length - (intOf i1).toNat)
  case atStart => exact ⟨i, 1, ts, rfl, rfl, Lib.hid ⟨Hd.out, Hok.out, Hf.out⟩, rfl, Nat.le_refl _, by omega, by omega, Below.refl _ _⟩
  case round =>
    obtain ⟨p, n, ps, rfl, rfl, hgood, hsum, hip, hpl, hnb, hbel⟩ := hrel
    cases n with
    | zero =>
      have hps := hgood.out.2.2.of_zero
      subst hps
      simp at hsum
      subst hsum
      go_wp2_with fail
      go_ret
      exact ⟨rfl, hbel⟩
    | succ n =>
      obtain ⟨x, ys, rfl⟩ : ∃ x ys, ps = x :: ys := by
        cases ps with
        | nil => exact absurd hgood.out.2.2.nil_of (by omega)
        | cons x ys => exact ⟨x, ys, rfl⟩
      obtain ⟨g1, g2, g3⟩ := hgood.out
      have hx := getq_of_drop (rest := ys ++ rest) g1
      have hpl2 := getq_lt hx
      have hm := (manyP_ok (g2 x (by simp))).trans (manyN_ok (g2 x (by simp)))
      have hm50 := manyN_le (g2 x (by simp))
      have hgood2 := Lib.hid (show T.drop (p + 1) = ys ++ rest ∧ okAll ys ∧ Fo (n + manyN x) ys from ⟨by rw [← List.drop_drop, g1]; rfl, fun z hz => g2 z (by simp [hz]), g3⟩)
      have Hm := Lib.hid hm
      obtain ⟨b1, o1, rfl, hb1, c10, c11, c12⟩ := ((ha.below hbel).more hbel.size).at_ hx
      simp only [List.length_cons] at hsum
      clear hx g1 g2 g3 hgood hm
      generalize hM : manyN x = M at *
      clear hM
      go_wp2_with (go_at_call 141; refine (many_any _ _ _ _).mono ?_; rintro e w1 ⟨rfl, hbx⟩; rw [Hm.out])
      go_roundw
      case rel => exact ⟨p + 1, n + M, ys, by go_num, by go_num, hgood2, by omega, by omega, by omega, by omega, ext_trans hbel hbx⟩
      case measure => simp [intOf]; omega
end Go.Proofs.YtmjdhfbnmmdjiaaGreat

/- slices.Grow at nil, slices.Concat, slices.Clone, ty.Arrow. -/
namespace Go.Proofs.YtmjdhfbnmmdjiaaGreat
open Go.RowKit

theorem grow_nil (n : Nat) (hn : n ≤ 100000000000) (w : World) :
    Calls Tryz.prog 137 #[.slice none 0 0, .int .i64 (n : Int)] w fun e w' => ∃ A cap, e = .returned (.slice A 0 cap) ∧ OwnN w' w.heap.size A cap [] ∧ Below w.heap.size w w' := by
  by_cases h0 : n = 0
  · subst h0
    refine (Any8.slices_Grow_room Tryz.growN none 0 0 0 w (Nat.le_refl _) (by omega) (by omega) (by omega)).mono ?_
    rintro e w' ⟨rfl, rfl⟩
    exact ⟨none, 0, rfl, OwnL.nil, Below.refl _ _⟩
  · obtain ⟨i0, hi, hz0, hz1, hz2⟩ := info_parts infoN
    refine (Any8.slices_Grow_grow Tryz.growN i0 _ hi hz0 (by rw [hz1]; decide) none 0 0 n [] w (Nat.le_refl _) (by omega) (by rw [hz2]; omega) (by omega) (by simp) (fun _ => rfl) (by intro a h; cases h)).mono ?_
    rintro e w' ⟨rfl, rfl⟩
    refine ⟨_, _, rfl, ?_, (Below.refl _ _ : Below w.heap.size w w).drew.alloc (by simp) _⟩
    exact World.ownsRow_made w.drew _ _ (Nat.le_refl _) (grownCap_le_maxLen w _ _ _ (by unfold maxLen; omega)) (by
      have := grownCap_ge w (0 + n) 0 49
      rw [Array.size_append, Array.size_append, size_zeroCells, size_zeroCells]
      show 0 + (0 + n - 0) * 3 + (grownCap w (0 + n) 0 49 - (0 + n)) * 3 = grownCap w (0 + n) 0 49 * 3
      omega)

theorem OwnL.lower {α : Type} {e size : Nat} {enc : α → List Value} {w : World} {base base' : Nat} {A : Option Addr} {cap : Nat} {l : List α} (h : OwnL e size enc w base A cap l) (hb : base' ≤ base) : OwnL e size enc w base' A cap l := by
  refine ⟨h.1, ?_⟩
  rcases h.2 with h | ⟨g, cap', cur, hv, hbg, hr⟩
  · exact .inl h
  · exact .inr ⟨g, cap', cur, hv, Nat.le_trans hb hbg, hr⟩

/-- Slices as elements: each one's row of nodes. -/
def Sls (w : World) (B : Nat) (vs : List (Option Addr × Nat × Nat)) (xss : List (List Nd)) : Prop :=
  vs.length = xss.length ∧ ∀ (i : Nat) (v : Option Addr × Nat × Nat) (xs : List Nd), vs[i]? = some v → xss[i]? = some xs → v.2.1 = xs.length ∧ TyA w B v.1 xs

theorem flatten_take_step {xss : List (List Nd)} {k : Nat} {xs : List Nd} (h : xss[k]? = some xs) : (xss.take (k + 1)).flatten = (xss.take k).flatten ++ xs := by
  rw [List.take_add_one, h]
  simp

theorem flatten_take_le (xss : List (List Nd)) (k : Nat) : (xss.take k).flatten.length ≤ xss.flatten.length := by
  conv => rhs; rw [← List.take_append_drop k xss]
  rw [List.flatten_append, List.length_append]
  omega

set_option maxRecDepth 100000 in
set_option maxHeartbeats 2000000 in
theorem concat_any (A : Option Addr) (c : Nat) (vs : List (Option Addr × Nat × Nat)) (xss : List (List Nd)) (w : World) (hr : ReadS w w.heap.size A vs) (hS : Sls w w.heap.size vs xss) (hv : vs.length ≤ 1000) (hlen : xss.flatten.length ≤ 100000000000) :
    Calls Tryz.prog 108 #[.slice A vs.length c] w fun e w' =>
      ∃ A' cap', e = .returned (.slice A' xss.flatten.length cap') ∧ OwnN w' w.heap.size A' cap' xss.flatten ∧ Below w.heap.size w w' := by
  have HS := Lib.hid hS.2
  have hSl := hS.1
  clear hS
  go_enter Tryz.func108, Tryz.ntmps108
  go_wp2_with fail
  go_loopw [3, 11] (fun s3 i11 wr => ∃ (k n : Nat), s3 = .int .i64 n ∧ i11 = .int .i64 k ∧ k ≤ vs.length ∧ n ≤ 100000000000 ∧ Below w.heap.size w wr ∧ Hid (n = (xss.take k).flatten.length))
    (fun _ i11 _ => vs.length - (intOf i11).toNat)
  case atStart => exact ⟨0, 0, rfl, rfl, Nat.zero_le _, by omega, Below.refl _ _, Lib.hid (by simp)⟩
  case round =>
    obtain ⟨k, n, rfl, rfl, hk, hn6, hbel, hn⟩ := hrel
    have zr := hbel.size
    by_cases hlt : k < vs.length
    · obtain ⟨v, hvk⟩ := getq_ex hlt
      obtain ⟨xs, hxk⟩ := getq_ex (show k < xss.length by omega)
      obtain ⟨hvl, _⟩ := HS.out k v xs hvk hxk
      obtain ⟨b1, o1, rfl, hb1, c10⟩ := hr.slice hvk
      have c10' := (hbel.cell (p := ⟨b1, o1 + k, none⟩) hb1).trans c10
      have hstep := flatten_take_step hxk
      have hle := flatten_take_le xss (k + 1)
      have hle2 : n + xs.length ≤ 100000000000 := by
        rw [hstep, List.length_append, ← hn.out] at hle
        omega
      have Hstep := Lib.hid hstep
      rw [hvl] at c10'
      have b1lt : b1 < wr.heap.size := by omega
      clear hvk hxk hstep c10 hle
      go_wp2_with fail
      go_roundw
      case rel => exact ⟨k + 1, n + xs.length, by go_num, by go_num, by omega, hle2, hbel, Lib.hid (by rw [Hstep.out, List.length_append, ← hn.out])⟩
      case measure => simp [intOf]; omega
    · have hkk : k = vs.length := by omega
      have hnn : n = xss.flatten.length := by rw [hn.out, hkk, hSl, List.take_length]
      subst hnn
      clear hn
      generalize hL : xss.flatten.length = L at *
      have HL := Lib.hid hL
      clear hL
      go_wp2_with fail
      refine (grow_nil L hn6 wr).mono ?_
      rintro e w1 ⟨A1, cap1, rfl, hown1, hbel1⟩
      have hbel01 := ext_trans hbel hbel1
      have hown0 : OwnN w1 w.heap.size A1 cap1 [] := OwnL.lower hown1 hbel.size
      go_wp2_with fail
      clear hown1 hbel1 hbel zr hlt hkk
      go_loopw [6, 27] (fun s6 i27 wr => ∃ (k n : Nat) (A' : Option Addr) (cap' : Nat), s6 = .slice A' n cap' ∧ i27 = .int .i64 k ∧ k ≤ vs.length ∧ Hid (n = (xss.take k).flatten.length) ∧ OwnN wr w.heap.size A' cap' (xss.take k).flatten ∧ Below w.heap.size w wr)
        (fun _ i27 _ => vs.length - (intOf i27).toNat)
      case atStart => exact ⟨0, 0, A1, cap1, rfl, rfl, Nat.zero_le _, Lib.hid (by simp), by simpa using hown0, hbel01⟩
      case round =>
        clear hown0 hbel01
        obtain ⟨k, n, A', cap', rfl, rfl, hk, hn, hown, hbel⟩ := hrel
        have zr := hbel.size
        by_cases hlt : k < vs.length
        · obtain ⟨v, hvk⟩ := getq_ex hlt
          obtain ⟨xs, hxk⟩ := getq_ex (show k < xss.length by omega)
          obtain ⟨hvl, hta⟩ := HS.out k v xs hvk hxk
          obtain ⟨b1, o1, rfl, hb1, c10⟩ := hr.slice hvk
          have c10' := (hbel.cell (p := ⟨b1, o1 + k, none⟩) hb1).trans c10
          have hstep := flatten_take_step hxk
          have hle := flatten_take_le xss (k + 1)
          have hle2 : n + xs.length ≤ 100000000000 := by
            rw [hstep, List.length_append, ← hn.out, HL.out] at hle
            omega
          have Hstep := Lib.hid hstep
          rw [hvl] at c10'
          have b1lt : b1 < wr.heap.size := by omega
          generalize hys : (xss.take k).flatten = ys at hn hown
          have Hys := Lib.hid hys
          have hn' := hn.out
          subst hn'
          clear hvk hxk hstep c10 hle hys hn
          go_wp2_with (at_builtin; refine wpList_appN rfl (.tmp 31) (.tmp 32) rfl w.heap.size (l := ys) rfl hown (l2 := xs) rfl (hta.below hbel) (by omega) (by omega) ?_; intro A2 cap2 w3 hown3 hg3 _)
          have hbel3 := ext_app hbel hg3 (fun k hk => (OwnL.block hown k hk).1)
          go_roundw
          case rel => exact ⟨k + 1, _, A2, cap2, rfl, by go_num, by omega, Lib.hid (by rw [Hstep.out, Hys.out, List.length_append]), by rw [Hstep.out, Hys.out]; exact hown3, hbel3⟩
          case measure => simp [intOf]; omega
        · have hkk : k = vs.length := by omega
          have htk : xss.take k = xss := by rw [hkk, hSl, List.take_length]
          rw [htk] at hown hn
          have hn' := hn.out
          subst hn'
          clear hn
          go_wp2_with fail
          go_ret
          rw [← HL.out]
          exact ⟨A', cap', rfl, hown, hbel⟩
end Go.Proofs.YtmjdhfbnmmdjiaaGreat
