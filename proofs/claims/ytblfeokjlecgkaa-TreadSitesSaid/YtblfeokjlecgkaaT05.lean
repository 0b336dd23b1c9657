/- Laid together by a tool from the texts of this seat: RightEq Print PEnd Concat Make Part PKids RowA Sort. Conditions: each theorem's own. -/
import Derived.Test.YtblfeokjlecgkaaT04
import Derived.Lib.ItoaNum
import Derived.Lib.ItoaLen
import Derived.Test.YtblfeokjlecgkaaShelf
import Derived.Test.YtblfeokjlecgkaaT03
import Derived.Lib.SliceRun
import Derived.BigQuiet
import Derived.Laws.EntriesVeiled
/- The program's Right and the document's are one: plain lists. -/
namespace Go.Proofs.Ytblfeokjlecgkaa

theorem bless_eq : ∀ (x y : List UInt8), Op.bytesLess x y = decide (x < y)
  | [], [] => by simp [Op.bytesLess]
  | _ :: _, [] => by simp [Op.bytesLess]
  | [], _ :: _ => by simp [Op.bytesLess]
  | a :: x, b :: y => by
    rw [Op.bytesLess, bless_eq x y]
    simp only [List.cons_lt_cons_iff]
    by_cases h1 : a < b <;> by_cases h2 : a = b <;> by_cases h3 : x < y <;> simp [h1, h2, h3]

theorem leS_not (a b : ByteArray) : leS a b = !Op.bytesLess b.toList a.toList := by
  unfold leS
  rw [bless_eq, bless_eq, Bool.eq_iff_iff]
  simp only [Bool.or_eq_true, decide_eq_true_eq, beq_iff_eq, Bool.not_eq_true', decide_eq_false_iff_not]
  rw [List.not_lt, List.le_iff_lt_or_eq]

theorem label_pos {k : Int} {s : ByteArray} (hr : isRowB k = true) (hl : labelB k s = true) : s.toList ≠ [] := by
  intro he
  rw [ByteArray.toList_eq] at he
  simp only [isRowB, Bool.or_eq_true, beq_iff_eq] at hr
  rcases hr with rfl | rfl
  · simp [labelB, wordB, he, fitsL] at hl
  · simp [labelB, tagB, he, fitsL] at hl

theorem labK_childOk {x y p : Nd} {k n : Nat} {last : ByteArray} (hx : okNode x.k x.n = true) (hn : n = manyN x) (hk : k < n) (h0 : k = 0 → last = ByteArray.empty) (hp : 0 < k → p.s = last) :
    labK x y p k n = childOk x k last y := by
  have hm := manyN_ok hx
  unfold labK childOk
  by_cases h9 : y.k = 9
  · rw [if_pos h9, if_pos h9]
    cases hr : isRowB x.k
    · simp
    · have hmn : many x.k x.n = x.n := by
        unfold many
        rw [if_neg (by rintro h5; rw [h5] at hr; simp [isRowB] at hr), if_pos hr]
      rw [hmn] at hm
      have : decide (k + 1 = n) = !decide ((k : Int) < x.n - 1) := by
        rw [Bool.eq_iff_iff]
        simp
        omega
      rw [this]
  · rw [if_neg h9, if_neg h9]
    cases hl : labelB x.k y.s
    · simp
    · cases hr : isRowB x.k
      · simp
      · simp only [Bool.true_and]
        congr 1
        rw [leS_not]
        by_cases hk0 : 0 < k
        · rw [hp hk0]
          simp [hk0]
        · have hk0' : k = 0 := by omega
          rw [h0 hk0']
          have hpos := label_pos hr hl
          have he : ByteArray.empty.toList = [] := by rw [ByteArray.toList_eq]; rfl
          rw [he]
          cases hy : y.s.toList with
          | nil => exact absurd hy hpos
          | cons c cs => simp [hk0', Op.bytesLess]

/-- The document's End over a forest that is there. -/
theorem endGo_fo : ∀ (ps : List Nd) (n p : Nat) (ys : List Nd), okAll ps → Fo (n + 1) ps → endGo (ps ++ ys) ((n + 1 : Nat) : Int) p = p + ps.length := by
  intro ps
  induction ps with
  | nil => intro n p ys _ h; cases h
  | cons x ps ih =>
    intro n p ys hok h
    have h' : skip ps (n + manyN x) = some [] := h
    have hm := manyN_ok (hok x (by simp))
    simp only [List.cons_append, endGo]
    rw [hm]
    by_cases hz : n + manyN x = 0
    · rw [if_pos (by omega)]
      rw [hz, skip_zero] at h'
      injection h' with h'
      subst h'
      simp
    · rw [if_neg (by omega)]
      obtain ⟨m, hm'⟩ : ∃ m, n + manyN x = m + 1 := ⟨n + manyN x - 1, by omega⟩
      rw [hm'] at h'
      have := ih m (p + 1) ys (fun y hy => hok y (by simp [hy])) h'
      rw [show (((n + 1 : Nat) : Int) - 1 + (manyN x : Int)) = ((m + 1 : Nat) : Int) by omega, this]
      simp only [List.length_cons]
      omega

theorem endGo_one {T ts rest : List Nd} {i : Nat} (h : T.drop i = ts ++ rest) (hok : okAll ts) (hf : Fo 1 ts) : endGo (T.drop i) 1 i = i + ts.length := by
  rw [h]
  exact endGo_fo ts 0 i rest hok hf

theorem drop_more {T ts rest : List Nd} {i : Nat} (h : T.drop i = ts ++ rest) : T.drop (i + ts.length) = rest := by
  rw [← List.drop_drop, h, List.drop_left]

theorem drop_lt {T ts rest : List Nd} {i : Nat} (h : T.drop i = ts ++ rest) (hp : 0 < ts.length) : i < T.length := by
  have := congrArg List.length h
  rw [List.length_drop, List.length_append] at this
  omega

/-- Behind a tree that is through. -/
def closeTop : List Int → List Int
  | [] => []
  | b :: r => settle r (b - 1)

theorem settle_nat (st : List Int) (n : Nat) : settle st (n : Int) = if n = 0 then closeTop st else (n : Int) :: st := by
  cases st with
  | nil =>
    simp only [settle, closeTop]
    by_cases h : n = 0
    · subst h; simp
    · rw [if_neg (by omega), if_neg h]
  | cons b r =>
    simp only [settle, closeTop]
    by_cases h : n = 0
    · subst h; simp
    · rw [if_neg (by omega), if_neg h]

/-- What the program's look at a tree has shown. -/
structure TreeOk (T : List Nd) (f i j : Nat) (ts rest : List Nd) : Prop where
  at_ : T.drop i = ts ++ rest
  ej : j = i + ts.length
  fo : Fo 1 ts
  ok : okAll ts
  lab : ∀ p, i ≤ p → p < j → labelledB T p = true
  sh : ∀ st : List Int, st.length + f = 100 → shallowGo (T.drop i) st = shallowGo rest (closeTop st)

theorem kidsP_sound {T : List Nd} {f : Nat} (ih : ∀ i j, treeP T f i = some j → ∃ ts rest, TreeOk T f i j ts rest) (x : Nd) (hx : okNode x.k x.n = true) :
    ∀ (todo k : Nat) (last : ByteArray) (at_ j : Nat), kidsP (treeP T f) T x todo k last at_ = some j → k + todo = manyN x → (k = 0 → last = ByteArray.empty) →
      ∃ ks rest, T.drop at_ = ks ++ rest ∧ j = at_ + ks.length ∧ Fo todo ks ∧ okAll ks ∧ (∀ p, at_ ≤ p → p < j → labelledB T p = true) ∧
        (∀ st : List Int, st.length + (f + 1) = 100 → shallowGo (T.drop at_) (settle st (todo : Int)) = shallowGo rest (closeTop st)) ∧
        (kidsGo T todo at_).length = todo ∧
        (∀ pre : List Nat, pre.length = k → (0 < k → (ndAt T (pre ++ kidsGo T todo at_) (k - 1)).s = last) → labFrom T x (pre ++ kidsGo T todo at_) todo k = true) := by
  intro todo
  induction todo with
  | zero =>
    intro k last at_ j h hk h0
    simp only [kidsP, Option.some.injEq] at h
    subst h
    refine ⟨[], T.drop at_, rfl, rfl, rfl, (fun x hx => by cases hx), (fun p h1 h2 => by omega), fun st _ => ?_, rfl, fun pre _ _ => rfl⟩
    rw [settle_nat, if_pos rfl]
  | succ todo iht =>
    intro k last at_ j h hk h0
    simp only [kidsP] at h
    split at h
    · cases h
    · rename_i y hy
      split at h
      · rename_i hc
        split at h
        · cases h
        · rename_i at' htr
          obtain ⟨ts, rest, ht⟩ := ih _ _ htr
          have hjt := ht.ej
          subst hjt
          obtain ⟨ks, rest', h1, h2, h3, h4, h5, h6, h7, h8⟩ := iht (k + 1) y.s _ j h (by omega) (fun h => by omega)
          have hrest : rest = ks ++ rest' := by rw [← h1, drop_more ht.at_]
          have hlt : at_ < T.length := getq_lt hy
          have hend := endGo_one ht.at_ ht.ok ht.fo
          have hkg : kidsGo T (todo + 1) at_ = at_ :: kidsGo T todo (at_ + ts.length) := by rw [kidsGo_step hlt, hend]
          refine ⟨ts ++ ks, rest', by rw [ht.at_, hrest, List.append_assoc], by rw [h2, List.length_append]; omega, ?_, ?_, ?_, ?_, ?_, ?_⟩
          · rw [Nat.add_comm]; exact ht.fo.append h3
          · intro z hz
            rcases List.mem_append.1 hz with hz | hz
            · exact ht.ok z hz
            · exact h4 z hz
          · intro p hp1 hp2
            by_cases hp : p < at_ + ts.length
            · exact ht.lab p hp1 hp
            · exact h5 p (by omega) hp2
          · intro st hst
            rw [settle_nat, if_neg (by omega), ht.sh (((todo + 1 : Nat) : Int) :: st) (by simp; omega), ← h6 st hst, h1, hrest]
            simp only [closeTop]
            congr 2
            omega
          · rw [hkg]; simp [h7]
          · intro pre hpre hprev
            rw [hkg] at hprev ⊢
            have hlen : (pre ++ at_ :: kidsGo T todo (at_ + ts.length)).length = manyN x := by simp [h7]; omega
            have hnd : ndAt T (pre ++ at_ :: kidsGo T todo (at_ + ts.length)) k = y := by
              unfold ndAt
              rw [List.getElem?_append_right (by omega)]
              simp [hpre, hy]
            have hrec := h8 (pre ++ [at_]) (by simp [hpre]) (fun _ => by
              rw [List.append_assoc, List.singleton_append, Nat.add_sub_cancel, hnd])
            rw [List.append_assoc, List.singleton_append] at hrec
            simp only [labFrom]
            rw [hrec, hnd, hlen, labK_childOk hx rfl (by omega) h0 hprev, hc]
            rfl
      · cases h

theorem treeP_sound {T : List Nd} : ∀ (f i j : Nat), treeP T f i = some j → ∃ ts rest, TreeOk T f i j ts rest := by
  intro f
  induction f with
  | zero => intro i j h; cases h
  | succ f ih =>
    intro i j h
    simp only [treeP] at h
    split at h
    · cases h
    · rename_i x hx
      split at h
      · rename_i hok
        have hmn : (many x.k x.n).toNat = manyN x := rfl
        rw [hmn] at h
        obtain ⟨ks, rest, h1, h2, h3, h4, h5, h6, h7, h8⟩ := kidsP_sound ih x hok (manyN x) 0 ByteArray.empty (i + 1) j h (by omega) (fun _ => rfl)
        have hd : T.drop i = x :: T.drop (i + 1) := drop_cons hx
        refine ⟨x :: ks, rest, ⟨by rw [hd, h1]; rfl, by rw [h2]; simp; omega, ?_, ?_, ?_, ?_⟩⟩
        · have := Fo.cons (n := 0) h3 Fo.zero
          rwa [List.append_nil] at this
        · intro z hz
          rcases List.mem_cons.1 hz with rfl | hz
          · exact hok
          · exact h4 z hz
        · intro p hp1 hp2
          by_cases hp : p = i
          · subst hp
            unfold labelledB
            rw [hx]
            have hkr : kidsR T (p : Int) = kidsGo T (manyN x) (p + 1) := by
              unfold kidsR
              rw [if_neg (by omega)]
              simp [hx, manyN]
            simp only [hkr]
            rw [h7, manyN_ok hok]
            have := h8 [] rfl (fun h => by omega)
            rw [List.nil_append] at this
            rw [this]
            simp
          · exact h5 p (by omega) hp2
        · intro st hst
          rw [hd]
          simp only [shallowGo, settleL]
          rw [if_neg (by omega), manyN_ok hok]
          exact h6 st hst
      · cases h

/-- Where all labels are right, each node has all its children. -/
theorem all_trees {T : List Nd} (hok : okAll T) (hlab : ∀ p, p < T.length → labelledB T p = true) :
    ∀ (n i : Nat), T.length - i ≤ n → i < T.length → ∃ ts rest, T.drop i = ts ++ rest ∧ Fo 1 ts ∧ okAll ts := by
  intro n
  induction n with
  | zero => intro i h1 h2; omega
  | succ n ih =>
    intro i h1 h2
    obtain ⟨x, hx⟩ := getq_ex h2
    have hl := hlab i h2
    unfold labelledB at hl
    rw [hx] at hl
    have hkr : kidsR T (i : Int) = kidsGo T (manyN x) (i + 1) := by
      unfold kidsR
      rw [if_neg (by omega)]
      simp [hx, manyN]
    simp only [hkr, Bool.and_eq_true, decide_eq_true_eq] at hl
    have hlen := hl.1
    rw [manyN_ok (hok x (mem_of_getq hx))] at hlen
    have key : ∀ (todo at_ : Nat), i < at_ → (kidsGo T todo at_).length = todo → ∃ ks rest, T.drop at_ = ks ++ rest ∧ Fo todo ks ∧ okAll ks := by
      intro todo
      induction todo with
      | zero => intro at_ _ _; exact ⟨[], _, rfl, rfl, fun z hz => by cases hz⟩
      | succ todo iht =>
        intro at_ ha hk
        by_cases hlt : at_ < T.length
        · obtain ⟨ts, rest, h3, h4, h5⟩ := ih at_ (by omega) hlt
          rw [kidsGo_step hlt, endGo_one h3 h5 h4] at hk
          obtain ⟨ks, rest', h6, h7, h8⟩ := iht (at_ + ts.length) (by omega) (by simpa using hk)
          rw [drop_more h3] at h6
          refine ⟨ts ++ ks, rest', by rw [h3, h6, List.append_assoc], by rw [Nat.add_comm]; exact h4.append h7, ?_⟩
          intro z hz
          rcases List.mem_append.1 hz with hz | hz
          · exact h5 z hz
          · exact h8 z hz
        · rw [kidsGo_out hlt] at hk
          cases hk
    obtain ⟨ks, rest, h3, h4, h5⟩ := key (manyN x) (i + 1) (by omega) (by omega)
    refine ⟨x :: ks, rest, by rw [drop_cons hx, h3]; rfl, ?_, ?_⟩
    · have := Fo.cons (n := 0) h4 Fo.zero
      rwa [List.append_nil] at this
    · intro z hz
      rcases List.mem_cons.1 hz with rfl | hz
      · exact hok _ (mem_of_getq hx)
      · exact h5 z hz

theorem okAll_left {a b : List Nd} (h : okAll (a ++ b)) : okAll a := fun x hx => h x (by simp [hx])
theorem okAll_right {a b : List Nd} (h : okAll (a ++ b)) : okAll b := fun x hx => h x (by simp [hx])

theorem kidsP_full {T : List Nd} {f : Nat}
    (ih : ∀ (i : Nat) (ts rest : List Nd) (st : List Int), T.drop i = ts ++ rest → Fo 1 ts → st.length + f = 100 → treeP T f i = some (i + ts.length) ∨ shallowGo (T.drop i) st = false) (x : Nd) (hx : okNode x.k x.n = true) :
    ∀ (todo k : Nat) (last : ByteArray) (at_ : Nat) (ks rest : List Nd) (pre : List Nat) (st : List Int), T.drop at_ = ks ++ rest → Fo todo ks → okAll ks → k + todo = manyN x → (k = 0 → last = ByteArray.empty) → pre.length = k →
      (0 < k → (ndAt T (pre ++ kidsGo T todo at_) (k - 1)).s = last) → labFrom T x (pre ++ kidsGo T todo at_) todo k = true → st.length + (f + 1) = 100 →
      kidsP (treeP T f) T x todo k last at_ = some (at_ + ks.length) ∨ shallowGo (T.drop at_) (settle st (todo : Int)) = false := by
  intro todo
  induction todo with
  | zero =>
    intro k last at_ ks rest pre st hd hf _ _ _ _ _ _ _
    have := hf.of_zero
    subst this
    exact .inl rfl
  | succ todo iht =>
    intro k last at_ ks rest pre st hd hf hokk hk h0 hpre hprev hlab hst
    obtain ⟨ts, ks', rfl, hts, hks⟩ := hf.first
    have hd' : T.drop at_ = ts ++ (ks' ++ rest) := by rw [hd, List.append_assoc]
    have hlt : at_ < T.length := drop_lt hd' hts.pos
    obtain ⟨y, hy⟩ := getq_ex hlt
    have hend := endGo_one hd' (okAll_left hokk) hts
    have hkg : kidsGo T (todo + 1) at_ = at_ :: kidsGo T todo (at_ + ts.length) := by rw [kidsGo_step hlt, hend]
    rw [hkg] at hprev hlab
    have hnd : ndAt T (pre ++ at_ :: kidsGo T todo (at_ + ts.length)) k = y := by
      unfold ndAt
      rw [List.getElem?_append_right (by omega)]
      simp [hpre, hy]
    have hglen : (kidsGo T todo (at_ + ts.length)).length = todo := by
      have key : ∀ (todo at_ : Nat) (ks rest : List Nd), T.drop at_ = ks ++ rest → Fo todo ks → okAll ks → (kidsGo T todo at_).length = todo := by
        intro todo
        induction todo with
        | zero => intro _ _ _ _ _ _; rfl
        | succ todo ih2 =>
          intro at_ ks rest hd hf hok2
          obtain ⟨t1, k1, rfl, ht1, hk1⟩ := hf.first
          have hd2 : T.drop at_ = t1 ++ (k1 ++ rest) := by rw [hd, List.append_assoc]
          rw [kidsGo_step (drop_lt hd2 ht1.pos), endGo_one hd2 (okAll_left hok2) ht1]
          simp [ih2 _ k1 rest (drop_more hd2) hk1 (okAll_right hok2)]
      exact key todo _ ks' rest (drop_more hd') hks (okAll_right hokk)
    have hlen : (pre ++ at_ :: kidsGo T todo (at_ + ts.length)).length = manyN x := by simp [hglen]; omega
    simp only [labFrom, Bool.and_eq_true] at hlab
    obtain ⟨hl1, hl2⟩ := hlab
    rw [hnd, hlen, labK_childOk hx rfl (by omega) h0 hprev] at hl1
    rcases ih at_ ts _ (((todo + 1 : Nat) : Int) :: st) hd' hts (by simp; omega) with hT | hS
    · have hsnd := treeP_sound _ _ _ hT
      obtain ⟨ts2, rest2, ht⟩ := hsnd
      have hsh := ht.sh (((todo + 1 : Nat) : Int) :: st) (by simp; omega)
      have hlen2 : ts2.length = ts.length := by have := ht.ej; omega
      have hrest2 : rest2 = ks' ++ rest := by
        have h1 := ht.at_
        rw [hd'] at h1
        exact (List.append_inj h1 hlen2.symm).2.symm
      have hr := iht (k + 1) y.s (at_ + ts.length) ks' rest (pre ++ [at_]) st (drop_more hd') hks (okAll_right hokk) (by omega) (fun h => by omega) (by simp [hpre]) (fun _ => by
        rw [List.append_assoc, List.singleton_append, Nat.add_sub_cancel, hnd]) (by rw [List.append_assoc, List.singleton_append]; exact hl2) hst
      rcases hr with hr | hr
      · left
        simp only [kidsP, hy]
        rw [if_pos hl1, hT]
        simp only
        rw [show ((k : Int) + 1) = ((k + 1 : Nat) : Int) by omega, hr, List.length_append, Nat.add_assoc]
      · right
        rw [settle_nat, if_neg (by omega), hsh, hrest2, ← drop_more hd']
        simp only [closeTop]
        rw [show (((todo + 1 : Nat) : Int) - 1) = (todo : Int) by omega]
        exact hr
    · right
      rw [settle_nat, if_neg (by omega)]
      exact hS

theorem treeP_full {T : List Nd} (hok : okAll T) (hlab : ∀ p, p < T.length → labelledB T p = true) :
    ∀ (f i : Nat) (ts rest : List Nd) (st : List Int), T.drop i = ts ++ rest → Fo 1 ts → st.length + f = 100 → treeP T f i = some (i + ts.length) ∨ shallowGo (T.drop i) st = false := by
  intro f
  induction f with
  | zero =>
    intro i ts rest st hd hf hst
    right
    have hlt := drop_lt hd hf.pos
    obtain ⟨x, hx⟩ := getq_ex hlt
    rw [drop_cons hx]
    simp only [shallowGo]
    rw [if_pos (by omega)]
  | succ f ih =>
    intro i ts rest st hd hf hst
    have hlt := drop_lt hd hf.pos
    obtain ⟨x, hx⟩ := getq_ex hlt
    have hxok := hok x (mem_of_getq hx)
    match ts, hd, hf with
    | [], hd, hf => cases hf
    | y :: ks0, hd, hf =>
      obtain ⟨ks, rs, rfl, hks, hrs⟩ := hf.uncons
      have := hrs.of_zero
      subst this
      have hxy : x = y := by
        have h1 := drop_cons hx
        rw [hd] at h1
        injection h1 with h1 _
        exact h1.symm
      subst hxy
      rw [List.append_nil] at hd hf ⊢
      have hd1 : T.drop (i + 1) = ks ++ rest := by
        have h1 := drop_cons hx
        rw [hd] at h1
        injection h1 with _ h1
        exact h1.symm
      have hokk : okAll ks := fun z hz => hok z (by
        have : z ∈ T.drop (i + 1) := by rw [hd1]; simp [hz]
        exact List.mem_of_mem_drop this)
      have hl := hlab i hlt
      unfold labelledB at hl
      rw [hx] at hl
      have hkr : kidsR T (i : Int) = kidsGo T (manyN x) (i + 1) := by
        unfold kidsR
        rw [if_neg (by omega)]
        simp [hx, manyN]
      simp only [hkr, Bool.and_eq_true, decide_eq_true_eq] at hl
      have hlen := hl.1
      rw [manyN_ok hxok] at hlen
      have hlen' : (kidsGo T (manyN x) (i + 1)).length = manyN x := by omega
      rw [hlen'] at hl
      have hkp := kidsP_full ih x hxok (manyN x) 0 ByteArray.empty (i + 1) ks rest [] st hd1 hks hokk (by omega) (fun _ => rfl) rfl (fun h => by omega) hl.2 hst
      rcases hkp with hkp | hkp
      · left
        simp only [treeP, hx]
        rw [if_pos hxok]
        have hmn : (many x.k x.n).toNat = manyN x := rfl
        rw [hmn]
        have h0 : ((0 : Nat) : Int) = 0 := rfl
        rw [h0] at hkp
        rw [hkp]
        simp
        omega
      · right
        rw [drop_cons hx]
        simp only [shallowGo, settleL]
        rw [if_neg (by omega), manyN_ok hxok]
        exact hkp

theorem labAll_iff {T : List Nd} : ∀ (d i : Nat), labAll T d i = true ↔ ∀ p, i ≤ p → p < i + d → labelledB T p = true := by
  intro d
  induction d with
  | zero => intro i; simp [labAll]; intro p h1 h2; omega
  | succ d ih =>
    intro i
    simp only [labAll, Bool.and_eq_true, ih]
    constructor
    · rintro ⟨h1, h2⟩ p h3 h4
      by_cases hp : p = i
      · subst hp; exact h1
      · exact h2 p (by omega) (by omega)
    · intro h
      exact ⟨h i (Nat.le_refl _) (by omega), fun p h3 h4 => h p (by omega) (by omega)⟩

/-- The two answers are one. -/
theorem right_eq (T : List Nd) : rRightB T = rightB T := by
  unfold rRightB rightB
  cases hlen : decide (T.length ≤ 10000)
  · simp
  cases hroot : rootOk T
  · simp
  have hpos : 0 < T.length := by
    cases T with
    | nil => cases hroot
    | cons x xs => simp
  simp only [Bool.true_and]
  rw [Bool.eq_iff_iff]
  simp only [Bool.and_eq_true, decide_eq_true_eq]
  constructor
  · rintro ⟨⟨⟨hall, hend⟩, hsh⟩, hlab⟩
    have hok : okAll T := fun x hx => List.all_eq_true.1 hall x hx
    have hlab' : ∀ p, p < T.length → labelledB T p = true := fun p hp => (labAll_iff T.length 0).1 hlab p (by omega) (by omega)
    obtain ⟨ts, rest, hd, hf, hoks⟩ := all_trees hok hlab' T.length 0 (by omega) hpos
    rcases treeP_full hok hlab' 100 0 ts rest [] hd hf rfl with h | h
    · have he := endGo_one hd hoks hf
      have hend2 : endR T ((0 : Nat) : Int) = (T.length : Int) := hend
      rw [endR_nat hpos] at hend2
      rw [h]
      congr 1
      omega
    · rw [List.drop_zero, hsh] at h
      cases h
  · intro h
    obtain ⟨ts, rest, ht⟩ := treeP_sound _ _ _ h
    have hej := ht.ej
    have hd := ht.at_
    rw [List.drop_zero] at hd
    have hl := congrArg List.length hd
    rw [List.length_append] at hl
    have hrest : rest = [] := List.eq_nil_of_length_eq_zero (by omega)
    subst hrest
    rw [List.append_nil] at hd
    refine ⟨⟨⟨?_, ?_⟩, ?_⟩, ?_⟩
    · rw [List.all_eq_true]
      intro x hx
      exact ht.ok x (by rw [← hd]; exact hx)
    · show endR T ((0 : Nat) : Int) = (T.length : Int)
      rw [endR_nat hpos, endGo_one ht.at_ ht.ok ht.fo]
      omega
    · have := ht.sh [] rfl
      rw [List.drop_zero] at this
      rw [this]
      rfl
    · rw [labAll_iff]
      intro p h1 h2
      exact ht.lab p h1 (by omega)
end Go.Proofs.Ytblfeokjlecgkaa

/- How types are printed: plain lists of bytes. -/
namespace Go.Proofs.Ytblfeokjlecgkaa

def wordT (x : Nd) : List UInt8 :=
  if x.k = 0 then [63] else if x.k = 1 then [105, 110, 116] else if x.k = 2 then [98, 111, 111, 108] else if x.k = 3 then [115, 116, 114, 105, 110, 103] else
  if x.k = 4 then [117, 110, 105, 116] else if x.k = 8 then 39 :: Lib.itoa x.n else 46 :: 46 :: Lib.itoa x.n

/-- What is behind the first tree. -/
def rest1 (xs : List Nd) : List Nd := (skip xs 1).getD []

def headNd (xs : List Nd) : Nd := xs.head?.getD default

/-- The children of a row, so many, the first with sep0 ahead, each other one with sep. -/
def prKids (pr : List Nd → List UInt8) (sep : List UInt8) : Nat → List UInt8 → List Nd → List UInt8
  | 0, _, _ => []
  | d + 1, sep0, ys => sep0 ++ ((if (headNd ys).k = 9 then [] else (headNd ys).s.data.toList ++ [58, 32]) ++ (pr ys ++ prKids pr sep d sep (rest1 ys)))

/-- The first tree of a row of nodes, printed; at most so deep. -/
def prS : Nat → List Nd → List UInt8
  | 0, _ => []
  | _ + 1, [] => []
  | f + 1, x :: ys =>
    if x.k = 5 then (if (headNd ys).k = 5 then 40 :: (prS f ys ++ [41]) else prS f ys) ++ ([32, 45, 62, 32] ++ prS f (rest1 ys))
    else if x.k = 6 then 123 :: (prKids (prS f) [44, 32] (manyN x) [] ys ++ [125])
    else if x.k = 7 then 91 :: (prKids (prS f) [32, 124, 32] (manyN x) [] ys ++ [93])
    else wordT x

theorem rest1_fo {ts rest : List Nd} (h : Fo 1 ts) : rest1 (ts ++ rest) = rest := by
  unfold rest1
  rw [h.pass]
  rfl

theorem head_bytes (s : ByteArray) : s.data.toList.length = s.size := rfl

theorem headNd_drop {T : List Nd} {i : Nat} {x : Nd} (h : T[i]? = some x) : headNd (T.drop i) = x := by
  rw [drop_cons h]; rfl

theorem treeP_get {T : List Nd} {f i j : Nat} (h : treeP T f i = some j) : ∃ x, T[i]? = some x := by
  cases f with
  | zero => cases h
  | succ f =>
    simp only [treeP] at h
    split at h
    · cases h
    · exact ⟨_, by assumption⟩

theorem tree_rest1 {T : List Nd} {f i j : Nat} (h : treeP T f i = some j) : rest1 (T.drop i) = T.drop j := by
  obtain ⟨ts, rest, ht⟩ := treeP_sound _ _ _ h
  rw [ht.at_, rest1_fo ht.fo, ht.ej, drop_more ht.at_]

theorem kidsP_step {tr : Nat → Option Nat} {T : List Nd} {x : Nd} {d at_ j : Nat} {k : Int} {last : ByteArray} (h : kidsP tr T x (d + 1) k last at_ = some j) :
    ∃ y at', T[at_]? = some y ∧ tr at_ = some at' ∧ kidsP tr T x d (k + 1) y.s at' = some j := by
  simp only [kidsP] at h
  split at h
  · cases h
  · rename_i y hy
    split at h
    · split at h
      · cases h
      · rename_i at' hat
        exact ⟨y, at', hy, hat, h⟩
    · cases h

end Go.Proofs.Ytblfeokjlecgkaa

/- slices.Grow at nil, slices.Concat, slices.Clone, ty.Arrow. -/
namespace Go.Proofs.Ytblfeokjlecgkaa
open Go.RowKit

theorem grow_nil (n : Nat) (hn : n ≤ 1000000) (w : World) :
    Calls Try.prog 114 #[.slice none 0 0, .int .i64 (n : Int)] w fun e w' => ∃ A cap, e = .returned (.slice A 0 cap) ∧ OwnN w' w.heap.size A cap [] ∧ Below w.heap.size w w' := by
  by_cases h0 : n = 0
  · subst h0
    refine (Any8.slices_Grow_room Try.growN none 0 0 0 w (Nat.le_refl _) (by omega) (by omega) (by omega)).mono ?_
    rintro e w' ⟨rfl, rfl⟩
    exact ⟨none, 0, rfl, OwnL.nil, Below.refl _ _⟩
  · obtain ⟨i0, hi, hz0, hz1, hz2⟩ := info_parts infoN
    refine (Any8.slices_Grow_grow Try.growN i0 _ hi hz0 (by rw [hz1]; decide) none 0 0 n [] w (Nat.le_refl _) (by omega) (by rw [hz2]; omega) (by omega) (by simp) (fun _ => rfl) (by intro a h; cases h)).mono ?_
    rintro e w' ⟨rfl, rfl⟩
    refine ⟨_, _, rfl, ?_, (Below.refl _ _ : Below w.heap.size w w).drew.alloc (by simp) _⟩
    exact World.ownsRow_made w.drew _ _ (Nat.le_refl _) (grownCap_le_maxLen w _ _ _ (by unfold maxLen; omega)) (by
      have := grownCap_ge w (0 + n) 0 48
      rw [Array.size_append, Array.size_append, size_zeroCells, size_zeroCells]
      show 0 + (0 + n - 0) * 3 + (grownCap w (0 + n) 0 48 - (0 + n)) * 3 = grownCap w (0 + n) 0 48 * 3
      omega)

theorem OwnL.lower {α : Type} {e size : Nat} {enc : α → List Value} {w : World} {base base' : Nat} {A : Option Addr} {cap : Nat} {l : List α} (h : OwnL e size enc w base A cap l) (hb : base' ≤ base) : OwnL e size enc w base' A cap l := by
  refine ⟨h.1, ?_⟩
  rcases h.2 with h | ⟨g, cap', cur, hv, hbg, hr⟩
  · exact .inl h
  · exact .inr ⟨g, cap', cur, hv, Nat.le_trans hb hbg, hr⟩

/-- Slices as elements: each one's row of nodes. -/
def Sls (w : World) (B : Nat) (vs : List (Option Addr × Nat × Nat)) (xss : List (List Nd)) : Prop :=
  vs.length = xss.length ∧ ∀ (i : Nat) (v : Option Addr × Nat × Nat) (xs : List Nd), vs[i]? = some v → xss[i]? = some xs → v.2.1 = xs.length ∧ TyA w B v.1 xs

theorem flatten_take_step {xss : List (List Nd)} {k : Nat} {xs : List Nd} (h : xss[k]? = some xs) : (xss.take (k + 1)).flatten = (xss.take k).flatten ++ xs := by
  rw [List.take_add_one, h]
  simp

theorem flatten_take_le (xss : List (List Nd)) (k : Nat) : (xss.take k).flatten.length ≤ xss.flatten.length := by
  conv => rhs; rw [← List.take_append_drop k xss]
  rw [List.flatten_append, List.length_append]
  omega

set_option maxRecDepth 100000 in
set_option maxHeartbeats 2000000 in
theorem concat_any (A : Option Addr) (c : Nat) (vs : List (Option Addr × Nat × Nat)) (xss : List (List Nd)) (w : World) (hr : ReadS w w.heap.size A vs) (hS : Sls w w.heap.size vs xss) (hv : vs.length ≤ 1000) (hlen : xss.flatten.length ≤ 1000000) :
    Calls Try.prog 72 #[.slice A vs.length c] w fun e w' =>
      ∃ A' cap', e = .returned (.slice A' xss.flatten.length cap') ∧ OwnN w' w.heap.size A' cap' xss.flatten ∧ Below w.heap.size w w' := by
  have HS := Lib.hid hS.2
  have hSl := hS.1
  clear hS
  go_enter Try.func72, Try.ntmps72
  go_wp2_with fail
  go_loopw [3, 11] (fun s3 i11 wr => ∃ (k n : Nat), s3 = .int .i64 n ∧ i11 = .int .i64 k ∧ k ≤ vs.length ∧ n ≤ 1000000 ∧ Below w.heap.size w wr ∧ Hid (n = (xss.take k).flatten.length))
    (fun _ i11 _ => vs.length - (intOf i11).toNat)
  case atStart => exact ⟨0, 0, rfl, rfl, Nat.zero_le _, by omega, Below.refl _ _, Lib.hid (by simp)⟩
  case round =>
    obtain ⟨k, n, rfl, rfl, hk, hn6, hbel, hn⟩ := hrel
    have zr := hbel.size
    by_cases hlt : k < vs.length
    · obtain ⟨v, hvk⟩ := getq_ex hlt
      obtain ⟨xs, hxk⟩ := getq_ex (show k < xss.length by omega)
      obtain ⟨hvl, _⟩ := HS.out k v xs hvk hxk
      obtain ⟨b1, o1, rfl, hb1, c10⟩ := hr.slice hvk
      have c10' := (hbel.cell (p := ⟨b1, o1 + k, none⟩) hb1).trans c10
      have hstep := flatten_take_step hxk
      have hle := flatten_take_le xss (k + 1)
      have hle2 : n + xs.length ≤ 1000000 := by
        rw [hstep, List.length_append, ← hn.out] at hle
        omega
      have Hstep := Lib.hid hstep
      rw [hvl] at c10'
      have b1lt : b1 < wr.heap.size := by omega
      clear hvk hxk hstep c10 hle
      go_wp2_with fail
      go_roundw
      case rel => exact ⟨k + 1, n + xs.length, by go_num, by go_num, by omega, hle2, hbel, Lib.hid (by rw [Hstep.out, List.length_append, ← hn.out])⟩
      case measure => simp [intOf]; omega
    · have hkk : k = vs.length := by omega
      have hnn : n = xss.flatten.length := by rw [hn.out, hkk, hSl, List.take_length]
      subst hnn
      clear hn
      generalize hL : xss.flatten.length = L at *
      have HL := Lib.hid hL
      clear hL
      go_wp2_with fail
      refine (grow_nil L hn6 wr).mono ?_
      rintro e w1 ⟨A1, cap1, rfl, hown1, hbel1⟩
      have hbel01 := ext_trans hbel hbel1
      have hown0 : OwnN w1 w.heap.size A1 cap1 [] := OwnL.lower hown1 hbel.size
      go_wp2_with fail
      clear hown1 hbel1 hbel zr hlt hkk
      go_loopw [6, 27] (fun s6 i27 wr => ∃ (k n : Nat) (A' : Option Addr) (cap' : Nat), s6 = .slice A' n cap' ∧ i27 = .int .i64 k ∧ k ≤ vs.length ∧ Hid (n = (xss.take k).flatten.length) ∧ OwnN wr w.heap.size A' cap' (xss.take k).flatten ∧ Below w.heap.size w wr)
        (fun _ i27 _ => vs.length - (intOf i27).toNat)
      case atStart => exact ⟨0, 0, A1, cap1, rfl, rfl, Nat.zero_le _, Lib.hid (by simp), by simpa using hown0, hbel01⟩
      case round =>
        clear hown0 hbel01
        obtain ⟨k, n, A', cap', rfl, rfl, hk, hn, hown, hbel⟩ := hrel
        have zr := hbel.size
        by_cases hlt : k < vs.length
        · obtain ⟨v, hvk⟩ := getq_ex hlt
          obtain ⟨xs, hxk⟩ := getq_ex (show k < xss.length by omega)
          obtain ⟨hvl, hta⟩ := HS.out k v xs hvk hxk
          obtain ⟨b1, o1, rfl, hb1, c10⟩ := hr.slice hvk
          have c10' := (hbel.cell (p := ⟨b1, o1 + k, none⟩) hb1).trans c10
          have hstep := flatten_take_step hxk
          have hle := flatten_take_le xss (k + 1)
          have hle2 : n + xs.length ≤ 1000000 := by
            rw [hstep, List.length_append, ← hn.out, HL.out] at hle
            omega
          have Hstep := Lib.hid hstep
          rw [hvl] at c10'
          have b1lt : b1 < wr.heap.size := by omega
          generalize hys : (xss.take k).flatten = ys at hn hown
          have Hys := Lib.hid hys
          have hn' := hn.out
          subst hn'
          clear hvk hxk hstep c10 hle hys hn
          go_wp2_with (at_builtin; refine wpList_appN rfl (.tmp 31) (.tmp 32) rfl w.heap.size (l := ys) rfl hown (l2 := xs) rfl (hta.below hbel) (by omega) (by omega) ?_; intro A2 cap2 w3 hown3 hg3 _)
          have hbel3 := ext_app hbel hg3 (fun k hk => (OwnL.block hown k hk).1)
          go_roundw
          case rel => exact ⟨k + 1, _, A2, cap2, rfl, by go_num, by omega, Lib.hid (by rw [Hstep.out, Hys.out, List.length_append]), by rw [Hstep.out, Hys.out]; exact hown3, hbel3⟩
          case measure => simp [intOf]; omega
        · have hkk : k = vs.length := by omega
          have htk : xss.take k = xss := by rw [hkk, hSl, List.take_length]
          rw [htk] at hown hn
          have hn' := hn.out
          subst hn'
          clear hn
          go_wp2_with fail
          go_ret
          rw [← HL.out]
          exact ⟨A', cap', rfl, hown, hbel⟩
end Go.Proofs.Ytblfeokjlecgkaa

/- ty.Arrow, slices.Clone, ty.Part, and the document's. -/
namespace Go.Proofs.Ytblfeokjlecgkaa
open Go.RowKit

/-- A node under another label. -/
def Nd.name (x : Nd) (s : ByteArray) : Nd := ⟨x.k, s, x.n⟩

theorem flatMap_setN (s : ByteArray) (x : Nd) : ∀ (l : List Nd) (j : Nat), l[j]? = some x → (l.set j (x.name s)).flatMap encN = (l.flatMap encN).set (j * 3 + 1) (.string s)
  | [], j, h => by simp at h
  | y :: l, 0, h => by
    simp at h
    subst h
    rw [List.set_cons_zero, List.flatMap_cons, List.flatMap_cons]
    rfl
  | y :: l, j + 1, h => by
    rw [List.getElem?_cons_succ] at h
    rw [List.set_cons_succ, List.flatMap_cons, List.flatMap_cons, flatMap_setN s x l j h, List.set_append_right _ _ (by rw [encN_len]; omega), encN_len, show (j + 1) * 3 + 1 - 3 = j * 3 + 1 by omega]

/-- A store of a node's label. -/
theorem OwnL.setN {w : World} {base : Nat} {A : Option Addr} {cap : Nat} {l : List Nd} (h : OwnN w base A cap l) {j : Nat} {x : Nd} (hx : l[j]? = some x) (s : ByteArray) :
    ∃ g, A = some ⟨g, 0, none⟩ ∧ base ≤ g ∧ g < w.heap.size ∧ w.cell? ⟨g, j * 3 + 1, none⟩ = some (.string x.s) ∧ w.frozen? ⟨g, j * 3 + 1, none⟩ = false ∧
      OwnN (w.setCell ⟨g, j * 3 + 1, none⟩ (.string s)) base A cap (l.set j (x.name s)) ∧ w.grownBy (w.setCell ⟨g, j * 3 + 1, none⟩ (.string s)) (some g) := by
  obtain ⟨b, o, hA, hb, _, hc, _⟩ := (OwnL.tyA h).at_ hx
  have h' : w.ownsRow base 48 3 (.slice A l.length cap) l.length (l.flatMap encN) := h
  rcases h'.2 with ⟨hv, hn⟩ | ⟨g, cap', cur, hv, hbg, hg, hnc, hcm, hcs, htake⟩
  · injection hv with hA' hl hc'
    rw [hA'] at hA
    cases hA
  · injection hv with hA' hl hc'
    subst hA'
    injection hA with hA
    injection hA with hA1 hA2 hA3
    subst hA1
    rw [← hA2, Nat.zero_add] at hc
    obtain ⟨h2, h3⟩ := World.ownsRow.stored h' (j * 3 + 1) (.string s)
    refine ⟨g, rfl, hbg, hb, hc, World.ownsRow.frozenAt h' _, ?_, h3⟩
    show (w.setCell ⟨g, j * 3 + 1, none⟩ (.string s)).ownsRow base 48 3 (.slice (some ⟨g, 0, none⟩) (l.set j (x.name s)).length cap) (l.set j (x.name s)).length ((l.set j (x.name s)).flatMap encN)
    rw [List.length_set, flatMap_setN s x l j hx]
    exact h2

/-- What an answer of nodes is. -/
def RetN (w : World) (xs : List Nd) (e : Ending) (w' : World) : Prop := ∃ A' cap', e = .returned (.slice A' xs.length cap') ∧ OwnN w' w.heap.size A' cap' xs ∧ Below w.heap.size w w'

/-- A function's type, of two. -/
def arrowN (a b : List Nd) : List Nd := ⟨5, ByteArray.empty, 0⟩ :: (a ++ b)

theorem tyA_new (w : World) (x : Nd) : TyA (w.alloc (.cells #[.int .i64 x.k, .string x.s, .int .i64 x.n] 48)) (w.heap.size + 1) (some ⟨w.heap.size, 0, none⟩) [x] := by
  refine ReadL.tyA (fun _ => ⟨w.heap.size, 0, rfl, by omega, fun i y hy j u hu => ?_⟩)
  match i, hy with
  | 0, hy =>
    simp at hy
    subst hy
    match j, hu with
    | 0, hu => simp [encN] at hu; subst hu; simp
    | 1, hu => simp [encN] at hu; subst hu; simp
    | 2, hu => simp [encN] at hu; subst hu; simp
    | j + 3, hu => simp [encN] at hu
  | i + 1, hy => simp at hy

theorem readS_new3 (w : World) (v1 v2 v3 : Option Addr × Nat × Nat) : ReadS (w.alloc (.cells #[.slice v1.1 v1.2.1 v1.2.2, .slice v2.1 v2.2.1 v2.2.2, .slice v3.1 v3.2.1 v3.2.2] 34)) (w.heap.size + 1) (some ⟨w.heap.size, 0, none⟩) [v1, v2, v3] := fun _ => by
  refine ⟨w.heap.size, 0, rfl, by omega, fun i x hx j u hu => ?_⟩
  have hj : j = 0 := by
    have := getq_lt hu
    rw [encS_len] at this
    omega
  subst hj
  simp [encS] at hu
  subst hu
  match i, hx with
  | 0, hx => simp at hx; subst hx; simp
  | 1, hx => simp at hx; subst hx; simp
  | 2, hx => simp at hx; subst hx; simp
  | i + 3, hx => simp at hx

set_option maxRecDepth 100000 in
set_option maxHeartbeats 2000000 in
theorem pArrow_any (A1 A2 : Option Addr) (c1 c2 : Nat) (a b : List Nd) (w : World) (ha : TyA w w.heap.size A1 a) (hb : TyA w w.heap.size A2 b) (hl : a.length + b.length ≤ 100000) :
    Calls Try.prog 156 #[.slice A1 a.length c1, .slice A2 b.length c2] w (RetN w (arrowN a b)) := by
  go_enter Try.func156, Try.ntmps156
  go_wp2_with fail
  have hS := readS_new3 (w.alloc (.cells #[.int .i64 5, .string ⟨#[]⟩, .int .i64 0] 48)) (some ⟨w.heap.size, 0, none⟩, 1, 1) (A1, a.length, c1) (A2, b.length, c2)
  rw [World.size_alloc] at hS
  have hb0 := ext_alloc (ext_alloc (Below.refl w.heap.size w) (.cells #[.int .i64 5, .string ⟨#[]⟩, .int .i64 0] 48)) (.cells #[.slice (some ⟨w.heap.size, 0, none⟩) 1 1, .slice A1 a.length c1, .slice A2 b.length c2] 34)
  obtain ⟨W, hW⟩ : ∃ W, W = (w.alloc (.cells #[.int .i64 5, .string ⟨#[]⟩, .int .i64 0] 48)).alloc (.cells #[.slice (some ⟨w.heap.size, 0, none⟩) 1 1, .slice A1 a.length c1, .slice A2 b.length c2] 34) := ⟨_, rfl⟩
  have hWs : W.heap.size = w.heap.size + 2 := by rw [hW]; simp
  have hnew := ((tyA_new w ⟨5, ByteArray.empty, 0⟩).alloc (by simp) (.cells #[.slice (some ⟨w.heap.size, 0, none⟩) 1 1, .slice A1 a.length c1, .slice A2 b.length c2] 34))
  replace hS : ReadS W W.heap.size (some ⟨w.heap.size + 1, 0, none⟩) [(some ⟨w.heap.size, 0, none⟩, 1, 1), (A1, a.length, c1), (A2, b.length, c2)] := by rw [hWs, hW]; exact hS
  replace hb0 : Below w.heap.size w W := by rw [hW]; exact hb0
  replace hnew : TyA W (w.heap.size + 1) (some ⟨w.heap.size, 0, none⟩) [⟨5, ByteArray.empty, 0⟩] := by rw [hW]; exact hnew
  have h := concat_any (some ⟨w.heap.size + 1, 0, none⟩) 3 [(some ⟨w.heap.size, 0, none⟩, 1, 1), (A1, a.length, c1), (A2, b.length, c2)] [[⟨5, ByteArray.empty, 0⟩], a, b] _ hS ⟨rfl, fun i v xs hv hx => by
    match i, hv, hx with
    | 0, hv, hx =>
      simp at hv hx
      subst hv hx
      exact ⟨rfl, hnew.more (by omega)⟩
    | 1, hv, hx => simp at hv hx; subst hv hx; exact ⟨rfl, (ha.below hb0).more (by omega)⟩
    | 2, hv, hx => simp at hv hx; subst hv hx; exact ⟨rfl, (hb.below hb0).more (by omega)⟩
    | i + 3, hv, hx => simp at hv⟩ (by simp) (by simp; omega)
  rw [← hW]
  refine h.mono ?_
  rintro e w1 ⟨A', cap', rfl, hown, hbel⟩
  have hfl : [[(⟨5, ByteArray.empty, 0⟩ : Nd)], a, b].flatten = arrowN a b := by simp [arrowN]
  rw [hfl] at hown
  go_wp2_with fail
  go_ret
  exact ⟨A', cap', rfl, OwnL.lower hown (by omega), ext_trans hb0 hbel⟩

theorem own_one (w : World) (x : Nd) : OwnN (w.alloc (.cells #[.int .i64 x.k, .string x.s, .int .i64 x.n] 48)) w.heap.size (some ⟨w.heap.size, 0, none⟩) 1 [x] :=
  ⟨rfl, .inr ⟨w.heap.size, 1, _, rfl, Nat.le_refl _, heap_alloc_new w _, Nat.le_refl _, by simp [maxLen], rfl, rfl⟩⟩

end Go.Proofs.Ytblfeokjlecgkaa

/- The program's Kids. -/
namespace Go.Proofs.Ytblfeokjlecgkaa
open Go.RowKit

/-- make([]int, n). -/
theorem make_int (w : World) (base n : Nat) (hn : n ≤ 1000000) (hbase : base ≤ w.heap.size) :
    ∃ w', (Instr.makeSlice 76 (.int .i64 (n : Int)) (.int .i64 (n : Int))).run Try.prog w = .ok (.slice (some ⟨w.heap.size, 0, none⟩) n n) w' ∧ OwnI w' base (some ⟨w.heap.size, 0, none⟩) n (List.replicate n 0) ∧ w.grownBy w' none := by
  obtain ⟨i0, hi, hz0, hz1, hz2⟩ := info_parts infoI
  obtain ⟨w', h1, h2, h3⟩ := run_makeSlice_full (w := w) base 76 3 i0 _ 1 Try.underlying76 hi hz0 hz1 .i64 .i64 n (by omega) (by rw [hz2]; omega) (by unfold maxLen; omega) hbase
  refine ⟨w', h1, ?_, h3⟩
  show w'.ownsRow base 3 1 (.slice (some ⟨w.heap.size, 0, none⟩) (List.replicate n (0 : Int)).length n) (List.replicate n (0 : Int)).length ((List.replicate n (0 : Int)).flatMap encI)
  rw [List.length_replicate, flatMap_encI, List.map_replicate]
  have e : (madeCells (Value.int .i64 0).cells (n * 1)).toList = List.replicate n (Value.int .i64 0) := by
    rw [Nat.mul_one]
    exact toList_madeCells_one _ _
  rw [← e]
  exact h2

theorem take_set_succ {α : Type} (l : List α) (k : Nat) (x : α) (h : k < l.length) : (l.set k x).take (k + 1) = l.take k ++ [x] := by
  rw [List.take_add_one, List.take_set_of_le (Nat.le_refl _), List.getElem?_set_self h]
  rfl

theorem below_made {w w' : World} (h : w.grownBy w' none) : Below w.heap.size w w' :=
  (Below.refl w.heap.size w).grown h (Nat.le_refl _) fun k hk => by cases hk

end Go.Proofs.Ytblfeokjlecgkaa

/- ty.Row's parts: odd labels, the order of labels. -/
namespace Go.Proofs.Ytblfeokjlecgkaa
open Go.RowKit

def encT (s : ByteArray) : List Value := [.string s]
/-- A slice of strings. -/
abbrev ReadT (w : World) (B : Nat) (A : Option Addr) (l : List ByteArray) : Prop := ReadL 1 encT w B A l

theorem ReadL.str {w : World} {B : Nat} {A : Option Addr} {l : List ByteArray} (h : ReadT w B A l) {i : Nat} {s : ByteArray} (hn : l[i]? = some s) :
    ∃ b o, A = some ⟨b, o, none⟩ ∧ b < B ∧ w.cell? ⟨b, o + i, none⟩ = some (.string s) := by
  obtain ⟨b, o, rfl, hb, hc⟩ := h (by rintro rfl; simp at hn)
  have := hc i s hn 0 _ rfl
  rw [Nat.mul_one, Nat.add_zero] at this
  exact ⟨b, o, rfl, hb, this⟩

def oddFrom (kind : Int) (ls : List ByteArray) (k : Nat) : Bool := (ls.drop k).any fun s => !labelB kind s

theorem oddFrom_step {kind : Int} {ls : List ByteArray} {k : Nat} {s : ByteArray} (hx : ls[k]? = some s) : oddFrom kind ls k = (!labelB kind s || oddFrom kind ls (k + 1)) := by
  unfold oddFrom
  have e : ls.drop k = s :: ls.drop (k + 1) := by rw [List.drop_eq_getElem_cons (getq_lt hx), (List.getElem?_eq_some_iff.1 hx).2]
  rw [e, List.any_cons]

theorem oddFrom_end {kind : Int} {ls : List ByteArray} {k : Nat} (h : ¬ k < ls.length) : oddFrom kind ls k = false := by
  unfold oddFrom
  rw [List.drop_of_length_le (by omega)]
  rfl

theorem isNaN_any (s : ByteArray) (w : World) : Calls Try.prog 171 #[.string s] w fun e w' => e = .returned (.bool false) ∧ w = w' := by
  go_enter Try.func171, Try.ntmps171
  go_wp2_with fail
  go_ret
  exact ⟨ret_bool (by simp), rfl⟩

def cmpS (a b : ByteArray) : Int := if Op.bytesLess a.toList b.toList = true then -1 else if (a.toList == b.toList) = true then 0 else 1

set_option maxHeartbeats 1000000 in
theorem compare_any (a b : ByteArray) (w : World) : Calls Try.prog 135 #[.string a, .string b] w fun e w' => e = .returned (.int .i64 (cmpS a b)) ∧ w = w' := by
  cases h1 : Op.bytesLess a.toList b.toList
  · cases h2 : a.toList == b.toList
    · have hc := Lib.hid (show cmpS a b = 1 by unfold cmpS; rw [h1, h2]; rfl)
      go_enter Try.func135, Try.ntmps135
      go_wp2_with (go_at_call 171; refine (isNaN_any _ _).mono ?_; rintro e w1 ⟨rfl, rfl⟩)
      go_ret
      exact ⟨ret_int (by rw [hc.out]), rfl⟩
    · have hc := Lib.hid (show cmpS a b = 0 by unfold cmpS; rw [h1, h2]; rfl)
      go_enter Try.func135, Try.ntmps135
      go_wp2_with (go_at_call 171; refine (isNaN_any _ _).mono ?_; rintro e w1 ⟨rfl, rfl⟩)
      go_ret
      exact ⟨ret_int (by rw [hc.out]), rfl⟩
  · have hc := Lib.hid (show cmpS a b = -1 by unfold cmpS; rw [h1]; rfl)
    go_enter Try.func135, Try.ntmps135
    go_wp2_with (go_at_call 171; refine (isNaN_any _ _).mono ?_; rintro e w1 ⟨rfl, rfl⟩)
    go_ret
    exact ⟨ret_int (by rw [hc.out]), rfl⟩

end Go.Proofs.Ytblfeokjlecgkaa

/- ty.Row's order: slices.SortFunc over places, by their labels. -/
namespace Go.Proofs.Ytblfeokjlecgkaa
open Go.RowKit

def lab (ls : List ByteArray) (i : Nat) : ByteArray := (ls[i]?).getD ByteArray.empty

theorem lab_at {ls : List ByteArray} {i : Nat} (h : i < ls.length) : ls[i]? = some (lab ls i) := by
  unfold lab
  rw [List.getElem?_eq_getElem h]
  rfl

def encF {n : Nat} (i : Fin n) : Value := .int .i64 ((i.val : Nat) : Int)

def cfF (ls : List ByteArray) (n : Nat) (i j : Fin n) : Int := cmpS (lab ls i.val) (lab ls j.val)

def ltB (a b : ByteArray) : Bool := Op.bytesLess a.toList b.toList

theorem ltOf_cf (ls : List ByteArray) (n : Nat) (i j : Fin n) : ltOf (cfF ls n) i j = ltB (lab ls i.val) (lab ls j.val) := by
  unfold ltOf cfF cmpS ltB
  cases h : Op.bytesLess (lab ls i.val).toList (lab ls j.val).toList
  · simp
    split <;> omega
  · simp

theorem ltB_irrefl (a : ByteArray) : ltB a a = false := by
  unfold ltB
  rw [bless_eq]
  simp [List.lt_irrefl]

theorem ltB_trans {a b c : ByteArray} (h : ltB a b = true) (k : ltB b c = true) : ltB a c = true := by
  unfold ltB at *
  rw [bless_eq, decide_eq_true_eq] at *
  exact List.lt_trans h k

theorem ltB_ntrans {a b c : ByteArray} (h : ltB a b = false) (k : ltB b c = false) : ltB a c = false := by
  unfold ltB at *
  rw [bless_eq, decide_eq_false_iff_not, List.not_lt] at *
  exact List.le_trans k h

/-- Of two labels neither of which is less they are one. -/
theorem ltB_eq {a b : ByteArray} (h : ltB a b = false) (k : ltB b a = false) : a = b := by
  unfold ltB at *
  rw [bless_eq, decide_eq_false_iff_not, List.not_lt] at *
  have e : a.toList = b.toList := List.le_antisymm k h
  rw [ByteArray.toList_eq, ByteArray.toList_eq] at e
  cases a; cases b
  simpa using Array.toList_inj.1 e

theorem swo (ls : List ByteArray) (n : Nat) : Go.Sort.SWO (ltOf (cfF ls n)) where
  irrefl x := by rw [ltOf_cf]; exact ltB_irrefl _
  trans x y z h k := by rw [ltOf_cf] at *; exact ltB_trans h k
  ntrans x y z h k := by rw [ltOf_cf] at *; exact ltB_ntrans h k

section
variable {α : Type} [Inhabited α] (enc : α → Value) (w : World) (g m : Nat) (d : Array α) (os : Array Obj)

theorem sortWorld_grown : w.grownBy (sortWorld enc w g 0 m d os) (some g) where
  os := rfl
  tape := rfl
  output := rfl
  size := by
    show w.heap.size ≤ ((Go.Sort.putRow enc (Go.Sort.ahead w m) g 0 d).heap ++ os).size
    rw [Array.size_append]
    show w.heap.size ≤ (w.heap.modify g _).size + _
    rw [Array.size_modify]
    omega
  block k hk hne := by
    show ((w.heap.modify g _) ++ os)[k]? = w.heap[k]?
    rw [Array.getElem?_append_left (by rw [Array.size_modify]; exact hk), Array.getElem?_modify, if_neg (fun e => hne (by rw [e]))]

theorem sortWorld_block {c : Array Value} {e : TypeId} {fr : Nat × Nat} (h : w.heap[g]? = some (.cells c e fr)) : (sortWorld enc w g 0 m d os).heap[g]? = some (.cells (Go.Sort.putCells enc 0 d c) e fr) := by
  have hk := lt_of_block h
  show ((w.heap.modify g _) ++ os)[g]? = _
  rw [Array.getElem?_append_left (by rw [Array.size_modify]; exact hk), Array.getElem?_modify, if_pos rfl, h]
  rfl
end

/-- What a row of places is, once sorted. -/
theorem OwnL.sorted {n : Nat} {w : World} {base g cap : Nat} {L : List Int} (h : OwnI w base (some ⟨g, 0, none⟩) cap L) (hL : L.length = n) [Inhabited (Fin n)] (d : Array (Fin n)) (hd : d.size = n) (m : Nat) (os : Array Obj) :
    OwnI (sortWorld encF w g 0 m d os) base (some ⟨g, 0, none⟩) cap (asI (d.toList.map Fin.val)) := by
  have hl2 : (asI (d.toList.map Fin.val)).length = L.length := by simp [asI, hd, hL]
  have h' : w.ownsRow base 3 1 (.slice (some ⟨g, 0, none⟩) L.length cap) L.length (L.flatMap encI) := h
  show (sortWorld encF w g 0 m d os).ownsRow base 3 1 (.slice (some ⟨g, 0, none⟩) (asI (d.toList.map Fin.val)).length cap) (asI (d.toList.map Fin.val)).length ((asI (d.toList.map Fin.val)).flatMap encI)
  rw [hl2]
  rcases h'.2 with ⟨hv, hn⟩ | ⟨g', cap', cur, hv, hbg, hg, hnc, hcm, hcs, htake⟩
  · cases hv
  · injection hv with hA' hl hc'
    injection hA' with hA'
    injection hA' with hA1
    subst hA1 hc'
    refine ⟨by rw [flatMap_len encI_len, hl2], .inr ⟨g, cap, _, rfl, hbg, sortWorld_block encF w g m d os hg, hnc, hcm, by simp [Go.Sort.putCells]; omega, ?_⟩⟩
    apply List.ext_getElem?
    intro k
    by_cases hk : k < n
    · rw [List.getElem?_take_of_lt (by omega)]
      have hkc : k < cur.size := by omega
      have hkd : k < d.size := by omega
      rw [flatMap_encI]
      simp only [Go.Sort.putCells, Array.getElem?_toList, Array.getElem?_mapIdx, Array.getElem?_eq_getElem hkc, Option.map_some, List.getElem?_map, asI, Array.getElem?_eq_getElem hkd]
      rw [if_pos ⟨Nat.zero_le _, by omega⟩, Nat.sub_zero, getElem!_pos d k hkd]
      rfl
    · rw [List.getElem?_eq_none (by rw [List.length_take]; omega), List.getElem?_eq_none (by rw [flatMap_len encI_len, hl2]; omega)]

end Go.Proofs.Ytblfeokjlecgkaa
