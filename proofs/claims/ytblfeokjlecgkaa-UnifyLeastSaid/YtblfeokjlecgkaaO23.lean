/- Laid together by a tool from the texts of this seat: URows. Conditions: each theorem's own. -/
import Derived.Test.YtblfeokjlecgkaaO22
/- unify.rows, walked. -/
namespace Go.Proofs.Ytblfeokjlecgkaa
open Go.RowKit

attribute [local go_sem ↓] Go.wp_at_zero Go.wp_at_succ

/-- What 'agree' is asked. -/
structure AgH (U : List Lb) (s m : Nat) (first : Int) (S : Kn) (a b : Ut) (ba bb : Nat) (w : World) : Prop where
  sol : SolAt (SX s m) s m first w S
  kg : KG U S
  hU : U.length ≤ 100000
  na : NodeAt (SX s m) w ba a
  nb : NodeAt (SX s m) w bb b
  ta : TG U S a
  tb : TG U S b
  mb : S.m + (S.un : Int) + 2 * (dynT a + dynT b : Nat) ≤ 2305843009213693952

def AgAt (U : List Lb) (s m : Nat) (first : Int) (S : Kn) (a b : Ut) (ba bb : Nat) (w : World) : Prop :=
  Calls Try.prog 68 #[pk s, pk ba, pk bb] w (AgPost U S a b (dynT a + dynT b) s m first w)

/-- Less is asked. -/
def AgLess (S0 : Kn) (a b : Ut) (S : Kn) (c d : Ut) : Prop :=
  S.un + (dynT c + dynT d) < S0.un + (dynT a + dynT b) ∨ S.un + (dynT c + dynT d) = S0.un + (dynT a + dynT b) ∧ tsz (inst S.σ c) + tsz (inst S.σ d) < tsz (inst S0.σ a) + tsz (inst S0.σ b)

/-- 'ends' is walked, whatever is asked. -/
def EndsAll : Prop := ∀ (U : List Lb) (s m : Nat) (first : Int) (S : Kn) (a b : Ut) (x y : Fl) (p q : Option Int) (w : World) (UA VA : Option Addr) (cu cv : Nat) (ul vl : List (ByteArray × Nat)) (tp tq : Option Addr),
  EndsH U s m first S a b x y p q w UA VA ul vl tp tq → EndsAt U s m first S a b x y w UA VA cu cv ul vl tp tq

/-- The labels that were done, in a map; how many they are. -/
def muMap (b : Nat) (w : World) : Nat := match w.heap[b]? with
  | some (.map es _) => es.size
  | _ => 0
theorem KMap.mu {κ : Type} [DecidableEq κ] {kf : κ → Value} {w : World} {b : Nat} {l : List (κ × Value)} (h : KMap kf w b l) : muMap b w = l.length := by
  obtain ⟨es, c, h1, h2⟩ := h
  unfold muMap
  rw [h1]
  have := congrArg List.length h2
  simpa using this
def DoneK (w : World) (dm : Nat) (D : List Lb) : Prop := ∃ l, KMap sk w dm l ∧ (∀ p ∈ l, p.2 = .bool true) ∧ (∀ a, a ∈ D ↔ ∃ v, atL a l = some v) ∧ l.length = D.length
theorem DoneK.m {w : World} {dm : Nat} {D : List Lb} (h : DoneK w dm D) : DoneM w dm D := by
  obtain ⟨l, a, b, c, _⟩ := h
  exact ⟨l, a, b, c⟩
theorem DoneK.mu {w : World} {dm : Nat} {D : List Lb} (h : DoneK w dm D) : muMap dm w = D.length := by
  obtain ⟨l, a, _, _, d⟩ := h
  rw [a.mu, d]
theorem DoneK.bel {w w' : World} {dm : Nat} {D : List Lb} (h : DoneK w dm D) (hb : w'.heap[dm]? = w.heap[dm]?) : DoneK w' dm D := by
  obtain ⟨l, hM, r⟩ := h
  exact ⟨l, hM.later hb, r⟩
theorem DoneK.put {w : World} {dm : Nat} {D : List Lb} {l : List (Lb × Value)} {a : Lb} (h2 : ∀ p ∈ l, p.2 = .bool true) (h3 : ∀ a, a ∈ D ↔ ∃ v, atL a l = some v) (h4 : l.length = D.length) (ha : a ∉ D) (hM : KMap sk w dm (putL a (.bool true) l)) : DoneK w dm (a :: D) := by
  have hf : findL a l 0 = none := by
    cases e : findL a l 0 with
    | none => rfl
    | some r => exact absurd ((h3 a).2 ⟨r.2, by unfold atL; rw [e]; rfl⟩) ha
  have hp := findL_none (v := .bool true) hf
  refine ⟨_, hM, fun p hp' => ?_, fun x => ?_, ?_⟩
  · rw [hp] at hp'
    rcases List.mem_append.1 hp' with h | h
    · exact h2 p h
    · simp at h; rw [h]
  · rw [atL_put, List.mem_cons]
    by_cases e : x = a
    · rw [if_pos e]; simp [e]
    · rw [if_neg e, ← h3]; simp [e]
  · rw [hp, List.length_append, h4]; rfl

/-- 'row' at a good tree. -/
theorem row_tg (X : Nat → Prop) (U : List Lb) (s m : Nat) (first : Int) (w : World) (S : Kn) (hS : SolAt X s m first w S) (hK : KG U S) (hU : U.length ≤ 100000) (b : Nat) (t : Ut) (hb : NodeAt X w b t) (g : TG U S t) (hr : isRowB t.k = true) :
    Calls Try.prog 103 #[pk s, pk b] w (RowPost X U S t w) := by
  obtain ⟨k, n, fs, tl⟩ := t
  obtain rfl := okT_num g.pend.1 (isRow_k hr).1
  exact row_any2 X U s m first w S hS hK hU b k fs tl hb g hr

theorem hasC_labs {X : Nat → Prop} {w : World} {cl : List (ByteArray × Nat)} {x : Fl} (h : ChAt X w cl x) (l : Lb) : hasC l cl = hasL l (labsF x) := by
  rw [← h.labs]
  unfold hasC hasL
  rw [List.any_map]
  rfl

/-! ### Trees lie in no map's block -/
section
variable {X : Nat → Prop} {w : World} {dm : Nat} {es : Array MapEntry} {ck : Nat}
theorem map_cell (hm : w.heap[dm]? = some (.map es ck)) (o : Nat) : w.cell? ⟨dm, o, none⟩ = none := by simp [World.cell?, hm]
theorem Lies.offMap {α : Type} {enc : α → List Value} {size : Nat} {A : Option Addr} {l : List α} (h : Lies X size enc w A l) (he : ∀ x, enc x ≠ []) (hm : w.heap[dm]? = some (.map es ck)) : Lies (fun k => X k ∨ k = dm) size enc w A l := fun hl => by
  obtain ⟨b, o, e, h1, h2, h3⟩ := h hl
  refine ⟨b, o, e, fun hb => ?_, h2, h3⟩
  rcases hb with hb | rfl
  · exact h1 hb
  · cases l with
    | nil => exact hl rfl
    | cons x l =>
      cases hx : enc x with
      | nil => exact he x hx
      | cons u us =>
        have := h3 0 x rfl 0 u (by rw [hx]; rfl)
        rw [map_cell hm] at this
        cases this
theorem TailAt.offMap {v : Value} {tl : Option Int} (h : TailAt X w v tl) (hm : w.heap[dm]? = some (.map es ck)) : TailAt (fun k => X k ∨ k = dm) w v tl := by
  cases tl with
  | none => exact h
  | some q =>
    obtain ⟨b, e, h1, h2⟩ := h
    refine ⟨b, e, fun hb => ?_, h2⟩
    rcases hb with hb | rfl
    · exact h1 hb
    · rw [hm] at h2; cases h2
theorem NodeAt.offMap {b : Nat} {t : Ut} (h : NodeAt X w b t) (hm : w.heap[dm]? = some (.map es ck)) : NodeAt (fun k => X k ∨ k = dm) w b t := by
  induction h with
  | mk b k n fs tl A B ls bs ca cb tv hx hb hn hl hA hB hlen hk ht ih =>
    refine .mk b k n fs tl A B ls bs ca cb tv (fun h => ?_) hb hn hl (hA.offMap (fun x => by simp [encL]) hm) (hB.offMap (fun x => by simp [encB]) hm) hlen ih (ht.offMap hm)
    rcases h with h | rfl
    · exact hx h
    · rw [hm] at hb; cases hb
theorem SolAt.offMap {s m : Nat} {first : Int} {S : Kn} (h : SolAt X s m first w S) (hm : w.heap[dm]? = some (.map es ck)) : SolAt (fun k => X k ∨ k = dm) s m first w S := by
  obtain ⟨a1, a2, a3, a4, l, a5, a6⟩ := h
  refine ⟨a1, .inl a2, .inl a3, a4, l, a5, fun n => ?_⟩
  have := a6 n
  cases hk : S.κ n with
  | none => rw [hk] at this; exact this
  | some t =>
    rw [hk] at this
    obtain ⟨b, e, hn⟩ := this
    exact ⟨b, e, hn.offMap hm⟩
/-- A map that is no one's is written: the solver stands, and trees. -/
theorem SolAt.past {s m : Nat} {first : Int} {S : Kn} {w' : World} (h : SolAt (SX s m) s m first w S) (hm : w.heap[dm]? = some (.map es ck)) (hs : dm ≠ s) (hm2 : dm ≠ m) (hf : Fr (fun k => k = dm) w w') : SolAt (SX s m) s m first w' S :=
  ((h.offMap hm).fr hf fun k _ e => by
    have e : k = dm := e
    subst e
    exact ⟨.inr rfl, hs, hm2⟩).more (.inl rfl) (.inr rfl) fun k _ e => .inl e
theorem NodeAt.past {b : Nat} {t : Ut} {w' : World} (h : NodeAt X w b t) (hm : w.heap[dm]? = some (.map es ck)) (hf : Fr (fun k => k = dm) w w') : NodeAt X w' b t :=
  ((h.offMap hm).fr hf fun _k _ e => .inr e).more fun _k _ e => .inl e
end

theorem put_facts {w3 w5 : World} {c d : ByteArray × Nat} {dm : Nat} (hdm : dm < w3.heap.size) (hg : ((w3.alloc (.cells #[.string c.1, .pointer (some ⟨c.2, 0, none⟩)] 150)).alloc (.cells #[.string d.1, .pointer (some ⟨d.2, 0, none⟩)] 150)).grownBy w5 (some dm)) :
    Fr (fun k => k = dm) w3 w5 ∧ w5.cell? ⟨w3.heap.size, 1, none⟩ = some (.pointer (some ⟨c.2, 0, none⟩)) ∧ w5.cell? ⟨w3.heap.size + 1, 1, none⟩ = some (.pointer (some ⟨d.2, 0, none⟩)) := by
  have hX5 : Fr (fun k => k = dm) w3 w5 := (Fr.below (ext_alloc (ext_alloc (Below.refl w3.heap.size w3) (.cells #[.string c.1, .pointer (some ⟨c.2, 0, none⟩)] 150)) (.cells #[.string d.1, .pointer (some ⟨d.2, 0, none⟩)] 150))).trans (Fr.grown hg fun k hk => by injection hk with hk; exact hk.symm)
  have hz1 : (w3.alloc (.cells #[.string c.1, .pointer (some ⟨c.2, 0, none⟩)] 150)).heap.size = w3.heap.size + 1 := by simp
  have b1 : w5.heap[w3.heap.size]? = some (.cells #[.string c.1, .pointer (some ⟨c.2, 0, none⟩)] 150 (0, 0)) := by
    rw [hg.block w3.heap.size (by simp; omega) (fun e => by injection e with e; omega)]
    exact (Below.heap_alloc _ _ w3.heap.size (by simp)).trans (heap_alloc_new w3 _)
  have b2 : w5.heap[w3.heap.size + 1]? = some (.cells #[.string d.1, .pointer (some ⟨d.2, 0, none⟩)] 150 (0, 0)) := by
    rw [hg.block (w3.heap.size + 1) (by simp) (fun e => by injection e with e; omega), ← hz1]
    exact heap_alloc_new _ _
  exact ⟨hX5, by simp [World.cell?, b1], by simp [World.cell?, b2]⟩

set_option maxRecDepth 100000 in
set_option maxHeartbeats 4000000 in
theorem rows_any (hE : EndsAll) (U : List Lb) (s m : Nat) (first : Int) (S0 : Kn) (a b : Ut) (ba bb : Nat) (w : World) (h : AgH U s m first S0 a b ba bb w) (hk : isRowB a.k = true) (hab : b.k = a.k)
    (ih : ∀ (S : Kn) (c d : Ut) (bc bd : Nat) (w' : World), AgLess S0 a b S c d → AgH U s m first S c d bc bd w' → AgAt U s m first S c d bc bd w') :
    Calls Try.prog 112 #[pk s, pk ba, pk bb] w (AgPost U S0 a b (dynT a + dynT b) s m first w) := by
  have HE := Lib.hid hE
  have HH := Lib.hid h
  have HK := Lib.hid (And.intro hk hab)
  have HI := Lib.hid ih
  have c0 : w.cell? ⟨ba, 0, none⟩ = some (.int .i64 a.k) := by obtain ⟨k, n, fs, tl⟩ := a; exact h.na.cells.1
  have HC0 := Lib.hid (And.intro c0 h.na.lt)
  have hns : ∀ k, k < w.heap.size → SX s m k → (k ≠ ba) := fun k _ hx e => h.na.out (e ▸ hx)
  have HNS := Lib.hid hns
  clear hE h hk hab ih c0 hns
  unfold pk
  have mk := @run_makeMap Try.prog
  go_enter Try.func112, Try.ntmps112
  go_wp2_with fail
  go_loopw [] (fun wr => ∃ (S : Kn) (D : List Lb), Hid (RowsI U S0 S a b D ∧ SolAt (SX s m) s m first wr S ∧ DoneK wr w.heap.size D ∧ Fr (SX s m) w wr)) (fun wr => U.length - muMap w.heap.size wr)
  case atStart =>
    have hba : Below w.heap.size w (w.alloc (.map #[] 0)) := ext_alloc (Below.refl _ _) _
    exact ⟨S0, [], Lib.hid ⟨.start HH.out.kg a b, HH.out.sol.bel hba, ⟨[], ⟨#[], 0, heap_alloc_new w _, rfl⟩, fun p hp => by simp at hp, fun a => by simp [atL_nil], rfl⟩, Fr.below hba⟩⟩
  case round =>
    obtain ⟨S, D, M⟩ := hrel
    clear mk
    have HTA := Lib.hid (HH.out.ta.later M.out.1.lp.le)
    have HTB := Lib.hid (HH.out.tb.later M.out.1.lp.le)
    have HNA : Hid (NodeAt (SX s m) wr ba a) := Lib.hid (HH.out.na.fr M.out.2.2.2 fun _ _ h => h)
    have HNB : Hid (NodeAt (SX s m) wr bb b) := Lib.hid (HH.out.nb.fr M.out.2.2.2 fun _ _ h => h)
    have hA := Lib.hid (row_tg (SX s m) U s m first wr S M.out.2.1 M.out.1.kg HH.out.hU ba a HNA.out HTA.out HK.out.1)
    unfold pk at hA
    go_wp2_with fail
    refine hA.out.mono ?_
    clear hA
    rintro e w1 ⟨A, cap, cl, x, p, tv, rfl, ra, hc, ht, ho, hb⟩
    obtain ⟨ta, rfl⟩ := ht.ptr
    have H1 := Lib.hid (And.intro ra (And.intro hc (And.intro ht (And.intro (OwnL.read encC_len ho) hb))))
    clear ra hc ht ho hb
    have hB := Lib.hid (row_tg (SX s m) U s m first w1 S (M.out.2.1.bel H1.out.2.2.2.2) M.out.1.kg HH.out.hU bb b (HNB.out.bel H1.out.2.2.2.2) HTB.out (by rw [HK.out.2]; exact HK.out.1))
    unfold pk at hB
    go_wp2_with fail
    refine hB.out.mono ?_
    clear hB
    rintro e w2 ⟨B, cbp, dl, y, q, tv2, rfl, rb, hc, ht, ho, hb⟩
    obtain ⟨tb, rfl⟩ := ht.ptr
    have H2 := Lib.hid (And.intro rb (And.intro hc (And.intro ht (And.intro (OwnL.read encC_len ho) hb))))
    clear rb hc ht ho hb
    have lx : Hid (cl.length ≤ 100000 ∧ dl.length ≤ 100000) := Lib.hid ⟨by have := H1.out.1.len; have := H1.out.2.1.1; have := HH.out.hU; omega, by have := H2.out.1.len; have := H2.out.2.1.1; have := HH.out.hU; omega⟩
    have hD2 : Hid (DoneK w2 w.heap.size D) := Lib.hid (by
      have hl := M.out.2.2.1.m.lt
      exact M.out.2.2.1.bel ((H2.out.2.2.2.2.block _ (Nat.lt_of_lt_of_le hl H1.out.2.2.2.2.size)).trans (H1.out.2.2.2.2.block _ hl)))
    have hSh := Lib.hid (shared_any A B cap cbp cl dl w.heap.size D w2 ((H1.out.2.2.2.1.below H2.out.2.2.2.2).more H2.out.2.2.2.2.size) H2.out.2.2.2.1 (by have := lx.out; omega) (by have := lx.out; omega) hD2.out.m)
    go_wp2_with fail
    refine hSh.out.mono ?_
    clear hSh
    rintro e w3 ⟨hb3, hq⟩
    have hbw : Hid (Below wr.heap.size wr w3) := Lib.hid (ext_trans (ext_trans H1.out.2.2.2.2 H2.out.2.2.2.2) hb3)
    have HB3 := Lib.hid hb3
    clear hb3
    rcases hq with ⟨i, j, c, d, rfl, hci, hdj, hdc, hcD⟩ | ⟨rfl, hall⟩
    all_goals try unfold chV
    · -- one label more
      obtain ⟨pc, hpc⟩ := getq_ex (l := x) (i := i) (by have := getq_lt hci; have := H1.out.2.1.1; omega)
      obtain ⟨pd, hpd⟩ := getq_ex (l := y) (i := j) (by have := getq_lt hdj; have := H2.out.2.1.1; omega)
      obtain ⟨ec, nc⟩ := H1.out.2.1.2 i c pc hci hpc
      obtain ⟨ed, nd⟩ := H2.out.2.1.2 j d pd hdj hpd
      have gc : getF c.1 x = some pc.2 := by
        rw [ec]
        exact getF_of_mem H1.out.1.of.nod (List.mem_of_getElem? hpc)
      have gd : getF c.1 y = some pd.2 := by
        rw [← hdc, ed]
        exact getF_of_mem H2.out.1.of.nod (List.mem_of_getElem? hpd)
      have tc : TG U S pc.2 := H1.out.1.el pc (List.mem_of_getElem? hpc)
      have td : TG U S pd.2 := H2.out.1.el pd (List.mem_of_getElem? hpd)
      have G := Lib.hid (And.intro gc (And.intro gd (And.intro tc (And.intro td (And.intro (nc.bel (ext_trans H2.out.2.2.2.2 HB3.out)) (And.intro (nd.bel HB3.out) hcD))))))
      clear hci hdj hdc hcD hpc hpd ec nc ed nd gc gd tc td
      obtain ⟨l, hM, hl2, hl3, hl4⟩ := hD2.out
      have HL := Lib.hid (And.intro hl2 (And.intro hl3 hl4))
      have hdm3 := hD2.out.m.lt
      have HM : Hid (∀ W, Below w3.heap.size w3 W → KMap sk W w.heap.size l) := Lib.hid fun W hW => hM.later ((hW.block _ (Nat.lt_of_lt_of_le hdm3 HB3.out.size)).trans (HB3.out.block _ hdm3))
      have HDL : Hid (w.heap.size < w3.heap.size) := Lib.hid (Nat.lt_of_lt_of_le hdm3 HB3.out.size)
      clear hM hl2 hl3 hl4 hdm3
      go_wp2_with (refine wpList_putM rfl _ _ _ rfl (HM.out _ (ext_alloc (ext_alloc (Below.refl _ _) _) _)) (keyer_str Try.underlying9 c.1 l) Try.underlying181 (.bool true) rfl rfl rfl ?_; intro w5 hM5 hg5; obtain ⟨hX5, e1, e2⟩ := put_facts HDL.out hg5; have X5 := Lib.hid (And.intro hM5 hX5); clear hM5 hg5 hX5)
      obtain ⟨es3, ck3, hm3, _⟩ := HM.out w3 (Below.refl _ _)
      have hlt := SX_lt HH.out.sol
      have hns : w.heap.size ≠ s ∧ w.heap.size ≠ m := ⟨fun e => by have := hlt s (.inl rfl); omega, fun e => by have := hlt m (.inr rfl); omega⟩
      have hSol : SolAt (SX s m) s m first w5 S := (M.out.2.1.bel hbw.out).past hm3 hns.1 hns.2 X5.out.2
      have nc5 := G.out.2.2.2.2.1.past hm3 X5.out.2
      have nd5 := G.out.2.2.2.2.2.1.past hm3 X5.out.2
      have hfw : Fr (SX s m) w w5 := M.out.2.2.2.new ((Fr.below hbw.out).trans X5.out.2) fun k e => .inr (by have e : k = w.heap.size := e; omega)
      have hmb := HH.out.mb
      have hless := M.out.1.less H1.out.1 H2.out.1 G.out.2.2.2.2.2.2 G.out.1 G.out.2.1
      have hAg : Hid (AgAt U s m first S pc.2 pd.2 c.2 d.2 w5) := Lib.hid (HI.out S pc.2 pd.2 c.2 d.2 w5 (by
        rcases hless with h | ⟨h, rfl, h3⟩
        · exact .inl h
        · exact .inr ⟨h, h3⟩) ⟨hSol, M.out.1.kg, HH.out.hU, nc5, nd5, G.out.2.2.1, G.out.2.2.2.1, by
          have h1 := M.out.1.m
          have h2 := remF_row H1.out.1 D
          have h3 := remF_row H2.out.1 D
          have h4 := remF_cons G.out.2.2.2.2.2.2 G.out.1
          have h5 := remF_cons G.out.2.2.2.2.2.2 G.out.2.1
          omega⟩)
      have W5 := Lib.hid hfw
      have HN := Lib.hid hns
      clear hm3 hlt hns hSol nc5 nd5 hfw hmb hless
      unfold AgAt pk at hAg
      go_wp2_with fail
      refine hAg.out.mono ?_
      clear hAg
      rintro e w6 ⟨r, rfl, f6, d6, s6⟩
      cases r with
      | false =>
        have F6 := Lib.hid (And.intro f6 (d6 rfl))
        clear f6 d6 s6
        go_wp2_with fail
        go_ret
        exact ⟨false, rfl, W5.out.trans F6.out.1, fun _ => M.out.1.fail HH.out.ta.pend HH.out.tb.pend H1.out.1 H2.out.1 HK.out.1 HK.out.2 G.out.1 G.out.2.1 F6.out.2, fun h => by cases h⟩
      | true =>
        obtain ⟨S', hd6, hs6⟩ := s6 rfl
        have F6 := Lib.hid (And.intro f6 (And.intro hd6 hs6))
        clear f6 d6 s6 hd6 hs6
        go_wp2_with fail
        have hnx := M.out.1.next HH.out.ta.pend HH.out.tb.pend H1.out.1 H2.out.1 HK.out.1 HK.out.2 G.out.2.2.2.2.2.2 G.out.1 G.out.2.1 F6.out.2.1
        have hdk : DoneK w6 w.heap.size (c.1 :: D) := (DoneK.put (w := w5) HL.out.1 HL.out.2.1 HL.out.2.2 G.out.2.2.2.2.2.2 X5.out.1).bel (F6.out.1.block _ (Nat.lt_of_lt_of_le HDL.out X5.out.2.size) fun e => by
          rcases e with e | e
          · exact HN.out.1 e
          · exact HN.out.2 e)
        go_roundw
        case rel => exact ⟨S', c.1 :: D, Lib.hid ⟨hnx, F6.out.2.2, hdk, W5.out.trans F6.out.1⟩⟩
        case measure =>
          have h1 := hdk.mu
          have h2 := M.out.2.2.1.mu
          have h3 := nodup_len hnx.nd hnx.lb
          rw [h1, h2]
          simp only [List.length_cons] at h3 ⊢
          omega
    · -- all labels that both have were done
      have hDD : Hid (∀ l, l ∈ labsF x → l ∈ labsF y → l ∈ D) := Lib.hid fun l h1 h2 => by
        rw [← H1.out.2.1.labs] at h1
        obtain ⟨c, hc, rfl⟩ := List.mem_map.1 h1
        exact hall c hc (by rw [hasC_labs H2.out.2.1]; exact hasL_iff.2 h2)
      clear hall
      have hba : Hid (ba < w3.heap.size ∧ w3.cell? ⟨ba, 0, none⟩ = some (.int .i64 a.k)) := Lib.hid (by
        have h1 := HC0.out.2
        have hf : Fr (SX s m) w w3 := M.out.2.2.2.trans (Fr.below hbw.out)
        exact ⟨Nat.lt_of_lt_of_le h1 hf.size, (World.cell?_of_block (w := w) (hf.block ba h1 fun e => HNS.out ba h1 e rfl)).trans HC0.out.1⟩)
      have S0C : Hid (∀ v, Below w3.heap.size w3 v → v.cell? ⟨ba, 0, none⟩ = some (.int .i64 a.k)) := Lib.hid fun v hv => (hv.cell (p := ⟨ba, 0, none⟩) hba.out.1).trans hba.out.2
      have C1 : Hid (ChAt (SX s m) w3 cl x) := Lib.hid (H1.out.2.1.bel (ext_trans H2.out.2.2.2.2 HB3.out))
      have C2 : Hid (ChAt (SX s m) w3 dl y) := Lib.hid (H2.out.2.1.bel HB3.out)
      have R1 : Hid (∀ v, Below w3.heap.size w3 v → ReadL 2 encC v v.heap.size A cl ∧ ReadL 2 encC v v.heap.size B dl) := Lib.hid fun v hv => by
        have b13 := ext_trans (ext_trans H2.out.2.2.2.2 HB3.out) hv
        have b23 := ext_trans HB3.out hv
        exact ⟨(H1.out.2.2.2.1.below b13).more b13.size, (H2.out.2.2.2.1.below b23).more b23.size⟩
      have hW1 := Lib.hid fun v (hv : Below w3.heap.size w3 v) => without_any A B cap cbp cl dl v (R1.out v hv).1 (R1.out v hv).2 (by have := lx.out; omega) (by have := lx.out; omega)
      have hW2 := Lib.hid fun v (hv : Below w3.heap.size w3 v) => without_any B A cbp cap dl cl v (R1.out v hv).2 (R1.out v hv).1 (by have := lx.out; omega) (by have := lx.out; omega)
      have hlt := SX_lt HH.out.sol
      have hwz : Hid (∀ v, Below w3.heap.size w3 v → ∀ k, v.heap.size ≤ k → ¬ SX s m k) := Lib.hid fun v hv k hk e => by
        have h1 := hlt k e
        have h2 := M.out.2.2.2.size
        have h3 := hbw.out.size
        have h4 := hv.size
        omega
      have hEnd : Hid (∀ (v : World) (UA VA : Option Addr) (cu cv : Nat), Below w3.heap.size w3 v → Lies (SX s m) 2 encC v UA (cl.filter fun c => !hasC c.1 dl) → Lies (SX s m) 2 encC v VA (dl.filter fun c => !hasC c.1 cl) →
          Calls Try.prog 146 #[.pointer (some ⟨s, 0, none⟩), .int .i64 a.k, .slice UA (cl.filter fun c => !hasC c.1 dl).length cu, .slice VA (dl.filter fun c => !hasC c.1 cl).length cv, .pointer ta, .pointer tb] v (AgPost U S a b (dynF (lackF x y) + dynF (lackF y x)) s m first v)) := Lib.hid fun v UA VA cu cv hv hu hvv => by
        have hbv : Below wr.heap.size wr v := ext_trans hbw.out hv
        refine HE.out U s m first S a b x y p q v UA VA cu cv _ _ ta tb ⟨M.out.2.1.bel hbv, M.out.1.kg, HH.out.hU, H1.out.1, H2.out.1, HK.out.1, HK.out.2, M.out.1.shared H1.out.1 H2.out.1 hDD.out, HTA.out.pend, HTB.out.pend, ?_, (C1.out.filter C2.out).bel hv, (C2.out.filter C1.out).bel hv, hu, hvv, ?_, ?_⟩
        · have h1 := M.out.1.m
          have h2 := HH.out.mb
          have h3 := H1.out.1.dyn
          have h4 := H2.out.1.dyn
          have h5 : dynF (lackF x y) ≤ dynF x := dynF_sub List.filter_sublist
          have h6 : dynF (lackF y x) ≤ dynF y := dynF_sub List.filter_sublist
          have h7 := HH.out.kg.nn.m
          omega
        · exact H1.out.2.2.1.fr (Fr.below (X := fun _ => False) (ext_trans (ext_trans H2.out.2.2.2.2 HB3.out) hv)) fun _ _ e => e.elim
        · exact H2.out.2.2.1.fr (Fr.below (X := fun _ => False) (ext_trans HB3.out hv)) fun _ _ e => e.elim
      obtain ⟨ul, hul⟩ : ∃ ul, ul = cl.filter fun c => !hasC c.1 dl := ⟨_, rfl⟩
      obtain ⟨vl, hvl⟩ : ∃ vl, vl = dl.filter fun c => !hasC c.1 cl := ⟨_, rfl⟩
      rw [← hul] at hW1
      rw [← hvl] at hW2
      rw [← hul, ← hvl] at hEnd
      clear hul hvl hlt
      go_wp2_with fail
      go_region_held3 (fun v => v.cell? ⟨ba, 0, none⟩ = some (.int .i64 a.k))
        (first
          | exact S0C.out _ (ext_alloc (ext_alloc (Below.refl _ _) _) _).drew
          | exact S0C.out _ B4.out
          | exact S0C.out _ B5.out
          | exact S6.out)
        (first
          | (go_at_call 147; (with_reducible refine (hW1.out _ (ext_alloc (ext_alloc (Below.refl _ _) _) _).drew).mono ?_); rintro e w4 ⟨A4, cap4, rfl, ho4, hb4⟩; have B4 := Lib.hid (ext_trans (ext_alloc (ext_alloc (Below.refl w3.heap.size w3) _) _).drew hb4); have O4 := Lib.hid (Lies.of_own encC_len ho4 fun k h1 _ => hwz.out _ (ext_alloc (ext_alloc (Below.refl _ _) _) _).drew k h1); clear ho4 hb4)
          | (go_at_call 147; (with_reducible refine (hW2.out _ B4.out).mono ?_); rintro e w5 ⟨A5, cap5, rfl, ho5, hb5⟩; have B5 := Lib.hid (ext_trans B4.out hb5); have O5 := Lib.hid (Lies.of_own encC_len ho5 fun k h1 _ => hwz.out _ B4.out k h1); have O6 := Lib.hid (O4.out.fr (Fr.below (X := fun _ => False) hb5) fun _ _ e => e.elim); clear ho5 hb5)
          | (go_at_call 146; (with_reducible refine (hEnd.out _ _ _ _ _ B5.out O6.out O5.out).mono ?_); rintro e w6 ⟨r, rfl, f6, d6, s6⟩; have S6 := Lib.hid ((World.cell?_of_block (w := w5) (f6.block ba (Nat.lt_of_lt_of_le hba.out.1 B5.out.size) fun e => HNS.out ba HC0.out.2 e rfl)).trans (S0C.out _ B5.out)); have F6 := Lib.hid (And.intro f6 (And.intro d6 s6)); clear f6 d6 s6))
      all_goals
        go_wp2_with fail
        go_ret
        refine ⟨r, rfl, (M.out.2.2.2.trans (Fr.below (ext_trans hbw.out B5.out))).trans F6.out.1, fun h => M.out.1.dis HH.out.ta.pend HH.out.tb.pend (F6.out.2.1 h), fun h => ?_⟩
        obtain ⟨S', h1, h2⟩ := F6.out.2.2 h
        exact ⟨S', M.out.1.stop HH.out.ta.pend HH.out.tb.pend H1.out.1 H2.out.1 h1, h2⟩
end Go.Proofs.Ytblfeokjlecgkaa
