/- Laid together by a tool from the texts of this seat: ChM ChN RowA. Conditions: each theorem's own. -/
import Derived.Test.YtmjdhfbnmmdjiaaGreatK06
import Derived.Test.YtmjdhfbnmmdjiaaGreatK05
import Derived.BigQuiet
import Derived.Laws.EntriesVeiled
/- prec.Meet. -/
namespace Go.Proofs.YtmjdhfbnmmdjiaaGreat
open Go.RowKit

theorem meet1_eg : ∀ args w, (callFunc 138 args).run Tryz.prog w = .ok (.enter 138 args) w := by
  intro args w
  kernel_rfl

/-- What the closure of Meet holds. -/
structure MeetM (bo bd pa pb : Nat) (A B : Option Addr) (c d : Nat) (a b : List Nd) (lo : Nat) (OA : Option Addr) (oc : Nat) (OUT : List Nd) (dn : Nat) (w : World) : Prop where
  co : w.heap[bo]? = some (.cells #[.slice OA OUT.length oc] 28 (0, 0))
  cd : w.heap[bd]? = some (.cells #[.int .i64 (dn : Int)] 3 (0, 0))
  ca : w.heap[pa]? = some (.cells #[.slice A a.length c] 28 (0, 0))
  cb : w.heap[pb]? = some (.cells #[.slice B b.length d] 28 (0, 0))
  own : OwnN w lo OA oc OUT
  lo : lo ≤ w.heap.size
/-- Its blocks lie apart. -/
structure MeetO (bo bd pa pb base lo : Nat) : Prop where
  o : base ≤ bo ∧ bo < lo
  d : base ≤ bd ∧ bd < lo
  a : base ≤ pa ∧ pa < lo
  b : base ≤ pb ∧ pb < lo
  od : bo ≠ bd
  oa : bo ≠ pa
  ob : bo ≠ pb
  da : bd ≠ pa
  db : bd ≠ pb
def MeetY (bo bd : Nat) (OA : Option Addr) (q : Nat) : Prop := q = bo ∨ q = bd ∨ ∃ p, OA = some p ∧ p.block = q

section
variable {bo bd pa pb base lo : Nat} {A B : Option Addr} {c d : Nat} {a b : List Nd} {OA : Option Addr} {oc : Nat} {OUT : List Nd} {dn : Nat} {w w' : World}
theorem MeetM.later (h : MeetM bo bd pa pb A B c d a b lo OA oc OUT dn w) (k : MeetO bo bd pa pb base lo) (hb : Below w.heap.size w w') : MeetM bo bd pa pb A B c d a b lo OA oc OUT dn w' := by
  have := h.lo
  have := k.o.2
  have := k.d.2
  have := k.a.2
  have := k.b.2
  exact ⟨(hb.block _ (by omega)).trans h.co, (hb.block _ (by omega)).trans h.cd, (hb.block _ (by omega)).trans h.ca, (hb.block _ (by omega)).trans h.cb, h.own.below hb (Nat.le_refl _), Nat.le_trans h.lo hb.size⟩
theorem MeetM.cells (h : MeetM bo bd pa pb A B c d a b lo OA oc OUT dn w) : w.cell? ⟨bo, 0, none⟩ = some (.slice OA OUT.length oc) ∧ w.cell? ⟨bd, 0, none⟩ = some (.int .i64 (dn : Int)) ∧ w.cell? ⟨pa, 0, none⟩ = some (.slice A a.length c) ∧ w.cell? ⟨pb, 0, none⟩ = some (.slice B b.length d) :=
  ⟨by simp [World.cell?, h.co], by simp [World.cell?, h.cd], by simp [World.cell?, h.ca], by simp [World.cell?, h.cb]⟩
theorem MeetM.frozen (h : MeetM bo bd pa pb A B c d a b lo OA oc OUT dn w) : w.frozen? ⟨bo, 0, none⟩ = false ∧ w.frozen? ⟨bd, 0, none⟩ = false :=
  ⟨by simp [World.frozen?, h.co], by simp [World.frozen?, h.cd]⟩
/-- What was appended is put. -/
theorem MeetM.app (h : MeetM bo bd pa pb A B c d a b lo OA oc OUT dn w) (k : MeetO bo bd pa pb base lo) {A7 : Option Addr} {oc7 : Nat} {l2 : List Nd} {w7 : World} (hown : OwnN w7 lo A7 oc7 (OUT ++ l2)) (hg : w.grownBy w7 ((Value.slice OA OUT.length oc).ownBlock))
    (hA : (Value.slice A7 (OUT.length + l2.length) oc7).ownBlock = (Value.slice OA OUT.length oc).ownBlock ∨ (Value.slice A7 (OUT.length + l2.length) oc7).ownBlock = some w.heap.size) :
    MeetM bo bd pa pb A B c d a b lo A7 oc7 (OUT ++ l2) dn (w7.setCell ⟨bo, 0, none⟩ (.slice A7 (OUT.length + l2.length) oc7)) ∧ Fr (MeetY bo bd OA) w (w7.setCell ⟨bo, 0, none⟩ (.slice A7 (OUT.length + l2.length) oc7)) ∧
      (∀ q, MeetY bo bd A7 q → MeetY bo bd OA q ∨ w.heap.size ≤ q) ∧ MeetM bo bd pa pb A B c d a b lo OA oc OUT dn w ∧
      w7.cell? ⟨bo, 0, none⟩ = some (.slice OA OUT.length oc) ∧ w7.cell? ⟨bd, 0, none⟩ = some (.int .i64 (dn : Int)) ∧ w7.cell? ⟨pa, 0, none⟩ = some (.slice A a.length c) ∧ w7.cell? ⟨pb, 0, none⟩ = some (.slice B b.length d) ∧ w7.frozen? ⟨bo, 0, none⟩ = false := by
  have hlo := h.lo
  have k1 := k.o.2
  have k2 := k.d.2
  have k3 := k.a.2
  have k4 := k.b.2
  have off : ∀ q, q < lo → ¬ (Value.slice OA OUT.length oc).ownBlock = some q := fun q hq e => by
    have := (OwnL.block h.own q e).1
    omega
  have bk : ∀ q, q < lo → w7.heap[q]? = w.heap[q]? := fun q hq => hg.block q (by omega) fun e => off q hq e.symm
  have bo7 := (bk bo k1).trans h.co
  have bd7 := (bk bd k2).trans h.cd
  have ba7 := (bk pa k3).trans h.ca
  have bb7 := (bk pb k4).trans h.cb
  have hne : ∀ q, q ≠ bo → ∀ u : Value, (w7.setCell ⟨bo, 0, none⟩ u).heap[q]? = w7.heap[q]? := fun q hq u => Below.heap_setCell _ _ _ _ hq
  refine ⟨⟨?_, ?_, ?_, ?_, ?_, ?_⟩, ?_, ?_, h, by simp [World.cell?, bo7], by simp [World.cell?, bd7], by simp [World.cell?, ba7], by simp [World.cell?, bb7], by simp [World.frozen?, bo7]⟩
  · have := heap_set bo7 0 (.slice A7 (OUT.length + l2.length) oc7)
    rw [this, List.length_append]
    rfl
  · rw [hne _ (Ne.symm k.od)]; exact bd7
  · rw [hne _ (Ne.symm k.oa)]; exact ba7
  · rw [hne _ (Ne.symm k.ob)]; exact bb7
  · exact OwnL.fr (Y := fun q => q = bo) hown (Fr.setCell (X := fun q => q = bo) (Fr.refl _ _) (.inl rfl) _) fun p hp e => by
      have := (OwnL.lt hown p hp).1
      omega
  · have := hg.size
    simp [World.setCell]
    omega
  · refine Fr.setCell (Fr.grown hg fun q e => ?_) (.inl (.inl rfl)) _
    obtain ⟨p, hp, hb⟩ := ownBlock_of e
    exact .inr (.inr ⟨p, hp, hb⟩)
  · rintro q (e | e | ⟨p, hp, hb⟩)
    · exact .inl (.inl e)
    · exact .inl (.inr (.inl e))
    · subst hp
      rcases hA with e | e
      · obtain ⟨p2, hp2, hb2⟩ := ownBlock_of e.symm
        exact .inl (.inr (.inr ⟨p2, hp2, hb2.trans hb⟩))
      · simp [Value.ownBlock] at e
        exact .inr (by omega)
/-- done is put. -/
theorem MeetM.put (h : MeetM bo bd pa pb A B c d a b lo OA oc OUT dn w) (k : MeetO bo bd pa pb base lo) (n : Nat) :
    MeetM bo bd pa pb A B c d a b lo OA oc OUT n (w.setCell ⟨bd, 0, none⟩ (.int .i64 (n : Int))) ∧ Fr (MeetY bo bd OA) w (w.setCell ⟨bd, 0, none⟩ (.int .i64 (n : Int))) := by
  have hne : ∀ q, q ≠ bd → ∀ u : Value, (w.setCell ⟨bd, 0, none⟩ u).heap[q]? = w.heap[q]? := fun q hq u => Below.heap_setCell _ _ _ _ hq
  refine ⟨⟨?_, ?_, ?_, ?_, ?_, ?_⟩, Fr.setCell (Fr.refl _ _) (.inl (.inr (.inl rfl))) _⟩
  · rw [hne _ k.od]; exact h.co
  · exact heap_set h.cd 0 _
  · rw [hne _ (Ne.symm k.da)]; exact h.ca
  · rw [hne _ (Ne.symm k.db)]; exact h.cb
  · exact OwnL.fr (Y := fun q => q = bd) h.own (Fr.setCell (X := fun q => q = bd) (Fr.refl _ _) (.inl rfl) _) fun p hp e => by
      have := (OwnL.lt h.own p hp).1
      have := k.d.2
      omega
  · have := h.lo
    simp [World.setCell]
    omega
end
/-- What Meet's closure keeps: what was put out, and what of the first one stands between. -/
structure MeetSt (bo bd pa pb : Nat) (A B : Option Addr) (c d : Nat) (a b : List Nd) (lo : Nat) (Y : Nat → Prop) (M : List Nd) (i k : Nat) (w : World) (OA : Option Addr) (oc : Nat) (OUT : List Nd) (dn : Nat) : Prop where
  m : MeetM bo bd pa pb A B c d a b lo OA oc OUT dn w
  di : dn ≤ i
  il : i ≤ a.length
  all : M = OUT ++ (a.take i).drop dn
  few : M.length ≤ i + k
  y : ∀ q, Y q ↔ MeetY bo bd OA q
def MeetS (bo bd pa pb : Nat) (A B : Option Addr) (c d : Nat) (a b : List Nd) (lo : Nat) (Y : Nat → Prop) (M : List Nd) (i k : Nat) (w : World) : Prop := ∃ OA oc OUT dn, MeetSt bo bd pa pb A B c d a b lo Y M i k w OA oc OUT dn

theorem take_drop_succ {a : List Nd} {i dn : Nat} {x : Nd} (h : a[i]? = some x) (hd : dn ≤ i) : (a.take (i + 1)).drop dn = (a.take i).drop dn ++ [x] := by
  have hi := getq_lt h
  rw [List.take_add_one, h, Option.toList_some, List.drop_append_of_le_length (by simp; omega)]
theorem take_drop_part {a ts r : List Nd} {i : Nat} (h : a.drop i = ts ++ r) : (a.take (i + ts.length)).drop i = ts := by
  rw [List.drop_take, h, Nat.add_sub_cancel_left, List.take_left]
theorem drop_len {a ts r : List Nd} {i : Nat} (h : a.drop i = ts ++ r) (hp : 0 < ts.length) : i + ts.length ≤ a.length := by
  have := congrArg List.length h
  rw [List.length_drop, List.length_append] at this
  omega

set_option maxRecDepth 100000 in
set_option maxHeartbeats 8000000 in
theorem meet1_any (bo bd pa pb base lo : Nat) (A B : Option Addr) (c d : Nat) (a b : List Nd) (hO : MeetO bo bd pa pb base lo) (hla : a.length ≤ 1000000000) (hlb : b.length ≤ 1000000000) (hc : a.length ≤ c) (hd : b.length ≤ d)
    (Y : Nat → Prop) (M : List Nd) (i k : Nat) (ts us r s : List Nd) (w : World) (hda : a.drop i = ts ++ r) (hdb : b.drop k = us ++ s) (hoa : okAll ts) (hob : okAll us) (h1 : Fo 1 ts) (h2 : Fo 1 us) (hA : TyA w base A a) (hB : TyA w base B b) (hbw : base ≤ w.heap.size) (hS : MeetS bo bd pa pb A B c d a b lo Y M i k w) :
    Calls Tryz.prog 138 (#[.int .i64 i, .int .i64 k] ++ #[.pointer (some ⟨bo, 0, none⟩), .pointer (some ⟨pa, 0, none⟩), .pointer (some ⟨bd, 0, none⟩), .pointer (some ⟨pb, 0, none⟩)]) w
      fun e w' => e = .returned (.bool true) ∧ Fr Y w w' ∧ ∃ Y', MeetS bo bd pa pb A B c d a b lo Y' (M ++ if (headNd us).k = 0 then ts else us) (i + ts.length) (k + us.length) w' ∧ ∀ q, Y' q → Y q ∨ w.heap.size ≤ q := by
  obtain ⟨OA, oc, OUT, dn, S0⟩ := hS
  rcases us with _ | ⟨y, yt⟩
  · exact absurd h2.pos (by simp)
  have hlt := drop_len hda h1.pos
  have hlu := drop_len hdb h2.pos
  have hpt := h1.pos
  have hy : b[k]? = some y := getq_of_drop hdb
  obtain ⟨x, hx⟩ := getq_ex (l := a) (i := i) (by omega)
  obtain ⟨b1, o1, eA, hb1, c10, c11, c12⟩ := hA.at_ hx
  obtain ⟨b2, o2, eB, hb2, c20, c21, c22⟩ := hB.at_ hy
  subst eA eB
  have hdi := S0.di
  have hil := S0.il
  have hOL : OUT.length + (i - dn) ≤ i + k := by
    have := S0.few
    rw [S0.all, List.length_append, sub_len S0.il] at this
    exact this
  have H := Lib.hid S0
  have HA := Lib.hid (And.intro hA hB)
  have HD := Lib.hid (And.intro hda (And.intro hdb (And.intro hoa (And.intro hob (And.intro h1 h2)))))
  have HY := Lib.hid hy
  have HO := Lib.hid hO
  clear hda hdb hoa hob h1 h2 hA hB S0 hO hx hy c10 c11 c12 c20 c21 c22
  simp only [List.length_cons] at hlu
  go_enter Tryz.func138, Tryz.ntmps138
  go_upto_region 1 with fail
  have hcc : i ≤ c := by omega
  have hdc : dn < c := by omega
  have hii : i < c := by omega
  have hic : i + ts.length ≤ c := by omega
  have hkk : k + (yt.length + 1) ≤ d := by omega
  have hkd : k < d := by omega
  obtain ⟨ie, hie⟩ : ∃ ie, ie = i + ts.length := ⟨_, rfl⟩
  have hie1 : i ≤ ie := by omega
  have hie2 : ie ≤ c := by omega
  obtain ⟨ke, hke⟩ : ∃ ke, ke = k + (y :: yt).length := ⟨_, rfl⟩
  have hie3 : ie ≤ a.length := by omega
  have hke3 : ke ≤ b.length := by rw [hke]; simp only [List.length_cons]; omega
  have hke1 : k ≤ ke := by omega
  have hke2 : ke ≤ d := by rw [hke]; simp only [List.length_cons]; omega
  have Hie := Lib.hid hie
  have Hke := Lib.hid hke
  clear hie hke
  obtain ⟨on, hon⟩ : ∃ on, on = OUT.length := ⟨_, rfl⟩
  obtain ⟨SS, hSS⟩ : ∃ SS : World → Prop, SS = fun v => v.cell? ⟨bo, 0, none⟩ = some (.slice OA on oc) ∧ v.cell? ⟨bd, 0, none⟩ = some (.int .i64 (dn : Int)) ∧ v.cell? ⟨pa, 0, none⟩ = some (.slice (some ⟨b1, o1, none⟩) a.length c) ∧ v.cell? ⟨pb, 0, none⟩ = some (.slice (some ⟨b2, o2, none⟩) b.length d) := ⟨_, rfl⟩
  obtain ⟨wd, hwd⟩ : ∃ wd, wd = w.drew := ⟨_, rfl⟩
  have HBd : Hid (Below w.heap.size w wd) := Lib.hid (by rw [hwd]; exact (Below.refl _ _).drew)
  have HMd := Lib.hid (H.out.m.later HO.out HBd.out)
  have hsd : SS wd := by rw [hSS, hon]; exact HMd.out.cells
  refine wp_region_L_drew (S := SS) [6] (by kernel_rfl) (by rw [← hwd]; exact hsd) (fun hHeld => ?_)
  rw [← hwd] at hHeld ⊢
  clear hwd
  refine onA 0 [5, 6] (some 9) rfl rfl ?_
  refine onA 1 [4, 5, 6] (some 10) rfl rfl ?_
  refine onA 2 [4, 5, 6] (some 11) rfl rfl ?_
  refine onA 3 [4, 5, 6] (some 12) rfl rfl ?_
  refine onA 4 [5, 6] (some 13) rfl rfl ?_
  refine putA ?_
  have HT1 : Hid (TyA wd base (if c = dn then some ⟨b1, o1, none⟩ else some ⟨b1, o1 + dn * 3, none⟩) ((a.take i).drop dn)) := Lib.hid (by
    rw [if_neg (by omega)]
    exact (HA.out.1.below (HBd.out.mono hbw)).sub dn i)
  refine oneL 5 rfl (by kernel_rfl) (by rfl) ?_
  refine op_appM (.tmp 9) (.tmp 13) (by rfl) lo (m := OUT.length) (n := i - dn) rfl (by rfl) HMd.out.own (sub_len hil) (by rfl) HT1.out (by omega) HMd.out.lo (some 14) rfl ?_
  intro A7 oc7 w7 hown7 hg7 hA7
  have K7 := Lib.hid (HMd.out.app HO.out hown7 hg7 hA7)
  have SS7 : SS w7 := by rw [hSS, hon]; exact ⟨K7.out.2.2.2.2.1, K7.out.2.2.2.2.2.1, K7.out.2.2.2.2.2.2.1, K7.out.2.2.2.2.2.2.2.1⟩
  clear hown7 hg7 hA7
  refine ⟨fun _ => SS7, ?_⟩
  refine putA ?_
  have kf := K7.out.2.2.2.2.2.2.2.2
  have ka := K7.out.2.2.2.2.1
  refine skipL 6 none (w' := ?_) rfl rfl (by kernel_rfl) (by rfl) ?_ (zL (by kernel_rfl)) ?_
  rotate_left
  · (go_simp; try with_reducible rfl)
  refine putA ?_
  refine doneL (by kernel_rfl) ?_ _
  clear kf ka SS7 hHeld hsd
  obtain ⟨w8, hw8⟩ : ∃ w8, w8 = w7.setCell ⟨bo, 0, none⟩ (.slice A7 (OUT.length + (i - dn)) oc7) := ⟨_, rfl⟩
  rw [← hw8]
  have HM8 : Hid (MeetM bo bd pa pb (some ⟨b1, o1, none⟩) (some ⟨b2, o2, none⟩) c d a b lo A7 oc7 (OUT ++ (a.take i).drop dn) dn w8 ∧ Fr (MeetY bo bd OA) w w8 ∧ (∀ q, MeetY bo bd A7 q → MeetY bo bd OA q ∨ w.heap.size ≤ q)) := Lib.hid (by
    have h1 := K7.out.1
    have h2 := K7.out.2.1
    rw [sub_len hil, ← hw8] at h1 h2
    exact ⟨h1, (Fr.below HBd.out).trans h2, fun q hq => by
      rcases K7.out.2.2.1 q hq with h | h
      · exact .inl h
      · exact .inr (Nat.le_trans HBd.out.size h)⟩)
  have HO8 : Hid ((OUT ++ (a.take i).drop dn).length = OUT.length + (i - dn)) := Lib.hid (by rw [List.length_append, sub_len hil])
  clear hw8
  have hY8 : ∀ q, MeetY bo bd OA q → base ≤ q := fun q hq => by
    rcases hq with e | e | ⟨p, hp, hb⟩
    · have := HO.out.o; omega
    · have := HO.out.d; omega
    · have := (OwnL.lt H.out.m.own p hp).1
      have := HO.out.o
      omega
  have HW8 : Hid (∀ v, Below w8.heap.size w8 v → TyA v base (some ⟨b1, o1, none⟩) a ∧ TyA v base (some ⟨b2, o2, none⟩) b ∧ base ≤ v.heap.size) := Lib.hid fun v hv => by
    have hz := HM8.out.2.1.size
    have hbb : Below base w v := ⟨hv.os.trans HM8.out.2.1.os, hv.tape.trans HM8.out.2.1.tape, hv.output.trans HM8.out.2.1.output, Nat.le_trans hz hv.size, fun q hq => (hv.block q (by omega)).trans (HM8.out.2.1.block q (by omega) fun e => by have := hY8 q e; omega)⟩
    exact ⟨HA.out.1.below hbb, HA.out.2.below hbb, Nat.le_trans hbw hbb.size⟩
  obtain ⟨ka1, ka2, ka3, ka4⟩ := HM8.out.1.cells
  have kf2 := HM8.out.1.frozen.2
  have Hend := Lib.hid (pEnd_any (some ⟨b1, o1, none⟩) c a ts r i w8 (((HW8.out w8 (Below.refl _ _)).1).more (HW8.out w8 (Below.refl _ _)).2.2) hla HD.out.1 HD.out.2.2.1 HD.out.2.2.2.2.1)
  rw [← Hie.out] at Hend
  clear hY8
  go_wp2_with fail
  refine Hend.out.mono ?_
  rintro e w9 ⟨rfl, hb9⟩
  clear ka1 ka2 ka3 ka4 kf2
  have HM9 := Lib.hid (HM8.out.1.later HO.out hb9)
  have HW9 : Hid (∀ v, Below w9.heap.size w9 v → TyA v base (some ⟨b1, o1, none⟩) a ∧ TyA v base (some ⟨b2, o2, none⟩) b ∧ base ≤ v.heap.size) := Lib.hid fun v hv => HW8.out v (ext_trans hb9 hv)
  have HB9 := Lib.hid hb9
  obtain ⟨ka1, ka2, ka3, ka4⟩ := HM9.out.cells
  have kf2 := HM9.out.frozen.2
  clear hb9
  go_upto_region 3 with fail
  obtain ⟨w10, hw10⟩ : ∃ w10, w10 = w9.setCell ⟨bd, 0, none⟩ (.int .i64 (ie : Int)) := ⟨_, rfl⟩
  rw [← hw10]
  have HM10 : Hid (MeetM bo bd pa pb (some ⟨b1, o1, none⟩) (some ⟨b2, o2, none⟩) c d a b lo A7 oc7 (OUT ++ (a.take i).drop dn) ie w10 ∧ Fr (MeetY bo bd OA) w w10) := Lib.hid (by
    have h1 := HM9.out.put HO.out ie
    rw [← hw10] at h1
    exact ⟨h1.1, Fr.new (HM8.out.2.1.trans (Fr.below HB9.out)) h1.2 HM8.out.2.2⟩)
  have hY10 : ∀ q, MeetY bo bd OA q → base ≤ q := fun q hq => by
    rcases hq with e | e | ⟨p, hp, hb⟩
    · have := HO.out.o; omega
    · have := HO.out.d; omega
    · have := (OwnL.lt H.out.m.own p hp).1
      have := HO.out.o
      omega
  have HW10 : Hid (∀ v, Below w10.heap.size w10 v → TyA v base (some ⟨b1, o1, none⟩) a ∧ TyA v base (some ⟨b2, o2, none⟩) b ∧ base ≤ v.heap.size) := Lib.hid fun v hv => by
    have hz := HM10.out.2.size
    have hbb : Below base w v := ⟨hv.os.trans HM10.out.2.os, hv.tape.trans HM10.out.2.tape, hv.output.trans HM10.out.2.output, Nat.le_trans hz hv.size, fun q hq => (hv.block q (by omega)).trans (HM10.out.2.block q (by omega) fun e => by have := hY10 q e; omega)⟩
    exact ⟨HA.out.1.below hbb, HA.out.2.below hbb, Nat.le_trans hbw hbb.size⟩
  clear hw10 hY10 ka1 ka2 ka3 ka4 kf2
  obtain ⟨ka1, ka2, ka3, ka4⟩ := HM10.out.1.cells
  obtain ⟨_, _, eB, _, c20, c21, c22⟩ := (HW10.out w10 (Below.refl _ _)).2.1.at_ HY.out
  injection eB with eB
  injection eB with eB1 eB2 _
  subst eB1 eB2
  have HPost : Hid (∀ (zs : List Nd) A9 oc9 v, MeetM bo bd pa pb (some ⟨b1, o1, none⟩) (some ⟨b2, o2, none⟩) c d a b lo A9 oc9 ((OUT ++ (a.take i).drop dn) ++ zs) ie v → Fr (MeetY bo bd OA) w v → (∀ q, MeetY bo bd A9 q → MeetY bo bd OA q ∨ w.heap.size ≤ q) → zs.length ≤ ts.length + (yt.length + 1) → zs = (if y.k = 0 then ts else y :: yt) →
      Fr Y w v ∧ ∃ Y', MeetS bo bd pa pb (some ⟨b1, o1, none⟩) (some ⟨b2, o2, none⟩) c d a b lo Y' (M ++ if (headNd (y :: yt)).k = 0 then ts else y :: yt) (i + ts.length) (k + (y :: yt).length) v ∧ ∀ q, Y' q → Y q ∨ w.heap.size ≤ q) := Lib.hid (by
    intro zs A9 oc9 v hm hf hy hz he
    refine ⟨hf.mono fun q hq => (H.out.y q).2 hq, MeetY bo bd A9, ⟨A9, oc9, _, _, hm, Nat.le_of_eq Hie.out, hlt, ?_, ?_, fun q => Iff.rfl⟩, fun q hq => ?_⟩
    · rw [show (headNd (y :: yt)).k = y.k from rfl, ← he, show (a.take (i + ts.length)).drop ie = [] from List.drop_eq_nil_of_le (by rw [Hie.out]; simp; omega), List.append_nil, H.out.all, List.append_assoc]
    · rw [show (headNd (y :: yt)).k = y.k from rfl, ← he, List.length_append]
      have := H.out.few
      simp only [List.length_cons]
      omega
    · rcases hy q hq with h | h
      · exact .inl ((H.out.y q).2 h)
      · exact .inr h)
  by_cases hy0 : y.k = 0
  · have bY : (y.k == 0) = true := by simp [hy0]
    go_upto_region 4 with fail
    obtain ⟨SS, hSS⟩ : ∃ SS : World → Prop, SS = fun v => v.cell? ⟨bo, 0, none⟩ = some (.slice A7 (OUT ++ (a.take i).drop dn).length oc7) ∧ v.cell? ⟨bd, 0, none⟩ = some (.int .i64 (ie : Int)) ∧ v.cell? ⟨pa, 0, none⟩ = some (.slice (some ⟨b1, o1, none⟩) a.length c) ∧ v.cell? ⟨pb, 0, none⟩ = some (.slice (some ⟨b2, o2, none⟩) b.length d) := ⟨_, rfl⟩
    obtain ⟨we, hwe⟩ : ∃ we, we = w10.drew := ⟨_, rfl⟩
    have HBe : Hid (Below w10.heap.size w10 we) := Lib.hid (by rw [hwe]; exact (Below.refl _ _).drew)
    have HMe := Lib.hid (HM10.out.1.later HO.out HBe.out)
    have hse : SS we := by rw [hSS]; exact HMe.out.cells
    clear ka1 ka2 ka3 ka4 c20 c21 c22
    refine wp_region_L_drew (S := SS) [6] (by kernel_rfl) (by rw [← hwe]; exact hse) (fun hHeld => ?_)
    rw [← hwe] at hHeld ⊢
    clear hwe
    refine onA 0 [5, 6] (some 24) rfl rfl ?_
    refine onA 1 [4, 5, 6] (some 25) rfl rfl ?_
    refine onA 2 [4, 5, 6] (some 26) rfl rfl ?_
    refine onA 3 [4, 5, 6] (some 27) rfl rfl ?_
    refine onA 4 [5, 6] (some 28) rfl rfl ?_
    refine putA ?_
    have HT2 : Hid (TyA we base (if c = i then some ⟨b1, o1, none⟩ else some ⟨b1, o1 + i * 3, none⟩) ((a.take ie).drop i)) := Lib.hid (by
      rw [if_neg (by omega)]
      exact (HW10.out we HBe.out).1.sub i ie)
    refine oneL 5 rfl (by kernel_rfl) (by rfl) ?_
    refine op_appM (.tmp 24) (.tmp 28) (by rfl) lo (m := OUT.length + (i - dn)) (n := (ie - i)) HO8.out (by rfl) HMe.out.own (sub_len (by omega)) (by rfl) HT2.out (by omega) HMe.out.lo (some 29) rfl ?_
    intro A9 oc9 w11 hown9 hg9 hA9
    have K9 := Lib.hid (HMe.out.app HO.out hown9 hg9 hA9)
    have SS9 : SS w11 := by rw [hSS]; exact ⟨K9.out.2.2.2.2.1, K9.out.2.2.2.2.2.1, K9.out.2.2.2.2.2.2.1, K9.out.2.2.2.2.2.2.2.1⟩
    clear hown9 hg9 hA9
    refine ⟨fun _ => SS9, ?_⟩
    refine putA ?_
    have kf := K9.out.2.2.2.2.2.2.2.2
    have ka := K9.out.2.2.2.2.1
    refine skipL 6 none (w' := ?_) rfl rfl (by kernel_rfl) (by rfl) ?_ (zL (by kernel_rfl)) ?_
    rotate_left
    · (go_simp; try with_reducible rfl)
    refine putA ?_
    refine doneL (by kernel_rfl) ?_ _
    clear kf ka SS9 hHeld hse
    obtain ⟨w12, hw12⟩ : ∃ w12, w12 = w11.setCell ⟨bo, 0, none⟩ (.slice A9 (OUT.length + (i - dn) + (ie - i)) oc9) := ⟨_, rfl⟩
    have HP : Hid (Fr Y w w12 ∧ ∃ Y', MeetS bo bd pa pb (some ⟨b1, o1, none⟩) (some ⟨b2, o2, none⟩) c d a b lo Y' (M ++ if (headNd (y :: yt)).k = 0 then ts else y :: yt) (i + ts.length) (k + (y :: yt).length) w12 ∧ ∀ q, Y' q → Y q ∨ w.heap.size ≤ q) := Lib.hid (by
      have h1 := K9.out.1
      have h2 := K9.out.2.1
      have h3 := K9.out.2.2.1
      have hl : ((a.take ie).drop i).length = (ie - i) := (sub_len (by omega))
      rw [hl, HO8.out, ← hw12] at h1 h2
      have hfw : Fr (MeetY bo bd OA) w we := HM10.out.2.trans (Fr.below HBe.out)
      refine HPost.out _ A9 oc9 w12 h1 (Fr.new hfw h2 HM8.out.2.2) (fun q hq => ?_) (by rw [hl]; first | (rw [Hie.out]; omega) | (rw [Hke.out]; simp only [List.length_cons]; omega)) (by rw [Hie.out, take_drop_part HD.out.1]; simp [hy0])
      rcases h3 q hq with h | h
      · exact HM8.out.2.2 q h
      · exact .inr (Nat.le_trans hfw.size h))
    rw [← hw12]
    clear hw12
    go_wp2_with fail
    go_ret
    have hp := HP.out
    simp only [show (headNd (y :: yt)).k = y.k from rfl, hy0, if_true, List.length_cons] at hp
    exact ⟨rfl, hp⟩
  · have bY : (y.k == 0) = false := by simp [hy0]
    go_upto_region 6 with fail
    obtain ⟨SS, hSS⟩ : ∃ SS : World → Prop, SS = fun v => v.cell? ⟨bo, 0, none⟩ = some (.slice A7 (OUT ++ (a.take i).drop dn).length oc7) ∧ v.cell? ⟨bd, 0, none⟩ = some (.int .i64 (ie : Int)) ∧ v.cell? ⟨pa, 0, none⟩ = some (.slice (some ⟨b1, o1, none⟩) a.length c) ∧ v.cell? ⟨pb, 0, none⟩ = some (.slice (some ⟨b2, o2, none⟩) b.length d) := ⟨_, rfl⟩
    obtain ⟨we, hwe⟩ : ∃ we, we = w10.drew := ⟨_, rfl⟩
    have HBe : Hid (Below w10.heap.size w10 we) := Lib.hid (by rw [hwe]; exact (Below.refl _ _).drew)
    have HMe := Lib.hid (HM10.out.1.later HO.out HBe.out)
    have hse : SS we := by rw [hSS]; exact HMe.out.cells
    clear ka1 ka2 ka3 ka4 c20 c21 c22
    refine wp_region_L_drew (S := SS) [8] (by kernel_rfl) (by rw [← hwe]; exact hse) (fun hHeld => ?_)
    rw [← hwe] at hHeld ⊢
    clear hwe
    refine onA 0 [7, 8] (some 30) rfl rfl ?_
    refine onA 1 [6, 7, 8] (some 31) rfl rfl ?_
    refine onA 2 [6, 7, 8] (some 32) rfl rfl ?_
    refine onA 3 [5, 6, 7, 8] (some 33) rfl rfl ?_
    refine onA 4 [5, 6, 7, 8] (some 34) rfl rfl ?_
    have Hend2 := Lib.hid (pEnd_any (some ⟨b2, o2, none⟩) d b (y :: yt) s k we (((HW10.out we HBe.out).2.1).more (HW10.out we HBe.out).2.2) hlb HD.out.2.1 HD.out.2.2.2.1 HD.out.2.2.2.2.2)
    rw [← Hke.out] at Hend2
    refine callL 5 (some 35) rfl rfl (by kernel_rfl) (by rfl) (by kernel_rfl) Hend2.out ?_
    rintro e wf ⟨rfl, hbf⟩
    have HBf : Hid (Below w10.heap.size w10 wf) := Lib.hid (ext_trans HBe.out hbf)
    have HMf := Lib.hid (HM10.out.1.later HO.out HBf.out)
    have hsf : SS wf := by rw [hSS]; exact HMf.out.cells
    refine ⟨_, rfl, hsf, ?_⟩
    refine putA ?_
    clear hse hbf
    refine onA 6 [7, 8] (some 36) rfl rfl ?_
    refine putA ?_
    have HT2 : Hid (TyA wf base (if d = k then some ⟨b2, o2, none⟩ else some ⟨b2, o2 + k * 3, none⟩) ((b.take ke).drop k)) := Lib.hid (by
      rw [if_neg (by omega)]
      exact (HW10.out wf HBf.out).2.1.sub k ke)
    refine oneL 7 rfl (by kernel_rfl) (by rfl) ?_
    refine op_appM (.tmp 30) (.tmp 36) (by rfl) lo (m := OUT.length + (i - dn)) (n := (ke - k)) HO8.out (by rfl) HMf.out.own (sub_len (by rw [Hke.out]; simp only [List.length_cons]; omega)) (by rfl) HT2.out (by omega) HMf.out.lo (some 37) rfl ?_
    intro A9 oc9 w11 hown9 hg9 hA9
    have K9 := Lib.hid (HMf.out.app HO.out hown9 hg9 hA9)
    have SS9 : SS w11 := by rw [hSS]; exact ⟨K9.out.2.2.2.2.1, K9.out.2.2.2.2.2.1, K9.out.2.2.2.2.2.2.1, K9.out.2.2.2.2.2.2.2.1⟩
    clear hown9 hg9 hA9
    refine ⟨fun _ => SS9, ?_⟩
    refine putA ?_
    have kf := K9.out.2.2.2.2.2.2.2.2
    have ka := K9.out.2.2.2.2.1
    refine skipL 8 none (w' := ?_) rfl rfl (by kernel_rfl) (by rfl) ?_ (zL (by kernel_rfl)) ?_
    rotate_left
    · (go_simp; try with_reducible rfl)
    refine putA ?_
    refine doneL (by kernel_rfl) ?_ _
    clear kf ka SS9 hHeld hsf
    obtain ⟨w12, hw12⟩ : ∃ w12, w12 = w11.setCell ⟨bo, 0, none⟩ (.slice A9 (OUT.length + (i - dn) + (ke - k)) oc9) := ⟨_, rfl⟩
    have HP : Hid (Fr Y w w12 ∧ ∃ Y', MeetS bo bd pa pb (some ⟨b1, o1, none⟩) (some ⟨b2, o2, none⟩) c d a b lo Y' (M ++ if (headNd (y :: yt)).k = 0 then ts else y :: yt) (i + ts.length) (k + (y :: yt).length) w12 ∧ ∀ q, Y' q → Y q ∨ w.heap.size ≤ q) := Lib.hid (by
      have h1 := K9.out.1
      have h2 := K9.out.2.1
      have h3 := K9.out.2.2.1
      have hl : ((b.take ke).drop k).length = (ke - k) := (sub_len (by rw [Hke.out]; simp only [List.length_cons]; omega))
      rw [hl, HO8.out, ← hw12] at h1 h2
      have hfw : Fr (MeetY bo bd OA) w wf := HM10.out.2.trans (Fr.below HBf.out)
      refine HPost.out _ A9 oc9 w12 h1 (Fr.new hfw h2 HM8.out.2.2) (fun q hq => ?_) (by rw [hl]; first | (rw [Hie.out]; omega) | (rw [Hke.out]; simp only [List.length_cons]; omega)) (by rw [Hke.out, take_drop_part HD.out.2.1]; simp [hy0])
      rcases h3 q hq with h | h
      · exact HM8.out.2.2 q h
      · exact .inr (Nat.le_trans hfw.size h))
    rw [← hw12]
    clear hw12
    go_wp2_with fail
    go_ret
    have hp := HP.out
    simp only [show (headNd (y :: yt)).k = y.k from rfl, hy0, if_false, List.length_cons] at hp
    exact ⟨rfl, hp⟩

theorem ovr_meet (bo bd pa pb base lo : Nat) (A B : Option Addr) (c d : Nat) (a b : List Nd) (hO : MeetO bo bd pa pb base lo) (hla : a.length ≤ 1000000000) (hlb : b.length ≤ 1000000000) (hc : a.length ≤ c) (hd : b.length ≤ d) :
    Ovr 138 #[.pointer (some ⟨bo, 0, none⟩), .pointer (some ⟨pa, 0, none⟩), .pointer (some ⟨bd, 0, none⟩), .pointer (some ⟨pb, 0, none⟩)] a b A B base (MeetS bo bd pa pb A B c d a b lo) where
  eg := meet1_eg
  low := by
    rintro Y M i k w ⟨OA, oc, OUT, dn, h⟩ q hq
    have hlo := h.m.lo
    rcases (h.y q).1 hq with e | e | ⟨p, hp, hb⟩
    · have := hO.o; omega
    · have := hO.d; omega
    · have := OwnL.lt h.m.own p hp
      have := hO.o
      omega
  later := by
    rintro Y M i k w w' ⟨OA, oc, OUT, dn, h⟩ hb
    exact ⟨OA, oc, OUT, dn, h.m.later hO hb, h.di, h.il, h.all, h.few, h.y⟩
  node := by
    rintro Y M i k x w ⟨OA, oc, OUT, dn, h⟩ hx
    have := getq_lt hx
    have := h.di
    refine ⟨OA, oc, OUT, dn, h.m, by omega, by omega, ?_, ?_, h.y⟩
    · rw [h.all, take_drop_succ hx h.di, List.append_assoc]
    · have := h.few
      rw [List.length_append, List.length_singleton]
      omega
  dyn := fun Y M i k ts us r s w h1 h2 h3 h4 h5 h6 _ h8 h9 h10 h11 => meet1_any bo bd pa pb base lo A B c d a b hO hla hlb hc hd Y M i k ts us r s w h1 h2 h3 h4 h5 h6 h8 h9 h10 h11
end Go.Proofs.YtmjdhfbnmmdjiaaGreat

/- prec.Meet, whole. -/
namespace Go.Proofs.YtmjdhfbnmmdjiaaGreat
open Go.RowKit

/-- What Meet tells. -/
def MetPost (a b : List Nd) (w : World) (e : Ending) (w' : World) : Prop :=
  Below w.heap.size w w' ∧ match met 1 a b with
    | some m => ∃ A' cap', e = .returned (.tuple #[.slice A' m.length cap', .int .i64 0]) ∧ OwnN w' w.heap.size A' cap' m
    | none => e = .returned (.tuple #[.slice none 0 0, .int .i64 9])

theorem five_at (w : World) (c0 c1 c2 c3 c4 : Array Value) (t0 t1 t2 t3 t4 : TypeId) (W : World) (hW : W = ((((w.alloc (.cells c0 t0)).alloc (.cells c1 t1)).alloc (.cells c2 t2)).alloc (.cells c3 t3)).alloc (.cells c4 t4)) :
    W.heap[w.heap.size]? = some (.cells c0 t0 (0, 0)) ∧ W.heap[w.heap.size + 1]? = some (.cells c1 t1 (0, 0)) ∧ W.heap[w.heap.size + 1 + 1]? = some (.cells c2 t2 (0, 0)) ∧ W.heap[w.heap.size + 1 + 1 + 1]? = some (.cells c3 t3 (0, 0)) ∧ W.heap[w.heap.size + 1 + 1 + 1 + 1]? = some (.cells c4 t4 (0, 0)) ∧ Below w.heap.size w W ∧ W.heap.size = w.heap.size + 5 := by
  subst hW
  obtain ⟨w1, h1⟩ : ∃ w1, w1 = w.alloc (.cells c0 t0) := ⟨_, rfl⟩
  obtain ⟨w2, h2⟩ : ∃ w2, w2 = w1.alloc (.cells c1 t1) := ⟨_, rfl⟩
  obtain ⟨w3, h3⟩ : ∃ w3, w3 = w2.alloc (.cells c2 t2) := ⟨_, rfl⟩
  obtain ⟨w4, h4⟩ : ∃ w4, w4 = w3.alloc (.cells c3 t3) := ⟨_, rfl⟩
  have s1 : w1.heap.size = w.heap.size + 1 := by rw [h1]; simp
  have s2 : w2.heap.size = w.heap.size + 1 + 1 := by rw [h2, World.size_alloc, s1]
  have s3 : w3.heap.size = w.heap.size + 1 + 1 + 1 := by rw [h3, World.size_alloc, s2]
  have s4 : w4.heap.size = w.heap.size + 1 + 1 + 1 + 1 := by rw [h4, World.size_alloc, s3]
  rw [← h1, ← h2, ← h3, ← h4]
  have n0 := heap_alloc_new w (.cells c0 t0)
  have n1 := heap_alloc_new w1 (.cells c1 t1)
  have n2 := heap_alloc_new w2 (.cells c2 t2)
  have n3 := heap_alloc_new w3 (.cells c3 t3)
  have n4 := heap_alloc_new w4 (.cells c4 t4)
  have e1 := fun q (hq : q < w1.heap.size) => Below.heap_alloc w1 (.cells c1 t1) q hq
  have e2 := fun q (hq : q < w2.heap.size) => Below.heap_alloc w2 (.cells c2 t2) q hq
  have e3 := fun q (hq : q < w3.heap.size) => Below.heap_alloc w3 (.cells c3 t3) q hq
  have e4 := fun q (hq : q < w4.heap.size) => Below.heap_alloc w4 (.cells c4 t4) q hq
  rw [← h1] at n0
  rw [← h2, s1] at n1
  rw [← h3, s2] at n2
  rw [← h4, s3] at n3
  rw [s4] at n4
  rw [← h2] at e1
  rw [← h3] at e2
  rw [← h4] at e3
  refine ⟨?_, ?_, ?_, ?_, n4, ?_, ?_⟩
  · rw [e4 _ (by omega), e3 _ (by omega), e2 _ (by omega), e1 _ (by omega), n0]
  · rw [e4 _ (by omega), e3 _ (by omega), e2 _ (by omega), n1]
  · rw [e4 _ (by omega), e3 _ (by omega), n2]
  · rw [e4 _ (by omega), n3]
  · rw [h4, h3, h2, h1]
    exact ext_alloc (ext_alloc (ext_alloc (ext_alloc (ext_alloc (Below.refl _ _) _) _) _) _) _
  · rw [World.size_alloc, s4]

set_option maxRecDepth 100000 in
set_option maxHeartbeats 4000000 in
theorem meet_any (A B : Option Addr) (c d : Nat) (a b : List Nd) (w : World) (ha : TyA w w.heap.size A a) (hb : TyA w w.heap.size B b) (ga : Gd a) (gb : Gd b) (hc : a.length ≤ c) (hd : b.length ≤ d) :
    Calls Tryz.prog 111 #[.slice A a.length c, .slice B b.length d] w (MetPost a b w) := by
  obtain ⟨x0, hx0⟩ := getq_ex (l := a) (i := 0) ga.fo.pos
  obtain ⟨b1, o1, eA, _, _, _, _⟩ := ha.at_ hx0
  subst eA
  clear hx0
  go_enter Tryz.func111, Tryz.ntmps111
  go_upto_region 5 with fail
  obtain ⟨W, hW⟩ : ∃ W, W = ((((w.alloc (.cells #[.slice (some ⟨b1, o1, none⟩) a.length c] 28)).alloc (.cells #[.slice B b.length d] 28)).alloc (.cells #[.slice none 0 0] 28)).alloc (.cells #[.int .i64 0] 3)).alloc
      (.cells #[.slice (some ⟨b1, o1, none⟩) a.length c, .slice B b.length d, .func (.func 138) #[] #[.pointer (some ⟨w.heap.size + 1 + 1, 0, none⟩), .pointer (some ⟨w.heap.size, 0, none⟩), .pointer (some ⟨w.heap.size + 1 + 1 + 1, 0, none⟩), .pointer (some ⟨w.heap.size + 1, 0, none⟩)]] 148) := ⟨_, rfl⟩
  obtain ⟨k0, k1, k2, k3, k4, hb5, hs5⟩ := five_at w _ _ _ _ _ _ _ _ _ _ W hW
  rw [← hW]
  clear hW
  have hO : MeetO (w.heap.size + 1 + 1) (w.heap.size + 1 + 1 + 1) w.heap.size (w.heap.size + 1) w.heap.size (w.heap.size + 5) := by
    constructor <;> omega
  have hS : MeetS (w.heap.size + 1 + 1) (w.heap.size + 1 + 1 + 1) w.heap.size (w.heap.size + 1) (some ⟨b1, o1, none⟩) B c d a b (w.heap.size + 5) (MeetY (w.heap.size + 1 + 1) (w.heap.size + 1 + 1 + 1) none) [] 0 0 W :=
    ⟨none, 0, [], 0, ⟨k2, k3, k0, k1, OwnL.nil, by omega⟩, Nat.le_refl _, Nat.zero_le _, by simp, by simp, fun q => Iff.rfl⟩
  have Hov := Lib.hid (over_any _ _ a b (some ⟨b1, o1, none⟩) B c d w.heap.size _ (ovr_meet (w.heap.size + 1 + 1) (w.heap.size + 1 + 1 + 1) w.heap.size (w.heap.size + 1) w.heap.size (w.heap.size + 5) (some ⟨b1, o1, none⟩) B c d a b hO ga.len gb.len hc hd) ga.len gb.len a.length a b [] [] [] 0 0 _ W (Nat.le_refl _) (by simp) (by simp) ga.ok gb.ok ga.fo gb.fo (by rw [ga.s, gb.s]) (ha.below hb5) (hb.below hb5) hb5.size hS)
  have HO := Lib.hid hO
  have HB5 := Lib.hid hb5
  have HA := Lib.hid (And.intro ha (And.intro hb (And.intro ga gb)))
  have p0 : W.cell? ⟨w.heap.size + 1 + 1 + 1 + 1, 0, none⟩ = some (.slice (some ⟨b1, o1, none⟩) a.length c) := by simp [World.cell?, k4]
  have p1 : W.cell? ⟨w.heap.size + 1 + 1 + 1 + 1, 1, none⟩ = some (.slice B b.length d) := by simp [World.cell?, k4]
  have p2 : W.cell? ⟨w.heap.size + 1 + 1 + 1 + 1, 2, none⟩ = some (.func (.func 138) #[] #[.pointer (some ⟨w.heap.size + 1 + 1, 0, none⟩), .pointer (some ⟨w.heap.size, 0, none⟩), .pointer (some ⟨w.heap.size + 1 + 1 + 1, 0, none⟩), .pointer (some ⟨w.heap.size + 1, 0, none⟩)]) := by simp [World.cell?, k4]
  clear k0 k1 k2 k3 k4 hb5 hs5 hO hS ha hb ga gb
  go_wp2_with fail
  refine Hov.out.mono ?_
  rintro e w2 ⟨hf, h⟩
  have HB2 : Hid (Below w.heap.size w w2) := Lib.hid (by
    have hz := HB5.out.size
    refine ⟨hf.os.trans HB5.out.os, hf.tape.trans HB5.out.tape, hf.output.trans HB5.out.output, Nat.le_trans hz hf.size, fun q hq => (hf.block q (by omega) ?_).trans (HB5.out.block q hq)⟩
    rintro (e | e | ⟨p, hp, _⟩)
    · omega
    · omega
    · cases hp)
  clear p0 p1 p2 hf
  rcases h with ⟨zs, Y', hm, rfl, hst, _⟩ | ⟨hm, rfl⟩
  · obtain ⟨OA, oc, OUT, dn, S2⟩ := hst
    simp only [List.nil_append, Nat.zero_add] at S2
    have hdl := S2.di
    have hdc : dn ≤ c := Nat.le_trans hdl hc
    have HM := Lib.hid (And.intro hm S2)
    have hOL : OUT.length + (a.length - dn) ≤ 2000000000 := by
      have h1 := S2.few
      rw [S2.all, List.length_append, sub_len (Nat.le_refl _)] at h1
      have := HA.out.2.2.1.len
      have := HA.out.2.2.2.len
      omega
    clear hm S2
    by_cases he : c = dn
    · have hz2 := HB2.out.size
      go_upto_region 8 with fail
      obtain ⟨SS, hSS⟩ : ∃ SS : World → Prop, SS = fun v => v.cell? ⟨w.heap.size + 1 + 1, 0, none⟩ = some (.slice OA OUT.length oc) ∧ v.cell? ⟨w.heap.size + 1 + 1 + 1, 0, none⟩ = some (.int .i64 (dn : Int)) ∧ v.cell? ⟨w.heap.size, 0, none⟩ = some (.slice (some ⟨b1, o1, none⟩) a.length c) ∧ v.cell? ⟨w.heap.size + 1, 0, none⟩ = some (.slice B b.length d) := ⟨_, rfl⟩
      obtain ⟨we, hwe⟩ : ∃ we, we = w2.drew := ⟨_, rfl⟩
      have HBe : Hid (Below w.heap.size w we) := Lib.hid (by rw [hwe]; exact HB2.out.drew)
      have HMe := Lib.hid (HM.out.2.m.later HO.out (show Below w2.heap.size w2 we by rw [hwe]; exact (Below.refl _ _).drew))
      have hse : SS we := by rw [hSS]; exact HMe.out.cells
      refine wp_region_L_drew (S := SS) [4] (by kernel_rfl) (by rw [← hwe]; exact hse) (fun hHeld => ?_)
      rw [← hwe] at hHeld ⊢
      clear hwe
      refine onA 0 [4, 5, 6] (some 25) rfl rfl ?_
      refine onA 1 [3, 4, 5, 6] (some 26) rfl rfl ?_
      refine onA 2 [3, 4, 5, 6] (some 27) rfl rfl ?_
      refine onA 3 [4, 5, 6] (some 28) rfl rfl ?_
      refine putA ?_
      have HT2 : Hid (TyA we w.heap.size (some ⟨b1, o1, none⟩) ((a.take a.length).drop dn)) := Lib.hid (by
        have : ((a.take a.length).drop dn) = [] := List.drop_eq_nil_of_le (by simp; omega)
        rw [this]
        exact TyA.nil)
      refine oneL 4 rfl (by kernel_rfl) (by rfl) ?_
      refine op_appM (.tmp 25) (.tmp 28) (by rfl) (w.heap.size + 5) (m := OUT.length) (n := a.length - dn) rfl (by rfl) HMe.out.own (sub_len (Nat.le_refl _)) (by rfl) HT2.out (by omega) HMe.out.lo (some 29) rfl ?_
      intro A9 oc9 w9 hown9 hg9 _
      have HP : Hid (Below w.heap.size w w9 ∧ ∃ A' cap', Ending.returned (.tuple #[.slice A9 (OUT.length + (a.length - dn)) oc9, .int .i64 0]) = .returned (.tuple #[.slice A' zs.length cap', .int .i64 0]) ∧ OwnN w9 w.heap.size A' cap' zs) := Lib.hid (by
        have hz : OUT ++ (a.take a.length).drop dn = zs := HM.out.2.all.symm
        have hl := congrArg List.length hz
        rw [List.length_append, sub_len (Nat.le_refl _)] at hl
        rw [hz] at hown9
        exact ⟨ext_app HBe.out hg9 (fun k hk => by have := (OwnL.block HMe.out.own k hk).1; omega), A9, oc9, by rw [hl], OwnL.lower hown9 (by omega)⟩)
      clear hown9 hg9
      refine ⟨zL (by kernel_rfl), ?_⟩
      refine putA ?_
      refine valL 5 (some 4) rfl rfl (by kernel_rfl) (by rfl) (by go_simp; first | with_reducible rfl | (constructor <;> with_reducible rfl)) (zL (by kernel_rfl)) ?_
      refine putA ?_
      refine valL 6 (some 5) rfl rfl (by kernel_rfl) (by rfl) (by go_simp; first | with_reducible rfl | (constructor <;> with_reducible rfl)) (zL (by kernel_rfl)) ?_
      refine putA ?_
      refine doneL (by kernel_rfl) ?_ _
      go_wp2_with fail
      go_ret2
      refine ⟨HP.out.1, ?_⟩
      rw [HM.out.1]
      exact HP.out.2
    · have hz2 := HB2.out.size
      go_upto_region 8 with fail
      obtain ⟨SS, hSS⟩ : ∃ SS : World → Prop, SS = fun v => v.cell? ⟨w.heap.size + 1 + 1, 0, none⟩ = some (.slice OA OUT.length oc) ∧ v.cell? ⟨w.heap.size + 1 + 1 + 1, 0, none⟩ = some (.int .i64 (dn : Int)) ∧ v.cell? ⟨w.heap.size, 0, none⟩ = some (.slice (some ⟨b1, o1, none⟩) a.length c) ∧ v.cell? ⟨w.heap.size + 1, 0, none⟩ = some (.slice B b.length d) := ⟨_, rfl⟩
      obtain ⟨we, hwe⟩ : ∃ we, we = w2.drew := ⟨_, rfl⟩
      have HBe : Hid (Below w.heap.size w we) := Lib.hid (by rw [hwe]; exact HB2.out.drew)
      have HMe := Lib.hid (HM.out.2.m.later HO.out (show Below w2.heap.size w2 we by rw [hwe]; exact (Below.refl _ _).drew))
      have hse : SS we := by rw [hSS]; exact HMe.out.cells
      refine wp_region_L_drew (S := SS) [4] (by kernel_rfl) (by rw [← hwe]; exact hse) (fun hHeld => ?_)
      rw [← hwe] at hHeld ⊢
      clear hwe
      refine onA 0 [4, 5, 6] (some 25) rfl rfl ?_
      refine onA 1 [3, 4, 5, 6] (some 26) rfl rfl ?_
      refine onA 2 [3, 4, 5, 6] (some 27) rfl rfl ?_
      refine onA 3 [4, 5, 6] (some 28) rfl rfl ?_
      refine putA ?_
      have HT2 : Hid (TyA we w.heap.size (some ⟨b1, o1 + dn * 3, none⟩) ((a.take a.length).drop dn)) := Lib.hid ((HA.out.1.below HBe.out).sub dn a.length)
      refine oneL 4 rfl (by kernel_rfl) (by rfl) ?_
      refine op_appM (.tmp 25) (.tmp 28) (by rfl) (w.heap.size + 5) (m := OUT.length) (n := a.length - dn) rfl (by rfl) HMe.out.own (sub_len (Nat.le_refl _)) (by rfl) HT2.out (by omega) HMe.out.lo (some 29) rfl ?_
      intro A9 oc9 w9 hown9 hg9 _
      have HP : Hid (Below w.heap.size w w9 ∧ ∃ A' cap', Ending.returned (.tuple #[.slice A9 (OUT.length + (a.length - dn)) oc9, .int .i64 0]) = .returned (.tuple #[.slice A' zs.length cap', .int .i64 0]) ∧ OwnN w9 w.heap.size A' cap' zs) := Lib.hid (by
        have hz : OUT ++ (a.take a.length).drop dn = zs := HM.out.2.all.symm
        have hl := congrArg List.length hz
        rw [List.length_append, sub_len (Nat.le_refl _)] at hl
        rw [hz] at hown9
        exact ⟨ext_app HBe.out hg9 (fun k hk => by have := (OwnL.block HMe.out.own k hk).1; omega), A9, oc9, by rw [hl], OwnL.lower hown9 (by omega)⟩)
      clear hown9 hg9
      refine ⟨zL (by kernel_rfl), ?_⟩
      refine putA ?_
      refine valL 5 (some 4) rfl rfl (by kernel_rfl) (by rfl) (by go_simp; first | with_reducible rfl | (constructor <;> with_reducible rfl)) (zL (by kernel_rfl)) ?_
      refine putA ?_
      refine valL 6 (some 5) rfl rfl (by kernel_rfl) (by rfl) (by go_simp; first | with_reducible rfl | (constructor <;> with_reducible rfl)) (zL (by kernel_rfl)) ?_
      refine putA ?_
      refine doneL (by kernel_rfl) ?_ _
      go_wp2_with fail
      go_ret2
      refine ⟨HP.out.1, ?_⟩
      rw [HM.out.1]
      exact HP.out.2
  · have HM := Lib.hid hm
    clear hm
    go_wp2_with fail
    go_ret2
    refine ⟨HB2.out, ?_⟩
    rw [HM.out]
    rfl
end Go.Proofs.YtmjdhfbnmmdjiaaGreat

/- ty.Row's parts: odd labels, the order of labels. -/
namespace Go.Proofs.YtmjdhfbnmmdjiaaGreat
open Go.RowKit

def encT (s : ByteArray) : List Value := [.string s]
theorem encT_len (s : ByteArray) : (encT s).length = 1 := rfl
/-- A slice of strings. -/
abbrev ReadT (w : World) (B : Nat) (A : Option Addr) (l : List ByteArray) : Prop := ReadL 1 encT w B A l

theorem ReadL.str {w : World} {B : Nat} {A : Option Addr} {l : List ByteArray} (h : ReadT w B A l) {i : Nat} {s : ByteArray} (hn : l[i]? = some s) :
    ∃ b o, A = some ⟨b, o, none⟩ ∧ b < B ∧ w.cell? ⟨b, o + i, none⟩ = some (.string s) := by
  obtain ⟨b, o, rfl, hb, hc⟩ := h (by rintro rfl; simp at hn)
  have := hc i s hn 0 _ rfl
  rw [Nat.mul_one, Nat.add_zero] at this
  exact ⟨b, o, rfl, hb, this⟩

def oddFrom (kind : Int) (ls : List ByteArray) (k : Nat) : Bool := (ls.drop k).any fun s => !labelB kind s

theorem oddFrom_step {kind : Int} {ls : List ByteArray} {k : Nat} {s : ByteArray} (hx : ls[k]? = some s) : oddFrom kind ls k = (!labelB kind s || oddFrom kind ls (k + 1)) := by
  unfold oddFrom
  have e : ls.drop k = s :: ls.drop (k + 1) := by rw [List.drop_eq_getElem_cons (getq_lt hx), (List.getElem?_eq_some_iff.1 hx).2]
  rw [e, List.any_cons]

theorem oddFrom_end {kind : Int} {ls : List ByteArray} {k : Nat} (h : ¬ k < ls.length) : oddFrom kind ls k = false := by
  unfold oddFrom
  rw [List.drop_of_length_le (by omega)]
  rfl

theorem isNaN_any (s : ByteArray) (w : World) : Calls Tryz.prog 151 #[.string s] w fun e w' => e = .returned (.bool false) ∧ w = w' := by
  go_enter Tryz.func151, Tryz.ntmps151
  go_wp2_with fail
  go_ret
  exact ⟨ret_bool (by simp), rfl⟩

def cmpS (a b : ByteArray) : Int := if Op.bytesLess a.toList b.toList = true then -1 else if (a.toList == b.toList) = true then 0 else 1

set_option maxHeartbeats 1000000 in
theorem compare_any (a b : ByteArray) (w : World) : Calls Tryz.prog 132 #[.string a, .string b] w fun e w' => e = .returned (.int .i64 (cmpS a b)) ∧ w = w' := by
  cases h1 : Op.bytesLess a.toList b.toList
  · cases h2 : a.toList == b.toList
    · have hc := Lib.hid (show cmpS a b = 1 by unfold cmpS; rw [h1, h2]; rfl)
      go_enter Tryz.func132, Tryz.ntmps132
      go_wp2_with (go_at_call 151; refine (isNaN_any _ _).mono ?_; rintro e w1 ⟨rfl, rfl⟩)
      go_ret
      exact ⟨ret_int (by rw [hc.out]), rfl⟩
    · have hc := Lib.hid (show cmpS a b = 0 by unfold cmpS; rw [h1, h2]; rfl)
      go_enter Tryz.func132, Tryz.ntmps132
      go_wp2_with (go_at_call 151; refine (isNaN_any _ _).mono ?_; rintro e w1 ⟨rfl, rfl⟩)
      go_ret
      exact ⟨ret_int (by rw [hc.out]), rfl⟩
  · have hc := Lib.hid (show cmpS a b = -1 by unfold cmpS; rw [h1]; rfl)
    go_enter Tryz.func132, Tryz.ntmps132
    go_wp2_with (go_at_call 151; refine (isNaN_any _ _).mono ?_; rintro e w1 ⟨rfl, rfl⟩)
    go_ret
    exact ⟨ret_int (by rw [hc.out]), rfl⟩

end Go.Proofs.YtmjdhfbnmmdjiaaGreat
