/- Laid together by a tool from the texts of this seat: ChQ ChA ChL. Conditions: each theorem's own. -/
import Derived.Test.YtmjdhfbnmmdjiaaGreatK05
import Derived.WalkKit
import Derived.WalkSpells
import Derived.WalkLawsBesides
import Derived.Deep.Draws
import Derived.Deep.Cut
import Derived.Deep.DeepCutAuto
import Derived.Deep.QuietTactic
import Derived.BigQuiet
/- prec's over: two types, side by side. -/
namespace Go.Proofs.YtmjdhfbnmmdjiaaGreat
open Go.RowKit

theorem kidsGo_fo {T : List Nd} : ∀ (n at_ : Nat) (ks rest : List Nd), T.drop at_ = ks ++ rest → okAll ks → Fo n ks → (kidsGo T n at_).length = n
  | 0, _, _, _, _, _, _ => rfl
  | n + 1, at_, ks, rest, hd, hok, hf => by
    obtain ⟨ts, rs, rfl, h1, h2⟩ := hf.first
    rw [List.append_assoc] at hd
    have hlt : at_ < T.length := drop_lt hd h1.pos
    have h3 := endGo_one hd (okAll_left hok) h1
    unfold kidsGo
    rw [if_pos hlt, List.length_cons, h3, kidsGo_fo n (at_ + ts.length) rs rest (drop_more hd) (okAll_right hok) h2]

theorem met_dyn {x y : Nd} {xt yt : List Nd} (h1 : Fo 1 (x :: xt)) (h2 : Fo 1 (y :: yt)) (hs : x.s = y.s) (h0 : x.k = 0 ∨ y.k = 0) : met 1 (x :: xt) (y :: yt) = some (if y.k = 0 then x :: xt else y :: yt) := by
  have e1 : tree1 (x :: xt) = x :: xt := by have := tree1_fo h1 []; rwa [List.append_nil] at this
  have e2 : tree1 (y :: yt) = y :: yt := by have := tree1_fo h2 []; rwa [List.append_nil] at this
  rw [met_cons, if_neg (by simp [hs]), if_pos h0, met_zero, e1, e2]
  simp

theorem met_node {x y : Nd} {xt yt : List Nd} (hs : x.s = y.s) (h0 : ¬ (x.k = 0 ∨ y.k = 0)) (hk : x.k = y.k) (hn : x.n = y.n) : met 1 (x :: xt) (y :: yt) = (met (manyN x) xt yt).map fun r => x :: r := by
  rw [met_cons, if_neg (by simp [hs]), if_neg h0, if_neg (by simp [hk, hn])]
  rfl
theorem met_off {x y : Nd} {xt yt : List Nd} (hs : x.s = y.s) (h0 : ¬ (x.k = 0 ∨ y.k = 0)) (hk : x.k ≠ y.k ∨ x.n ≠ y.n) : met 1 (x :: xt) (y :: yt) = none := by
  rw [met_cons, if_neg (by simp [hs]), if_neg h0, if_pos hk]
theorem met_lab {n : Nat} {x y : Nd} {xt yt : List Nd} (hs : x.s ≠ y.s) : met (n + 1) (x :: xt) (y :: yt) = none := by rw [met_cons, if_pos hs]
theorem met_split {n : Nat} {t u fs gs : List Nd} (h1 : Fo 1 t) (h2 : Fo 1 u) : met (n + 1) (t ++ fs) (u ++ gs) = (met 1 t u).bind fun a => (met n fs gs).map fun b => a ++ b := by
  rw [Nat.add_comm]
  exact met_app t.length 1 n t u fs gs (Nat.le_refl _) h1 h2
theorem Fo.kids {x : Nd} {xt : List Nd} (h : Fo 1 (x :: xt)) : Fo (manyN x) xt := by
  obtain ⟨ks, rs, rfl, h1, h2⟩ := h.uncons
  rw [h2.of_zero, List.append_nil]
  exact h1

theorem strNe {a b : ByteArray} (h : a ≠ b) : (a.toList != b.toList) = true := by
  rw [bne_iff_ne]
  intro e
  apply h
  rw [ByteArray.toList_eq, ByteArray.toList_eq] at e
  cases a; cases b
  simp only at e
  congr
  exact Array.toList_inj.1 e

/-- What a closure may do where one of two nodes is a ?. -/
structure Ovr (K : FuncId) (caps : Array Value) (a b : List Nd) (A B : Option Addr) (base : Nat) (St : (Nat → Prop) → List Nd → Nat → Nat → World → Prop) : Prop where
  eg : ∀ args w, (callFunc K args).run Tryz.prog w = .ok (.enter K args) w
  low : ∀ Y M i k w, St Y M i k w → ∀ q, Y q → base ≤ q ∧ q < w.heap.size
  later : ∀ Y M i k w w', St Y M i k w → Below w.heap.size w w' → St Y M i k w'
  node : ∀ Y M i k x w, St Y M i k w → a[i]? = some x → St Y (M ++ [x]) (i + 1) (k + 1) w
  dyn : ∀ Y M i k ts us r s w, a.drop i = ts ++ r → b.drop k = us ++ s → okAll ts → okAll us → Fo 1 ts → Fo 1 us → ((headNd ts).k = 0 ∨ (headNd us).k = 0) → TyA w base A a → TyA w base B b → base ≤ w.heap.size → St Y M i k w →
    Calls Tryz.prog K (#[.int .i64 i, .int .i64 k] ++ caps) w fun e w' => e = .returned (.bool true) ∧ Fr Y w w' ∧ ∃ Y', St Y' (M ++ if (headNd us).k = 0 then ts else us) (i + ts.length) (k + us.length) w' ∧ ∀ q, Y' q → Y q ∨ w.heap.size ≤ q

/-- Two cells' blocks, laid one after another. -/
theorem two_at (w : World) (u v : Array Value) (T : TypeId) : ((w.alloc (.cells u T)).alloc (.cells v T)).drew.heap[w.heap.size]? = some (.cells u T (0, 0)) ∧ ((w.alloc (.cells u T)).alloc (.cells v T)).drew.heap[w.heap.size + 1]? = some (.cells v T (0, 0)) ∧ Below w.heap.size w ((w.alloc (.cells u T)).alloc (.cells v T)).drew ∧ ((w.alloc (.cells u T)).alloc (.cells v T)).drew.heap.size = w.heap.size + 2 := by
  have h1 := heap_alloc_new w (.cells u T)
  have h2 := heap_alloc_new (w.alloc (.cells u T)) (.cells v T)
  rw [World.size_alloc] at h2
  have h3 := Below.heap_alloc (w.alloc (.cells u T)) (.cells v T) w.heap.size (by simp)
  exact ⟨h3.trans h1, h2, (ext_alloc (ext_alloc (Below.refl _ _) _) _).drew, by show ((w.alloc (.cells u T)).alloc (.cells v T)).heap.size = _; simp⟩

theorem share {T G : Prop} (h : Hid T → G) (t : T) : G := h (Lib.hid t)

def OvrPost (St : (Nat → Prop) → List Nd → Nat → Nat → World → Prop) (Y : Nat → Prop) (M : List Nd) (i k : Nat) (ts us : List Nd) (w : World) (e : Ending) (w' : World) : Prop :=
  Fr Y w w' ∧ ((∃ zs Y', met 1 ts us = some zs ∧ e = .returned (.tuple #[.int .i64 ((i + ts.length : Nat) : Int), .int .i64 ((k + us.length : Nat) : Int), .bool true]) ∧ St Y' (M ++ zs) (i + ts.length) (k + us.length) w' ∧ ∀ k, Y' k → Y k ∨ w.heap.size ≤ k) ∨
    (met 1 ts us = none ∧ e = .returned (.tuple #[.int .i64 0, .int .i64 0, .bool false])))

/-- Between two children. -/
structure OvI (a b : List Nd) (St : (Nat → Prop) → List Nd → Nat → Nat → World → Prop) (Y : Nat → Prop) (M : List Nd) (x : Nd) (xt yt r s : List Nd) (i k : Nat) (w1 : World) (j i' k' : Nat) (fs gs Mj : List Nd) (Yj : Nat → Prop) (wr : World) : Prop where
  da : a.drop i' = fs ++ r
  db : b.drop k' = gs ++ s
  oa : okAll fs
  ob : okAll gs
  fa : Fo (manyN x - j) fs
  fb : Fo (manyN x - j) gs
  la : i' + fs.length = i + 1 + xt.length
  lb : k' + gs.length = k + 1 + yt.length
  met : met (manyN x) xt yt = (met (manyN x - j) fs gs).map fun z => Mj ++ z
  st : St Yj (M ++ x :: Mj) i' k' wr
  yl : ∀ q, Yj q → Y q ∨ w1.heap.size ≤ q
  fr : Fr Y w1 wr
  lf : fs.length ≤ xt.length

set_option maxRecDepth 100000 in
set_option maxHeartbeats 8000000 in
theorem over_any (K : FuncId) (caps : Array Value) (a b : List Nd) (A B : Option Addr) (c d base : Nat) (St : (Nat → Prop) → List Nd → Nat → Nat → World → Prop) (hO : Ovr K caps a b A B base St) (hla : a.length ≤ 1000000000) (hlb : b.length ≤ 1000000000) :
    ∀ (f : Nat) (ts us r s M : List Nd) (i k : Nat) (Y : Nat → Prop) (w : World), ts.length ≤ f → a.drop i = ts ++ r → b.drop k = us ++ s → okAll ts → okAll us → Fo 1 ts → Fo 1 us → (headNd ts).s = (headNd us).s → TyA w base A a → TyA w base B b → base ≤ w.heap.size → St Y M i k w →
      Calls Tryz.prog 139 #[.agg #[.slice A a.length c, .slice B b.length d, .func (.func K) #[] caps], .int .i64 i, .int .i64 k] w (OvrPost St Y M i k ts us w) := by
  intro f
  induction f with
  | zero =>
    intro ts us r s M i k Y w hf _ _ _ _ h1
    exact absurd h1.pos (by omega)
  | succ f ih =>
    intro ts us r s M i k Y w hf hda hdb hoa hob h1 h2 hs hA hB hbw hSt
    rcases ts with _ | ⟨x, xt⟩
    · exact absurd h1.pos (by simp)
    rcases us with _ | ⟨y, yt⟩
    · exact absurd h2.pos (by simp)
    have hx : a[i]? = some x := getq_of_drop hda
    have hy : b[k]? = some y := getq_of_drop hdb
    have hil := getq_lt hx
    have hkl := getq_lt hy
    have H := Lib.hid (And.intro hda (And.intro hdb (And.intro hoa (And.intro hob (And.intro h1 (And.intro h2 (And.intro hs (And.intro hSt (And.intro hA hB)))))))))
    have HX := Lib.hid (And.intro hx hy)
    obtain ⟨w1, hw1⟩ : ∃ w1, w1 = w.alloc (.cells #[.slice A a.length c, .slice B b.length d, .func (.func K) #[] caps] 148) := ⟨_, rfl⟩
    have hb1w : Below w.heap.size w w1 := by rw [hw1]; exact ext_alloc (Below.refl _ _) _
    have hs1 : w1.heap.size = w.heap.size + 1 := by rw [hw1]; simp
    have hblk : w1.heap[w.heap.size]? = some (.cells #[.slice A a.length c, .slice B b.length d, .func (.func K) #[] caps] 148 (0, 0)) := by rw [hw1]; exact heap_alloc_new _ _
    have p0 : w1.cell? ⟨w.heap.size, 0, none⟩ = some (.slice A a.length c) := by simp [World.cell?, hblk]
    have p1 : w1.cell? ⟨w.heap.size, 1, none⟩ = some (.slice B b.length d) := by simp [World.cell?, hblk]
    have p2 : w1.cell? ⟨w.heap.size, 2, none⟩ = some (.func (.func K) #[] caps) := by simp [World.cell?, hblk]
    have hA1 := hA.below (hb1w.mono hbw)
    have hB1 := hB.below (hb1w.mono hbw)
    have H1 := Lib.hid (And.intro hblk (And.intro (hO.later _ _ _ _ _ _ hSt hb1w) (And.intro hA1 (And.intro hB1 (And.intro hb1w hs1)))))
    obtain ⟨b1, o1, eA, hb1, c10, c11, c12⟩ := hA1.at_ hx
    obtain ⟨b2, o2, eB, hb2, c20, c21, c22⟩ := hB1.at_ hy
    have q1 : b1 < w1.heap.size := by omega
    have q2 : b2 < w1.heap.size := by omega
    have q3 : b1 < w1.heap.size + 1 := by omega
    have q4 : b2 < w1.heap.size + 1 := by omega
    have q5 : w.heap.size < w1.heap.size := by omega
    have q6 : w.heap.size < w1.heap.size + 1 := by omega
    subst eA eB
    have IH := Lib.hid ih
    clear ih hda hdb hoa hob h1 h2 hs hSt hA hB hx hy hA1 hB1 hblk hb1w hs1
    have HV : Hid (∀ v, Below w1.heap.size w1 v → TyA v v.heap.size (some ⟨b1, o1, none⟩) a ∧ TyA v v.heap.size (some ⟨b2, o2, none⟩) b ∧ TyA v base (some ⟨b1, o1, none⟩) a ∧ TyA v base (some ⟨b2, o2, none⟩) b ∧ base ≤ v.heap.size ∧ St Y M i k v ∧ v.heap[w.heap.size]? = some (.cells #[.slice (some ⟨b1, o1, none⟩) a.length c, .slice (some ⟨b2, o2, none⟩) b.length d, .func (.func K) #[] caps] 148 (0, 0)) ∧ Below w.heap.size w v) := Lib.hid fun v hv => by
      have hbv : base ≤ w1.heap.size := by omega
      have k1 := H1.out.2.2.1.below (hv.mono hbv)
      have k2 := H1.out.2.2.2.1.below (hv.mono hbv)
      have hsz := hv.size
      exact ⟨k1.more (by omega), k2.more (by omega), k1, k2, by omega, hO.later _ _ _ _ _ _ H1.out.2.1 hv, (hv.block _ q5).trans H1.out.1, H1.out.2.2.2.2.1.trans (hv.mono H1.out.2.2.2.2.1.size)⟩
    go_enter Tryz.func139, Tryz.ntmps139
    go_upto_region 1 with fail
    rw [← hw1]
    clear hw1
    apply share
    case h =>
      intro HT
      go_region
      · obtain ⟨w2, hw2⟩ : ∃ w2, w2 = ((w1.alloc (.cells #[.int .i64 x.k, .string x.s, .int .i64 x.n] 49)).alloc (.cells #[.int .i64 y.k, .string y.s, .int .i64 y.n] 49)).drew := ⟨_, rfl⟩
        obtain ⟨n9, h9⟩ : ∃ n, n = w1.heap.size := ⟨_, rfl⟩
        obtain ⟨n10, h10⟩ : ∃ n, n = w1.heap.size + 1 := ⟨_, rfl⟩
        have F : Hid (w2.heap[n9]? = some (.cells #[.int .i64 x.k, .string x.s, .int .i64 x.n] 49 (0, 0)) ∧ w2.heap[n10]? = some (.cells #[.int .i64 y.k, .string y.s, .int .i64 y.n] 49 (0, 0)) ∧ Below w1.heap.size w1 w2) := Lib.hid (by
          obtain ⟨e1, e2, e3, _⟩ := two_at w1 #[.int .i64 x.k, .string x.s, .int .i64 x.n] #[.int .i64 y.k, .string y.s, .int .i64 y.n] 49
          rw [hw2, h9, h10]
          exact ⟨e1, e2, e3⟩)
        rw [← hw2, ← h10, ← h9]
        clear hw2 h9 h10
        revert F
        revert w2 n9 n10
        exact HT.out
      · obtain ⟨w2, hw2⟩ : ∃ w2, w2 = ((w1.alloc (.cells #[.int .i64 y.k, .string y.s, .int .i64 y.n] 49)).alloc (.cells #[.int .i64 x.k, .string x.s, .int .i64 x.n] 49)).drew := ⟨_, rfl⟩
        obtain ⟨n9, h9⟩ : ∃ n, n = w1.heap.size + 1 := ⟨_, rfl⟩
        obtain ⟨n10, h10⟩ : ∃ n, n = w1.heap.size := ⟨_, rfl⟩
        have F : Hid (w2.heap[n9]? = some (.cells #[.int .i64 x.k, .string x.s, .int .i64 x.n] 49 (0, 0)) ∧ w2.heap[n10]? = some (.cells #[.int .i64 y.k, .string y.s, .int .i64 y.n] 49 (0, 0)) ∧ Below w1.heap.size w1 w2) := Lib.hid (by
          obtain ⟨e1, e2, e3, _⟩ := two_at w1 #[.int .i64 y.k, .string y.s, .int .i64 y.n] #[.int .i64 x.k, .string x.s, .int .i64 x.n] 49
          rw [hw2, h9, h10]
          exact ⟨e2, e1, e3⟩)
        rw [← hw2, ← h9, ← h10]
        clear hw2 h9 h10
        revert F
        revert w2 n9 n10
        exact HT.out
    case t =>
      intro w2 n9 n10 F
      have g9 := F.out.1
      have g10 := F.out.2.1
      have c90 : w2.cell? ⟨n9, 0, none⟩ = some (.int .i64 x.k) := by simp [World.cell?, g9]
      have c91 : w2.cell? ⟨n9, 1, none⟩ = some (.string x.s) := by simp [World.cell?, g9]
      have c92 : w2.cell? ⟨n9, 2, none⟩ = some (.int .i64 x.n) := by simp [World.cell?, g9]
      have d90 : w2.cell? ⟨n10, 0, none⟩ = some (.int .i64 y.k) := by simp [World.cell?, g10]
      have d91 : w2.cell? ⟨n10, 1, none⟩ = some (.string y.s) := by simp [World.cell?, g10]
      have d92 : w2.cell? ⟨n10, 2, none⟩ = some (.int .i64 y.n) := by simp [World.cell?, g10]
      have e0 := (F.out.2.2.cell (p := ⟨w.heap.size, 0, none⟩) q5).trans p0
      have e1 := (F.out.2.2.cell (p := ⟨w.heap.size, 1, none⟩) q5).trans p1
      have e2 := (F.out.2.2.cell (p := ⟨w.heap.size, 2, none⟩) q5).trans p2
      clear c10 c11 c12 c20 c21 c22 p0 p1 p2 g9 g10
      by_cases h0 : x.k = 0 ∨ y.k = 0
      · have hcond : (x.k = 0) ∨ (x.k ≠ 0 ∧ y.k = 0) := by omega
        have Hh0 := Lib.hid h0
        rcases hcond with hx0 | ⟨hx0, hy0⟩
        all_goals
          go_wp2_with fail
          clear e0 e1 e2 c90 c91 c92 d90 d91 d92
          obtain ⟨SS, hSS⟩ : ∃ SS : World → Prop, SS = fun v => v.cell? ⟨w.heap.size, 0, none⟩ = some (.slice (some ⟨b1, o1, none⟩) a.length c) ∧ v.cell? ⟨w.heap.size, 1, none⟩ = some (.slice (some ⟨b2, o2, none⟩) b.length d) ∧ v.cell? ⟨w.heap.size, 2, none⟩ = some (.func (.func K) #[] caps) := ⟨_, rfl⟩
          have HS : Hid (∀ v, v.heap[w.heap.size]? = some (.cells #[.slice (some ⟨b1, o1, none⟩) a.length c, .slice (some ⟨b2, o2, none⟩) b.length d, .func (.func K) #[] caps] 148 (0, 0)) → SS v) := Lib.hid fun v hv => by
            rw [hSS]
            exact ⟨by simp [World.cell?, hv], by simp [World.cell?, hv], by simp [World.cell?, hv]⟩
          obtain ⟨wd, hwd⟩ : ∃ wd, wd = w2.drew := ⟨_, rfl⟩
          have HBd : Hid (Below w1.heap.size w1 wd) := Lib.hid (by rw [hwd]; exact F.out.2.2.drew)
          have hsd : SS wd := HS.out wd (HV.out wd HBd.out).2.2.2.2.2.2.1
          have heg := hO.eg
          refine wp_region_L_drew (S := SS) [15] (by kernel_rfl) (by rw [← hwd]; exact hsd) (fun hHeld => ?_)
          rw [← hwd] at hHeld ⊢
          clear hwd
          refine onA 0 [1, 3, 7, 12, 13, 14, 15] (some 31) rfl rfl ?_
          refine onA 1 [3, 7, 12, 13, 14, 15] (some 32) rfl rfl ?_
          refine onA 2 [3, 7, 12, 13, 14, 15] (some 33) rfl rfl ?_
          refine onA 4 [5, 7, 12, 13, 14, 15] (some 35) rfl rfl ?_
          refine onA 5 [7, 12, 13, 14, 15] (some 36) rfl rfl ?_
          refine onA 6 [7, 12, 13, 14, 15] (some 37) rfl rfl ?_
          refine onA 8 [9, 12, 13, 14, 15] (some 39) rfl rfl ?_
          refine onA 9 [12, 13, 14, 15] (some 40) rfl rfl ?_
          refine onA 10 [12, 13, 14, 15] (some 41) rfl rfl ?_
          refine onA 11 [12, 13, 14, 15] (some 42) rfl rfl ?_
          refine callL 3 (some 34) rfl rfl (by kernel_rfl) (by rfl) (by go_simp) (pEnd_any _ c a (x :: xt) r i wd (HV.out wd HBd.out).1 hla H.out.1 H.out.2.2.1 H.out.2.2.2.2.1) ?_
          rintro e w3 ⟨rfl, hb3⟩
          have HB3 : Hid (Below w1.heap.size w1 w3) := Lib.hid (ext_trans HBd.out hb3)
          have hs3 : SS w3 := HS.out w3 (HV.out w3 HB3.out).2.2.2.2.2.2.1
          clear hb3
          refine ⟨_, rfl, hs3, ?_⟩
          refine putA ?_
          refine callL 7 (some 38) rfl rfl (by kernel_rfl) (by rfl) (by go_simp) (pEnd_any _ d b (y :: yt) s k w3 (HV.out w3 HB3.out).2.1 hlb H.out.2.1 H.out.2.2.2.1 H.out.2.2.2.2.2.1) ?_
          rintro e w4 ⟨rfl, hb4⟩
          have HB4 : Hid (Below w1.heap.size w1 w4) := Lib.hid (ext_trans HB3.out hb4)
          have hs4 : SS w4 := HS.out w4 (HV.out w4 HB4.out).2.2.2.2.2.2.1
          clear hb4
          refine ⟨_, rfl, hs4, ?_⟩
          refine putA ?_
          have Hdy := Lib.hid (hO.dyn Y M i k (x :: xt) (y :: yt) r s w4 H.out.1 H.out.2.1 H.out.2.2.1 H.out.2.2.2.1 H.out.2.2.2.2.1 H.out.2.2.2.2.2.1 Hh0.out (HV.out w4 HB4.out).2.2.1 (HV.out w4 HB4.out).2.2.2.1 (HV.out w4 HB4.out).2.2.2.2.1 (HV.out w4 HB4.out).2.2.2.2.2.1)
          refine callL 12 (some 43) rfl rfl (by kernel_rfl) (by rfl) (by go_simp) Hdy.out ?_
          rintro e w5 ⟨rfl, hf5, Y', hst5, hY'⟩
          have h55 : w5.heap[w.heap.size]? = some (.cells #[.slice (some ⟨b1, o1, none⟩) a.length c, .slice (some ⟨b2, o2, none⟩) b.length d, .func (.func K) #[] caps] 148 (0, 0)) := (hf5.block _ (by have := HB4.out.size; omega) fun e => by have := (hO.low _ _ _ _ _ H.out.2.2.2.2.2.2.2.1 _ e).2; omega).trans (HV.out w4 HB4.out).2.2.2.2.2.2.1
          have hs5 : SS w5 := HS.out w5 h55
          have HP : Hid (OvrPost St Y M i k (x :: xt) (y :: yt) w (.returned (.tuple #[.int .i64 ((i + (x :: xt).length : Nat) : Int), .int .i64 ((k + (y :: yt).length : Nat) : Int), .bool true])) w5) := Lib.hid (by
            have hbw4 := (HV.out w4 HB4.out).2.2.2.2.2.2.2
            refine ⟨(Fr.below hbw4).trans hf5, .inl ⟨_, Y', met_dyn H.out.2.2.2.2.1 H.out.2.2.2.2.2.1 H.out.2.2.2.2.2.2.1 Hh0.out, rfl, hst5, fun q hq => ?_⟩⟩
            rcases hY' q hq with h | h
            · exact .inl h
            · exact .inr (Nat.le_trans hbw4.size h))
          clear hf5 hst5 hY' h55
          refine ⟨_, rfl, hs5, ?_⟩
          refine putA ?_
          refine onA 13 [14, 15] (some 6) rfl rfl ?_
          refine onA 14 [15] (some 7) rfl rfl ?_
          refine valL 15 (some 8) (v := .bool true) (w' := w5) rfl rfl (by kernel_rfl) (by rfl) (by go_simp) (zL (by kernel_rfl)) ?_
          refine putA ?_
          refine doneL (by kernel_rfl) ?_ _
          go_wp2_with fail
          go_ret3
          exact HP.out
      · have hx0 : ¬ x.k = 0 := fun e => h0 (.inl e)
        have hy0 : ¬ y.k = 0 := fun e => h0 (.inr e)
        have Hh0 := Lib.hid h0
        have hxy : x.s = y.s := H.out.2.2.2.2.2.2.1
        have hbe : x.s.toList = y.s.toList := by rw [hxy]
        have Hk := Lib.hid (pKids_any _ c a xt r x i w2 (HV.out w2 F.out.2.2).1 hla HX.out.1 (H.out.2.2.1 x (by simp)) (by rw [← List.drop_drop, H.out.1]; rfl) (fun z hz => H.out.2.2.1 z (by simp [hz])) (Fo.kids H.out.2.2.2.2.1))
        have HKL : Hid ((asI (kidsGo a (manyN x) (i + 1))).length = manyN x) := Lib.hid (by
          rw [asI_len]
          exact kidsGo_fo _ _ xt r (by rw [← List.drop_drop, H.out.1]; rfl) (fun z hz => H.out.2.2.1 z (by simp [hz])) (Fo.kids H.out.2.2.2.2.1))
        by_cases hbad : x.k ≠ y.k ∨ x.n ≠ y.n
        · have Hm := Lib.hid (met_off (xt := xt) (yt := yt) hxy h0 hbad)
          have bx : (x.k == 0) = false := by simp [hx0]
          have bY : (y.k == 0) = false := by simp [hy0]
          have hcase : ((x.k != y.k) = true) ∨ ((x.k != y.k) = false ∧ (x.n != y.n) = true) := by
            by_cases e : x.k = y.k
            · refine .inr ⟨by simp [e], ?_⟩
              have : x.n ≠ y.n := by omega
              simp [this]
            · exact .inl (by simp [e])
          clear h0 hbad hx0 hy0 hxy
          rcases hcase with hk | ⟨hk, hn⟩
          all_goals
            go_wp2_with fail
            refine Hk.out.mono ?_
            rintro e w3 ⟨A', cap', rfl, _, hb3⟩
            have HB3 : Hid (Below w.heap.size w w3) := Lib.hid (ext_trans (HV.out w2 F.out.2.2).2.2.2.2.2.2.2 hb3)
            have f90 := (hb3.cell (p := ⟨n9, 0, none⟩) (World.block_lt_of_cell? _ _ c90)).trans c90
            have f91 := (hb3.cell (p := ⟨n9, 1, none⟩) (World.block_lt_of_cell? _ _ c91)).trans c91
            have f92 := (hb3.cell (p := ⟨n9, 2, none⟩) (World.block_lt_of_cell? _ _ c92)).trans c92
            have f80 := (hb3.cell (p := ⟨n10, 0, none⟩) (World.block_lt_of_cell? _ _ d90)).trans d90
            have f81 := (hb3.cell (p := ⟨n10, 1, none⟩) (World.block_lt_of_cell? _ _ d91)).trans d91
            have f82 := (hb3.cell (p := ⟨n10, 2, none⟩) (World.block_lt_of_cell? _ _ d92)).trans d92
            clear hb3
            go_wp2_with fail
            go_ret3
            exact ⟨Fr.below HB3.out, .inr ⟨Hm.out, rfl⟩⟩
        · have bx : (x.k == 0) = false := by simp [hx0]
          have bY : (y.k == 0) = false := by simp [hy0]
          have hk : (x.k != y.k) = false := by simp; omega
          have hn : (x.n != y.n) = false := by simp; omega
          have HKN : Hid (x.k = y.k ∧ x.n = y.n) := Lib.hid ⟨by omega, by omega⟩
          clear hbad h0 hx0 hy0 hxy
          go_wp2_with fail
          refine Hk.out.mono ?_
          rintro e w3 ⟨A', cap', rfl, _, hb3⟩
          rw [HKL.out]
          have HB3 : Hid (Below w1.heap.size w1 w3) := Lib.hid (ext_trans F.out.2.2 hb3)
          have f90 := (hb3.cell (p := ⟨n9, 0, none⟩) (World.block_lt_of_cell? _ _ c90)).trans c90
          have f91 := (hb3.cell (p := ⟨n9, 1, none⟩) (World.block_lt_of_cell? _ _ c91)).trans c91
          have f92 := (hb3.cell (p := ⟨n9, 2, none⟩) (World.block_lt_of_cell? _ _ c92)).trans c92
          have f80 := (hb3.cell (p := ⟨n10, 0, none⟩) (World.block_lt_of_cell? _ _ d90)).trans d90
          have f81 := (hb3.cell (p := ⟨n10, 1, none⟩) (World.block_lt_of_cell? _ _ d91)).trans d91
          have f82 := (hb3.cell (p := ⟨n10, 2, none⟩) (World.block_lt_of_cell? _ _ d92)).trans d92
          clear hb3 e0 e1 e2 c90 c91 c92 d90 d91 d92
          go_upto_region 9 with fail
          clear f90 f91 f92 f80 f81 f82
          have HL := Lib.hid (hO.low _ _ _ _ _ H.out.2.2.2.2.2.2.2.1)
          go_loopw [1, 2, 73] (fun s1 s2 s73 wr => ∃ (j i' k' : Nat) (fs gs Mj : List Nd) (Yj : Nat → Prop), j ≤ manyN x ∧ s1 = .int .i64 i' ∧ s2 = .int .i64 k' ∧ s73 = .int .i64 j ∧ Hid (OvI a b St Y M x xt yt r s i k w1 j i' k' fs gs Mj Yj wr)) (fun _ _ s73 _ => manyN x - (Lib.intOf s73).toNat)
          case atStart =>
            refine ⟨0, i + 1, k + 1, xt, yt, [], Y, Nat.zero_le _, by go_num, by go_num, rfl, Lib.hid ⟨by rw [← List.drop_drop, H.out.1]; rfl, by rw [← List.drop_drop, H.out.2.1]; rfl, fun z hz => H.out.2.2.1 z (by simp [hz]), fun z hz => H.out.2.2.2.1 z (by simp [hz]), Fo.kids H.out.2.2.2.2.1, ?_, rfl, rfl, ?_, hO.node Y M i k x w3 (HV.out w3 HB3.out).2.2.2.2.2.1 HX.out.1, fun q hq => .inl hq, Fr.below HB3.out, Nat.le_refl _⟩⟩
            · have := Fo.kids H.out.2.2.2.2.2.1
              unfold manyN at this ⊢
              rw [Nat.sub_zero, HKN.out.1, HKN.out.2]
              exact this
            · simp
          case round =>
            obtain ⟨j, i', k', fs, gs, Mj, Yj, hj, rfl, rfl, rfl, HI⟩ := hrel
            have hBw : Below base w1 wr := ⟨HI.out.fr.os, HI.out.fr.tape, HI.out.fr.output, HI.out.fr.size, fun q hq => HI.out.fr.block q (by omega) fun e => by have := (HL.out q e).1; omega⟩
            have HBw := Lib.hid hBw
            have hTA := H1.out.2.2.1.below hBw
            have hTB := H1.out.2.2.2.1.below hBw
            have hbx : wr.heap[w.heap.size]? = some (.cells #[.slice (some ⟨b1, o1, none⟩) a.length c, .slice (some ⟨b2, o2, none⟩) b.length d, .func (.func K) #[] caps] 148 (0, 0)) := (HI.out.fr.block _ q5 fun e => by have := (HL.out _ e).2; omega).trans H1.out.1
            have HT := Lib.hid (And.intro hTA hTB)
            have HFw : Hid (Fr Y w wr) := Lib.hid ((Fr.below H1.out.2.2.2.2.1).trans HI.out.fr)
            have hm50 : manyN x ≤ 50 := manyN_le (H.out.2.2.1 x (by simp))
            by_cases hlt : j < manyN x
            · obtain ⟨m', hm'⟩ : ∃ m', manyN x - j = m' + 1 := ⟨manyN x - j - 1, by omega⟩
              have fa := HI.out.fa
              have fb := HI.out.fb
              rw [hm'] at fa fb
              obtain ⟨t1, fs', rfl, ft1, ffs⟩ := fa.first
              obtain ⟨u1, gs', rfl, fu1, fgs⟩ := fb.first
              match t1, u1, ft1, fu1, ft1.pos, fu1.pos with
              | x1 :: t1, y1 :: u1, ft1, fu1, _, _ =>
                have ha1 : a[i']? = some x1 := getq_of_drop HI.out.da
                have hb1' : b[k']? = some y1 := getq_of_drop HI.out.db
                have hil' := getq_lt ha1
                have hkl' := getq_lt hb1'
                obtain ⟨b3, o3, eA, hb3, c30, c31, c32⟩ := hTA.at_ ha1
                obtain ⟨b4, o4, eB, hb4, c40, c41, c42⟩ := hTB.at_ hb1'
                injection eA with eA
                injection eA with eA1 eA2 _
                subst eA1 eA2
                injection eB with eB
                injection eB with eB1 eB2 _
                subst eB1 eB2
                have e0 : ∀ n, (wr.drewN n).cell? ⟨w.heap.size, 0, none⟩ = some (.slice (some ⟨b1, o1, none⟩) a.length c) := fun n => by show wr.cell? _ = _; simp [World.cell?, hbx]
                have e1 : ∀ n, (wr.drewN n).cell? ⟨w.heap.size, 1, none⟩ = some (.slice (some ⟨b2, o2, none⟩) b.length d) := fun n => by show wr.cell? _ = _; simp [World.cell?, hbx]
                have e2 : ∀ n, (wr.drewN n).cell? ⟨w.heap.size, 2, none⟩ = some (.func (.func K) #[] caps) := fun n => by show wr.cell? _ = _; simp [World.cell?, hbx]
                have cx : ∀ n, (wr.drewN n).cell? ⟨b1, o1 + i' * 3 + 1, none⟩ = some (.string x1.s) := fun _ => c31
                have cy : ∀ n, (wr.drewN n).cell? ⟨b2, o2 + k' * 3 + 1, none⟩ = some (.string y1.s) := fun _ => c41
                have HG := Lib.hid (And.intro ft1 (And.intro fu1 (And.intro ffs (And.intro fgs (And.intro hm' hbx)))))
                clear c30 c31 c32 c40 c41 c42 ft1 fu1 ffs fgs fa fb hm' hbx hTA hTB hBw ha1 hb1'
                by_cases hl : x1.s = y1.s
                · have hle : (!x1.s.toList == y1.s.toList) = false := by rw [hl]; simp
                  have HLs := Lib.hid hl
                  clear hl
                  go_upto_region 10 with fail
                  go_quiet (fail)
                  obtain ⟨w5, hw5⟩ : ∃ w5, w5 = wr.drewN nq := ⟨_, rfl⟩
                  rw [← hw5]
                  have g0 : w5.cell? ⟨w.heap.size, 0, none⟩ = some (.slice (some ⟨b1, o1, none⟩) a.length c) := by rw [hw5]; exact e0 _
                  have g1 : w5.cell? ⟨w.heap.size, 1, none⟩ = some (.slice (some ⟨b2, o2, none⟩) b.length d) := by rw [hw5]; exact e1 _
                  have g2 : w5.cell? ⟨w.heap.size, 2, none⟩ = some (.func (.func K) #[] caps) := by rw [hw5]; show wr.cell? _ = _; simp [World.cell?, HG.out.2.2.2.2.2]
                  have HW5 : Hid (Below wr.heap.size wr w5 ∧ w5.heap.size = wr.heap.size) := Lib.hid (by rw [hw5]; exact ⟨below_drewN (Below.refl _ _) _, rfl⟩)
                  clear hw5 e0 e1 e2 cx cy
                  have hbwr : base ≤ wr.heap.size := by have := HBw.out.size; omega
                  have Hrec := Lib.hid (IH.out (x1 :: t1) (y1 :: u1) (fs' ++ r) (gs' ++ s) (M ++ x :: Mj) i' k' Yj w5 (by have := HI.out.lf; simp at this hf ⊢; omega) (by rw [HI.out.da, List.append_assoc]) (by rw [HI.out.db, List.append_assoc]) (okAll_left HI.out.oa) (okAll_left HI.out.ob) HG.out.1 HG.out.2.1 HLs.out (HT.out.1.below (HW5.out.1.mono hbwr)) (HT.out.2.below (HW5.out.1.mono hbwr)) (by rw [HW5.out.2]; exact hbwr) (hO.later _ _ _ _ _ _ HI.out.st HW5.out.1))
                  go_wp2_with fail
                  refine Hrec.out.mono ?_
                  rintro e w6 ⟨hf6, h6⟩
                  have HF6 : Hid (Fr Y w1 w6) := Lib.hid ((HI.out.fr.trans (Fr.below HW5.out.1)).new hf6 HI.out.yl)
                  rcases h6 with ⟨zs, Y6, hm6, rfl, hst6, hy6⟩ | ⟨hm6, rfl⟩
                  · have H6 := Lib.hid (And.intro hm6 (And.intro hst6 hy6))
                    clear hm6 hst6 hy6 hf6
                    go_wp2_with fail
                    go_roundw
                    case rel =>
                      refine ⟨j + 1, i' + (x1 :: t1).length, k' + (y1 :: u1).length, fs', gs', Mj ++ zs, Y6, hlt, rfl, rfl, by go_num, Lib.hid ⟨drop_more (by rw [HI.out.da, List.append_assoc]), drop_more (by rw [HI.out.db, List.append_assoc]), okAll_right HI.out.oa, okAll_right HI.out.ob, ?_, ?_, ?_, ?_, ?_, ?_, fun q hq => ?_, HF6.out, ?_⟩⟩
                      · rw [show manyN x - (j + 1) = m' by have := HG.out.2.2.2.2.1; omega]; exact HG.out.2.2.1
                      · rw [show manyN x - (j + 1) = m' by have := HG.out.2.2.2.2.1; omega]; exact HG.out.2.2.2.1
                      · have := HI.out.la; rw [List.length_append] at this; omega
                      · have := HI.out.lb; rw [List.length_append] at this; omega
                      · rw [HI.out.met, HG.out.2.2.2.2.1, show manyN x - (j + 1) = m' by have := HG.out.2.2.2.2.1; omega, met_split HG.out.1 HG.out.2.1, H6.out.1]
                        cases met m' fs' gs' <;> simp
                      · have := H6.out.2.1
                        rwa [List.append_assoc, List.cons_append] at this
                      · rcases H6.out.2.2 q hq with h | h
                        · exact HI.out.yl q h
                        · exact .inr (by have := HI.out.fr.size; have := HW5.out.2; omega)
                      · have := HI.out.lf; rw [List.length_append] at this; omega
                    case measure =>
                      simp [Lib.intOf]; omega
                  · have H6 := Lib.hid hm6
                    clear hm6 hf6
                    go_wp2_with fail
                    go_ret3
                    refine ⟨(Fr.below H1.out.2.2.2.2.1).trans HF6.out, .inr ⟨?_, rfl⟩⟩
                    rw [met_node (x := x) (y := y) (xt := xt) (yt := yt) H.out.2.2.2.2.2.2.1 Hh0.out HKN.out.1 HKN.out.2, HI.out.met, HG.out.2.2.2.2.1, met_split HG.out.1 HG.out.2.1, H6.out]
                    rfl
                · have hle : (!x1.s.toList == y1.s.toList) = true := strNe hl
                  have HLs := Lib.hid hl
                  clear hl
                  go_upto_region 10 with fail
                  go_quiet (fail)
                  go_wp2_with fail
                  go_ret3
                  refine ⟨HFw.out.drewN _, .inr ⟨?_, rfl⟩⟩
                  rw [met_node (x := x) (y := y) (xt := xt) (yt := yt) H.out.2.2.2.2.2.2.1 Hh0.out HKN.out.1 HKN.out.2, HI.out.met, HG.out.2.2.2.2.1, List.cons_append, List.cons_append, met_lab HLs.out]
                  rfl
            · have hjm : manyN x - j = 0 := by omega
              have hfs : fs = [] := by have := HI.out.fa; rw [hjm] at this; exact this.of_zero
              have hgs : gs = [] := by have := HI.out.fb; rw [hjm] at this; exact this.of_zero
              subst hfs hgs
              have hla' := HI.out.la
              have hlb' := HI.out.lb
              simp only [List.length_nil, Nat.add_zero] at hla' hlb'
              have HP : Hid (OvrPost St Y M i k (x :: xt) (y :: yt) w (.returned (.tuple #[.int .i64 (i' : Int), .int .i64 (k' : Int), .bool true])) wr) := Lib.hid (by
                refine ⟨HFw.out, .inl ⟨x :: Mj, Yj, ?_, ?_, ?_, fun q hq => ?_⟩⟩
                · rw [met_node (x := x) (y := y) (xt := xt) (yt := yt) H.out.2.2.2.2.2.2.1 Hh0.out HKN.out.1 HKN.out.2, HI.out.met, hjm, met_zero]
                  simp
                · rw [show i + (x :: xt).length = i' by simp; omega, show k + (y :: yt).length = k' by simp; omega]
                · rw [show i + (x :: xt).length = i' by simp; omega, show k + (y :: yt).length = k' by simp; omega]
                  exact HI.out.st
                · rcases HI.out.yl q hq with h | h
                  · exact .inl h
                  · exact .inr (by omega))
              clear hbx hTA hTB hBw hla' hlb' hjm
              go_wp2_with fail
              go_ret3
              exact HP.out
end Go.Proofs.YtmjdhfbnmmdjiaaGreat

/- prec.Agree. -/
namespace Go.Proofs.YtmjdhfbnmmdjiaaGreat
open Go.RowKit

theorem agree1_eg : ∀ args w, (callFunc 143 args).run Tryz.prog w = .ok (.enter 143 args) w := by
  intro args w
  kernel_rfl

theorem ovr_agree (a b : List Nd) (A B : Option Addr) (base : Nat) : Ovr 143 #[] a b A B base (fun Y _ _ _ _ => ∀ q, ¬ Y q) where
  eg := agree1_eg
  low := fun Y M i k w h q hq => absurd hq (h q)
  later := fun Y M i k w w' h _ => h
  node := fun Y M i k x w h _ => h
  dyn := by
    intro Y M i k ts us r s w _ _ _ _ _ _ _ _ _ _ hY
    go_enter Tryz.func143, Tryz.ntmps143
    go_wp2_with fail
    go_ret
    exact ⟨rfl, Fr.refl _ _, Y, hY, fun q hq => .inl hq⟩

/-- A good type: so many nodes, one tree, no label on top. -/
structure Gd (t : List Nd) : Prop where
  ok : okAll t
  fo : Fo 1 t
  s : (headNd t).s = ByteArray.empty
  len : t.length ≤ 1000000000

set_option maxRecDepth 100000 in
set_option maxHeartbeats 2000000 in
theorem agree_any (A B : Option Addr) (c d : Nat) (a b : List Nd) (w : World) (ha : TyA w w.heap.size A a) (hb : TyA w w.heap.size B b) (ga : Gd a) (gb : Gd b) :
    Calls Tryz.prog 121 #[.slice A a.length c, .slice B b.length d] w fun e w' => e = .returned (.bool (agB a b)) ∧ Below w.heap.size w w' := by
  have H := fun v (hv : Below w.heap.size w v) => over_any 143 #[] a b A B c d w.heap.size _ (ovr_agree a b A B w.heap.size) ga.len gb.len a.length a b [] [] [] 0 0 (fun _ => False) v (Nat.le_refl _) (by simp) (by simp) ga.ok gb.ok ga.fo gb.fo (by rw [ga.s, gb.s]) (ha.below hv) (hb.below hv) hv.size (fun _ h => h)
  have H := Lib.hid H
  go_enter Tryz.func121, Tryz.ntmps121
  go_wp2_with fail
  refine (H.out _ (ext_alloc (Below.refl _ _) _)).mono ?_
  rintro e w2 ⟨hf, h⟩
  have hb2 : Below w.heap.size w w2 := ext_trans (ext_alloc (Below.refl _ _) _) (hf.toBelow fun _ h => h.elim)
  clear hf
  rcases h with ⟨zs, Y', hm, rfl, _, _⟩ | ⟨hm, rfl⟩
  · go_wp2_with fail
    go_ret
    exact ⟨by rw [agB, hm]; rfl, hb2⟩
  · go_wp2_with fail
    go_ret
    exact ⟨by rw [agB, hm]; rfl, hb2⟩
end Go.Proofs.YtmjdhfbnmmdjiaaGreat

/- Small laws on memory, for the walks of check. -/
namespace Go.Proofs.YtmjdhfbnmmdjiaaGreat
open Go.RowKit

theorem heap_set {w : World} {g : Nat} {cs : Array Value} {t : TypeId} (h : w.heap[g]? = some (.cells cs t (0, 0))) (i : Nat) (u : Value) : (w.setCell ⟨g, i, none⟩ u).heap[g]? = some (.cells (cs.setIfInBounds i u) t (0, 0)) := by
  simp only [World.setCell, Array.getElem?_modify, h, if_true, Option.map_some]
  simp

section
variable {base : Nat} {w w' : World} {Y : Nat → Prop}
theorem OwnL.fr {α : Type} {enc : α → List Value} {e size cap : Nat} {A : Option Addr} {l : List α} (h : OwnL e size enc w base A cap l) (hf : Fr Y w w') (hY : ∀ a, A = some a → ¬ Y a.block) : OwnL e size enc w' base A cap l := by
  cases A with
  | none =>
    rcases h.2 with ⟨hv, hn⟩ | ⟨g, cap', cur, hv, _⟩
    · have hl : l = [] := List.eq_nil_of_length_eq_zero hn
      subst hl
      injection hv with _ _ hc
      subst hc
      exact OwnL.nil
    · cases hv
  | some a =>
    rcases h.2 with ⟨hv, hn⟩ | ⟨g, cap', cur, hv, hbg, hg, hr⟩
    · cases hv
    · have hlt : g < w.heap.size := (Array.getElem?_eq_some_iff.1 hg).1
      injection hv with hA _ hcp
      injection hA with hA
      subst hA hcp
      exact ⟨h.1, .inr ⟨g, cap, cur, rfl, hbg, (hf.block g hlt (hY _ rfl)).trans hg, hr⟩⟩
theorem OwnL.lt {α : Type} {e size : Nat} {enc : α → List Value} {A : Option Addr} {cap : Nat} {l : List α} (h : OwnL e size enc w base A cap l) : ∀ a, A = some a → base ≤ a.block ∧ a.block < w.heap.size := fun a ha => by
  subst ha
  exact OwnL.block h a.block rfl
end

theorem op_appN {w : World} {o : Oper} {a : Act} {K : Act → World → Prop} {Q : Exit → Act → World → Prop} (s x : Operand)
    (ho : o.op = .call { callee := .builtin .append, args := #[s, x], argTypes := #[28, 28] })
    (base : Nat) {A : Option Addr} {cap : Nat} {l : List Nd} (hs : a.eval s = .slice A l.length cap) (hown : OwnN w base A cap l) {B : Nat} {A2 : Option Addr} {c : Nat} {l2 : List Nd} (hx : a.eval x = .slice A2 l2.length c) (hr : TyA w B A2 l2)
    (hlen : l.length + l2.length ≤ 1000000000000) (hbase : base ≤ w.heap.size)
    (h : ∀ A' cap' w', OwnN w' base A' cap' (l ++ l2) → w.grownBy w' ((Value.slice A l.length cap).ownBlock) →
      ((Value.slice A' (l.length + l2.length) cap').ownBlock = (Value.slice A l.length cap).ownBlock ∨ (Value.slice A' (l.length + l2.length) cap').ownBlock = some w.heap.size) → K (a.put o.dst (.slice A' (l.length + l2.length) cap')) w') : Oper.wp Tryz.prog o a w K Q := by
  obtain ⟨i0, hi, hz0, hz1, hz2⟩ := info_parts infoN
  exact wp_app w encN_len encN_one s x 28 ho base 49 i0 _ 32 Tryz.underlying28 hi hz0 hz1 hz2 rfl (by decide) hs hown hx hr.readL (by unfold maxLen; omega) (by omega) hbase h

/-- The same, the lengths by other names. -/
theorem op_appM {w : World} {o : Oper} {a : Act} {K : Act → World → Prop} {Q : Exit → Act → World → Prop} (s x : Operand)
    (ho : o.op = .call { callee := .builtin .append, args := #[s, x], argTypes := #[28, 28] })
    (base : Nat) {A : Option Addr} {cap m n : Nat} {l : List Nd} (hm : l.length = m) (hs : a.eval s = .slice A m cap) (hown : OwnN w base A cap l) {B : Nat} {A2 : Option Addr} {c : Nat} {l2 : List Nd} (hn : l2.length = n) (hx : a.eval x = .slice A2 n c) (hr : TyA w B A2 l2)
    (hlen : m + n ≤ 1000000000000) (hbase : base ≤ w.heap.size) (dst : Option Tmp) (hdst : o.dst = dst)
    (h : ∀ A' cap' w', OwnN w' base A' cap' (l ++ l2) → w.grownBy w' ((Value.slice A l.length cap).ownBlock) →
      ((Value.slice A' (l.length + l2.length) cap').ownBlock = (Value.slice A l.length cap).ownBlock ∨ (Value.slice A' (l.length + l2.length) cap').ownBlock = some w.heap.size) → K (a.put dst (.slice A' (m + n) cap')) w') : Oper.wp Tryz.prog o a w K Q := by
  subst hm hn hdst
  exact op_appN s x ho base hs hown hx hr hlen hbase h

/-- A part of a row of nodes, by its places. -/
theorem TyA.sub {w : World} {B b o : Nat} {T : List Nd} (h : TyA w B (some ⟨b, o, none⟩) T) (i j : Nat) : TyA w B (some ⟨b, o + i * 3, none⟩) ((T.take j).drop i) := fun hne => by
  have hT : T ≠ [] := by rintro rfl; simp at hne
  obtain ⟨b2, o2, e, hb, hr⟩ := h hT
  injection e with e
  injection e with e1 e2 _
  subst e1 e2
  have key : ∀ k x, ((T.take j).drop i)[k]? = some x → T[i + k]? = some x := fun k x hx => by
    rw [List.getElem?_drop, List.getElem?_take] at hx
    split at hx
    · exact hx
    · cases hx
  refine ⟨b, o + i * 3, rfl, hb, ⟨fun k x hx => ?_, fun k x hx => ?_, fun k x hx => ?_⟩⟩
  · have := hr.c0 (i + k) x (key k x hx); rw [show o + (i + k) * 3 = o + i * 3 + k * 3 by omega] at this; exact this
  · have := hr.c1 (i + k) x (key k x hx); rw [show o + (i + k) * 3 = o + i * 3 + k * 3 by omega] at this; exact this
  · have := hr.c2 (i + k) x (key k x hx); rw [show o + (i + k) * 3 = o + i * 3 + k * 3 by omega] at this; exact this
theorem sub_len {T : List Nd} {i j : Nat} (hj : j ≤ T.length) : ((T.take j).drop i).length = j - i := by simp; omega
end Go.Proofs.YtmjdhfbnmmdjiaaGreat
