/- Laid together by a tool from the texts of this seat: ChT. Conditions: each theorem's own. -/
import Derived.Test.YtmjdhfbnmmdjiaaGreatK10
import Derived.Test.YtmjdhfbnmmdjiaaGreatK15
/- The way of Rows. -/
namespace Go.Proofs.YtmjdhfbnmmdjiaaGreat
open Go.RowKit

section
variable {w : World} {ops : Array Oper} {rest : List Oper} {o : Oper} {a : Act} {K : Act → World → Prop} {Q : Exit → Act → World → Prop}
theorem wpList_appV (hgd : o.guard = none) (s x : Operand)
    (ho : o.op = .call { callee := .builtin .append, args := #[s, x], argTypes := #[71, 71] })
    (base : Nat) {A : Option Addr} {cap m n : Nat} {l : List (Option Addr × Nat × Nat)} (hm : l.length = m) (hs : a.eval s = .slice A m cap) (hown : OwnS w base A cap l) {B : Nat} {A2 : Option Addr} {c : Nat} {l2 : List (Option Addr × Nat × Nat)} (hn : l2.length = n) (hx : a.eval x = .slice A2 n c) (hr : ReadS w B A2 l2)
    (hlen : m + n ≤ 10000000) (hbase : base ≤ w.heap.size)
    (h : ∀ A' cap' w', OwnS w' base A' cap' (l ++ l2) → w.grownBy w' ((Value.slice A l.length cap).ownBlock) → wpList Tryz.prog ops Q rest (a.put o.dst (.slice A' (m + n) cap')) w') : wpList Tryz.prog ops Q (o :: rest) a w := by
  subst hm hn
  exact wpList_appS hgd s x ho base hs hown hx hr hlen hbase fun A' cap' w' h1 h2 _ => h A' cap' w' h1 h2
theorem op_appT (s x : Operand)
    (ho : o.op = .call { callee := .builtin .append, args := #[s, x], argTypes := #[39, 39] })
    (base : Nat) {A : Option Addr} {cap m n : Nat} {l : List ByteArray} (hm : l.length = m) (hs : a.eval s = .slice A m cap) (hown : OwnT w base A cap l) {B : Nat} {A2 : Option Addr} {c : Nat} {l2 : List ByteArray} (hn : l2.length = n) (hx : a.eval x = .slice A2 n c) (hr : ReadT w B A2 l2)
    (hlen : m + n ≤ 1000000000000) (hbase : base ≤ w.heap.size) (dst : Option Tmp) (hdst : o.dst = dst)
    (h : ∀ A' cap' w', OwnT w' base A' cap' (l ++ l2) → w.grownBy w' ((Value.slice A l.length cap).ownBlock) → K (a.put dst (.slice A' (m + n) cap')) w') : Oper.wp Tryz.prog o a w K Q := by
  subst hm hn hdst
  obtain ⟨i0, hi, hz0, hz1, hz2⟩ := info_parts infoStr
  exact wp_app w encT_len encT_one s x 39 ho base 9 i0 _ 16 Tryz.underlying39 hi hz0 hz1 hz2 rfl (by decide) hs hown hx hr (by unfold maxLen; omega) (by omega) hbase fun A' cap' w' h1 h2 _ => h A' cap' w' h1 h2
end

theorem rowsGo_step {nx : Nx} {es : List Pt} {env : Env} {m a : Nat} {fs : List FsL} {R : Except (Nat × Int) (List FsL × Nat)} (h : rowsGo nx es env (m + 1) a fs = some R) :
    ∃ x, es[a]? = some x ∧ ((∃ b, nx env a = some (.error b) ∧ R = .error b) ∨ ∃ t b, nx env a = some (.ok (t, b)) ∧ rowsGo nx es env m b (fs ++ [(x.lb, t)]) = some R) := by
  unfold rowsGo at h
  split at h
  · cases h
  · rename_i x hx
    refine ⟨x, hx, ?_⟩
    split at h
    · cases h
    · rename_i b hb
      injection h with h
      exact .inl ⟨b, hb, h.symm⟩
    · rename_i t b hb
      exact .inr ⟨t, b, hb, h⟩

/-- Rows of labels and types, as they grow. -/
structure RowsI (P : Nat) (es : List Pt) (env : Env) (nx : Nx) (p : Pt) (TA : Option Addr) (tc : Nat) (UA : Option Addr) (uc : Nat) (Y : Nat → Prop) (w : World) (n : Nat) (R : Except (Nat × Int) (List FsL × Nat)) (k : Nat) (Yk : Nat → Prop) (a : Nat) (fs : List FsL) (LA : Option Addr) (lc : Nat) (VA : Option Addr) (vc : Nat) (vs : List (Option Addr × Nat × Nat)) (wr : World) : Prop where
  fr : Fr Y w wr
  yn : YNew Y Yk w
  wk : WkE P es env (.ok a) Yk wr
  pm : PtM wr Yk w.heap.size p TA tc UA uc
  lt : OwnT wr w.heap.size LA lc (fs.map (·.1))
  vt : OwnS wr w.heap.size VA vc vs
  vl : vs.length = fs.length
  sl : ∀ (i : Nat) (v : Option Addr × Nat × Nat) (f : FsL), vs[i]? = some v → fs[i]? = some f → v.2.1 = f.2.length ∧ TyV wr Yk v.1 v.2.2 f.2
  gd : ∀ f ∈ fs, Gd f.2
  len : fs.length = k
  run : rowsGo nx es env (n - k) a fs = some R
/-- Something was wrong. -/
structure RowsE (P : Nat) (es : List Pt) (env : Env) (p : Pt) (TA : Option Addr) (tc : Nat) (UA : Option Addr) (uc : Nat) (Y : Nat → Prop) (w : World) (x : Nat × Int) (Yk : Nat → Prop) (wr : World) : Prop where
  fr : Fr Y w wr
  yn : YNew Y Yk w
  wk : WkE P es env (.error x) Yk wr
  pm : PtM wr Yk w.heap.size p TA tc UA uc

theorem PtM.oth {w w' : World} {U : TypeId} {Y : Nat → Prop} {b : Nat} {p : Pt} {TA UA : Option Addr} {tc uc : Nat} (h : PtM w Y b p TA tc UA uc) (k : Oth w w' U Y) (h1 : U ≠ 49) (h2 : U ≠ 33) : PtM w' Y b p TA tc UA uc := by
  have hb : b < w.heap.size := (Array.getElem?_eq_some_iff.1 h.blk).1
  exact ⟨(k.block b hb fun h5 => OfT.ne h5.1 ⟨_, _, h.blk⟩ h2 rfl).trans h.blk, h.off, h.T.oth k h1, h.U.oth k h1⟩
theorem OwnL.oth {α : Type} {U V size base : Nat} {enc : α → List Value} {w w' : World} {A : Option Addr} {cap : Nat} {l : List α} (h : OwnL V size enc w base A cap l) {Y : Nat → Prop} (k : Oth w w' U Y) (hV : U ≠ V) : OwnL V size enc w' base A cap l :=
  OwnL.fr h k.fr fun _a ha h5 => OfT.ne h5.1 (OwnL.ofT h ha) hV rfl

set_option maxRecDepth 100000 in
set_option maxHeartbeats 8000000 in
theorem rows_any (P : Nat) (es : List Pt) (nx : Nx) (HN : Hid (NextC P es nx)) (env : Env) (p : Pt) (at0 a : Nat) (r : Ans) (Y : Nat → Prop) (w : World) (TA UA : Option Addr) (tc uc : Nat) (h : WkE P es env (.ok a) Y w) (hT : TyV w Y TA tc p.T) (hU : TyV w Y UA uc p.U) (hG : ∀ env a t b, nx env a = some (.ok (t, b)) → Gd t) (hm : rowsM nx es env p a = some r) :
    Calls Tryz.prog 73 #[pk P, pv p TA tc UA uc, .int .i64 at0] w (WyPost P es env Y r w) := by
  have HPw : Hid (P < w.heap.size) := Lib.hid (h.lt P h.yP)
  obtain ⟨w1, hw1⟩ : ∃ w1, w1 = w.alloc (.cells #[.int .i64 p.k, .string p.lb, .string p.nm, .string p.bd, .int .i64 p.mn, .int .i64 p.num, .slice TA p.T.length tc, .slice UA p.U.length uc] 33) := ⟨_, rfl⟩
  have hpm := PtM.new h.lt hT hU
  have hb1 : Below w.heap.size w w1 := by rw [hw1]; exact ext_alloc (Below.refl _ _) _
  rw [← hw1] at hpm
  unfold rowsM at hm
  split at hm
  · rename_i hmn
    obtain ⟨n, hn⟩ : ∃ n : Nat, p.mn = (n : Int) := ⟨p.mn.toNat, by omega⟩
    have hn50 : n ≤ 50 := by omega
    rw [show p.mn.toNat = n by omega] at hm
    obtain ⟨R, hR⟩ : ∃ R, rowsGo nx es env n a [] = some R := by
      cases h9 : rowsGo nx es env n a [] with
      | none => rw [h9] at hm; cases hm
      | some R => exact ⟨R, rfl⟩
    rw [hR] at hm
    have k4 := hpm.cells.2.2.2.2.1
    rw [hn] at k4
    have HI0 : Hid (RowsI P es env nx p TA tc UA uc Y w n R 0 Y a [] none 0 none 0 [] w1) := Lib.hid ⟨Fr.below hb1, YNew.refl _ _, h.later hb1, hpm, OwnL.nil, OwnL.nil, rfl, fun i v f hv => by simp at hv, fun f hf => by simp at hf, rfl, hR⟩
    have HR := Lib.hid hm
    have HD := Lib.hid hG
    clear h hT hU hm hG hpm hb1 hR hmn hn
    unfold pk pv
    go_enter Tryz.func73, Tryz.ntmps73
    go_upto_region 1 with fail
    rw [← hw1]
    clear hw1
    go_upto_region 4 with fail
    clear k4
    go_loopw [7, 8, 13] (fun s7 s8 s13 wr => ∃ k : Nat, k ≤ n ∧ s13 = .int .i64 k ∧ ((∃ (Yk : Nat → Prop) (ak : Nat) (fs : List FsL) (LA : Option Addr) (lc : Nat) (VA : Option Addr) (vc : Nat) (vs : List (Option Addr × Nat × Nat)), s7 = .slice LA k lc ∧ s8 = .slice VA k vc ∧ Hid (RowsI P es env nx p TA tc UA uc Y w n R k Yk ak fs LA lc VA vc vs wr)) ∨ (∃ (x : Nat × Int) (Yk : Nat → Prop), R = .error x ∧ Hid (RowsE P es env p TA tc UA uc Y w x Yk wr)))) (fun _ _ s13 _ => n - (Lib.intOf s13).toNat)
    case atStart => exact ⟨0, Nat.zero_le _, rfl, .inl ⟨Y, a, [], none, 0, none, 0, [], rfl, rfl, HI0⟩⟩
    case round =>
      obtain ⟨k, hk, rfl, hmode⟩ := hrel
      rcases hmode with ⟨Yk, ak, fs, LA, lc, VA, vc, vs, rfl, rfl, HI⟩ | ⟨x, Yk, hRx, HE⟩
      · have HOk := Lib.hid (ok_any P es env _ _ _ HI.out.wk)
        simp only [okS] at HOk
        unfold pk at HOk
        by_cases hlt : k < n
        · go_wp2_with fail
          refine HOk.out.mono ?_
          rintro e w2 ⟨rfl, hb2⟩
          obtain ⟨x, hx, hst⟩ := rowsGo_step (m := n - k - 1) (by rw [show n - k - 1 + 1 = n - k by omega]; exact HI.out.run)
          obtain ⟨a', p', e', ⟨EA, ec, VA', vc', bs, hm2⟩, ha, hp, he⟩ := HI.out.wk.later hb2
          subst ha hp he
          obtain ⟨eb, eo, eA, hel, _, ⟨_, _, _, _, _, _, _, hlb, _⟩, _⟩ := hm2.ex _ _ hx
          subst eA
          obtain ⟨c0, c1, _, _, _⟩ := hm2.cells
          have hal := getq_lt hx
          have hel6 := hm2.el
          have HX := Lib.hid hst
          have HI2 : Hid (Fr Y w w2 ∧ WkE P es env (.ok a') Yk w2 ∧ PtM w2 Yk w.heap.size p TA tc UA uc ∧ OwnT w2 w.heap.size LA lc (fs.map (·.1)) ∧ OwnS w2 w.heap.size VA vc vs ∧ ∀ (i : Nat) (v : Option Addr × Nat × Nat) (f : FsL), vs[i]? = some v → fs[i]? = some f → v.2.1 = f.2.length ∧ TyV w2 Yk v.1 v.2.2 f.2) := Lib.hid ⟨HI.out.fr.trans (Fr.below hb2), HI.out.wk.later hb2, HI.out.pm.later hb2, HI.out.lt.below hb2 (Nat.le_refl _), HI.out.vt.below hb2 (Nat.le_refl _), fun i v f hv hf => ⟨(HI.out.sl i v f hv hf).1, (HI.out.sl i v f hv hf).2.later hb2⟩⟩
          clear hb2 hm2 hst hx
          go_upto_region 7 with fail
          obtain ⟨SS, hSS⟩ : ∃ SS : World → Prop, SS = fun v => v.cell? ⟨P, 0, none⟩ = some (.slice (some ⟨eb, eo, none⟩) es.length ec) ∧ v.cell? ⟨P, 1, none⟩ = some (.int .i64 (a' : Int)) ∧ v.cell? ⟨eb, eo + a' * 8 + 1, none⟩ = some (.string x.lb) := ⟨_, rfl⟩
          have HS : Hid (∀ v, Below w2.heap.size w2 v → SS v) := Lib.hid fun v hv => by
            rw [hSS]
            exact ⟨(hv.cell (World.block_lt_of_cell? _ _ c0)).trans c0, (hv.cell (World.block_lt_of_cell? _ _ c1)).trans c1, (hv.cell hel).trans hlb⟩
          obtain ⟨wd, hwd⟩ : ∃ wd, wd = w2.drew := ⟨_, rfl⟩
          have HBd : Hid (Below w2.heap.size w2 wd) := Lib.hid (by rw [hwd]; exact (Below.refl _ _).drew)
          have hsd : SS wd := HS.out _ HBd.out
          refine wp_region_L_drew (S := SS) [13] (by kernel_rfl) (by rw [← hwd]; exact hsd) (fun hHeld => ?_)
          rw [← hwd] at hHeld ⊢
          clear hwd c0 c1 hlb
          refine onA 0 [13, 14] (some 18) rfl rfl ?_
          refine onA 1 [2, 3, 4, 9, 10, 11, 12, 13, 14] (some 19) rfl rfl ?_
          refine onA 2 [3, 4, 9, 10, 11, 12, 13, 14] (some 20) rfl rfl ?_
          refine onA 3 [4, 9, 10, 11, 12, 13, 14] (some 21) rfl rfl ?_
          refine onA 4 [9, 10, 11, 12, 13, 14] (some 22) rfl rfl ?_
          refine onA 5 [6, 7, 8, 9, 10, 11, 12, 13, 14] (some 23) rfl rfl ?_
          refine onA 6 [7, 8, 9, 10, 11, 12, 13, 14] (some 24) rfl rfl ?_
          refine onA 7 [8, 9, 10, 11, 12, 13, 14] (some 25) rfl rfl ?_
          refine onA 8 [9, 10, 11, 12, 13, 14] (some 26) rfl rfl ?_
          refine onA 9 [10, 11, 12, 13, 14] (some 27) rfl rfl ?_
          refine onA 10 [11, 12, 13, 14] (some 28) rfl rfl ?_
          refine onA 11 [12, 13, 14] (some 29) rfl rfl ?_
          refine valL 12 (some 30) (v := ?_) (w' := ?_) rfl rfl (by kernel_rfl) (by rfl) ?_ (fun _ => ?_) ?_
          rotate_left
          rotate_left
          · (go_simp; first | with_reducible rfl | (constructor <;> with_reducible rfl))
          · exact HS.out _ (ext_alloc HBd.out _)
          refine putA ?_
          obtain ⟨we, hwe⟩ : ∃ we, we = wd.alloc (.cells #[.string x.lb] 9) := ⟨_, rfl⟩
          have HBe : Hid (Below w2.heap.size w2 we) := Lib.hid (by rw [hwe]; exact ext_alloc HBd.out _)
          have HRe : Hid (ReadT we (wd.heap.size + 1) (some ⟨wd.heap.size, 0, none⟩) [x.lb]) := Lib.hid (by rw [hwe]; exact readT_new wd x.lb)
          rw [← hwe]
          clear hwe
          have HFl : Hid ((fs.map (·.1)).length = k) := Lib.hid (by rw [List.length_map]; exact HI.out.len)
          have hk50 : k ≤ 50 := by omega
          refine oneL 13 rfl (by kernel_rfl) (by rfl) ?_
          refine op_appT (.tmp 18) (.tmp 30) (by rfl) w.heap.size (m := k) (n := 1) HFl.out (by rfl) (HI2.out.2.2.2.1.below HBe.out (Nat.le_refl _)) (l2 := [x.lb]) rfl (by rfl) HRe.out (by omega) (Nat.le_trans HI2.out.1.size HBe.out.size) (some 31) rfl ?_
          intro LA5 lc5 w5 hown5 hg5
          have HOt : Hid (Oth we w5 9 Yk) := Lib.hid (Oth.grown (HI2.out.2.2.2.1.below HBe.out (Nat.le_refl _)) rfl hg5 HI2.out.2.1.yP (Nat.le_of_lt HPw.out))
          have HI5 : Hid (Fr Y w w5 ∧ WkE P es env (.ok a') Yk w5 ∧ PtM w5 Yk w.heap.size p TA tc UA uc ∧ OwnT w5 w.heap.size LA5 lc5 (fs.map (·.1) ++ [x.lb]) ∧ OwnS w5 w.heap.size VA vc vs ∧ ∀ (i : Nat) (v : Option Addr × Nat × Nat) (f : FsL), vs[i]? = some v → fs[i]? = some f → v.2.1 = f.2.length ∧ TyV w5 Yk v.1 v.2.2 f.2) := Lib.hid (by
            refine ⟨Fr.new (HI2.out.1.trans (Fr.below HBe.out)) (Fr.grown hg5 fun q e => e) (fun q e => .inr ?_), (HI2.out.2.1.later HBe.out).oth HOt.out (by decide) (by decide) (by decide) (by decide), (HI2.out.2.2.1.later HBe.out).oth HOt.out (by decide) (by decide), hown5, (HI2.out.2.2.2.2.1.below HBe.out (Nat.le_refl _)).oth HOt.out (by decide), fun i v f hv hf => ⟨(HI2.out.2.2.2.2.2 i v f hv hf).1, ((HI2.out.2.2.2.2.2 i v f hv hf).2.later HBe.out).oth HOt.out (by decide)⟩⟩
            have := (OwnL.block (HI2.out.2.2.2.1.below HBe.out (Nat.le_refl _)) q (by rw [HFl.out]; rw [HFl.out] at e; exact e)).1
            exact this)
          clear hown5 hg5
          refine ⟨zL (by kernel_rfl), ?_⟩
          refine putA ?_
          refine valL 14 (some 7) rfl rfl (by kernel_rfl) (by rfl) (by go_simp; first | with_reducible rfl | (constructor <;> with_reducible rfl)) (zL (by kernel_rfl)) ?_
          refine putA ?_
          refine doneL (by kernel_rfl) ?_ _
          clear hHeld hsd
          rcases HX.out with ⟨x2, h1, hr2⟩ | ⟨t, b, h1, hr2⟩
          · have HN2 := Lib.hid (HN.out env (.ok a') (.error x2) Yk w5 h1 HI5.out.2.1)
            unfold pk at HN2
            have hvk : vs.length = k := by rw [HI.out.vl, HI.out.len]
            have HVk := Lib.hid hvk
            go_wp2_with fail
            refine HN2.out.mono ?_
            rintro e w6 ⟨Y6, hf6, hy6, hk6, rfl⟩
            have H6 : Hid (Fr Y w w6 ∧ YNew Y Y6 w ∧ WkE P es env (.error x2) Y6 w6 ∧ PtM w6 Y6 w.heap.size p TA tc UA uc ∧ OwnS w6 w.heap.size VA vc vs) := Lib.hid ⟨Fr.new HI5.out.1 hf6 HI.out.yn, YNew.trans HI.out.yn hy6 HI5.out.1.size, hk6, HI5.out.2.2.1.fr hf6 hy6, OwnL.step HI5.out.2.2.2.2.1 HI5.out.2.1 hf6 (by decide) (by decide)⟩
            clear hf6 hy6 hk6 hvk
            go_wp2_with (at_builtin; refine wpList_appV rfl (.tmp 32) (.tmp 35) rfl w.heap.size (m := k) (n := 1) HVk.out rfl (OwnL.alloc H6.out.2.2.2.2 _) (l2 := [(none, 0, 0)]) rfl rfl (readS_new w6 (none, 0, 0)) (by omega) (by have := H6.out.1.size; simp; omega) ?_; intro VA7 vc7 w7 hown7 hg7)
            have HO7 : Hid (Oth (w6.alloc (.cells #[.slice none 0 0] 28)) w7 28 Y6) := Lib.hid (Oth.grown (OwnL.alloc H6.out.2.2.2.2 _) rfl hg7 H6.out.2.2.1.yP (Nat.le_of_lt HPw.out))
            have HB7 : Hid (Below w6.heap.size w6 (w6.alloc (.cells #[.slice none 0 0] 28))) := Lib.hid (ext_alloc (Below.refl _ _) _)
            have HE7 : Hid (RowsE P es env p TA tc UA uc Y w x2 Y6 w7) := Lib.hid (by
              refine ⟨Fr.new (H6.out.1.trans (Fr.below HB7.out)) (Fr.grown hg7 fun q e => e) (fun q e => .inr (OwnL.block H6.out.2.2.2.2 q e).1), H6.out.2.1, (H6.out.2.2.1.later HB7.out).oth HO7.out (by decide) (by decide) (by decide) (by decide), (H6.out.2.2.2.1.later HB7.out).oth HO7.out (by decide) (by decide)⟩)
            clear hown7 hg7
            go_wp2_with fail
            go_roundw
            case rel => exact ⟨k + 1, by omega, by go_num, .inr ⟨x2, Y6, hr2, HE7⟩⟩
            case measure => simp [Lib.intOf]; omega
          · have HN2 := Lib.hid (HN.out env (.ok a') (.ok (t, b)) Yk w5 h1 HI5.out.2.1)
            unfold pk at HN2
            have hvk : vs.length = k := by rw [HI.out.vl, HI.out.len]
            have HVk := Lib.hid hvk
            go_wp2_with fail
            refine HN2.out.mono ?_
            rintro e w6 ⟨Y6, hf6, hy6, hk6, A6, c6, rfl, ht6⟩
            have H6 : Hid (Fr Y w w6 ∧ YNew Y Y6 w ∧ WkE P es env (.ok b) Y6 w6 ∧ PtM w6 Y6 w.heap.size p TA tc UA uc ∧ OwnS w6 w.heap.size VA vc vs ∧ OwnT w6 w.heap.size LA5 lc5 (fs.map (·.1) ++ [x.lb]) ∧ TyV w6 Y6 A6 c6 t ∧ ∀ (i : Nat) (v : Option Addr × Nat × Nat) (f : FsL), vs[i]? = some v → fs[i]? = some f → v.2.1 = f.2.length ∧ TyV w6 Y6 v.1 v.2.2 f.2) := Lib.hid ⟨Fr.new HI5.out.1 hf6 HI.out.yn, YNew.trans HI.out.yn hy6 HI5.out.1.size, hk6, HI5.out.2.2.1.fr hf6 hy6, OwnL.step HI5.out.2.2.2.2.1 HI5.out.2.1 hf6 (by decide) (by decide), OwnL.step HI5.out.2.2.2.1 HI5.out.2.1 hf6 (by decide) (by decide), ht6, fun i v f hv hf => ⟨(HI5.out.2.2.2.2.2 i v f hv hf).1, (HI5.out.2.2.2.2.2 i v f hv hf).2.fr hf6 hy6⟩⟩
            have HGt := Lib.hid (HD.out _ _ _ _ h1)
            have HRun := Lib.hid hr2
            clear hf6 hy6 hk6 hvk ht6 h1 hr2
            go_wp2_with (at_builtin; refine wpList_appV rfl (.tmp 32) (.tmp 35) rfl w.heap.size (m := k) (n := 1) HVk.out rfl (OwnL.alloc H6.out.2.2.2.2.1 _) (l2 := [(A6, t.length, c6)]) rfl rfl (readS_new w6 (A6, t.length, c6)) (by omega) (by have := H6.out.1.size; simp; omega) ?_; intro VA7 vc7 w7 hown7 hg7)
            have HO7 : Hid (Oth (w6.alloc (.cells #[.slice A6 t.length c6] 28)) w7 28 Y6) := Lib.hid (Oth.grown (OwnL.alloc H6.out.2.2.2.2.1 _) rfl hg7 H6.out.2.2.1.yP (Nat.le_of_lt HPw.out))
            have HB7 : Hid (Below w6.heap.size w6 (w6.alloc (.cells #[.slice A6 t.length c6] 28))) := Lib.hid (ext_alloc (Below.refl _ _) _)
            have HI7 : Hid (RowsI P es env nx p TA tc UA uc Y w n R (k + 1) Y6 b (fs ++ [(x.lb, t)]) LA5 lc5 VA7 vc7 (vs ++ [(A6, t.length, c6)]) w7) := Lib.hid (by
              refine ⟨Fr.new (H6.out.1.trans (Fr.below HB7.out)) (Fr.grown hg7 fun q e => e) (fun q e => .inr (OwnL.block H6.out.2.2.2.2.1 q e).1), H6.out.2.1, (H6.out.2.2.1.later HB7.out).oth HO7.out (by decide) (by decide) (by decide) (by decide), (H6.out.2.2.2.1.later HB7.out).oth HO7.out (by decide) (by decide), ?_, hown7, ?_, ?_, ?_, ?_, ?_⟩
              · rw [List.map_append]
                exact (H6.out.2.2.2.2.2.1.below HB7.out (Nat.le_refl _)).oth HO7.out (by decide)
              · rw [List.length_append, List.length_append, HI.out.vl]
                rfl
              · intro i v f hv hf
                rcases Nat.lt_or_ge i vs.length with hi | hi
                · rw [List.getElem?_append_left hi] at hv
                  rw [List.getElem?_append_left (by rw [← HI.out.vl]; exact hi)] at hf
                  exact ⟨(H6.out.2.2.2.2.2.2.2 i v f hv hf).1, ((H6.out.2.2.2.2.2.2.2 i v f hv hf).2.later HB7.out).oth HO7.out (by decide)⟩
                · rw [List.getElem?_append_right hi] at hv
                  rw [List.getElem?_append_right (by rw [← HI.out.vl]; exact hi), ← HI.out.vl] at hf
                  cases hj : i - vs.length with
                  | zero =>
                    rw [hj] at hv hf
                    simp at hv hf
                    subst hv hf
                    exact ⟨rfl, (H6.out.2.2.2.2.2.2.1.later HB7.out).oth HO7.out (by decide)⟩
                  | succ j => rw [hj] at hv; simp at hv
              · intro f hf
                rcases List.mem_append.1 hf with hf | hf
                · exact HI.out.gd f hf
                · simp at hf
                  subst hf
                  exact HGt.out
              · rw [List.length_append, HI.out.len]
                rfl
              · rw [show n - (k + 1) = n - k - 1 by omega]
                exact HRun.out)
            clear hown7 hg7
            go_wp2_with fail
            go_roundw
            case rel => exact ⟨k + 1, by omega, by go_num, .inl ⟨Y6, b, fs ++ [(x.lb, t)], LA5, lc5, VA7, vc7, vs ++ [(A6, t.length, c6)], by go_num, by go_num, HI7⟩⟩
            case measure => simp [Lib.intOf]; omega
        · have hkn : k = n := by omega
          have HEnd : Hid (R = .ok (fs, ak)) := Lib.hid (by
            have := HI.out.run
            rw [hkn, Nat.sub_self] at this
            unfold rowsGo at this
            injection this with this
            exact this.symm)
          have HGood : Hid (badRow 6 (fs.map (·.1)) fs.length = false ∧ (fs.map (·.1)).Nodup ∧ r = .ok (rowL 6 fs, ak)) := Lib.hid (by
            have := HR.out
            rw [HEnd.out] at this
            simp only at this
            split at this
            · rename_i h9
              injection this with this
              exact ⟨h9.1, h9.2, this.symm⟩
            · cases this)
          have hfl : (fs.map (·.1)).length = k := by rw [List.length_map]; exact HI.out.len
          have HFl := Lib.hid hfl
          have HVl : Hid (vs.length = k) := Lib.hid (by rw [HI.out.vl, HI.out.len])
          clear hkn hfl
          go_wp2_with fail
          refine HOk.out.mono ?_
          rintro e w2 ⟨rfl, hb2⟩
          have HI2 : Hid (Fr Y w w2 ∧ WkE P es env (.ok ak) Yk w2) := Lib.hid ⟨HI.out.fr.trans (Fr.below hb2), HI.out.wk.later hb2⟩
          have HX := rowGood_any LA VA lc vc 6 (fs.map (·.1)) vs (fs.map (·.2)) w2 ((OwnL.read encT_len HI.out.lt).below hb2 |>.more hb2.size) ((OwnL.read encS_len HI.out.vt).below hb2 |>.more hb2.size) (by
            refine ⟨by rw [List.length_map, HI.out.vl], fun i v xs hv hxs => ?_⟩
            rw [List.getElem?_map, Option.map_eq_some_iff] at hxs
            obtain ⟨f, hf, rfl⟩ := hxs
            obtain ⟨e1, e2⟩ := HI.out.sl i v f hv hf
            exact ⟨e1, (e2.later hb2).ty.tyA⟩) (by
            intro xs hxs
            obtain ⟨f, hf, rfl⟩ := List.mem_map.1 hxs
            have g := HI.out.gd f hf
            exact ⟨fun h => by have := g.fo.pos; rw [h] at this; simp at this, g.len⟩) (by rw [List.length_map]; exact HGood.out.1)
          rw [HFl.out, HVl.out] at HX
          have HX := Lib.hid HX
          clear hb2
          go_wp2_with fail
          refine HX.out.mono ?_
          rintro e w3 ⟨hb3, hpost⟩
          have HP : Hid (∃ A' cap', e = .returned (.tuple #[.slice A' (rowL 6 fs).length cap', .int .i64 0]) ∧ OwnN w3 w2.heap.size A' cap' (rowL 6 fs)) := Lib.hid (by
            rcases hpost with ⟨h1, _⟩ | ⟨_, h1, _⟩ | ⟨_, os, A', cap', hp, ho, h1, h2⟩
            · rw [List.length_map, HGood.out.1] at h1
              cases h1
            · exact absurd HGood.out.2.1 h1
            · rw [rowNR_eq 6 fs HGood.out.2.1 os hp ho] at h1 h2
              exact ⟨A', cap', h1, h2⟩)
          clear hpost
          obtain ⟨A', cap', hv, _⟩ := HP.out
          subst hv
          have HQ : Hid (WyPost P es env Y r w (.returned (.slice A' (rowL 6 fs).length cap')) w3) := Lib.hid (by
            rw [HGood.out.2.2]
            obtain ⟨A2, c2, e2, e3⟩ := HP.out
            injection e2 with e2
            injection e2 with e2
            injection e2 with e2
            injection e2 with e2 _
            injection e2 with e4 _ e5
            subst e4 e5
            exact ⟨Yk, HI2.out.1.trans (Fr.below hb3), HI.out.yn, HI2.out.2.later hb3, A', cap', rfl, TyV.own e3 HI2.out.2.lt⟩)
          clear hb3
          go_wp2_with fail
          go_ret
          exact HQ.out
      · have HOk := Lib.hid (ok_any P es env _ _ _ HE.out.wk)
        simp only [okS] at HOk
        unfold pk at HOk
        have HR2 : Hid (r = .error x) := Lib.hid (by
          have := HR.out
          rw [hRx] at this
          injection this with this
          exact this.symm)
        by_cases hlt : k < n
        · go_wp2_with fail
          refine HOk.out.mono ?_
          rintro e w2 ⟨rfl, hb2⟩
          have HQ : Hid (WyPost P es env Y r w (.returned (.slice none 0 0)) w2) := Lib.hid (by
            rw [HR2.out]
            exact ⟨Yk, HE.out.fr.trans (Fr.below hb2), HE.out.yn, HE.out.wk.later hb2, _, _, _, rfl⟩)
          clear hb2 hRx
          go_wp2_with fail
          go_ret
          exact HQ.out
        · go_wp2_with fail
          refine HOk.out.mono ?_
          rintro e w2 ⟨rfl, hb2⟩
          have HQ : Hid (WyPost P es env Y r w (.returned (.slice none 0 0)) w2) := Lib.hid (by
            rw [HR2.out]
            exact ⟨Yk, HE.out.fr.trans (Fr.below hb2), HE.out.yn, HE.out.wk.later hb2, _, _, _, rfl⟩)
          clear hb2 hRx
          go_wp2_with fail
          go_ret
          exact HQ.out
  · cases hm
end Go.Proofs.YtmjdhfbnmmdjiaaGreat
