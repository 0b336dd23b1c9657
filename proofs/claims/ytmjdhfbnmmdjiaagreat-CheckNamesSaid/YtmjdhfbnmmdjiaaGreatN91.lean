/- The law CheckNames. -/
import Derived.Test.YtmjdhfbnmmdjiaaGreatN01
import Derived.Test.YtmjdhfbnmmdjiaaGreatN02
import Derived.Deep.RegionHeld3
namespace Go.Proofs.YtmjdhfbnmmdjiaaGreat
open Go.RowKit

/-- One more name, in memory. -/
structure MoreArg (w : World) (mb : Bn) (m : ByteArray × List Nd) : Prop where
  s : mb.s = m.1
  n : mb.n = m.2.length
  ty : TyV w (fun _ => False) mb.A mb.c m.2
  sz : EnvS [m]
theorem MoreArg.below {w v : World} {mb : Bn} {m : ByteArray × List Nd} (h : MoreArg w mb m) (hb : Below w.heap.size w v) : MoreArg v mb m :=
  ⟨h.s, h.n, ⟨h.ty.ty.fr (Fr.below hb : Fr (fun _ => False) w v) fun _q hq => .inl hq, h.ty.cap⟩, h.sz⟩
theorem MoreArg.env {w : World} {mb : Bn} {m : ByteArray × List Nd} (h : MoreArg w mb m) : EnvM w (fun _ => False) [mb] [m] :=
  ⟨rfl, fun i b e hb he => by
    match i, hb, he with
    | 0, hb, he =>
      simp at hb he
      subst hb he
      exact ⟨h.s, h.n, h.ty⟩
    | i + 1, hb, _ => simp at hb⟩
theorem step_appB {w : World} {ops : Array Oper} {o : Oper} {a : Act} {K : Act → World → Prop} {Q : Exit → Act → World → Prop} {E : Prop} (hgd : o.guard = none) (s x : Operand)
    (ho : o.op = .call { callee := .builtin .append, args := #[s, x], argTypes := #[22, 22] })
    (base : Nat) {A : Option Addr} {cap m n : Nat} {l : List Bn} (hm : l.length = m) (hs : a.eval s = .slice A m cap) (hown : OwnB w base A cap l) {B : Nat} {A2 : Option Addr} {c : Nat} {l2 : List Bn} (hn : l2.length = n) (hx : a.eval x = .slice A2 n c) (hr : ReadB w B A2 l2)
    {k : Nat} (hk : m + n = k) (hlen : k ≤ 1000000000000) (hbase : base ≤ w.heap.size)
    (h : ∀ A' cap' w', OwnB w' base A' cap' (l ++ l2) → w.grownBy w' ((Value.slice A m cap).ownBlock) → K (a.put o.dst (.slice A' k cap')) w') : if Region.wanted o (yielded ops a.tmps) = true then Oper.wp Tryz.prog o a w K Q else E := by
  subst hm hn hk
  obtain ⟨i0, hi, hz0, hz1, hz2⟩ := info_parts infoB
  have hw : Region.wanted o (yielded ops a.tmps) = true := by simp [Region.wanted, hgd]
  rw [if_pos hw]
  exact wp_app w encB_len encB_one s x 22 ho base 36 i0 _ 40 Tryz.underlying22 hi hz0 hz1 hz2 rfl (by decide) hs hown hx hr (by unfold maxLen; omega) (by omega) hbase fun A' cap' w' h1 h2 _ => h A' cap' w' h1 h2
theorem own_empty1 (w : World) (o : Obj) : OwnB ((w.alloc o).alloc (.cells #[] 36)) w.heap.size (some ⟨w.heap.size + 1, 0, none⟩) 0 [] := by
  have h := own_empty 36 2 encB (w.alloc o)
  rw [World.size_alloc] at h
  exact OwnL.lower h (by omega)
theorem readB_new1 (w : World) (o : Obj) (b : Bn) : ReadB ((w.alloc o).alloc (.cells #[.string b.s, .slice b.A b.n b.c] 36)) (w.heap.size + 1 + 1) (some ⟨w.heap.size + 1, 0, none⟩) [b] := by
  have h := readB_new (w.alloc o) b
  rw [World.size_alloc] at h
  exact h
/-- A row of one stays while another block grows. -/
theorem readB_grown {w w' : World} {X E : Nat} {l : List Bn} {n c : Nat} (h : ReadB w w.heap.size (some ⟨X, 0, none⟩) l) (hg : w.grownBy w' ((Value.slice (some ⟨E, 0, none⟩) n c).ownBlock)) (hne : X ≠ E) : ReadB w' w'.heap.size (some ⟨X, 0, none⟩) l := fun hn => by
  obtain ⟨b, o, hA, hb, hc⟩ := h hn
  refine ⟨b, o, hA, Nat.lt_of_lt_of_le hb hg.size, fun i x hx j u hu => ?_⟩
  have hbk := (Fr.grown (X := fun q => q = E) hg fun k hk => by simpa [Value.ownBlock] using hk.symm).block b hb (by
    injection hA with hA
    injection hA with hA
    rw [← hA]
    exact hne)
  have := hc i x hx j u hu
  simp only [World.cell?, hbk] at this ⊢
  exact this

def ansT : Ans → List Nd
  | .ok (t, _) => t
  | .error _ => []
def ansI : Ans → Int
  | .ok _ => 0
  | .error (p, _) => p
def ansE : Ans → Int
  | .ok _ => 0
  | .error (_, e) => e
/-- What Expr tells, as three values. -/
theorem ExPost.flat {r : Ans} {w w' : World} {e : Ending} (h : ExPost r w e w') : ∃ RA rc, e = .returned (.tuple #[.slice RA (ansT r).length rc, .int .i64 (ansI r), .int .i64 (ansE r)]) ∧ TyA w' w'.heap.size RA (ansT r) ∧ Below w.heap.size w w' := by
  match r, h with
  | .ok (t, b), h =>
    obtain ⟨hb, A, c, he, hT, _⟩ := h
    exact ⟨A, c, he, hT.tyA, hb⟩
  | .error (p, er), h =>
    obtain ⟨hb, he⟩ := h
    exact ⟨none, 0, he, TyA.nil, hb⟩
/-- What Check tells of what is given. -/
theorem GivenF.ans {env : Env} {es : List Pt} (h : GivenF env es) : ∃ r, chk 60 es env 0 = some r ∧ (ansT r).length ≤ 1000000000 ∧ (ansE r = 5 → ¬ ∀ s ∈ freeE es 0 [], lookE env s ≠ none) := by
  rcases h.res with ⟨t, hr, hok⟩ | ⟨i, er, p, hr, _, _, _⟩
  · exact ⟨_, hr, hok.len, fun e => by cases e⟩
  · refine ⟨_, hr, by simp [ansT], fun e ha => ?_⟩
    have e2 : er = 5 := e
    subst e2
    exact h.names ha i hr
/-- With one more name. -/
theorem CkArgs.more {w : World} {A A2 EA : Option Addr} {c2 ec base : Nat} {bs : List Bn} {env : Env} {es : List Pt} {mb : Bn} {m : ByteArray × List Nd} (h : CkArgs w A EA bs env es) (hm : MoreArg w mb m) (hown : OwnB w base A2 c2 (bs ++ [mb])) (hg : GivenF env es) (hf : m.1 ∉ freeE es 0 []) {r : Ans} (hr : chk 60 es env 0 = some r) :
    Calls Tryz.prog 11 #[.slice A2 (bs.length + 1) c2, .slice EA es.length ec] w (ExPost r w) := by
  have h1 := expr_any 60 es hg.ok (env ++ [m]) r A2 EA c2 ec (bs ++ [mb]) w (OwnL.read encB_len hown) ?_ ?_ (h.hv.app hm.env) h.hx (by have := hg.env.1; rw [List.length_append]; simp only [List.length_singleton]; omega) (by have := hg.few.1; omega) (by rw [hg.more hf]; exact hr)
  · rw [List.length_append] at h1
    exact h1
  · intro e
    subst e
    obtain ⟨g, hg, _⟩ := OwnL.form hown (by simp)
    cases hg
  · intro a ha
    subst ha
    obtain ⟨g, hg, _⟩ := OwnL.form hown (by simp)
    injection hg with hg
    exact ⟨g, 0, hg⟩

set_option maxRecDepth 100000 in
set_option maxHeartbeats 8000000 in
theorem checkNames_law (A EA : Option Addr) (c ec : Nat) (bs : List Bn) (env : Env) (es : List Pt) (mb : Bn) (m : ByteArray × List Nd) (w : World) (h : CkArgs w A EA bs env es) (hm : MoreArg w mb m) :
    Calls Tryz.prog 4 #[.slice A bs.length c, .slice EA es.length ec, .agg #[.string mb.s, .slice mb.A mb.n mb.c]] w fun e w' => e = .returned (.bool true) ∧ Below w.heap.size w w' := by
  have H0 := Lib.hid (And.intro h hm)
  clear h hm
  go_enter Tryz.func4, Tryz.ntmps4
  go_upto_region 1 with fail
  obtain ⟨w1, hw1⟩ : ∃ w1, w1 = w.alloc (.cells #[.string mb.s, .slice mb.A mb.n mb.c] 36) := ⟨_, rfl⟩
  obtain ⟨P, hP⟩ : ∃ P, P = w.heap.size := ⟨_, rfl⟩
  have hb1 : Below w.heap.size w w1 := by rw [hw1]; exact ext_alloc (Below.refl _ _) _
  have hbl : w1.heap[P]? = some (.cells #[.string mb.s, .slice mb.A mb.n mb.c] 36 (0, 0)) := by rw [hw1, hP]; exact heap_alloc_new _ _
  have hs1 : P < w1.heap.size := by rw [hw1, hP]; simp
  have HP : Hid (∀ v, Below w1.heap.size w1 v → v.cell? ⟨P, 0, none⟩ = some (.string mb.s) ∧ v.cell? ⟨P, 1, none⟩ = some (.slice mb.A mb.n mb.c)) := Lib.hid fun v hv => by
    refine ⟨(hv.cell (p := ⟨P, 0, none⟩) hs1).trans ?_, (hv.cell (p := ⟨P, 1, none⟩) hs1).trans ?_⟩ <;> simp [World.cell?, hbl]
  have HB1 := Lib.hid hb1
  have H := Lib.hid (H0.out.1.below hb1)
  have HM := Lib.hid (H0.out.2.below hb1)
  rw [← hw1, ← hP]
  clear hw1 hP hb1 hbl hs1 H0
  have HGv := Lib.hid (given_any (fun _ => False) A EA c ec bs env es w1 H.out.rd H.out.hv H.out.sz H.out.hx H.out.len)
  go_wp2_with fail
  refine HGv.out.mono ?_
  rintro e w2 ⟨b, rfl, hq, hb2⟩
  have HQ := Lib.hid hq
  have HB2 := Lib.hid hb2
  clear hq hb2
  cases b
  · go_wp2_with fail
    refine (alive10_any w2).mono ?_
    rintro e w3 ⟨rfl, hb3⟩
    have HB3 := Lib.hid (ext_trans HB1.out (ext_trans HB2.out hb3))
    clear hb3
    go_wp2_with fail
    go_ret
    exact ⟨rfl, HB3.out⟩
  have HG := Lib.hid (HQ.out rfl)
  obtain ⟨p0, p1⟩ := HP.out w2 HB2.out
  have HEn := Lib.hid (renv_any (fun _ => False) (some ⟨w2.heap.size, 0, none⟩) 1 [mb] [m] (w2.alloc (.cells #[.string mb.s, .slice mb.A mb.n mb.c] 36)) ((readB_new w2 mb).more (by simp)) ((HM.out.below (ext_alloc HB2.out _)).env) HM.out.sz)
  go_wp2_with fail
  refine HEn.out.mono ?_
  rintro e w3 ⟨b, rfl, _, hb3⟩
  have HB3 := Lib.hid (ext_trans (ext_alloc HB2.out _) hb3)
  clear hb3 p0 p1
  cases b
  · go_wp2_with fail
    refine (alive10_any w3).mono ?_
    rintro e w4 ⟨rfl, hb4⟩
    have HB4 := Lib.hid (ext_trans HB1.out (ext_trans HB3.out hb4))
    clear hb4
    go_wp2_with fail
    go_ret
    exact ⟨rfl, HB4.out⟩
  have HFr := Lib.hid (rFree_any (fun _ => False) EA ec es HG.out.ok HG.out.right.tree (by have := HG.out.few.1; omega) (List.length_pos_iff.2 HG.out.right.ne) w3 (H.out.below HB3.out).hx)
  have hb20 : bs.length ≤ 20 := by have := HG.out.env.1; have := H.out.hv.1; omega
  go_wp2_with fail
  refine HFr.out.mono ?_
  rintro e w4 ⟨FA, fc, fr, rfl, hownF, hmem, hfl, hb4⟩
  have HF4 := Lib.hid (OwnL.read encT_len hownF)
  have HMem := Lib.hid hmem
  have HB4 := Lib.hid (ext_trans HB3.out hb4)
  clear hownF hmem hb4
  go_wp2_with fail
  go_loopw [8, 9, 10] (fun o8 o9 o10 wr => ∃ (al inn : Bool) (i : Nat), o8 = .bool al ∧ o9 = .bool inn ∧ o10 = .int .i64 i ∧ i ≤ fr.length ∧ Hid (Below w4.heap.size w4 wr ∧ (al = true → ∀ (j : Nat) (s : ByteArray), j < i → fr[j]? = some s → lookE env s ≠ none) ∧ (inn = false → ∀ (j : Nat) (s : ByteArray), j < i → fr[j]? = some s → s ≠ m.1)))
    (fun _ _ o10 _ => fr.length - (Lib.intOf o10).toNat)
  case atStart => exact ⟨true, false, 0, rfl, rfl, rfl, Nat.zero_le _, Lib.hid ⟨Below.refl _ _, fun _ j s h => by omega, fun _ j s h => by omega⟩⟩
  case round =>
    obtain ⟨al, inn, i, rfl, rfl, rfl, hi, HI⟩ := hrel
    by_cases hlt : i < fr.length
    · obtain ⟨s, hs⟩ := getq_ex hlt
      have HSi := Lib.hid hs
      have HCs : Hid (∀ v, Below w4.heap.size w4 v → ∃ b o, FA = some ⟨b, o, none⟩ ∧ v.cell? ⟨b, o + i, none⟩ = some (.string s)) := Lib.hid fun v hv => by
        obtain ⟨b, o, h1, _, h3⟩ := ReadL.str (ReadL.below HF4.out hv) hs
        exact ⟨b, o, h1, h3⟩
      have HKl : Hid (i + 1 ≤ fr.length) := Lib.hid hlt
      obtain ⟨fb, fo, hFA, _⟩ := HCs.out w4 (Below.refl _ _)
      subst hFA
      clear hs
      have HCs2 : Hid (∀ v, Below w4.heap.size w4 v → v.cell? ⟨fb, fo + i, none⟩ = some (.string s)) := Lib.hid fun v hv => by
        obtain ⟨b, o, h1, h3⟩ := HCs.out v hv
        injection h1 with h1
        injection h1 with h1 h2
        subst h1 h2
        exact h3
      go_wp2_with fail
      obtain ⟨wo, hwo⟩ : ∃ wo : World, wo = wr := ⟨_, rfl⟩
      go_loopw [11, 12] (fun o11 o12 wi => ∃ (fd : Bool) (k : Nat), o11 = .bool fd ∧ o12 = .int .i64 k ∧ k ≤ bs.length ∧ Hid (Below w4.heap.size w4 wi ∧ (fd = true → lookE env s ≠ none))) (fun _ o12 _ => bs.length - (Lib.intOf o12).toNat)
      case atStart => exact ⟨false, 0, rfl, rfl, Nat.zero_le _, Lib.hid ⟨HI.out.1, fun e => by cases e⟩⟩
      case round =>
        obtain ⟨fd, k, rfl, rfl, hk, HK⟩ := hrel
        by_cases hkl : k < bs.length
        · obtain ⟨bn, hbn⟩ := getq_ex hkl
          have HA := Lib.hid (H.out.below (ext_trans HB4.out HK.out.1))
          obtain ⟨g, o, hgA, hgl, cb, _⟩ := ReadL.bnd HA.out.rd hbn
          subst hgA
          have cs := HCs2.out _ HK.out.1
          have HKk : Hid (k + 1 ≤ bs.length) := Lib.hid hkl
          have HNm : Hid (bn.s = s → lookE env s ≠ none) := Lib.hid fun e hn => by
            obtain ⟨e0, he0⟩ := getq_ex (show k < env.length by rw [← HA.out.hv.1]; exact hkl)
            obtain ⟨h1, _, _⟩ := HA.out.hv.2 k bn e0 hbn he0
            exact lookE_miss hn (List.mem_map.2 ⟨e0, List.mem_of_getElem? he0, by rw [← h1, e]⟩)
          clear hbn
          cases fd
          · cases hq : (bn.s.toList == s.toList)
            · go_upto_region 12 with fail
              go_quiet (fail)
              go_wp2_with fail
              go_roundw
              case rel => exact ⟨false, k + 1, rfl, by go_num, HKk.out, Lib.hid ⟨below_drewN HK.out.1 _, fun e => by cases e⟩⟩
              case measure => have := HKk.out; simp [Lib.intOf]; omega
            · have HQe := Lib.hid (strEqI hq)
              go_upto_region 12 with fail
              go_quiet (fail)
              go_wp2_with fail
              go_roundw
              case rel => exact ⟨true, k + 1, rfl, by go_num, HKk.out, Lib.hid ⟨below_drewN HK.out.1 _, fun _ => HNm.out HQe.out⟩⟩
              case measure => have := HKk.out; simp [Lib.intOf]; omega
          · go_upto_region 12 with fail
            go_quiet (fail)
            go_wp2_with fail
            go_roundw
            case rel => exact ⟨true, k + 1, rfl, by go_num, HKk.out, Lib.hid ⟨below_drewN HK.out.1 _, HK.out.2⟩⟩
            case measure => have := HKk.out; simp [Lib.intOf]; omega
        · have HW : Hid (Below w4.heap.size w4 wr) := Lib.hid HK.out.1
          have cs := HCs2.out _ HK.out.1
          obtain ⟨p0, p1⟩ := HP.out _ (ext_trans HB4.out HK.out.1)
          have HAl : Hid (∀ a : Bool, a = (al && fd) → a = true → ∀ (j : Nat) (s : ByteArray), j < i + 1 → fr[j]? = some s → lookE env s ≠ none) := Lib.hid fun a ha h j s2 hj hs2 => by
            rw [ha, Bool.and_eq_true] at h
            rcases Nat.lt_or_ge j i with h5 | h5
            · exact HI.out.2.1 h.1 j s2 h5 hs2
            · have : j = i := by omega
              subst this
              rw [HSi.out] at hs2
              injection hs2 with hs2
              subst hs2
              exact HK.out.2 h.2
          have HIn : Hid (s ≠ m.1 → inn = false → ∀ (j : Nat) (s : ByteArray), j < i + 1 → fr[j]? = some s → s ≠ m.1) := Lib.hid fun hne h j s2 hj hs2 => by
            rcases Nat.lt_or_ge j i with h5 | h5
            · exact HI.out.2.2 h j s2 h5 hs2
            · have : j = i := by omega
              subst this
              rw [HSi.out] at hs2
              injection hs2 with hs2
              subst hs2
              exact hne
          have HMs : Hid (mb.s = m.1) := Lib.hid HM.out.s
          cases al <;> cases fd <;> cases inn
          all_goals first
            | (cases hq : (s.toList == mb.s.toList)
               · have HNe : Hid (s ≠ m.1) := Lib.hid fun e => by rw [e, ← HMs.out] at hq; simp at hq
                 go_upto_region 14 with fail
                 go_quiet (fail)
                 go_wp2_with fail
                 go_roundw
                 case rel => exact ⟨_, _, i + 1, rfl, rfl, by go_num, HKl.out, Lib.hid ⟨below_drewN HW.out _, HAl.out _ rfl, HIn.out HNe.out⟩⟩
                 case measure => have := HKl.out; simp [Lib.intOf]; omega
               · go_upto_region 14 with fail
                 go_quiet (fail)
                 go_wp2_with fail
                 go_roundw
                 case rel => exact ⟨_, _, i + 1, rfl, rfl, by go_num, HKl.out, Lib.hid ⟨below_drewN HW.out _, HAl.out _ rfl, fun e => by cases e⟩⟩
                 case measure => have := HKl.out; simp [Lib.intOf]; omega)
    · have hin : i = fr.length := by omega
      have HAll : Hid (al = true → ∀ s ∈ freeE es 0 [], lookE env s ≠ none) := Lib.hid fun h s hs => by
        obtain ⟨j, hj⟩ := List.getElem?_of_mem ((HMem.out s).2 hs)
        exact HI.out.2.1 h j s (by have := getq_lt hj; omega) hj
      have HNot : Hid (inn = false → m.1 ∉ freeE es 0 []) := Lib.hid fun h hs => by
        obtain ⟨j, hj⟩ := List.getElem?_of_mem ((HMem.out m.1).2 hs)
        exact HI.out.2.2 h j m.1 (by have := getq_lt hj; omega) hj rfl
      have HWr : Hid (Below w1.heap.size w1 wr) := Lib.hid (ext_trans HB4.out HI.out.1)
      obtain ⟨r, hr, hrl, hr5⟩ := HG.out.ans
      have HEx := Lib.hid ((H.out.below HWr.out).call (c := c) (ec := ec) HG.out hr)
      have HR := Lib.hid hr
      have hal : al = false ∨ (al = true ∧ (ansE r == 5) = false) := by
        cases al
        · exact .inl rfl
        · refine .inr ⟨rfl, ?_⟩
          rw [beq_eq_false_iff_ne]
          exact fun e => hr5 e (HAll.out rfl)
      clear hr hr5 hin HI HAll
      go_wp2_with fail
      refine HEx.out.mono ?_
      intro e w5 hp
      obtain ⟨RA, rc, rfl, hT5, hb5⟩ := hp.flat
      have HT5 := Lib.hid hT5
      have HB5 := Lib.hid (ext_trans HWr.out hb5)
      clear hp hT5 hb5
      obtain ⟨rt, hrt⟩ : ∃ rt, rt = ansT r := ⟨_, rfl⟩
      obtain ⟨ri, hri⟩ : ∃ ri, ri = ansI r := ⟨_, rfl⟩
      obtain ⟨re, hre⟩ : ∃ re, re = ansE r := ⟨_, rfl⟩
      have HRt := Lib.hid (And.intro hrt (And.intro hri hre))
      rw [← hrt] at hrl HT5 ⊢
      rw [← hri, ← hre]
      rw [← hre] at hal
      clear hrt hri hre
      rcases hal with rfl | ⟨rfl, h5⟩
      all_goals
        cases inn
        rotate_left
        · go_wp2_with fail
          refine (alive10_any w5).mono ?_
          rintro e w6 ⟨rfl, hb6⟩
          have HB6 := Lib.hid (ext_trans HB1.out (ext_trans HB5.out hb6))
          clear hb6
          go_wp2_with fail
          go_ret
          exact ⟨rfl, HB6.out⟩
        obtain ⟨p0, p1⟩ := HP.out w5 HB5.out
        go_upto_region 20 with fail
        have HMo : Hid (∀ v A7 c7, Below w5.heap.size w5 v → OwnB v w5.heap.size A7 c7 (bs ++ [mb]) → Calls Tryz.prog 11 #[.slice A7 (bs.length + 1) c7, .slice EA es.length ec] v fun e w' => ∃ RA rc, e = .returned (.tuple #[.slice RA rt.length rc, .int .i64 ri, .int .i64 re]) ∧ Hid (TyA w' w'.heap.size RA rt ∧ Below v.heap.size v w')) := Lib.hid fun v A7 c7 hv hown => by
          refine ((H.out.below (ext_trans HB5.out hv)).more (HM.out.below (ext_trans HB5.out hv)) hown HG.out (HNot.out (by trivial)) HR.out).mono fun e w' hp => ?_
          obtain ⟨RA2, rc2, he, hT, hb⟩ := hp.flat
          rw [← HRt.out.1, ← HRt.out.2.1, ← HRt.out.2.2] at he
          rw [← HRt.out.1] at hT
          exact ⟨RA2, rc2, he, Lib.hid ⟨hT, hb⟩⟩
        have HRd : Hid (∀ v, Below w5.heap.size w5 v → ReadB v w5.heap.size A bs) := Lib.hid fun v hv => ReadL.below (((H.out.below HB5.out).rd)) hv
        have S0 : Hid (∀ v, Below w5.heap.size w5 v → v.cell? ⟨P, 0, none⟩ = some (.string mb.s) ∧ v.cell? ⟨P, 1, none⟩ = some (.slice mb.A mb.n mb.c) ∧ Hid (Below w5.heap.size w5 v)) := Lib.hid fun v hv => ⟨(HP.out v (ext_trans HB5.out hv)).1, (HP.out v (ext_trans HB5.out hv)).2, Lib.hid hv⟩
        have hbs20 : bs.length + 1 ≤ 1000 := by omega
        go_region_held3 (fun v => v.cell? ⟨P, 0, none⟩ = some (.string mb.s) ∧ v.cell? ⟨P, 1, none⟩ = some (.slice mb.A mb.n mb.c) ∧ Hid (Below w5.heap.size w5 v))
          (first
            | exact S0.out _ (Below.refl _ _).drew
            | exact S0.out _ (ext_alloc (Below.refl _ _).drew _)
            | exact S0.out _ (ext_alloc (ext_alloc (Below.refl _ _).drew _) _)
            | exact S0.out _ HB6.out
            | exact S0.out _ (ext_alloc HB6.out _)
            | exact S0.out _ HB7.out
            | exact S0.out _ HB8.out)
          (first
            | (refine step_appB (by rfl) _ _ (by rfl) w5.heap.size (m := 0) (n := bs.length) (l := []) rfl (by rfl) (own_empty 36 2 encB w5.drew) (l2 := bs) (A2 := A) (c := c) rfl (by rfl) (B := w5.heap.size) (HRd.out _ (ext_alloc (Below.refl _ _).drew _)) (k := bs.length) (by omega) (by omega) (by simp) ?_; intro A6 c6 w6 hown6 hg6; have HB6 := Lib.hid (ext_app (ext_alloc (Below.refl _ w5).drew _) hg6 (fun q hq => (OwnL.block (own_empty 36 2 encB w5.drew) q hq).1)); have HO6 : Hid (OwnB w6 w5.heap.size A6 c6 bs) := Lib.hid (by simpa using hown6); clear hown6 hg6)
            | (refine step_appB (by rfl) _ _ (by rfl) w5.heap.size (m := 0) (n := bs.length) (l := []) rfl (by rfl) (OwnL.alloc (own_empty 36 2 encB w5.drew) _) (l2 := bs) (A2 := A) (c := c) rfl (by rfl) (B := w5.heap.size) (HRd.out _ (ext_alloc (ext_alloc (Below.refl _ _).drew _) _)) (k := bs.length) (by omega) (by omega) (by simp; omega) ?_; intro A6 c6 w6 hown6 hg6; have HB6 := Lib.hid (ext_app (ext_alloc (ext_alloc (Below.refl _ w5).drew _) _) hg6 (fun q hq => (OwnL.block (own_empty 36 2 encB w5.drew) q hq).1)); have HO6 : Hid (OwnB w6 w5.heap.size A6 c6 bs) := Lib.hid (by simpa using hown6); have HX6 := Lib.hid (readB_grown ((readB_new1 w5.drew (.cells #[] 36) mb).more (by simp)) hg6 (by simp)); clear hown6 hg6)
            | (refine step_appB (by rfl) _ _ (by rfl) w5.heap.size (m := 0) (n := bs.length) (l := []) rfl (by rfl) (own_empty1 w5.drew _) (l2 := bs) (A2 := A) (c := c) rfl (by rfl) (B := w5.heap.size) (HRd.out _ (ext_alloc (ext_alloc (Below.refl _ _).drew _) _)) (k := bs.length) (by omega) (by omega) (by simp; omega) ?_; intro A6 c6 w6 hown6 hg6; have HB6 := Lib.hid (ext_app (ext_alloc (ext_alloc (Below.refl _ w5).drew _) _) hg6 (fun q hq => by simp [Value.ownBlock] at hq; omega)); have HO6 : Hid (OwnB w6 w5.heap.size A6 c6 bs) := Lib.hid (by simpa using hown6); have HX6 := Lib.hid (readB_grown (by have h := readB_new w5.drew mb; exact (ReadL.below h (Below.alloc (Below.refl _ _) (by simp) _)).more (by simp)) hg6 (by simp)); clear hown6 hg6)
            | (refine step_appB (by rfl) _ _ (by rfl) w5.heap.size (m := bs.length) (n := 1) (l := bs) rfl (by rfl) (OwnL.alloc HO6.out _) (l2 := [mb]) rfl (by rfl) (readB_new w6 mb) (k := bs.length + 1) rfl (by omega) (by have := HB6.out.size; simp; omega) ?_; intro A7 c7 w7 hown7 hg7; have HB7 := Lib.hid (ext_app (ext_alloc HB6.out _) hg7 (fun q hq => (OwnL.block HO6.out q hq).1)); have HO7 := Lib.hid hown7; clear hown7 hg7)
            | (refine step_appB (by rfl) _ _ (by rfl) w5.heap.size (m := bs.length) (n := 1) (l := bs) rfl (by rfl) HO6.out (l2 := [mb]) rfl (by rfl) HX6.out (k := bs.length + 1) rfl (by omega) (by have := HB6.out.size; omega) ?_; intro A7 c7 w7 hown7 hg7; have HB7 := Lib.hid (ext_app HB6.out hg7 (fun q hq => (OwnL.block HO6.out q hq).1)); have HO7 := Lib.hid hown7; clear hown7 hg7)
            | (go_at_call 11; refine (HMo.out _ A7 c7 HB7.out HO7.out).mono ?_; rintro e w8 ⟨RA2, rc2, rfl, hX8⟩; have HB8 := Lib.hid (ext_trans HB7.out hX8.out.2)))
        all_goals
          have HT8 := Lib.hid hX8.out.1
          clear hX8
          go_wp2_with fail
          refine (alive10_any _).mono ?_
          rintro e w9 ⟨rfl, hb9⟩
          have HB9 := Lib.hid (ext_trans HB8.out hb9)
          have HO := Lib.hid (one_any RA RA2 rc rc2 w9.heap.size w9.heap.size rt rt w9 ((HT5.out.below HB9.out).more HB9.out.size) ((HT8.out.below hb9).more hb9.size) (by omega))
          rw [show decide (rt = rt) = true from decide_eq_true rfl] at HO
          clear hb9
          go_wp2_with fail
          refine HO.out.mono ?_
          rintro e w10 ⟨rfl, nd, rfl⟩
          go_wp2_with fail
          go_ret
          exact ⟨ret_bool (by simp), below_drewN (ext_trans HB1.out (ext_trans HB5.out HB9.out)) _⟩
end Go.Proofs.YtmjdhfbnmmdjiaaGreat
