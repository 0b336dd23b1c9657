/- The law CheckPlain. -/
import Derived.Test.YtmjdhfbnmmdjiaaGreatK23
import Derived.Test.YtmjdhfbnmmdjiaaGreatK24
namespace Go.Proofs.YtmjdhfbnmmdjiaaGreat
open Go.RowKit

/-- The two arguments of a law of layer 10, in memory. -/
structure CkArgs (w : World) (A EA : Option Addr) (bs : List Bn) (env : Env) (es : List Pt) : Prop where
  rd : ReadB w w.heap.size A bs
  nil : A = none → bs = []
  form : ∀ a, A = some a → ∃ b o, a = ⟨b, o, none⟩
  hv : EnvM w (fun _ => False) bs env
  hx : ExX w (fun _ => False) EA es
  sz : EnvS env
  len : es.length ≤ 9223372036854775807
theorem CkArgs.below {w v : World} {A EA : Option Addr} {bs : List Bn} {env : Env} {es : List Pt} (h : CkArgs w A EA bs env es) (hb : Below w.heap.size w v) : CkArgs v A EA bs env es :=
  ⟨(ReadL.below h.rd hb).more hb.size, h.nil, h.form, h.hv.fr (Fr.below hb : Fr (fun _ => False) w v) fun _q hq => .inl hq, h.hx.fr (Fr.below hb : Fr (fun _ => False) w v) fun _q hq => .inl hq, h.sz, h.len⟩
/-- Check's answer on what is given. -/
theorem CkArgs.call {w : World} {A EA : Option Addr} {c ec : Nat} {bs : List Bn} {env : Env} {es : List Pt} (h : CkArgs w A EA bs env es) (hg : GivenF env es) {r : Ans} (hr : chk 60 es env 0 = some r) :
    Calls Tryz.prog 11 #[.slice A bs.length c, .slice EA es.length ec] w (ExPost r w) :=
  expr_any 60 es hg.ok env r A EA c ec bs w h.rd h.nil h.form h.hv h.hx (by have := hg.env.1; omega) (by have := hg.few.1; omega) hr

set_option maxRecDepth 100000 in
set_option maxHeartbeats 4000000 in
theorem checkPlain_law (A EA : Option Addr) (c ec : Nat) (bs : List Bn) (env : Env) (es : List Pt) (w : World) (h : CkArgs w A EA bs env es) :
    Calls Tryz.prog 3 #[.slice A bs.length c, .slice EA es.length ec] w fun e w' => e = .returned (.bool true) ∧ Below w.heap.size w w' := by
  have HGv := Lib.hid (given_any (fun _ => False) A EA c ec bs env es w h.rd h.hv h.sz h.hx h.len)
  have H := Lib.hid h
  clear h
  go_enter Tryz.func3, Tryz.ntmps3
  go_wp2_with fail
  refine HGv.out.mono ?_
  rintro e w1 ⟨b, rfl, hq, hb1⟩
  have HQ := Lib.hid hq
  have HB1 := Lib.hid hb1
  clear hq hb1
  cases b
  · go_wp2_with fail
    refine (alive10_any w1).mono ?_
    rintro e w2 ⟨rfl, hb2⟩
    have HB2 := Lib.hid (ext_trans HB1.out hb2)
    clear hb2
    go_wp2_with fail
    go_ret
    exact ⟨rfl, HB2.out⟩
  have HG := Lib.hid (HQ.out rfl)
  rcases HG.out.res with ⟨t, hr, hok⟩ | ⟨i, er, p, hr, hi, hp, hcase⟩
  · have HEx := Lib.hid ((H.out.below HB1.out).call (c := c) (ec := ec) HG.out hr)
    have HO := Lib.hid hok
    have hne : t.length ≠ 0 := fun e => hok.ne (List.eq_nil_of_length_eq_zero e)
    have hlen := hok.len
    have hle60 := HG.out.few.1
    have hbe : bs.length = env.length := H.out.hv.1
    have hb20 : bs.length ≤ 20 := by have := HG.out.env.1; omega
    have HBE := Lib.hid hbe
    clear hr hok hbe
    go_wp2_with fail
    refine HEx.out.mono ?_
    rintro e w2 ⟨hb2, TA, tc, rfl, hTX, hcap⟩
    have HB2 := Lib.hid (ext_trans HB1.out hb2)
    have HT := Lib.hid hTX.tyA
    clear hb2 hTX hcap
    go_wp2_with fail
    go_loopw [8, 9] (fun o8 o9 wr => ∃ (b : Bool) (k : Nat), o8 = .bool b ∧ o9 = .int .i64 k ∧ k ≤ bs.length ∧ Hid (Below w2.heap.size w2 wr ∧ (b = true → ∀ m e, m < k → env[m]? = some e → staticB e.2 = true))) (fun _ o9 _ => bs.length - (Lib.intOf o9).toNat)
    case atStart => exact ⟨true, 0, rfl, rfl, by omega, Lib.hid ⟨Below.refl _ _, fun _ m e hm => by omega⟩⟩
    case round =>
      obtain ⟨b, k, rfl, rfl, hk, HI⟩ := hrel
      by_cases hlt : k < bs.length
      · obtain ⟨bn, hbn⟩ := getq_ex hlt
        obtain ⟨e0, he0⟩ := getq_ex (show k < env.length by rw [← HBE.out]; exact hlt)
        have HA := Lib.hid (H.out.below (ext_trans HB2.out HI.out.1))
        obtain ⟨_, hbnl, hTV⟩ := HA.out.hv.2 k bn e0 hbn he0
        obtain ⟨g, o, rfl, hgl, c0, c1⟩ := ReadL.bnd HA.out.rd hbn
        have HSt := Lib.hid (rStatic_any bn.A bn.c wr.heap.size e0.2 wr hTV.ty.tyA (by have := (HA.out.sz.2 e0 (List.mem_of_getElem? he0)).2.1; omega))
        rw [← hbnl] at HSt
        have HE0 := Lib.hid he0
        clear hbn he0 hbnl hTV c0 hne
        cases b
        · go_wp2_with fail
          go_roundw
          case rel => exact ⟨false, k + 1, rfl, by go_num, by omega, Lib.hid ⟨HI.out.1, fun h => by cases h⟩⟩
          case measure => simp [Lib.intOf]; omega
        · go_wp2_with fail
          refine HSt.out.mono ?_
          rintro e w3 ⟨rfl, rfl⟩
          go_wp2_with fail
          go_roundw
          case rel => exact ⟨_, k + 1, rfl, by go_num, by omega, Lib.hid ⟨HI.out.1, fun h m y hm hy2 => by
            rcases Nat.lt_or_ge m k with h5 | h5
            · exact HI.out.2 (by trivial) m y h5 hy2
            · have : m = k := by omega
              subst this
              rw [HE0.out] at hy2
              injection hy2 with hy2
              subst hy2
              exact h⟩⟩
          case measure => simp [Lib.intOf]; omega
      have hke : k = bs.length := by omega
      have HEA : Hid (b = true → ∀ e ∈ env, staticB e.2 = true) := Lib.hid fun hb => all_of_idx fun m e hm => HI.out.2 hb m e (by rw [hke, HBE.out]; exact hm)
      have HB3 : Hid (Below w2.heap.size w2 wr) := Lib.hid HI.out.1
      clear hke HI
      go_wp2_with fail
      obtain ⟨b0, hb0⟩ : ∃ b0, b0 = b := ⟨_, rfl⟩
      have HB0 := Lib.hid hb0
      clear hb0
      go_loopw [8, 10] (fun o8 o10 wi => ∃ (b2 : Bool) (k : Nat), o8 = .bool b2 ∧ o10 = .int .i64 k ∧ k ≤ es.length ∧ Hid (Below w2.heap.size w2 wi ∧ (b2 = true → b0 = true ∧ ∀ m x, m < k → es[m]? = some x → staticB x.T = true ∧ staticB x.U = true))) (fun _ o10 _ => es.length - (Lib.intOf o10).toNat)
      case atStart => exact ⟨b, 0, rfl, rfl, by omega, Lib.hid ⟨HB3.out, fun h => ⟨by rw [HB0.out]; exact h, fun m e hm => by omega⟩⟩⟩
      case round =>
        obtain ⟨b2, k2, rfl, rfl, hk2, HI⟩ := hrel
        by_cases hlt2 : k2 < es.length
        · obtain ⟨x, hx⟩ := getq_ex hlt2
          have HA := Lib.hid (H.out.below (ext_trans HB2.out HI.out.1))
          obtain ⟨eb, eo, rfl, hb, _, ⟨UA1, uc1, UA2, uc2, hT, hU, _, _, _, _, _, _, c6, c7⟩, _⟩ := HA.out.hx k2 x hx
          have hlx := HG.out.len x (List.mem_of_getElem? hx)
          have HS1 := Lib.hid (rStatic_any UA1 uc1 wr.heap.size x.T wr hT.ty.tyA (by omega))
          have HS2 := Lib.hid (rStatic_any UA2 uc2 wr.heap.size x.U wr hU.ty.tyA (by omega))
          have HXx := Lib.hid hx
          clear hx hT hU hlx hne
          cases b2
          · go_wp2_with fail
            go_roundw
            case rel => exact ⟨false, k2 + 1, rfl, by go_num, by omega, Lib.hid ⟨HI.out.1, fun h => by cases h⟩⟩
            case measure => simp [Lib.intOf]; omega
          · go_wp2_with fail
            refine HS1.out.mono ?_
            rintro e w3 ⟨rfl, rfl⟩
            cases hs1 : staticB x.T
            · go_wp2_with fail
              go_roundw
              case rel => exact ⟨false, k2 + 1, rfl, by go_num, by omega, Lib.hid ⟨HI.out.1, fun h => by cases h⟩⟩
              case measure => simp [Lib.intOf]; omega
            · have HS1t := Lib.hid hs1
              clear hs1
              go_wp2_with fail
              refine HS2.out.mono ?_
              rintro e w3 ⟨rfl, rfl⟩
              go_wp2_with fail
              go_roundw
              case rel => exact ⟨_, k2 + 1, rfl, by go_num, by omega, Lib.hid ⟨HI.out.1, fun h => ⟨(HI.out.2 (by trivial)).1, fun m y hm hy2 => by
                rcases Nat.lt_or_ge m k2 with h5 | h5
                · exact (HI.out.2 (by trivial)).2 m y h5 hy2
                · have : m = k2 := by omega
                  subst this
                  rw [HXx.out] at hy2
                  injection hy2 with hy2
                  subst hy2
                  exact ⟨HS1t.out, h⟩⟩⟩⟩
              case measure => simp [Lib.intOf]; omega
        have hke2 : k2 = es.length := by omega
        have HAS : Hid (b2 = true → staticB t = true) := Lib.hid fun hb => HO.out.static ⟨HEA.out (by have := (HI.out.2 hb).1; rw [HB0.out] at this; exact this), all_of_idx fun m x hm => (HI.out.2 hb).2 m x (by omega)⟩
        have HB4 : Hid (Below w2.heap.size w2 wr) := Lib.hid HI.out.1
        clear hke2 HI
        go_wp2_with fail
        refine (alive10_any wr).mono ?_
        rintro e w5 ⟨rfl, hb5⟩
        have HB5 : Hid (Below w2.heap.size w2 w5) := Lib.hid (ext_trans HB4.out hb5)
        have HT5 := Lib.hid ((HT.out.below HB5.out).more HB5.out.size)
        clear hb5
        have HPl := Lib.hid (rPlain_any TA tc w5.heap.size t w5 HT5.out (by omega))
        rw [HO.out.plain] at HPl
        have HSq := Lib.hid (fun v (hv : Below w5.heap.size w5 v) => rStatic_any TA tc v.heap.size t v ((HT5.out.below hv).more hv.size) (by omega))
        go_wp2_with fail
        refine HPl.out.mono ?_
        rintro e w6 ⟨rfl, rfl⟩
        by_cases h1000 : t.length ≤ 1000
        · have h1i : ¬ (1000 : Int) < (t.length : Int) := by omega
          have HQp := Lib.hid (plainQ_any TA tc t 1000 w5 HT5.out (by omega) (fun x hx => by have := HO.out.names x hx; omega))
          rw [HO.out.short h1000] at HQp
          clear h1000
          go_wp2_with fail
          refine HQp.out.mono ?_
          rintro e w7 ⟨rfl, hb7⟩
          have HB7 := Lib.hid hb7
          clear hb7
          cases b2
          · go_wp2_with fail
            go_ret
            exact ⟨rfl, ext_trans HB2.out (ext_trans HB5.out HB7.out)⟩
          · have HSz := Lib.hid (HSq.out w7 HB7.out)
            rw [HAS.out rfl] at HSz
            go_wp2_with fail
            refine HSz.out.mono ?_
            rintro e w8 ⟨rfl, rfl⟩
            go_wp2_with fail
            go_ret
            exact ⟨rfl, ext_trans HB2.out (ext_trans HB5.out HB7.out)⟩
        · have h1i : (1000 : Int) < (t.length : Int) := by omega
          clear h1000
          cases b2
          · go_wp2_with fail
            go_ret
            exact ⟨rfl, ext_trans HB2.out HB5.out⟩
          · have HSz := Lib.hid (HSq.out w5 (Below.refl _ _))
            rw [HAS.out rfl] at HSz
            go_wp2_with fail
            refine HSz.out.mono ?_
            rintro e w8 ⟨rfl, rfl⟩
            go_wp2_with fail
            go_ret
            exact ⟨rfl, ext_trans HB2.out HB5.out⟩
  · have HEx := Lib.hid ((H.out.below HB1.out).call (c := c) (ec := ec) HG.out hr)
    have HP := Lib.hid hp
    have hle60 := HG.out.few.1
    clear hr hp
    go_wp2_with fail
    refine HEx.out.mono ?_
    rintro e w2 ⟨hb2, rfl⟩
    have HB2 := Lib.hid (ext_trans HB1.out hb2)
    clear hb2
    have hif : (i : Int) < (es.length : Int) := by omega
    have hi0 : (0 : Int) ≤ (i : Int) := by omega
    rcases hcase with ⟨rfl, hk⟩ | ⟨rfl, hk⟩
    · have hkb : (p.k == 1) = true := by simpa using hk
      go_wp2_with fail
      refine (alive10_any w2).mono ?_
      rintro e w3 ⟨rfl, hb3⟩
      have HB3 := Lib.hid (ext_trans HB2.out hb3)
      clear hb3 hk
      obtain ⟨eb, eo, rfl, hb, _, ⟨UA1, uc1, UA2, uc2, _, _, c0, _⟩, _⟩ := (H.out.below HB3.out).hx i p HP.out
      go_wp2_with fail
      go_ret
      exact ⟨rfl, HB3.out⟩
    · have hkb : (p.k == 1) = false := by simpa using hk
      go_wp2_with fail
      refine (alive10_any w2).mono ?_
      rintro e w3 ⟨rfl, hb3⟩
      have HB3 := Lib.hid (ext_trans HB2.out hb3)
      clear hb3 hk
      obtain ⟨eb, eo, rfl, hb, _, ⟨UA1, uc1, UA2, uc2, _, _, c0, _⟩, _⟩ := (H.out.below HB3.out).hx i p HP.out
      go_wp2_with fail
      go_ret
      exact ⟨rfl, HB3.out⟩
end Go.Proofs.YtmjdhfbnmmdjiaaGreat
