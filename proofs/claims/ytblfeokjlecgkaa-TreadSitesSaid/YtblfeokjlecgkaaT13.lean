/- Laid together by a tool from the texts of this seat: TrU TrV TrW. Conditions: each theorem's own. -/
import Derived.Test.YtblfeokjlecgkaaT12
import Derived.OwnWalk
/- Types that are read from tokens, walked: a row. -/
namespace Go.Proofs.Ytblfeokjlecgkaa
open Go.RowKit

attribute [local go_sem ↓] Go.wp_at_zero Go.wp_at_succ

theorem infoStrT : (Try.prog.info? 9).map (fun i => (i.zero, i.size, i.bytes)) = some (some (.string ⟨#[]⟩), 1, 16) := by kernel_rfl
theorem encLT_one (s : ByteArray) : ∀ u ∈ encL s, u.oneCell' = true := by simp [encL, Value.oneCell']
theorem wpList_appTs {w : World} {ops : Array Oper} {rest : List Oper} {o : Oper} {a : Act} {K : Exit → Act → World → Prop} (hgd : o.guard = none) (s x : Operand)
    (ho : o.op = .call { callee := .builtin .append, args := #[s, x], argTypes := #[95, 95] })
    (base : Nat) {A : Option Addr} {cap : Nat} {l : List ByteArray} (hs : a.eval s = .slice A l.length cap) (hown : OwnT w base A cap l) {B : Nat} {A2 : Option Addr} {c : Nat} {l2 : List ByteArray} (hx : a.eval x = .slice A2 l2.length c) (hr : ReadL 1 encL w B A2 l2)
    (hlen : l.length + l2.length ≤ 1000000000000) (hbase : base ≤ w.heap.size)
    (h : ∀ A' cap' w', OwnT w' base A' cap' (l ++ l2) → w.grownBy w' ((Value.slice A l.length cap).ownBlock) →
      ((Value.slice A' (l.length + l2.length) cap').ownBlock = (Value.slice A l.length cap).ownBlock ∨ (Value.slice A' (l.length + l2.length) cap').ownBlock = some w.heap.size) → wpList Try.prog ops K rest (a.put o.dst (.slice A' (l.length + l2.length) cap')) w') : wpList Try.prog ops K (o :: rest) a w := by
  obtain ⟨i0, hi, hz0, hz1, hz2⟩ := info_parts infoStrT
  exact wpList_app w encL_len encLT_one hgd s x 95 ho base 9 i0 _ 16 Try.underlying95 hi hz0 hz1 hz2 rfl (by decide) hs hown hx hr (by unfold maxLen; omega) (by omega) hbase h
theorem badRow_no {k lk : Int} {fs : List FsL} (hk : (k = 6 ∧ lk = 1) ∨ (k = 7 ∧ lk = 2)) (hok : ∀ p ∈ fs, (if lk == 1 then wordB p.1 else tagB p.1) = true) (h50 : fs.length ≤ 50) (hne : fs ≠ []) : badRow k (fs.map (·.1)) (fs.map (·.2)).length = false := by
  have hodd : oddFrom k (fs.map (·.1)) 0 = false := by
    unfold oddFrom
    rw [List.drop_zero, List.any_eq_false]
    intro s hs
    obtain ⟨p, hp, rfl⟩ := List.mem_map.1 hs
    have h := hok p hp
    rcases hk with ⟨rfl, rfl⟩ | ⟨rfl, rfl⟩
    · simpa [labelB] using h
    · simpa [labelB] using h
  have hl : fs.length ≠ 0 := fun e => hne (List.eq_nil_of_length_eq_zero e)
  unfold badRow
  rw [hodd]
  rcases hk with ⟨rfl, rfl⟩ | ⟨rfl, rfl⟩ <;> simp [isRowB, hne] <;> omega
def lenV : Value → Nat
  | .slice _ n _ => n
  | _ => 0
theorem readT_new (w : World) (s : ByteArray) : ReadL 1 encL (w.alloc (.cells #[.string s] 9)) (w.heap.size + 1) (some ⟨w.heap.size, 0, none⟩) [s] := readStr_new w [s] _ _ rfl

set_option maxRecDepth 100000 in
set_option maxHeartbeats 8000000 in
theorem row_any {rb c sc : Nat} {A SA : Option Addr} {L : List Tk} {s0 : Int} {st : RS} {w : World} {lv : Int} {W : RS → RRes} {r : RRes} (h : RdO w rb A c L s0 st SA sc) (hL : L.length ≤ 100000) (hp : st.pos ≤ L.length) (hs : st.si.length ≤ st.pos)
    (hW : GoodW L W) (hy : ReadsT rb A c L s0 lv W) (k lk : Int) (hk : (k = 6 ∧ lk = 1) ∨ (k = 7 ∧ lk = 2)) (btw fin : ByteArray) (hr : r = rowF L W k lk btw fin (L.length + 1) [] st) :
    Calls Try.prog 193 #[pk rb, .int .i64 lv, .int .i64 k, .int .i64 lk, .string btw, .string fin] w (WPost rb A c L s0 SA w r) := by
  have HQ0 : Hid (RowQ L W k lk btw fin r [] st true) := Lib.hid ⟨by simp [hr], hp, hs, Nat.zero_le _, Nat.zero_le _, by simp, by simp, by simp⟩
  have HI0 : Hid (RowI rb A c L s0 SA w [] [] st SA sc none 0 none 0 [] w) := Lib.hid ⟨h, OwnL.nil, OwnL.nil, ⟨rfl, by simp⟩, by simp, fun a b ha => (by cases ha), fun a b _ hb => (by cases hb), fun a b _ hb => (by cases hb), RStep.below (Below.refl _ _), h.m.r.lt⟩
  have HL := Lib.hid hL
  have HY := Lib.hid hy
  have HW := Lib.hid hW
  have HK := Lib.hid hk
  clear h hL hp hs hy hW hk hr
  unfold pk at *
  go_enter Try.func193, Try.ntmps193
  go_wp2_with fail
  go_loopw [13, 14, 15] (fun s13 s14 s15 wr => ∃ (fs : List FsL) (ns : List ByteArray) (xss : List (List Nd)) (st' : RS) (SA' : Option Addr) (sc' : Nat) (LA : Option Addr) (lc : Nat) (VA : Option Addr) (vc : Nat) (vs : List (Option Addr × Nat × Nat)) (b : Bool), s13 = .slice LA ns.length lc ∧ s14 = .slice VA vs.length vc ∧ s15 = .bool b ∧ Hid (RowQ L W k lk btw fin r fs st' b) ∧ Hid (ns = fs.map (·.1) ∧ xss = fs.map (·.2)) ∧ Hid (RowI rb A c L s0 SA w ns xss st' SA' sc' LA lc VA vc vs wr)) (fun s13 _ _ _ => 51 - lenV s13)
  case atStart => exact ⟨[], [], [], st, SA, sc, none, 0, none, 0, [], true, rfl, rfl, rfl, HQ0, Lib.hid ⟨rfl, rfl⟩, HI0⟩
  case round =>
    obtain ⟨fs, ns, xss, st', SA', sc', LA, lc, VA, vc, vs, b, rfl, rfl, rfl, HQ, HE, HI⟩ := hrel
    have HNL : Hid (ns.length = fs.length) := Lib.hid (by rw [HE.out.1, List.length_map])
    have HVL : Hid (vs.length = fs.length) := Lib.hid (by rw [HI.out.s.1, HE.out.2, List.length_map])
    cases b with
    | true =>
      have HLab := Lib.hid (label_any HI.out.o.m lk LA lc ns (OwnL.read encL_len HI.out.l) (by have := HNL.out; have := HQ.out.n2; omega) (by have := HQ.out.p; have := HL.out; omega))
      unfold pk at HLab
      go_wp2_with fail
      refine HLab.out.mono ?_
      rintro e w1 ⟨hf, he⟩
      clear HLab
      cases hn : namesB lk (hereT L st'.pos) with
      | false =>
        rw [if_pos hn] at he
        subst he
        refine ⟨rfl, ?_⟩
        rw [HQ.out.b1 hn]
        exact ⟨rfl, SA', HI.out.r.trans (RStep.own hf)⟩
      | true =>
        rw [if_neg (by simp [hn])] at he
        by_cases hi : 0 ≤ idxS ns (hereT L st'.pos).s
        · rw [if_pos hi] at he
          subst he
          refine ⟨rfl, ?_⟩
          rw [HE.out.1] at hi
          rw [HQ.out.b2 hn hi]
          exact ⟨rfl, SA', HI.out.r.trans (RStep.own hf)⟩
        · rw [if_neg hi] at he
          rw [HE.out.1] at hi
          by_cases hf50 : 50 ≤ ns.length
          · rw [if_pos hf50] at he
            subst he
            refine ⟨rfl, ?_⟩
            rw [HNL.out] at hf50
            rw [HQ.out.b3 hn hi hf50]
            exact ⟨rfl, SA', HI.out.r.trans (RStep.own hf)⟩
          · rw [if_neg hf50] at he
            rw [HNL.out] at hf50
            obtain ⟨rfl, hm1⟩ := he
            have I1 := Lib.hid (HI.out.step (HI.out.o.own hm1 hf) (RStep.own hf))
            have HF := Lib.hid (And.intro hn (And.intro hi hf50))
            clear hn hi hf50 hm1 hf
            obtain ⟨s, hse⟩ : ∃ s, s = (hereT L st'.pos).s := ⟨_, rfl⟩
            rw [← hse]
            have HSE := Lib.hid hse
            clear hse
            have hba : Below w1.heap.size w1 (w1.alloc (.cells #[.string s] 9)) := ext_alloc (Below.refl _ _) _
            have I1a := Lib.hid (I1.out.step (I1.out.o.later hba) (RStep.below hba))
            have hbs : w.heap.size ≤ (w1.alloc (.cells #[.string s] 9)).heap.size := I1a.out.r.fr.size
            have hl : ns.length + [s].length ≤ 1000000000000 := by have := HNL.out; have := HQ.out.n2; simp; omega
            have HR := Lib.hid (readT_new w1 s)
            have HX := Lib.hid (And.intro hl hbs)
            clear hba hl hbs
            go_wp2_with (at_builtin; refine wpList_appTs rfl (.tmp 22) (.tmp 27) rfl w.heap.size rfl I1a.out.l (l2 := [s]) rfl HR.out HX.out.1 HX.out.2 ?_; intro A1 c1 w2 hown1 hg1 hA1; have I2 := Lib.hid (I1a.out.putL hown1 hg1 hA1); clear hown1 hg1 hA1)
            have HNe := Lib.hid (needs_any I2.out.o.m sCol (by have := I2.out.o.m.l; have := HQ.out.p; have := HL.out; dsimp only; omega))
            unfold pk at HNe
            go_wp2_with fail
            refine HNe.out.mono ?_
            clear HNe I1 I1a HR HX
            rintro e w3 ⟨hf3, ⟨hc, rfl, hm3⟩ | ⟨hc, rfl⟩⟩
            · have I3 := Lib.hid (I2.out.step (I2.out.o.own hm3 hf3) (RStep.own hf3))
              have HC := Lib.hid hc
              have HZ := Lib.hid (HY.out ⟨st'.pos + 2, st'.si⟩ SA' sc' w3 I3.out.o (by have := isS_lt hc; dsimp only at this ⊢; omega) (by have := HQ.out.si; dsimp only; omega))
              unfold pk at HZ
              clear hc hm3 hf3
              cases hz : W ⟨st'.pos + 2, st'.si⟩ with
              | bad p x =>
                rw [hz] at HZ
                have HZE := Lib.hid hz
                clear hz
                go_wp2_with fail
                refine HZ.out.mono ?_
                rintro e w4 ⟨rfl, SA4, s4⟩
                refine ⟨rfl, ?_⟩
                rw [HQ.out.b5 HF.out.1 (by have := HF.out.2.1; omega) HF.out.2.2 HC.out HZE.out]
                exact ⟨rfl, SA4, I3.out.r.trans s4⟩
              | ok t st2 =>
                rw [hz] at HZ
                have HZE := Lib.hid hz
                clear hz
                go_wp2_with fail
                refine HZ.out.mono ?_
                rintro e w4 ⟨B, cb, SA4, sc4, rfl, h4, t4, s4⟩
                have hba : Below w4.heap.size w4 (w4.alloc (.cells #[.slice B t.length cb] 34)) := ext_alloc (Below.refl _ _) _
                have I4 := Lib.hid ((I3.out.step h4 s4).step (h4.later hba) (RStep.below hba))
                have T4 := Lib.hid (t4.step (RStep.below (rb := rb) (SA := SA4) hba) I3.out.o.m.r.lt)
                have hbs : w.heap.size ≤ (w4.alloc (.cells #[.slice B t.length cb] 34)).heap.size := I4.out.r.fr.size
                have hl : vs.length + [(B, t.length, cb)].length ≤ 10000000 := by have := HVL.out; have := HQ.out.n2; simp; omega
                have HR := Lib.hid (readS_new w4 (B, t.length, cb))
                have HX := Lib.hid (And.intro hl hbs)
                have hwz : w.heap.size ≤ w3.heap.size := I3.out.r.fr.size
                have HT := Lib.hid (And.intro (fun a (ha : B = some a) => And.intro (Nat.le_trans hwz (T4.out.lo a ha)) (T4.out.hi a ha)) (And.intro (apart_new (X := A1) (Y := B) (fun a ha => (OwnL.lt I3.out.l a ha).2) T4.out.lo) (apart_new (X := VA) (Y := B) (fun a ha => (OwnL.lt I3.out.v a ha).2) T4.out.lo)))
                clear hba hl hbs h4 t4 s4 HZ hwz
                go_wp2_with (at_builtin; refine wpList_appS rfl (.tmp 31) (.tmp 35) rfl w.heap.size rfl I4.out.v (l2 := [(B, t.length, cb)]) rfl HR.out HX.out.1 HX.out.2 ?_; intro A5 c5 w5 hown5 hg5 hA5; have I5 := Lib.hid (I4.out.putV T4.out.t HT.out.1 (fun b a hb ha e => T4.out.off a ha b hb e) HT.out.2.1 HT.out.2.2 hown5 hg5 hA5); clear hown5 hg5 hA5)
                have QN := Lib.hid (HQ.out.next HW.out HL.out (by rcases HK.out with h | h <;> rw [h.2] <;> decide) HF.out.1 (by have := HF.out.2.1; omega) HF.out.2.2 HC.out HZE.out)
                have HTop : Hid (st2.pos ≤ 1000000) := Lib.hid (by
                  have hg := HW.out ⟨st'.pos + 2, st'.si⟩ (by have := isS_lt HC.out; dsimp only at this ⊢; omega)
                  rw [HZE.out] at hg
                  have := hg.top
                  have := HL.out
                  omega)
                have HH := Lib.hid (has_any I5.out.o.m btw HTop.out)
                unfold pk at HH
                go_wp2_with fail
                refine HH.out.mono ?_
                clear HH HR HX HT I4 T4
                rintro e w6 ⟨rfl, hm6, hf6⟩
                have I6 := Lib.hid (I5.out.step (I5.out.o.own hm6 hf6) (RStep.own hf6))
                clear hm6 hf6
                go_wp2_with fail
                go_roundw
                case rel =>
                  refine ⟨fs ++ [((hereT L st'.pos).s, t)], ns ++ [s], xss ++ [t], _, SA4, sc4, A1, c1, A5, c5, vs ++ [(B, t.length, cb)], isS L st2.pos btw, by rw [List.length_append]; rfl, by rw [List.length_append]; rfl, rfl, QN, Lib.hid ⟨?_, ?_⟩, I6⟩
                  · rw [List.map_append, ← HE.out.1, HSE.out]; rfl
                  · rw [List.map_append, ← HE.out.2]; rfl
                case measure =>
                  have h1 := HF.out.2.2
                  have h2 := HNL.out
                  simp [lenV]
                  omega
            · refine ⟨rfl, ?_⟩
              rw [HQ.out.b4 HF.out.1 (by have := HF.out.2.1; omega) HF.out.2.2 hc]
              exact ⟨rfl, SA', I2.out.r.trans (RStep.own hf3)⟩
    | false =>
      have HNe := Lib.hid (needs_any HI.out.o.m fin (by have := HQ.out.p; have := HL.out; omega))
      unfold pk at HNe
      go_wp2_with fail
      refine HNe.out.mono ?_
      clear HNe
      rintro e w1 ⟨hf1, ⟨hc, rfl, hm1⟩ | ⟨hc, rfl⟩⟩
      · have I1 := Lib.hid (HI.out.step (HI.out.o.own hm1 hf1) (RStep.own hf1))
        have HC := Lib.hid hc
        clear hc hm1 hf1
        go_wp2_with fail
        have hgood : badRow k ns xss.length = false := by
          rw [HE.out.1, HE.out.2]
          exact badRow_no HK.out (fun p hp => (HQ.out.ok p hp).1) HQ.out.n2 (HQ.out.nz rfl)
        have HG := Lib.hid hgood
        clear hgood
        refine (rowGood_any LA VA lc vc k ns vs xss w1 (OwnL.read encL_len I1.out.l) (OwnL.read encS_len I1.out.v) I1.out.s (fun xs hx => by
          rw [HE.out.2] at hx
          obtain ⟨p, hp, rfl⟩ := List.mem_map.1 hx
          exact (HQ.out.ok p hp).2) HG.out).mono ?_
        rintro e w2 ⟨hb, hcase⟩
        rcases hcase with ⟨h1, _⟩ | ⟨_, h1, _⟩ | ⟨_, os, A', cap', hp, ho, rfl, hown⟩
        · rw [HG.out] at h1
          cases h1
        · exact absurd (by rw [HE.out.1]; exact HQ.out.nd) h1
        · have hq : rowNR k ns xss os = rowL k fs := by
            rw [HE.out.2] at hp
            rw [HE.out.1] at ho
            rw [HE.out.1, HE.out.2]
            exact rowNR_eq k fs HQ.out.nd os hp ho
          rw [hq] at hown ⊢
          have HO := Lib.hid hown
          have HB := Lib.hid hb
          clear hq hown hb hp ho
          go_wp2_with fail
          go_ret
          have e1 := HQ.out.e
          rw [if_neg (by decide), endF, if_pos HC.out] at e1
          rw [e1]
          refine ⟨A', cap', SA', sc', rfl, I1.out.o.later HB.out, ⟨OwnL.tyA HO.out, ?_, ?_, ?_⟩, I1.out.r.trans (RStep.below HB.out)⟩
          · intro a ha
            have h1 := (OwnL.lt HO.out a ha).1
            have h2 := I1.out.r.fr.size
            omega
          · intro a ha
            exact (OwnL.lt HO.out a ha).2
          · intro a ha b hb
            have h1 := (OwnL.lt HO.out a ha).1
            have h2 := (OwnL.lt I1.out.o.o b hb).2
            omega
      · refine ⟨rfl, ?_⟩
        have e1 := HQ.out.e
        rw [if_neg (by decide), endF, if_neg (by simp [hc])] at e1
        rw [e1]
        exact ⟨rfl, SA', HI.out.r.trans (RStep.own hf1)⟩
end Go.Proofs.Ytblfeokjlecgkaa

/- Types that are read from tokens, walked: a type without an arrow. -/
namespace Go.Proofs.Ytblfeokjlecgkaa
open Go.RowKit

attribute [local go_sem ↓] Go.wp_at_zero Go.wp_at_succ

/-- A type of one node, made anew. -/
theorem HasT.one {rb c sc : Nat} {A SA : Option Addr} {L : List Tk} {s0 : Int} {w w1 : World} {st : RS} (h : RdO w1 rb A c L s0 st SA sc) (hf : w.heap.size ≤ w1.heap.size) (x : Nd) (z : Nat) (hz : w1.heap.size = z) : HasT w (w1.alloc (.cells #[.int .i64 x.k, .string x.s, .int .i64 x.n] 48)) (some ⟨z, 0, none⟩) [x] SA := by
  subst hz
  refine ⟨(tyA_new w1 x).more (Nat.le_of_eq (World.size_alloc _ _).symm), fun a ha => ?_, fun a ha => ?_, fun a ha b hb => ?_⟩
  · cases ha
    exact hf
  · cases ha
    rw [World.size_alloc]
    exact Nat.lt_succ_self _
  · cases ha
    exact Nat.ne_of_lt (OwnL.lt h.o b hb).2

set_option maxRecDepth 100000 in
set_option maxHeartbeats 8000000 in
theorem atom_any {rb c sc : Nat} {A SA : Option Addr} {L : List Tk} {s0 : Int} {st : RS} {w : World} {lv : Int} {W : Option (RS → RRes)} {r : RRes} (h : RdO w rb A c L s0 st SA sc) (hL : L.length ≤ 100000) (hp : st.pos ≤ L.length) (hs : st.si.length ≤ st.pos) (h0 : 0 ≤ lv) (hs0 : 0 ≤ s0) (hs1 : s0 ≤ 1000000)
    (hW : GoodO L W) (hn : W = none → 100 ≤ lv) (hy : ∀ W', W = some W' → lv < 100 ∧ ReadsT rb A c L s0 (lv + 1) W') (hr : r = atomF L s0 W st) :
    Calls Try.prog 153 #[pk rb, .int .i64 lv] w (WPost rb A c L s0 SA w r) := by
  have H := Lib.hid h
  have HL := Lib.hid hL
  have HP := Lib.hid hp
  have HS := Lib.hid hs
  have H0 := Lib.hid h0
  have HS0 := Lib.hid (And.intro hs0 hs1)
  have HW := Lib.hid hW
  have HN := Lib.hid hn
  have HY := Lib.hid hy
  have HRr := Lib.hid hr
  have HI := Lib.hid h.m.here
  obtain ⟨t, ht⟩ : ∃ t, t = hereT L st.pos := ⟨_, rfl⟩
  have HT := Lib.hid ht
  rw [← ht] at HI
  have hrl := Lib.hid h.m.r.lt
  clear h ht hL hp hs h0 hs0 hs1 hW hn hy hr
  unfold pk at *
  go_enter Try.func153, Try.ntmps153
  go_wp2_with fail
  refine HI.out.mono ?_
  rintro e w1 ⟨rfl, hb1⟩
  obtain ⟨w2, hw2⟩ : ∃ w2, w2 = w1.alloc (.cells #[.int .i64 t.k, .string t.s, .int .i64 t.f, .int .i64 t.t] 113) := ⟨_, rfl⟩
  have hb2 : Below w.heap.size w w2 := by rw [hw2]; exact ext_alloc hb1 _
  have HK : Hid (KAt w2 w1.heap.size t.k t.s t.f t.t) := Lib.hid (by rw [hw2]; exact KAt.new _ _ _ _ _)
  have HB2 := Lib.hid hb2
  go_upto_region 2 with fail
  rw [← hw2]
  clear hw2 hb1 hb2 HI
  have k2 := HK.out.at_
  go_wp2_with fail
  refine (base_any t.s w2).mono ?_
  rintro e w3 ⟨rfl, hb3⟩
  clear k2
  have H3 := Lib.hid (H.out.later (ext_trans HB2.out hb3))
  have S3 : Hid (RStep rb SA SA w w3) := Lib.hid (RStep.below (ext_trans HB2.out hb3))
  have HK3 := Lib.hid (HK.out.later hb3)
  obtain ⟨i, hi⟩ : ∃ i, i = idxS basesL t.s := ⟨_, rfl⟩
  rw [← hi]
  have HIi := Lib.hid hi
  clear hi hb3
  have k3 := HK3.out.at_
  obtain ⟨bi, hbi⟩ : ∃ bi, bi = decide (0 ≤ i) := ⟨_, rfl⟩
  rw [← hbi]
  have HBi := Lib.hid hbi
  clear hbi
  obtain ⟨is6, h6⟩ : ∃ b, b = decide (t.k = 6) := ⟨_, rfl⟩
  have H6 := Lib.hid h6
  clear h6
  cases bi with
  | true =>
    by_cases h6 : t.k = 6
    · have H6' := Lib.hid h6
      have hd6 : decide (t.k = 6) = true := by simp [h6]
      have j1 := H3.out.m.r.at_
      have j2 := H3.out.m.r.fz
      have e1 : IntKind.i64.wrap ((st.pos : Int) + 1) = (st.pos : Int) + 1 := IntWalk.i64_in _ (by have := HP.out; have := HL.out; omega)
      go_wp2_with fail
      go_ret
      have hi0 : 0 ≤ i := by simpa using HBi.out.symm
      have hat : atomF L s0 W st = .ok [⟨1 + i, ByteArray.empty, 0⟩] ⟨st.pos + 1, st.si⟩ := by
        unfold atomF
        rw [← HT.out]
        have hb : baseK t.s = some i.toNat := by simp [baseK, ← HIi.out, hi0]
        simp [h6, hb, Int.toNat_of_nonneg hi0]
      rw [HRr.out, hat]
      have H4 := H3.out.put (st.pos + 1)
      have S4 : RStep rb SA SA w3 (w3.setCell ⟨rb, 1, none⟩ (.int .i64 ((st.pos + 1 : Nat) : Int))) := RStep.own (Fr.setCell (X := fun k => k = rb) (Fr.refl _ _) (.inl rfl) _)
      have hba := ext_alloc (Below.refl (w3.setCell ⟨rb, 1, none⟩ (.int .i64 ((st.pos + 1 : Nat) : Int))).heap.size (w3.setCell ⟨rb, 1, none⟩ (.int .i64 ((st.pos + 1 : Nat) : Int)))) (.cells #[.int .i64 (1 + i), .string ByteArray.empty, .int .i64 0] 48)
      refine ⟨some ⟨w3.heap.size, 0, none⟩, 1, SA, sc, rfl, H4.later hba, HasT.one H4 (Nat.le_trans S3.out.fr.size S4.fr.size) ⟨1 + i, ByteArray.empty, 0⟩ _ (by simp [World.setCell]), (S3.out.trans S4).trans (RStep.below hba)⟩
    · have hd6 : decide (t.k = 6) = false := by simp [h6]
      have hno : (if t.k == 6 then baseK t.s else none) = none := by simp [h6]
      have HNo := Lib.hid hno
      have H6' := Lib.hid h6
      have hq6 : (t.k == 6) = false := by simpa using h6
      clear hno
      have HIs := Lib.hid (is_any H3.out.m sAny)
      unfold pk at HIs
      cases hx : isS L st.pos sAny with
      | true =>
        rw [hx] at HIs
        have HX := Lib.hid hx
        clear hx
        go_wp2_with fail
        refine HIs.out.mono ?_
        rintro e w4 ⟨rfl, hb4⟩
        have H4 := Lib.hid (H3.out.later hb4)
        have S4 := Lib.hid (S3.out.trans (RStep.below hb4))
        clear hb4
        have HD := Lib.hid (dyn_any H4.out (by have := HP.out; have := HL.out; omega) (by have := HP.out; have := HL.out; have := HS.out; omega) HS0.out.1 HS0.out.2)
        unfold pk at HD
        go_wp2_with fail
        refine HD.out.mono ?_
        rintro e w5 ⟨B, cb, SA5, sc5, rfl, h5, t5, s5⟩
        have H5 := Lib.hid h5
        have T5 := Lib.hid t5
        have S5 := Lib.hid s5
        clear h5 t5 s5
        go_wp2_with fail
        go_ret
        have hat : atomF L s0 W st = .ok [⟨0, ByteArray.empty, s0 + (st.si.length : Int)⟩] ⟨st.pos + 1, st.si ++ [((hereT L st.pos).f, (hereT L st.pos).t)]⟩ := by
          unfold atomF
          rw [← HT.out, HNo.out]
          simp [HX.out]
        rw [HRr.out, hat]
        exact ⟨B, cb, SA5, sc5, rfl, H5.out, T5.out.down S4.out.fr.size, S4.out.trans S5.out⟩
      | false =>
        rw [hx] at HIs
        have HX := Lib.hid hx
        clear hx
        go_wp2_with fail
        refine HIs.out.mono ?_
        clear HIs
        rintro e w4 ⟨rfl, hb4⟩
        have H4 := Lib.hid (H3.out.later hb4)
        have S4 := Lib.hid (S3.out.trans (RStep.below hb4))
        clear hb4
        have HI2 := Lib.hid (is_any H4.out.m sLp)
        unfold pk at HI2
        cases hx : isS L st.pos sLp with
        | true =>
          rw [hx] at HI2
          have HX2 := Lib.hid hx
          clear hx
          go_wp2_with fail
          refine HI2.out.mono ?_
          clear HI2
          rintro e w5 ⟨rfl, hb5⟩
          have H5 := Lib.hid (H4.out.later hb5)
          have S5 := Lib.hid (S4.out.trans (RStep.below hb5))
          clear hb5
          have HD := Lib.hid (down_any H5.out.m lv H0.out)
          unfold pk at HD
          go_wp2_with fail
          refine HD.out.mono ?_
          clear HD
          rintro e w6 ⟨hb6, hd | hd⟩
          · obtain ⟨hd1, rfl⟩ := hd
            have hat : atomF L s0 W st = .bad st.pos 4 := by
              cases hw : W with
              | none =>
                unfold atomF
                rw [← HT.out, HNo.out]
                simp [HX.out, HX2.out]
              | some W' => exact absurd (HY.out W' hw).1 (by omega)
            refine ⟨rfl, ?_⟩
            rw [HRr.out, hat]
            exact ⟨rfl, SA, S5.out.trans (RStep.below hb6)⟩
          · obtain ⟨hd1, rfl⟩ := hd
            cases hw : W with
            | none => exact absurd (HN.out hw) (by omega)
            | some W' =>
              have hlt := isS_lt HX2.out
              have h6 := H5.out.later hb6
              have H7 : RdO (w6.setCell ⟨rb, 1, none⟩ (.int .i64 ((st.pos : Int) + 1))) rb A c L s0 ⟨st.pos + 1, st.si⟩ SA sc := h6.put (st.pos + 1)
              have HZ := Lib.hid ((HY.out W' hw).2 ⟨st.pos + 1, st.si⟩ SA sc _ H7 (by dsimp only; omega) (by have := HS.out; dsimp only; omega))
              have GZ := Lib.hid (HW.out W' hw ⟨st.pos + 1, st.si⟩ (by dsimp only; omega))
              have S7 : RStep rb SA SA w5 (w6.setCell ⟨rb, 1, none⟩ (.int .i64 ((st.pos : Int) + 1))) := (RStep.below hb6).trans (RStep.own (Fr.setCell (X := fun k => k = rb) (Fr.refl _ _) (.inl rfl) _))
              have S8 := Lib.hid (S5.out.trans S7)
              have k1 := h6.m.r.at_
              have k2 := h6.m.r.fz
              have e1 : IntKind.i64.wrap ((st.pos : Int) + 1) = (st.pos : Int) + 1 := IntWalk.i64_in _ (by have := HL.out; omega)
              have hat : atomF L s0 W st = (match W' ⟨st.pos + 1, st.si⟩ with
                  | .bad p e => .bad p e
                  | .ok t st2 => if isS L st2.pos sRp = true then .ok t ⟨st2.pos + 1, st2.si⟩ else .bad st2.pos 2) := by
                unfold atomF
                rw [← HT.out, HNo.out, hw]
                simp [HX.out, HX2.out]
                (try cases W' ⟨st.pos + 1, st.si⟩ <;> rfl)
              have HA := Lib.hid hat
              clear S7 H7 hb6 h6 hlt hat hw
              unfold pk at HZ
              cases hz : W' ⟨st.pos + 1, st.si⟩ with
              | bad p x =>
                rw [hz] at HZ HA
                clear hz
                go_wp2_with fail
                refine HZ.out.mono ?_
                rintro e w7 ⟨rfl, SA', hs'⟩
                refine ⟨rfl, ?_⟩
                rw [HRr.out, HA.out]
                exact ⟨rfl, SA', S8.out.trans hs'⟩
              | ok t7 st7 =>
                rw [hz] at HZ HA GZ
                clear hz
                go_wp2_with fail
                refine HZ.out.mono ?_
                rintro e w7 ⟨B, cb, SA7, sc7, rfl, h7, t7', s7⟩
                have H7 := Lib.hid h7
                have T7 := Lib.hid (t7'.down S8.out.fr.size)
                have S9 := Lib.hid (S8.out.trans s7)
                clear h7 t7' s7
                have HNe := Lib.hid (needs_any H7.out.m sRp (by have := GZ.out.top; have := HL.out; omega))
                unfold pk at HNe
                go_wp2_with fail
                refine HNe.out.mono ?_
                clear HNe
                rintro e w8 ⟨hf8, ⟨hc, rfl, hm8⟩ | ⟨hc, rfl⟩⟩
                · have H8 := Lib.hid (H7.out.own hm8 hf8)
                  have T8 := Lib.hid (T7.out.step (RStep.own hf8) hrl.out)
                  have S10 := Lib.hid (S9.out.trans (RStep.own hf8))
                  have HC := Lib.hid hc
                  clear hc hf8 hm8
                  go_wp2_with fail
                  go_ret
                  rw [HRr.out, HA.out]
                  (try dsimp only)
                  rw [if_pos HC.out]
                  exact ⟨B, cb, SA7, sc7, rfl, H8.out, T8.out, S10.out⟩
                · refine ⟨rfl, ?_⟩
                  rw [HRr.out, HA.out]
                  (try dsimp only)
                  rw [if_neg (by simp [hc])]
                  exact ⟨rfl, SA7, S9.out.trans (RStep.own hf8)⟩
        | false =>
          rw [hx] at HI2
          have HX2 := Lib.hid hx
          clear hx
          go_wp2_with fail
          refine HI2.out.mono ?_
          clear HI2
          rintro e w5 ⟨rfl, hb5⟩
          have H5 := Lib.hid (H4.out.later hb5)
          have S5 := Lib.hid (S4.out.trans (RStep.below hb5))
          clear hb5
          have HI3 := Lib.hid (is_any H5.out.m sLb)
          unfold pk at HI3
          cases hx : isS L st.pos sLb with
          | true =>
            have HX3 := Lib.hid hx
            rw [hx] at HI3
            go_wp2_with fail
            refine HI3.out.mono ?_
            clear HI3
            rintro e w15 ⟨rfl, hb15⟩
            have H15 := Lib.hid (H5.out.later hb15)
            have S15 := Lib.hid (S5.out.trans (RStep.below hb15))
            clear hb15
            clear hx
            have HD := Lib.hid (down_any H15.out.m lv H0.out)
            unfold pk at HD
            go_wp2_with fail
            refine HD.out.mono ?_
            clear HD
            rintro e w6 ⟨hb6, hd | hd⟩
            · obtain ⟨hd1, rfl⟩ := hd
              have hat : atomF L s0 W st = .bad st.pos 4 := by
                cases hw : W with
                | none =>
                  unfold atomF
                  rw [← HT.out, HNo.out]
                  simp [HX.out, HX2.out, HX3.out]
                | some W' => exact absurd (HY.out W' hw).1 (by omega)
              refine ⟨rfl, ?_⟩
              rw [HRr.out, hat]
              exact ⟨rfl, SA, S15.out.trans (RStep.below hb6)⟩
            · obtain ⟨hd1, rfl⟩ := hd
              cases hw : W with
              | none => exact absurd (HN.out hw) (by omega)
              | some W' =>
                have hlt := isS_lt HX3.out
                have h6 := H15.out.later hb6
                have H7 : Hid (RdO (w6.setCell ⟨rb, 1, none⟩ (.int .i64 ((st.pos : Int) + 1))) rb A c L s0 ⟨st.pos + 1, st.si⟩ SA sc) := Lib.hid (h6.put (st.pos + 1))
                have HYW := Lib.hid (HY.out W' hw).2
                have HWW := Lib.hid (HW.out W' hw)
                have S7 : RStep rb SA SA w15 (w6.setCell ⟨rb, 1, none⟩ (.int .i64 ((st.pos : Int) + 1))) := (RStep.below hb6).trans (RStep.own (Fr.setCell (X := fun k => k = rb) (Fr.refl _ _) (.inl rfl) _))
                have S8 := Lib.hid (S15.out.trans S7)
                have k1 := h6.m.r.at_
                have k2 := h6.m.r.fz
                have e1 : IntKind.i64.wrap ((st.pos : Int) + 1) = (st.pos : Int) + 1 := IntWalk.i64_in _ (by have := HL.out; omega)

                have hat : atomF L s0 W st = if isS L (st.pos + 1) sRb = true then .ok [⟨6, ByteArray.empty, 0⟩] ⟨st.pos + 2, st.si⟩ else rowF L W' 6 1 sCo sRb (L.length + 1) [] ⟨st.pos + 1, st.si⟩ := by
                  unfold atomF
                  rw [← HT.out, HNo.out, hw]
                  simp [HX.out, HX2.out, HX3.out]
                have HA := Lib.hid hat
                have HLT := Lib.hid hlt
                have HH := Lib.hid (has_any H7.out.m sRb (by have := HL.out; dsimp only; omega))
                unfold pk at HH
                clear S7 hb6 h6 hlt hat hw
                go_wp2_with fail
                cases hc : isS L (st.pos + 1) sRb with
                | true =>
                  rw [hc] at HH
                  refine HH.out.mono ?_
                  rintro e w8 ⟨rfl, hm8, hf8⟩
                  have H8 := Lib.hid (H7.out.own hm8 hf8)
                  have S9 := Lib.hid (S8.out.trans (RStep.own hf8))
                  have HC := Lib.hid hc
                  clear hc hm8 hf8 HH
                  go_wp2_with fail
                  go_ret
                  rw [HRr.out, HA.out, if_pos HC.out]
                  have hba := ext_alloc (Below.refl w8.heap.size w8) (.cells #[.int .i64 6, .string ByteArray.empty, .int .i64 0] 48)
                  exact ⟨some ⟨w8.heap.size, 0, none⟩, 1, SA, sc, rfl, H8.out.later hba, HasT.one H8.out S9.out.fr.size ⟨6, ByteArray.empty, 0⟩ _ rfl, S9.out.trans (RStep.below hba)⟩
                | false =>
                  rw [hc] at HH
                  refine HH.out.mono ?_
                  rintro e w8 ⟨rfl, hm8, hf8⟩
                  have H8 := Lib.hid (H7.out.own hm8 hf8)
                  have S9 := Lib.hid (S8.out.trans (RStep.own hf8))
                  have HC := Lib.hid hc
                  clear hc hm8 hf8 HH
                  have HRow := Lib.hid (row_any (r := rowF L W' 6 1 sCo sRb (L.length + 1) [] ⟨st.pos + 1, st.si⟩) H8.out HL.out (by have := HLT.out; exact this) (by have := HS.out; show st.si.length ≤ st.pos + 1; omega) HWW.out HYW.out 6 1 (.inl ⟨rfl, rfl⟩) sCo sRb rfl)
                  unfold pk at HRow
                  go_wp2_with fail
                  cases hz : rowF L W' 6 1 sCo sRb (L.length + 1) [] ⟨st.pos + 1, st.si⟩ with
                  | bad p x =>
                    rw [hz] at HRow HA
                    refine HRow.out.mono ?_
                    rintro e w9 ⟨rfl, SA', hs'⟩
                    refine ⟨rfl, ?_⟩
                    rw [HRr.out, HA.out, if_neg (by simp [HC.out])]
                    exact ⟨rfl, SA', S9.out.trans hs'⟩
                  | ok t9 st9 =>
                    rw [hz] at HRow HA
                    refine HRow.out.mono ?_
                    rintro e w9 ⟨B, cb, SA9, sc9, rfl, h9, t9', s9⟩
                    have H9 := Lib.hid h9
                    have T9 := Lib.hid t9'
                    have SS9 := Lib.hid s9
                    clear h9 t9' s9 hz
                    go_wp2_with fail
                    go_ret
                    rw [HRr.out, HA.out, if_neg (by simp [HC.out])]
                    exact ⟨B, cb, SA9, sc9, rfl, H9.out, T9.out.down S9.out.fr.size, S9.out.trans SS9.out⟩
          | false =>
            have HX3 := Lib.hid hx
            rw [hx] at HI3
            go_wp2_with fail
            refine HI3.out.mono ?_
            clear HI3
            rintro e w15 ⟨rfl, hb15⟩
            have H15 := Lib.hid (H5.out.later hb15)
            have S15 := Lib.hid (S5.out.trans (RStep.below hb15))
            clear hb15
            clear hx
            have HI4 := Lib.hid (is_any H15.out.m sLk)
            unfold pk at HI4
            cases hx : isS L st.pos sLk with
            | true =>
              have HX4 := Lib.hid hx
              rw [hx] at HI4
              go_wp2_with fail
              refine HI4.out.mono ?_
              clear HI4
              rintro e w16 ⟨rfl, hb16⟩
              have H16 := Lib.hid (H15.out.later hb16)
              have S16 := Lib.hid (S15.out.trans (RStep.below hb16))
              clear hb16 hx
              have HD := Lib.hid (down_any H16.out.m lv H0.out)
              unfold pk at HD
              go_wp2_with fail
              refine HD.out.mono ?_
              clear HD
              rintro e w6 ⟨hb6, hd | hd⟩
              · obtain ⟨hd1, rfl⟩ := hd
                have hat : atomF L s0 W st = .bad st.pos 4 := by
                  cases hw : W with
                  | none =>
                    unfold atomF
                    rw [← HT.out, HNo.out]
                    simp [HX.out, HX2.out, HX3.out, HX4.out]
                  | some W' => exact absurd (HY.out W' hw).1 (by omega)
                refine ⟨rfl, ?_⟩
                rw [HRr.out, hat]
                exact ⟨rfl, SA, S16.out.trans (RStep.below hb6)⟩
              · obtain ⟨hd1, rfl⟩ := hd
                cases hw : W with
                | none => exact absurd (HN.out hw) (by omega)
                | some W' =>
                  have hlt := isS_lt HX4.out
                  have h6 := H16.out.later hb6
                  have H7 : Hid (RdO (w6.setCell ⟨rb, 1, none⟩ (.int .i64 ((st.pos : Int) + 1))) rb A c L s0 ⟨st.pos + 1, st.si⟩ SA sc) := Lib.hid (h6.put (st.pos + 1))
                  have HYW := Lib.hid (HY.out W' hw).2
                  have HWW := Lib.hid (HW.out W' hw)
                  have S7 : RStep rb SA SA w16 (w6.setCell ⟨rb, 1, none⟩ (.int .i64 ((st.pos : Int) + 1))) := (RStep.below hb6).trans (RStep.own (Fr.setCell (X := fun k => k = rb) (Fr.refl _ _) (.inl rfl) _))
                  have S9 := Lib.hid (S16.out.trans S7)
                  have k1 := h6.m.r.at_
                  have k2 := h6.m.r.fz
                  have e1 : IntKind.i64.wrap ((st.pos : Int) + 1) = (st.pos : Int) + 1 := IntWalk.i64_in _ (by have := HL.out; omega)
                  have hat : atomF L s0 W st = rowF L W' 7 2 sBar sRk (L.length + 1) [] ⟨st.pos + 1, st.si⟩ := by
                    unfold atomF
                    rw [← HT.out, HNo.out, hw]
                    simp [HX.out, HX2.out, HX3.out, HX4.out]
                  have HA := Lib.hid hat
                  have HLT := Lib.hid hlt
                  have HRow := Lib.hid (row_any (r := rowF L W' 7 2 sBar sRk (L.length + 1) [] ⟨st.pos + 1, st.si⟩) H7.out HL.out (by have := HLT.out; exact this) (by have := HS.out; show st.si.length ≤ st.pos + 1; omega) HWW.out HYW.out 7 2 (.inr ⟨rfl, rfl⟩) sBar sRk rfl)
                  unfold pk at HRow
                  clear S7 hb6 h6 hlt hat hw
                  go_wp2_with fail
                  cases hz : rowF L W' 7 2 sBar sRk (L.length + 1) [] ⟨st.pos + 1, st.si⟩ with
                  | bad p x =>
                    rw [hz] at HRow HA
                    refine HRow.out.mono ?_
                    rintro e w9 ⟨rfl, SA', hs'⟩
                    refine ⟨rfl, ?_⟩
                    rw [HRr.out, HA.out]
                    exact ⟨rfl, SA', S9.out.trans hs'⟩
                  | ok t9 st9 =>
                    rw [hz] at HRow HA
                    refine HRow.out.mono ?_
                    rintro e w9 ⟨B, cb, SA9, sc9, rfl, h9, t9', s9⟩
                    have H9 := Lib.hid h9
                    have T9 := Lib.hid t9'
                    have SS9 := Lib.hid s9
                    clear h9 t9' s9 hz
                    go_wp2_with fail
                    go_ret
                    rw [HRr.out, HA.out]
                    exact ⟨B, cb, SA9, sc9, rfl, H9.out, T9.out.down S9.out.fr.size, S9.out.trans SS9.out⟩
            | false =>
              have HX4 := Lib.hid hx
              rw [hx] at HI4
              go_wp2_with fail
              refine HI4.out.mono ?_
              clear HI4
              rintro e w16 ⟨rfl, hb16⟩
              have H16 := Lib.hid (H15.out.later hb16)
              have S16 := Lib.hid (S15.out.trans (RStep.below hb16))
              clear hb16 hx
              have HFa := Lib.hid (fail_any H16.out.m 2)
              unfold pk at HFa
              go_wp2_with fail
              refine HFa.out.mono ?_
              rintro e w17 ⟨rfl, hb17⟩
              have hat : atomF L s0 W st = .bad st.pos 2 := by
                unfold atomF
                rw [← HT.out, HNo.out]
                simp [HX.out, HX2.out, HX3.out, HX4.out]
              refine ⟨rfl, ?_⟩
              rw [HRr.out, hat]
              exact ⟨rfl, SA, S16.out.trans (RStep.below hb17)⟩
  | false =>
    have hno : (if t.k == 6 then baseK t.s else none) = none := by
      have hi0 : ¬ 0 ≤ i := by simpa using HBi.out.symm
      have hb : baseK t.s = none := by simp [baseK, ← HIi.out, hi0]
      rw [hb]
      split <;> rfl
    have HNo := Lib.hid hno
    clear hno
    have HIs := Lib.hid (is_any H3.out.m sAny)
    unfold pk at HIs
    cases hx : isS L st.pos sAny with
    | true =>
      rw [hx] at HIs
      have HX := Lib.hid hx
      clear hx
      go_wp2_with fail
      refine HIs.out.mono ?_
      rintro e w4 ⟨rfl, hb4⟩
      have H4 := Lib.hid (H3.out.later hb4)
      have S4 := Lib.hid (S3.out.trans (RStep.below hb4))
      clear hb4
      have HD := Lib.hid (dyn_any H4.out (by have := HP.out; have := HL.out; omega) (by have := HP.out; have := HL.out; have := HS.out; omega) HS0.out.1 HS0.out.2)
      unfold pk at HD
      go_wp2_with fail
      refine HD.out.mono ?_
      rintro e w5 ⟨B, cb, SA5, sc5, rfl, h5, t5, s5⟩
      have H5 := Lib.hid h5
      have T5 := Lib.hid t5
      have S5 := Lib.hid s5
      clear h5 t5 s5
      go_wp2_with fail
      go_ret
      have hat : atomF L s0 W st = .ok [⟨0, ByteArray.empty, s0 + (st.si.length : Int)⟩] ⟨st.pos + 1, st.si ++ [((hereT L st.pos).f, (hereT L st.pos).t)]⟩ := by
        unfold atomF
        rw [← HT.out, HNo.out]
        simp [HX.out]
      rw [HRr.out, hat]
      exact ⟨B, cb, SA5, sc5, rfl, H5.out, T5.out.down S4.out.fr.size, S4.out.trans S5.out⟩
    | false =>
      rw [hx] at HIs
      have HX := Lib.hid hx
      clear hx
      go_wp2_with fail
      refine HIs.out.mono ?_
      clear HIs
      rintro e w4 ⟨rfl, hb4⟩
      have H4 := Lib.hid (H3.out.later hb4)
      have S4 := Lib.hid (S3.out.trans (RStep.below hb4))
      clear hb4
      have HI2 := Lib.hid (is_any H4.out.m sLp)
      unfold pk at HI2
      cases hx : isS L st.pos sLp with
      | true =>
        rw [hx] at HI2
        have HX2 := Lib.hid hx
        clear hx
        go_wp2_with fail
        refine HI2.out.mono ?_
        clear HI2
        rintro e w5 ⟨rfl, hb5⟩
        have H5 := Lib.hid (H4.out.later hb5)
        have S5 := Lib.hid (S4.out.trans (RStep.below hb5))
        clear hb5
        have HD := Lib.hid (down_any H5.out.m lv H0.out)
        unfold pk at HD
        go_wp2_with fail
        refine HD.out.mono ?_
        clear HD
        rintro e w6 ⟨hb6, hd | hd⟩
        · obtain ⟨hd1, rfl⟩ := hd
          have hat : atomF L s0 W st = .bad st.pos 4 := by
            cases hw : W with
            | none =>
              unfold atomF
              rw [← HT.out, HNo.out]
              simp [HX.out, HX2.out]
            | some W' => exact absurd (HY.out W' hw).1 (by omega)
          refine ⟨rfl, ?_⟩
          rw [HRr.out, hat]
          exact ⟨rfl, SA, S5.out.trans (RStep.below hb6)⟩
        · obtain ⟨hd1, rfl⟩ := hd
          cases hw : W with
          | none => exact absurd (HN.out hw) (by omega)
          | some W' =>
            have hlt := isS_lt HX2.out
            have h6 := H5.out.later hb6
            have H7 : RdO (w6.setCell ⟨rb, 1, none⟩ (.int .i64 ((st.pos : Int) + 1))) rb A c L s0 ⟨st.pos + 1, st.si⟩ SA sc := h6.put (st.pos + 1)
            have HZ := Lib.hid ((HY.out W' hw).2 ⟨st.pos + 1, st.si⟩ SA sc _ H7 (by dsimp only; omega) (by have := HS.out; dsimp only; omega))
            have GZ := Lib.hid (HW.out W' hw ⟨st.pos + 1, st.si⟩ (by dsimp only; omega))
            have S7 : RStep rb SA SA w5 (w6.setCell ⟨rb, 1, none⟩ (.int .i64 ((st.pos : Int) + 1))) := (RStep.below hb6).trans (RStep.own (Fr.setCell (X := fun k => k = rb) (Fr.refl _ _) (.inl rfl) _))
            have S8 := Lib.hid (S5.out.trans S7)
            have k1 := h6.m.r.at_
            have k2 := h6.m.r.fz
            have e1 : IntKind.i64.wrap ((st.pos : Int) + 1) = (st.pos : Int) + 1 := IntWalk.i64_in _ (by have := HL.out; omega)
            have hat : atomF L s0 W st = (match W' ⟨st.pos + 1, st.si⟩ with
                | .bad p e => .bad p e
                | .ok t st2 => if isS L st2.pos sRp = true then .ok t ⟨st2.pos + 1, st2.si⟩ else .bad st2.pos 2) := by
              unfold atomF
              rw [← HT.out, HNo.out, hw]
              simp [HX.out, HX2.out]
              (try cases W' ⟨st.pos + 1, st.si⟩ <;> rfl)
            have HA := Lib.hid hat
            clear S7 H7 hb6 h6 hlt hat hw
            unfold pk at HZ
            cases hz : W' ⟨st.pos + 1, st.si⟩ with
            | bad p x =>
              rw [hz] at HZ HA
              clear hz
              go_wp2_with fail
              refine HZ.out.mono ?_
              rintro e w7 ⟨rfl, SA', hs'⟩
              refine ⟨rfl, ?_⟩
              rw [HRr.out, HA.out]
              exact ⟨rfl, SA', S8.out.trans hs'⟩
            | ok t7 st7 =>
              rw [hz] at HZ HA GZ
              clear hz
              go_wp2_with fail
              refine HZ.out.mono ?_
              rintro e w7 ⟨B, cb, SA7, sc7, rfl, h7, t7', s7⟩
              have H7 := Lib.hid h7
              have T7 := Lib.hid (t7'.down S8.out.fr.size)
              have S9 := Lib.hid (S8.out.trans s7)
              clear h7 t7' s7
              have HNe := Lib.hid (needs_any H7.out.m sRp (by have := GZ.out.top; have := HL.out; omega))
              unfold pk at HNe
              go_wp2_with fail
              refine HNe.out.mono ?_
              clear HNe
              rintro e w8 ⟨hf8, ⟨hc, rfl, hm8⟩ | ⟨hc, rfl⟩⟩
              · have H8 := Lib.hid (H7.out.own hm8 hf8)
                have T8 := Lib.hid (T7.out.step (RStep.own hf8) hrl.out)
                have S10 := Lib.hid (S9.out.trans (RStep.own hf8))
                have HC := Lib.hid hc
                clear hc hf8 hm8
                go_wp2_with fail
                go_ret
                rw [HRr.out, HA.out]
                (try dsimp only)
                rw [if_pos HC.out]
                exact ⟨B, cb, SA7, sc7, rfl, H8.out, T8.out, S10.out⟩
              · refine ⟨rfl, ?_⟩
                rw [HRr.out, HA.out]
                (try dsimp only)
                rw [if_neg (by simp [hc])]
                exact ⟨rfl, SA7, S9.out.trans (RStep.own hf8)⟩
      | false =>
        rw [hx] at HI2
        have HX2 := Lib.hid hx
        clear hx
        go_wp2_with fail
        refine HI2.out.mono ?_
        clear HI2
        rintro e w5 ⟨rfl, hb5⟩
        have H5 := Lib.hid (H4.out.later hb5)
        have S5 := Lib.hid (S4.out.trans (RStep.below hb5))
        clear hb5
        have HI3 := Lib.hid (is_any H5.out.m sLb)
        unfold pk at HI3
        cases hx : isS L st.pos sLb with
        | true =>
          have HX3 := Lib.hid hx
          rw [hx] at HI3
          go_wp2_with fail
          refine HI3.out.mono ?_
          clear HI3
          rintro e w15 ⟨rfl, hb15⟩
          have H15 := Lib.hid (H5.out.later hb15)
          have S15 := Lib.hid (S5.out.trans (RStep.below hb15))
          clear hb15
          clear hx
          have HD := Lib.hid (down_any H15.out.m lv H0.out)
          unfold pk at HD
          go_wp2_with fail
          refine HD.out.mono ?_
          clear HD
          rintro e w6 ⟨hb6, hd | hd⟩
          · obtain ⟨hd1, rfl⟩ := hd
            have hat : atomF L s0 W st = .bad st.pos 4 := by
              cases hw : W with
              | none =>
                unfold atomF
                rw [← HT.out, HNo.out]
                simp [HX.out, HX2.out, HX3.out]
              | some W' => exact absurd (HY.out W' hw).1 (by omega)
            refine ⟨rfl, ?_⟩
            rw [HRr.out, hat]
            exact ⟨rfl, SA, S15.out.trans (RStep.below hb6)⟩
          · obtain ⟨hd1, rfl⟩ := hd
            cases hw : W with
            | none => exact absurd (HN.out hw) (by omega)
            | some W' =>
              have hlt := isS_lt HX3.out
              have h6 := H15.out.later hb6
              have H7 : Hid (RdO (w6.setCell ⟨rb, 1, none⟩ (.int .i64 ((st.pos : Int) + 1))) rb A c L s0 ⟨st.pos + 1, st.si⟩ SA sc) := Lib.hid (h6.put (st.pos + 1))
              have HYW := Lib.hid (HY.out W' hw).2
              have HWW := Lib.hid (HW.out W' hw)
              have S7 : RStep rb SA SA w15 (w6.setCell ⟨rb, 1, none⟩ (.int .i64 ((st.pos : Int) + 1))) := (RStep.below hb6).trans (RStep.own (Fr.setCell (X := fun k => k = rb) (Fr.refl _ _) (.inl rfl) _))
              have S8 := Lib.hid (S15.out.trans S7)
              have k1 := h6.m.r.at_
              have k2 := h6.m.r.fz
              have e1 : IntKind.i64.wrap ((st.pos : Int) + 1) = (st.pos : Int) + 1 := IntWalk.i64_in _ (by have := HL.out; omega)

              have hat : atomF L s0 W st = if isS L (st.pos + 1) sRb = true then .ok [⟨6, ByteArray.empty, 0⟩] ⟨st.pos + 2, st.si⟩ else rowF L W' 6 1 sCo sRb (L.length + 1) [] ⟨st.pos + 1, st.si⟩ := by
                unfold atomF
                rw [← HT.out, HNo.out, hw]
                simp [HX.out, HX2.out, HX3.out]
              have HA := Lib.hid hat
              have HLT := Lib.hid hlt
              have HH := Lib.hid (has_any H7.out.m sRb (by have := HL.out; dsimp only; omega))
              unfold pk at HH
              clear S7 hb6 h6 hlt hat hw
              go_wp2_with fail
              cases hc : isS L (st.pos + 1) sRb with
              | true =>
                rw [hc] at HH
                refine HH.out.mono ?_
                rintro e w8 ⟨rfl, hm8, hf8⟩
                have H8 := Lib.hid (H7.out.own hm8 hf8)
                have S9 := Lib.hid (S8.out.trans (RStep.own hf8))
                have HC := Lib.hid hc
                clear hc hm8 hf8 HH
                go_wp2_with fail
                go_ret
                rw [HRr.out, HA.out, if_pos HC.out]
                have hba := ext_alloc (Below.refl w8.heap.size w8) (.cells #[.int .i64 6, .string ByteArray.empty, .int .i64 0] 48)
                exact ⟨some ⟨w8.heap.size, 0, none⟩, 1, SA, sc, rfl, H8.out.later hba, HasT.one H8.out S9.out.fr.size ⟨6, ByteArray.empty, 0⟩ _ rfl, S9.out.trans (RStep.below hba)⟩
              | false =>
                rw [hc] at HH
                refine HH.out.mono ?_
                rintro e w8 ⟨rfl, hm8, hf8⟩
                have H8 := Lib.hid (H7.out.own hm8 hf8)
                have S9 := Lib.hid (S8.out.trans (RStep.own hf8))
                have HC := Lib.hid hc
                clear hc hm8 hf8 HH
                have HRow := Lib.hid (row_any (r := rowF L W' 6 1 sCo sRb (L.length + 1) [] ⟨st.pos + 1, st.si⟩) H8.out HL.out (by have := HLT.out; exact this) (by have := HS.out; show st.si.length ≤ st.pos + 1; omega) HWW.out HYW.out 6 1 (.inl ⟨rfl, rfl⟩) sCo sRb rfl)
                unfold pk at HRow
                go_wp2_with fail
                cases hz : rowF L W' 6 1 sCo sRb (L.length + 1) [] ⟨st.pos + 1, st.si⟩ with
                | bad p x =>
                  rw [hz] at HRow HA
                  refine HRow.out.mono ?_
                  rintro e w9 ⟨rfl, SA', hs'⟩
                  refine ⟨rfl, ?_⟩
                  rw [HRr.out, HA.out, if_neg (by simp [HC.out])]
                  exact ⟨rfl, SA', S9.out.trans hs'⟩
                | ok t9 st9 =>
                  rw [hz] at HRow HA
                  refine HRow.out.mono ?_
                  rintro e w9 ⟨B, cb, SA9, sc9, rfl, h9, t9', s9⟩
                  have H9 := Lib.hid h9
                  have T9 := Lib.hid t9'
                  have SS9 := Lib.hid s9
                  clear h9 t9' s9 hz
                  go_wp2_with fail
                  go_ret
                  rw [HRr.out, HA.out, if_neg (by simp [HC.out])]
                  exact ⟨B, cb, SA9, sc9, rfl, H9.out, T9.out.down S9.out.fr.size, S9.out.trans SS9.out⟩
        | false =>
          have HX3 := Lib.hid hx
          rw [hx] at HI3
          go_wp2_with fail
          refine HI3.out.mono ?_
          clear HI3
          rintro e w15 ⟨rfl, hb15⟩
          have H15 := Lib.hid (H5.out.later hb15)
          have S15 := Lib.hid (S5.out.trans (RStep.below hb15))
          clear hb15
          clear hx
          have HI4 := Lib.hid (is_any H15.out.m sLk)
          unfold pk at HI4
          cases hx : isS L st.pos sLk with
          | true =>
            have HX4 := Lib.hid hx
            rw [hx] at HI4
            go_wp2_with fail
            refine HI4.out.mono ?_
            clear HI4
            rintro e w16 ⟨rfl, hb16⟩
            have H16 := Lib.hid (H15.out.later hb16)
            have S16 := Lib.hid (S15.out.trans (RStep.below hb16))
            clear hb16 hx
            have HD := Lib.hid (down_any H16.out.m lv H0.out)
            unfold pk at HD
            go_wp2_with fail
            refine HD.out.mono ?_
            clear HD
            rintro e w6 ⟨hb6, hd | hd⟩
            · obtain ⟨hd1, rfl⟩ := hd
              have hat : atomF L s0 W st = .bad st.pos 4 := by
                cases hw : W with
                | none =>
                  unfold atomF
                  rw [← HT.out, HNo.out]
                  simp [HX.out, HX2.out, HX3.out, HX4.out]
                | some W' => exact absurd (HY.out W' hw).1 (by omega)
              refine ⟨rfl, ?_⟩
              rw [HRr.out, hat]
              exact ⟨rfl, SA, S16.out.trans (RStep.below hb6)⟩
            · obtain ⟨hd1, rfl⟩ := hd
              cases hw : W with
              | none => exact absurd (HN.out hw) (by omega)
              | some W' =>
                have hlt := isS_lt HX4.out
                have h6 := H16.out.later hb6
                have H7 : Hid (RdO (w6.setCell ⟨rb, 1, none⟩ (.int .i64 ((st.pos : Int) + 1))) rb A c L s0 ⟨st.pos + 1, st.si⟩ SA sc) := Lib.hid (h6.put (st.pos + 1))
                have HYW := Lib.hid (HY.out W' hw).2
                have HWW := Lib.hid (HW.out W' hw)
                have S7 : RStep rb SA SA w16 (w6.setCell ⟨rb, 1, none⟩ (.int .i64 ((st.pos : Int) + 1))) := (RStep.below hb6).trans (RStep.own (Fr.setCell (X := fun k => k = rb) (Fr.refl _ _) (.inl rfl) _))
                have S9 := Lib.hid (S16.out.trans S7)
                have k1 := h6.m.r.at_
                have k2 := h6.m.r.fz
                have e1 : IntKind.i64.wrap ((st.pos : Int) + 1) = (st.pos : Int) + 1 := IntWalk.i64_in _ (by have := HL.out; omega)
                have hat : atomF L s0 W st = rowF L W' 7 2 sBar sRk (L.length + 1) [] ⟨st.pos + 1, st.si⟩ := by
                  unfold atomF
                  rw [← HT.out, HNo.out, hw]
                  simp [HX.out, HX2.out, HX3.out, HX4.out]
                have HA := Lib.hid hat
                have HLT := Lib.hid hlt
                have HRow := Lib.hid (row_any (r := rowF L W' 7 2 sBar sRk (L.length + 1) [] ⟨st.pos + 1, st.si⟩) H7.out HL.out (by have := HLT.out; exact this) (by have := HS.out; show st.si.length ≤ st.pos + 1; omega) HWW.out HYW.out 7 2 (.inr ⟨rfl, rfl⟩) sBar sRk rfl)
                unfold pk at HRow
                clear S7 hb6 h6 hlt hat hw
                go_wp2_with fail
                cases hz : rowF L W' 7 2 sBar sRk (L.length + 1) [] ⟨st.pos + 1, st.si⟩ with
                | bad p x =>
                  rw [hz] at HRow HA
                  refine HRow.out.mono ?_
                  rintro e w9 ⟨rfl, SA', hs'⟩
                  refine ⟨rfl, ?_⟩
                  rw [HRr.out, HA.out]
                  exact ⟨rfl, SA', S9.out.trans hs'⟩
                | ok t9 st9 =>
                  rw [hz] at HRow HA
                  refine HRow.out.mono ?_
                  rintro e w9 ⟨B, cb, SA9, sc9, rfl, h9, t9', s9⟩
                  have H9 := Lib.hid h9
                  have T9 := Lib.hid t9'
                  have SS9 := Lib.hid s9
                  clear h9 t9' s9 hz
                  go_wp2_with fail
                  go_ret
                  rw [HRr.out, HA.out]
                  exact ⟨B, cb, SA9, sc9, rfl, H9.out, T9.out.down S9.out.fr.size, S9.out.trans SS9.out⟩
          | false =>
            have HX4 := Lib.hid hx
            rw [hx] at HI4
            go_wp2_with fail
            refine HI4.out.mono ?_
            clear HI4
            rintro e w16 ⟨rfl, hb16⟩
            have H16 := Lib.hid (H15.out.later hb16)
            have S16 := Lib.hid (S15.out.trans (RStep.below hb16))
            clear hb16 hx
            have HFa := Lib.hid (fail_any H16.out.m 2)
            unfold pk at HFa
            go_wp2_with fail
            refine HFa.out.mono ?_
            rintro e w17 ⟨rfl, hb17⟩
            have hat : atomF L s0 W st = .bad st.pos 2 := by
              unfold atomF
              rw [← HT.out, HNo.out]
              simp [HX.out, HX2.out, HX3.out, HX4.out]
            refine ⟨rfl, ?_⟩
            rw [HRr.out, hat]
            exact ⟨rfl, SA, S16.out.trans (RStep.below hb17)⟩
end Go.Proofs.Ytblfeokjlecgkaa

/- Types that are read from tokens, walked: a type, at whatever level. -/
namespace Go.Proofs.Ytblfeokjlecgkaa

theorem reads_all {rb c : Nat} {A : Option Addr} {L : List Tk} {s0 : Int} (hL : L.length ≤ 100000) (hs0 : 0 ≤ s0) (hs1 : s0 ≤ 1000000) : ∀ d : Nat, d ≤ 100 → ReadsT rb A c L s0 (100 - (d : Int)) (wholeF L s0 d) := by
  intro d
  induction d with
  | zero =>
    intro _ st SA sc w h hp hs
    rw [wholeF_eq]
    have hn : downF L s0 0 = none → (100 : Int) ≤ 100 - ((0 : Nat) : Int) := fun _ => by omega
    have hy : ∀ W', downF L s0 0 = some W' → (100 - ((0 : Nat) : Int)) < 100 ∧ ReadsT rb A c L s0 (100 - ((0 : Nat) : Int) + 1) W' := fun W' e => by cases e
    exact whole_step h hL hp hs (by omega) (downF_good L s0 0) hn hy (atomF_good (downF_good L s0 0) st hp) (atom_any h hL hp hs (by omega) hs0 hs1 (downF_good L s0 0) hn hy rfl)
  | succ d ih =>
    intro hd st SA sc w h hp hs
    rw [wholeF_eq]
    have hn : downF L s0 (d + 1) = none → (100 : Int) ≤ 100 - ((d + 1 : Nat) : Int) := fun e => by cases e
    have hy : ∀ W', downF L s0 (d + 1) = some W' → (100 - ((d + 1 : Nat) : Int)) < 100 ∧ ReadsT rb A c L s0 (100 - ((d + 1 : Nat) : Int) + 1) W' := fun W' e => by
      cases e
      refine ⟨by omega, ?_⟩
      have e : (100 - ((d + 1 : Nat) : Int) + 1) = 100 - (d : Int) := by omega
      rw [e]
      exact ih (by omega)
    exact whole_step h hL hp hs (by omega) (downF_good L s0 (d + 1)) hn hy (atomF_good (downF_good L s0 (d + 1)) st hp) (atom_any h hL hp hs (by omega) hs0 hs1 (downF_good L s0 (d + 1)) hn hy rfl)
end Go.Proofs.Ytblfeokjlecgkaa
