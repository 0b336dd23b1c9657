/- TyParts's law, walked. -/
import Derived.Test.YtblfeokjlecgkaaDoorStP
import Derived.Test.YtblfeokjlecgkaaDoorPureT
import Derived.Test.YtblfeokjlecgkaaDoorTyNone
import Derived.Test.YtblfeokjlecgkaaDoorRRight
import Derived.Deep.RegionHeld3
namespace Go.Proofs.YtblfeokjlecgkaaDoor
open Go.RowKit

theorem TyA.atB {w : World} {B b o i : Nat} {T : List Nd} {y : Nd} (h : TyA w B (some ⟨b, o, none⟩) T) (hy : T[i]? = some y) :
    w.cell? ⟨b, o + i * 3, none⟩ = some (.int .i64 y.k) ∧ w.cell? ⟨b, o + i * 3 + 1, none⟩ = some (.string y.s) ∧ w.cell? ⟨b, o + i * 3 + 2, none⟩ = some (.int .i64 y.n) ∧ b < B := by
  obtain ⟨b', o', he, hb, h0, h1, h2⟩ := h.at_ hy
  simp only [Option.some.injEq, Addr.mk.injEq, and_true] at he
  obtain ⟨rfl, rfl⟩ := he
  exact ⟨h0, h1, h2, hb⟩

theorem StP.start {w w1 : World} {A0 K : Option Addr} {T : List Nd} {ck : Nat} {kl : List Int} (hb : Below w.heap.size w w1) (ht : TyA w w.heap.size A0 T) (htab : Tab w w.heap.size) (hk : OwnI w1 w.heap.size K ck kl) :
    StP w A0 T K ck kl (some ⟨w1.heap.size, 0, none⟩) 0 [] [] (some ⟨w1.heap.size + 1, 0, none⟩) 0 [] ((w1.alloc (.cells #[] 29)).alloc (.cells #[] 9)) := by
  have b1 := ext_alloc (Below.refl w1.heap.size w1) (.cells #[] 29)
  have b2 := ext_alloc (Below.refl (w1.alloc (.cells #[] 29)).heap.size _) (.cells #[] 9)
  have hz : (w1.alloc (.cells #[] 29)).heap.size = w1.heap.size + 1 := by simp
  have b12 : Below w1.heap.size w1 ((w1.alloc (.cells #[] 29)).alloc (.cells #[] 9)) := ext_trans b1 b2
  have ho := own_empty 9 1 encT (w1.alloc (.cells #[] 29))
  rw [hz] at ho
  refine ⟨ext_trans hb b12, (ht.below hb).below (b12.mono hb.size), (htab.below hb).below (b12.mono hb.size), hk.below b12 (Nat.le_refl _), ?_, ?_, ⟨rfl, fun i q xs hq => by simp at hq⟩, fun q hq => by simp at hq, ?_, ?_, ?_, fun q hq => by simp at hq, fun q hq => by simp at hq⟩
  · exact OwnL.alloc (OwnL.lower (own_empty 29 1 encS w1) hb.size) _
  · exact OwnL.lower ho (by have := hb.size; omega)
  · intro a b ha hb' e
    injection ha with ha
    injection hb' with hb'
    rw [← ha, ← hb'] at e
    simp at e
  · intro a b ha hb' e
    injection ha with ha
    have := (OwnL.lt hk b hb').2
    rw [← ha] at e
    simp at e
    omega
  · intro a b ha hb' e
    injection ha with ha
    have := (OwnL.lt hk b hb').2
    rw [← ha] at e
    simp at e
    omega

theorem kidsGo_whole {T : List Nd} {x : Nd} (d : Nat) (k : Int) (last : ByteArray) (i j : Nat) (h : kidsP (treeP T 99) T x d k last i = some j) : (kidsGo T d i).length = d := kidsGo_full d k last i j h

set_option maxRecDepth 100000 in
set_option maxHeartbeats 16000000 in
theorem parts_go (A : Option Addr) (ca : Nat) (T : List Nd) (w : World) (ta : TyA w w.heap.size A T) (hca : T.length ≤ ca) (la : T.length ≤ 9223372036854775807) (oa : ∀ x ∈ T, x.Ok) (ht : Tab w w.heap.size) (bp bs : Bool) (HNA : Hid (namedB T = true)) (HRA : Hid (rRightB T = true)) (HPL : Hid (plainB T = bp)) (HST : Hid (staticB T = bs)) :
    Calls Tryd.prog 8 #[.slice A T.length ca] w fun e w' => e = .returned (.bool true) ∧ Below w.heap.size w w' := by
  have Hsa := Lib.hid fun x hx => (oa x hx).s1
  obtain ⟨ia, la2, _, _⟩ := text_of HRA.out HNA.out oa
  have Hia := Lib.hid ia
  obtain ⟨x, hx, hxs, hxo, hxk⟩ := isT_node ia
  have hstart := PartsAt.start hx hxk
  have hm50 : manyN x ≤ 50 := manyN_le hxo
  have hGl := kidsGo_whole _ _ _ _ _ hxk
  obtain ⟨ks, hks⟩ : ∃ ks, T = x :: ks := ⟨T.drop 1, by have := drop_cons hx; simpa using this⟩
  have hfo : Fo (manyN x) ks := by
    have hf := ia.fo
    rw [hks] at hf
    obtain ⟨ks', rs, he, h1, h0⟩ := hf.uncons
    have := h0.of_zero
    subst this
    rw [List.append_nil] at he
    rw [he]; exact h1
  have hdk : T.drop (0 + 1) = ks ++ [] := by rw [hks]; simp
  have hokk : okAll ks := fun y hy => ia.ok y (by rw [hks]; simp [hy])
  have Hkc := Lib.hid (fun W (h : TyA W W.heap.size A T) => pKids_any A ca T ks [] x 0 W h (by omega) hx hxo hdk hokk hfo)
  obtain ⟨b1, o1, rfl, _, _, _, _⟩ := ta.at_ hx
  generalize hm : manyN x = m at *
  generalize hG : kidsGo T m 1 = G at *
  have Hx := Lib.hid hx
  have Hxs := Lib.hid hxs
  have Hxo := Lib.hid hxo
  have Hm := Lib.hid hm
  have Hstart := Lib.hid hstart
  have HG : Hid (G = [] ++ kidsGo T (m - 0) 1 ∧ ([] : List Nat).length = 0) := Lib.hid ⟨by rw [← hG]; rfl, rfl⟩
  have hT0 : 0 < T.length := getq_lt hx
  have M := Lib.hid (Mem.start (P := fun v => TyA v v.heap.size (some ⟨b1, o1, none⟩) T ∧ Tab v v.heap.size) ⟨ta, ht⟩ ((keep_ty _ T).and keep_tab))
  have Hta := Lib.hid ta
  have Htab := Lib.hid ht
  clear hks hfo hdk hokk hx hxs hxo hxk hstart hm hG oa ta ht ia
  go_enter Tryd.func8, Tryd.ntmps8
  go_wp2_with fail
  refine (named_any _ ca _ T _ M.out.p.1 la).mono ?_
  rintro e w' ⟨rfl, rfl⟩
  rw [HNA.out]
  go_wp2_with fail
  refine (rRight_any _ ca T _ M.out.p.1 la Hsa.out).mono ?_
  rintro e w1 ⟨rfl, hb⟩
  rw [HRA.out]
  replace M := Lib.hid (M.out.step hb)
  clear hb
  go_wp2_with fail
  have hk := Hkc.out _ M.out.p.1
  rw [Int.natCast_zero] at hk
  refine hk.mono ?_
  rintro e w2 ⟨K, ck, rfl, hown, hb⟩
  clear hk
  have S := Lib.hid (StP.start (M.out.step hb).ext Hta.out Htab.out (OwnL.lower hown M.out.ext.size))
  clear hown hb M Hkc
  rw [asI_len, hGl]
  go_wp2_with fail
  go_loopw [4, 5, 6, 7] (fun s4 s5 s6 s7 wr => ∃ (k at_ : Nat) (last : ByteArray) (ps : List (List Nd)) (ls : List ByteArray) (V : Option Addr) (cv : Nat) (vs : List (Option Addr × Nat × Nat)) (L : Option Addr) (cl : Nat) (pre : List Nat),
      s4 = .int .i64 at_ ∧ s5 = .slice V vs.length cv ∧ s6 = .slice L ls.length cl ∧ s7 = .int .i64 k ∧ k ≤ m ∧ vs.length ≤ 50 ∧ ls.length ≤ 50 ∧ Hid (StP w (some ⟨b1, o1, none⟩) T K ck (asI G) V cv vs ps L cl ls wr) ∧ Hid (PartsAt T x m k at_ last ps ls) ∧ Hid (G = pre ++ kidsGo T (m - k) at_ ∧ pre.length = k))
    (fun _ _ _ s7 _ => m - (intOf s7).toNat)
  case atStart => exact ⟨0, 1, _, [], [], _, _, [], _, _, [], rfl, rfl, rfl, rfl, Nat.zero_le _, by simp, by simp, S, Hstart, HG⟩
  case round =>
    clear S Hstart HG
    obtain ⟨k, at_, last, ps, ls, V, cv, vs, L, cl, pre, rfl, rfl, rfl, rfl, hkm, hv50, hl50, S, hparts, hpre⟩ := hrel
    by_cases hlt : k < m
    · obtain ⟨y, ts, rest, hy, hd, hf, hok, htree, hnext⟩ := hparts.out.step hlt
      obtain ⟨hal, hae⟩ := tree_end htree
      obtain ⟨d, hdd⟩ : ∃ d, m - k = d + 1 := ⟨m - k - 1, by omega⟩
      have hGk : G[k]? = some at_ := by
        have h1 := hpre.out.1
        rw [hdd, kidsGo_step hal] at h1
        rw [h1, List.getElem?_append_right (by rw [hpre.out.2]; exact Nat.le_refl _), hpre.out.2]
        simp
      have hpre' : Hid (G = (pre ++ [at_]) ++ kidsGo T (m - (k + 1)) (at_ + ts.length) ∧ (pre ++ [at_]).length = k + 1) := Lib.hid ⟨by
        have h1 := hpre.out.1
        rw [hdd, kidsGo_step hal, hae] at h1
        rw [h1, show m - (k + 1) = d by omega]; simp, by simp [hpre.out.2]⟩
      have Hnext := Lib.hid hnext
      have hvk : vs.length = k := by rw [S.out.s.1]; exact hparts.out.pl
      have hlk : ls.length = k := hparts.out.ll
      have hv49 : vs.length ≤ 49 := by omega
      have hl49 : ls.length ≤ 49 := by omega
      have hkl : k < G.length := getq_lt hGk
      obtain ⟨bk, ok, hke, hkb, kc⟩ := ReadL.int (OwnL.read encI_len S.out.k) (asI_get hGk)
      subst hke
      obtain ⟨c10, c11, c12, hb1⟩ := (S.out.t.more S.out.ext.size).atB hy
      have hPc := Lib.hid (part_any (some ⟨b1, o1, none⟩) ca T ts rest at_ wr (S.out.t.more S.out.ext.size) (by omega) hca hd hok hf)
      have hEc := Lib.hid (fun W (h : TyA W W.heap.size (some ⟨b1, o1, none⟩) T) => pEnd_any (some ⟨b1, o1, none⟩) ca T ts rest at_ W h (by omega) hd hok hf)
      have HP1 : Hid (y.k ≠ 9 → rRightB (bareN ts) = true) := Lib.hid fun h9 => by rw [right_eq]; exact part_right Hia.out.len hy h9 htree hd
      have HP2 : Hid (plainB T = true → plainB (bareN ts) = true) := Lib.hid fun h => part_plain h hd
      have HP3 : Hid (staticB T = true → staticB (bareN ts) = true) := Lib.hid fun h => part_static h hd
      have hPs : Hid (∀ z ∈ bareN ts, z.s.size ≤ 9223372036854775807) := Lib.hid fun z hz => by
        have hsub : ∀ z ∈ ts, z.s.size ≤ 9223372036854775807 := fun z hz => Hsa.out z (List.mem_of_mem_drop (i := at_) (by rw [hd]; simp [hz]))
        cases ts with
        | nil => simp [bareN] at hz
        | cons q qs =>
          rcases List.mem_cons.1 hz with rfl | hz
          · simp [Nd.name]
          · exact hsub z (by simp [hz])
      have hP0 : 0 < (bareN ts).length := by rw [bareN_length]; exact hf.pos
      have hPl : (bareN ts).length ≤ 200 := by
        rw [bareN_length]
        have := congrArg List.length hd
        rw [List.length_drop, List.length_append] at this
        omega
      have hP0b : (((bareN ts).length : Int) == 0) = false := by rw [beq_eq_false_iff_ne]; omega
      have hats : at_ + ts.length ≤ 200 := by
        have := congrArg List.length hd
        rw [List.length_drop, List.length_append] at this
        omega
      generalize hP : bareN ts = P at *
      have Hy := Lib.hid hy
      have hali : ¬ (T.length : Int) ≤ (at_ : Int) := by omega
      have halb : decide ((T.length : Int) ≤ (at_ : Int)) = false := by simp; omega
      clear hd hf hok htree hnext hae hdd hpre hGk hP hy hvk hlk hparts
      obtain ⟨e, he⟩ : ∃ e, e = at_ + ts.length := ⟨_, rfl⟩
      rw [← he] at hats
      have He := Lib.hid he
      clear he
      cases h9 : (y.k != 9)
      all_goals
        have H9 := Lib.hid h9
        cases bp
        all_goals
          cases bs
          all_goals
            go_wp2_with fail
            refine hPc.out.mono ?_
            rintro e1 w1 ⟨Aq, cq, rfl, hown, hb⟩
            have Q := Lib.hid (S.out.part hown)
            replace S := Lib.hid (S.out.step hb)
            clear hb hown kc hkb c10 c11 c12 hb1
            obtain ⟨c10, c11, c12, hb1⟩ := (S.out.t.more S.out.ext.size).atB Hy.out
            go_wp2_with fail
            first
              | (have hr := HP1.out (by simpa using H9.out)
                 refine (rRight_any Aq cq P _ Q.out.t (by omega) hPs.out).mono ?_
                 rintro e1 w2 ⟨rfl, hb⟩
                 rw [hr]
                 clear hr
                 replace Q := Lib.hid (Q.out.step hb)
                 replace S := Lib.hid (S.out.step hb)
                 clear hb c10 c11 c12 hb1
                 go_wp2_with fail)
              | clear c10 c11 c12 hb1
            refine (plain_any (some ⟨b1, o1, none⟩) ca T _ (S.out.t.more S.out.ext.size) la).mono ?_
            rintro e1 w3 ⟨rfl, hb⟩
            rw [HPL.out]
            replace Q := Lib.hid (Q.out.step hb)
            replace S := Lib.hid (S.out.step hb)
            clear hb
            go_wp2_with fail
            first
              | (have hr := HP2.out HPL.out
                 refine (plain_any Aq cq P _ Q.out.t (by omega)).mono ?_
                 rintro e1 w4 ⟨rfl, hb⟩
                 rw [hr]
                 clear hr
                 replace Q := Lib.hid (Q.out.step hb)
                 replace S := Lib.hid (S.out.step hb)
                 clear hb
                 go_wp2_with fail)
              | skip
            refine (static_any (some ⟨b1, o1, none⟩) ca T _ (S.out.t.more S.out.ext.size) la).mono ?_
            rintro e1 w5 ⟨rfl, hb⟩
            rw [HST.out]
            replace Q := Lib.hid (Q.out.step hb)
            replace S := Lib.hid (S.out.step hb)
            clear hb
            first
              | (have hr := HP3.out HST.out
                 go_wp2_with fail
                 refine (static_any Aq cq P _ Q.out.t (by omega)).mono ?_
                 rintro e1 w6 ⟨rfl, hb⟩
                 rw [hr]
                 clear hr
                 replace Q := Lib.hid (Q.out.step hb)
                 replace S := Lib.hid (S.out.step hb)
                 clear hb)
              | skip
            go_wp2_with (first
              | (at_builtin; refine wpList_appS rfl (.tmp 82) (.tmp 84) rfl w.heap.size (l := vs) rfl (OwnL.alloc S.out.v _) (l2 := [(Aq, P.length, cq)]) rfl (readS_new _ (Aq, P.length, cq)) (by simp; omega) (by have := S.out.ext.size; simp; omega) ?_; intro V2 cv2 w8 hown8 hg8 hA8; replace S := Lib.hid (StP.appV (S.out.step (ext_alloc (Below.refl _ _) _)) (Q.out.step (ext_alloc (Below.refl _ _) _)) hg8 hown8 hA8); clear Q hown8 hg8 hA8; obtain ⟨c10, c11, c12, hb1⟩ := (S.out.t.more S.out.ext.size).atB Hy.out)
              | (at_builtin; refine wpList_appT rfl (.tmp 86) (.tmp 92) rfl w.heap.size (l := ls) rfl (OwnL.alloc S.out.l _) (l2 := [y.s]) rfl (readT_new _ y.s) (by simp; omega) (by have := S.out.ext.size; simp; omega) ?_; intro L2 cl2 w9 hown9 hg9 hA9; replace S := Lib.hid (StP.appL (S.out.step (ext_alloc (Below.refl _ _) _)) hg9 hown9 hA9); clear c10 c11 c12 hb1 hown9 hg9 hA9))
            refine (hEc.out _ (S.out.t.more S.out.ext.size)).mono ?_
            rintro e1 w10 ⟨rfl, hb⟩
            rw [← He.out]
            replace S := Lib.hid (S.out.step hb)
            clear hb
            go_wp2_with fail
            go_roundw
            case rel => exact ⟨k + 1, e, y.s, ps ++ [P], ls ++ [y.s], _, _, vs ++ [(Aq, P.length, cq)], _, _, pre ++ [at_], rfl, by simp, by simp, by go_num, hlt, by simp; omega, by simp; omega, S, by rw [He.out]; exact Hnext, by rw [He.out]; exact hpre'⟩
            case measure => simp [intOf]; omega
    · have hkk : k = m := by omega
      have Hpm : Hid (PartsAt T x (manyN x) (manyN x) at_ last ps ls) := Lib.hid (by rw [Hm.out]; have := hparts.out; rw [hkk] at this; exact this)
      have hend := Hpm.out.end_.1
      have hatT : ((at_ : Int) != (T.length : Int)) = false := by rw [hend]; simp
      have Hne : Hid (∀ p ∈ ps, p ≠ [] ∧ p.length ≤ 100000) := Lib.hid fun p hp => ⟨(hparts.out.parts p hp).1, by have := (hparts.out.parts p hp).2.1; omega⟩
      have Hpl : Hid (∀ p ∈ ps, p.length ≤ 200) := Lib.hid fun p hp => by have := (hparts.out.parts p hp).2.1; omega
      clear hpre hkk hend
      go_wp2_with fail
      refine (right_any (some ⟨b1, o1, none⟩) ca T _ (S.out.t.more S.out.ext.size) la Hsa.out).mono ?_
      rintro e1 w1 ⟨rfl, hb⟩
      rw [Hia.out.right]
      replace S := Lib.hid (S.out.step hb)
      clear hb
      obtain ⟨c10, c11, c12, hb1⟩ := (S.out.t.more S.out.ext.size).atB Hx.out
      simp only [Nat.zero_mul, Nat.add_zero] at c10 c11 c12
      cases h5 : (x.k == 5)
      · have H5 := Lib.hid h5
        go_wp2_with fail
        refine (plain_any (some ⟨b1, o1, none⟩) ca T _ (S.out.t.more S.out.ext.size) la).mono ?_
        rintro e1 w2 ⟨rfl, hb⟩
        rw [HPL.out]
        replace S := Lib.hid (S.out.step hb)
        clear hb c10 c11 c12 hb1
        obtain ⟨c10, c11, c12, hb1⟩ := (S.out.t.more S.out.ext.size).atB Hx.out
        simp only [Nat.zero_mul, Nat.add_zero] at c10 c11 c12
        cases bp
        · go_wp2_with fail
          refine (alive_any _ (S.out.tab.more S.out.ext.size)).mono ?_
          rintro e w9 ⟨rfl, hb⟩
          replace S := Lib.hid (S.out.step hb)
          clear hb
          go_wp2_with fail
          go_ret
          exact ⟨rfl, S.out.ext⟩
        · cases hr : isRowB x.k
          · have h6 : (x.k != 6) = true := by simp only [isRowB, Bool.or_eq_false_iff] at hr; simpa using hr.1
            have h7 : (x.k != 7) = true := by simp only [isRowB, Bool.or_eq_false_iff] at hr; simpa using hr.2
            clear hr
            go_wp2_with fail
            refine (alive_any _ (S.out.tab.more S.out.ext.size)).mono ?_
            rintro e w9 ⟨rfl, hb⟩
            replace S := Lib.hid (S.out.step hb)
            clear hb
            go_wp2_with fail
            go_ret
            exact ⟨rfl, S.out.ext⟩
          · obtain ⟨hbad, hnd, hrow⟩ := Hpm.out.row hr HPL.out Hxs.out Hxo.out
            have Hbad := Lib.hid hbad
            have Hnd := Lib.hid hnd
            have Hrow := Lib.hid hrow
            have h67 : ((x.k != 6) = false) ∨ ((x.k != 6) = true ∧ (x.k != 7) = false) := by
              have : x.k = 6 ∨ x.k = 7 := by simpa [isRowB] using hr
              rcases this with h | h
              · exact .inl (by rw [h]; rfl)
              · exact .inr ⟨by rw [h]; rfl, by rw [h]; rfl⟩
            clear hbad hnd hrow hr
            rcases h67 with h6 | ⟨h6, h7⟩
            all_goals
              go_wp2_with fail
              refine (row_any L V cl cv x.k ls vs ps _ (OwnL.read encT_len S.out.l) (OwnL.read encS_len S.out.v) S.out.s Hne.out (by omega)).mono ?_
              rintro e1 w3 ⟨hb, ⟨hbad, _⟩ | ⟨_, hnd, _⟩ | ⟨_, os, Ar, car, hperm, hpw, rfl, hown⟩⟩
              · exact absurd (Hbad.out.symm.trans hbad) (by decide)
              · exact absurd Hnd.out hnd
              rw [Hrow.out os hperm hpw] at hown ⊢
              replace S := Lib.hid (S.out.step hb)
              have R := Lib.hid (OwnL.tyA hown)
              clear hb hown hperm hpw c10 c11 c12 hb1
              go_wp2_with fail
              refine (alive_any _ (S.out.tab.more S.out.ext.size)).mono ?_
              rintro e1 w4 ⟨rfl, hb⟩
              replace S := Lib.hid (S.out.step hb)
              replace R := Lib.hid ((R.out.below hb).more hb.size)
              clear hb
              go_wp2_with fail
              refine (one_any Ar (some ⟨b1, o1, none⟩) car ca _ _ T T _ R.out (S.out.t.more S.out.ext.size) la).mono ?_
              rintro e1 w5 ⟨rfl, n5, rfl⟩
              rw [show decide (T = T) = true from decide_eq_true rfl]
              replace S := Lib.hid (S.out.step (ext_drewN (Below.refl _ _) n5))
              go_wp2_with fail
              go_ret
              exact ⟨rfl, S.out.ext⟩
      · obtain ⟨p0, p1, hps, hT⟩ := Hpm.out.arrow (by simpa using h5) Hxs.out Hxo.out
        subst hps
        have hv2 : vs.length = 2 := S.out.s.1
        obtain ⟨v0, v1, hvv⟩ : ∃ v0 v1, vs = [v0, v1] := by
          match vs, hv2 with
          | [v0, v1], _ => exact ⟨v0, v1, rfl⟩
        subst hvv
        have hl0 := (S.out.s.2 0 v0 p0 rfl rfl).1
        have hl1 := (S.out.s.2 1 v1 p1 rfl rfl).1
        have hn0 := Hpl.out p0 (by simp)
        have hn1 := Hpl.out p1 (by simp)
        have HT := Lib.hid hT
        obtain ⟨vb, vo, rfl, hvb, hvc⟩ := ReadL.slice (OwnL.read encS_len S.out.v) (i := 0) rfl
        have SS : Hid (∀ v, StP w (some ⟨b1, o1, none⟩) T K ck (asI G) (some ⟨vb, vo, none⟩) cv [v0, v1] [p0, p1] L cl ls v → v.cell? ⟨vb, vo, none⟩ = some (.slice v0.1 p0.length v0.2.2) ∧ v.cell? ⟨vb, vo + 1, none⟩ = some (.slice v1.1 p1.length v1.2.2) ∧ StP w (some ⟨b1, o1, none⟩) T K ck (asI G) (some ⟨vb, vo, none⟩) cv [v0, v1] [p0, p1] L cl ls v) := Lib.hid fun v h => by
          obtain ⟨_, _, e0, _, k0⟩ := ReadL.slice (OwnL.read encS_len h.v) (i := 0) rfl
          obtain ⟨_, _, e1, _, k1⟩ := ReadL.slice (OwnL.read encS_len h.v) (i := 1) rfl
          simp only [Option.some.injEq, Addr.mk.injEq, and_true] at e0 e1
          obtain ⟨rfl, rfl⟩ := e0
          obtain ⟨rfl, rfl⟩ := e1
          rw [hl0, Nat.add_zero] at k0
          rw [hl1] at k1
          exact ⟨k0, k1, h⟩
        clear hl0 hl1 hvc hvb hT
        go_wp2_with fail
        clear c10 c11 c12 hb1
        go_region_held3 (fun v => v.cell? ⟨vb, vo, none⟩ = some (.slice v0.1 p0.length v0.2.2) ∧ v.cell? ⟨vb, vo + 1, none⟩ = some (.slice v1.1 p1.length v1.2.2) ∧ StP w (some ⟨b1, o1, none⟩) T K ck (asI G) (some ⟨vb, vo, none⟩) cv [v0, v1] [p0, p1] L cl ls v)
          (first
            | exact SS.out _ (StP.step S.out (Below.refl _ _).drew)
            | exact SS.out _ G5.out
            | exact SS.out _ (StP.step G5.out hbp)
            | exact SS.out _ (StP.step (StP.step G5.out hbp) hbo))
          (first
            | (go_at_call 10; refine (alive_any _ ((StP.step S.out (Below.refl _ _).drew).tab.more (StP.step S.out (Below.refl _ _).drew).ext.size)).mono ?_; rintro e1 w5 ⟨rfl, hb5⟩; have G5 := Lib.hid (StP.step (StP.step S.out (Below.refl _ _).drew) hb5))
            | (go_at_call 16; refine (pArrow_any v0.1 v1.1 v0.2.2 v1.2.2 p0 p1 _ (G5.out.s.2 0 v0 p0 rfl rfl).2 (G5.out.s.2 1 v1 p1 rfl rfl).2 (by omega)).mono ?_; rintro e1 wp ⟨Ap, cp, rfl, hop, hbp⟩)
            | (go_at_call 15; refine (one_any Ap (some ⟨b1, o1, none⟩) cp ca _ _ (arrowN p0 p1) T _ (OwnL.tyA hop) ((StP.step G5.out hbp).t.more (StP.step G5.out hbp).ext.size) (by simp [arrowN]; omega)).mono ?_; rintro e1 wo ⟨rfl, no, rfl⟩; rw [show decide (arrowN p0 p1 = T) = true from decide_eq_true HT.out]; have hbo := ext_drewN (Below.refl _ wp) no))
        all_goals
          go_wp2_with fail
          go_ret
          exact ⟨rfl, (StP.step (StP.step G5.out hbp) hbo).ext⟩

set_option maxRecDepth 100000 in
set_option maxHeartbeats 1000000 in
theorem tyParts_law (A : Option Addr) (ca : Nat) (T : List Nd) (w : World) (ta : TyA w w.heap.size A T) (hca : T.length ≤ ca) (la : T.length ≤ 9223372036854775807) (oa : ∀ x ∈ T, x.Ok) (ht : Tab w w.heap.size) :
    Calls Tryd.prog 8 #[.slice A T.length ca] w fun e w' => e = .returned (.bool true) ∧ Below w.heap.size w w' := by
  cases hn : namedB T
  · have HN := Lib.hid hn
    clear hn
    go_enter Tryd.func8, Tryd.ntmps8
    go_wp2_with fail
    refine (named_any A ca _ T _ ta la).mono ?_
    rintro e w' ⟨rfl, rfl⟩
    rw [HN.out]
    go_wp2_with fail
    refine (alive_any _ ht).mono ?_
    rintro e w9 ⟨rfl, hb⟩
    go_wp2_with fail
    go_ret
    exact ⟨rfl, hb⟩
  · cases hr : rRightB T
    · have HN := Lib.hid hn
      have HR := Lib.hid hr
      have Hsa := Lib.hid fun x hx => (oa x hx).s1
      clear hn hr oa
      go_enter Tryd.func8, Tryd.ntmps8
      go_wp2_with fail
      refine (named_any A ca _ T _ ta la).mono ?_
      rintro e w' ⟨rfl, rfl⟩
      rw [HN.out]
      go_wp2_with fail
      refine (rRight_any A ca T _ ta la Hsa.out).mono ?_
      rintro e w1 ⟨rfl, hb⟩
      rw [HR.out]
      go_wp2_with fail
      refine (alive_any _ ((ht.below hb).more hb.size)).mono ?_
      rintro e w9 ⟨rfl, hb9⟩
      go_wp2_with fail
      go_ret
      exact ⟨rfl, ext_trans hb hb9⟩
    · exact parts_go A ca T w ta hca la oa ht (plainB T) (staticB T) (Lib.hid hn) (Lib.hid hr) (Lib.hid rfl) (Lib.hid rfl)
end Go.Proofs.YtblfeokjlecgkaaDoor
