/- TermCanon, walked. -/
import Derived.Test.YtblfeokjlecgkaaCanonW
import Derived.Test.YtblfeokjlecgkaaAlive12
namespace Go.Proofs.Ytblfeokjlecgkaa
open Go.RowKit

theorem Sls.moreB {w w' : World} {vs : List (Option Addr × Nat × Nat)} {tss : List (List Nd)} {B : Nat} (h : Sls w B vs tss) (hb : Below B w w') (hB : B ≤ w'.heap.size) : Sls w' w'.heap.size vs tss := ⟨h.1, fun i v xs hv hx => ⟨(h.2 i v xs hv hx).1, ((h.2 i v xs hv hx).2.below hb).more hB⟩⟩

theorem keep_sls (vs : List (Option Addr × Nat × Nat)) (tss : List (List Nd)) : Keep fun w => Sls w w.heap.size vs tss := fun _ _ h hb => h.moreB hb hb.size

/-- A row of types, as it lies. -/
def RowS (V : Option Addr) (vs : List (Option Addr × Nat × Nat)) (tss : List (List Nd)) (w : World) : Prop := ReadS w w.heap.size V vs ∧ Sls w w.heap.size vs tss
theorem keep_rowS (V : Option Addr) (vs : List (Option Addr × Nat × Nat)) (tss : List (List Nd)) : Keep (RowS V vs tss) := (keep_read _ _ _ _).and (keep_sls _ _)

theorem fews_parts {xss : List (List Nd)} (h : fewsB xss = true) : xss.length ≤ 10 ∧ ∀ xs ∈ xss, xs.length ≤ 60 ∧ xs ≠ [] := by
  unfold fewsB at h
  simp only [Bool.and_eq_true, decide_eq_true_eq, List.all_eq_true] at h
  refine ⟨h.1, fun xs hx => ?_⟩
  have h2 := h.2 xs hx
  unfold few60 at h2
  obtain ⟨h1, _, h3⟩ := fewB_parts h2
  have h4 : rightB xs = true := by rw [← right_eq]; exact h3
  exact ⟨by omega, (isT_of h4).ne⟩

theorem rowS_get {b o k n : Nat} {vs : List (Option Addr × Nat × Nat)} {tss : List (List Nd)} {w : World} {A : Option Addr} {m c : Nat} {xs : List Nd} (h : RowS (some ⟨b, o, none⟩) vs tss w) (hv : vs[k]? = some (A, m, c)) (hx : tss[k]? = some xs) (hn : xs.length = n) : b < w.heap.size ∧ w.cell? ⟨b, o + k, none⟩ = some (.slice A n c) ∧ TyA w w.heap.size A xs := by
  obtain ⟨b2, o2, hA, hb, hc⟩ := ReadL.slice h.1 hv
  injection hA with hA
  injection hA with e1 e2 _
  subst e1 e2
  obtain ⟨h1, h2⟩ := h.2.2 k _ xs hv hx
  refine ⟨hb, ?_, h2⟩
  rw [hc, ← hn, ← h1]

def I64 (n : Int) : Prop := -9223372036854775808 ≤ n ∧ n ≤ 9223372036854775807

theorem canL_ok : ∀ (had : List Int) (xs : List Nd), (∀ x ∈ xs, I64 x.n) → had.length + xs.length ≤ 1000000 → ∀ y ∈ canL had xs, I64 y.n
  | _, [], _, _, y, hy => by simp [canL] at hy
  | had, x :: xs, h, hl, y, hy => by
    have h1 := seen_len had x
    simp only [List.length_cons] at hl
    rcases List.mem_cons.1 hy with rfl | hy
    · cases hv : isVarB x.k
      · rw [(can_no hv).1]; exact h x (by simp)
      · have hn := can_next (had := had) hv
        unfold I64
        omega
    · exact canL_ok (seen had x) xs (fun z hz => h z (by simp [hz])) (by split at h1 <;> omega) y hy

theorem canT_ok {m : Nat} : ∀ (had : List Int) (l : List (List Nd)), (∀ xs ∈ l, xs.length ≤ m ∧ ∀ x ∈ xs, I64 x.n) → had.length + l.length * m ≤ 1000000 → ∀ t ∈ canT had l, ∀ y ∈ t, I64 y.n
  | _, [], _, _, t, ht => by simp [canT] at ht
  | had, x :: l, h, hl, t, ht => by
    obtain ⟨h1, h2⟩ := h x (by simp)
    have h3 := seenL_le had x
    simp only [List.length_cons, Nat.succ_mul] at hl
    rcases List.mem_cons.1 ht with rfl | ht
    · exact canL_ok had x h2 (by omega)
    · exact canT_ok (seenL had x) l (fun z hz => h z (by simp [hz])) (by omega) t ht

theorem canT_lens {m : Nat} {l : List (List Nd)} (h : ∀ xs ∈ l, xs.length ≤ m ∧ xs ≠ []) : ∀ had, ∀ t ∈ canT had l, t.length ≤ m ∧ t ≠ [] := by
  induction l with
  | nil => intro had t ht; simp [canT] at ht
  | cons x l ih =>
    intro had t ht
    rcases List.mem_cons.1 ht with rfl | ht
    · obtain ⟨h1, h2⟩ := h x (by simp)
      refine ⟨by rw [canL_len]; exact h1, fun e => h2 ?_⟩
      have := congrArg List.length e
      rw [canL_len] at this
      exact List.eq_nil_of_length_eq_zero this
    · exact ih (fun z hz => h z (by simp [hz])) (seenL had x) t ht

def small (xs : List Nd) : Prop := ∀ x ∈ xs, isVarB x.k = true → x.n ≤ 1000000000

theorem small_snoc {xs : List Nd} {j : Nat} {x : Nd} (h : xs[j]? = some x) (hs : small (xs.take j)) (hx : isVarB x.k = true → x.n ≤ 1000000000) : small (xs.take (j + 1)) := fun y hy => by
  rw [List.take_add_one, h] at hy
  rcases List.mem_append.1 hy with hy | hy
  · exact hs y hy
  · simp at hy; subst hy; exact hx

theorem smalls_snoc {xss : List (List Nd)} {k : Nat} {xs : List Nd} (h : xss[k]? = some xs) (hs : ∀ ys ∈ xss.take k, small ys) (hx : small xs) : ∀ ys ∈ xss.take (k + 1), small ys := fun y hy => by
  rw [List.take_add_one, h] at hy
  rcases List.mem_append.1 hy with hy | hy
  · exact hs y hy
  · simp at hy; subst hy; exact hx

theorem mov_snoc {xss : List (List Nd)} {k : Nat} {xs : List Nd} (n : Int) (h : xss[k]? = some xs) : (xss.take (k + 1)).map (List.map (movNd n)) = (xss.take k).map (List.map (movNd n)) ++ [xs.map (movNd n)] := by
  rw [List.take_add_one, h, List.map_append]
  rfl

theorem mov_ok {n : Int} (h0 : 0 ≤ n) (h1 : n ≤ 1000000) {xs : List Nd} (hs : small xs) (h : ∀ x ∈ xs, I64 x.n) : ∀ y ∈ xs.map (movNd n), I64 y.n := fun y hy => by
  obtain ⟨x, hx, rfl⟩ := List.mem_map.1 hy
  have h2 := h x hx
  cases hv : isVarB x.k
  · rw [mov_no hv]; exact h2
  · have h3 := hs x hx hv
    rw [mov_yes hv]
    unfold I64 at h2 ⊢
    show -9223372036854775808 ≤ x.n + n ∧ x.n + n ≤ 9223372036854775807
    omega

set_option maxRecDepth 100000 in
set_option maxHeartbeats 8000000 in
theorem termCanon_law (V : Option Addr) (cv : Nat) (vs : List (Option Addr × Nat × Nat)) (xss : List (List Nd)) (n : Int) (W : World) (hr : ReadS W W.heap.size V vs) (hS : Sls W W.heap.size vs xss)
    (hl : vs.length ≤ 9223372036854775807) (hok : ∀ xs ∈ xss, xs.length ≤ 9223372036854775807 ∧ ∀ x ∈ xs, x.Ok) :
    Calls Try.prog 14 #[.slice V vs.length cv, .int .i64 n] W fun e w' => e = .returned (.bool true) ∧ Below W.heap.size W w' := by
  have Hlx := Lib.hid hS.1
  have hfw := Lib.hid (few_any V cv vs xss W hr hS hl (fun xs hx => ⟨(hok xs hx).1, fun x hy => ((hok xs hx).2 x hy).s1⟩))
  have Hr := Lib.hid (And.intro hr hS)
  have Hok := Lib.hid (fun xs hx x hy => (⟨((hok xs hx).2 x hy).n0, ((hok xs hx).2 x hy).n1⟩ : I64 x.n))
  clear hr hS hok
  go_enter Try.func14, Try.ntmps14
  go_wp2_with fail
  refine hfw.out.mono ?_
  rintro e w1 ⟨rfl, hb⟩
  have B1 := Lib.hid hb
  clear hb hfw
  cases hf : fewsB xss
  · have HF := Lib.hid hf
    clear hf
    go_wp2_with fail
    refine (alive_any _).mono ?_
    rintro e w2 ⟨rfl, hb⟩
    go_wp2_with fail
    go_ret
    exact ⟨rfl, ext_trans B1.out hb⟩
  · have HF := Lib.hid (fews_parts hf)
    have hv10 : vs.length ≤ 10 := by have := HF.out.1; have := Hlx.out; omega
    clear hf hl
    by_cases hn0 : n < 0
    · go_wp2_with fail
      refine (alive_any _).mono ?_
      rintro e w2 ⟨rfl, hb⟩
      go_wp2_with fail
      go_ret
      exact ⟨rfl, ext_trans B1.out hb⟩
    · by_cases hn1 : 1000000 < n
      · go_wp2_with fail
        refine (alive_any _).mono ?_
        rintro e w2 ⟨rfl, hb⟩
        go_wp2_with fail
        go_ret
        exact ⟨rfl, ext_trans B1.out hb⟩
      · have hn64 : n ≤ 1000000 := by omega
        have hn00 : 0 ≤ n := by omega
        go_wp2_with fail
        go_loopw [5, 6] (fun s5 s6 wr => ∃ (k : Nat) (Vm : Option Addr) (cm : Nat) (vm : List (Option Addr × Nat × Nat)), s5 = .slice Vm vm.length cm ∧ s6 = .int .i64 k ∧ k ≤ vs.length ∧ Hid (vm.length = k) ∧
            Hid (RowM W Vm cm vm ((xss.take k).map (List.map (movNd n))) none 0 [] wr) ∧ Hid (∀ ys ∈ xss.take k, small ys)) (fun _ s6 _ => vs.length - (intOf s6).toNat)
        case atStart => exact ⟨0, some ⟨w1.heap.size, 0, none⟩, 0, [], rfl, rfl, Nat.zero_le _, Lib.hid rfl, Lib.hid (RowM.start W _ 0 (OwnL.lower (own_empty 34 1 encS w1) B1.out.size) (ext_alloc B1.out _)), Lib.hid (fun ys hy => by simp at hy)⟩
        case round =>
          clear hn0 hn1
          obtain ⟨k, Vm, cm, vm, rfl, rfl, hk, hvk, M, SM⟩ := hrel
          by_cases hp : k < vs.length
          · obtain ⟨v, hv⟩ := getq_ex hp
            obtain ⟨xs, hxs⟩ := getq_ex (show k < xss.length by rw [← Hlx.out]; exact hp)
            have hmem := List.mem_of_getElem? hxs
            obtain ⟨b, o, rfl, hb, hc⟩ := ReadL.slice (ReadL.more (ReadL.below Hr.out.1 M.out.bel) M.out.bel.size) hv
            obtain ⟨hvl, hT⟩ := Hr.out.2.2 k v xs hv hxs
            rw [hvl] at hc
            have hxl := (HF.out.2 xs hmem).1
            obtain ⟨x0, hx0⟩ := getq_ex (show 0 < xs.length by have := (HF.out.2 xs hmem).2; cases xs with | nil => exact absurd rfl this | cons => simp)
            have Hx0 := Lib.hid hx0
            have Hxs := Lib.hid hxs
            have Hokx := Lib.hid (Hok.out xs hmem)
            have HT := Lib.hid (hT.below M.out.bel)
            have hown0 := Lib.hid (own_empty 48 3 encN wr)
            have hb0 := Lib.hid (ext_alloc (Below.refl wr.heap.size wr) (.cells #[] 48))
            have hWl := M.out.bel.size
            clear hv hxs hmem hT hvl hx0
            go_wp2_with (at_builtin; refine wpList_appN rfl (.tmp 33) (.tmp 37) rfl wr.heap.size (l := []) rfl hown0.out (l2 := xs) rfl (HT.out.below (hb0.out.mono hWl)) (by simp; omega) (by simp) ?_; intro A2 cap2 w3 hown3 hg3 _)
            rw [List.nil_append] at hown3
            have hb3 := ext_app hb0.out hg3 (fun q hq => (OwnL.block hown0.out q hq).1)
            obtain ⟨g, rfl, _, _, _, _, _, _⟩ := OwnL.setM hown3 Hx0.out 0
            have M1 := Lib.hid (M.out.fresh hown3 hb3)
            clear hown3 hg3 hb3 hown0 hb0 M hb hc HT hWl
            go_loopw [8] (fun s8 wi => ∃ j : Nat, s8 = .int .i64 j ∧ j ≤ xs.length ∧ Hid (RowM W Vm cm vm ((xss.take k).map (List.map (movNd n))) (some ⟨g, 0, none⟩) cap2 (movTo n xs j) wi) ∧ Hid (small (xs.take j))) (fun s8 _ => xs.length - (intOf s8).toNat)
            case atStart => exact ⟨0, rfl, Nat.zero_le _, Lib.hid (by rw [movTo_zero]; exact M1.out), Lib.hid (fun y hy => by simp at hy)⟩
            case round =>
              clear M1
              obtain ⟨j, rfl, hj, M, SX⟩ := hrel
              by_cases hpj : j < xs.length
              · obtain ⟨x, hx⟩ := getq_ex hpj
                have hxj := movTo_at (n := n) hx
                obtain ⟨b1, o1, hA, hb1, c10, c11, c12⟩ := (OwnL.tyA M.out.cur).at_ hxj
                injection hA with hA
                injection hA with e1 e2 _
                subst e1 e2
                rw [Nat.zero_add] at c10 c11 c12
                have Hx := Lib.hid hx
                have Hxj := Lib.hid hxj
                obtain ⟨_, _, s3, _⟩ := M.out.store hxj (x.n + n)
                have hxr := Hokx.out x (List.mem_of_getElem? hx)
                unfold I64 at hxr
                clear hx hxj
                cases h8 : (x.k == 8)
                · cases h9 : (x.k == 9)
                  · have HV : Hid (isVarB x.k = false) := Lib.hid (by unfold isVarB; rw [h8, h9]; rfl)
                    go_wp2_with fail
                    go_roundw
                    case rel => exact ⟨j + 1, by go_num, hpj, Lib.hid (by rw [movTo_step Hx.out, mov_no HV.out, set_self Hxj.out]; exact M.out), Lib.hid (small_snoc Hx.out SX.out (fun h => by rw [HV.out] at h; cases h))⟩
                    case measure => simp [intOf]; omega
                  · have HV : Hid (isVarB x.k = true) := Lib.hid (by unfold isVarB; rw [h8, h9]; rfl)
                    by_cases hbig : 1000000000 < x.n
                    · go_wp2_with fail
                      refine (alive_any _).mono ?_
                      rintro e w2 ⟨rfl, hb⟩
                      go_wp2_with fail
                      go_ret
                      exact ⟨rfl, ext_trans M.out.bel hb⟩
                    · go_wp2_with fail
                      go_roundw
                      case rel => exact ⟨j + 1, by go_num, hpj, Lib.hid (by rw [movTo_step Hx.out, mov_yes HV.out]; exact (M.out.store Hxj.out _).2.2.2), Lib.hid (small_snoc Hx.out SX.out (fun _ => by omega))⟩
                      case measure => simp [intOf]; omega
                · have HV : Hid (isVarB x.k = true) := Lib.hid (by unfold isVarB; rw [h8]; rfl)
                  by_cases hbig : 1000000000 < x.n
                  · go_wp2_with fail
                    refine (alive_any _).mono ?_
                    rintro e w2 ⟨rfl, hb⟩
                    go_wp2_with fail
                    go_ret
                    exact ⟨rfl, ext_trans M.out.bel hb⟩
                  · go_wp2_with fail
                    go_roundw
                    case rel => exact ⟨j + 1, by go_num, hpj, Lib.hid (by rw [movTo_step Hx.out, mov_yes HV.out]; exact (M.out.store Hxj.out _).2.2.2), Lib.hid (small_snoc Hx.out SX.out (fun _ => by omega))⟩
                    case measure => simp [intOf]; omega
              · have hjj : j = xs.length := by omega
                have e1 : xs.take j = xs := by rw [hjj, List.take_length]
                rw [hjj, movTo_end] at M
                rw [e1] at SX
                have hvk2 := hvk.out
                have hvl : vm.length ≤ 100 := by omega
                have M2 := Lib.hid M.out
                have hml := Lib.hid (show (xs.map (movNd n)).length = xs.length by simp)
                clear M e1 hjj hvk2
                go_wp2_with (at_builtin; refine wpList_appS rfl (.tmp 77) (.tmp 79) rfl W.heap.size (l := vm) rfl (OwnL.alloc M2.out.row _) (l2 := [(some ⟨g, 0, none⟩, xs.length, cap2)]) rfl (readS_new _ (some ⟨g, 0, none⟩, xs.length, cap2)) (by simp; omega) (by have := M2.out.bel.size; simp; omega) ?_; intro V2 cv2 w8 hown8 hg8 hA8; have M3 := Lib.hid ((M2.out.alloc _).app (by rw [hml.out]; exact hown8) hg8 hA8); clear hown8 hg8 hA8)
                go_roundw
                case rel => exact ⟨k + 1, V2, cv2, vm ++ [(some ⟨g, 0, none⟩, xs.length, cap2)], by simp, by go_num, hp, Lib.hid (by simp [hvk.out]), Lib.hid (by rw [mov_snoc n Hxs.out]; have h := M3.out; rw [hml.out] at h; exact h), Lib.hid (smalls_snoc Hxs.out SM.out SX.out)⟩
                case measure => simp [intOf]; omega
          · have hkk : k = vs.length := by omega
            have e1 : xss.take k = xss := by rw [hkk, Hlx.out, List.take_length]
            rw [e1] at M SM
            have hkx : Hid (vm.length = xss.length) := Lib.hid (by rw [hvk.out, hkk, Hlx.out])
            have hS2 := Lib.hid (RowM.bel M.out)
            have G0 : Hid (Mem W (fun v => RowS V vs xss v ∧ RowS Vm vm (xss.map (List.map (movNd n))) v) wr) := Lib.hid ⟨M.out.bel, ⟨⟨ReadL.more (ReadL.below Hr.out.1 M.out.bel) M.out.bel.size, Hr.out.2.moreB M.out.bel M.out.bel.size⟩, OwnL.read encS_len M.out.row, M.out.sls⟩, (keep_rowS _ _ _).and (keep_rowS _ _ _)⟩
            have HX : Hid (xss.length ≤ 10 ∧ (∀ xs ∈ xss, xs ≠ []) ∧ (∀ xs ∈ xss, xs.length ≤ 60) ∧ (∀ xs ∈ xss, ∀ x ∈ xs, I64 x.n)) := Lib.hid ⟨HF.out.1, fun xs h => (HF.out.2 xs h).2, fun xs h => (HF.out.2 xs h).1, Hok.out⟩
            have hvm10 : vm.length ≤ 10 := by have := hkx.out; have := HX.out.1; omega
            have hcan := Lib.hid (fun v (h : RowS V vs xss v) => canon_any V cv vs xss v h.1 h.2 HX.out.2.1 (by omega) (fun xs hx => by have := HX.out.2.2.1 xs hx; omega) HX.out.2.2.2)
            have hcanm := Lib.hid (fun v (h : RowS Vm vm (xss.map (List.map (movNd n))) v) => canon_any Vm cm vm (xss.map (List.map (movNd n))) v h.1 h.2 (fun xs hx => by
                obtain ⟨ys, hy, rfl⟩ := List.mem_map.1 hx
                have := HX.out.2.1 ys hy
                simpa using this) (by omega) (fun xs hx => by
                obtain ⟨ys, hy, rfl⟩ := List.mem_map.1 hx
                have := HX.out.2.2.1 ys hy
                rw [List.length_map]; omega) (fun xs hx => by
                obtain ⟨ys, hy, rfl⟩ := List.mem_map.1 hx
                exact mov_ok hn00 hn64 (SM.out ys hy) (HX.out.2.2.2 ys hy)))
            have hcs : Hid (canT [] (xss.map (List.map (movNd n))) = canT [] xss ∧ canT [] (canT [] xss) = canT [] xss) := Lib.hid ⟨canT_mov n [] xss, canT_again [] xss⟩
            have hcok : Hid ((∀ t ∈ canT [] xss, t.length ≤ 60 ∧ t ≠ []) ∧ (∀ t ∈ canT [] xss, ∀ y ∈ t, I64 y.n) ∧ (canT [] xss).length = xss.length) := Lib.hid ⟨canT_lens (fun xs h => ⟨HX.out.2.2.1 xs h, HX.out.2.1 xs h⟩) [], canT_ok (m := 60) [] xss (fun xs h => ⟨HX.out.2.2.1 xs h, HX.out.2.2.2 xs h⟩) (by have := HX.out.1; simp; omega), canT_len [] xss⟩
            clear e1 hkk hvk M SM hS2 hn64 hn00 Hr Hok HF B1
            rw [hcs.out.1] at hcanm
            go_wp2_with fail
            refine (hcan.out _ G0.out.p.1).mono ?_
            rintro e w2 ⟨Vc, cc, vc, rfl, hrow, hsls, hb⟩
            have G := Lib.hid ((G0.out.step hb).add (Q := RowS Vc vc (canT [] xss)) ⟨OwnL.read encS_len hrow, hsls⟩ (keep_rowS _ _ _))
            have hlc : Hid (vc.length = vs.length) := Lib.hid (by have := hsls.1; have := hcok.out.2.2; have := Hlx.out; omega)
            have hlen : ((vc.length : Int) != (vs.length : Int)) = false := by rw [hlc.out]; simp
            have hlc10 : vc.length ≤ 10 := by have := hlc.out; omega
            clear hrow hsls hb G0 hcan
            go_wp2_with fail
            refine (hcanm.out _ G.out.p.1.2).mono ?_
            rintro e w3 ⟨Vd, cd, vd, rfl, hrow, hsls, hb⟩
            replace G := Lib.hid ((G.out.step hb).add (Q := RowS Vd vd (canT [] xss)) ⟨OwnL.read encS_len hrow, hsls⟩ (keep_rowS _ _ _))
            have hld : vd.length ≤ 10 := by have := hsls.1; have := hcok.out.2.2; have := HX.out.1; omega
            clear hrow hsls hb hcanm
            go_wp2_with fail
            refine (types_any Vd Vc cd cc vd vc _ _ _ G.out.p.2.1 G.out.p.1.2.1 G.out.p.2.2 G.out.p.1.2.2 (by omega) (fun xs hx => by have := (hcok.out.1 xs hx).1; omega)).mono ?_
            rw [show decide (canT [] xss = canT [] xss) = true from decide_eq_true rfl]
            rintro e w4 ⟨rfl, q, rfl⟩
            replace G := Lib.hid ((G.out.drewN q).drop (Q := fun v => RowS V vs xss v ∧ RowS Vc vc (canT [] xss) v) (fun v h => ⟨h.1.1.1, h.1.2⟩) ((keep_rowS _ _ _).and (keep_rowS _ _ _)))
            have hcanc := Lib.hid (canon_any Vc cc vc (canT [] xss) _ G.out.p.2.1 G.out.p.2.2 (fun t ht => (hcok.out.1 t ht).2) (by omega) (fun t ht => by have := (hcok.out.1 t ht).1; omega) hcok.out.2.1)
            rw [hcs.out.2] at hcanc
            go_wp2_with fail
            refine hcanc.out.mono ?_
            rintro e w5 ⟨Ve, ce, ve, rfl, hrow, hsls, hb⟩
            replace G := Lib.hid ((G.out.step hb).add (Q := RowS Ve ve (canT [] xss)) ⟨OwnL.read encS_len hrow, hsls⟩ (keep_rowS _ _ _))
            have hle : ve.length ≤ 10 := by have := hsls.1; have := hcok.out.2.2; have := HX.out.1; omega
            clear hrow hsls hb hcanc
            go_wp2_with fail
            refine (types_any Ve Vc ce cc ve vc _ _ _ G.out.p.2.1 G.out.p.1.2.1 G.out.p.2.2 G.out.p.1.2.2 (by omega) (fun xs hx => by have := (hcok.out.1 xs hx).1; omega)).mono ?_
            rw [show decide (canT [] xss = canT [] xss) = true from decide_eq_true rfl]
            rintro e w6 ⟨rfl, q2, rfl⟩
            replace G := Lib.hid ((G.out.drewN q2).drop (Q := fun v => RowS V vs xss v ∧ RowS Vc vc (canT [] xss) v) (fun v h => h.1) ((keep_rowS _ _ _).and (keep_rowS _ _ _)))
            clear hcs hle hld hvm10
            go_wp2_with fail
            go_loopw [10, 11] (fun s10 s11 wr => ∃ k : Nat, k ≤ vc.length ∧ s10 = .int .i64 (((seenT [] (xss.take k)).length : Nat) + 1) ∧ s11 = .int .i64 k ∧ Hid (Mem W (fun v => RowS V vs xss v ∧ RowS Vc vc (canT [] xss) v) wr)) (fun _ s11 _ => vc.length - (intOf s11).toNat)
            case atStart => exact ⟨0, Nat.zero_le _, by simp [seenT], rfl, G⟩
            case round =>
              clear G
              obtain ⟨k, hk, rfl, rfl, G⟩ := hrel
              by_cases hp : k < vc.length
              · obtain ⟨⟨A1, n1, c1⟩, hv⟩ := getq_ex (show k < vs.length by have := hlc.out; omega)
                obtain ⟨⟨A2, n2, c2⟩, hu⟩ := getq_ex hp
                obtain ⟨xs, hxs⟩ := getq_ex (show k < xss.length by have := hlc.out; have := Hlx.out; omega)
                have hys := canT_get [] xss k xs hxs
                have hmem := List.mem_of_getElem? hxs
                have hxl := HX.out.2.2.1 xs hmem
                have Hst := Lib.hid (seenT_step hxs).1
                have hh5 : (seenT [] (xss.take k)).length ≤ 1000 := by
                  have := seenT_le (m := 60) [] (xss.take k) fun ys hy => HX.out.2.2.1 ys (List.mem_of_mem_take hy)
                  rw [List.length_take, List.length_nil, Nat.zero_add] at this
                  have h10 := HX.out.1
                  omega
                generalize seenT [] (xss.take k) = had at *
                obtain ⟨b, o, rfl, hq0, hq1⟩ := ReadL.slice G.out.p.1.1 hv
                obtain ⟨bc, oc, rfl, hq3, hq2⟩ := ReadL.slice G.out.p.2.1 hu
                have HC := Lib.hid (fun w (h : RowS (some ⟨b, o, none⟩) vs xss w ∧ RowS (some ⟨bc, oc, none⟩) vc (canT [] xss) w) => And.intro (rowS_get h.1 hv hxs rfl) (rowS_get h.2 hu hys (canL_len _ _)))
                obtain ⟨⟨hb, hc, t1⟩, hbc, hcc, t2⟩ := HC.out _ G.out.p
                clear t1 t2 hq1 hq2 hq0 hq3 hv hu hxs hys hmem
                have hp2 : k < vs.length := by have := hlc.out; omega
                have hqe : ((xs.length : Int) != (xs.length : Int)) = false := by simp
                go_wp2_with fail
                go_quiet (fail)
                go_wp2_with fail
                go_loopw [10, 12] (fun s10 s12 wi => ∃ j : Nat, j ≤ xs.length ∧ s10 = .int .i64 (((seenL had (xs.take j)).length : Nat) + 1) ∧ s12 = .int .i64 j ∧ Hid (Mem W (fun v => RowS (some ⟨b, o, none⟩) vs xss v ∧ RowS (some ⟨bc, oc, none⟩) vc (canT [] xss) v) wi)) (fun _ s12 _ => xs.length - (intOf s12).toNat)
                case atStart => exact ⟨0, Nat.zero_le _, by simp [seenL], rfl, Lib.hid (G.out.drewN _)⟩
                case round =>
                  clear G hc hcc hb hbc
                  obtain ⟨j, hj, rfl, rfl, G⟩ := hrel
                  obtain ⟨⟨hb, hc, t1⟩, hbc, hcc, t2⟩ := HC.out _ G.out.p
                  by_cases hpj : j < xs.length
                  · obtain ⟨x, hx⟩ := getq_ex hpj
                    have hz := canL_get had xs j x hx
                    obtain ⟨b1, o1, hA1, hb1, c10, c11, c12⟩ := t1.at_ hx
                    obtain ⟨b4, o4, hA4, hb4, d10, d11, d12⟩ := t2.at_ hz
                    subst hA1 hA4
                    rw [(canNd_k _ x).1] at d10
                    rw [(canNd_k _ x).2] at d11
                    have hstep := Lib.hid (congrArg List.length (seenL_step (had := had) hx))
                    have hnn : (seenL had (xs.take j)).length ≤ 2000 := by
                      have h1 := seenL_le had (xs.take j)
                      rw [List.length_take] at h1
                      omega
                    have Hnx := Lib.hid (fun h => can_next (had := seenL had (xs.take j)) (x := x) h)
                    have Hno := Lib.hid (fun h => can_no (had := seenL had (xs.take j)) (x := x) h)
                    generalize seenL had (xs.take j) = hj at *
                    clear hx hz t1 t2
                    generalize hzz : (canNd hj x).n = zn at *
                    have Hzz := Lib.hid hzz
                    clear hzz
                    cases h8 : (x.k == 8)
                    · cases h9 : (x.k == 9)
                      · have HV : Hid (isVarB x.k = false) := Lib.hid (by unfold isVarB; rw [h8, h9]; rfl)
                        have h8n : (x.k != 8) = true := by simp [bne, h8]
                        have h9n : (x.k != 9) = true := by simp [bne, h9]
                        have hzx : zn = x.n := by rw [← Hzz.out, (Hno.out HV.out).1]
                        subst hzx
                        have hne := run_neNode x x
                        have hnd : ndEq x x = true := (ndEq_iff x x).2 rfl
                        rw [hnd] at hne
                        unfold Nd.val at hne
                        clear hnd
                        go_wp2_with fail
                        go_quiet (fail)
                        go_wp2_with fail
                        go_roundw
                        case rel => exact ⟨j + 1, hpj, by rw [hstep.out, (Hno.out HV.out).2], by go_num, Lib.hid ((G.out.step (ext_alloc (Below.refl _ _) _)).drewN _)⟩
                        case measure => simp [intOf]; omega
                      · have HV : Hid (isVarB x.k = true) := Lib.hid (by unfold isVarB; rw [h8, h9]; rfl)
                        have h8n : (x.k != 8) = true := by simp [bne, h8]
                        have h9n : (x.k != 9) = false := by simp [bne, h9]
                        obtain ⟨z1, z2, z3, z4⟩ := Hnx.out HV.out
                        have hzl : ¬ zn < 1 := by omega
                        have hzg : ¬ ((hj.length : Int) + 1) < zn := by omega
                        have Z3 := Lib.hid z3
                        have Z4 := Lib.hid z4
                        have hkn : (x.k != x.k) = false := by simp
                        have hsn : (x.s.toList != x.s.toList) = false := by simp
                        clear z1 z2 z3 z4
                        cases hzz : (zn == (hj.length : Int) + 1)
                        · have Hzq := Lib.hid (show zn ≠ (hj.length : Int) + 1 by simpa using hzz)
                          go_wp2_with fail
                          go_quiet (fail)
                          go_wp2_with fail
                          go_roundw
                          case rel => exact ⟨j + 1, hpj, by rw [hstep.out, Z4.out Hzq.out], by go_num, Lib.hid ((G.out.step (ext_alloc (Below.refl _ _) _)).drewN _)⟩
                          case measure => simp [intOf]; omega
                        · have Hzq := Lib.hid (show zn = (hj.length : Int) + 1 by simpa using hzz)
                          go_wp2_with fail
                          go_quiet (fail)
                          go_wp2_with fail
                          go_roundw
                          case rel => exact ⟨j + 1, hpj, by rw [hstep.out, Z3.out.1 Hzq.out]; go_num, by go_num, Lib.hid ((G.out.step (ext_alloc (Below.refl _ _) _)).drewN _)⟩
                          case measure => simp [intOf]; omega
                    · have HV : Hid (isVarB x.k = true) := Lib.hid (by unfold isVarB; rw [h8]; rfl)
                      have h8n : (x.k != 8) = false := by simp [bne, h8]
                      obtain ⟨z1, z2, z3, z4⟩ := Hnx.out HV.out
                      have hzl : ¬ zn < 1 := by omega
                      have hzg : ¬ ((hj.length : Int) + 1) < zn := by omega
                      have Z3 := Lib.hid z3
                      have Z4 := Lib.hid z4
                      have hkn : (x.k != x.k) = false := by simp
                      have hsn : (x.s.toList != x.s.toList) = false := by simp
                      clear z1 z2 z3 z4
                      cases hzz : (zn == (hj.length : Int) + 1)
                      · have Hzq := Lib.hid (show zn ≠ (hj.length : Int) + 1 by simpa using hzz)
                        go_wp2_with fail
                        go_quiet (fail)
                        go_wp2_with fail
                        go_roundw
                        case rel => exact ⟨j + 1, hpj, by rw [hstep.out, Z4.out Hzq.out], by go_num, Lib.hid ((G.out.step (ext_alloc (Below.refl _ _) _)).drewN _)⟩
                        case measure => simp [intOf]; omega
                      · have Hzq := Lib.hid (show zn = (hj.length : Int) + 1 by simpa using hzz)
                        go_wp2_with fail
                        go_quiet (fail)
                        go_wp2_with fail
                        go_roundw
                        case rel => exact ⟨j + 1, hpj, by rw [hstep.out, Z3.out.1 Hzq.out]; go_num, by go_num, Lib.hid ((G.out.step (ext_alloc (Below.refl _ _) _)).drewN _)⟩
                        case measure => simp [intOf]; omega
                  · have hjj : j = xs.length := by omega
                    have e1 : xs.take j = xs := by rw [hjj, List.take_length]
                    rw [e1]
                    go_wp2_with fail
                    go_roundw
                    case rel => exact ⟨k + 1, hp, by rw [Hst.out], by go_num, G⟩
                    case measure => simp [intOf]; omega
              · go_wp2_with fail
                refine (alive_any _).mono ?_
                rintro e w9 ⟨rfl, hb⟩
                go_wp2_with fail
                go_ret
                exact ⟨rfl, (G.out.step hb).ext⟩
end Go.Proofs.Ytblfeokjlecgkaa
