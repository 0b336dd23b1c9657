/- TermSelf, walked. -/
import Derived.Test.YtblfeokjlecgkaaLawTGround
namespace Go.Proofs.Ytblfeokjlecgkaa
open Go.RowKit

def tailNd (n : Int) (y : Nd) : Bool := y.k == 9 && y.n == n
def tailTo (n : Int) (x : List Nd) (i : Nat) : Bool := (x.take i).any (tailNd n)

theorem tailTo_step {n : Int} {x : List Nd} {i : Nat} {y : Nd} (h : x[i]? = some y) : tailTo n x (i + 1) = (tailTo n x i || tailNd n y) := by
  unfold tailTo
  rw [List.take_add_one, h, List.any_append]
  simp

theorem tailTo_end (n : Int) (x : List Nd) : tailTo n x x.length = x.any (tailNd n) := by simp [tailTo]

def ownV (n : Int) : List Nd := [⟨8, ByteArray.empty, n⟩]

theorem rt_root {x : List Nd} {y : Nd} {ks : List Nd} (I : IsR x y ks) : RtF 100 ⟨5, ByteArray.empty, 0⟩ 0 ByteArray.empty (0 + 1) (y :: (ks ++ [])) := by
  refine .cons I.ok ?_ I.rt (.nil _ _ _ _)
  unfold childOk
  rw [if_neg I.k, I.s]
  decide

theorem split_root {x : List Nd} {y : Nd} {ks : List Nd} (I : IsR x y ks) : splitF (0 + 1) (y :: (ks ++ [])) = [x] := by
  rw [splitF_cons I.rt.fo, I.eq]
  rfl

theorem self_no {x : List Nd} {n : Int} (hr : rightB x = true) (ht : x.any (tailNd n) = false) : putT n (ownV n) [] x = (x, false, false, false) := by
  obtain ⟨y, ks, I⟩ := isR_of hr
  have h := put_id (n := n) (u := ownV n) (utss := []) (rt_root I) (fun z hz hv hn => by
    have hz' : z ∈ x := by rw [I.eq]; simpa using hz
    rw [List.any_eq_false] at ht
    have h9 := ht z hz'
    have h8 : z.k = 8 := by
      unfold isVarB at hv
      simp only [Bool.or_eq_true, beq_iff_eq] at hv
      rcases hv with h | h
      · exact h
      · exact absurd (by unfold tailNd; simp [h, hn]) h9
    refine ⟨h8, ?_⟩
    unfold ownV nameN Nd.name
    obtain ⟨zk, zs, zn⟩ := z
    simp at h8 hn
    rw [h8, hn])
  rw [split_root I] at h
  simpa using h

theorem self_yes {x : List Nd} {n : Int} (hr : rightB x = true) (ht : x.any (tailNd n) = true) : (putT n (ownV n) [] x).2.1 = true := by
  obtain ⟨y, ks, I⟩ := isR_of hr
  rw [List.any_eq_true] at ht
  obtain ⟨z, hz, hzt⟩ := ht
  unfold tailNd at hzt
  simp only [Bool.and_eq_true, beq_iff_eq] at hzt
  have h := put_tail (n := n) (u := ownV n) (utss := []) rfl (rt_root I) (fun h => by exact absurd h (by decide)) ⟨z, by rw [I.eq] at hz; simpa using hz, hzt.1, hzt.2⟩
  rw [split_root I] at h
  rcases h with h | ⟨h, _⟩
  · simpa using h
  · exact absurd h (by decide)

theorem self_err {x : List Nd} {n : Int} (hr : rightB x = true) : putErr (putT n (ownV n) [] x) = if x.any (tailNd n) = true then 1 else 0 := by
  cases ht : x.any (tailNd n)
  · rw [self_no hr ht]
    simp [putErr, hr]
  · have := self_yes hr ht
    unfold putErr
    rw [if_pos this]
    rfl

theorem own_put {x : List Nd} {n : Int} (utss : List (List Nd)) (hr : rightB x = true) : putT n x utss (ownV n) = (x, false, false, false) := by
  obtain ⟨y, ks, I⟩ := isR_of hr
  have hv := putT_var (n := n) (u := x) (utss := utss) (x := ⟨8, ByteArray.empty, n⟩) (ks := []) rfl rfl
  unfold ownV
  rw [hv]
  have : nameN ByteArray.empty x = x := by
    rw [I.eq]
    show y.name ByteArray.empty :: ks = _
    unfold Nd.name
    rw [← I.s]
  rw [this]

theorem own_uok {n : Int} (h : 0 ≤ n) : UOk 1 (ownV n) [] := ⟨by simp [ownV], by simp [ownV], _, [], rfl, by show okNode 8 n = true; unfold okNode; simp [h], fun y hy => by simp at hy, ⟨rfl, rfl, fun ts hts => by simp at hts⟩⟩

theorem uok_of {c : Nat} {x : List Nd} (hr : rightB x = true) (hl : x.length ≤ 1000) (hc : x.length ≤ c) : ∃ utss, UOk c x utss := by
  obtain ⟨y, ks, I⟩ := isR_of hr
  exact ⟨splitF (manyN y) ks, hl, hc, y, ks, I.eq, I.ok, I.rt.ok, trees_of I.rt.fo⟩

theorem few_fresh {x : List Nd} {n : Int} (h : few60 x = true) (hn : 0 ≤ n) : fewB (freshL n x) 60 = true := by
  obtain ⟨p1, p2, p3⟩ := few_parts h
  obtain ⟨y, ks, R⟩ := isR_of p3
  have hr := R.like (likeF_fresh n x hn)
  unfold fewB
  simp only [Bool.and_eq_true, decide_eq_true_eq, List.all_eq_true]
  refine ⟨by rw [freshL_len]; omega, fun z hz => ?_, by rw [right_eq]; exact hr⟩
  obtain ⟨y, hy, e⟩ := fresh_labels _ _ _ hz
  unfold shortB
  rw [e]
  exact decide_eq_true (p2 y hy)

/-- What a put of a variable's own answers. -/
theorem self_res {x : List Nd} {n : Int} {w w' : World} {e : Ending} (hr : rightB x = true) (h : (putErr (putT n (ownV n) [] x) = 0 ∧ ∃ A' c', e = .returned (.tuple #[.slice A' (putT n (ownV n) [] x).1.length c', .int .i64 0]) ∧ OwnN w' w.heap.size A' c' (putT n (ownV n) [] x).1) ∨
    (putErr (putT n (ownV n) [] x) ≠ 0 ∧ e = .returned (.tuple #[.slice none 0 0, .int .i64 (putErr (putT n (ownV n) [] x))]))) :
    ∃ (A' : Option Addr) (c' : Nat) (xs : List Nd) (err : Int), e = .returned (.tuple #[.slice A' xs.length c', .int .i64 err]) ∧ TyA w' w'.heap.size A' xs ∧ Hid ((x.any (tailNd n) = false → err = 0 ∧ xs = x) ∧ (x.any (tailNd n) = true → err = 1)) := by
  have he := self_err (n := n) hr
  cases ht : x.any (tailNd n)
  · rw [ht] at he
    rw [self_no hr ht] at h he
    rcases h with ⟨_, A', c', rfl, hown⟩ | ⟨h0, _⟩
    · exact ⟨A', c', x, 0, rfl, OwnL.tyA hown, Lib.hid ⟨fun _ => ⟨rfl, rfl⟩, fun h => by cases h⟩⟩
    · exact absurd he h0
  · rw [ht, if_pos rfl] at he
    rw [he] at h
    rcases h with ⟨h0, _⟩ | ⟨_, rfl⟩
    · exact absurd h0 (by decide)
    · exact ⟨none, 0, [], 1, rfl, TyA.nil, Lib.hid ⟨fun h => (by cases h), fun _ => rfl⟩⟩

theorem own_res {x : List Nd} {n : Int} {utss : List (List Nd)} {w w' : World} {e : Ending} (hr : rightB x = true) (hp : putT n x utss (ownV n) = (x, false, false, false)) (h : (putErr (putT n x utss (ownV n)) = 0 ∧ ∃ A' c', e = .returned (.tuple #[.slice A' (putT n x utss (ownV n)).1.length c', .int .i64 0]) ∧ OwnN w' w.heap.size A' c' (putT n x utss (ownV n)).1) ∨
    (putErr (putT n x utss (ownV n)) ≠ 0 ∧ e = .returned (.tuple #[.slice none 0 0, .int .i64 (putErr (putT n x utss (ownV n)))]))) :
    ∃ (A' : Option Addr) (c' : Nat), e = .returned (.tuple #[.slice A' x.length c', .int .i64 0]) ∧ TyA w' w'.heap.size A' x := by
  rw [hp] at h
  rcases h with ⟨_, A', c', rfl, hown⟩ | ⟨h0, _⟩
  · exact ⟨A', c', rfl, OwnL.tyA hown⟩
  · exact absurd (by simp [putErr, hr]) h0

set_option maxRecDepth 100000 in
set_option maxHeartbeats 8000000 in
theorem termSelf_law (A : Option Addr) (c : Nat) (x : List Nd) (n : Int) (W : World) (t : TyA W W.heap.size A x) (hc : x.length ≤ c) (l : x.length ≤ 9223372036854775807) (o : ∀ y ∈ x, y.Ok) :
    Calls Try.prog 13 #[.slice A x.length c, .int .i64 n] W fun e w' => e = .returned (.bool true) ∧ Below W.heap.size W w' := by
  have hfw := Lib.hid (few_one A c x W t l (fun y hy => (o y hy).s1))
  have M := Lib.hid (Mem.start (P := fun v => TyA v v.heap.size A x) t (keep_ty A x))
  have Ho := Lib.hid o
  clear t o
  go_enter Try.func13, Try.ntmps13
  go_wp2_with fail
  refine hfw.out.mono ?_
  rintro e w1 ⟨rfl, hb⟩
  replace M := Lib.hid (M.out.step hb)
  clear hb hfw
  cases hf : few60 x
  · have HF := Lib.hid hf
    clear hf
    go_wp2_with fail
    refine (alive_any _).mono ?_
    rintro e w2 ⟨rfl, hb⟩
    go_wp2_with fail
    go_ret
    exact ⟨rfl, (M.out.step hb).ext⟩
  · have HF := Lib.hid hf
    clear hf
    by_cases hn0 : n < 0
    · go_wp2_with fail
      refine (alive_any _).mono ?_
      rintro e w2 ⟨rfl, hb⟩
      go_wp2_with fail
      go_ret
      exact ⟨rfl, (M.out.step hb).ext⟩
    · by_cases hn1 : 1000000 < n
      · go_wp2_with fail
        refine (alive_any _).mono ?_
        rintro e w2 ⟨rfl, hb⟩
        go_wp2_with fail
        go_ret
        exact ⟨rfl, (M.out.step hb).ext⟩
      · obtain ⟨p1, p2, p3⟩ := few_parts HF.out
        have I := isT_of p3
        obtain ⟨utss, hut⟩ := uok_of (c := c) p3 (by omega) hc
        have F := Lib.hid (And.intro p3 (And.intro I (And.intro hut (And.intro (self_err (n := n) p3) (own_put (n := n) utss p3)))))
        have hs1 : Hid (∀ y ∈ x, y.s.size ≤ 9223372036854775807) := Lib.hid fun y hy => (Ho.out y hy).s1
        clear I p2 p3 hut
        have hp1 := Lib.hid (fun v (h1 : TyA v v.heap.size A x) (Ao : Option Addr) (h2 : TyA v v.heap.size Ao (ownV n)) => put_any A Ao c 1 x (ownV n) [] n v h1 h2 F.out.2.1.fo F.out.2.1.ok hc (own_uok (by omega)) (by simp [ownV]; omega) (fun y hy => by
          rcases List.mem_append.1 hy with hy | hy
          · exact hs1.out y hy
          · simp [ownV] at hy; subst hy; show ByteArray.empty.size ≤ _; decide))
        have hp2 := Lib.hid (fun v (h1 : TyA v v.heap.size A x) (Ao : Option Addr) (h2 : TyA v v.heap.size Ao (ownV n)) => put_any Ao A 1 c (ownV n) x utss n v h2 h1 rfl (fun y hy => by simp [ownV] at hy; subst hy; show okNode 8 n = true; unfold okNode; simp; omega) (by simp [ownV]) F.out.2.2.1 (by simp [ownV]; omega) (fun y hy => by
          rcases List.mem_append.1 hy with hy | hy
          · simp [ownV] at hy; subst hy; show ByteArray.empty.size ≤ _; decide
          · exact hs1.out y hy))
        have hn64 : n ≤ 1000000 := by omega
        have hn00 : 0 ≤ n := by omega
        have T0 := tyA_new w1 ⟨8, ByteArray.empty, n⟩
        have M2 := Lib.hid (((M.out.step (ext_alloc (Below.refl _ _) (.cells #[.int .i64 8, .string ByteArray.empty, .int .i64 n] 48))).add (Q := fun v => TyA v v.heap.size (some ⟨w1.heap.size, 0, none⟩) (ownV n)) (T0.more (by simp)) (keep_ty _ _)))
        clear M T0
        have hw := Lib.hid (hp1.out _ M2.out.p.1 _ M2.out.p.2)
        go_wp2_with fail
        refine hw.out.mono ?_
        rintro e w2 ⟨hb, hres⟩
        obtain ⟨A2, c2, xs2, er, rfl, t2, hcase⟩ := self_res F.out.1 hres
        have M := Lib.hid ((M2.out.step hb).add t2 (keep_ty A2 xs2))
        clear hb hres t2 hw M2
        have hw := Lib.hid (hp2.out _ M.out.p.1.1 _ M.out.p.1.2)
        go_wp2_with fail
        refine hw.out.mono ?_
        rintro e w3 ⟨hb, hres⟩
        obtain ⟨A3, c3, rfl, t3⟩ := own_res F.out.1 F.out.2.2.2.2 hres
        replace M := Lib.hid ((M.out.step hb).add t3 (keep_ty A3 x))
        clear hb hres t3 hw hp1 hp2
        go_wp2_with fail
        go_loop [10, 11] (fun s10 s11 => ∃ i : Nat, i ≤ x.length ∧ s10 = .bool (tailTo n x i) ∧ s11 = .int .i64 i) (fun _ s11 => x.length - (intOf s11).toNat)
        case atStart => exact ⟨0, Nat.zero_le _, by simp [tailTo], rfl⟩
        case round =>
          obtain ⟨i, hi, rfl, rfl⟩ := hrel
          by_cases hlt : i < x.length
          · obtain ⟨y, hy⟩ := getq_ex hlt
            have hstep := Lib.hid (tailTo_step (n := n) hy)
            obtain ⟨b1, o1, rfl, hb1, c10, c11, c12⟩ := M.out.p.1.1.1.at_ hy
            clear hy
            generalize hacc : tailTo n x i = acc at *
            have Hacc := Lib.hid hacc
            clear hacc
            cases acc
            · cases h9 : (y.k == 9)
              · have H9 := Lib.hid h9
                go_wp2_with fail
                go_round
                case rel => exact ⟨i + 1, hlt, by rw [hstep.out]; simp [tailNd, H9.out], by go_num⟩
                case measure => simp [intOf]; omega
              · have H9 := Lib.hid h9
                cases hyn : (y.n == n)
                all_goals
                  have Hyn := Lib.hid hyn
                  go_wp2_with fail
                  go_round
                  case rel => exact ⟨i + 1, hlt, by rw [hstep.out]; simp [tailNd, H9.out, Hyn.out], by go_num⟩
                  case measure => simp [intOf]; omega
            · go_wp2_with fail
              go_round
              case rel => exact ⟨i + 1, hlt, by rw [hstep.out]; simp, by go_num⟩
              case measure => simp [intOf]; omega
          · have hix : i = x.length := by omega
            have htl : tailTo n x i = x.any (tailNd n) := by rw [hix, tailTo_end]
            generalize tailTo n x i = tl at *
            have Htl := Lib.hid htl
            clear htl
            have hw := Lib.hid (fresh_any A c x n w3 M.out.p.1.1.1 F.out.2.1.ne (by omega) hn00 hn64)
            have Hix := Lib.hid hix
            clear hix
            go_wp2_with fail
            refine hw.out.mono ?_
            rintro e w4 ⟨A4, c4, rfl, hown, hb⟩
            replace M := Lib.hid ((M.out.step hb).add (OwnL.tyA hown) (keep_ty A4 (freshL n x)))
            clear hown hb hw
            have hfl := freshL_len n x
            have HFL := Lib.hid hfl
            have hfl60 : (freshL n x).length ≤ 60 := by omega
            clear hfl
            go_wp2_with fail
            go_loopw [14, 15] (fun s14 s15 wr => ∃ i : Nat, i ≤ x.length ∧ s14 = .int .i64 (n + (dynN (x.take i) : Nat)) ∧ s15 = .int .i64 i ∧ Hid (Mem W (fun v => (((TyA v v.heap.size A x ∧ TyA v v.heap.size (some ⟨w1.heap.size, 0, none⟩) (ownV n)) ∧ TyA v v.heap.size A2 xs2) ∧ TyA v v.heap.size A3 x) ∧ TyA v v.heap.size A4 (freshL n x)) wr)) (fun _ s15 _ => x.length - (intOf s15).toNat)
            case atStart => exact ⟨0, Nat.zero_le _, by simp [dynN], rfl, M⟩
            case round =>
              clear M
              obtain ⟨j, hj, rfl, rfl, M⟩ := hrel
              by_cases hjt : j < x.length
              · obtain ⟨y, hy⟩ := getq_ex hjt
                have hz := freshL_get n x j y hy
                have hstep := Lib.hid (dynN_step hy)
                obtain ⟨b1, o1, rfl, hb1, c10, c11, c12⟩ := M.out.p.1.1.1.1.at_ hy
                obtain ⟨b4, o4, rfl, hb4, d10, d11, d12⟩ := M.out.p.2.at_ hz
                have hjf : j < (freshL n x).length := by have := HFL.out; omega
                have hd60 : dynN (x.take j) ≤ 60 := by
                  have := dynN_le (x.take j)
                  rw [List.length_take] at this
                  omega
                have hne := run_neNode y y
                have hnd : ndEq y y = true := (ndEq_iff y y).2 rfl
                rw [hnd] at hne
                unfold Nd.val at hne
                clear hy hz hnd
                generalize hdd : dynN (x.take j) = d at *
                have Hdd := Lib.hid hdd
                clear hdd
                cases h0 : (y.k == 0)
                · have h0' : ¬ y.k = 0 := by simpa using h0
                  have h0n : (y.k != 0) = true := by simpa using h0'
                  rw [if_neg h0'] at d10 d11 d12
                  have H0 := Lib.hid h0'
                  clear h0'
                  go_wp2_with fail
                  go_quiet (fail)
                  go_wp2_with fail
                  go_roundw
                  case rel => exact ⟨j + 1, hjt, by rw [hstep.out, if_neg H0.out]; simp, by go_num, Lib.hid (M.out.drewN _)⟩
                  case measure => simp [intOf]; omega
                · have h0' : y.k = 0 := by simpa using h0
                  have h0n : (y.k != 0) = false := by simpa using h0'
                  rw [if_pos h0'] at d10 d11 d12
                  have H0 := Lib.hid h0'
                  clear h0' hne
                  go_wp2_with fail
                  go_quiet (fail)
                  go_wp2_with fail
                  go_roundw
                  case rel => exact ⟨j + 1, hjt, by rw [hstep.out, if_pos H0.out]; push_cast; go_num, by go_num, Lib.hid (M.out.drewN _)⟩
                  case measure => simp [intOf]; omega
              · obtain rfl : j = x.length := by omega
                have hjf : ¬ x.length < (freshL n x).length := by have := HFL.out; omega
                have hq1 : ((freshL n x).length == x.length) = true := by rw [HFL.out]; simp
                have hq2 : (((freshL n x).length : Int) == (x.length : Int)) = true := by rw [HFL.out]; simp
                have hff := Lib.hid (few_fresh HF.out hn00)
                go_wp2_with fail
                refine (alive_any _).mono ?_
                rintro e w5 ⟨rfl, hb⟩
                replace M := Lib.hid (M.out.step hb)
                clear hb
                have hfw := Lib.hid (fun v (h : TyA v v.heap.size A4 (freshL n x)) => Few_any A4 c4 (freshL n x) 60 v h (by omega) (fun z hz => by
                  obtain ⟨y, hy, e⟩ := fresh_labels _ _ _ hz
                  rw [e]
                  exact hs1.out y hy))
                cases tl
                · obtain ⟨rfl, rfl⟩ := hcase.out.1 Htl.out.symm
                  go_wp2_with fail
                  refine (one_any A2 A c2 c _ _ xs2 xs2 _ M.out.p.1.1.2 M.out.p.1.1.1.1 (by omega)).mono ?_
                  rw [show decide (xs2 = xs2) = true from decide_eq_true rfl]
                  rintro e w6 ⟨rfl, q, rfl⟩
                  replace M := Lib.hid (M.out.drewN q)
                  go_wp2_with fail
                  refine (one_any A3 A c3 c _ _ xs2 xs2 _ M.out.p.1.2 M.out.p.1.1.1.1 (by omega)).mono ?_
                  rw [show decide (xs2 = xs2) = true from decide_eq_true rfl]
                  rintro e w6 ⟨rfl, q2, rfl⟩
                  replace M := Lib.hid (show Mem W _ (w5.drewN (q + q2)) by have := M.out.drewN q2; rwa [drewN_two] at this)
                  go_wp2_with fail
                  refine (hfw.out _ M.out.p.2).mono ?_
                  rw [hff.out]
                  rintro e w7 ⟨rfl, hb⟩
                  go_wp2_with fail
                  go_ret
                  exact ⟨rfl, (M.out.step hb).ext⟩
                · obtain rfl := hcase.out.2 Htl.out.symm
                  go_wp2_with fail
                  refine (one_any A3 A c3 c _ _ x x _ M.out.p.1.2 M.out.p.1.1.1.1 (by omega)).mono ?_
                  rw [show decide (x = x) = true from decide_eq_true rfl]
                  rintro e w6 ⟨rfl, q2, rfl⟩
                  replace M := Lib.hid (M.out.drewN q2)
                  go_wp2_with fail
                  refine (hfw.out _ M.out.p.2).mono ?_
                  rw [hff.out]
                  rintro e w7 ⟨rfl, hb⟩
                  go_wp2_with fail
                  go_ret
                  exact ⟨rfl, (M.out.step hb).ext⟩
end Go.Proofs.Ytblfeokjlecgkaa
