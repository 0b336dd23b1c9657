/- Laid together by a tool from the texts of this seat: RowB RowP RowG. Conditions: each theorem's own. -/
import Derived.Test.YtmjdhfbnmmdjiaaGreatK08
/- ty.Row: what it asks of labels (for seats without leavenlaw03). -/
namespace Go.Proofs.YtmjdhfbnmmdjiaaGreat
open Go.RowKit

def FoundI (p : Bool) (e : Ending) : Prop := ∃ i : Int, e = .returned (.int .i64 i) ∧ (p = true → 0 ≤ i) ∧ (p = false → i = -1)

set_option maxRecDepth 100000 in
set_option maxHeartbeats 1000000 in
theorem row1_any (kind : Int) (s : ByteArray) (g : Nat) (w : World) (hg : w.cell? ⟨g, 0, none⟩ = some (.int .i64 kind)) :
    Calls Tryz.prog 126 #[.string s, .pointer (some ⟨g, 0, none⟩)] w fun e w' => e = .returned (.bool (!labelB kind s)) ∧ Below w.heap.size w w' := by
  go_enter Tryz.func126, Tryz.ntmps126
  go_wp2_with (go_at_call 127; refine (isLabel_any _ _ _).mono ?_; rintro e w1 ⟨rfl, hbx⟩)
  go_ret
  exact ⟨rfl, hbx⟩


set_option maxRecDepth 100000 in
set_option maxHeartbeats 1000000 in
theorem indexStr_any (A : Option Addr) (c : Nat) (ls : List ByteArray) (kind : Int) (g : Nat) (w : World) (ha : ReadT w w.heap.size A ls) (hg : w.cell? ⟨g, 0, none⟩ = some (.int .i64 kind)) (hgl : g < w.heap.size) (hl : ls.length ≤ 9223372036854775807) :
    Calls Tryz.prog 149 #[.slice A ls.length c, .func (.func 126) #[] #[.pointer (some ⟨g, 0, none⟩)]] w fun e w' => FoundI (oddFrom kind ls 0) e ∧ Below w.heap.size w w' := by
  have Hg := Lib.hid hg
  clear hg
  go_enter Tryz.func149, Tryz.ntmps149
  go_wp2_with fail
  go_loopw [8] (fun i w' => ∃ k : Nat, k ≤ ls.length ∧ i = .int .i64 k ∧ Below w.heap.size w w' ∧ Hid (oddFrom kind ls k = oddFrom kind ls 0)) (fun i _ => ls.length - (intOf i).toNat)
  case atStart => exact ⟨0, Nat.zero_le _, rfl, Below.refl _ _, Lib.hid rfl⟩
  case round =>
    obtain ⟨k, hk, rfl, hbel, hgood⟩ := hrel
    by_cases hp : k < ls.length
    · obtain ⟨x, hx⟩ := getq_ex hp
      have hstep := Lib.hid (oddFrom_step (kind := kind) hx)
      obtain ⟨b1, o1, rfl, hb1, c10⟩ := ReadL.str (ReadL.more (ReadL.below ha hbel) hbel.size) hx
      have hg' := Lib.hid ((hbel.cell (p := ⟨g, 0, none⟩) hgl).trans Hg.out)
      clear hx
      cases he : labelB kind x
      all_goals
        have He := Lib.hid he
        clear he
        go_wp2_with (go_at_call 126; refine (row1_any kind x g _ hg'.out).mono ?_; rintro e w1 ⟨rfl, hbx⟩; rw [He.out])
      · go_ret
        refine ⟨⟨_, rfl, fun _ => by omega, fun h => ?_⟩, ext_trans hbel hbx⟩
        rw [← hgood.out, hstep.out, He.out] at h
        cases h
      · go_roundw
        case rel => exact ⟨k + 1, hp, by go_num, ext_trans hbel hbx, Lib.hid (by rw [← hgood.out, hstep.out, He.out, Bool.not_true, Bool.false_or])⟩
        case measure => simp [intOf]; omega
    · have hend := Lib.hid (oddFrom_end (kind := kind) hp)
      go_wp2_with fail
      go_ret
      refine ⟨⟨_, rfl, fun h => ?_, fun _ => rfl⟩, hbel⟩
      rw [← hgood.out, hend.out] at h
      cases h


set_option maxHeartbeats 1000000 in
theorem containsStr_any (A : Option Addr) (c : Nat) (ls : List ByteArray) (kind : Int) (g : Nat) (w : World) (ha : ReadT w w.heap.size A ls) (hg : w.cell? ⟨g, 0, none⟩ = some (.int .i64 kind)) (hgl : g < w.heap.size) (hl : ls.length ≤ 9223372036854775807) :
    Calls Tryz.prog 129 #[.slice A ls.length c, .func (.func 126) #[] #[.pointer (some ⟨g, 0, none⟩)]] w fun e w' => e = .returned (.bool (oddFrom kind ls 0)) ∧ Below w.heap.size w w' := by
  have Hg := Lib.hid hg
  clear hg
  cases hp : oddFrom kind ls 0
  all_goals
    have Hp := Lib.hid hp
    go_enter Tryz.func129, Tryz.ntmps129
    go_wp2_with (go_at_call 149; refine (indexStr_any A c ls kind g _ ha Hg.out hgl hl).mono ?_; rintro e w1 ⟨⟨i, rfl, h1, h2⟩, hbx⟩; have H1 := Lib.hid h1; have H2 := Lib.hid h2; clear h1 h2)
    go_ret
  · exact ⟨ret_bool (by rw [H2.out Hp.out]; rfl), hbx⟩
  · exact ⟨ret_bool (by have := H1.out Hp.out; simpa using this), hbx⟩


set_option maxRecDepth 100000 in
set_option maxHeartbeats 1000000 in
theorem row2_any (A : Option Addr) (c : Nat) (ls : List ByteArray) (g i j : Nat) (a b : ByteArray) (w : World) (hg : w.cell? ⟨g, 0, none⟩ = some (.slice A ls.length c)) (ha : ReadT w w.heap.size A ls) (hi : ls[i]? = some a) (hj : ls[j]? = some b) (_hl : ls.length ≤ 1000000) :
    Calls Tryz.prog 131 #[.int .i64 (i : Int), .int .i64 (j : Int), .pointer (some ⟨g, 0, none⟩)] w fun e w' => e = .returned (.int .i64 (cmpS a b)) ∧ ∃ q, w' = w.drewN q := by
  obtain ⟨b1, o1, rfl, hb1, c10⟩ := ReadL.str ha hi
  obtain ⟨_, _, he, _, c11⟩ := ReadL.str ha hj
  simp only [Option.some.injEq, Addr.mk.injEq, and_true] at he
  obtain ⟨rfl, rfl⟩ := he
  have hil := getq_lt hi
  have hjl := getq_lt hj
  clear hi hj
  go_enter Tryz.func131, Tryz.ntmps131
  go_wp2_with fail
  go_quiet (first
    | (go_at_call 132; go_loud (refine Calls.quiet_of_same ((compare_any _ _ _).mono fun e w1 h => ⟨h.1, h.2.symm⟩))))
  go_wp2_with fail
  go_ret
  exact ⟨rfl, _, rfl⟩

set_option maxHeartbeats 1000000 in
theorem sort_any (A : Option Addr) (c : Nat) (ls : List ByteArray) (n gl g cap base B : Nat) (w : World) (hn : ls.length = n) (hn6 : n ≤ 1000000)
    (hgl : w.cell? ⟨gl, 0, none⟩ = some (.slice A n c)) (hne : gl ≠ g) (ha : ReadT w B A ls) (hB : B ≤ g) (hown : OwnI w base (some ⟨g, 0, none⟩) cap (asI (List.range n))) :
    Calls Tryz.prog 130 #[.slice (some ⟨g, 0, none⟩) n cap, .func (.func 131) #[] #[.pointer (some ⟨gl, 0, none⟩)]] w fun e w' => e = .returned (.tuple #[]) ∧
      ∃ os : List Nat, os.Perm (List.range n) ∧ os.Pairwise (fun i j => ltB (lab ls j) (lab ls i) = false) ∧ OwnI w' base (some ⟨g, 0, none⟩) cap (asI os) ∧ w.grownBy w' (some g) := by
  match n, hn, hgl, hown with
  | 0, hn, hgl, hown =>
    refine (Tryz.slices_SortFunc_none (α := Nat) (some ⟨g, 0, none⟩) cap _ w).mono ?_
    rintro e w' ⟨rfl, rfl⟩
    exact ⟨rfl, [], by simp, .nil, hown, ⟨rfl, rfl, rfl, Nat.le_refl _, fun _ _ _ => rfl⟩⟩
  | n + 1, hn, hgl, hown =>
    have hglt := (OwnL.block hown g rfl).2
    have hgll := World.block_lt_of_cell? w _ hgl
    have hrange : (asI (List.range (n + 1))).length = n + 1 := by simp [asI]
    have hd : (List.finRange (n + 1)).toArray.size = n + 1 := by simp
    have hdl : ∀ j (hj : j < n + 1), (List.finRange (n + 1)).toArray[j]! = ⟨j, hj⟩ := fun j hj => by
      rw [getElem!_pos _ j (by simpa using hj)]
      simp
    have H := Tryz.slices_SortFunc (α := Fin (n + 1)) encF (fun _ => rfl) (cfF ls (n + 1)) (swo ls _) 131 #[.pointer (some ⟨gl, 0, none⟩)] g 0 cap (List.finRange (n + 1)).toArray w
      (enters_of Tryz.func131 (by kernel_rfl) rfl)
      (CmpReads.lays fun m os dk hdk x y => by
        rw [hd] at hdk
        have hgr := sortWorld_grown encF w g m dk os
        have hxl : x.val < ls.length := by rw [hn]; exact x.isLt
        have hyl : y.val < ls.length := by rw [hn]; exact y.isLt
        have ha2 : ReadT (sortWorld encF w g 0 m dk os) (sortWorld encF w g 0 m dk os).heap.size A ls := fun hne2 => by
          obtain ⟨b, o, rfl, hb, hc⟩ := ha hne2
          exact ⟨b, o, rfl, Nat.lt_of_lt_of_le (by omega) hgr.size, fun i s hs j u hu => hgr.cell (hc i s hs j u hu) (by simp; omega)⟩
        exact row2_any A c ls gl x.val y.val (lab ls x.val) (lab ls y.val) _ (by rw [hn]; exact hgr.cell hgl (by simp; omega)) ha2 (lab_at hxl) (lab_at hyl) (by omega))
      (fun j hj => by
        rw [hd] at hj
        rw [hdl j hj]
        have hj2 : (asI (List.range (n + 1)))[j]? = some (j : Int) := by simp [asI, hj]
        obtain ⟨b, o, hA, _, hc⟩ := ReadL.int (OwnL.read encI_len hown) hj2
        injection hA with hA
        injection hA with h1 h2 _
        subst h1 h2
        exact ⟨hc, by rw [Nat.zero_add]; exact World.ownsRow.frozenAt hown j⟩)
      hglt (by rw [hd]; omega)
    rw [hd] at H
    refine H.mono ?_
    rintro e w' ⟨rfl, d', k, os, ⟨hs, _, hperm⟩, hsorted, rfl⟩
    rw [hd] at hs
    refine ⟨rfl, d'.toList.map Fin.val, ?_, ?_, OwnL.sorted hown hrange d' hs k os, sortWorld_grown _ _ _ _ _ _⟩
    · have e1 : (d'.extract 0 (n + 1)).toList = d'.toList := by
        rw [Array.toList_extract, List.extract_eq_take_drop, Nat.sub_zero, List.drop_zero]
        exact List.take_of_length_le (by simp; omega)
      have e2 : ((List.finRange (n + 1)).toArray.extract 0 (n + 1)).toList = List.finRange (n + 1) := by
        rw [Array.toList_extract, List.extract_eq_take_drop, Nat.sub_zero, List.drop_zero]
        exact List.take_of_length_le (by simp)
      rw [e1, e2] at hperm
      refine (hperm.map Fin.val).trans (List.Perm.of_eq ?_)
      apply List.ext_getElem
      · simp
      · intro i h1 h2; simp
    · rw [List.pairwise_map, List.pairwise_iff_getElem]
      intro i j hi hj hij
      have hi' : i < d'.size := by simpa using hi
      have hj' : j < d'.size := by simpa using hj
      have := hsorted i j (Nat.zero_le _) hij (by omega)
      rw [ltOf_cf, getElem!_pos d' i hi', getElem!_pos d' j hj'] at this
      simpa using this

end Go.Proofs.YtmjdhfbnmmdjiaaGreat

/- ty.Row. -/
namespace Go.Proofs.YtmjdhfbnmmdjiaaGreat
open Go.RowKit

/-- A type as a part of a row: under a label. -/
def nameR (s : ByteArray) : List Nd → List Nd
  | [] => []
  | x :: ys => x.name s :: ys

def rowPart (ls : List ByteArray) (xss : List (List Nd)) (i : Nat) : List Nd := nameR (lab ls i) ((xss[i]?).getD [])

/-- A row's type: its parts in this order. -/
def rowNR (kind : Int) (ls : List ByteArray) (xss : List (List Nd)) (os : List Nat) : List Nd := ⟨kind, ByteArray.empty, (xss.length : Int)⟩ :: os.flatMap (rowPart ls xss)

def badRow (kind : Int) (ls : List ByteArray) (n : Nat) : Bool := !isRowB kind || !decide (ls.length = n) || decide (50 < n) || (decide (kind = 7) && decide (n = 0)) || oddFrom kind ls 0

def RowPost (kind : Int) (ls : List ByteArray) (xss : List (List Nd)) (w : World) (e : Ending) (w' : World) : Prop :=
  Below w.heap.size w w' ∧
  ((badRow kind ls xss.length = true ∧ e = .returned (.tuple #[.slice none 0 0, .int .i64 1])) ∨
   (badRow kind ls xss.length = false ∧ ¬ ls.Nodup ∧ e = .returned (.tuple #[.slice none 0 0, .int .i64 7])) ∨
   (badRow kind ls xss.length = false ∧ ∃ (os : List Nat) (A' : Option Addr) (cap' : Nat), os.Perm (List.range xss.length) ∧ os.Pairwise (fun i j => ltB (lab ls i) (lab ls j) = true) ∧
      e = .returned (.tuple #[.slice A' (rowNR kind ls xss os).length cap', .int .i64 0]) ∧ OwnN w' w.heap.size A' cap' (rowNR kind ls xss os)))

theorem strict_of {ls : List ByteArray} {os : List Nat} (h : os.Pairwise (fun i j => ltB (lab ls j) (lab ls i) = false))
    (hd : ∀ (j a b : Nat), os[j]? = some a → os[j + 1]? = some b → lab ls a ≠ lab ls b) : os.Pairwise (fun i j => ltB (lab ls i) (lab ls j) = true) := by
  rw [List.pairwise_iff_getElem] at h ⊢
  intro i j hi hj hij
  cases hlt : ltB (lab ls os[i]) (lab ls os[j])
  · exfalso
    have h1 : i + 1 < os.length := by omega
    have hle1 := h i (i + 1) hi h1 (by omega)
    have hge : ltB (lab ls os[i]) (lab ls os[i + 1]) = false := by
      by_cases hj1 : j = i + 1
      · subst hj1; exact hlt
      · exact ltB_ntrans hlt (h (i + 1) j h1 hj (by omega))
    exact hd i _ _ (List.getElem?_eq_getElem hi) (List.getElem?_eq_getElem h1) (ltB_eq hge hle1)
  · rfl

end Go.Proofs.YtmjdhfbnmmdjiaaGreat

/- ty.Row where nothing is odd. -/
namespace Go.Proofs.YtmjdhfbnmmdjiaaGreat
open Go.RowKit

theorem asI_range_succ (k : Nat) : asI (List.range (k + 1)) = asI (List.range k) ++ [(k : Int)] := by
  rw [List.range_succ, asI_append]
  rfl

theorem set_name (out ys : List Nd) (x : Nd) (s : ByteArray) : (out ++ x :: ys).set out.length (x.name s) = out ++ nameR s (x :: ys) := by
  rw [List.set_append_right _ _ (Nat.le_refl _)]
  simp [nameR]

theorem not_nodup {ls : List ByteArray} {os : List Nat} {k p i : Nat} (ho : os.Perm (List.range ls.length)) (hp : os[k]? = some p) (hi : os[k + 1]? = some i) (he : ((lab ls p).toList == (lab ls i).toList) = true) : ¬ ls.Nodup := by
  intro hn
  have hnd : os.Nodup := (ho.nodup_iff).2 List.nodup_range
  have hpl : p < ls.length := List.mem_range.1 ((ho.mem_iff).1 (List.mem_of_getElem? hp))
  have hil : i < ls.length := List.mem_range.1 ((ho.mem_iff).1 (List.mem_of_getElem? hi))
  have e1 : (lab ls p).toList = (lab ls i).toList := by simpa using he
  have e2 : lab ls p = lab ls i := by
    refine ltB_eq ?_ ?_
    · unfold ltB; rw [e1, bless_eq]; simp [List.lt_irrefl]
    · unfold ltB; rw [e1, bless_eq]; simp [List.lt_irrefl]
  have e3 : ls[p] = ls[i] := by
    have h1 := lab_at hpl
    have h2 := lab_at hil
    rw [List.getElem?_eq_getElem hpl] at h1
    rw [List.getElem?_eq_getElem hil] at h2
    injection h1 with h1
    injection h2 with h2
    rw [h1, h2, e2]
  have e4 : p = i := (List.getElem_inj hn).1 e3
  subst e4
  have h1 := getq_lt hp
  have h2 := getq_lt hi
  rw [List.getElem?_eq_getElem h1] at hp
  rw [List.getElem?_eq_getElem h2] at hi
  injection hp with hp
  injection hi with hi
  have := (List.getElem_inj hnd (h₀ := h1) (h₁ := h2)).1 (by rw [hp, hi])
  omega

set_option maxRecDepth 100000 in
set_option maxHeartbeats 8000000 in
theorem rowGood_any (L V : Option Addr) (cl cv : Nat) (kind : Int) (ls : List ByteArray) (vs : List (Option Addr × Nat × Nat)) (xss : List (List Nd)) (w : World) (hL : ReadT w w.heap.size L ls) (hV : ReadS w w.heap.size V vs) (hS : Sls w w.heap.size vs xss)
    (hne : ∀ xs ∈ xss, xs ≠ [] ∧ xs.length ≤ 1000000000) (hgood : badRow kind ls xss.length = false) :
    Calls Tryz.prog 103 #[.int .i64 kind, .slice L ls.length cl, .slice V vs.length cv] w (RowPost kind ls xss w) := by
  have hgood2 := hgood
  unfold badRow at hgood2
  simp only [Bool.or_eq_false_iff, Bool.not_eq_false', decide_eq_true_eq, decide_eq_false_iff_not, Bool.and_eq_false_iff] at hgood2
  obtain ⟨⟨⟨⟨h1, h2⟩, h3⟩, h4⟩, h5⟩ := hgood2
  have Hgood := Lib.hid hgood
  have hvl : vs.length = ls.length := by rw [hS.1, h2]
  have Hx := Lib.hid h2
  rw [hvl]
  have HS := Lib.hid hS.2
  have Hne := Lib.hid hne
  have h50 : ls.length ≤ 50 := by omega
  obtain ⟨W, hW⟩ : ∃ W, W = (w.alloc (.cells #[.int .i64 kind] 3)).alloc (.cells #[.slice L ls.length cl] 39) := ⟨_, rfl⟩
  have hWs : W.heap.size = w.heap.size + 2 := by rw [hW]; simp
  have hbW : Below w.heap.size w W := by rw [hW]; exact ext_alloc (ext_alloc (Below.refl _ _) _) _
  have c1 : W.cell? ⟨w.heap.size, 0, none⟩ = some (.int .i64 kind) := by rw [hW]; simp
  have c2 : W.cell? ⟨w.heap.size + 1, 0, none⟩ = some (.slice L ls.length cl) := by rw [hW]; simp
  have hL1 := ReadL.below hL hbW
  have hV1 := ReadL.below hV hbW
  have hT1 : Hid (∀ (i : Nat) (v : Option Addr × Nat × Nat) (xs : List Nd), vs[i]? = some v → xss[i]? = some xs → v.2.1 = xs.length ∧ TyA W w.heap.size v.1 xs) := Lib.hid fun i v xs hv hx => ⟨(HS.out i v xs hv hx).1, (HS.out i v xs hv hx).2.below hbW⟩
  have H1 := Lib.hid h1
  have H5 := Lib.hid h5
  have h7 : (kind == 7) = false ∨ ((kind == 7) = true ∧ ¬ ls.length = 0) := by
    by_cases h : kind = 7
    · refine .inr ⟨by simp [h], fun h0 => ?_⟩
      rcases h4 with h4 | h4
      · exact h4 h
      · omega
    · exact .inl (by simpa using h)
  generalize hnn : ls.length = n at *
  have Hnn := Lib.hid hnn
  clear h1 h2 h3 h4 h5 hgood hL hV hS hne hnn
  have h7' : (kind == 7) = false ∨ ((kind == 7) = true ∧ ((n : Int) == 0) = false) := by
    rcases h7 with h7 | ⟨h7, h0⟩
    · exact .inl h7
    · exact .inr ⟨h7, by rw [beq_eq_false_iff_ne]; omega⟩
  clear h7
  rcases h7' with h7 | ⟨h7, h0b⟩
  all_goals
    go_enter Tryz.func103, Tryz.ntmps103
    go_wp2_with fail
    rw [← hW]
    refine (isRow_any _ _ _ _).mono ?_
    rintro e w1 ⟨rfl, hbx⟩
    rw [H1.out]
    have c1' := (hbx.cell (p := ⟨w.heap.size, 0, none⟩) (by simp; omega)).trans c1
    have c2' := (hbx.cell (p := ⟨w.heap.size + 1, 0, none⟩) (by simp; omega)).trans c2
    have z1 := hbx.size
    go_wp2_with fail
    have hcon := containsStr_any L cl ls kind w.heap.size w1 (ReadL.more (ReadL.below hL1 (hbx.mono (by omega))) (by omega)) c1' (by omega) (by rw [Hnn.out]; omega)
    rw [Hnn.out] at hcon
    refine hcon.mono ?_
    rintro e w2 ⟨rfl, hby⟩
    rw [H5.out]
    have hb2 := ext_trans hbx hby
    clear hcon c1' c2' z1 hbx hby
    have z2 := hb2.size
    have c1' := (hb2.cell (p := ⟨w.heap.size, 0, none⟩) (by simp; omega)).trans c1
    have c2' := (hb2.cell (p := ⟨w.heap.size + 1, 0, none⟩) (by simp; omega)).trans c2
    go_wp2_with fail
    obtain ⟨w3, hmk, hown3, hgr3⟩ := make_int w2 W.heap.size n (by omega) z2
    rw [hmk]
    have hb3 := ext_trans hb2 (below_made hgr3)
    clear hb2 hgr3 c1' c2' hmk
    generalize hG : w2.heap.size = G at *
    have hGl : G < w3.heap.size := (OwnL.block hown3 G rfl).2
    go_wp2_with fail
    go_loopw [51] (fun k51 wr => ∃ (k : Nat) (M : List Int), k51 = .int .i64 k ∧ k ≤ n ∧ M.length = n ∧ OwnI wr W.heap.size (some ⟨G, 0, none⟩) n M ∧ Below W.heap.size W wr ∧ Hid (M.take k = asI (List.range k)))
      (fun k51 _ => n - (intOf k51).toNat)
    case atStart => exact ⟨0, List.replicate n 0, rfl, Nat.zero_le _, by simp, hown3, hb3, Lib.hid (by simp [asI])⟩
    case round =>
      clear hown3 hb3 hGl hG w2 z2
      obtain ⟨k, M, rfl, hk, hMl, hown, hbel, htk⟩ := hrel
      have zr := hbel.size
      have hGl : G < wr.heap.size := (OwnL.block hown G rfl).2
      by_cases hlt : k < n
      · obtain ⟨g, hg, hbg, hglt, ⟨m, hm, hcell⟩, hfz, hown2, hgr2⟩ := hown.setI (j := k) (by omega) (k : Int)
        injection hg with hg
        injection hg with hg1 _ _
        subst hg1
        have hbel2 := ext_set (p := ⟨G, k, none⟩) hbel hbg (.int .i64 (k : Int))
        have htk2 : Hid ((M.set k (k : Int)).take (k + 1) = asI (List.range (k + 1))) := Lib.hid (by rw [take_set_succ _ _ _ (by omega), htk.out, asI_range_succ])
        have hlen2 : (M.set k (k : Int)).length = n := by simp [hMl]
        clear hm
        go_wp2_with fail
        go_roundw
        case rel => exact ⟨k + 1, M.set k (k : Int), by go_num, by omega, hlen2, hown2, hbel2, htk2⟩
        case measure => simp [intOf]; omega
      · have hM : M = asI (List.range n) := by
          have hkk : k = n := by omega
          subst hkk
          rw [← htk.out, ← hMl, List.take_length]
        subst hM
        have c1' := (hbel.cell (p := ⟨w.heap.size, 0, none⟩) (by simp; omega)).trans c1
        have c2' := (hbel.cell (p := ⟨w.heap.size + 1, 0, none⟩) (by simp; omega)).trans c2
        have hbG := (OwnL.block hown G rfl).1
        clear htk hMl
        go_wp2_with fail
        refine (sort_any L cl ls n (w.heap.size + 1) G n W.heap.size w.heap.size wr Hnn.out (by omega) c2' (by omega) (ReadL.below hL1 (hbel.mono (by omega))) (by omega) hown).mono ?_
        rintro e w4 ⟨rfl, os, hperm, hsort, hown4, hgr4⟩
        have hbel4 : Below W.heap.size W w4 := hbel.grown hgr4 zr fun k hk => by injection hk with hk; omega
        have Hperm := Lib.hid hperm
        have Hsort := Lib.hid hsort
        have hosl : os.length = n := by rw [hperm.length_eq]; simp
        clear hlt hk hown hbel hgr4 hsort hperm c1' c2' zr hGl
        have z4 := hbel4.size
        have c1' := (hbel4.cell (p := ⟨w.heap.size, 0, none⟩) (by simp; omega)).trans c1
        have c2' := (hbel4.cell (p := ⟨w.heap.size + 1, 0, none⟩) (by simp; omega)).trans c2
        have hone := own_one w4 ⟨kind, ⟨#[]⟩, (n : Int)⟩
        have hbone := ext_alloc (Below.refl w4.heap.size w4) (.cells #[.int .i64 kind, .string ⟨#[]⟩, .int .i64 (n : Int)] 49)
        have hrow0 : ReadI w4 w4.heap.size (some ⟨G, 0, none⟩) (asI os) := OwnL.read encI_len hown4
        go_wp2_with fail
        clear c1' c2' hown4
        go_loopw [11, 69] (fun s11 i69 wr => ∃ (k : Nat) (A' : Option Addr) (cap' m : Nat) (out : List Nd), s11 = .slice A' m cap' ∧ i69 = .int .i64 k ∧ k ≤ n ∧ m ≤ 1 + k * 1000000000 ∧ OwnN wr w4.heap.size A' cap' out ∧ Below w4.heap.size w4 wr ∧
            Hid (m = out.length ∧ out = ⟨kind, ⟨#[]⟩, (n : Int)⟩ :: (os.take k).flatMap (rowPart ls xss)) ∧ Hid (∀ (j a b : Nat), j + 1 < k → os[j]? = some a → os[j + 1]? = some b → lab ls a ≠ lab ls b))
          (fun _ i69 _ => n - (intOf i69).toNat)
        case atStart => exact ⟨0, _, 1, 1, _, rfl, rfl, Nat.zero_le _, by omega, hone, hbone, Lib.hid ⟨rfl, by simp⟩, Lib.hid fun j a b h => by omega⟩
        case round =>
          clear hone hbone
          obtain ⟨k, A', cap', m, out, rfl, rfl, hk, hmk, hown, hbel, hout, hadj⟩ := hrel
          have zr := hbel.size
          have hbelW : Below W.heap.size W wr := hbel4.trans (hbel.mono z4)
          have c1' := (hbelW.cell (p := ⟨w.heap.size, 0, none⟩) (by simp; omega)).trans c1
          have c2' := (hbelW.cell (p := ⟨w.heap.size + 1, 0, none⟩) (by simp; omega)).trans c2
          have hLw := ReadL.below hL1 (hbelW.mono (by omega))
          have hVw := ReadL.below hV1 (hbelW.mono (by omega))
          by_cases hlt : k < n
          · obtain ⟨i, hi⟩ := getq_ex (show k < os.length by omega)
            have hin : i < n := List.mem_range.1 ((Hperm.out.mem_iff).1 (List.mem_of_getElem? hi))
            obtain ⟨gb, go, hgo, hglt, ho1⟩ := (ReadL.below hrow0 hbel).int (show (asI os)[k]? = some (i : Int) by simp [asI, hi])
            injection hgo with hgo
            injection hgo with hgo1 hgo2 _
            subst hgo1 hgo2
            rw [Nat.zero_add] at ho1
            obtain ⟨v, hv⟩ := getq_ex (show i < vs.length by omega)
            obtain ⟨xs, hxs⟩ := getq_ex (show i < xss.length by rw [← Hx.out]; exact hin)
            obtain ⟨hv1, hta⟩ := hT1.out i v xs hv hxs
            obtain ⟨xne, xlen⟩ := Hne.out xs (List.mem_of_getElem? hxs)
            obtain ⟨x, ys, rfl⟩ : ∃ x ys, xs = x :: ys := by
              cases xs with
              | nil => exact absurd rfl xne
              | cons x ys => exact ⟨x, ys, rfl⟩
            have hil : ls[i]? = some (lab ls i) := lab_at (by rw [Hnn.out]; exact hin)
            obtain ⟨lb, lo, rfl, hlb, hlc⟩ := hLw.str hil
            obtain ⟨vb, vo, rfl, hvb, hvc⟩ := hVw.slice hv
            rw [hv1] at hvc
            obtain ⟨hm, ho⟩ := hout.out
            have lblt : lb < wr.heap.size := by omega
            have vblt : vb < wr.heap.size := by omega
            have hstep : out ++ nameR (lab ls i) (x :: ys) = ⟨kind, ⟨#[]⟩, (n : Int)⟩ :: (os.take (k + 1)).flatMap (rowPart ls xss) := by
              rw [List.take_add_one, hi, List.flatMap_append, ho]
              simp [rowPart, hxs]
            have Hstep := Lib.hid hstep
            have Hi := Lib.hid hi
            have htaw : TyA wr w.heap.size v.1 (x :: ys) := hta.below (hbelW.mono (by omega))
            subst hm
            have Hil := Lib.hid hil
            clear hi hv hxs hta xne hil ho hstep hv1 hout hlt
            simp only [List.length_cons] at xlen
            have hlt : k < n := by have := getq_lt Hi.out; omega
            generalize hlab : lab ls i = s at *
            have Hlab := Lib.hid hlab
            cases k with
            | zero =>
              have Hadj := Lib.hid (show ∀ (j a b : Nat), j + 1 < 0 + 1 → os[j]? = some a → os[j + 1]? = some b → lab ls a ≠ lab ls b from fun j a b h => by omega)
              clear hadj hlab
              go_wp2_with fail
              go_quiet (fail)
              go_wp2_with (at_builtin; (refine wpList_appN rfl (.tmp 93) (.tmp 97) rfl w4.heap.size (l := out) rfl (OwnL.drewN hown _) (l2 := x :: ys) rfl (htaw.drewN _) (by simp; omega) (by simp; omega) ?_; intro A2 cap2 w5 hown5 hg5 _; have hbel5 : Below w4.heap.size w4 w5 := ext_app (ext_drewN hbel _) hg5 (fun k hk => (OwnL.block hown k hk).1); have hx5 : (out ++ x :: ys)[out.length]? = some x := (by simp); obtain ⟨g5, rfl, hbg5, hg5l, hcell5, hfz5, hown6, hgr6⟩ := OwnL.setN hown5 (j := out.length) (x := x) hx5 s; rw [set_name] at hown6; have hbel6 := ext_set (p := ⟨g5, out.length * 3 + 1, none⟩) hbel5 hbg5 (.string s); clear hx5; have hbW5 : Below W.heap.size W w5 := hbel4.trans (hbel5.mono z4); have c1x := (hbW5.cell (p := ⟨w.heap.size, 0, none⟩) (by simp; omega)).trans c1; have c2x := (hbW5.cell (p := ⟨w.heap.size + 1, 0, none⟩) (by simp; omega)).trans c2; have lbx := (hbel5.block lb (by omega)).trans (hbel.block lb (by omega)).symm; have hlx := (World.cell?_of_block (a := ⟨lb, lo + i, none⟩) lbx).trans hlc))
              go_roundw
              case rel => exact ⟨0 + 1, some ⟨g5, 0, none⟩, cap2, out.length + (ys.length + 1), out ++ nameR s (x :: ys), rfl, by go_num, by omega, by omega, hown6, hbel6, Lib.hid ⟨by simp [nameR], Hstep.out⟩, Hadj⟩
              case measure => simp [intOf]; omega
            | succ k =>
              obtain ⟨p, hp⟩ := getq_ex (show k < os.length by omega)
              have hpn : p < n := List.mem_range.1 ((Hperm.out.mem_iff).1 (List.mem_of_getElem? hp))
              obtain ⟨_, _, hgo, _, ho2⟩ := (ReadL.below hrow0 hbel).int (show (asI os)[k]? = some (p : Int) by simp [asI, hp])
              injection hgo with hgo
              injection hgo with hgo1 hgo2 _
              subst hgo1 hgo2
              rw [Nat.zero_add] at ho2
              obtain ⟨_, _, hl2, _, hlc2⟩ := hLw.str (lab_at (show p < ls.length by rw [Hnn.out]; exact hpn))
              simp only [Option.some.injEq, Addr.mk.injEq, and_true] at hl2
              obtain ⟨rfl, rfl⟩ := hl2
              generalize hlabp : lab ls p = sp at *
              have Hlabp := Lib.hid hlabp
              have Hp := Lib.hid hp
              clear hp
              cases he : (sp.toList == s.toList)
              · have Hadj := Lib.hid (show ∀ (j a b : Nat), j + 1 < k + 1 + 1 → os[j]? = some a → os[j + 1]? = some b → lab ls a ≠ lab ls b from fun j a b h ha hb => by
                  by_cases hj : j = k
                  · subst hj
                    rw [Hp.out] at ha
                    rw [Hi.out] at hb
                    injection ha with ha
                    injection hb with hb
                    subst ha hb
                    rw [Hlabp.out, Hlab.out]
                    intro e
                    rw [e] at he
                    simp at he
                  · exact hadj.out j a b (by omega) ha hb)
                clear hadj hlab hlabp
                go_wp2_with fail
                go_quiet (fail)
                go_wp2_with (at_builtin; (refine wpList_appN rfl (.tmp 93) (.tmp 97) rfl w4.heap.size (l := out) rfl (OwnL.drewN hown _) (l2 := x :: ys) rfl (htaw.drewN _) (by simp; omega) (by simp; omega) ?_; intro A2 cap2 w5 hown5 hg5 _; have hbel5 : Below w4.heap.size w4 w5 := ext_app (ext_drewN hbel _) hg5 (fun k hk => (OwnL.block hown k hk).1); have hx5 : (out ++ x :: ys)[out.length]? = some x := (by simp); obtain ⟨g5, rfl, hbg5, hg5l, hcell5, hfz5, hown6, hgr6⟩ := OwnL.setN hown5 (j := out.length) (x := x) hx5 s; rw [set_name] at hown6; have hbel6 := ext_set (p := ⟨g5, out.length * 3 + 1, none⟩) hbel5 hbg5 (.string s); clear hx5; have hbW5 : Below W.heap.size W w5 := hbel4.trans (hbel5.mono z4); have c1x := (hbW5.cell (p := ⟨w.heap.size, 0, none⟩) (by simp; omega)).trans c1; have c2x := (hbW5.cell (p := ⟨w.heap.size + 1, 0, none⟩) (by simp; omega)).trans c2; have lbx := (hbel5.block lb (by omega)).trans (hbel.block lb (by omega)).symm; have hlx := (World.cell?_of_block (a := ⟨lb, lo + i, none⟩) lbx).trans hlc))
                go_roundw
                case rel => exact ⟨k + 1 + 1, some ⟨g5, 0, none⟩, cap2, out.length + (ys.length + 1), out ++ nameR s (x :: ys), rfl, by go_num, by omega, by omega, hown6, hbel6, Lib.hid ⟨by simp [nameR], Hstep.out⟩, Hadj⟩
                case measure => simp [intOf]; omega
              · have Hnd := Lib.hid (not_nodup (by rw [Hnn.out]; exact Hperm.out) Hp.out Hi.out (by rw [Hlabp.out, Hlab.out]; exact he))
                clear hadj hlab hlabp
                go_wp2_with fail
                go_quiet (fail)
                go_wp2_with fail
                go_ret2
                exact ⟨ext_trans hbW (below_drewN hbelW _), .inr (.inl ⟨Hgood.out, Hnd.out, rfl⟩)⟩
          · have hkk : k = n := by omega
            go_wp2_with fail
            go_ret2
            obtain ⟨hm, ho⟩ := hout.out
            have hfin : out = rowNR kind ls xss os := by rw [ho, hkk, ← hosl, List.take_length, hosl]; unfold rowNR; rw [← Hx.out]; rfl
            subst hm
            rw [hfin] at hown ⊢
            refine ⟨ext_trans hbW hbelW, .inr (.inr ⟨Hgood.out, os, A', cap', by rw [← Hx.out]; exact Hperm.out, strict_of Hsort.out fun j a b ha hb => hadj.out j a b (by have := getq_lt hb; omega) ha hb, rfl, OwnL.lower hown (by omega)⟩)⟩
end Go.Proofs.YtmjdhfbnmmdjiaaGreat
