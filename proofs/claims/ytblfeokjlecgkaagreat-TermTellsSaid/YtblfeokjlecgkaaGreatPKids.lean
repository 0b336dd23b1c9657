/- The program's Kids. -/
import Derived.Test.YtblfeokjlecgkaaGreatPart
namespace Go.Proofs.YtblfeokjlecgkaaGreat
open Go.RowKit

set_option maxRecDepth 100000 in
set_option maxHeartbeats 2000000 in
theorem pKids_none (A : Option Addr) (c n : Nat) (i : Int) (w : World) (h : i < 0 ∨ (n : Int) ≤ i) :
    Calls Tryz.prog 41 #[.slice A n c, .int .i64 i] w fun e w' => e = .returned (.slice none 0 0) ∧ w = w' := by
  by_cases h0 : i < 0
  · clear h
    go_enter Tryz.func41, Tryz.ntmps41
    go_wp2_with fail
    go_ret
    exact ⟨rfl, rfl⟩
  · have h1 : (n : Int) ≤ i := by omega
    clear h
    go_enter Tryz.func41, Tryz.ntmps41
    go_wp2_with fail
    go_ret
    exact ⟨rfl, rfl⟩

/-- make([]int, n). -/
theorem make_int (w : World) (base n : Nat) (hn : n ≤ 1000000) (hbase : base ≤ w.heap.size) :
    ∃ w', (Instr.makeSlice 30 (.int .i64 (n : Int)) (.int .i64 (n : Int))).run Tryz.prog w = .ok (.slice (some ⟨w.heap.size, 0, none⟩) n n) w' ∧ OwnI w' base (some ⟨w.heap.size, 0, none⟩) n (List.replicate n 0) ∧ w.grownBy w' none := by
  obtain ⟨i0, hi, hz0, hz1, hz2⟩ := info_parts infoI
  obtain ⟨w', h1, h2, h3⟩ := run_makeSlice_full (w := w) base 30 3 i0 _ 1 Tryz.underlying30 hi hz0 hz1 .i64 .i64 n (by omega) (by rw [hz2]; omega) (by unfold maxLen; omega) hbase
  refine ⟨w', h1, ?_, h3⟩
  show w'.ownsRow base 3 1 (.slice (some ⟨w.heap.size, 0, none⟩) (List.replicate n (0 : Int)).length n) (List.replicate n (0 : Int)).length ((List.replicate n (0 : Int)).flatMap encI)
  rw [List.length_replicate, flatMap_encI, List.map_replicate]
  have e : (madeCells (Value.int .i64 0).cells (n * 1)).toList = List.replicate n (Value.int .i64 0) := by
    rw [Nat.mul_one]
    exact toList_madeCells_one _ _
  rw [← e]
  exact h2

theorem take_set_succ {α : Type} (l : List α) (k : Nat) (x : α) (h : k < l.length) : (l.set k x).take (k + 1) = l.take k ++ [x] := by
  rw [List.take_add_one, List.take_set_of_le (Nat.le_refl _), List.getElem?_set_self h]
  rfl

theorem below_made {w w' : World} (h : w.grownBy w' none) : Below w.heap.size w w' :=
  (Below.refl w.heap.size w).grown h (Nat.le_refl _) fun k hk => by cases hk

set_option maxRecDepth 100000 in
set_option maxHeartbeats 2000000 in
theorem pKids_any (A : Option Addr) (c : Nat) (T ks rest : List Nd) (x : Nd) (i : Nat) (w : World) (ha : TyA w w.heap.size A T) (hl : T.length ≤ 1000000) (hx : T[i]? = some x) (hxo : okNode x.k x.n = true) (hd : T.drop (i + 1) = ks ++ rest) (hok : okAll ks) (hf : Fo (manyN x) ks) :
    Calls Tryz.prog 41 #[.slice A T.length c, .int .i64 (i : Int)] w fun e w' =>
      ∃ A' cap', e = .returned (.slice A' (asI (kidsGo T (manyN x) (i + 1))).length cap') ∧ OwnI w' w.heap.size A' cap' (asI (kidsGo T (manyN x) (i + 1))) ∧ Below w.heap.size w w' := by
  have hi := getq_lt hx
  obtain ⟨b1, o1, rfl, hb1, c10, c11, c12⟩ := ha.at_ hx
  have Hm := Lib.hid ((manyP_ok hxo).trans (manyN_ok hxo))
  have hm50 := manyN_le hxo
  have Hd := Lib.hid hd
  have Hok := Lib.hid hok
  have Hf := Lib.hid hf
  have Hx := Lib.hid hx
  clear hd hok hf hx hxo
  have h0' : (0 : Int) ≤ (i : Int) := by omega
  have h1' : (i : Int) < (T.length : Int) := by omega
  have hd0 : decide ((i : Int) < 0) = false := by simp
  have hd1 : decide (T.length ≤ i) = false := by simp; omega
  generalize hM : manyN x = M at *
  go_enter Tryz.func41, Tryz.ntmps41
  go_wp2_with (go_at_call 56; refine (many_any _ _ _ _).mono ?_; rintro e w1 ⟨rfl, hbx⟩; rw [Hm.out])
  have hbel0 : Below w.heap.size w w1 := hbx
  obtain ⟨w2, hmk, hown2, hgr2⟩ := make_int w1 w.heap.size M (by omega) hbx.size
  rw [hmk]
  have hbel2 := ext_trans hbx (below_made hgr2)
  have z2 := hbel2.size
  generalize hG : w1.heap.size = G at *
  go_wp2_with fail
  go_loopw [6, 26] (fun i6 k26 wr => ∃ (k at_ : Nat) (L : List Int) (ps : List Nd), i6 = .int .i64 at_ ∧ k26 = .int .i64 k ∧ k ≤ M ∧ L.length = M ∧ at_ ≤ T.length ∧ Hid (T.drop at_ = ps ++ rest ∧ okAll ps ∧ Fo (M - k) ps) ∧
      OwnI wr w.heap.size (some ⟨G, 0, none⟩) M L ∧ Below w.heap.size w wr ∧ Hid (L.take k ++ asI (kidsGo T (M - k) at_) = asI (kidsGo T M (i + 1))))
    (fun _ k26 _ => M - (intOf k26).toNat)
  case atStart => exact ⟨0, i + 1, List.replicate M 0, ks, rfl, rfl, Nat.zero_le _, by simp, hi, Lib.hid ⟨Hd.out, Hok.out, Hf.out⟩, hown2, hbel2, Lib.hid (by simp)⟩
  case round =>
    clear hown2 hbel2 z2 hmk hgr2
    obtain ⟨k, at_, L, ps, rfl, rfl, hkM, hLl, hatl, hps, hown, hbel, hgood⟩ := hrel
    have zr := hbel.size
    by_cases hlt : k < M
    · obtain ⟨d, hd'⟩ : ∃ d, M - k = d + 1 := ⟨M - k - 1, by omega⟩
      obtain ⟨p1, p2, p3⟩ := hps.out
      rw [hd'] at p3
      obtain ⟨ts, ps', rfl, hts, hps'⟩ := p3.first
      rw [List.append_assoc] at p1
      have hat2 := drop_lt p1 hts.pos
      have hle : at_ + ts.length ≤ T.length := by
        have := congrArg List.length p1
        rw [List.length_drop, List.length_append] at this
        omega
      have Hps' := Lib.hid (show T.drop (at_ + ts.length) = ps' ++ rest ∧ okAll ps' ∧ Fo (M - (k + 1)) ps' from ⟨drop_more p1, okAll_right p2, by rw [show M - (k + 1) = d by omega]; exact hps'⟩)
      have Hend := Lib.hid (fun W h => pEnd_any (some ⟨b1, o1, none⟩) c T ts (ps' ++ rest) at_ W h hl p1 (okAll_left p2) hts)
      have hgood2 : Hid ((L.set k (at_ : Int)).take (k + 1) ++ asI (kidsGo T (M - (k + 1)) (at_ + ts.length)) = asI (kidsGo T M (i + 1))) := Lib.hid (by
        rw [← hgood.out, hd', kidsGo_step hat2, endGo_one p1 (okAll_left p2) hts, show M - (k + 1) = d by omega, take_set_succ _ _ _ (by omega)]
        simp [asI])
      clear hd' p1 p2 p3 hts hps' hps hgood
      obtain ⟨g, hg, hbg, hglt, ⟨m, hm, hcell⟩, hfz, hown3, hgr3⟩ := hown.setI (j := k) (by omega) (at_ : Int)
      injection hg with hg
      injection hg with hg1 _ _
      subst hg1
      have hbel3 := ext_set (p := ⟨G, k, none⟩) hbel hbg (.int .i64 (at_ : Int))
      have hlen3 : (L.set k (at_ : Int)).length = M := by simp [hLl]
      clear hm
      go_wp2_with (go_at_call 42; refine (Hend.out _ ((ha.below hbel3).more hbel3.size)).mono ?_; rintro e w4 ⟨rfl, hb4⟩)
      have hown4 := OwnL.below hown3 hb4 (Nat.le_refl _)
      go_roundw
      case rel => exact ⟨k + 1, at_ + ts.length, L.set k (at_ : Int), ps', rfl, by go_num, by omega, hlen3, hle, Hps', hown4, ext_trans hbel3 hb4, hgood2⟩
      case measure => simp [intOf]; omega
    · have hkk : k = M := by omega
      subst hkk
      have hout : L = asI (kidsGo T k (i + 1)) := by
        rw [← hgood.out, Nat.sub_self, ← hLl, List.take_length]
        simp [kidsGo, asI]
      clear hgood hps
      go_wp2_with fail
      go_ret
      rw [← hout]
      exact ⟨_, _, by rw [hLl]; rfl, hown, hbel⟩
end Go.Proofs.YtblfeokjlecgkaaGreat
