/- The law: alive, and SearchEnough. -/
import Derived.Test.YtmjdhfbnmmdjiaaDoorS05
namespace Go.Proofs.YtmjdhfbnmmdjiaaDoor
open Go.RowKit

attribute [local go_sem ↓] Go.wp_at_zero Go.wp_at_succ

theorem setI_two (w : World) (x y : Int) : SetAt (w.alloc (.cells #[.int .i64 x, .int .i64 y] 3)) (w.heap.size + 1) (some ⟨w.heap.size, 0, none⟩, 2, 2) [x, y] := ⟨rfl, Nat.le_refl _, fun _ => by
  refine ⟨w.heap.size, 0, rfl, by omega, fun i z hz j u hu => ?_⟩
  match i, hz with
  | 0, hz =>
    simp only [List.getElem?_cons_zero, Option.some.injEq] at hz
    subst hz
    match j, hu with
    | 0, hu =>
      simp [encI] at hu
      subst hu
      simp
    | j + 1, hu => simp [encI] at hu
  | 1, hz =>
    simp only [List.getElem?_cons_succ, List.getElem?_cons_zero, Option.some.injEq] at hz
    subst hz
    match j, hu with
    | 0, hu =>
      simp [encI] at hu
      subst hu
      simp
    | j + 1, hu => simp [encI] at hu
  | i + 2, hz => simp at hz⟩
theorem readR_two (w : World) (v u : Option Addr × Nat × Nat) : ReadS (w.alloc (.cells #[.slice v.1 v.2.1 v.2.2, .slice u.1 u.2.1 u.2.2] 29)) (w.heap.size + 1) (some ⟨w.heap.size, 0, none⟩) [v, u] := fun _ => by
  refine ⟨w.heap.size, 0, rfl, by omega, fun i z hz j u hu => ?_⟩
  match i, hz with
  | 0, hz =>
    simp only [List.getElem?_cons_zero, Option.some.injEq] at hz
    subst hz
    match j, hu with
    | 0, hu =>
      simp [encS] at hu
      subst hu
      simp
    | j + 1, hu => simp [encS] at hu
  | 1, hz =>
    simp only [List.getElem?_cons_succ, List.getElem?_cons_zero, Option.some.injEq] at hz
    subst hz
    match j, hu with
    | 0, hu =>
      simp [encS] at hu
      subst hu
      simp
    | j + 1, hu => simp [encS] at hu
  | i + 2, hz => simp at hz
theorem sets_one {w : World} {B : Nat} {v : Option Addr × Nat × Nat} {xs : List Int} (h : SetAt w B v xs) : SetsAt w B [v] [xs] := SetsAt.app SetsAt.nil h
theorem sets_two {w : World} {B : Nat} {v u : Option Addr × Nat × Nat} {xs ys : List Int} (h : SetAt w B v xs) (k : SetAt w B u ys) : SetsAt w B [v, u] [xs, ys] := SetsAt.app (sets_one h) k

/-- The bad sets, made anew. -/
def badW (w : World) : World := (w.alloc (.cells #[.int .i64 1, .int .i64 2] 3)).alloc (.cells #[.slice (some ⟨w.heap.size, 0, none⟩) 2 2] 29)
theorem badW_below (w : World) : Below w.heap.size w (badW w) := ext_alloc (ext_alloc (Below.refl _ _) _) _
theorem badW_at (w : World) : ReadS (badW w) (badW w).heap.size (some ⟨w.heap.size + 1, 0, none⟩) [(some ⟨w.heap.size, 0, none⟩, 2, 2)] ∧ SetsAt (badW w) (badW w).heap.size [(some ⟨w.heap.size, 0, none⟩, 2, 2)] bads0 := by
  have h1 := readR_new (w.alloc (.cells #[.int .i64 1, .int .i64 2] 3)) (some ⟨w.heap.size, 0, none⟩, 2, 2)
  have h2 := setI_two w 1 2
  have hb : Below (w.heap.size + 1) (w.alloc (.cells #[.int .i64 1, .int .i64 2] 3)) (badW w) := (Below.refl _ _).alloc (by simp) _
  have hs : (badW w).heap.size = w.heap.size + 2 := by unfold badW; simp
  rw [World.size_alloc] at h1
  exact ⟨ReadL.more h1 (by omega), sets_one ((h2.below hb).more (by omega))⟩
/-- The wanted sets, made anew. -/
def wantW (w : World) : World := ((w.alloc (.cells #[.int .i64 1, .int .i64 3] 3)).alloc (.cells #[.int .i64 2, .int .i64 3] 3)).alloc (.cells #[.slice (some ⟨w.heap.size, 0, none⟩) 2 2, .slice (some ⟨w.heap.size + 1, 0, none⟩) 2 2] 29)
theorem wantW_below (w : World) : Below w.heap.size w (wantW w) := ext_alloc (ext_alloc (ext_alloc (Below.refl _ _) _) _) _
theorem wantW_at (w : World) : ReadS (wantW w) (wantW w).heap.size (some ⟨w.heap.size + 2, 0, none⟩) [(some ⟨w.heap.size, 0, none⟩, 2, 2), (some ⟨w.heap.size + 1, 0, none⟩, 2, 2)] ∧ SetsAt (wantW w) (wantW w).heap.size [(some ⟨w.heap.size, 0, none⟩, 2, 2), (some ⟨w.heap.size + 1, 0, none⟩, 2, 2)] [[1, 3], [2, 3]] := by
  obtain ⟨w1, hw1⟩ : ∃ w1, w1 = w.alloc (.cells #[.int .i64 1, .int .i64 3] 3) := ⟨_, rfl⟩
  obtain ⟨w2, hw2⟩ : ∃ w2, w2 = w1.alloc (.cells #[.int .i64 2, .int .i64 3] 3) := ⟨_, rfl⟩
  have e : wantW w = w2.alloc (.cells #[.slice (some ⟨w.heap.size, 0, none⟩) 2 2, .slice (some ⟨w.heap.size + 1, 0, none⟩) 2 2] 29) := by rw [hw2, hw1]; rfl
  have s1 : w1.heap.size = w.heap.size + 1 := by rw [hw1]; simp
  have s2 : w2.heap.size = w.heap.size + 2 := by rw [hw2, World.size_alloc, s1]
  have h0 := setI_two w 1 3
  rw [← hw1] at h0
  have h1 := setI_two w1 2 3
  rw [← hw2, s1] at h1
  have h2 := readR_two w2 (some ⟨w.heap.size, 0, none⟩, 2, 2) (some ⟨w.heap.size + 1, 0, none⟩, 2, 2)
  have hb1 : Below (w.heap.size + 1) w1 w2 := by rw [hw2, ← s1]; exact ext_alloc (Below.refl _ _) _
  have hb2 : Below (w.heap.size + 2) w2 (wantW w) := by rw [e, ← s2]; exact ext_alloc (Below.refl _ _) _
  have s3 : (wantW w).heap.size = w.heap.size + 3 := by rw [e, World.size_alloc, s2]
  have h2 : ReadS (wantW w) (w2.heap.size + 1) (some ⟨w2.heap.size, 0, none⟩) [(some ⟨w.heap.size, 0, none⟩, 2, 2), (some ⟨w.heap.size + 1, 0, none⟩, 2, 2)] := by rw [e]; exact h2
  rw [s2] at h2
  exact ⟨ReadL.more h2 (by omega), sets_two (((h0.below hb1).below (hb2.mono (by omega))).more (by omega)) ((h1.below hb2).more (by omega))⟩

def AlivePost (w : World) (e : Ending) (w' : World) : Prop := e = .returned (.bool true) ∧ Below w.heap.size w w'

set_option maxRecDepth 100000 in
set_option maxHeartbeats 8000000 in
theorem alive17_any (w : World) (ht : Tab w w.heap.size) :
    Calls Tryd.prog 4 #[] w (AlivePost w) := by
  have HT := Lib.hid ht
  have He := Lib.hid (fun w => enough_any 3 w)
  have Hm : Hid (∀ (limit : Int) (v : World), Below w.heap.size w v → Calls Tryd.prog 7 #[.int .i64 3, .slice (some ⟨v.heap.size + 1, 0, none⟩) 1 1, .int .i64 40, .int .i64 limit] (badW v) (MaxPost limit (badW v))) := Lib.hid fun limit v hv =>
    maximal_any _ 1 _ limit (badW v) (badW_at v).1 (badW_at v).2 rfl (((ht.below hv).more hv.size).below (badW_below v) |>.more (badW_below v).size)
  clear ht
  have henv : ∀ v : World, (v.alloc (.cells #[.int .i64 1, .int .i64 2] 3)).alloc (.cells #[.slice (some ⟨v.heap.size, 0, none⟩) 2 2] 29) = badW v := fun _ => rfl
  have henw : ∀ w : World, ((w.alloc (.cells #[.int .i64 1, .int .i64 3] 3)).alloc (.cells #[.int .i64 2, .int .i64 3] 3)).alloc (.cells #[.slice (some ⟨w.heap.size, 0, none⟩) 2 2, .slice (some ⟨w.heap.size + 1, 0, none⟩) 2 2] 29) = wantW w := fun _ => rfl
  go_enter Tryd.func4, Tryd.ntmps4
  go_wp2_with fail
  refine (He.out _).mono ?_
  rintro e w1 ⟨rfl, rfl⟩
  rw [enough3]
  go_wp2_with fail
  refine (Hm.out 2 w (Below.refl _ _)).mono ?_
  rintro e w2 ⟨A, c, us, hb2, hrow, he⟩
  have he : e = .returned (.tuple #[.slice A 2 c, .int .i64 0]) := he.trans (if_neg (by decide))
  subst he
  have HB2 : Hid (Below w.heap.size w w2) := Lib.hid ((badW_below w).trans (hb2.mono (badW_below w).size))
  have HR : Hid (ReadS w2 w2.heap.size A us ∧ SetsAt w2 w2.heap.size us [[1, 3], [2, 3]]) := Lib.hid ⟨hrow.read, hrow.sets⟩
  clear hb2 hrow
  go_wp2_with fail
  refine (He.out _).mono ?_
  rintro e w1 ⟨rfl, rfl⟩
  rw [enough3]
  go_wp2_with fail
  refine (Hm.out 1 w2 HB2.out).mono ?_
  rintro e w3 ⟨A3, c3, us3, hb3, _, he⟩
  have he : e = .returned (.tuple #[.slice none 0 0, .int .i64 11]) := he.trans (if_pos (by decide))
  subst he
  have hb3 : Below w2.heap.size w2 w3 := (badW_below w2).trans (hb3.mono (badW_below w2).size)
  have HB3 : Hid (Below w.heap.size w w3) := Lib.hid (HB2.out.trans (hb3.mono HB2.out.size))
  have HR3 : Hid (ReadS w3 w3.heap.size A us ∧ SetsAt w3 w3.heap.size us [[1, 3], [2, 3]]) := Lib.hid ⟨(ReadL.below HR.out.1 hb3).more hb3.size, (HR.out.2.below hb3).more hb3.size⟩
  clear hb3
  go_wp2_with fail
  refine (He.out _).mono ?_
  rintro e w1 ⟨rfl, rfl⟩
  rw [enough3]
  go_wp2_with fail
  have hw := wantW_below w1
  have Hs := Lib.hid (sameS_any A _ c 2 us _ [[1, 3], [2, 3]] (wantW w1) ((ReadL.below HR3.out.1 hw).more hw.size) ((HR3.out.2.below hw).more hw.size) (wantW_at w1).1 (wantW_at w1).2 (by decide) (by decide))
  refine Hs.out.mono ?_
  rintro e w4 ⟨rfl, hb4⟩
  have HB4 : Hid (Below w.heap.size w w4) := Lib.hid (HB3.out.trans ((hw.trans (hb4.mono hw.size)).mono HB3.out.size))
  clear hb4 hw
  go_wp2_with fail
  go_ret
  exact ⟨rfl, HB4.out⟩

set_option maxRecDepth 100000 in
set_option maxHeartbeats 8000000 in
theorem law17_any (n : Int) (w : World) (ht : Tab w w.heap.size) :
    Calls Tryd.prog 3 #[.int .i64 n] w (AlivePost w) := by
  have Ha := Lib.hid (alive17_any w ht)
  have He := Lib.hid (fun w => enough_any n w)
  have Hr := Lib.hid (fun w => refEnough_any n w)
  clear ht
  go_enter Tryd.func3, Tryd.ntmps3
  go_wp2_with fail
  refine Ha.out.mono ?_
  rintro e w1 ⟨rfl, hb⟩
  have HB := Lib.hid hb
  clear hb
  go_wp2_with fail
  refine (He.out _).mono ?_
  rintro e w2 ⟨rfl, rfl⟩
  go_wp2_with fail
  refine (Hr.out _).mono ?_
  rintro e w3 ⟨rfl, rfl⟩
  go_wp2_with fail
  go_ret
  exact ⟨ret_bool (by simp), HB.out⟩

theorem searchEnough_law (n : Int) (w : World) (ht : Tab w w.heap.size) :
    Calls Tryd.prog 3 #[.int .i64 n] w fun e w' => e = .returned (.bool true) ∧ Below w.heap.size w w' := law17_any n w ht
end Go.Proofs.YtmjdhfbnmmdjiaaDoor
