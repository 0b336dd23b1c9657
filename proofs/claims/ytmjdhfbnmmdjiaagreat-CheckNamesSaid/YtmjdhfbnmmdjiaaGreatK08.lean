/- Laid together by a tool from the texts of this seat: ChF ChG Sort. Conditions: each theorem's own. -/
import Derived.Test.YtmjdhfbnmmdjiaaGreatK07
import Derived.Test.YtmjdhfbnmmdjiaaGreatK05
/- prec.Call, Field, Tags. -/
namespace Go.Proofs.YtmjdhfbnmmdjiaaGreat
open Go.RowKit

/-- The children of a type, each a tree. -/
def kidsL : List Nd → List (List Nd)
  | [] => []
  | x :: xt => splitF (manyN x) xt
def dynN : List Nd := [⟨0, ByteArray.empty, 0⟩]
/-- What a function takes and tells. -/
def callM (t : List Nd) : Option (List Nd × List Nd) :=
  if (headNd t).k = 0 then some (dynN, dynN) else
  if (headNd t).k = 5 then some (bareN ((kidsL t).headD []), bareN ((kidsL t).tail.headD [])) else none
/-- What has a label. -/
def fieldM (t : List Nd) (s : ByteArray) : Option (List Nd) :=
  if (headNd t).k = 0 then some dynN else
  if isRowB (headNd t).k = true then ((kidsL t).find? fun ts => (headNd ts).s.toList == s.toList).map bareN else none
/-- A union's tags. -/
def tagsM (t : List Nd) : Option (List ByteArray) :=
  if (headNd t).k = 0 then some [] else
  if (headNd t).k = 7 then some ((kidsL t).map fun ts => (headNd ts).s) else none

/-- Where the children lie. -/
theorem kidsGo_split {T : List Nd} : ∀ (n at_ : Nat) (ks rest : List Nd), T.drop at_ = ks ++ rest → okAll ks → Fo n ks → ∀ (j pos : Nat), (kidsGo T n at_)[j]? = some pos → ∃ ts r, (splitF n ks)[j]? = some ts ∧ T.drop pos = ts ++ r ∧ Fo 1 ts ∧ okAll ts
  | 0, _, _, _, _, _, _, j, pos, h => by simp [kidsGo] at h
  | n + 1, at_, ks, rest, hd, hok, hf, j, pos, h => by
    obtain ⟨ts, rs, rfl, h1, h2⟩ := hf.first
    rw [List.append_assoc] at hd
    have hlt : at_ < T.length := drop_lt hd h1.pos
    have h3 := endGo_one hd (okAll_left hok) h1
    unfold kidsGo at h
    rw [if_pos hlt, h3] at h
    have hr : rest1 (ts ++ rs) = rs := rest1_fo h1
    have hs : splitF (n + 1) (ts ++ rs) = ts :: splitF n rs := by
      show (ts ++ rs).take ((ts ++ rs).length - (rest1 (ts ++ rs)).length) :: splitF n (rest1 (ts ++ rs)) = _
      rw [hr, List.length_append, Nat.add_sub_cancel, List.take_left]
    cases j with
    | zero =>
      simp at h
      subst h
      exact ⟨ts, rs ++ rest, by rw [hs]; rfl, hd, h1, okAll_left hok⟩
    | succ j =>
      rw [List.getElem?_cons_succ] at h
      obtain ⟨us, r, e1, e2, e3, e4⟩ := kidsGo_split n (at_ + ts.length) rs rest (drop_more hd) (okAll_right hok) h2 j pos h
      exact ⟨us, r, by rw [hs, List.getElem?_cons_succ]; exact e1, e2, e3, e4⟩
theorem splitF_len : ∀ (n : Nat) (ks : List Nd), (splitF n ks).length = n
  | 0, _ => rfl
  | n + 1, ks => by simp [splitF, splitF_len n]

/-- The first one by its name. -/
theorem find_idx {α : Type} {p : α → Bool} : ∀ (l : List α), (l.findIdx? p = none ∧ l.find? p = none) ∨ ∃ k x, l.findIdx? p = some k ∧ l[k]? = some x ∧ l.find? p = some x
  | [] => .inl ⟨rfl, rfl⟩
  | x :: l => by
    cases hp : p x with
    | true => exact .inr ⟨0, x, by simp [List.findIdx?_cons, hp], rfl, by simp [hp]⟩
    | false =>
      rcases find_idx (p := p) l with ⟨h1, h2⟩ | ⟨k, y, h1, h2, h3⟩
      · exact .inl ⟨by simp [List.findIdx?_cons, hp, h1], by simp [hp, h2]⟩
      · exact .inr ⟨k + 1, y, by simp [List.findIdx?_cons, hp, h1], by simpa using h2, by simp [hp, h3]⟩

theorem pisRow_any (A : Option Addr) (c : Nat) (x : Nd) (xt : List Nd) (w : World) (ha : TyA w w.heap.size A (x :: xt)) :
    Calls Tryz.prog 116 #[.slice A (x :: xt).length c] w fun e w' => e = .returned (.bool (isRowB x.k)) ∧ Below w.heap.size w w' := by
  obtain ⟨b, o, rfl, hb, c0, _, _⟩ := ha.at_ (i := 0) (x := x) rfl
  rw [show o + 0 * 3 = o by omega] at c0
  clear ha
  simp only [List.length_cons]
  go_enter Tryz.func116, Tryz.ntmps116
  by_cases h6 : x.k = 6
  · have b6 : (x.k == 6) = true := by simp [h6]
    have hr : isRowB x.k = true := by simp [isRowB, h6]
    have HR := Lib.hid hr
    clear h6 hr
    go_wp2_with fail
    go_ret
    exact ⟨by rw [HR.out]; rfl, Below.refl _ _⟩
  · have b6 : (x.k == 6) = false := by simp [h6]
    have hr : isRowB x.k = (x.k == 7) := by simp [isRowB, h6]
    have HR := Lib.hid hr
    clear h6 hr
    go_wp2_with fail
    go_ret
    exact ⟨by rw [HR.out]; rfl, Below.refl _ _⟩

theorem own_two (w : World) : OwnN ((w.alloc (.cells #[.int .i64 0, .string ByteArray.empty, .int .i64 0] 49)).alloc (.cells #[.int .i64 0, .string ByteArray.empty, .int .i64 0] 49)) w.heap.size (some ⟨w.heap.size + 1, 0, none⟩) 1 dynN := by
  have h := own_one (w.alloc (.cells #[.int .i64 0, .string ByteArray.empty, .int .i64 0] 49)) ⟨0, ByteArray.empty, 0⟩
  rw [World.size_alloc] at h
  exact OwnL.lower h (by omega)

/-- What a call tells. -/
def CallPost (t : List Nd) (w : World) (e : Ending) (w' : World) : Prop :=
  Below w.heap.size w w' ∧ match callM t with
    | some (a, b) => ∃ A1 c1 A2 c2, e = .returned (.tuple #[.slice A1 a.length c1, .slice A2 b.length c2, .int .i64 0]) ∧ OwnN w' w.heap.size A1 c1 a ∧ OwnN w' w.heap.size A2 c2 b
    | none => e = .returned (.tuple #[.slice none 0 0, .slice none 0 0, .int .i64 9])

set_option maxRecDepth 100000 in
set_option maxHeartbeats 4000000 in
theorem call_any (A : Option Addr) (c : Nat) (t : List Nd) (w : World) (ha : TyA w w.heap.size A t) (g : Gd t) (hc : t.length ≤ c) :
    Calls Tryz.prog 98 #[.slice A t.length c] w (CallPost t w) := by
  rcases t with _ | ⟨x, xt⟩
  · exact absurd g.fo.pos (by simp)
  obtain ⟨b, o, rfl, hb, c0, _, _⟩ := ha.at_ (i := 0) (x := x) rfl
  rw [show o + 0 * 3 = o by omega] at c0
  have HA := Lib.hid (And.intro ha g)
  have hl := g.len
  simp only [List.length_cons] at hl hc
  clear ha g
  simp only [List.length_cons]
  go_enter Tryz.func98, Tryz.ntmps98
  by_cases h0 : x.k = 0
  · have b0 : (x.k == 0) = true := by simp [h0]
    have HR : Hid (callM (x :: xt) = some (dynN, dynN)) := Lib.hid (by simp [callM, headNd, h0])
    clear h0
    go_wp2_with fail
    go_ret3
    refine ⟨ext_alloc (ext_alloc (Below.refl _ _) _) _, ?_⟩
    rw [HR.out]
    exact ⟨_, 1, _, 1, rfl, OwnL.alloc (own_one w ⟨0, ByteArray.empty, 0⟩) _, own_two w⟩
  · have b0 : (x.k == 0) = false := by simp [h0]
    by_cases h5 : x.k = 5
    · have b5 : (x.k == 5) = true := by simp [h5]
      have hm : manyN x = 2 := by simp [manyN, many, h5]
      have hk := HA.out.2.fo.kids
      rw [hm] at hk
      obtain ⟨ta, tb, hxt, f1, f3⟩ : ∃ ta tb, xt = ta ++ tb ∧ Fo 1 ta ∧ Fo 1 tb := by
        obtain ⟨ta, rs, e1, f1, f2⟩ := hk.first
        exact ⟨ta, rs, e1, f1, f2⟩
      have ok1 : okAll (ta ++ tb) := fun z hz => HA.out.2.ok z (List.mem_cons_of_mem _ (by rw [hxt]; exact hz))
      have HR : Hid (callM (x :: xt) = some (bareN ta, bareN tb)) := Lib.hid (by
        have e1 : rest1 (ta ++ tb) = tb := rest1_fo f1
        have e2 : rest1 (tb ++ []) = [] := rest1_fo f3
        rw [List.append_nil] at e2
        simp [callM, headNd, h5, kidsL, hm, splitF, hxt, e1, e2])
      have HP1 := Lib.hid (part_any (some ⟨b, o, none⟩) c (x :: xt) ta tb 1 w HA.out.1 HA.out.2.len (by simp; omega) hxt (okAll_left ok1) f1)
      have HP2 := Lib.hid (fun v (hv : Below w.heap.size w v) => pEnd_any (some ⟨b, o, none⟩) c (x :: xt) ta tb 1 v ((HA.out.1.below hv).more hv.size) HA.out.2.len hxt (okAll_left ok1) f1)
      have HP3 := Lib.hid (fun v (hv : Below w.heap.size w v) => part_any (some ⟨b, o, none⟩) c (x :: xt) tb [] (1 + ta.length) v ((HA.out.1.below hv).more hv.size) HA.out.2.len (by simp; omega) (by rw [Nat.add_comm, List.drop_succ_cons, hxt, List.drop_left, List.append_nil]) (okAll_right ok1) f3)
      obtain ⟨la, hla⟩ : ∃ la, la = 1 + ta.length := ⟨_, rfl⟩
      rw [← hla] at HP2 HP3
      clear hm hk f1 f3 ok1 h0 h5 hxt hla
      go_wp2_with fail
      refine HP1.out.mono ?_
      rintro e w1 ⟨A1, c1, rfl, hown1, hb1⟩
      have H1 := Lib.hid (And.intro hown1 hb1)
      clear hown1 hb1
      go_wp2_with fail
      refine (HP2.out _ H1.out.2).mono ?_
      rintro e w2 ⟨rfl, hb2⟩
      have H2 : Hid (OwnN w2 w.heap.size A1 c1 (bareN ta) ∧ Below w.heap.size w w2) := Lib.hid ⟨H1.out.1.below hb2 (Nat.le_refl _), ext_trans H1.out.2 hb2⟩
      clear hb2
      go_wp2_with fail
      refine (HP3.out w2 H2.out.2).mono ?_
      rintro e w3 ⟨A3, c3, rfl, hown3, hb3⟩
      have H3 : Hid (OwnN w3 w.heap.size A1 c1 (bareN ta) ∧ OwnN w3 w.heap.size A3 c3 (bareN tb) ∧ Below w.heap.size w w3) := Lib.hid ⟨H2.out.1.below hb3 (Nat.le_refl _), OwnL.lower hown3 H2.out.2.size, ext_trans H2.out.2 hb3⟩
      clear hown3 hb3
      go_wp2_with fail
      go_ret3
      refine ⟨H3.out.2.2, ?_⟩
      rw [HR.out]
      exact ⟨_, _, _, _, rfl, H3.out.1, H3.out.2.1⟩
    · have b5 : (x.k == 5) = false := by simp [h5]
      have HR : Hid (callM (x :: xt) = none) := Lib.hid (by simp [callM, headNd, h0, h5])
      clear h0 h5
      go_wp2_with fail
      go_ret3
      exact ⟨Below.refl _ _, by rw [HR.out]; rfl⟩
/-- A closure over two boxes, asked of a number. -/
def Ask2 (w : World) (K : FuncId) (c1 c2 : Value) (v : Value) (p : Bool) : Prop := ∀ w', Below w.heap.size w w' → Calls Tryz.prog K #[v, c1, c2] w' fun e w'' => e = .returned (.bool p) ∧ Below w'.heap.size w' w''
theorem any_take {α : Type} {p : α → Bool} {xs : List α} {i : Nat} {x : α} (hx : xs[i]? = some x) (h : (xs.take i).any p = false) : (xs.take (i + 1)).any p = p x := by
  rw [List.take_add_one, hx, List.any_append, h]
  simp
theorem findIdx_at {α : Type} {p : α → Bool} : ∀ {xs : List α} {i : Nat} {x : α}, xs[i]? = some x → p x = true → (xs.take i).any p = false → xs.findIdx? p = some i
  | [], i, x, h, _, _ => by simp at h
  | y :: ys, 0, x, h, hp, _ => by
    simp at h
    subst h
    simp [List.findIdx?_cons, hp]
  | y :: ys, i + 1, x, h, hp, ht => by
    rw [List.getElem?_cons_succ] at h
    rw [List.take_succ_cons, List.any_cons, Bool.or_eq_false_iff] at ht
    simp [List.findIdx?_cons, ht.1, findIdx_at h hp ht.2]

set_option maxRecDepth 100000 in
set_option maxHeartbeats 8000000 in
theorem idx2_any (K : FuncId) (c1 c2 : Value) (eg : ∀ args w, (callFunc K args).run Tryz.prog w = .ok (.enter K args) w) (p : Int → Bool) (A : Option Addr) (c : Nat) (xs : List Int) (w : World) (hx : ReadI w w.heap.size A xs) (hl : xs.length ≤ 1000000) (hp : ∀ x ∈ xs, Ask2 w K c1 c2 (.int .i64 x) (p x)) :
    Calls Tryz.prog 114 #[.slice A xs.length c, .func (.func K) #[] #[c1, c2]] w fun e w' => ((xs.findIdx? p = none ∧ e = .returned (.int .i64 (-1))) ∨ ∃ k : Nat, xs.findIdx? p = some k ∧ e = .returned (.int .i64 (k : Int))) ∧ Below w.heap.size w w' := by
  have H := Lib.hid hx
  have HP := Lib.hid hp
  clear hx hp
  go_enter Tryz.func114, Tryz.ntmps114
  go_upto_region 2 with fail
  go_loopw [5, 8] (fun _ s8 wr => ∃ i : Nat, s8 = .int .i64 i ∧ i ≤ xs.length ∧ Hid ((xs.take i).any p = false ∧ Below w.heap.size w wr)) (fun _ s8 _ => xs.length - (Lib.intOf s8).toNat)
  case atStart => exact ⟨0, rfl, Nat.zero_le _, Lib.hid ⟨rfl, Below.refl _ _⟩⟩
  case round =>
    obtain ⟨i, rfl, hi, HR⟩ := hrel
    by_cases hl2 : i < xs.length
    · obtain ⟨x, hx⟩ := getq_ex hl2
      obtain ⟨b, o, rfl, hb, hc⟩ := ReadL.below H.out HR.out.2 (fun e => by rw [e] at hx; simp at hx)
      have c0 : wr.cell? ⟨b, o + i, none⟩ = some (.int .i64 x) := by
        have := hc i x hx 0 _ rfl
        rwa [Nat.mul_one, Nat.add_zero] at this
      have HQ := Lib.hid (HP.out x (List.mem_of_getElem? hx) wr HR.out.2)
      have HX := Lib.hid hx
      have hwi : IntKind.i64.wrap ((i : Int) + 1) = ((i + 1 : Nat) : Int) := IntWalk.i64_in _ (by omega)
      clear hc hx
      go_wp2_with fail
      refine HQ.out.mono ?_
      rintro e w1 ⟨rfl, hb1⟩
      have HB1 := Lib.hid (ext_trans HR.out.2 hb1)
      clear hb1
      cases hpx : p x with
      | true =>
        have HA : Hid (xs.findIdx? p = some i) := Lib.hid (findIdx_at HX.out hpx HR.out.1)
        clear hpx
        go_wp2_with fail
        go_ret
        exact ⟨.inr ⟨i, HA.out, rfl⟩, HB1.out⟩
      | false =>
        have HA : Hid ((xs.take (i + 1)).any p = false) := Lib.hid (by rw [any_take HX.out HR.out.1, hpx])
        clear hpx
        go_wp2_with fail
        go_roundw
        case rel => exact ⟨i + 1, rfl, hl2, Lib.hid ⟨HA.out, HB1.out⟩⟩
        case measure => simp [Lib.intOf]; omega
    · go_wp2_with fail
      go_ret
      refine ⟨.inl ⟨?_, rfl⟩, HR.out.2⟩
      have := HR.out.1
      rw [List.take_of_length_le (by omega)] at this
      rw [List.findIdx?_eq_none_iff]
      intro x hx
      cases h : p x with
      | false => rfl
      | true => rw [List.any_eq_true.2 ⟨x, hx, h⟩] at this; cases this


theorem kids_heads {T : List Nd} : ∀ (n at_ : Nat) (ks rest : List Nd), T.drop at_ = ks ++ rest → okAll ks → Fo n ks → (kidsGo T n at_).map (fun pos => headNd (T.drop pos)) = (splitF n ks).map headNd
  | 0, _, _, _, _, _, _ => rfl
  | n + 1, at_, ks, rest, hd, hok, hf => by
    obtain ⟨ts, rs, rfl, h1, h2⟩ := hf.first
    rw [List.append_assoc] at hd
    have hlt : at_ < T.length := drop_lt hd h1.pos
    have h3 := endGo_one hd (okAll_left hok) h1
    have hr : rest1 (ts ++ rs) = rs := rest1_fo h1
    have hs : splitF (n + 1) (ts ++ rs) = ts :: splitF n rs := by
      show (ts ++ rs).take ((ts ++ rs).length - (rest1 (ts ++ rs)).length) :: splitF n (rest1 (ts ++ rs)) = _
      rw [hr, List.length_append, Nat.add_sub_cancel, List.take_left]
    have hh : headNd (T.drop at_) = headNd ts := by
      rw [hd]
      match ts, h1.pos with
      | x :: xt, _ => rfl
    rw [kidsGo_step hlt, h3, hs, List.map_cons, List.map_cons, hh, kids_heads n (at_ + ts.length) rs rest (drop_more hd) (okAll_right hok) h2]

theorem field1_eg : ∀ args w, (callFunc 115 args).run Tryz.prog w = .ok (.enter 115 args) w := fun _ _ => by kernel_rfl

set_option maxRecDepth 100000 in
set_option maxHeartbeats 4000000 in
theorem field1_any (p0 p1 : Nat) (A : Option Addr) (c : Nat) (T : List Nd) (s : ByteArray) (x : Nd) (i : Nat) (w : World) (hx : T[i]? = some x) (ha : TyA w w.heap.size A T) (h0 : w.cell? ⟨p0, 0, none⟩ = some (.slice A T.length c)) (h1 : w.cell? ⟨p1, 0, none⟩ = some (.string s)) :
    Calls Tryz.prog 115 #[.int .i64 (i : Int), .pointer (some ⟨p0, 0, none⟩), .pointer (some ⟨p1, 0, none⟩)] w fun e w' => e = .returned (.bool (x.s.toList == s.toList)) ∧ Below w.heap.size w w' := by
  obtain ⟨b, o, rfl, hb, _, c1, _⟩ := ha.at_ hx
  have hi := getq_lt hx
  have e0 : ∀ n, (w.drewN n).cell? ⟨p0, 0, none⟩ = some (.slice (some ⟨b, o, none⟩) T.length c) := fun n => h0
  have e1 : ∀ n, (w.drewN n).cell? ⟨p1, 0, none⟩ = some (.string s) := fun n => h1
  have e2 : ∀ n, (w.drewN n).cell? ⟨b, o + i * 3 + 1, none⟩ = some (.string x.s) := fun n => c1
  clear ha hx h0 h1 c1
  go_enter Tryz.func115, Tryz.ntmps115
  go_upto_region 1 with fail
  go_quiet (fail)
  go_wp2_with fail
  go_ret
  exact ⟨rfl, below_drewN (Below.refl _ _) _⟩

/-- What Field tells. -/
def FieldPost (t : List Nd) (s : ByteArray) (w : World) (e : Ending) (w' : World) : Prop :=
  Below w.heap.size w w' ∧ match fieldM t s with
    | some u => ∃ A1 c1, e = .returned (.tuple #[.slice A1 u.length c1, .int .i64 0]) ∧ OwnN w' w.heap.size A1 c1 u
    | none => e = .returned (.tuple #[.slice none 0 0, .int .i64 9])
end Go.Proofs.YtmjdhfbnmmdjiaaGreat

/- prec.Field, prec.Tags. -/
namespace Go.Proofs.YtmjdhfbnmmdjiaaGreat
open Go.RowKit

theorem kids_find {x : Nd} {xt : List Nd} (g : Gd (x :: xt)) (s : ByteArray) :
    ((asI (kidsGo (x :: xt) (manyN x) 1)).findIdx? (fun n => (headNd ((x :: xt).drop n.toNat)).s.toList == s.toList) = none ∧ (kidsL (x :: xt)).find? (fun ts => (headNd ts).s.toList == s.toList) = none) ∨
    ∃ (k pos : Nat) (ts r : List Nd), (asI (kidsGo (x :: xt) (manyN x) 1)).findIdx? (fun n => (headNd ((x :: xt).drop n.toNat)).s.toList == s.toList) = some k ∧ (asI (kidsGo (x :: xt) (manyN x) 1))[k]? = some (pos : Int) ∧ (x :: xt).drop pos = ts ++ r ∧ Fo 1 ts ∧ okAll ts ∧
      (kidsL (x :: xt)).find? (fun ts => (headNd ts).s.toList == s.toList) = some ts := by
  have hok : okAll xt := fun z hz => g.ok z (List.mem_cons_of_mem _ hz)
  have hd : (x :: xt).drop 1 = xt ++ [] := by rw [List.append_nil]; rfl
  have hm := kids_heads (manyN x) 1 xt [] hd hok g.fo.kids
  have e1 : (asI (kidsGo (x :: xt) (manyN x) 1)).findIdx? (fun n => (headNd ((x :: xt).drop n.toNat)).s.toList == s.toList) = (splitF (manyN x) xt).findIdx? (fun ts => (headNd ts).s.toList == s.toList) := by
    have h1 := congrArg (fun l => l.findIdx? (fun y : Nd => y.s.toList == s.toList)) hm
    simp only [List.findIdx?_map] at h1
    unfold asI
    rw [List.findIdx?_map]
    exact h1
  rcases find_idx (p := fun ts => (headNd ts).s.toList == s.toList) (splitF (manyN x) xt) with ⟨h1, h2⟩ | ⟨k, ts, h1, h2, h3⟩
  · exact .inl ⟨e1.trans h1, h2⟩
  · have hlen : k < (kidsGo (x :: xt) (manyN x) 1).length := by
      have := congrArg List.length hm
      rw [List.length_map, List.length_map] at this
      rw [this]
      exact getq_lt h2
    obtain ⟨pos, hpos⟩ := getq_ex hlen
    obtain ⟨ts', r, f1, f2, f3, f4⟩ := kidsGo_split (manyN x) 1 xt [] hd hok g.fo.kids k pos hpos
    rw [h2] at f1
    injection f1 with f1
    subst f1
    exact .inr ⟨k, pos, ts, r, e1.trans h1, asI_get hpos, f2, f3, f4, h3⟩

theorem fieldM_cons (x : Nd) (xt : List Nd) (s : ByteArray) : fieldM (x :: xt) s = if x.k = 0 then some dynN else
  if isRowB x.k = true then ((kidsL (x :: xt)).find? fun ts => (headNd ts).s.toList == s.toList).map bareN else none := rfl

set_option maxRecDepth 100000 in
set_option maxHeartbeats 4000000 in
theorem field_any (A : Option Addr) (c : Nat) (t : List Nd) (s : ByteArray) (w : World) (ha : TyA w w.heap.size A t) (g : Gd t) (hc : t.length ≤ c) :
    Calls Tryz.prog 91 #[.slice A t.length c, .string s] w (FieldPost t s w) := by
  rcases t with _ | ⟨x, xt⟩
  · exact absurd g.fo.pos (by simp)
  obtain ⟨b, o, rfl, hb, c0, _, _⟩ := ha.at_ (i := 0) (x := x) rfl
  rw [show o + 0 * 3 = o by omega] at c0
  have HA := Lib.hid (And.intro ha g)
  have hl := g.len
  simp only [List.length_cons] at hl hc
  clear ha g
  simp only [List.length_cons]
  go_enter Tryz.func91, Tryz.ntmps91
  go_upto_region 1 with fail
  obtain ⟨w1, hw1⟩ : ∃ w1, w1 = ((w.alloc (.cells #[.slice (some ⟨b, o, none⟩) (xt.length + 1) c] 28)).alloc (.cells #[.string s] 9)) := ⟨_, rfl⟩
  have hb1 : Below w.heap.size w w1 := by rw [hw1]; exact ext_alloc (ext_alloc (Below.refl _ _) _) _
  have k0 : w1.cell? ⟨w.heap.size, 0, none⟩ = some (.slice (some ⟨b, o, none⟩) (xt.length + 1) c) := by rw [hw1]; simp
  have k1 : w1.cell? ⟨w.heap.size + 1, 0, none⟩ = some (.string s) := by
    have h := heap_alloc_new (w.alloc (.cells #[.slice (some ⟨b, o, none⟩) (xt.length + 1) c] 28)) (.cells #[.string s] 9)
    rw [← hw1, World.size_alloc] at h
    simp [World.cell?, h]
  have hz1 : w1.heap.size = w.heap.size + 2 := by rw [hw1]; simp
  rw [← hw1]
  clear hw1
  have HB1 := Lib.hid hb1
  have HK := Lib.hid (And.intro k0 (And.intro k1 hz1))
  have c0' := (hb1.cell (p := ⟨b, o, none⟩) hb).trans c0
  clear hb1 c0
  by_cases h0 : x.k = 0
  · have b0 : (x.k == 0) = true := by simp [h0]
    have HR : Hid (fieldM (x :: xt) s = some dynN) := Lib.hid (by simp [fieldM, headNd, h0])
    clear h0
    go_wp2_with fail
    go_ret2
    refine ⟨ext_alloc HB1.out _, ?_⟩
    rw [HR.out]
    have h := own_one w1 ⟨0, ByteArray.empty, 0⟩
    rw [HK.out.2.2] at h
    exact ⟨_, 1, rfl, OwnL.lower h (by omega)⟩
  · have b0 : (x.k == 0) = false := by simp [h0]
    have hd : (x :: xt).drop 1 = xt ++ [] := by rw [List.append_nil]; rfl
    have hok : okAll xt := fun z hz => HA.out.2.ok z (List.mem_cons_of_mem _ hz)
    have hxo := HA.out.2.ok x (by simp)
    have Hk := Lib.hid (pKids_any (some ⟨b, o, none⟩) c (x :: xt) xt [] x 0 w1 ((HA.out.1.below HB1.out).more HB1.out.size) HA.out.2.len rfl hxo hd hok HA.out.2.fo.kids)
    have HF := Lib.hid (kids_find HA.out.2 s)
    have Hlt := Lib.hid (fun j hj => kidsGo_lt (xs := x :: xt) (manyN x) 1 j hj)
    have HLen : Hid ((asI (kidsGo (x :: xt) (manyN x) 1)).length = manyN x ∧ manyN x ≤ 50) := Lib.hid ⟨by rw [asI_len]; exact kidsGo_fo _ _ xt [] hd hok HA.out.2.fo.kids, manyN_le hxo⟩
    have H0 := Lib.hid h0
    obtain ⟨L, hL⟩ : ∃ L, L = asI (kidsGo (x :: xt) (manyN x) (0 + 1)) := ⟨_, rfl⟩
    have HLe : Hid (L = asI (kidsGo (x :: xt) (manyN x) 1)) := Lib.hid hL
    rw [← hL] at Hk
    rw [← HLe.out] at HF HLen
    clear h0 hd hok hxo hL
    go_wp2_with fail
    refine Hk.out.mono ?_
    rintro e w2 ⟨A2, c2, rfl, hown2, hb2⟩
    have HB2 := Lib.hid (ext_trans HB1.out hb2)
    have k0' := (hb2.cell (p := ⟨w.heap.size, 0, none⟩) (by show w.heap.size < _; omega)).trans k0
    have k1' := (hb2.cell (p := ⟨w.heap.size + 1, 0, none⟩) (by show w.heap.size + 1 < _; omega)).trans k1
    have hrd := OwnL.read encI_len hown2
    have HRd := Lib.hid hrd
    have Hidx := Lib.hid (idx2_any 115 (.pointer (some ⟨w.heap.size, 0, none⟩)) (.pointer (some ⟨w.heap.size + 1, 0, none⟩)) field1_eg (fun n => (headNd ((x :: xt).drop n.toNat)).s.toList == s.toList) A2 c2 L w2 hrd (by have := HLen.out; omega) (by
      intro n hn v hv
      rw [HLe.out] at hn
      obtain ⟨j, hj, rfl⟩ := List.mem_map.1 hn
      have hjl := Hlt.out j hj
      obtain ⟨y, hy⟩ := getq_ex hjl
      have hh : headNd ((x :: xt).drop j) = y := by
        obtain ⟨_, h2⟩ := List.getElem?_eq_some_iff.1 hy
        rw [List.drop_eq_getElem_cons hjl]
        exact h2
      have := field1_any w.heap.size (w.heap.size + 1) (some ⟨b, o, none⟩) c (x :: xt) s y j v hy ((HA.out.1.below (ext_trans HB2.out hv)).more (ext_trans HB2.out hv).size) ((hv.cell (by have := hb2.size; show w.heap.size < _; omega)).trans k0') ((hv.cell (by have := hb2.size; show w.heap.size + 1 < _; omega)).trans k1')
      show Calls _ _ _ _ (fun e w'' => e = .returned (.bool ((headNd ((x :: xt).drop ((j : Int)).toNat)).s.toList == s.toList)) ∧ _)
      rw [show ((j : Int)).toNat = j from rfl, hh]
      exact this))
    have HZ : Hid (w.heap.size + 2 ≤ w2.heap.size) := Lib.hid (by have := hb2.size; omega)
    clear hown2 hb2 hrd k0 k1 c0' hz1
    go_wp2_with fail
    refine Hidx.out.mono ?_
    rintro e w3 ⟨hk, hb3⟩
    have HB3 := Lib.hid (ext_trans HB2.out hb3)
    have k0 := (hb3.cell (p := ⟨w.heap.size, 0, none⟩) (by have := HZ.out; show w.heap.size < _; omega)).trans k0'
    have HR3 := Lib.hid (ReadL.more (ReadL.below HRd.out hb3) hb3.size)
    clear k0' k1' hb3
    rcases hk with ⟨hn, rfl⟩ | ⟨k, hk, rfl⟩
    · have HR : Hid (fieldM (x :: xt) s = none) := Lib.hid (by
        rcases HF.out with ⟨_, h2⟩ | ⟨k, _, _, _, h1, _⟩
        · rw [fieldM_cons, if_neg H0.out, h2]
          split <;> rfl
        · rw [hn] at h1; cases h1)
      clear hn
      go_wp2_with fail
      go_ret2
      exact ⟨HB3.out, by rw [HR.out]; rfl⟩
    · obtain ⟨pos, ts, r, hLk, hdp, hf1, hok1, hfind⟩ : ∃ (pos : Nat) (ts r : List Nd), L[k]? = some (pos : Int) ∧ (x :: xt).drop pos = ts ++ r ∧ Fo 1 ts ∧ okAll ts ∧ (kidsL (x :: xt)).find? (fun ts => (headNd ts).s.toList == s.toList) = some ts := by
        rcases HF.out with ⟨h1, _⟩ | ⟨k2, pos, ts, r, h1, h2, h3, h4, h5, h6⟩
        · rw [hk] at h1; cases h1
        · rw [hk] at h1
          injection h1 with h1
          subst h1
          exact ⟨pos, ts, r, h2, h3, h4, h5, h6⟩
      have hkl := getq_lt hLk
      obtain ⟨lb, lo, rfl, hlb, hlc⟩ := ReadL.int HR3.out hLk
      have HIs := Lib.hid (pisRow_any (some ⟨b, o, none⟩) c x xt w3 ((HA.out.1.below HB3.out).more HB3.out.size))
      have HC := Lib.hid (And.intro hLk (And.intro hdp (And.intro hf1 (And.intro hok1 (And.intro hfind (And.intro hlc (And.intro hlb hkl)))))))
      clear hLk hdp hf1 hok1 hfind hk hlc
      go_wp2_with fail
      refine HIs.out.mono ?_
      rintro e w4 ⟨rfl, hb4⟩
      have HB4 := Lib.hid (ext_trans HB3.out hb4)
      have k0' := (hb4.cell (p := ⟨w.heap.size, 0, none⟩) (by have := HZ.out; have := HB3.out.size; have := World.block_lt_of_cell? _ _ k0; exact this)).trans k0
      have hlc := (hb4.cell (p := ⟨lb, lo + k, none⟩) hlb).trans HC.out.2.2.2.2.2.1
      clear k0 hb4
      cases hr : isRowB x.k with
      | false =>
        have HR : Hid (fieldM (x :: xt) s = none) := Lib.hid (by rw [fieldM_cons, if_neg H0.out, if_neg (by rw [hr]; simp)])
        clear hr
        go_wp2_with fail
        go_ret2
        exact ⟨HB4.out, by rw [HR.out]; rfl⟩
      | true =>
        have HR : Hid (fieldM (x :: xt) s = some (bareN ts)) := Lib.hid (by rw [fieldM_cons, if_neg H0.out, if_pos hr, HC.out.2.2.2.2.1]; rfl)
        clear hr
        go_upto_region 7 with fail
        obtain ⟨SS, hSS⟩ : ∃ SS : World → Prop, SS = fun v => v.cell? ⟨w.heap.size, 0, none⟩ = some (.slice (some ⟨b, o, none⟩) (xt.length + 1) c) ∧ v.cell? ⟨lb, lo + k, none⟩ = some (.int .i64 (pos : Int)) := ⟨_, rfl⟩
        obtain ⟨wd, hwd⟩ : ∃ wd, wd = w4.drew := ⟨_, rfl⟩
        have HBd : Hid (Below w.heap.size w wd) := Lib.hid (by rw [hwd]; exact HB4.out.drew)
        have hsd : SS wd := by rw [hSS, hwd]; exact ⟨k0', hlc⟩
        have Hpt := Lib.hid (part_any (some ⟨b, o, none⟩) c (x :: xt) ts r pos wd ((HA.out.1.below HBd.out).more HBd.out.size) HA.out.2.len (by simp; omega) HC.out.2.1 HC.out.2.2.2.1 HC.out.2.2.1)
        refine wp_region_L_drew (S := SS) [5] (by kernel_rfl) (by rw [← hwd]; exact hsd) (fun hHeld => ?_)
        rw [← hwd] at hHeld ⊢
        clear hwd k0' hlc
        refine onA 0 [5, 6, 7] (some 27) rfl rfl ?_
        refine onA 1 [3, 4, 5, 6, 7] (some 28) rfl rfl ?_
        refine onA 2 [3, 4, 5, 6, 7] (some 29) rfl rfl ?_
        refine onA 3 [4, 5, 6, 7] (some 30) rfl rfl ?_
        refine onA 4 [5, 6, 7] (some 31) rfl rfl ?_
        refine callL 5 (some 32) rfl rfl (by kernel_rfl) (by rfl) (by kernel_rfl) Hpt.out ?_
        rintro e wf ⟨A5, c5, rfl, hown5, hb5⟩
        have HP : Hid (OwnN wf w.heap.size A5 c5 (bareN ts) ∧ Below w.heap.size w wf) := Lib.hid ⟨OwnL.lower hown5 HBd.out.size, ext_trans HBd.out hb5⟩
        refine ⟨_, rfl, ?_, ?_⟩
        · rw [hSS] at hsd ⊢
          exact ⟨(hb5.cell (World.block_lt_of_cell? _ _ hsd.1)).trans hsd.1, (hb5.cell (World.block_lt_of_cell? _ _ hsd.2)).trans hsd.2⟩
        clear hown5 hb5
        refine putA ?_
        refine valL 6 (some 4) rfl rfl (by kernel_rfl) (by rfl) (by go_simp; first | with_reducible rfl | (constructor <;> with_reducible rfl)) (zL (by kernel_rfl)) ?_
        refine putA ?_
        refine valL 7 (some 5) rfl rfl (by kernel_rfl) (by rfl) (by go_simp; first | with_reducible rfl | (constructor <;> with_reducible rfl)) (zL (by kernel_rfl)) ?_
        refine putA ?_
        refine doneL (by kernel_rfl) ?_ _
        clear hHeld hsd
        go_wp2_with fail
        go_ret2
        refine ⟨HP.out.2, ?_⟩
        rw [HR.out]
        exact ⟨_, _, rfl, HP.out.1⟩

/-- A row of texts of its own. -/
abbrev OwnT (w : World) (base : Nat) (A : Option Addr) (cap : Nat) (l : List ByteArray) : Prop := OwnL 9 1 encT w base A cap l
theorem encT_one (s : ByteArray) : ∀ u ∈ encT s, u.oneCell' = true := by
  intro u hu
  simp [encT] at hu
  subst hu
  rfl
theorem infoStr : (Tryz.prog.info? 9).map (fun i => (i.zero, i.size, i.bytes)) = some (some (.string ByteArray.empty), 1, 16) := by kernel_rfl
theorem readT_new (w : World) (s : ByteArray) : ReadT (w.alloc (.cells #[.string s] 9)) (w.heap.size + 1) (some ⟨w.heap.size, 0, none⟩) [s] := fun _ => by
  refine ⟨w.heap.size, 0, rfl, by omega, fun i x hx j u hu => ?_⟩
  match i, hx with
  | 0, hx =>
    simp at hx
    subst hx
    have hj : j = 0 := by
      have := getq_lt hu
      rw [encT_len] at this
      omega
    subst hj
    simp [encT] at hu
    subst hu
    simp
  | i + 1, hx => simp at hx
section
variable {w : World} {ops : Array Oper} {rest : List Oper} {o : Oper} {a : Act} {Q : Exit → Act → World → Prop}
theorem wpList_appT (hgd : o.guard = none) (s x : Operand)
    (ho : o.op = .call { callee := .builtin .append, args := #[s, x], argTypes := #[39, 39] })
    (base : Nat) {A : Option Addr} {cap m n : Nat} {l : List ByteArray} (hm : l.length = m) (hs : a.eval s = .slice A m cap) (hown : OwnT w base A cap l) {B : Nat} {A2 : Option Addr} {c : Nat} {l2 : List ByteArray} (hn : l2.length = n) (hx : a.eval x = .slice A2 n c) (hr : ReadT w B A2 l2)
    (hlen : m + n ≤ 1000000000000) (hbase : base ≤ w.heap.size)
    (h : ∀ A' cap' w', OwnT w' base A' cap' (l ++ l2) → w.grownBy w' ((Value.slice A l.length cap).ownBlock) →
      ((Value.slice A' (l.length + l2.length) cap').ownBlock = (Value.slice A l.length cap).ownBlock ∨ (Value.slice A' (l.length + l2.length) cap').ownBlock = some w.heap.size) → wpList Tryz.prog ops Q rest (a.put o.dst (.slice A' (m + n) cap')) w') : wpList Tryz.prog ops Q (o :: rest) a w := by
  subst hm hn
  obtain ⟨i0, hi, hz0, hz1, hz2⟩ := info_parts infoStr
  exact wpList_app w encT_len encT_one hgd s x 39 ho base 9 i0 _ 16 Tryz.underlying39 hi hz0 hz1 hz2 rfl (by decide) hs hown hx hr (by unfold maxLen; omega) (by omega) hbase h
end

/-- What Tags tells. -/
def TagsPost (t : List Nd) (w : World) (e : Ending) (w' : World) : Prop :=
  Below w.heap.size w w' ∧ match tagsM t with
    | some l => ∃ A1 c1, e = .returned (.tuple #[.slice A1 l.length c1, .int .i64 0]) ∧ OwnT w' w.heap.size A1 c1 l
    | none => e = .returned (.tuple #[.slice none 0 0, .int .i64 9])

set_option maxRecDepth 100000 in
set_option maxHeartbeats 4000000 in
theorem tags_any (A : Option Addr) (c : Nat) (t : List Nd) (w : World) (ha : TyA w w.heap.size A t) (g : Gd t) (hc : t.length ≤ c) :
    Calls Tryz.prog 124 #[.slice A t.length c] w (TagsPost t w) := by
  rcases t with _ | ⟨x, xt⟩
  · exact absurd g.fo.pos (by simp)
  obtain ⟨b, o, rfl, hb, c0, _, _⟩ := ha.at_ (i := 0) (x := x) rfl
  rw [show o + 0 * 3 = o by omega] at c0
  have HA := Lib.hid (And.intro ha g)
  have hl := g.len
  simp only [List.length_cons] at hl hc
  clear ha g
  simp only [List.length_cons]
  go_enter Tryz.func124, Tryz.ntmps124
  by_cases h0 : x.k = 0
  · have b0 : (x.k == 0) = true := by simp [h0]
    have HR : Hid (tagsM (x :: xt) = some []) := Lib.hid (if_pos h0)
    clear h0
    go_wp2_with fail
    go_ret2
    refine ⟨Below.refl _ _, ?_⟩
    rw [HR.out]
    exact ⟨none, 0, rfl, OwnL.nil⟩
  · have b0 : (x.k == 0) = false := by simp [h0]
    by_cases h7 : x.k = 7
    · have b7 : (x.k == 7) = true := by simp [h7]
      have hd : (x :: xt).drop 1 = xt ++ [] := by rw [List.append_nil]; rfl
      have hok : okAll xt := fun z hz => HA.out.2.ok z (List.mem_cons_of_mem _ hz)
      have hxo := HA.out.2.ok x (by simp)
      have Hk := Lib.hid (pKids_any (some ⟨b, o, none⟩) c (x :: xt) xt [] x 0 w HA.out.1 HA.out.2.len rfl hxo hd hok HA.out.2.fo.kids)
      have HH := Lib.hid (kids_heads (manyN x) 1 xt [] hd hok HA.out.2.fo.kids)
      have Hlt := Lib.hid (fun j hj => kidsGo_lt (xs := x :: xt) (manyN x) 1 j hj)
      have HLen : Hid ((asI (kidsGo (x :: xt) (manyN x) 1)).length = manyN x ∧ manyN x ≤ 50) := Lib.hid ⟨by rw [asI_len]; exact kidsGo_fo _ _ xt [] hd hok HA.out.2.fo.kids, manyN_le hxo⟩
      have HR : Hid (tagsM (x :: xt) = some ((kidsL (x :: xt)).map fun ts => (headNd ts).s)) := Lib.hid (by
        show (if x.k = 0 then _ else if x.k = 7 then _ else _) = _
        rw [if_neg h0, if_pos h7])
      clear h0 h7 hd hok hxo
      go_wp2_with fail
      refine Hk.out.mono ?_
      rintro e w2 ⟨A2, c2, rfl, hown2, hb2⟩
      have HB2 := Lib.hid hb2
      have HRd := Lib.hid (OwnL.read encI_len hown2)
      have HP2 := Lib.hid (OwnL.lt hown2)
      clear hown2 hb2
      obtain ⟨n, hn⟩ : ∃ n, n = manyN x := ⟨_, rfl⟩
      obtain ⟨L, hL⟩ : ∃ L, L = kidsGo (x :: xt) (manyN x) 1 := ⟨_, rfl⟩
      have HLn : Hid ((asI L).length = n ∧ L.length = n) := Lib.hid ⟨by rw [hL, hn]; exact HLen.out.1, by rw [hL, hn, ← asI_len]; exact HLen.out.1⟩
      have hn50 : n ≤ 50 := by rw [hn]; exact HLen.out.2
      rw [← hL] at HRd Hlt HH
      have HRs : Hid ((kidsL (x :: xt)).map (fun ts => (headNd ts).s) = L.map fun pos => (headNd ((x :: xt).drop pos)).s) := Lib.hid (by
        have := congrArg (List.map Nd.s) HH.out
        rw [List.map_map, List.map_map] at this
        exact this.symm)
      obtain ⟨R, hR⟩ : ∃ R, R = (kidsL (x :: xt)).map fun ts => (headNd ts).s := ⟨_, rfl⟩
      rw [← hR] at HR HRs
      have HRn : Hid (R.length = n) := Lib.hid (by rw [HRs.out, List.length_map]; exact HLn.out.2)
      simp only [Nat.zero_add]
      rw [← hL, HLn.out.1]
      clear hL hn hR
      go_upto_region 7 with fail
      go_loopw [4, 18] (fun s4 s18 wr => ∃ (k : Nat) (A' : Option Addr) (c' : Nat), k ≤ n ∧ s4 = .slice A' k c' ∧ s18 = .int .i64 k ∧ Hid (OwnT wr w2.heap.size A' c' (R.take k) ∧ Below w2.heap.size w2 wr)) (fun _ s18 _ => n - (Lib.intOf s18).toNat)
      case atStart => exact ⟨0, none, 0, Nat.zero_le _, rfl, rfl, Lib.hid ⟨OwnL.nil, Below.refl _ _⟩⟩
      case round =>
        obtain ⟨k, A', c', hk, rfl, rfl, HI⟩ := hrel
        by_cases hlt : k < n
        · obtain ⟨pos, hpos⟩ := getq_ex (l := L) (i := k) (by rw [HLn.out.2]; exact hlt)
          have hpl := Hlt.out pos (List.mem_of_getElem? hpos)
          obtain ⟨y, hy⟩ := getq_ex hpl
          have hRk : R[k]? = some y.s := by
            rw [HRs.out, List.getElem?_map, hpos]
            obtain ⟨_, h2⟩ := List.getElem?_eq_some_iff.1 hy
            show some (headNd ((x :: xt).drop pos)).s = _
            rw [List.drop_eq_getElem_cons hpl, h2]
            rfl
          obtain ⟨lb, lo, rfl, hlb, hlc⟩ := ReadL.int (ReadL.below HRd.out HI.out.2) (asI_get hpos)
          obtain ⟨_, _, eA, _, _, ny, _⟩ := ((HA.out.1.below HB2.out).more HB2.out.size |>.below HI.out.2).at_ hy
          injection eA with eA
          injection eA with eA1 eA2 _
          subst eA1 eA2
          simp only [List.length_cons] at hpl
          have HC := Lib.hid (And.intro hRk hlt)
          have htl : (R.take k).length = k := by rw [List.length_take, HRn.out]; omega
          have HT := Lib.hid htl
          clear hpos hy hRk htl
          go_wp2_with (at_builtin; refine wpList_appT rfl (.tmp 22) (.tmp 28) rfl w2.heap.size (m := k) (n := 1) HT.out rfl (OwnL.alloc HI.out.1 _) (l2 := [y.s]) rfl rfl (readT_new _ _) (by omega) (by have := HI.out.2.size; simp; omega) ?_; intro A5 c5 w5 hown5 hg5 _)
          have HI5 : Hid (OwnT w5 w2.heap.size A5 c5 (R.take (k + 1)) ∧ Below w2.heap.size w2 w5) := Lib.hid (by
            refine ⟨?_, ext_app (ext_alloc HI.out.2 _) hg5 fun q hq => (OwnL.block HI.out.1 q hq).1⟩
            rw [List.take_add_one, HC.out.1]
            exact hown5)
          clear hown5 hg5
          go_wp2_with fail
          go_roundw
          case rel => exact ⟨k + 1, A5, c5, HC.out.2, by go_num, by go_num, HI5⟩
          case measure => simp [Lib.intOf]; omega
        · have hkn : k = n := by omega
          have HQ : Hid (OwnT wr w.heap.size A' c' R ∧ Below w.heap.size w wr ∧ R.length = k) := Lib.hid (by
            refine ⟨?_, ext_trans HB2.out HI.out.2, by rw [HRn.out, hkn]⟩
            have := HI.out.1
            rw [List.take_of_length_le (by rw [HRn.out]; omega)] at this
            exact OwnL.lower this HB2.out.size)
          clear hkn
          go_wp2_with fail
          go_ret2
          refine ⟨HQ.out.2.1, ?_⟩
          rw [HR.out]
          exact ⟨A', c', by rw [HQ.out.2.2]; rfl, HQ.out.1⟩
    · have b7 : (x.k == 7) = false := by simp [h7]
      have HR : Hid (tagsM (x :: xt) = none) := Lib.hid (by
        show (if x.k = 0 then _ else if x.k = 7 then _ else _) = _
        rw [if_neg h0, if_neg h7])
      clear h0 h7
      go_wp2_with fail
      go_ret2
      exact ⟨Below.refl _ _, by rw [HR.out]; rfl⟩
end Go.Proofs.YtmjdhfbnmmdjiaaGreat

/- ty.Row's order: slices.SortFunc over places, by their labels. -/
namespace Go.Proofs.YtmjdhfbnmmdjiaaGreat
open Go.RowKit

def lab (ls : List ByteArray) (i : Nat) : ByteArray := (ls[i]?).getD ByteArray.empty

theorem lab_at {ls : List ByteArray} {i : Nat} (h : i < ls.length) : ls[i]? = some (lab ls i) := by
  unfold lab
  rw [List.getElem?_eq_getElem h]
  rfl

def encF {n : Nat} (i : Fin n) : Value := .int .i64 ((i.val : Nat) : Int)

def cfF (ls : List ByteArray) (n : Nat) (i j : Fin n) : Int := cmpS (lab ls i.val) (lab ls j.val)

def ltB (a b : ByteArray) : Bool := Op.bytesLess a.toList b.toList

theorem ltOf_cf (ls : List ByteArray) (n : Nat) (i j : Fin n) : ltOf (cfF ls n) i j = ltB (lab ls i.val) (lab ls j.val) := by
  unfold ltOf cfF cmpS ltB
  cases h : Op.bytesLess (lab ls i.val).toList (lab ls j.val).toList
  · simp
    split <;> omega
  · simp

theorem ltB_irrefl (a : ByteArray) : ltB a a = false := by
  unfold ltB
  rw [bless_eq]
  simp [List.lt_irrefl]

theorem ltB_trans {a b c : ByteArray} (h : ltB a b = true) (k : ltB b c = true) : ltB a c = true := by
  unfold ltB at *
  rw [bless_eq, decide_eq_true_eq] at *
  exact List.lt_trans h k

theorem ltB_ntrans {a b c : ByteArray} (h : ltB a b = false) (k : ltB b c = false) : ltB a c = false := by
  unfold ltB at *
  rw [bless_eq, decide_eq_false_iff_not, List.not_lt] at *
  exact List.le_trans k h

/-- Of two labels neither of which is less they are one. -/
theorem ltB_eq {a b : ByteArray} (h : ltB a b = false) (k : ltB b a = false) : a = b := by
  unfold ltB at *
  rw [bless_eq, decide_eq_false_iff_not, List.not_lt] at *
  have e : a.toList = b.toList := List.le_antisymm k h
  rw [ByteArray.toList_eq, ByteArray.toList_eq] at e
  cases a; cases b
  simpa using Array.toList_inj.1 e

theorem swo (ls : List ByteArray) (n : Nat) : Go.Sort.SWO (ltOf (cfF ls n)) where
  irrefl x := by rw [ltOf_cf]; exact ltB_irrefl _
  trans x y z h k := by rw [ltOf_cf] at *; exact ltB_trans h k
  ntrans x y z h k := by rw [ltOf_cf] at *; exact ltB_ntrans h k

section
variable {α : Type} [Inhabited α] (enc : α → Value) (w : World) (g m : Nat) (d : Array α) (os : Array Obj)

theorem sortWorld_grown : w.grownBy (sortWorld enc w g 0 m d os) (some g) where
  os := rfl
  tape := rfl
  output := rfl
  size := by
    show w.heap.size ≤ ((Go.Sort.putRow enc (Go.Sort.ahead w m) g 0 d).heap ++ os).size
    rw [Array.size_append]
    show w.heap.size ≤ (w.heap.modify g _).size + _
    rw [Array.size_modify]
    omega
  block k hk hne := by
    show ((w.heap.modify g _) ++ os)[k]? = w.heap[k]?
    rw [Array.getElem?_append_left (by rw [Array.size_modify]; exact hk), Array.getElem?_modify, if_neg (fun e => hne (by rw [e]))]

theorem sortWorld_block {c : Array Value} {e : TypeId} {fr : Nat × Nat} (h : w.heap[g]? = some (.cells c e fr)) : (sortWorld enc w g 0 m d os).heap[g]? = some (.cells (Go.Sort.putCells enc 0 d c) e fr) := by
  have hk := lt_of_block h
  show ((w.heap.modify g _) ++ os)[g]? = _
  rw [Array.getElem?_append_left (by rw [Array.size_modify]; exact hk), Array.getElem?_modify, if_pos rfl, h]
  rfl
end

/-- What a row of places is, once sorted. -/
theorem OwnL.sorted {n : Nat} {w : World} {base g cap : Nat} {L : List Int} (h : OwnI w base (some ⟨g, 0, none⟩) cap L) (hL : L.length = n) [Inhabited (Fin n)] (d : Array (Fin n)) (hd : d.size = n) (m : Nat) (os : Array Obj) :
    OwnI (sortWorld encF w g 0 m d os) base (some ⟨g, 0, none⟩) cap (asI (d.toList.map Fin.val)) := by
  have hl2 : (asI (d.toList.map Fin.val)).length = L.length := by simp [asI, hd, hL]
  have h' : w.ownsRow base 3 1 (.slice (some ⟨g, 0, none⟩) L.length cap) L.length (L.flatMap encI) := h
  show (sortWorld encF w g 0 m d os).ownsRow base 3 1 (.slice (some ⟨g, 0, none⟩) (asI (d.toList.map Fin.val)).length cap) (asI (d.toList.map Fin.val)).length ((asI (d.toList.map Fin.val)).flatMap encI)
  rw [hl2]
  rcases h'.2 with ⟨hv, hn⟩ | ⟨g', cap', cur, hv, hbg, hg, hnc, hcm, hcs, htake⟩
  · cases hv
  · injection hv with hA' hl hc'
    injection hA' with hA'
    injection hA' with hA1
    subst hA1 hc'
    refine ⟨by rw [flatMap_len encI_len, hl2], .inr ⟨g, cap, _, rfl, hbg, sortWorld_block encF w g m d os hg, hnc, hcm, by simp [Go.Sort.putCells]; omega, ?_⟩⟩
    apply List.ext_getElem?
    intro k
    by_cases hk : k < n
    · rw [List.getElem?_take_of_lt (by omega)]
      have hkc : k < cur.size := by omega
      have hkd : k < d.size := by omega
      rw [flatMap_encI]
      simp only [Go.Sort.putCells, Array.getElem?_toList, Array.getElem?_mapIdx, Array.getElem?_eq_getElem hkc, Option.map_some, List.getElem?_map, asI, Array.getElem?_eq_getElem hkd]
      rw [if_pos ⟨Nat.zero_le _, by omega⟩, Nat.sub_zero, getElem!_pos d k hkd]
      rfl
    · rw [List.getElem?_eq_none (by rw [List.length_take]; omega), List.getElem?_eq_none (by rw [flatMap_len encI_len, hl2]; omega)]

end Go.Proofs.YtmjdhfbnmmdjiaaGreat
