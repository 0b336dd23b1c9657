/- Laid together by a tool from the texts of this seat: UIn. Conditions: each theorem's own. -/
import Derived.Test.YtblfeokjlecgkaaO19
/- unify.in: whether a variable stands in a tree, as it is known, walked. -/
namespace Go.Proofs.Ytblfeokjlecgkaa
open Go.RowKit

attribute [local go_sem ↓] Go.wp_at_zero Go.wp_at_succ

/-- Asked of one element after another: true of one (R), or of none (I goes on). -/
structure AskB (K : Nat) (caps : Array Value) (B : Option Addr) (bs : List Nat) (I : Nat → World → Prop) (R : World → Prop) : Prop where
  read : ∀ i c wr, I i wr → bs[i]? = some c → ∃ bb oo, B = some ⟨bb, oo, none⟩ ∧ wr.cell? ⟨bb, oo + i, none⟩ = some (.pointer (some ⟨c, 0, none⟩))
  call : ∀ i c wr, I i wr → bs[i]? = some c → Calls Try.prog K (#[.pointer (some ⟨c, 0, none⟩)] ++ caps) wr fun e w' => ∃ r : Bool, e = .returned (.bool r) ∧ (r = true → R w') ∧ (r = false → I (i + 1) w')

set_option maxHeartbeats 4000000 in
theorem indexB_any (B : Option Addr) (cb : Nat) (bs : List Nat) (p1 p2 p3 : Value) (I : Nat → World → Prop) (R : World → Prop) (w : World) (H : AskB 176 #[p1, p2, p3] B bs I R) (h0 : I 0 w) (hl : bs.length ≤ 1000000) :
    Calls Try.prog 214 #[.slice B bs.length cb, .func (.func 176) #[] #[p1, p2, p3]] w fun e w' => ∃ n : Int, e = .returned (.int .i64 n) ∧ (0 ≤ n → R w') ∧ (n < 0 → I bs.length w') := by
  have HH := Lib.hid H
  have H0 := Lib.hid h0
  clear H h0
  go_enter Try.func214, Try.ntmps214
  go_wp2_with fail
  go_loopw [8] (fun s8 wr => ∃ i : Nat, s8 = .int .i64 i ∧ i ≤ bs.length ∧ Hid (I i wr)) (fun s8 _ => bs.length - (intOf s8).toNat)
  case atStart => exact ⟨0, rfl, Nat.zero_le _, H0⟩
  case round =>
    obtain ⟨i, rfl, hi, M⟩ := hrel
    clear H0
    by_cases hp : i < bs.length
    · obtain ⟨c, hc⟩ := getq_ex (l := bs) (i := i) hp
      obtain ⟨bb, oo, rfl, hcell⟩ := HH.out.read i c wr M.out hc
      have HC := Lib.hid (HH.out.call i c wr M.out hc)
      clear hc
      go_wp2_with fail
      refine HC.out.mono ?_
      rintro e w1 ⟨r, rfl, hr1, hr2⟩
      cases r with
      | true =>
        have R1 := Lib.hid (hr1 rfl)
        clear hr1 hr2
        go_wp2_with fail
        go_ret
        exact ⟨i, rfl, fun _ => R1.out, fun h => by omega⟩
      | false =>
        have R1 := Lib.hid (hr2 rfl)
        clear hr1 hr2
        go_wp2_with fail
        go_roundw
        case rel => exact ⟨i + 1, by go_num, hp, R1⟩
        case measure => simp [intOf]; omega
    · go_wp2_with fail
      go_ret
      have e : i = bs.length := by omega
      subst e
      exact ⟨-1, rfl, fun h => by omega, fun _ => M.out⟩

set_option maxHeartbeats 4000000 in
theorem containsB_any (B : Option Addr) (cb : Nat) (bs : List Nat) (p1 p2 p3 : Value) (I : Nat → World → Prop) (R : World → Prop) (w : World) (H : AskB 176 #[p1, p2, p3] B bs I R) (h0 : I 0 w) (hl : bs.length ≤ 1000000) :
    Calls Try.prog 175 #[.slice B bs.length cb, .func (.func 176) #[] #[p1, p2, p3]] w fun e w' => ∃ r : Bool, e = .returned (.bool r) ∧ (r = true → R w') ∧ (r = false → I bs.length w') := by
  have HC := Lib.hid (indexB_any B cb bs p1 p2 p3 I R w H h0 hl)
  clear H h0
  go_enter Try.func175, Try.ntmps175
  go_wp2_with fail
  refine HC.out.mono ?_
  rintro e w1 ⟨n, rfl, h1, h2⟩
  have H1 := Lib.hid (And.intro h1 h2)
  clear h1 h2 HC
  by_cases hn : 0 ≤ n
  · go_wp2_with fail
    go_ret
    exact ⟨true, ret_bool (by simp), fun _ => H1.out.1 hn, fun h => by cases h⟩
  · go_wp2_with fail
    go_ret
    exact ⟨false, ret_bool (by simpa using hn), fun h => (by cases h), fun _ => H1.out.2 (by omega)⟩

/-- A tree that may be asked: good, or a row whose tail is not known. -/
def RTr (U : List Lb) (S : Kn) (t : Ut) : Prop := TG U S t ∨ WR U S t

theorem RTr.sh {U : List Lb} {S : Kn} {t : Ut} (h : RTr U S t) : shT t := by
  rcases h with h | h
  · exact h.sh
  · exact h.sh

theorem RTr.look {U : List Lb} {S : Kn} {t u : Ut} (h : RTr U S t) (hK : KG U S) (hl : Looks S t u) : RTr U S u ∧ inst S.σ t = inst S.σ u := by
  rcases h with h | h
  · obtain ⟨a, _, b⟩ := hl.good hK h
    exact ⟨.inl a, b⟩
  · cases hl with
    | here => exact ⟨.inr h, rfl⟩
    | more _ s _ h8 _ _ => exact absurd h8 (isRow_k h.row).1

theorem RTr.plain {U : List Lb} {S : Kn} {t : Ut} (h : RTr U S t) (hr : isRowB t.k = false) : TG U S t := by
  rcases h with h | h
  · exact h
  · have := h.row
    rw [hr] at this
    cases this

theorem RTr.row {U : List Lb} {S : Kn} {u : Ut} (h : RTr U S u) (X : Nat → Prop) (s m : Nat) (first : Int) (w : World) (hS : SolAt X s m first w S) (hK : KG U S) (hU : U.length ≤ 100000) (b : Nat) (hb : NodeAt X w b u) (hr : isRowB u.k = true) :
    Calls Try.prog 103 #[pk s, pk b] w (RowPostI X U S u w) := by
  rcases h with g | g
  · obtain ⟨k, n, fs, tl⟩ := u
    obtain rfl : n = 0 := okT_num g.pend.1 (isRow_k hr).1
    refine (row_any2 X U s m first w S hS hK hU b k fs tl hb g hr).mono ?_
    rintro e w' ⟨A, cap, cl, x, p, tv, he, h1, h2⟩
    exact ⟨A, cap, cl, x, p, tv, he, h1.toI, h2⟩
  · exact row_weak X U s m first w S hS hK hU b u hb g

/-- What 'had' knows: trees that were asked, in which the number does not stand, if they are no greater than so much. -/
def HadI (X : Nat → Prop) (S : Kn) (num : Int) (w : World) (hm : Nat) (l : List (Nat × Value)) (sz : Nat) : Prop :=
  KMap pk w hm l ∧ ∀ q ∈ l, q.2 = .bool true ∧ ∃ u, NodeAt X w q.1 u ∧ shT u ∧ (tsz (inst S.σ u) ≤ sz → ¬ occN num (inst S.σ u))

/-- What 'in' answers. -/
def InPost (X : Nat → Prop) (S : Kn) (num : Int) (hm : Nat) (l : List (Nat × Value)) (t : Ut) (w : World) (e : Ending) (w' : World) : Prop :=
  ∃ r : Bool, e = .returned (.bool r) ∧ Fr (fun k => k = hm) w w' ∧ (r = true → occN num (inst S.σ t)) ∧ (r = false → ¬ occN num (inst S.σ t) ∧ ∃ l', KMap pk w' hm l' ∧ ∀ q ∈ l', q ∈ l ∨ (q.2 = .bool true ∧ ∃ u, NodeAt X w' q.1 u ∧ shT u ∧ ¬ occN num (inst S.σ u)))

def InAt (X : Nat → Prop) (U : List Lb) (S : Kn) (s m : Nat) (first num : Int) (hm : Nat) (t : Ut) : Prop :=
  ∀ (b : Nat) (w : World) (l : List (Nat × Value)), (∀ k, X k → k < w.heap.size) → SolAt X s m first w S → NodeAt X w b t → RTr U S t → HadI X S num w hm l (tsz (inst S.σ t)) → Calls Try.prog 144 #[pk s, .int .i64 num, pk b, .map (some hm)] w (InPost X S num hm l t w)

set_option maxHeartbeats 4000000 in
theorem inC_any (X : Nat → Prop) (U : List Lb) (S : Kn) (s m : Nat) (first num : Int) (hm : Nat) (t : Ut) (H : InAt X U S s m first num hm t) (b : Nat) (w : World) (l : List (Nat × Value)) (p1 p2 p3 : Nat) (hX : ∀ k, X k → k < w.heap.size) (hS : SolAt X s m first w S) (hb : NodeAt X w b t) (g : RTr U S t) (hI : HadI X S num w hm l (tsz (inst S.σ t)))
    (c1 : w.cell? ⟨p1, 0, none⟩ = some (.pointer (some ⟨s, 0, none⟩))) (c2 : w.cell? ⟨p2, 0, none⟩ = some (.int .i64 num)) (c3 : w.cell? ⟨p3, 0, none⟩ = some (.map (some hm))) :
    Calls Try.prog 176 #[.pointer (some ⟨b, 0, none⟩), .pointer (some ⟨p1, 0, none⟩), .pointer (some ⟨p2, 0, none⟩), .pointer (some ⟨p3, 0, none⟩)] w (InPost X S num hm l t w) := by
  have HC := Lib.hid (H b w l hX hS hb g hI)
  clear H hX hS hb g hI
  unfold pk at HC
  go_enter Try.func176, Try.ntmps176
  go_wp2_with fail
  refine HC.out.mono ?_
  rintro e w1 ⟨r, rfl, h1⟩
  have H1 := Lib.hid h1
  clear h1 HC c1 c2 c3
  go_wp2_with fail
  go_ret
  exact ⟨r, rfl, H1.out⟩

/-- The children of a looked-at node, before it is asked of them. -/
structure KidsIn (X : Nat → Prop) (U : List Lb) (S : Kn) (u : Ut) (w : World) (B : Option Addr) (bs : List Nat) (tv : Value) : Prop where
  ex : ∃ (xs : List Ut) (p : Option Int), TailAt X w tv p ∧ bs.length = xs.length ∧ bs.length ≤ 200000 ∧ (∀ (i c : Nat) (x : Ut), bs[i]? = some c → xs[i]? = some x → NodeAt X w c x) ∧ (∀ x ∈ xs, TG U S x ∧ tsz (inst S.σ x) < tsz (inst S.σ u)) ∧
    (∀ v, occN v (inst S.σ u) ↔ p = some v ∨ ∃ x ∈ xs, occN v (inst S.σ x))
  rd : Lies X 1 encB w B bs

theorem plainP {X : Nat → Prop} {S : Kn} {num : Int} {w : World} {hm : Nat} {l : List (Nat × Value)} {sz : Nat} (h : HadI X S num w hm l sz) : ∀ q ∈ l, Plain w q.1 := fun q hq => by
  obtain ⟨_, u, hu, _⟩ := h.2 q hq
  exact hu.plain

theorem infoU0 : (Try.prog.info? 105).map (fun i => i.size) = some 5 := by kernel_rfl
theorem infoU : ∃ i, Try.prog.info? 105 = some i ∧ i.size ≠ 0 := by
  have h := infoU0
  cases e : Try.prog.info? 105 with
  | none => rw [e] at h; cases h
  | some i =>
    rw [e] at h
    simp only [Option.map_some, Option.some.injEq] at h
    exact ⟨i, rfl, by omega⟩

theorem box3 (w : World) (v1 v2 v3 : Value) (t1 t2 t3 : TypeId) (w1 : World) (hb : Below (((w.alloc (.cells #[v1] t1)).alloc (.cells #[v2] t2)).alloc (.cells #[v3] t3)).heap.size (((w.alloc (.cells #[v1] t1)).alloc (.cells #[v2] t2)).alloc (.cells #[v3] t3)) w1) :
    w1.cell? ⟨w.heap.size, 0, none⟩ = some v1 ∧ w1.cell? ⟨w.heap.size + 1, 0, none⟩ = some v2 ∧ w1.cell? ⟨w.heap.size + 1 + 1, 0, none⟩ = some v3 ∧ w.heap.size + 3 ≤ w1.heap.size := by
  have hz : (((w.alloc (.cells #[v1] t1)).alloc (.cells #[v2] t2)).alloc (.cells #[v3] t3)).heap.size = w.heap.size + 3 := by simp
  have z1 : (w.alloc (.cells #[v1] t1)).heap.size = w.heap.size + 1 := by simp
  have z2 : ((w.alloc (.cells #[v1] t1)).alloc (.cells #[v2] t2)).heap.size = w.heap.size + 2 := by simp
  have a1 : (((w.alloc (.cells #[v1] t1)).alloc (.cells #[v2] t2)).alloc (.cells #[v3] t3)).heap[w.heap.size]? = some (.cells #[v1] t1) :=
    (Below.heap_alloc _ _ _ (by omega)).trans ((Below.heap_alloc _ _ _ (by omega)).trans (heap_alloc_new w _))
  have a2 : (((w.alloc (.cells #[v1] t1)).alloc (.cells #[v2] t2)).alloc (.cells #[v3] t3)).heap[w.heap.size + 1]? = some (.cells #[v2] t2) := by
    refine (Below.heap_alloc _ _ _ (by omega)).trans ?_
    rw [← z1]
    exact heap_alloc_new _ _
  have a3 : (((w.alloc (.cells #[v1] t1)).alloc (.cells #[v2] t2)).alloc (.cells #[v3] t3)).heap[w.heap.size + 2]? = some (.cells #[v3] t3) := by
    rw [← z2]
    exact heap_alloc_new _ _
  have b1 := (hb.block w.heap.size (by omega)).trans a1
  have b2 := (hb.block (w.heap.size + 1) (by omega)).trans a2
  have b3 := (hb.block (w.heap.size + 2) (by omega)).trans a3
  have := hb.size
  exact ⟨by simp [World.cell?, b1], by simp [World.cell?, b2], by simp [World.cell?, b3], by omega⟩
theorem zeroB (w : World) : (zeroValue 4).run Try.prog w = .ok (.bool false) w := by kernel_rfl

theorem KMap.later {κ : Type} {kf : κ → Value} {w w' : World} {b : Nat} {l : List (κ × Value)} (h : KMap kf w b l) (hb : w'.heap[b]? = w.heap[b]?) : KMap kf w' b l := by
  obtain ⟨es, clock, h1, h2⟩ := h
  exact ⟨es, clock, hb.trans h1, h2⟩

theorem HadI.bel {X : Nat → Prop} {S : Kn} {num : Int} {w w' : World} {hm : Nat} {l : List (Nat × Value)} {sz : Nat} (h : HadI X S num w hm l sz) (hb : Below w.heap.size w w') : HadI X S num w' hm l sz :=
  ⟨h.1.later (hb.block hm h.1.lt), fun q hq => by
    obtain ⟨e, u, hu, hs, ho⟩ := h.2 q hq
    exact ⟨e, u, hu.bel hb, hs, ho⟩⟩

theorem NodeAt.partsU {X : Nat → Prop} {w : World} {b : Nat} {u : Ut} (h : NodeAt X w b u) :
    ∃ (A B : Option Addr) (ls : List ByteArray) (bs : List Nat) (ca cb : Nat) (ta : Option Addr), w.heap[b]? = some (.cells #[.int .i64 u.k, .int .i64 u.n, .slice A ls.length ca, .slice B bs.length cb, .pointer ta] 105 (0, 0)) ∧ ls.length = bs.length ∧
      (isRowB u.k = true → ls = labsF u.fs) ∧ Lies X 1 encL w A ls ∧ Lies X 1 encB w B bs ∧ bs.length = u.fs.length ∧ (∀ (i : Nat) (p : Lb × Ut) (c : Nat), u.fs[i]? = some p → bs[i]? = some c → NodeAt X w c p.2) ∧ TailAt X w (.pointer ta) u.tl ∧ ¬ X b := by
  obtain ⟨k, n, fs, tl⟩ := u
  exact h.parts

theorem kids_plain {X : Nat → Prop} {U : List Lb} {S : Kn} {u : Ut} {w : World} {B : Option Addr} {bs : List Nat} {ta : Option Addr} (g : TG U S u) (hU : U.length ≤ 100000) (h8 : u.k ≠ 8) (hr : isRowB u.k = false) (hB : Lies X 1 encB w B bs) (hl : bs.length = u.fs.length)
    (hk : ∀ (i : Nat) (p : Lb × Ut) (c : Nat), u.fs[i]? = some p → bs[i]? = some c → NodeAt X w c p.2) (ht : TailAt X w (.pointer ta) u.tl) : KidsIn X U S u w B bs (.pointer ta) := by
  have hlen := g.fs_len
  obtain ⟨k, n, fs, tl⟩ := u
  have h8 : k ≠ 8 := h8
  have hr : isRowB k = false := hr
  obtain ⟨rfl, _, _⟩ := inst_plain (S := S) g.pend.1 g.sh h8 hr
  refine ⟨⟨fs.map (·.2), none, ht, by rw [List.length_map]; exact hl, ?_, fun i c x hc hx => ?_, fun x hx => ?_, fun v => ?_⟩, hB⟩
  · have hl : bs.length = fs.length := hl
    have hlen : fs.length ≤ U.length + 2 := hlen
    omega
  · rw [List.getElem?_map] at hx
    cases hp : fs[i]? with
    | none => rw [hp] at hx; cases hx
    | some p =>
      rw [hp] at hx
      simp only [Option.map_some, Option.some.injEq] at hx
      subst hx
      exact hk i p c hp hc
  · obtain ⟨p, hp, rfl⟩ := List.mem_map.1 hx
    exact ⟨g.child hp, plain_less g.pend.1 g.sh h8 hr hp⟩
  · rw [plain_occ g.pend.1 g.sh h8 hr]
    constructor
    · rintro ⟨p, hp, h⟩
      exact .inr ⟨p.2, List.mem_map.2 ⟨p, hp, rfl⟩, h⟩
    · rintro (e | ⟨x, hx, h⟩)
      · cases e
      · obtain ⟨p, hp, rfl⟩ := List.mem_map.1 hx
        exact ⟨p, hp, h⟩

theorem kids_row {X : Nat → Prop} {U : List Lb} {S : Kn} {u : Ut} {w : World} {x : Fl} {p : Option Int} {cl : List (ByteArray × Nat)} {B : Option Addr} {tv : Value} (r : RowI U S u x p) (hU : U.length ≤ 100000) (h8 : u.k ≠ 8) (hc : ChAt X w cl x) (ht : TailAt X w tv p) (hB : Lies X 1 encB w B (cl.map (·.2))) : KidsIn X U S u w B (cl.map (·.2)) tv := by
  have hlen := r.len
  refine ⟨⟨x.map (·.2), p, ht, by simpa using hc.1, ?_, fun i c y h1 h2 => ?_, fun y hy => ?_, fun v => ?_⟩, hB⟩
  · have := hc.1
    simp only [List.length_map]
    omega
  · rw [List.getElem?_map] at h1 h2
    cases e1 : cl[i]? with
    | none => rw [e1] at h1; cases h1
    | some c1 =>
      cases e2 : x[i]? with
      | none => rw [e2] at h2; cases h2
      | some p1 =>
        rw [e1] at h1
        rw [e2] at h2
        simp only [Option.map_some, Option.some.injEq] at h1 h2
        subst h1 h2
        exact (hc.2 i c1 p1 e1 e2).2
  · obtain ⟨q, hq, rfl⟩ := List.mem_map.1 hy
    exact ⟨r.el q hq, r.less hq⟩
  · rw [r.occ h8]
    constructor
    · rintro (e | ⟨q, hq, h⟩)
      · exact .inl e
      · exact .inr ⟨q.2, List.mem_map.2 ⟨q, hq, rfl⟩, h⟩
    · rintro (e | ⟨y, hy, h⟩)
      · exact .inl e
      · obtain ⟨q, hq, rfl⟩ := List.mem_map.1 hy
        exact .inr ⟨q, hq, h⟩

theorem KidsIn.bel {X : Nat → Prop} {U : List Lb} {S : Kn} {u : Ut} {w w' : World} {B : Option Addr} {bs : List Nat} {tv : Value} (h : KidsIn X U S u w B bs tv) (hb : Below w.heap.size w w') : KidsIn X U S u w' B bs tv := by
  obtain ⟨⟨xs, p, h1, h2, h3, h4, h5⟩, h6⟩ := h
  exact ⟨⟨xs, p, h1.fr (Fr.below (X := fun _ => False) hb) (fun _ _ e => e.elim), h2, h3, fun i c x hc hx => (h4 i c x hc hx).bel hb, h5⟩, h6.fr (Fr.below (X := fun _ => False) hb) (fun _ _ e => e.elim)⟩

theorem TailAt.ptr {X : Nat → Prop} {w : World} {v : Value} {tl : Option Int} (h : TailAt X w v tl) : ∃ ta, v = .pointer ta := by
  cases tl with
  | none => exact ⟨none, h⟩
  | some q =>
    obtain ⟨b, e, _⟩ := h
    exact ⟨_, e⟩

theorem OwnL.at2 {w : World} {base : Nat} {A : Option Addr} {cap : Nat} {l : List (ByteArray × Nat)} (h : OwnC w base A cap l) {j : Nat} {x : ByteArray × Nat} (hx : l[j]? = some x) :
    ∃ b o, A = some ⟨b, o, none⟩ ∧ base ≤ b ∧ b < w.heap.size ∧ w.cell? ⟨b, o + j * 2, none⟩ = some (.string x.1) ∧ w.cell? ⟨b, o + j * 2 + 1, none⟩ = some (.pointer (some ⟨x.2, 0, none⟩)) := by
  obtain ⟨b, o, rfl, hb, c0, c1⟩ := (OwnL.read encC_len h).child hx
  exact ⟨b, o, rfl, (h.block b rfl).1, hb, c0, c1⟩

theorem readL_newH {α : Type} {enc : α → List Value} (w : World) (x : α) (u : Value) (t : TypeId) (he : enc x = [u]) (H : Nat) (hH : w.heap.size = H) : ReadL 1 enc (w.alloc (.cells #[u] t)) (H + 1) (some ⟨H, 0, none⟩) [x] := by
  subst hH
  exact readL_new w x u t he

theorem InPost.bel {X : Nat → Prop} {S : Kn} {num : Int} {hm : Nat} {l : List (Nat × Value)} {t : Ut} {w w1 w2 : World} {e : Ending} (h : InPost X S num hm l t w e w1) (hb : Below w1.heap.size w1 w2) : InPost X S num hm l t w e w2 := by
  obtain ⟨r, he, hf, h1, h2⟩ := h
  refine ⟨r, he, hf.trans (Fr.below hb), h1, fun h => ?_⟩
  obtain ⟨h3, l', h4, h5⟩ := h2 h
  refine ⟨h3, l', h4.later (hb.block hm h4.lt), fun q hq => ?_⟩
  rcases h5 q hq with h | ⟨a, u, b, c⟩
  · exact .inl h
  · exact .inr ⟨a, u, b.bel hb, c⟩

theorem atL_mem {κ : Type} [DecidableEq κ] {a : κ} {v : Value} : ∀ {l : List (κ × Value)}, atL a l = some v → (a, v) ∈ l
  | [], h => by rw [atL_nil] at h; cases h
  | p :: l, h => by
    rw [atL_cons] at h
    split at h
    · next e =>
      injection h with h
      rw [e, ← h]
      simp
    · exact List.mem_cons_of_mem _ (atL_mem h)

theorem putL_none {κ : Type} [DecidableEq κ] {a : κ} {v : Value} {l : List (κ × Value)} (h : atL a l = none) : putL a v l = l ++ [(a, v)] := by
  refine findL_none (n := 0) ?_
  unfold atL at h
  simpa using h

theorem look_var {S : Kn} {t u : Ut} (h : Looks S t u) {L : Sorts} (ho : okT L u) (h8 : u.k = 8) : u = varT u.n ∧ S.κ u.n = none := by
  refine ⟨?_, h.end_ h8⟩
  obtain ⟨k, n, fs, tl⟩ := u
  exact (okT_shape ho h8).1

theorem wpList_appB {w : World} {ops : Array Oper} {rest : List Oper} {o : Oper} {a : Act} {Q : Exit → Act → World → Prop} (hgd : o.guard = none) (s x : Operand)
    (ho : o.op = .call { callee := .builtin .append, args := #[s, x], argTypes := #[103, 103] })
    (base : Nat) {A : Option Addr} {cap : Nat} {l : List Nat} (hs : a.eval s = .slice A l.length cap) (hown : OwnL 93 1 encB w base A cap l) {B : Nat} {A2 : Option Addr} {c : Nat} {l2 : List Nat} (hx : a.eval x = .slice A2 l2.length c) (hr : ReadL 1 encB w B A2 l2)
    (hlen : l.length + l2.length ≤ 1000000000000) (hbase : base ≤ w.heap.size)
    (h : ∀ A' cap' w', OwnL 93 1 encB w' base A' cap' (l ++ l2) → w.grownBy w' ((Value.slice A l.length cap).ownBlock) →
      ((Value.slice A' (l.length + l2.length) cap').ownBlock = (Value.slice A l.length cap).ownBlock ∨ (Value.slice A' (l.length + l2.length) cap').ownBlock = some w.heap.size) → wpList Try.prog ops Q rest (a.put o.dst (.slice A' (l.length + l2.length) cap')) w') : wpList Try.prog ops Q (o :: rest) a w := by
  obtain ⟨i0, hi, hz0, hz1, hz2⟩ := info_parts infoB
  exact wpList_app w encB_len encB_one hgd s x 103 ho base 93 i0 _ 8 Try.underlying103 hi hz0 hz1 hz2 rfl (by decide) hs hown hx hr (by unfold maxLen; omega) (by omega) hbase h

set_option maxRecDepth 100000 in
set_option maxHeartbeats 8000000 in
theorem in_step (X : Nat → Prop) (U : List Lb) (S : Kn) (s m : Nat) (first num : Int) (hm : Nat) (hK : KG U S) (hU : U.length ≤ 100000) (hXh : X hm) (hsm : hm ≠ s ∧ hm ≠ m) (hnum : S.κ num = none) (t : Ut)
    (ih : ∀ x, RTr U S x → tsz (inst S.σ x) < tsz (inst S.σ t) → InAt X U S s m first num hm x) : InAt X U S s m first num hm t := by
  intro b w l hX hS hb g hI
  have HX := Lib.hid hX
  obtain ⟨u, hl⟩ := looks_ex hK.rk t
  obtain ⟨gu, eu⟩ := g.look hK hl
  have HLU := Lib.hid hl
  have HK := Lib.hid hK
  have HS := Lib.hid hS
  have HB := Lib.hid hb
  have HG := Lib.hid gu
  have HE := Lib.hid eu
  have HI := Lib.hid hI
  have HIH := Lib.hid ih
  have HN := Lib.hid hnum
  clear hl hK hX hS hb g gu eu hI ih hnum
  have hsz : s < w.heap.size := (Array.getElem?_eq_some_iff.1 HS.out.st).1
  unfold pk
  go_enter Try.func144, Try.ntmps144
  go_wp2_with fail
  have hbW := ext_alloc (ext_alloc (ext_alloc (Below.refl w.heap.size w) (.cells #[.pointer (some ⟨s, 0, none⟩)] 25)) (.cells #[.int .i64 num] 3)) (.cells #[.map (some hm)] 180)
  have HL := look_any X s m first _ S (HS.out.bel hbW) HK.out.rk b t u (HB.out.bel hbW) HLU.out
  unfold pk at HL
  refine HL.mono ?_
  clear HL
  rintro e w1 ⟨c, rfl, hc, hb1⟩
  obtain ⟨x1, x2, x3, hz1⟩ := box3 w _ _ _ _ _ _ w1 hb1
  have M1 := Lib.hid (And.intro hc (hbW.trans (hb1.mono hbW.size)))
  have HBX := Lib.hid (And.intro x1 (And.intro x2 x3))
  obtain ⟨n0, n1⟩ := hc.cells
  clear hc hb1 hbW HB
  by_cases h8 : u.k = 8
  · have hd : (u.k == 8) = true := by simp [h8]
    have H8 := Lib.hid h8
    clear h8
    go_wp2_with fail
    go_quiet (fail)
    go_wp2_with fail
    go_ret
    obtain ⟨eu, hun⟩ := look_var HLU.out (HG.out.plain (by rw [H8.out]; rfl)).pend.1 H8.out
    have hoc : occN num (inst S.σ t) ↔ u.n = num := by
      rw [HE.out, eu, inst_var, (HK.out.inv.unk _ hun).1, occ_var]
      rfl
    refine ⟨u.n == num, rfl, Fr.below (M1.out.2.trans (below_drewN (Below.refl _ _) _)), fun h => hoc.2 (by simpa using h), fun h => ⟨fun h2 => ?_, l, (HI.out.bel (M1.out.2.trans (below_drewN (Below.refl _ _) _))).1, fun q hq => .inl hq⟩⟩
    rw [hoc.1 h2] at h
    simp at h
  · have hd : (u.k == 8) = false := by simp [h8]
    have H8 := Lib.hid h8
    clear h8
    have HI1 := Lib.hid (HI.out.bel M1.out.2)
    have hkey : Hid (Keyer Try.prog 93 pk w1 c l) := Lib.hid (by
      obtain ⟨i, hi, hn⟩ := infoU
      exact keyer_ptr Try.underlying93 hi hn M1.out.1.plain (plainP HI1.out))
    cases hat : atL c l with
    | some v =>
      obtain ⟨hvt, u', hu', hsu', ho'⟩ := HI1.out.2 _ (atL_mem hat)
      have hvt : v = .bool true := hvt
      have heq : u' = u := hu'.det M1.out.1 hsu' HG.out.sh
      have hget : (atL c l).getD (Value.bool false) = .bool true := by rw [hat, hvt]; rfl
      have HO : Hid (¬ occN num (inst S.σ t)) := Lib.hid (by
        have := ho' (by rw [HE.out, heq]; exact Nat.le_refl _)
        rw [heq] at this
        rw [HE.out]
        exact this)
      clear hat hvt hu' hsu' ho' heq
      go_wp2_with (at_lookup; refine wpList_lookM rfl _ _ false rfl HI1.out.1 hkey.out Try.underlying180 _ (zeroB _) rfl rfl ?_)
      go_ret
      exact ⟨false, rfl, Fr.below M1.out.2, fun h => (by cases h), fun _ => ⟨HO.out, l, HI1.out.1, fun q hq => .inl hq⟩⟩
    | none =>
      have hget : (atL c l).getD (Value.bool false) = .bool false := by rw [hat]; rfl
      have Hput := Lib.hid (putL_none (v := .bool true) hat)
      clear hat
      go_wp2_with (first
        | (at_lookup; refine wpList_lookM rfl _ _ false rfl HI1.out.1 hkey.out Try.underlying180 _ (zeroB _) rfl rfl ?_)
        | (refine wpList_putM rfl _ _ _ rfl HI1.out.1 hkey.out Try.underlying180 (.bool true) rfl rfl rfl ?_; intro w2 hM2 hg2))
      go_frame
      clear hget
      have hhm : hm < w.heap.size := HI.out.1.lt
      have hbx : ∀ (x : Nat) (v : Value), w.heap.size ≤ x → w1.cell? ⟨x, 0, none⟩ = some v → w2.cell? ⟨x, 0, none⟩ = some v := fun x v hx hv => by
        have hlt : x < w1.heap.size := by
          rcases Nat.lt_or_ge x w1.heap.size with g | g
          · exact g
          · simp [World.cell?, Array.getElem?_eq_none g] at hv
        exact (World.cell?_of_block (a := ⟨x, 0, none⟩) (hg2.block x hlt fun e => by injection e with e; omega)).trans hv
      have b2 : Hid (w2.cell? ⟨w.heap.size, 0, none⟩ = some (.pointer (some ⟨s, 0, none⟩)) ∧ w2.cell? ⟨w.heap.size + 1, 0, none⟩ = some (.int .i64 num) ∧ w2.cell? ⟨w.heap.size + 1 + 1, 0, none⟩ = some (.map (some hm)) ∧ w.heap.size + 3 ≤ w2.heap.size) := Lib.hid ⟨hbx _ _ (Nat.le_refl _) HBX.out.1, hbx _ _ (by omega) HBX.out.2.1, hbx _ _ (by omega) HBX.out.2.2, Nat.le_trans hz1 hg2.size⟩
      have hF : Fr (fun k => k = hm) w w2 := (Fr.below M1.out.2).trans (Fr.grown hg2 fun k hk => by injection hk with hk; exact hk.symm)
      have hnd : NodeAt X w2 c u := M1.out.1.fr (Fr.grown (X := fun k => k = hm) hg2 fun k hk => by injection hk with hk; exact hk.symm) fun k _ e => e ▸ hXh
      have Z2 : Hid (NodeAt X w2 c u ∧ SolAt X s m first w2 S ∧ Fr (fun k => k = hm) w w2 ∧ ∀ sz, sz < tsz (inst S.σ u) → HadI X S num w2 hm (putL c (.bool true) l) sz) := Lib.hid ⟨hnd, HS.out.fr hF fun k _ e => by subst e; exact ⟨hXh, hsm.1, hsm.2⟩, hF, fun sz hsz => ⟨hM2, fun q hq => by
        rw [Hput.out] at hq
        rcases List.mem_append.1 hq with hq | hq
        · obtain ⟨e1, u', e2, e3, e4⟩ := HI1.out.2 q hq
          exact ⟨e1, u', e2.fr (Fr.grown (X := fun k => k = hm) hg2 fun k hk => by injection hk with hk; exact hk.symm) fun k _ e => e ▸ hXh, e3, fun h => e4 (by rw [HE.out]; omega)⟩
        · rw [List.mem_singleton] at hq
          subst hq
          exact ⟨rfl, u, hnd, HG.out.sh, fun h => by omega⟩⟩⟩
      obtain ⟨A3, B3, ls, bs, ca, cb, ta, hb3, _, hl3, _, hB3, hbl3, hk3, ht3, _⟩ := hnd.partsU
      have c0 : w2.cell? ⟨c, 0, none⟩ = some (.int .i64 u.k) := by simp [World.cell?, hb3]
      have c3 : w2.cell? ⟨c, 3, none⟩ = some (.slice B3 bs.length cb) := by simp [World.cell?, hb3]
      have c4 : w2.cell? ⟨c, 4, none⟩ = some (.pointer ta) := by simp [World.cell?, hb3]
      have P3 := Lib.hid (And.intro hB3 (And.intro hbl3 (And.intro hk3 ht3)))
      clear hbx hF hnd hM2 hg2 hb3 hl3 hB3 hbl3 hk3 ht3 n0 n1 x1 x2 x3 HI1 hkey HBX hd
      go_quiet (fail)
      go_upto_if 45 with (go_at_call 102; refine (uIsRow_any u.k _).mono ?_; rintro e w9 ⟨rfl, rfl⟩)
      go_cut [9, 10] (fun s9 s10 wx => ∃ B bs cb ta, s9 = .slice B (List.length bs) cb ∧ s10 = .pointer ta ∧ Hid (KidsIn X U S u wx B bs (.pointer ta) ∧ Below w2.heap.size w2 wx))
      case first => as_aux_lemma =>
        cases hr : isRowB u.k
        · have hR := Lib.hid hr
          go_wp2_with fail
          go_meet
          exact ⟨B3, bs, cb, ta, rfl, rfl, Lib.hid ⟨(kids_plain (HG.out.plain hR.out) hU H8.out hR.out P3.out.1 P3.out.2.1 P3.out.2.2.1 P3.out.2.2.2).bel (below_drewN (Below.refl _ _) _), below_drewN (Below.refl _ _) _⟩⟩
        · have hR := Lib.hid hr
          obtain ⟨bq1, _, _, _⟩ := b2.out
          go_wp2_with fail
          have hrow := HG.out.row X s m first (w2.drewN nq) (Z2.out.2.1.bel (below_drewN (Below.refl _ _) _)) HK.out hU c (Z2.out.1.bel (below_drewN (Below.refl _ _) _)) hR.out
          unfold pk at hrow
          refine hrow.mono ?_
          clear hrow
          rintro e w3 ⟨A4, cap4, cl, x, p, tv, rfl, z1, z2, z3, z4, z5⟩
          obtain ⟨tb, rfl⟩ := z3.ptr
          have Y := Lib.hid (And.intro z1 (And.intro z2 (And.intro z3 (And.intro z4 ((below_drewN (Below.refl w2.heap.size w2) nq).trans z5)))))
          have hcl : cl.length ≤ 100000 := by have := z1.len; have := z2.1; omega
          clear z1 z2 z3 z4 z5 bq1
          go_wp2_with fail
          go_loopw [9, 54] (fun s9 s54 wr => ∃ (i : Nat) (B : Option Addr) (cb : Nat) (bs : List Nat), s54 = .int .i64 i ∧ s9 = .slice B bs.length cb ∧ i ≤ cl.length ∧ Hid (bs = (cl.take i).map (·.2) ∧ OwnL 93 1 encB wr w3.heap.size B cb bs ∧ Below w3.heap.size w3 wr)) (fun _ s54 _ => cl.length - (intOf s54).toNat)
          case atStart => exact ⟨0, none, 0, [], rfl, rfl, Nat.zero_le _, Lib.hid ⟨by simp, OwnL.nil, Below.refl _ _⟩⟩
          case round =>
            obtain ⟨i, B, cb2, bs2, rfl, rfl, hi, M⟩ := hrel
            by_cases hp : i < cl.length
            · obtain ⟨d, hd⟩ := getq_ex (l := cl) (i := i) hp
              obtain ⟨gb, go, rfl, _, hgz, k0, k1⟩ := OwnL.at2 Y.out.2.2.2.1 hd
              have e0 := (M.out.2.2.cell (p := ⟨gb, go + i * 2, none⟩) hgz).trans k0
              have e1 := (M.out.2.2.cell (p := ⟨gb, go + i * 2 + 1, none⟩) hgz).trans k1
              have hbl : bs2.length ≤ 100000 := by
                have := M.out.1
                rw [this]
                simp
                omega
              have Htk : Hid ((cl.take (i + 1)).map (·.2) = (cl.take i).map (·.2) ++ [d.2]) := Lib.hid (by rw [List.take_add_one, hd]; simp)
              have hwz : w3.heap.size ≤ wr.heap.size := M.out.2.2.size
              clear hd hgz k0 k1
              go_wp2_with (at_builtin; refine wpList_appB rfl (.tmp 58) (.tmp 61) rfl w3.heap.size (l := bs2) rfl (OwnL.alloc (OwnL.alloc M.out.2.1 _) _) (l2 := [d.2]) rfl (readL_newH _ d.2 _ _ rfl (wr.heap.size + 1) (by simp)) (by simp; omega) (by simp; omega) ?_; intro A1 c1 w4 hown1 hg1 _)
              have MJ : Hid (bs2 ++ [d.2] = (cl.take (i + 1)).map (·.2) ∧ OwnL 93 1 encB w4 w3.heap.size A1 c1 (bs2 ++ [d.2]) ∧ Below w3.heap.size w3 w4) := Lib.hid ⟨by rw [Htk.out, M.out.1], hown1, ext_app (ext_alloc (ext_alloc M.out.2.2 _) _) hg1 (fun q hq => (M.out.2.1.block q hq).1)⟩
              clear hown1 hg1 e0 e1
              go_roundw
              case rel => exact ⟨i + 1, A1, c1, bs2 ++ [d.2], by go_num, by simp, hp, MJ⟩
              case measure => simp [intOf]; omega
            · go_wp2_with fail
              go_meet
              have hbe : bs2 = cl.map (·.2) := by
                have := M.out.1
                rw [List.take_of_length_le (by omega)] at this
                exact this
              refine ⟨B, bs2, cb2, tb, rfl, rfl, Lib.hid ⟨?_, Y.out.2.2.2.2.trans (M.out.2.2.mono Y.out.2.2.2.2.size)⟩⟩
              rw [hbe]
              exact kids_row Y.out.1 hU H8.out (Y.out.2.1.bel M.out.2.2) (Y.out.2.2.1.fr (Fr.below (X := fun _ => False) M.out.2.2) (fun _ _ e => e.elim)) (by
                rw [← hbe]
                exact Lies.of_own encB_len M.out.2.1 fun k hk _ hx => by
                  have h1 := HX.out k hx
                  have h2 := b2.out.2.2.2
                  have h3 := Y.out.2.2.2.2.size
                  omega)
      case rest =>
        obtain ⟨B5, bs5, cb5, t5, rfl, rfl, KI⟩ := hcut
        obtain ⟨⟨xs, p, kt, klen, kle, kn, kg, kocc⟩, krd⟩ := KI.out.1
        have hbel := KI.out.2
        have hz2 : w.heap.size + 3 ≤ wc.heap.size := Nat.le_trans b2.out.2.2.2 hbel.size
        have hbxc : ∀ (x : Nat) (v : Value), w2.cell? ⟨x, 0, none⟩ = some v → wc.cell? ⟨x, 0, none⟩ = some v := fun x v hv => by
          have hlt : x < w2.heap.size := by
            rcases Nat.lt_or_ge x w2.heap.size with g | g
            · exact g
            · simp [World.cell?, Array.getElem?_eq_none g] at hv
          exact (hbel.cell (p := ⟨x, 0, none⟩) hlt).trans hv
        have bq2 := hbxc _ _ b2.out.2.1
        have BX := Lib.hid (And.intro (hbxc _ _ b2.out.1) (And.intro bq2 (hbxc _ _ b2.out.2.2.1)))
        have hhm2 : hm < wc.heap.size := by omega
        have Zc : Hid (SolAt X s m first wc S ∧ NodeAt X wc c u ∧ Fr (fun k => k = hm) w wc ∧ ∀ sz, sz < tsz (inst S.σ u) → HadI X S num wc hm (putL c (.bool true) l) sz) := Lib.hid ⟨Z2.out.2.1.bel hbel, Z2.out.1.bel hbel, Z2.out.2.2.1.trans (Fr.below hbel), fun sz h => (Z2.out.2.2.2 sz h).bel hbel⟩
        have KC := Lib.hid (And.intro klen (And.intro kn (And.intro kg (And.intro kocc krd))))
        clear kn kg kocc krd hbel hbxc KI b2 c0 c3 c4 klen
        by_cases hpn : p = some num
        · subst hpn
          obtain ⟨bt, hbt, hbtx, hbq⟩ := kt
          obtain rfl : t5 = some ⟨bt, 0, none⟩ := by simpa [pk] using hbt
          have t1 : wc.cell? ⟨bt, 1, none⟩ = some (.int .i64 num) := by simp [World.cell?, hbq]
          clear hbt hbtx hbq
          go_wp2_with fail
          go_quiet (fail)
          go_wp2_with fail
          go_ret
          exact ⟨true, rfl, Zc.out.2.2.1.trans (Fr.below (below_drewN (Below.refl _ _) _)), fun _ => by rw [HE.out]; exact (KC.out.2.2.2.1 num).2 (.inl rfl), fun h => by cases h⟩
        · have HPN := Lib.hid hpn
          have HCall : Hid (∀ W, Below wc.heap.size wc W → Calls Try.prog 175 #[.slice B5 bs5.length cb5, .func (.func 176) #[] #[.pointer (some ⟨w.heap.size, 0, none⟩), .pointer (some ⟨w.heap.size + 1, 0, none⟩), .pointer (some ⟨w.heap.size + 1 + 1, 0, none⟩)]] W fun e w' => ∃ r : Bool, e = .returned (.bool r) ∧ Fr (fun k => k = hm) wc w' ∧ (r = true → ∃ x ∈ xs, occN num (inst S.σ x)) ∧
              (r = false → ∃ l2, KMap pk w' hm l2 ∧ (∀ q ∈ l2, q ∈ putL c (.bool true) l ∨ (q.2 = .bool true ∧ ∃ u, NodeAt X w' q.1 u ∧ shT u ∧ ¬ occN num (inst S.σ u))) ∧ ∀ x ∈ xs, ¬ occN num (inst S.σ x))) := Lib.hid fun W hW => by
            have hfW : Fr (fun k => k = hm) wc W := Fr.below hW
            have hIs : ∀ {v : World} {k : Nat}, Fr (fun k => k = hm) wc v → k < v.heap.size → k = hm → X k := fun _ _ e => e ▸ hXh
            have hbx : ∀ {v : World} {x : Nat} {y : Value}, Fr (fun k => k = hm) wc v → w.heap.size ≤ x → wc.cell? ⟨x, 0, none⟩ = some y → v.cell? ⟨x, 0, none⟩ = some y := fun {v x y} hf hx hv => by
              have hlt : x < wc.heap.size := by
                rcases Nat.lt_or_ge x wc.heap.size with g | g
                · exact g
                · simp [World.cell?, Array.getElem?_eq_none g] at hv
              exact (World.cell?_of_block (a := ⟨x, 0, none⟩) (hf.block x hlt fun e => by have e : x = hm := e; omega)).trans hv
            refine (containsB_any B5 cb5 bs5 _ _ _ (fun i v => Fr (fun k => k = hm) wc v ∧ ∃ l2, KMap pk v hm l2 ∧ (∀ q ∈ l2, q ∈ putL c (.bool true) l ∨ (q.2 = .bool true ∧ ∃ u, NodeAt X v q.1 u ∧ shT u ∧ ¬ occN num (inst S.σ u))) ∧ ∀ (j : Nat) (x : Ut), j < i → xs[j]? = some x → ¬ occN num (inst S.σ x)) (fun v => Fr (fun k => k = hm) wc v ∧ ∃ x ∈ xs, occN num (inst S.σ x)) W ⟨?_, ?_⟩ ?_ (by omega)).mono ?_
            · rintro i d wr ⟨hf, _⟩ hd
              obtain ⟨bb, oo, e, hx, hb, hcell⟩ := KC.out.2.2.2.2.cellB hd
              exact ⟨bb, oo, e, (World.cell?_of_block (a := ⟨bb, oo + i, none⟩) (hf.block bb hb fun e => hx (by have e : bb = hm := e; exact e ▸ hXh))).trans hcell⟩
            · rintro i d wr ⟨hf, l2, m1, m2, m3⟩ hd
              obtain ⟨x, hx⟩ := getq_ex (l := xs) (i := i) (by rw [← KC.out.1]; exact getq_lt hd)
              obtain ⟨gx, sx⟩ := KC.out.2.2.1 x (List.mem_of_getElem? hx)
              have hXw : ∀ k, X k → k < wr.heap.size := fun k hk => by have := HX.out k hk; have := hf.size; omega
              have hSw : SolAt X s m first wr S := Zc.out.1.fr hf fun k _ e => by subst e; exact ⟨hXh, hsm.1, hsm.2⟩
              have hNw : NodeAt X wr d x := (KC.out.2.1 i d x hd hx).fr hf fun k _ e => e ▸ hXh
              have hIw : HadI X S num wr hm l2 (tsz (inst S.σ x)) := ⟨m1, fun q hq => by
                rcases m2 q hq with h | ⟨e, u', h1, h2, h3⟩
                · obtain ⟨e, u', h1, h2, h3⟩ := (Zc.out.2.2.2 _ sx).2 q h
                  exact ⟨e, u', h1.fr hf fun k _ e => e ▸ hXh, h2, h3⟩
                · exact ⟨e, u', h1, h2, fun _ => h3⟩⟩
              refine (inC_any X U S s m first num hm x (HIH.out x (.inl gx) (by rw [HE.out]; exact sx)) d wr l2 w.heap.size (w.heap.size + 1) (w.heap.size + 1 + 1) hXw hSw hNw (.inl gx) hIw (hbx hf (Nat.le_refl _) BX.out.1) (hbx hf (by omega) BX.out.2.1) (hbx hf (by omega) BX.out.2.2)).mono ?_
              rintro e w' ⟨r, rfl, f1, f2, f3⟩
              refine ⟨r, rfl, fun h => ⟨hf.trans f1, x, List.mem_of_getElem? hx, f2 h⟩, fun h => ?_⟩
              obtain ⟨f4, l3, k1, k2⟩ := f3 h
              refine ⟨hf.trans f1, l3, k1, fun q hq => ?_, fun j y hj hy => ?_⟩
              · rcases k2 q hq with h | h
                · rcases m2 q h with h | ⟨e, u', h1, h2, h3⟩
                  · exact .inl h
                  · exact .inr ⟨e, u', h1.fr f1 fun k _ e => e ▸ hXh, h2, h3⟩
                · exact .inr h
              · by_cases e : j = i
                · subst e
                  rw [hx] at hy
                  injection hy with hy
                  exact hy ▸ f4
                · exact m3 j y (by omega) hy
            · exact ⟨hfW, _, ((Zc.out.2.2.2 0 (by obtain ⟨k, n, fs, tl⟩ := inst S.σ u; rw [tsz_mk]; omega)).1).later (hW.block hm hhm2), fun q hq => .inl hq, fun j x hj => by omega⟩
            · rintro e w' ⟨r, rfl, h1, h2⟩
              cases r with
              | true => exact ⟨true, rfl, (h1 rfl).1, fun _ => (h1 rfl).2, fun h => by cases h⟩
              | false =>
                obtain ⟨a1, l3, a2, a3, a4⟩ := h2 rfl
                refine ⟨false, rfl, a1, fun h => (by cases h), fun _ => ⟨l3, a2, a3, fun x hx => ?_⟩⟩
                obtain ⟨j, hj⟩ := List.getElem?_of_mem hx
                exact a4 j x (by rw [KC.out.1]; exact getq_lt hj) hj
          have hend : Hid (∀ (r : Bool) (w' : World), Fr (fun k => k = hm) wc w' → (r = true → ∃ x ∈ xs, occN num (inst S.σ x)) → (r = false → ∃ l2, KMap pk w' hm l2 ∧ (∀ q ∈ l2, q ∈ putL c (.bool true) l ∨ (q.2 = .bool true ∧ ∃ u, NodeAt X w' q.1 u ∧ shT u ∧ ¬ occN num (inst S.σ u))) ∧ ∀ x ∈ xs, ¬ occN num (inst S.σ x)) → InPost X S num hm l t w (.returned (.bool r)) w') := Lib.hid fun r w' f h1 h2 => by
            refine ⟨r, rfl, Zc.out.2.2.1.trans f, fun h => by rw [HE.out]; exact (KC.out.2.2.2.1 num).2 (.inr (h1 h)), fun h => ?_⟩
            obtain ⟨l2, a1, a2, a3⟩ := h2 h
            have hno : ¬ occN num (inst S.σ u) := fun ho => by
              rcases (KC.out.2.2.2.1 num).1 ho with e | ⟨x, hx, hox⟩
              · exact HPN.out e
              · exact a3 x hx hox
            refine ⟨by rw [HE.out]; exact hno, l2, a1, fun q hq => ?_⟩
            rcases a2 q hq with h | h
            · rw [Hput.out] at h
              rcases List.mem_append.1 h with h | h
              · exact .inl h
              · rw [List.mem_singleton] at h
                subst h
                exact .inr ⟨rfl, u, Zc.out.2.1.fr f fun k _ e => e ▸ hXh, HG.out.sh, hno⟩
            · exact .inr h
          cases p with
          | none =>
            have hta : t5 = none := by have : Value.pointer t5 = .pointer none := kt; simpa using this
            subst hta
            clear kt hpn
            go_wp2_with fail
            first | (go_region_with (go_at_call 175; (with_reducible refine (HCall.out _ ?_).mono ?_); (first | exact Below.refl _ _ | exact (Below.refl _ _).drew); rintro e w5 ⟨r, rfl, f1, f2, f3⟩; have RR := Lib.hid (hend.out r w5 f1 f2 f3); clear f1 f2 f3)) | fail
            all_goals
              go_wp2_with fail
              go_ret
              exact RR.out.bel (by first | exact Below.refl _ _ | exact (Below.refl _ _).drew)
          | some q =>
            obtain ⟨bt, hbt, hbtx, hbq⟩ := kt
            obtain rfl : t5 = some ⟨bt, 0, none⟩ := by simpa [pk] using hbt
            have hbtz : bt < wc.heap.size := (Array.getElem?_eq_some_iff.1 hbq).1
            have hbth : bt ≠ hm := fun e => hbtx (e ▸ hXh)
            have t1 : wc.cell? ⟨bt, 1, none⟩ = some (.int .i64 q) := by simp [World.cell?, hbq]
            have hqn : q ≠ num := fun e => hpn (by rw [e])
            have hqd : (q == num) = false := by simpa using hqn
            have hnz : w.heap.size + 1 < wc.heap.size := by omega
            have hnh : w.heap.size + 1 ≠ hm := by omega
            clear hbt hbtx hbq hpn hqn
            go_wp2_with fail
            go_region_held3 (fun v => v.cell? ⟨bt, 1, none⟩ = some (.int .i64 q) ∧ v.cell? ⟨w.heap.size + 1, 0, none⟩ = some (.int .i64 num)) (first | go_keep | exact ⟨y1, y2⟩)
              ((go_at_call 175; (with_reducible refine (HCall.out _ ?_).mono ?_); (first | exact Below.refl _ _ | exact (Below.refl _ _).drew); rintro e w5 ⟨r, rfl, f1, f2, f3⟩; have RR := Lib.hid (hend.out r w5 f1 f2 f3); have y1 := (World.cell?_of_block (a := ⟨bt, 1, none⟩) (f1.block bt hbtz hbth)).trans t1; have y2 := (World.cell?_of_block (a := ⟨w.heap.size + 1, 0, none⟩) (f1.block (w.heap.size + 1) hnz hnh)).trans bq2; clear f1 f2 f3))
            all_goals
              go_wp2_with fail
              go_ret
              exact RR.out.bel (by first | exact Below.refl _ _ | exact (Below.refl _ _).drew)

theorem uin_any (X : Nat → Prop) (U : List Lb) (S : Kn) (s m : Nat) (first num : Int) (hm : Nat) (hK : KG U S) (hU : U.length ≤ 100000) (hXh : X hm) (hsm : hm ≠ s ∧ hm ≠ m) (hnum : S.κ num = none) : ∀ (n : Nat) (t : Ut), tsz (inst S.σ t) ≤ n → InAt X U S s m first num hm t := by
  intro n
  induction n with
  | zero =>
    intro t ht
    cases h : inst S.σ t with
    | mk k n fs tl =>
      rw [h, tsz_mk] at ht
      omega
  | succ n ih => exact fun t ht => in_step X U S s m first num hm hK hU hXh hsm hnum t fun x _ hx => ih x (by omega)
end Go.Proofs.Ytblfeokjlecgkaa
