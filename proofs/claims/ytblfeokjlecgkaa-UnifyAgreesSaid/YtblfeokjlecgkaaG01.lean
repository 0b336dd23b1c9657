/- Laid together by a tool from the texts of this seat: Same Make Part RowA PureA Trees Off Joined PutP Fresh UniI UniJ UniM UniO UniP UniQ UniR UniS. Conditions: each theorem's own. -/
import Derived.Test.YtblfeokjlecgkaaO01
import Derived.Test.YtblfeokjlecgkaaO02
import Derived.Test.YtblfeokjlecgkaaO03
import Derived.Test.YtblfeokjlecgkaaO04
import Derived.Test.YtblfeokjlecgkaaO05
import Derived.Test.YtblfeokjlecgkaaO06
import Derived.Test.YtblfeokjlecgkaaO07
import Derived.Test.YtblfeokjlecgkaaO08
import Derived.Test.YtblfeokjlecgkaaO09
import Derived.Test.YtblfeokjlecgkaaO10
import Derived.Test.YtblfeokjlecgkaaO11
import Derived.Test.YtblfeokjlecgkaaO12
import Derived.Test.YtblfeokjlecgkaaO13
import Derived.Test.YtblfeokjlecgkaaO14
import Derived.Test.YtblfeokjlecgkaaO15
import Derived.Test.YtblfeokjlecgkaaO16
import Derived.Test.YtblfeokjlecgkaaO17
import Derived.Test.YtblfeokjlecgkaaO18
import Derived.Test.YtblfeokjlecgkaaO19
import Derived.Test.YtblfeokjlecgkaaO20
import Derived.Test.YtblfeokjlecgkaaO21
import Derived.Test.YtblfeokjlecgkaaO22
import Derived.Test.YtblfeokjlecgkaaO23
import Derived.Test.YtblfeokjlecgkaaO24
import Derived.Test.YtblfeokjlecgkaaO25
import Derived.Test.YtblfeokjlecgkaaO26
import Derived.Test.YtblfeokjlecgkaaO27
import Derived.Test.YtblfeokjlecgkaaO28
import Derived.Test.YtblfeokjlecgkaaO29
import Derived.Test.YtblfeokjlecgkaaO30
import Derived.Test.YtblfeokjlecgkaaO31
import Derived.Test.YtblfeokjlecgkaaO32
import Derived.Test.YtblfeokjlecgkaaProg
import Derived.WalkKit
import Derived.WalkSpells
import Derived.WalkLawsBesides
import Derived.Deep.Draws
import Derived.Deep.QuietTactic
import Derived.BigQuiet
import Derived.Lib.Hide
import Derived.Laws.StructEq
import Derived.Lib.SliceRun
import Derived.Laws.EntriesVeiled
import Derived.ArgAppend
import Derived.Deep.RegionHeld
import Derived.Lib.BufferWrite
/- Nodes of types as data, slices of nodes as lists, and the small facts on worlds that all walks of this seat use. -/
namespace Go.Proofs.Ytblfeokjlecgkaa
open Go.RowKit

section
variable {w w' : World} {B B' : Nat} {A : Option Addr} {xs : List Nd} {b o : Nat}

end

end Go.Proofs.Ytblfeokjlecgkaa

/- The small functions on one node, each by its contract. -/
namespace Go.Proofs.Ytblfeokjlecgkaa
open Go.RowKit

end Go.Proofs.Ytblfeokjlecgkaa

/- Words and tags: what the program asks of a text's runes, and the document of its bytes. -/
namespace Go.Proofs.Ytblfeokjlecgkaa
open Go.RowKit

end Go.Proofs.Ytblfeokjlecgkaa

/- Words and tags as the document has them; labels. -/
namespace Go.Proofs.Ytblfeokjlecgkaa
open Go.RowKit

end Go.Proofs.Ytblfeokjlecgkaa

/- Functions that read slices of nodes, each by its contract. -/
namespace Go.Proofs.Ytblfeokjlecgkaa
open Go.RowKit

def staticB (xs : List Nd) : Bool := xs.all fun x => !(x.k == 0)

set_option maxRecDepth 100000 in
set_option maxHeartbeats 1000000 in
theorem rStatic_any (A : Option Addr) (c Ba : Nat) (xs : List Nd) (w : World) (ha : TyA w Ba A xs) (hl : xs.length ≤ 9223372036854775807) :
    Calls Try.prog 27 #[.slice A xs.length c] w fun e w' => e = .returned (.bool (staticB xs)) ∧ w = w' := by
  go_enter Try.func27, Try.ntmps27
  go_wp2_with fail
  go_loop [3] (fun i => ∃ k : Nat, k ≤ xs.length ∧ i = .int .i64 k ∧ Hid (allFrom (fun x => !(x.k == 0)) xs k = staticB xs)) (fun i => xs.length - (intOf i).toNat)
  case atStart => exact ⟨0, Nat.zero_le _, rfl, Lib.hid rfl⟩
  case round =>
    obtain ⟨k, hk, rfl, hgood⟩ := hrel
    by_cases hp : k < xs.length
    · obtain ⟨x, hx⟩ := getq_ex hp
      have hstep := Lib.hid (allFrom_step (p := fun x => !(x.k == 0)) hx)
      obtain ⟨b1, o1, rfl, hb1, c10, c11, c12⟩ := ha.at_ hx
      clear hx
      cases h8 : (x.k == 0)
      all_goals
        have H8 := Lib.hid h8
        go_wp2_with fail
      · go_round
        case rel => exact ⟨k + 1, hp, by go_num, Lib.hid (by rw [← hgood.out, hstep.out, H8.out]; rfl)⟩
        case measure => simp [intOf]; omega
      · go_ret
        exact ⟨ret_bool (by rw [← hgood.out, hstep.out, H8.out]; rfl), rfl⟩
    · have hend := Lib.hid (allFrom_end (p := fun x => !(x.k == 0)) hp)
      go_wp2_with fail
      go_ret
      exact ⟨ret_bool (by rw [← hgood.out, hend.out]), rfl⟩
end Go.Proofs.Ytblfeokjlecgkaa

/- Whether two types are alike: the document's loop, and the program's by a function value. -/
namespace Go.Proofs.Ytblfeokjlecgkaa
open Go.RowKit

def Nd.bare (x : Nd) : Nd := if x.k = 0 then { x with n := 0 } else x

end Go.Proofs.Ytblfeokjlecgkaa

/- ty.Arrow, slices.Clone, ty.Part, and the document's. -/
namespace Go.Proofs.Ytblfeokjlecgkaa
open Go.RowKit

theorem own_one (w : World) (x : Nd) : OwnN (w.alloc (.cells #[.int .i64 x.k, .string x.s, .int .i64 x.n] 48)) w.heap.size (some ⟨w.heap.size, 0, none⟩) 1 [x] :=
  ⟨rfl, .inr ⟨w.heap.size, 1, _, rfl, Nat.le_refl _, heap_alloc_new w _, Nat.le_refl _, by simp [maxLen], rfl, rfl⟩⟩

end Go.Proofs.Ytblfeokjlecgkaa

/- ty.Part and the document's. -/
namespace Go.Proofs.Ytblfeokjlecgkaa
open Go.RowKit

def bareN : List Nd → List Nd
  | [] => []
  | x :: xs => x.name ByteArray.empty :: xs

theorem bareN_length (xs : List Nd) : (bareN xs).length = xs.length := by cases xs <;> rfl

set_option maxRecDepth 100000 in
set_option maxHeartbeats 2000000 in
theorem rPart_any (A : Option Addr) (c : Nat) (T ts rest : List Nd) (i : Nat) (w : World) (ha : TyA w w.heap.size A T) (hl : T.length ≤ 1000000) (hc : T.length ≤ c) (hd : T.drop i = ts ++ rest) (hok : okAll ts) (hokT : okAll T) (hf : Fo 1 ts) :
    Calls Try.prog 106 #[.slice A T.length c, .int .i64 (i : Int)] w (RetN w (bareN ts)) := by
  have hi : i < T.length := drop_lt hd hf.pos
  have hle : i + ts.length ≤ T.length := by
    have := congrArg List.length hd
    rw [List.length_drop, List.length_append] at this
    omega
  have hendr := Lib.hid (show endR T (i : Int) = ((i + ts.length : Nat) : Int) by rw [endR_nat hi, endGo_one hd hok hf])
  obtain ⟨x, ys, rfl⟩ : ∃ x ys, ts = x :: ys := by
    cases ts with
    | nil => exact absurd hf.nil_of (by omega)
    | cons x ys => exact ⟨x, ys, rfl⟩
  obtain ⟨b1, o1, rfl, hb1, c10, c11, c12⟩ := ha.at_ (getq_of_drop hd)
  have hpart := ha.part hd
  have HokT := Lib.hid hokT
  clear hd hok hf hokT
  have h0' : (0 : Int) ≤ (i : Int) := by omega
  have h1' : (i : Int) < (T.length : Int) := by omega
  have hd0 : decide ((i : Int) < 0) = false := by simp
  have hd1 : decide (T.length ≤ i) = false := by simp; omega
  have hown0 := own_empty 48 3 encN w
  have hb0 := ext_alloc (Below.refl w.heap.size w) (.cells #[] 48)
  simp only [List.length_cons] at hle hendr
  go_enter Try.func106, Try.ntmps106
  go_wp2_with fail
  refine (rEnd_any _ c T i _ ((ha.below hb0).more hb0.size) hl HokT.out).mono ?_
  rintro e w1 ⟨rfl, hb⟩
  rw [hendr.out]
  have hown1 := OwnL.below hown0 hb (Nat.le_refl _)
  have hbel1 := ext_trans hb0 hb
  have z1 := hbel1.size
  go_wp2_with (at_builtin; refine wpList_appN rfl (.tmp 14) (.tmp 20) rfl w.heap.size (l := []) rfl hown1 (l2 := x :: ys) (by show _ = Value.slice _ (ys.length + 1) _; rw [show i + (ys.length + 1) - i = ys.length + 1 by omega]; rfl) (hpart.below hbel1) (by simp; omega) z1 ?_; intro A2 cap2 w3 hown2 hg3 _; have hbel2 := ext_app hbel1 hg3 (fun k hk => (OwnL.block hown1 k hk).1); rw [List.nil_append] at hown2; obtain ⟨g, rfl, hbg, hg, hcell, hfz, hown3, hgr3⟩ := OwnL.setN hown2 (j := 0) (x := x) rfl ByteArray.empty; have hbel3 := ext_set (p := ⟨g, 0 * 3 + 1, none⟩) hbel2 (by simp; omega) (.string ByteArray.empty); simp only [Nat.zero_mul, Nat.zero_add] at hcell hfz hown3 hbel3)
  go_ret
  exact ⟨some ⟨g, 0, none⟩, cap2, by simp [bareN], hown3, hbel3⟩
end Go.Proofs.Ytblfeokjlecgkaa

/- ty.Row's parts: odd labels, the order of labels. -/
namespace Go.Proofs.Ytblfeokjlecgkaa
open Go.RowKit

def encT (s : ByteArray) : List Value := [.string s]
theorem encT_len (s : ByteArray) : (encT s).length = 1 := rfl
abbrev ReadT (w : World) (B : Nat) (A : Option Addr) (l : List ByteArray) : Prop := ReadL 1 encT w B A l

theorem ReadL.str {w : World} {B : Nat} {A : Option Addr} {l : List ByteArray} (h : ReadT w B A l) {i : Nat} {s : ByteArray} (hn : l[i]? = some s) :
    ∃ b o, A = some ⟨b, o, none⟩ ∧ b < B ∧ w.cell? ⟨b, o + i, none⟩ = some (.string s) := by
  obtain ⟨b, o, rfl, hb, hc⟩ := h (by rintro rfl; simp at hn)
  have := hc i s hn 0 _ rfl
  rw [Nat.mul_one, Nat.add_zero] at this
  exact ⟨b, o, rfl, hb, this⟩

end Go.Proofs.Ytblfeokjlecgkaa

/- Types and functions' types (no program in sight). -/
namespace Go.Proofs.Ytblfeokjlecgkaa

theorem IsT.bare {T : List Nd} (h : IsT T) : bareN T = T := by
  obtain ⟨x, ys, rfl, hs, _⟩ := h.root
  unfold bareN Nd.name
  rw [← hs]

section
variable {a b : List Nd}

end

end Go.Proofs.Ytblfeokjlecgkaa

/- So many trees, each by itself. -/
namespace Go.Proofs.Ytblfeokjlecgkaa

theorem flatten_drop_step {tss : List (List Nd)} {k : Nat} {ts : List Nd} (h : tss[k]? = some ts) : (tss.drop k).flatten = ts ++ (tss.drop (k + 1)).flatten := by
  rw [drop_cons h, List.flatten_cons]
end Go.Proofs.Ytblfeokjlecgkaa

/- Rows in blocks of their own: what a write into one leaves of another. -/
namespace Go.Proofs.Ytblfeokjlecgkaa
open Go.RowKit

theorem below_app {w w' : World} {B n c : Nat} {A : Option Addr} (hg : w.grownBy w' ((Value.slice A n c).ownBlock)) (hB : B ≤ w.heap.size) (hA : ∀ a, A = some a → B ≤ a.block) : Below B w w' :=
  (Below.refl B w).grown hg hB fun k hk => by
    obtain ⟨a, ha, hab⟩ := ownBlock_of hk
    rw [← hab]
    exact hA a ha
end Go.Proofs.Ytblfeokjlecgkaa

/- term.cut, term.joined, wrong.error. -/
namespace Go.Proofs.Ytblfeokjlecgkaa
open Go.RowKit

theorem sls_below {w w' : World} {B : Nat} {vs : List (Option Addr × Nat × Nat)} {tss : List (List Nd)} (h : Sls w B vs tss) (hb : Below B w w') : Sls w' B vs tss :=
  ⟨h.1, fun i v ts hv ht => ⟨(h.2 i v ts hv ht).1, (h.2 i v ts hv ht).2.below hb⟩⟩

end Go.Proofs.Ytblfeokjlecgkaa

/- term.joined of no children at all. -/
namespace Go.Proofs.Ytblfeokjlecgkaa
open Go.RowKit

end Go.Proofs.Ytblfeokjlecgkaa

/- An append onto a slice of types that is full: all is copied. -/
namespace Go.Proofs.Ytblfeokjlecgkaa
open Go.RowKit

end Go.Proofs.Ytblfeokjlecgkaa

/- What Put's closures see of their boxes; the rows of a put, as data. -/
namespace Go.Proofs.Ytblfeokjlecgkaa
open Go.RowKit

end Go.Proofs.Ytblfeokjlecgkaa

/- slices.Concat of two. -/
namespace Go.Proofs.Ytblfeokjlecgkaa
open Go.RowKit

end Go.Proofs.Ytblfeokjlecgkaa

/- Right trees by their structure: no places, no program. -/
namespace Go.Proofs.Ytblfeokjlecgkaa

theorem tree_ind {P : List Nd → Prop} (h : ∀ (x : Nd) (tss : List (List Nd)), Trees (manyN x) tss.flatten tss → (∀ ts ∈ tss, P ts) → P (x :: tss.flatten)) : ∀ ts, Fo 1 ts → P ts := by
  have key : ∀ (N : Nat) (ts : List Nd), ts.length ≤ N → Fo 1 ts → P ts := by
    intro N
    induction N with
    | zero =>
      intro ts hl hf
      have := hf.pos
      omega
    | succ N ih =>
      intro ts hl hf
      match ts, hf with
      | [], hf => cases hf
      | x :: ys, hf =>
        obtain ⟨ks, rs, rfl, hks, hrs⟩ := hf.uncons
        have := hrs.of_zero
        subst this
        rw [List.append_nil] at hl ⊢
        have ht := trees_of hks
        rw [← ht.flat]
        refine h x _ (by rw [ht.flat]; exact ht) fun t hm => ih t ?_ (ht.one t hm)
        have hle : t.length ≤ (splitF (manyN x) ks).flatten.length := List.Sublist.length_le (List.sublist_flatten_of_mem hm)
        rw [ht.flat] at hle
        simp at hl
        omega
  exact fun ts hf => key ts.length ts (Nat.le_refl _) hf
end Go.Proofs.Ytblfeokjlecgkaa

/- What a put comes to, as data. -/
namespace Go.Proofs.Ytblfeokjlecgkaa

section
variable {n : Int} {u : List Nd} {utss : List (List Nd)} {f : Nat} {ts out : List Nd} {tss outs : List (List Nd)} {k t m k' t' m' : Bool} {x : Nd} {ks : List Nd}

end
end Go.Proofs.Ytblfeokjlecgkaa

/- Laws of a put, in plain lists. -/
namespace Go.Proofs.Ytblfeokjlecgkaa

section
variable {n : Int} {u : List Nd} {utss : List (List Nd)}

end

end Go.Proofs.Ytblfeokjlecgkaa

/- Two puts, in any order. -/
namespace Go.Proofs.Ytblfeokjlecgkaa

section
variable {n : Int} {u : List Nd} {utss : List (List Nd)}

end

section
variable {n0 n1 : Int} {u0 u1 : List Nd} {ut0 ut1 : List (List Nd)}

end
end Go.Proofs.Ytblfeokjlecgkaa

/- What is ground, in plain lists. -/
namespace Go.Proofs.Ytblfeokjlecgkaa

def grd : Nat → List Nd → List Nd
  | 0, _ => []
  | _ + 1, [] => []
  | f + 1, x :: ks =>
    if x.k = 8 ∨ (x.k = 7 ∧ (lOf (splitF (manyN x) ks)).length = 0) then [⟨4, x.s, 0⟩]
    else (if isRowB x.k = true then ⟨x.k, x.s, ((lOf (splitF (manyN x) ks)).length : Nat)⟩ else x) :: ((lOf (splitF (manyN x) ks)).map (grd f)).flatten

def grdT (ts : List Nd) : List Nd := grd ts.length ts

theorem grd_fuel : ∀ (f g : Nat) (ts : List Nd), ts.length ≤ f → ts.length ≤ g → grd f ts = grd g ts := by
  intro f
  induction f with
  | zero =>
    intro g ts h _
    have : ts = [] := List.eq_nil_of_length_eq_zero (by omega)
    subst this
    cases g <;> rfl
  | succ f ih =>
    intro g ts h hg
    match ts, g, h, hg with
    | [], 0, _, _ => rfl
    | [], g + 1, _, _ => rfl
    | x :: ks, g + 1, h, hg =>
      have e : (lOf (splitF (manyN x) ks)).map (grd f) = (lOf (splitF (manyN x) ks)).map (grd g) := by
        refine List.map_congr_left fun t ht => ih g t ?_ ?_
        · have := splitF_mem _ _ _ (mem_lOf ht)
          simp at h
          omega
        · have := splitF_mem _ _ _ (mem_lOf ht)
          simp at hg
          omega
      simp only [grd, e]

theorem grd_big {f : Nat} {ts : List Nd} (h : ts.length ≤ f) : grd f ts = grdT ts := grd_fuel _ _ _ h (Nat.le_refl _)

theorem grdT_cons (x : Nd) (ks : List Nd) : grdT (x :: ks) = if x.k = 8 ∨ (x.k = 7 ∧ (lOf (splitF (manyN x) ks)).length = 0) then [⟨4, x.s, 0⟩]
    else (if isRowB x.k = true then ⟨x.k, x.s, ((lOf (splitF (manyN x) ks)).length : Nat)⟩ else x) :: ((lOf (splitF (manyN x) ks)).map grdT).flatten := by
  have e : (lOf (splitF (manyN x) ks)).map (grd ks.length) = (lOf (splitF (manyN x) ks)).map grdT :=
    List.map_congr_left fun t ht => grd_big (splitF_mem _ _ _ (mem_lOf ht))
  show grd (ks.length + 1) (x :: ks) = _
  simp only [grd, e]

theorem flat_lOf (l : List (List Nd)) : (lOf l).flatten.length ≤ l.flatten.length := by
  have := congrArg (fun z => (List.flatten z).length) (lOf_tOf l)
  simp only [List.flatten_append, List.length_append] at this
  omega

theorem flat_map_le {p : List Nd → List Nd} : ∀ {l : List (List Nd)}, (∀ t ∈ l, (p t).length ≤ t.length) → (l.map p).flatten.length ≤ l.flatten.length
  | [], _ => by simp
  | t :: l, h => by
    have h1 := h t (by simp)
    have h2 := flat_map_le (p := p) (l := l) fun s hs => h s (List.mem_cons_of_mem _ hs)
    simp only [List.map_cons, List.flatten_cons, List.length_append]
    omega

theorem grd_len : ∀ ts, Fo 1 ts → (grdT ts).length ≤ ts.length :=
  tree_ind fun x tss ht ih => by
    rw [grdT_cons, ← ht.uniq]
    split
    · simp
    · have h1 := flat_map_le (p := grdT) fun t (hm : t ∈ lOf tss) => ih t (mem_lOf hm)
      have h2 := flat_lOf tss
      simp only [List.length_cons]
      omega

theorem lOf_le (l : List (List Nd)) : (lOf l).length ≤ l.length := by
  unfold lOf
  split
  · rw [List.length_take]; omega
  · exact Nat.le_refl _

end Go.Proofs.Ytblfeokjlecgkaa

/- Fresh variables, in plain lists. -/
namespace Go.Proofs.Ytblfeokjlecgkaa

end Go.Proofs.Ytblfeokjlecgkaa

/- term.Fresh, walked. -/
namespace Go.Proofs.Ytblfeokjlecgkaa
open Go.RowKit

theorem flatMap_setK (v : Int) (x : Nd) : ∀ (l : List Nd) (j : Nat), l[j]? = some x → (l.set j ⟨v, x.s, x.n⟩).flatMap encN = (l.flatMap encN).set (j * 3) (.int .i64 v)
  | [], j, h => by simp at h
  | y :: l, 0, h => by
    simp at h
    subst h
    rw [List.set_cons_zero, List.flatMap_cons, List.flatMap_cons]
    rfl
  | y :: l, j + 1, h => by
    rw [List.getElem?_cons_succ] at h
    rw [List.set_cons_succ, List.flatMap_cons, List.flatMap_cons, flatMap_setK v x l j h, List.set_append_right _ _ (by rw [encN_len]; omega), encN_len, show (j + 1) * 3 - 3 = j * 3 by omega]

theorem OwnL.setK {w : World} {base : Nat} {A : Option Addr} {cap : Nat} {l : List Nd} (h : OwnN w base A cap l) {j : Nat} {x : Nd} (hx : l[j]? = some x) (v : Int) :
    ∃ g, A = some ⟨g, 0, none⟩ ∧ base ≤ g ∧ g < w.heap.size ∧ w.cell? ⟨g, j * 3, none⟩ = some (.int .i64 x.k) ∧ w.frozen? ⟨g, j * 3, none⟩ = false ∧
      OwnN (w.setCell ⟨g, j * 3, none⟩ (.int .i64 v)) base A cap (l.set j ⟨v, x.s, x.n⟩) ∧ w.grownBy (w.setCell ⟨g, j * 3, none⟩ (.int .i64 v)) (some g) := by
  obtain ⟨b, o, hA, hb, c0, c1, c2⟩ := (OwnL.tyA h).at_ hx
  have hc := c0
  have h' : w.ownsRow base 48 3 (.slice A l.length cap) l.length (l.flatMap encN) := h
  rcases h'.2 with ⟨hv, hn⟩ | ⟨g, cap', cur, hv, hbg, hg, hnc, hcm, hcs, htake⟩
  · injection hv with hA' hl hc'
    rw [hA'] at hA
    cases hA
  · injection hv with hA' hl hc'
    subst hA'
    injection hA with hA
    injection hA with hA1 hA2 hA3
    subst hA1
    rw [← hA2, Nat.zero_add] at hc
    obtain ⟨h2, h3⟩ := World.ownsRow.stored h' (j * 3) (.int .i64 v)
    refine ⟨g, rfl, hbg, hb, hc, World.ownsRow.frozenAt h' _, ?_, h3⟩
    show (w.setCell ⟨g, j * 3, none⟩ (.int .i64 v)).ownsRow base 48 3 (.slice (some ⟨g, 0, none⟩) (l.set j ⟨v, x.s, x.n⟩).length cap) (l.set j ⟨v, x.s, x.n⟩).length ((l.set j ⟨v, x.s, x.n⟩).flatMap encN)
    rw [List.length_set, flatMap_setK v x l j hx]
    exact h2

end Go.Proofs.Ytblfeokjlecgkaa

/- Types and their trees: there and back. -/
namespace Go.Proofs.Ytblfeokjlecgkaa

theorem flF_zip : ∀ {rs : List (List Nd)}, (∀ t ∈ rs, flT (headNd t).s (utT t) = t.map Nd.bare) → flF ((labsT rs).zip (rs.map utT)) = rs.flatten.map Nd.bare
  | [], _ => by simp [labsT, flF_nil]
  | t :: rs, h => by
    rw [labsT_cons, List.map_cons, List.zip_cons_cons, flF_cons, flF_zip fun t' ht => h t' (List.mem_cons_of_mem _ ht), h t (by simp), List.flatten_cons, List.map_append]

theorem gd_fl {ts : List Nd} (h : GdT ts) : flT (headNd ts).s (utT ts) = ts.map Nd.bare := by
  induction h with
  | mk x tss ok k9 tr ch row els tl ih =>
    rw [utT_cons tr, flT_mk]
    obtain ⟨t1, t2, t3⟩ := tailN_tlU tl
    have hx : (headNd (x :: tss.flatten)).s = x.s := rfl
    rw [hx, List.map_cons]
    rcases node_kinds ok k9 tr with ⟨h5, hn, a, b, rfl⟩ | ⟨hr, hn, hl, hu⟩ | ⟨h5, hr, rfl, h0, h8, hn0, hnn⟩
    · have hr : isRowB x.k = false := by rw [h5]; rfl
      obtain ⟨e, eb⟩ := els hr
      rw [if_neg (by rw [hr]; simp), lOf_eq e, if_neg (by omega)]
      rw [lOf_eq e] at ih
      have ea := ih a (by simp)
      have eb' := ih b (by simp)
      rw [eb (headNd a).s (by simp [labsT])] at ea
      rw [eb (headNd b).s (by simp [labsT])] at eb'
      have hl : labsU x.k [a, b] = [lA, lB] := by unfold labsU; rw [if_pos h5]
      rw [hl]
      simp only [List.map_cons, List.map_nil, List.zip_cons_cons, List.zip_nil_right, flE_cons, flE_nil, ea, eb', List.append_nil, List.flatten_cons, List.flatten_nil, List.map_append]
      congr 1
      unfold Nd.bare
      rw [if_neg (by omega)]
      rw [← hn]
    · rw [if_pos hr]
      have h67 : x.k = 6 ∨ x.k = 7 := by simpa [isRowB] using hr
      have hlu : labsU x.k (lOf tss) = labsT (lOf tss) := by unfold labsU; rw [if_neg (by omega)]
      have hfl : ((labsT (lOf tss)).zip ((lOf tss).map utT)).length = (lOf tss).length := by rw [List.length_zip, labsT_length, List.length_map, Nat.min_self]
      rw [hlu, hfl, t2, lt_len, flF_zip ih, t1]
      have e : tss.flatten = (lOf tss).flatten ++ (tOf tss).flatten := by rw [← List.flatten_append, lOf_tOf]
      have e2 : (tOf tss).flatten.map Nd.bare = (tOf tss).flatten := by
        rcases tOf_one tss with e | ⟨t, e⟩
        · rw [e]; rfl
        · obtain ⟨n, _, ht⟩ := tl t (by rw [e]; simp)
          rw [e, ht]; rfl
      rw [e, List.map_append, e2]
      congr 1
      unfold Nd.bare
      rw [if_neg (by omega), ← hn]
    · rw [if_neg (by rw [hr]; simp)]
      have e3 : (labsU x.k (lOf [])).zip ((lOf []).map utT) = [] := by simp [lOf, tailB]
      rw [e3, flE_nil]
      simp only [List.flatten_nil, List.map_nil]
      congr 1
      unfold Nd.bare
      obtain ⟨k, s, n⟩ := x
      simp only at *
      by_cases h8' : k = 8
      · rw [if_pos h8', if_neg (by omega)]
      · rw [if_neg h8']
        split
        · rfl
        · next h => rw [hn0 h8' h]
end Go.Proofs.Ytblfeokjlecgkaa

/- Trees, laid out, are types; what numbers they have. -/
namespace Go.Proofs.Ytblfeokjlecgkaa

theorem lt_app {L : List (List Nd)} {tl : Option Int} (h : ∀ t ∈ L, (headNd t).k ≠ 9) : lOf (L ++ (tailN tl).map fun x => [x]) = L ∧ tOf (L ++ (tailN tl).map fun x => [x]) = (tailN tl).map fun x => [x] := by
  cases tl with
  | none =>
    have e : tailB L = false := by
      unfold tailB
      cases e : L.getLast? with
      | none => rfl
      | some t => simpa using h t (List.mem_of_getLast? e)
    simp [tailN, lOf, tOf, e]
  | some p =>
    have e : tailB (L ++ [[⟨9, ByteArray.empty, p⟩]]) = true := by simp [tailB, headNd]
    simp [tailN, lOf, tOf, e]

theorem zip_eta (fs : Fl) : (labsF fs).zip (fs.map (·.2)) = fs := by
  induction fs with
  | nil => rfl
  | cons p fs ih => simp only [labsF, List.map_cons, List.zip_cons_cons] at ih ⊢; rw [ih]

theorem flT_head {t : Ut} (s : Lb) : (headNd (flT s t)).s = s ∧ (headNd (flT s t)).k = t.k := by
  obtain ⟨k, n, fs, tl⟩ := t
  rw [flT_mk]
  split <;> exact ⟨rfl, rfl⟩

theorem wf_fl : ∀ t, wfT t → ∀ s, GdT (flT s t) ∧ utT (flT s t) = t := by
  refine Ut.ind fun k n fs tl ih h s => ?_
  rw [wfT_mk] at h
  obtain ⟨h, hc⟩ := h
  have ih' : ∀ p ∈ fs, ∀ s, GdT (flT s p.2) ∧ utT (flT s p.2) = p.2 := fun p hp s => ih p hp (hc p hp) s
  obtain ⟨k0, k8, s5, sE⟩ := h.sh
  rw [flT_mk]
  cases hr : isRowB k with
  | true =>
    have h67 : k = 6 ∨ k = 7 := by simpa [isRowB] using hr
    have h9 : ∀ t ∈ fs.map (fun p => flT p.1 p.2), (headNd t).k ≠ 9 := fun t ht => by
      obtain ⟨p, hp, rfl⟩ := List.mem_map.1 ht
      have := (flT_head (t := p.2) p.1).2
      rw [this]
      exact (hc p hp).k9
    obtain ⟨e1, e2⟩ := lt_app (tl := tl) h9
    have efl : flF fs ++ tailN tl = (fs.map (fun p => flT p.1 p.2) ++ (tailN tl).map fun x => [x]).flatten := by
      rw [List.flatten_append, flF_flat]
      congr 1
      cases tl <;> rfl
    rw [if_pos rfl, efl]
    have hm : manyN ⟨k, s, ((fs.length + (tailN tl).length : Nat) : Int)⟩ = fs.length + (tailN tl).length := by
      unfold manyN many
      rw [if_neg (by show k ≠ 5; omega), if_pos hr]
      exact Int.toNat_natCast _
    have tr : Trees (manyN ⟨k, s, ((fs.length + (tailN tl).length : Nat) : Int)⟩) (fs.map (fun p => flT p.1 p.2) ++ (tailN tl).map fun x => [x]).flatten (fs.map (fun p => flT p.1 p.2) ++ (tailN tl).map fun x => [x]) := by
      refine ⟨by rw [hm]; simp, rfl, fun ts hts => ?_⟩
      rcases List.mem_append.1 hts with hts | hts
      · obtain ⟨p, hp, rfl⟩ := List.mem_map.1 hts
        exact (ih' p hp p.1).1.fo
      · obtain ⟨x, hx, rfl⟩ := List.mem_map.1 hts
        cases tl with
        | none => cases hx
        | some q =>
          simp only [tailN, List.mem_singleton] at hx
          subst hx
          rfl
    have el : labsT (fs.map fun p => flT p.1 p.2) = labsF fs := by
      unfold labsT labsF
      rw [List.map_map]
      exact List.map_congr_left fun p _ => (flT_head p.1).1
    constructor
    · refine .mk _ _ ?_ (by show k ≠ 9; omega) tr (fun ts hts => ?_) (fun _ => ?_) (fun e => by rw [hr] at e; cases e) (fun ts hts => ?_)
      · have := h.len hr
        have := h.un
        show okNode k _ = true
        unfold okNode
        rw [if_neg (by omega)]
        split
        · simp; omega
        · rw [if_pos (by omega)]; simp; omega
      · rw [e1] at hts
        obtain ⟨p, hp, rfl⟩ := List.mem_map.1 hts
        exact (ih' p hp p.1).1
      · rw [e1, el]
        exact ⟨List.pairwise_map.2 (h.row hr).1, (h.row hr).2⟩
      · rw [e2] at hts
        cases tl with
        | none => cases hts
        | some q =>
          simp only [tailN, List.map_cons, List.map_nil, List.mem_singleton] at hts
          exact ⟨q, h.tn q rfl, hts⟩
    · rw [utT_cons tr, e1]
      have hlu : labsU k (fs.map fun p => flT p.1 p.2) = labsF fs := by unfold labsU; rw [if_neg (by omega), el]
      have hn := h.n0 (by omega)
      have hmm : (fs.map fun p => flT p.1 p.2).map utT = fs.map (·.2) := by
        rw [List.map_map]
        exact List.map_congr_left fun p hp => (ih' p hp p.1).2
      have ht : tlU (fs.map (fun p => flT p.1 p.2) ++ (tailN tl).map fun x => [x]) = tl := by
        unfold tlU
        rw [e2]
        cases tl <;> rfl
      rw [hmm, ht]
      show Ut.mk k (if k = 8 then _ else 0) ((labsU k _).zip _) tl = _
      rw [hlu, zip_eta, if_neg (by omega), hn]
  | false =>
    rw [if_neg (by simp)]
    by_cases h5 : k = 5
    · obtain ⟨⟨a, b, rfl⟩, rfl⟩ := s5 h5
      have hn := h.n0 (by omega)
      subst hn h5
      obtain ⟨a1, a2⟩ := ih' (lA, a) (by simp) ByteArray.empty
      obtain ⟨b1, b2⟩ := ih' (lB, b) (by simp) ByteArray.empty
      have efl : flE [(lA, a), (lB, b)] = [flT ByteArray.empty a, flT ByteArray.empty b].flatten := by
        rw [flE_cons, flE_cons, flE_nil]; rfl
      have tr : Trees (manyN ⟨5, s, 0⟩) [flT ByteArray.empty a, flT ByteArray.empty b].flatten [flT ByteArray.empty a, flT ByteArray.empty b] := by
        refine ⟨rfl, rfl, fun ts hts => ?_⟩
        simp only [List.mem_cons, List.not_mem_nil, or_false] at hts
        rcases hts with rfl | rfl
        · exact a1.fo
        · exact b1.fo
      have e1 := lt_app (L := [flT ByteArray.empty a, flT ByteArray.empty b]) (tl := none) fun t ht => by
        have := fun (u : Ut) (hu : wfT u) => hu.k9
        simp only [List.mem_cons, List.not_mem_nil, or_false] at ht
        rcases ht with rfl | rfl
        · rw [(flT_head _).2]; exact this _ (hc (lA, a) (by simp))
        · rw [(flT_head _).2]; exact this _ (hc (lB, b) (by simp))
      simp only [tailN, List.map_nil, List.append_nil] at e1
      rw [efl]
      constructor
      · refine .mk _ _ (by rfl) (by show (5 : Int) ≠ 9; decide) tr (fun ts hts => ?_) (fun e => by cases e) (fun _ => ⟨e1.2, fun l hl => ?_⟩) (fun ts hts => by rw [e1.2] at hts; cases hts)
        · rw [e1.1] at hts
          simp only [List.mem_cons, List.not_mem_nil, or_false] at hts
          rcases hts with rfl | rfl
          · exact a1
          · exact b1
        · simp only [labsT, List.map_cons, List.map_nil, List.mem_cons, List.not_mem_nil, or_false] at hl
          rcases hl with rfl | rfl <;> exact (flT_head _).1
      · rw [utT_cons tr, e1.1]
        have ht : tlU [flT ByteArray.empty a, flT ByteArray.empty b] = none := by unfold tlU; rw [e1.2]; rfl
        rw [ht]
        simp only [List.map_cons, List.map_nil, a2, b2]
        rfl
    · obtain ⟨rfl, rfl⟩ := sE h5 hr
      rw [flE_nil]
      have tr : Trees (manyN ⟨k, s, n⟩) ([] : List (List Nd)).flatten [] := by
        refine ⟨?_, rfl, fun ts hts => by cases hts⟩
        unfold manyN many
        rw [if_neg h5, hr]
        rfl
      have h67 : k ≠ 6 ∧ k ≠ 7 := by simpa [isRowB] using hr
      constructor
      · refine (show GdT (⟨k, s, n⟩ :: ([] : List (List Nd)).flatten) from .mk _ _ ?_ (by show k ≠ 9; omega) tr (fun ts hts => by simp [lOf, tailB] at hts) (fun e => by rw [show isRowB (Nd.mk k s n).k = isRowB k from rfl, hr] at e; cases e) (fun _ => ⟨rfl, fun l hl => by simp [labsT] at hl⟩) (fun ts hts => by simp [tOf, tailB] at hts))
        show okNode k n = true
        unfold okNode
        split
        · have := h.n0; have := h.n8; simp; omega
        · rw [if_neg h67.1, if_neg h67.2]; have := h.n0; simp; omega
      · rw [show [(⟨k, s, n⟩ : Nd)] = ⟨k, s, n⟩ :: ([] : List (List Nd)).flatten from rfl, utT_cons tr]
        have e3 : (labsU k (lOf [])).zip ((lOf []).map utT) = [] := by simp [lOf, tailB]
        show Ut.mk k (if k = 8 then n else 0) ((labsU k (lOf [])).zip ((lOf []).map utT)) none = _
        rw [e3]
        split
        · rfl
        · next e => rw [h.n0 e]

end Go.Proofs.Ytblfeokjlecgkaa

/- Plain types that agree, told by lists. -/
namespace Go.Proofs.Ytblfeokjlecgkaa

def kidsL : List Nd → List (List Nd)
  | [] => []
  | x :: ks => splitF (manyN x) ks
def agG : Nat → List Nd → List Nd → Bool
  | 0, _, _ => false
  | f + 1, a, b => if (headNd a).k = 0 ∨ (headNd b).k = 0 then true else if (headNd a).k ≠ (headNd b).k then false else
      decide (labsT (kidsL a) = labsT (kidsL b)) && ((kidsL a).zip (kidsL b)).all fun p => agG f p.1 p.2

theorem kidsL_cons {x : Nd} {tss : List (List Nd)} (tr : Trees (manyN x) tss.flatten tss) : kidsL (x :: tss.flatten) = tss := tr.uniq.symm

theorem sorted_labs : ∀ {a b : List Lb}, (a.Pairwise fun x y => ltB x y = true) → (b.Pairwise fun x y => ltB x y = true) → (∀ l, l ∈ a ↔ l ∈ b) → a = b
  | [], [], _, _, _ => rfl
  | [], y :: b, _, _, h => absurd ((h y).2 (by simp)) (by simp)
  | x :: a, [], _, _, h => absurd ((h x).1 (by simp)) (by simp)
  | x :: a, y :: b, ha, hb, h => by
    rw [List.pairwise_cons] at ha hb
    have e : x = y := by
      rcases List.mem_cons.1 ((h x).1 (by simp)) with e | e
      · exact e
      · rcases List.mem_cons.1 ((h y).2 (by simp)) with e' | e'
        · exact e'.symm
        · have h1 := hb.1 x e
          have h2 := ha.1 y e'
          rw [ltB_asym h1] at h2
          cases h2
    subst e
    have hx : ∀ {c : List Lb}, (∀ l ∈ c, ltB x l = true) → x ∉ c := fun hc hm => by
      have := hc x hm
      rw [ltB_irrefl] at this
      cases this
    rw [sorted_labs ha.2 hb.2 fun l => ?_]
    have := h l
    simp only [List.mem_cons] at this
    constructor
    · intro hl
      rcases this.1 (.inr hl) with e | e
      · rw [e] at hl; exact absurd hl (hx ha.1)
      · exact e
    · intro hl
      rcases this.2 (.inr hl) with e | e
      · rw [e] at hl; exact absurd hl (hx hb.1)
      · exact e

theorem agG_co : ∀ (f : Nat) (a b : List Nd), GdT a → GdT b → noTl 0 (utT a) → noTl 0 (utT b) → a.length ≤ f → (agG f a b = true ↔ Co (utT a) (utT b)) := by
  intro f
  induction f with
  | zero =>
    intro a b ga _ _ _ hl
    exact absurd (List.eq_nil_of_length_eq_zero (Nat.le_zero.1 hl)) ga.ne
  | succ f ih =>
    intro a b ga gb na nb hl
    have wa := gd_wf ga
    have wb := gd_wf gb
    cases ga with
    | mk x tss ok k9 tr ch row els tl =>
    cases gb with
    | mk y uss ok' k9' tr' ch' row' els' tl' =>
    have ea := utT_cons tr
    have eb := utT_cons tr'
    have hx : headNd (x :: tss.flatten) = x := rfl
    have hy : headNd (y :: uss.flatten) = y := rfl
    have x8 := noTl_k8 na wa
    have y8 := noTl_k8 nb wb
    rw [ea] at x8 na
    rw [eb] at y8 nb
    rw [noTl_mk] at na nb
    have x8 : x.k ≠ 8 := x8
    have y8 : y.k ≠ 8 := y8
    have hto : ∀ {l : List (List Nd)}, tlU l = none → tOf l = [] := fun {l} h => by
      unfold tlU at h
      rcases tOf_one l with e | ⟨t, e⟩
      · exact e
      · rw [e] at h; simp at h
    have e1 := lOf_eq (hto na.2.1)
    have e2 := lOf_eq (hto nb.2.1)
    have t1 := na.2.1
    have t2 := nb.2.1
    rw [ea, eb, e1, e2, t1, t2, if_neg x8, if_neg y8]
    unfold agG
    rw [hx, hy, kidsL_cons tr, kidsL_cons tr']
    by_cases h0 : x.k = 0 ∨ y.k = 0
    · rw [if_pos h0]
      refine ⟨fun _ => ?_, fun _ => rfl⟩
      rcases h0 with h | h
      · rw [h]; exact .dl _ _ _ _
      · rw [h]; exact .dr _ _ _ _
    · rw [if_neg h0]
      by_cases hk : x.k = y.k
      · rw [if_neg (by simpa using hk)]
        have hk0 : x.k ≠ 0 := fun e => h0 (.inl e)
        have zl : (labsU x.k tss).length = (tss.map utT).length := by
          rcases node_kinds ok k9 tr with ⟨h5, _, a, b, rfl⟩ | ⟨hr, _⟩ | ⟨h5, _, rfl, _⟩
          · unfold labsU; rw [if_pos h5]; rfl
          · unfold labsU; rw [if_neg (by intro e; rw [e] at hr; cases hr), labsT_length, List.length_map]
          · unfold labsU; rw [if_neg h5]; rfl
        have zm : (labsU y.k uss).length = (uss.map utT).length := by
          rcases node_kinds ok' k9' tr' with ⟨h5, _, a, b, rfl⟩ | ⟨hr, _⟩ | ⟨h5, _, rfl, _⟩
          · unfold labsU; rw [if_pos h5]; rfl
          · unfold labsU; rw [if_neg (by intro e; rw [e] at hr; cases hr), labsT_length, List.length_map]
          · unfold labsU; rw [if_neg h5]; rfl
        have hn : (labsU x.k tss).Nodup := by
          rw [utT_cons tr, wfT_mk] at wa
          have := wa.1.nd
          rw [e1, labsF_zip zl] at this
          exact this
        have hIH : labsU x.k tss = labsU y.k uss → ((∀ p ∈ (tss.map utT).zip (uss.map utT), Co p.1 p.2) ↔ ((tss.zip uss).all fun p => agG f p.1 p.2) = true) := fun _ => by
          rw [List.all_eq_true, List.zip_map]
          have key : ∀ p ∈ tss.zip uss, agG f p.1 p.2 = true ↔ Co (utT p.1) (utT p.2) := fun p hp => by
            have hpa := (List.of_mem_zip hp).1
            have hpb := (List.of_mem_zip hp).2
            refine ih p.1 p.2 (ch _ (by rw [e1]; exact hpa)) (ch' _ (by rw [e2]; exact hpb)) ?_ ?_ ?_
            · obtain ⟨i, hi⟩ := List.getElem?_of_mem hpa
              have hlt := (List.getElem?_eq_some_iff.1 hi).1
              have h1 := List.getElem?_eq_getElem (l := labsU x.k tss) (i := i) (by rw [zl, List.length_map]; exact hlt)
              exact na.2.2 (_, utT p.1) (by rw [e1]; exact List.mem_of_getElem? (i := i) (by rw [List.getElem?_zip_eq_some]; exact ⟨h1, by rw [List.getElem?_map, hi]; rfl⟩))
            · obtain ⟨i, hi⟩ := List.getElem?_of_mem hpb
              have hlt := (List.getElem?_eq_some_iff.1 hi).1
              have h1 := List.getElem?_eq_getElem (l := labsU y.k uss) (i := i) (by rw [zm, List.length_map]; exact hlt)
              exact nb.2.2 (_, utT p.2) (by rw [e2]; exact List.mem_of_getElem? (i := i) (by rw [List.getElem?_zip_eq_some]; exact ⟨h1, by rw [List.getElem?_map, hi]; rfl⟩))
            · have h1 := splitF_mem (manyN x) tss.flatten p.1 (tr.uniq ▸ hpa)
              simp only [List.length_cons] at hl
              omega
          constructor
          · intro h p hp
            exact (key p hp).2 (h _ (List.mem_map.2 ⟨p, hp, rfl⟩))
          · intro h q hq
            obtain ⟨p, hp, rfl⟩ := List.mem_map.1 hq
            exact (key p hp).1 (h p hp)
        have hlen : Co (.mk x.k 0 ((labsU x.k tss).zip (tss.map utT)) none) (.mk y.k 0 ((labsU y.k uss).zip (uss.map utT)) none) → labsU x.k tss = labsU y.k uss ∧ labsT tss = labsT uss := fun hc => by
          rw [← hk, co_row hk0] at hc
          rw [← hk]
          have hmem : ∀ l, l ∈ labsU x.k tss ↔ l ∈ labsU x.k uss := fun l => by
            have h := coL_some (hc.2 l)
            have h1 := labsF_zip zl
            have h2 := labsF_zip (hk ▸ zm)
            constructor
            · intro hm
              by_cases hm2 : l ∈ labsU x.k uss
              · exact hm2
              · rw [getF_none.2 (show l ∉ labsF ((labsU x.k uss).zip (uss.map utT)) by rw [h2]; exact hm2)] at h
                rw [Option.isSome_none, Option.isSome_eq_false_iff, Option.isNone_iff_eq_none, getF_none, h1] at h
                exact absurd hm h
            · intro hm
              by_cases hm2 : l ∈ labsU x.k tss
              · exact hm2
              · rw [getF_none.2 (show l ∉ labsF ((labsU x.k tss).zip (tss.map utT)) by rw [h1]; exact hm2)] at h
                have h := h.symm
                rw [Option.isSome_none, Option.isSome_eq_false_iff, Option.isNone_iff_eq_none, getF_none] at h
                exact absurd (by rw [h2]; exact hm) h
          rcases node_kinds ok k9 tr with ⟨h5, _, a, b, rfl⟩ | ⟨hr, _⟩ | ⟨h5, hr, rfl, _⟩
          · refine ⟨by unfold labsU; rw [if_pos h5, if_pos h5], ?_⟩
            rcases node_kinds ok' k9' tr' with ⟨_, _, a', b', rfl⟩ | ⟨hr, _⟩ | ⟨h5', _⟩
            · have r1 := (els (by rw [h5]; rfl)).2
              have r2 := (els' (by rw [← hk, h5]; rfl)).2
              simp only [labsT, List.map_cons, List.map_nil, List.mem_cons, List.not_mem_nil, or_false] at r1 r2 ⊢
              rw [r1 _ (.inl rfl), r1 _ (.inr rfl), r2 _ (.inl rfl), r2 _ (.inr rfl)]
            · rw [← hk, h5] at hr; cases hr
            · exact absurd (hk ▸ h5) h5'
          · have h5 : x.k ≠ 5 := fun e => by rw [e] at hr; cases hr
            have u1 : labsU x.k tss = labsT tss := by unfold labsU; rw [if_neg h5]
            have u2 : labsU x.k uss = labsT uss := by unfold labsU; rw [if_neg h5]
            rw [u1, u2] at hmem ⊢
            have p1 := (row hr).1
            have p2 := (row' (hk ▸ hr)).1
            rw [e1] at p1
            rw [e2] at p2
            have := sorted_labs p1 p2 hmem
            exact ⟨this, this⟩
          · rcases node_kinds ok' k9' tr' with ⟨h5', _⟩ | ⟨hr', _⟩ | ⟨_, _, rfl, _⟩
            · exact absurd (hk.trans h5') h5
            · rw [← hk, hr] at hr'; cases hr'
            · exact ⟨rfl, rfl⟩
        rw [Bool.and_eq_true, decide_eq_true_eq]
        constructor
        · rintro ⟨h1, h2⟩
          have hu : labsU x.k tss = labsU y.k uss := by
            rw [← hk]; unfold labsU; rw [h1]
          rw [← hk] at hu ⊢
          rw [← hu]
          exact (co_zip zl (by rw [hu, hk]; exact zm) hn hk0 none).2 ((hIH (by rw [hu, hk])).2 h2)
        · intro hc
          obtain ⟨hu, h1⟩ := hlen hc
          refine ⟨h1, (hIH hu).1 ?_⟩
          rw [← hk] at hc hu
          rw [← hu] at hc
          exact (co_zip zl (by rw [hu, hk]; exact zm) hn hk0 none).1 hc
      · rw [if_pos hk]
        refine ⟨fun h => (by cases h), fun h => ?_⟩
        rcases co_kinds h with e | e | e
        · exact absurd (.inl e) h0
        · exact absurd (.inr e) h0
        · exact absurd e hk
end Go.Proofs.Ytblfeokjlecgkaa

/- Plain types told; fresh variables. -/
namespace Go.Proofs.Ytblfeokjlecgkaa

theorem wf_ri : ∀ t, wfT t → riT t := by
  refine Ut.ind fun k n fs tl ih h => ?_
  rw [wfT_mk] at h
  rw [riT_mk]
  exact ⟨wf_rise h.1, fun p hp => ih p hp (h.2 p hp)⟩

end Go.Proofs.Ytblfeokjlecgkaa

/- Open rows that were made to agree with one Var: what is known of it. -/
namespace Go.Proofs.Ytblfeokjlecgkaa

theorem fl_static : ∀ t, stT t → ∀ s, ∀ x ∈ flT s t, x.k ≠ 0 := by
  refine Ut.ind fun k n fs tl ih h s => ?_
  rw [stT_mk] at h
  have hF : ∀ x ∈ flF fs, x.k ≠ 0 := by
    rw [flF_flat]
    intro x hx
    obtain ⟨l, hl, hx⟩ := List.mem_flatten.1 hx
    obtain ⟨p, hp, rfl⟩ := List.mem_map.1 hl
    exact ih p hp (h.2 p hp) p.1 x hx
  have hE : ∀ gs : Fl, (∀ p ∈ gs, p ∈ fs) → ∀ x ∈ flE gs, x.k ≠ 0 := by
    intro gs
    induction gs with
    | nil => intro _ x hx; rw [flE_nil] at hx; cases hx
    | cons p gs ihg =>
      intro hg x hx
      rw [flE_cons] at hx
      rcases List.mem_append.1 hx with hx | hx
      · exact ih p (hg p (by simp)) (h.2 p (hg p (by simp))) _ x hx
      · exact ihg (fun q hq => hg q (by simp [hq])) x hx
  rw [flT_mk]
  split
  · intro x hx
    rcases List.mem_cons.1 hx with rfl | hx
    · exact h.1
    · rcases List.mem_append.1 hx with hx | hx
      · exact hF x hx
      · cases tl with
        | none => cases hx
        | some p => simp only [tailN, List.mem_singleton] at hx; rw [hx]; show (9 : Int) ≠ 0; decide
  · intro x hx
    rcases List.mem_cons.1 hx with rfl | hx
    · exact h.1
    · exact hE fs (fun _ h => h) x hx

end Go.Proofs.Ytblfeokjlecgkaa

/- Types put for variables, as rows of nodes. -/
namespace Go.Proofs.Ytblfeokjlecgkaa

theorem gd_k9 {ts : List Nd} (h : GdT ts) : (headNd ts).k ≠ 9 := by
  cases h with
  | mk x tss ok k9 tr ch row els tl => exact k9

end Go.Proofs.Ytblfeokjlecgkaa

/- Open rows have few labels: those that were told of open rows; what is known, laid out, may be told again. -/
namespace Go.Proofs.Ytblfeokjlecgkaa
open Classical

noncomputable def inLo (Lo : List Lb) (p : Lb × Ut) : Bool := decide (p.1 ∈ Lo)
noncomputable def cutT (Lo : List Lb) : Ut → Ut
  | .mk k n fs tl => .mk k n (if tl.isSome then (fs.attach.map fun p => (p.1.1, cutT Lo p.1.2)).filter (inLo Lo) else fs.attach.map fun p => (p.1.1, cutT Lo p.1.2)) tl
termination_by t => SizeOf.sizeOf t
decreasing_by all_goals exact Ut.size_mem p.2
theorem attach_map (f : Ut → Ut) (fs : Fl) : (fs.attach.map fun p => (p.1.1, f p.1.2)) = mapF f fs := by
  unfold mapF
  exact List.attach_map_val (l := fs) (f := fun p : Lb × Ut => (p.1, f p.2))
theorem cutT_mk (Lo : List Lb) (k n : Int) (fs : Fl) (tl : Option Int) : cutT Lo (.mk k n fs tl) = .mk k n (if tl.isSome then (mapF (cutT Lo) fs).filter (inLo Lo) else mapF (cutT Lo) fs) tl := by
  rw [cutT, attach_map]

theorem cutT_st (Lo : List Lb) : ∀ t, stT t ∧ riT t → stT (cutT Lo t) ∧ riT (cutT Lo t) := by
  refine Ut.ind fun k n fs tl ih h => ?_
  rw [stT_mk, riT_mk] at h
  obtain ⟨⟨h0, hc⟩, hr, hrc⟩ := h
  have hm : ∀ p ∈ mapF (cutT Lo) fs, stT p.2 ∧ riT p.2 := fun p hp => by
    obtain ⟨q, hq, rfl⟩ := List.mem_map.1 hp
    exact ih q hq ⟨hc q hq, hrc q hq⟩
  have hr2 : Rise (mapF (cutT Lo) fs) := by
    unfold Rise mapF at *
    rw [List.pairwise_map]
    exact hr
  rw [cutT_mk, stT_mk, riT_mk]
  split
  · exact ⟨⟨h0, fun p hp => (hm p (List.mem_filter.1 hp).1).1⟩, hr2.filter _, fun p hp => (hm p (List.mem_filter.1 hp).1).2⟩
  · exact ⟨⟨h0, fun p hp => (hm p hp).1⟩, hr2, fun p hp => (hm p hp).2⟩

theorem getF_filter (Lo : List Lb) (l : Lb) : ∀ fs : Fl, getF l (fs.filter (inLo Lo)) = if l ∈ Lo then getF l fs else none
  | [] => by simp [getF]
  | p :: fs => by
    have ih := getF_filter Lo l fs
    by_cases hp : inLo Lo p = true
    · rw [List.filter_cons_of_pos hp]
      unfold getF
      rw [ih]
      by_cases e : p.1 = l
      · have : l ∈ Lo := by rw [← e]; exact of_decide_eq_true hp
        rw [if_pos e, if_pos e, if_pos this]
      · rw [if_neg e, if_neg e]
    · rw [List.filter_cons_of_neg hp, ih]
      by_cases e : p.1 = l
      · have : l ∉ Lo := by rw [← e]; intro h; exact hp (decide_eq_true h)
        rw [if_neg this, if_neg this]
      · conv => rhs; rw [getF, if_neg e]

theorem cutT_co (Lo : List Lb) {a b : Ut} (h : Co a b) : Co (cutT Lo a) (cutT Lo b) := by
  induction h with
  | dl n fs tl b => rw [cutT_mk]; exact .dl _ _ _ _
  | dr n fs tl a => rw [cutT_mk]; exact .dr _ _ _ _
  | nd k n fs gs tl hl hc ih =>
    rw [cutT_mk, cutT_mk]
    have e1 : ∀ l, getF l (if tl.isSome then (mapF (cutT Lo) fs).filter (inLo Lo) else mapF (cutT Lo) fs) = if tl.isSome = true ∧ l ∉ Lo then none else (getF l fs).map (cutT Lo) := fun l => by
      by_cases ht : tl.isSome = true
      · rw [if_pos ht, getF_filter, getF_mapF]
        by_cases hlo : l ∈ Lo
        · rw [if_pos hlo, if_neg (fun h => h.2 hlo)]
        · rw [if_neg hlo, if_pos ⟨ht, hlo⟩]
      · rw [if_neg ht, getF_mapF, if_neg (fun h => ht h.1)]
    have e2 : ∀ l, getF l (if tl.isSome then (mapF (cutT Lo) gs).filter (inLo Lo) else mapF (cutT Lo) gs) = if tl.isSome = true ∧ l ∉ Lo then none else (getF l gs).map (cutT Lo) := fun l => by
      by_cases ht : tl.isSome = true
      · rw [if_pos ht, getF_filter, getF_mapF]
        by_cases hlo : l ∈ Lo
        · rw [if_pos hlo, if_neg (fun h => h.2 hlo)]
        · rw [if_neg hlo, if_pos ⟨ht, hlo⟩]
      · rw [if_neg ht, getF_mapF, if_neg (fun h => ht h.1)]
    refine .nd k n _ _ tl (fun l => ?_) fun l x y hx hy => ?_
    · rw [e1, e2]
      split
      · rfl
      · rw [Option.isSome_map, Option.isSome_map]; exact hl l
    · rw [e1] at hx
      rw [e2] at hy
      split at hx
      · cases hx
      · next hn =>
        rw [if_neg hn] at hy
        obtain ⟨x', hx', rfl⟩ := Option.map_eq_some_iff.1 hx
        obtain ⟨y', hy', rfl⟩ := Option.map_eq_some_iff.1 hy
        exact ih l x' y' hx' hy'

noncomputable def cutVa (Lo : List Lb) (τ : Va) : Va := ⟨fun n => cutT Lo (τ.v n), τ.t⟩
theorem cutT_inst (Lo : List Lb) (τ : Va) {m0 : Int} : ∀ t, noTl m0 t → riT t → inst (cutVa Lo τ) t = cutT Lo (inst τ t) := by
  refine Ut.ind fun k n fs tl ih no ri => ?_
  rw [noTl_mk] at no
  rw [riT_mk] at ri
  obtain ⟨_, rfl, nc⟩ := no
  rw [inst_eq, inst_eq]
  by_cases h8 : k = 8
  · rw [if_pos h8, if_pos h8]; rfl
  · rw [if_neg h8, if_neg h8, cutT_mk]
    show Ut.mk k n (srtF (mapF (inst (cutVa Lo τ)) fs ++ [])) none = .mk k n (mapF (cutT Lo) (srtF (mapF (inst τ) fs ++ []))) none
    rw [List.append_nil, List.append_nil, mapF_srt, mapF_comp]
    congr 2
    exact mapF_congr fun p hp => ih p hp (nc p hp) (ri.2 p hp)

def opnL (l : List Stp) : List Lb := (l.filter fun x => !(x.l.size == 0)).map Stp.l

theorem cutVa_holds {U : List Lb} {m0 : Int} {l : List Stp} (hg : ∀ x ∈ l, GoodS U m0 x) {τ : Va} (h : allC l τ) : allC l (cutVa (opnL l) τ) := by
  intro x hx
  have hh := h x hx
  have hc := (hg x hx).c
  unfold Stp.cst at hh hc ⊢
  by_cases hz : x.l.size = 0
  · rw [if_pos hz] at hh hc ⊢
    show Co (inst _ _) (inst _ _)
    rw [cutT_inst _ _ _ hc.1.no (wf_ri _ hc.1.wf), cutT_inst _ _ _ hc.2.no (wf_ri _ hc.2.wf)]
    exact cutT_co _ hh
  · rw [if_neg hz] at hh ⊢
    obtain ⟨R, tl, e1, e2⟩ := hh
    have hl : x.l ∈ opnL l := List.mem_map.2 ⟨x, List.mem_filter.2 ⟨hx, by simp [hz]⟩, rfl⟩
    refine ⟨if tl.isSome then (mapF (cutT (opnL l)) R).filter (inLo (opnL l)) else mapF (cutT (opnL l)) R, tl, ?_, ?_⟩
    · show cutT _ (τ.v x.n) = _
      rw [e1, cutT_mk]
    · show _ = some (cutT _ (τ.v x.m))
      split
      · rw [getF_filter, if_pos hl, getF_mapF, e2]; rfl
      · rw [getF_mapF, e2]; rfl

def fewLo (Lo : List Lb) : Ut → Prop
  | .mk _ _ fs tl => (tl.isSome = true → ∀ l ∈ labsF fs, l ∈ Lo) ∧ ∀ p ∈ fs, fewLo Lo p.2
termination_by t => SizeOf.sizeOf t
decreasing_by exact Ut.size_mem (by assumption)
theorem fewLo_mk {Lo : List Lb} {k n : Int} {fs : Fl} {tl : Option Int} : fewLo Lo (.mk k n fs tl) ↔ (tl.isSome = true → ∀ l ∈ labsF fs, l ∈ Lo) ∧ ∀ p ∈ fs, fewLo Lo p.2 := by rw [fewLo]

theorem few_of {Lo : List Lb} {L : Sorts} {τ : Va} (hτ : τ.Ok L) : ∀ t, okT L t → cutT Lo t = inst τ t → fewLo Lo t := by
  refine Ut.ind fun k n fs tl ih ok e => ?_
  rw [okT_mk] at ok
  rw [fewLo_mk]
  rw [cutT_mk, inst_eq] at e
  by_cases h8 : k = 8
  · obtain ⟨rfl, rfl⟩ := ok.1.2.1 (.inr h8)
    exact ⟨fun h => (by cases h), fun p hp => (by cases hp)⟩
  · rw [if_neg h8] at e
    injection e with _ _ e _
    have key : ∀ p ∈ fs, (tl.isSome = true → p.1 ∈ Lo) ∧ cutT Lo p.2 = inst τ p.2 := fun p hp => by
      have hgp : getF p.1 fs = some p.2 := getF_of_mem ok.1.1 hp
      have h1 := inst_get hτ ok.1 p.1
      rw [hgp, ← e] at h1
      have h2 : ((some p.2).map (inst τ)).or (getF p.1 (τ.tail tl).1) = some (inst τ p.2) := rfl
      rw [h2] at h1
      by_cases ht : tl.isSome = true
      · rw [if_pos ht, getF_filter] at h1
        by_cases hlo : p.1 ∈ Lo
        · rw [if_pos hlo, getF_mapF, hgp] at h1
          exact ⟨fun _ => hlo, by simpa using h1⟩
        · rw [if_neg hlo] at h1
          cases h1
      · rw [if_neg ht, getF_mapF, hgp] at h1
        exact ⟨fun h => absurd h ht, by simpa using h1⟩
    refine ⟨fun ht l hl => ?_, fun p hp => ih p hp (ok.2 p hp) (key p hp).2⟩
    obtain ⟨p, hp, rfl⟩ := List.mem_map.1 hl
    exact (key p hp).1 ht

theorem run_few {U : List Lb} {m0 : Int} {S : Kn} {l : List Stp} (h : Run U m0 (allC l) S) (hg : ∀ x ∈ l, GoodS U m0 x) {n : Int} (hn : n < m0) : fewLo (opnL l) (S.σ.v n) := by
  have hc := cutVa_holds hg h.most.self
  obtain ⟨τ, hτ, e⟩ := h.most.above h.low (τ := cutVa (opnL l) S.σ) (fun x hx => cutT_st _ _ (h.most.st hx)) hc
  exact few_of hτ.1 _ (h.kg.inv.wf.v n (h.most.sort n hn)) (e n hn).2.symm
end Go.Proofs.Ytblfeokjlecgkaa

/- How long a type is that is told. -/
namespace Go.Proofs.Ytblfeokjlecgkaa

theorem fl_lab (s s' : Lb) (t : Ut) : (flT s t).length = (flT s' t).length := by
  obtain ⟨k, n, fs, tl⟩ := t
  rw [flT_mk, flT_mk]
  split <;> simp

theorem inst_plain' {σ : Va} {k n : Int} {fs : Fl} (h8 : k ≠ 8) (hr : Rise fs) : inst σ (.mk k n fs none) = .mk k n (mapF (inst σ) fs) none := by
  rw [inst_eq, if_neg h8]
  show Ut.mk k n (srtF (mapF (inst σ) fs ++ [])) none = _
  rw [List.append_nil, srtF_of_rise (rise_mapF hr)]
theorem flF_inst {f : Ut → Ut} {B : Nat} : ∀ {fs : Fl}, (∀ p ∈ fs, ∀ s, (flT s (f p.2)).length ≤ (flT s p.2).length * B) → (flF (mapF f fs)).length ≤ (flF fs).length * B ∧ (flE (mapF f fs)).length ≤ (flE fs).length * B
  | [], _ => by
    have : mapF f [] = [] := rfl
    rw [this, flF_nil, flE_nil]; simp
  | p :: fs, h => by
    have h1 := flF_inst (fs := fs) fun q hq => h q (List.mem_cons_of_mem _ hq)
    have h2 := h p (by simp) p.1
    have h3 := h p (by simp) ByteArray.empty
    rw [mapF_cons, flF_cons, flE_cons, flF_cons, flE_cons]
    simp only [List.length_append, Nat.add_mul]
    omega
theorem inst_len {m0 : Int} {σ : Va} {B : Nat} (hB : 1 ≤ B) (h : ∀ n, 0 ≤ n → n < m0 → ∀ s, (flT s (σ.v n)).length ≤ B) : ∀ t, wfT t → noTl m0 t → ∀ s, (flT s (inst σ t)).length ≤ (flT s t).length * B := by
  refine Ut.ind fun k n fs tl ih hw hn s => ?_
  rw [wfT_mk] at hw
  rw [noTl_mk] at hn
  obtain ⟨h8, rfl, hc⟩ := hn
  by_cases e8 : k = 8
  · rw [inst_eq, if_pos e8]
    have h1 := h n (hw.1.n8 e8) (h8 e8) s
    have h2 := fl_pos s (.mk k n fs none)
    exact Nat.le_trans h1 (by have := Nat.mul_le_mul_right B h2; omega)
  · rw [inst_plain' e8 (wf_rise hw.1)]
    have h1 := flF_inst (f := inst σ) (B := B) fun p hp s => ih p hp (hw.2 p hp) (hc p hp) s
    rw [flT_mk, flT_mk]
    split
    · simp only [List.length_cons, List.length_append, Nat.add_mul, tailN, List.length_nil]; omega
    · simp only [List.length_cons, Nat.add_mul]; omega
end Go.Proofs.Ytblfeokjlecgkaa
