/- Laid together by a tool from the texts of this seat: Same Part RowA PureA PureP Off Joined UniI UniJ UniM UniO UniP UniQ UniV UBes RFresh Grd RGround StQ. Conditions: each theorem's own. -/
import Derived.Test.YtblfeokjlecgkaaO01
import Derived.Test.YtblfeokjlecgkaaO02
import Derived.Test.YtblfeokjlecgkaaO03
import Derived.Test.YtblfeokjlecgkaaO04
import Derived.Test.YtblfeokjlecgkaaO05
import Derived.Test.YtblfeokjlecgkaaO06
import Derived.Test.YtblfeokjlecgkaaO07
import Derived.Test.YtblfeokjlecgkaaO08
import Derived.Test.YtblfeokjlecgkaaO09
import Derived.Test.YtblfeokjlecgkaaO10
import Derived.Test.YtblfeokjlecgkaaO11
import Derived.Test.YtblfeokjlecgkaaO12
import Derived.Test.YtblfeokjlecgkaaO13
import Derived.Test.YtblfeokjlecgkaaO14
import Derived.Test.YtblfeokjlecgkaaO15
import Derived.Test.YtblfeokjlecgkaaO16
import Derived.Test.YtblfeokjlecgkaaO17
import Derived.Test.YtblfeokjlecgkaaO18
import Derived.Test.YtblfeokjlecgkaaO19
import Derived.Test.YtblfeokjlecgkaaO20
import Derived.Test.YtblfeokjlecgkaaO21
import Derived.Test.YtblfeokjlecgkaaO22
import Derived.Test.YtblfeokjlecgkaaO23
import Derived.Test.YtblfeokjlecgkaaO24
import Derived.Test.YtblfeokjlecgkaaO25
import Derived.Test.YtblfeokjlecgkaaO26
import Derived.Test.YtblfeokjlecgkaaO27
import Derived.Test.YtblfeokjlecgkaaO28
import Derived.Test.YtblfeokjlecgkaaO29
import Derived.Test.YtblfeokjlecgkaaO30
import Derived.Test.YtblfeokjlecgkaaO31
import Derived.Test.YtblfeokjlecgkaaO32
import Derived.Test.YtblfeokjlecgkaaProg
import Derived.WalkKit
import Derived.WalkSpells
import Derived.WalkLawsBesides
import Derived.Deep.Draws
import Derived.Deep.QuietTactic
import Derived.BigQuiet
import Derived.Lib.Hide
import Derived.Laws.StructEq
import Derived.Laws.EntriesVeiled
import Derived.ArgAppend
import Derived.Deep.RegionHeld
import Derived.Lib.BufferWrite
import Derived.Deep.DeepCutAuto
import Derived.Deep.CutRange
/- Nodes of types as data, slices of nodes as lists, and the small facts on worlds that all walks of this seat use. -/
namespace Go.Proofs.Ytblfeokjlecgkaa
open Go.RowKit

section
variable {w w' : World} {B B' : Nat} {A : Option Addr} {xs : List Nd} {b o : Nat}

end

end Go.Proofs.Ytblfeokjlecgkaa

/- The small functions on one node, each by its contract. -/
namespace Go.Proofs.Ytblfeokjlecgkaa
open Go.RowKit

end Go.Proofs.Ytblfeokjlecgkaa

/- Words and tags: what the program asks of a text's runes, and the document of its bytes. -/
namespace Go.Proofs.Ytblfeokjlecgkaa
open Go.RowKit

end Go.Proofs.Ytblfeokjlecgkaa

/- Words and tags as the document has them; labels. -/
namespace Go.Proofs.Ytblfeokjlecgkaa
open Go.RowKit

end Go.Proofs.Ytblfeokjlecgkaa

/- Functions that read slices of nodes, each by its contract. -/
namespace Go.Proofs.Ytblfeokjlecgkaa
open Go.RowKit

def plainB (xs : List Nd) : Bool := xs.all fun x => !isVarB x.k
def staticB (xs : List Nd) : Bool := xs.all fun x => !(x.k == 0)

set_option maxRecDepth 100000 in
set_option maxHeartbeats 1000000 in
theorem rPlain_any (A : Option Addr) (c Ba : Nat) (xs : List Nd) (w : World) (ha : TyA w Ba A xs) (hl : xs.length ≤ 9223372036854775807) :
    Calls Try.prog 49 #[.slice A xs.length c] w fun e w' => e = .returned (.bool (plainB xs)) ∧ w = w' := by
  go_enter Try.func49, Try.ntmps49
  go_wp2_with fail
  go_loop [3] (fun i => ∃ k : Nat, k ≤ xs.length ∧ i = .int .i64 k ∧ Hid (allFrom (fun x => !isVarB x.k) xs k = plainB xs)) (fun i => xs.length - (intOf i).toNat)
  case atStart => exact ⟨0, Nat.zero_le _, rfl, Lib.hid rfl⟩
  case round =>
    obtain ⟨k, hk, rfl, hgood⟩ := hrel
    by_cases hp : k < xs.length
    · obtain ⟨x, hx⟩ := getq_ex hp
      have hstep := Lib.hid (allFrom_step (p := fun x => !isVarB x.k) hx)
      obtain ⟨b1, o1, rfl, hb1, c10, c11, c12⟩ := ha.at_ hx
      clear hx
      by_cases h8 : x.k = 8
      · have h8b : (x.k == 8) = true := by simpa using h8
        have H8 := Lib.hid h8
        clear h8
        go_wp2_with fail
        go_ret
        exact ⟨ret_bool (by rw [← hgood.out, hstep.out]; simp [isVarB, H8.out]), rfl⟩
      · have h8b : (x.k == 8) = false := by simpa using h8
        by_cases h9 : x.k = 9
        · have h9b : (x.k == 9) = true := by simpa using h9
          have H9 := Lib.hid h9
          clear h9 h8
          go_wp2_with fail
          go_ret
          exact ⟨ret_bool (by rw [← hgood.out, hstep.out]; simp [isVarB, H9.out]), rfl⟩
        · have h9b : (x.k == 9) = false := by simpa using h9
          go_wp2_with fail
          go_round
          case rel => exact ⟨k + 1, hp, by go_num, Lib.hid (by rw [← hgood.out, hstep.out]; simp [isVarB, h8b, h9b])⟩
          case measure => simp [intOf]; omega
    · have hend := Lib.hid (allFrom_end (p := fun x => !isVarB x.k) hp)
      go_wp2_with fail
      go_ret
      exact ⟨ret_bool (by rw [← hgood.out, hend.out]), rfl⟩

set_option maxRecDepth 100000 in
set_option maxHeartbeats 1000000 in
theorem rStatic_any (A : Option Addr) (c Ba : Nat) (xs : List Nd) (w : World) (ha : TyA w Ba A xs) (hl : xs.length ≤ 9223372036854775807) :
    Calls Try.prog 27 #[.slice A xs.length c] w fun e w' => e = .returned (.bool (staticB xs)) ∧ w = w' := by
  go_enter Try.func27, Try.ntmps27
  go_wp2_with fail
  go_loop [3] (fun i => ∃ k : Nat, k ≤ xs.length ∧ i = .int .i64 k ∧ Hid (allFrom (fun x => !(x.k == 0)) xs k = staticB xs)) (fun i => xs.length - (intOf i).toNat)
  case atStart => exact ⟨0, Nat.zero_le _, rfl, Lib.hid rfl⟩
  case round =>
    obtain ⟨k, hk, rfl, hgood⟩ := hrel
    by_cases hp : k < xs.length
    · obtain ⟨x, hx⟩ := getq_ex hp
      have hstep := Lib.hid (allFrom_step (p := fun x => !(x.k == 0)) hx)
      obtain ⟨b1, o1, rfl, hb1, c10, c11, c12⟩ := ha.at_ hx
      clear hx
      cases h8 : (x.k == 0)
      all_goals
        have H8 := Lib.hid h8
        go_wp2_with fail
      · go_round
        case rel => exact ⟨k + 1, hp, by go_num, Lib.hid (by rw [← hgood.out, hstep.out, H8.out]; rfl)⟩
        case measure => simp [intOf]; omega
      · go_ret
        exact ⟨ret_bool (by rw [← hgood.out, hstep.out, H8.out]; rfl), rfl⟩
    · have hend := Lib.hid (allFrom_end (p := fun x => !(x.k == 0)) hp)
      go_wp2_with fail
      go_ret
      exact ⟨ret_bool (by rw [← hgood.out, hend.out]), rfl⟩
end Go.Proofs.Ytblfeokjlecgkaa

/- Whether two types are alike: the document's loop, and the program's by a function value. -/
namespace Go.Proofs.Ytblfeokjlecgkaa
open Go.RowKit

def Nd.bare (x : Nd) : Nd := if x.k = 0 then { x with n := 0 } else x

def sameNd (x y : Nd) : Bool := ndEq x.bare y.bare

def sameFrom (xs ys : List Nd) (k : Nat) : Bool := decide ((xs.drop k).map Nd.bare = (ys.drop k).map Nd.bare)
def sameB (xs ys : List Nd) : Bool := decide (xs.map Nd.bare = ys.map Nd.bare)

theorem sameFrom_step {xs ys : List Nd} {k : Nat} {x y : Nd} (hx : xs[k]? = some x) (hy : ys[k]? = some y) :
    sameFrom xs ys k = (sameNd x y && sameFrom xs ys (k + 1)) := by
  unfold sameFrom sameNd
  rw [drop_cons hx, drop_cons hy, Bool.eq_iff_iff]
  simp [ndEq_iff]

theorem bare_eq (x : Nd) : x.bare = ⟨x.k, x.s, if x.k == 0 then 0 else x.n⟩ := by
  unfold Nd.bare
  by_cases h : x.k = 0 <;> simp [h]

theorem sameFrom_end {xs ys : List Nd} {k : Nat} (h : xs.length = ys.length) (hk : ¬ k < xs.length) : sameFrom xs ys k = true := by
  unfold sameFrom
  rw [List.drop_of_length_le (by omega), List.drop_of_length_le (by omega)]
  simp

theorem sameB_len {xs ys : List Nd} (h : xs.length ≠ ys.length) : sameB xs ys = false := by
  unfold sameB
  simp only [decide_eq_false_iff_not]
  intro e
  have := congrArg List.length e
  simp at this
  exact h this

set_option maxRecDepth 100000 in
set_option maxHeartbeats 1000000 in
theorem rSame_any (A B : Option Addr) (c d : Nat) (xs ys : List Nd) (w : World) (ha : TyA w w.heap.size A xs) (hb : TyA w w.heap.size B ys)
    (hl : xs.length ≤ 9223372036854775807) :
    Calls Try.prog 67 #[.slice A xs.length c, .slice B ys.length d] w fun e w' => e = .returned (.bool (sameB xs ys)) ∧ Below w.heap.size w w' := by
  by_cases hlen : xs.length = ys.length
  · rw [← hlen]
    have Hlen := Lib.hid hlen
    clear hlen
    go_enter Try.func67, Try.ntmps67
    go_wp2_with fail
    go_loopw [5] (fun i w' => ∃ k : Nat, k ≤ xs.length ∧ i = .int .i64 k ∧ Below w.heap.size w w' ∧ Hid (sameFrom xs ys k = sameB xs ys)) (fun i _ => xs.length - (intOf i).toNat)
    case atStart => exact ⟨0, Nat.zero_le _, rfl, Below.refl _ _, Lib.hid rfl⟩
    case round =>
      obtain ⟨k, hk, rfl, hbel, hgood⟩ := hrel
      by_cases hp : k < xs.length
      · obtain ⟨x, hx⟩ := getq_ex hp
        obtain ⟨y, hy⟩ := getq_ex (show k < ys.length by rw [← Hlen.out]; exact hp)
        have hstep := Lib.hid (sameFrom_step hx hy)
        obtain ⟨b1, o1, rfl, hb1, c10, c11, c12⟩ := ((ha.below hbel).more hbel.size).at_ hx
        obtain ⟨b2, o2, rfl, hb2, c20, c21, c22⟩ := ((hb.below hbel).more hbel.size).at_ hy
        have hz := hbel.size
        have q1 : b1 < wr.heap.size + 1 := by omega
        have q2 : b2 < wr.heap.size + 1 := by omega
        clear hx hy
        obtain ⟨n1, hbx, hn1⟩ : ∃ n1, x.bare = ⟨x.k, x.s, n1⟩ ∧ n1 = (if x.k == 0 then 0 else x.n) := ⟨_, bare_eq x, rfl⟩
        obtain ⟨n2, hby, hn2⟩ : ∃ n2, y.bare = ⟨y.k, y.s, n2⟩ ∧ n2 = (if y.k == 0 then 0 else y.n) := ⟨_, bare_eq y, rfl⟩
        have hne := run_neNode ⟨x.k, x.s, n1⟩ ⟨y.k, y.s, n2⟩
        simp only [Nd.val] at hne
        have hsn : ndEq ⟨x.k, x.s, n1⟩ ⟨y.k, y.s, n2⟩ = sameNd x y := by unfold sameNd; rw [hbx, hby]
        clear hbx hby
        rw [hsn] at hne
        clear hsn
        cases hkx : (x.k == 0)
        all_goals
          cases hky : (y.k == 0)
        all_goals
          simp only [hkx, hky, if_true, Bool.false_eq_true, if_false] at hn1 hn2
          subst hn1 hn2
          cases he : sameNd x y
        all_goals
          have He := Lib.hid he
          rw [he] at hne
          clear he
          go_wp2_with fail
          go_region
        all_goals
          go_wp2_with fail
        all_goals first
          | (go_ret
             exact ⟨ret_bool (by rw [← hgood.out, hstep.out, He.out]; rfl), by repeat (first | exact hbel | refine ext_alloc ?_ _ | refine ext_set ?_ (by simp; omega) _ | refine Below.drew ?_ | refine ext_drewN ?_ _)⟩)
          | (go_roundw
             case rel => exact ⟨k + 1, hp, by go_num, (by repeat (first | exact hbel | refine ext_alloc ?_ _ | refine ext_set ?_ (by simp; omega) _ | refine Below.drew ?_ | refine ext_drewN ?_ _)), Lib.hid (by rw [← hgood.out, hstep.out, He.out, Bool.true_and])⟩
             case measure => simp [intOf]; omega)
      · have hfin := Lib.hid (sameFrom_end Hlen.out hp)
        go_wp2_with fail
        go_ret
        exact ⟨ret_bool (by rw [← hgood.out, hfin.out]), hbel⟩
  · have hle : ((xs.length : Int) != (ys.length : Int)) = true := by simp; omega
    have hfin := Lib.hid (sameB_len hlen)
    clear hlen
    go_enter Try.func67, Try.ntmps67
    go_wp2_with fail
    go_ret
    exact ⟨ret_bool (by rw [hfin.out]), Below.refl _ _⟩
end Go.Proofs.Ytblfeokjlecgkaa

/- ty.Part and the document's. -/
namespace Go.Proofs.Ytblfeokjlecgkaa
open Go.RowKit

def bareN : List Nd → List Nd
  | [] => []
  | x :: xs => x.name ByteArray.empty :: xs

theorem bareN_length (xs : List Nd) : (bareN xs).length = xs.length := by cases xs <;> rfl

set_option maxRecDepth 100000 in
set_option maxHeartbeats 2000000 in
theorem rPart_any (A : Option Addr) (c : Nat) (T ts rest : List Nd) (i : Nat) (w : World) (ha : TyA w w.heap.size A T) (hl : T.length ≤ 1000000) (hc : T.length ≤ c) (hd : T.drop i = ts ++ rest) (hok : okAll ts) (hokT : okAll T) (hf : Fo 1 ts) :
    Calls Try.prog 106 #[.slice A T.length c, .int .i64 (i : Int)] w (RetN w (bareN ts)) := by
  have hi : i < T.length := drop_lt hd hf.pos
  have hle : i + ts.length ≤ T.length := by
    have := congrArg List.length hd
    rw [List.length_drop, List.length_append] at this
    omega
  have hendr := Lib.hid (show endR T (i : Int) = ((i + ts.length : Nat) : Int) by rw [endR_nat hi, endGo_one hd hok hf])
  obtain ⟨x, ys, rfl⟩ : ∃ x ys, ts = x :: ys := by
    cases ts with
    | nil => exact absurd hf.nil_of (by omega)
    | cons x ys => exact ⟨x, ys, rfl⟩
  obtain ⟨b1, o1, rfl, hb1, c10, c11, c12⟩ := ha.at_ (getq_of_drop hd)
  have hpart := ha.part hd
  have HokT := Lib.hid hokT
  clear hd hok hf hokT
  have h0' : (0 : Int) ≤ (i : Int) := by omega
  have h1' : (i : Int) < (T.length : Int) := by omega
  have hd0 : decide ((i : Int) < 0) = false := by simp
  have hd1 : decide (T.length ≤ i) = false := by simp; omega
  have hown0 := own_empty 48 3 encN w
  have hb0 := ext_alloc (Below.refl w.heap.size w) (.cells #[] 48)
  simp only [List.length_cons] at hle hendr
  go_enter Try.func106, Try.ntmps106
  go_wp2_with fail
  refine (rEnd_any _ c T i _ ((ha.below hb0).more hb0.size) hl HokT.out).mono ?_
  rintro e w1 ⟨rfl, hb⟩
  rw [hendr.out]
  have hown1 := OwnL.below hown0 hb (Nat.le_refl _)
  have hbel1 := ext_trans hb0 hb
  have z1 := hbel1.size
  go_wp2_with (at_builtin; refine wpList_appN rfl (.tmp 14) (.tmp 20) rfl w.heap.size (l := []) rfl hown1 (l2 := x :: ys) (by show _ = Value.slice _ (ys.length + 1) _; rw [show i + (ys.length + 1) - i = ys.length + 1 by omega]; rfl) (hpart.below hbel1) (by simp; omega) z1 ?_; intro A2 cap2 w3 hown2 hg3 _; have hbel2 := ext_app hbel1 hg3 (fun k hk => (OwnL.block hown1 k hk).1); rw [List.nil_append] at hown2; obtain ⟨g, rfl, hbg, hg, hcell, hfz, hown3, hgr3⟩ := OwnL.setN hown2 (j := 0) (x := x) rfl ByteArray.empty; have hbel3 := ext_set (p := ⟨g, 0 * 3 + 1, none⟩) hbel2 (by simp; omega) (.string ByteArray.empty); simp only [Nat.zero_mul, Nat.zero_add] at hcell hfz hown3 hbel3)
  go_ret
  exact ⟨some ⟨g, 0, none⟩, cap2, by simp [bareN], hown3, hbel3⟩
end Go.Proofs.Ytblfeokjlecgkaa

/- ty.Row's parts: odd labels, the order of labels. -/
namespace Go.Proofs.Ytblfeokjlecgkaa
open Go.RowKit

def encT (s : ByteArray) : List Value := [.string s]
theorem encT_len (s : ByteArray) : (encT s).length = 1 := rfl
abbrev ReadT (w : World) (B : Nat) (A : Option Addr) (l : List ByteArray) : Prop := ReadL 1 encT w B A l

theorem ReadL.str {w : World} {B : Nat} {A : Option Addr} {l : List ByteArray} (h : ReadT w B A l) {i : Nat} {s : ByteArray} (hn : l[i]? = some s) :
    ∃ b o, A = some ⟨b, o, none⟩ ∧ b < B ∧ w.cell? ⟨b, o + i, none⟩ = some (.string s) := by
  obtain ⟨b, o, rfl, hb, hc⟩ := h (by rintro rfl; simp at hn)
  have := hc i s hn 0 _ rfl
  rw [Nat.mul_one, Nat.add_zero] at this
  exact ⟨b, o, rfl, hb, this⟩

end Go.Proofs.Ytblfeokjlecgkaa

/- Types and functions' types (no program in sight). -/
namespace Go.Proofs.Ytblfeokjlecgkaa

theorem IsT.bare {T : List Nd} (h : IsT T) : bareN T = T := by
  obtain ⟨x, ys, rfl, hs, _⟩ := h.root
  unfold bareN Nd.name
  rw [← hs]

section
variable {a b : List Nd}

end

end Go.Proofs.Ytblfeokjlecgkaa

/- What is printed tells the type: the plain law of TyPrints. -/
namespace Go.Proofs.Ytblfeokjlecgkaa

def Tm (r : List UInt8) : Prop := ∀ t, r ≠ 32 :: 45 :: t

end Go.Proofs.Ytblfeokjlecgkaa

/- Rows in blocks of their own: what a write into one leaves of another. -/
namespace Go.Proofs.Ytblfeokjlecgkaa
open Go.RowKit

theorem below_app {w w' : World} {B n c : Nat} {A : Option Addr} (hg : w.grownBy w' ((Value.slice A n c).ownBlock)) (hB : B ≤ w.heap.size) (hA : ∀ a, A = some a → B ≤ a.block) : Below B w w' :=
  (Below.refl B w).grown hg hB fun k hk => by
    obtain ⟨a, ha, hab⟩ := ownBlock_of hk
    rw [← hab]
    exact hA a ha
end Go.Proofs.Ytblfeokjlecgkaa

/- term.cut, term.joined, wrong.error. -/
namespace Go.Proofs.Ytblfeokjlecgkaa
open Go.RowKit

theorem sls_below {w w' : World} {B : Nat} {vs : List (Option Addr × Nat × Nat)} {tss : List (List Nd)} (h : Sls w B vs tss) (hb : Below B w w') : Sls w' B vs tss :=
  ⟨h.1, fun i v ts hv ht => ⟨(h.2 i v ts hv ht).1, (h.2 i v ts hv ht).2.below hb⟩⟩

end Go.Proofs.Ytblfeokjlecgkaa

/- term.joined of no children at all. -/
namespace Go.Proofs.Ytblfeokjlecgkaa
open Go.RowKit

end Go.Proofs.Ytblfeokjlecgkaa

/- An append onto a slice of types that is full: all is copied. -/
namespace Go.Proofs.Ytblfeokjlecgkaa
open Go.RowKit

end Go.Proofs.Ytblfeokjlecgkaa

/- What Put's closures see of their boxes; the rows of a put, as data. -/
namespace Go.Proofs.Ytblfeokjlecgkaa
open Go.RowKit

theorem sls_more {w : World} {B B' : Nat} {vs : List (Option Addr × Nat × Nat)} {tss : List (List Nd)} (h : Sls w B vs tss) (hB : B ≤ B') : Sls w B' vs tss :=
  ⟨h.1, fun i v ts hv ht => ⟨(h.2 i v ts hv ht).1, (h.2 i v ts hv ht).2.more hB⟩⟩

end Go.Proofs.Ytblfeokjlecgkaa

/- slices.Concat of two. -/
namespace Go.Proofs.Ytblfeokjlecgkaa
open Go.RowKit

end Go.Proofs.Ytblfeokjlecgkaa

/- Types and their trees: there and back. -/
namespace Go.Proofs.Ytblfeokjlecgkaa

theorem flF_zip : ∀ {rs : List (List Nd)}, (∀ t ∈ rs, flT (headNd t).s (utT t) = t.map Nd.bare) → flF ((labsT rs).zip (rs.map utT)) = rs.flatten.map Nd.bare
  | [], _ => by simp [labsT, flF_nil]
  | t :: rs, h => by
    rw [labsT_cons, List.map_cons, List.zip_cons_cons, flF_cons, flF_zip fun t' ht => h t' (List.mem_cons_of_mem _ ht), h t (by simp), List.flatten_cons, List.map_append]

theorem gd_fl {ts : List Nd} (h : GdT ts) : flT (headNd ts).s (utT ts) = ts.map Nd.bare := by
  induction h with
  | mk x tss ok k9 tr ch row els tl ih =>
    rw [utT_cons tr, flT_mk]
    obtain ⟨t1, t2, t3⟩ := tailN_tlU tl
    have hx : (headNd (x :: tss.flatten)).s = x.s := rfl
    rw [hx, List.map_cons]
    rcases node_kinds ok k9 tr with ⟨h5, hn, a, b, rfl⟩ | ⟨hr, hn, hl, hu⟩ | ⟨h5, hr, rfl, h0, h8, hn0, hnn⟩
    · have hr : isRowB x.k = false := by rw [h5]; rfl
      obtain ⟨e, eb⟩ := els hr
      rw [if_neg (by rw [hr]; simp), lOf_eq e, if_neg (by omega)]
      rw [lOf_eq e] at ih
      have ea := ih a (by simp)
      have eb' := ih b (by simp)
      rw [eb (headNd a).s (by simp [labsT])] at ea
      rw [eb (headNd b).s (by simp [labsT])] at eb'
      have hl : labsU x.k [a, b] = [lA, lB] := by unfold labsU; rw [if_pos h5]
      rw [hl]
      simp only [List.map_cons, List.map_nil, List.zip_cons_cons, List.zip_nil_right, flE_cons, flE_nil, ea, eb', List.append_nil, List.flatten_cons, List.flatten_nil, List.map_append]
      congr 1
      unfold Nd.bare
      rw [if_neg (by omega)]
      rw [← hn]
    · rw [if_pos hr]
      have h67 : x.k = 6 ∨ x.k = 7 := by simpa [isRowB] using hr
      have hlu : labsU x.k (lOf tss) = labsT (lOf tss) := by unfold labsU; rw [if_neg (by omega)]
      have hfl : ((labsT (lOf tss)).zip ((lOf tss).map utT)).length = (lOf tss).length := by rw [List.length_zip, labsT_length, List.length_map, Nat.min_self]
      rw [hlu, hfl, t2, lt_len, flF_zip ih, t1]
      have e : tss.flatten = (lOf tss).flatten ++ (tOf tss).flatten := by rw [← List.flatten_append, lOf_tOf]
      have e2 : (tOf tss).flatten.map Nd.bare = (tOf tss).flatten := by
        rcases tOf_one tss with e | ⟨t, e⟩
        · rw [e]; rfl
        · obtain ⟨n, _, ht⟩ := tl t (by rw [e]; simp)
          rw [e, ht]; rfl
      rw [e, List.map_append, e2]
      congr 1
      unfold Nd.bare
      rw [if_neg (by omega), ← hn]
    · rw [if_neg (by rw [hr]; simp)]
      have e3 : (labsU x.k (lOf [])).zip ((lOf []).map utT) = [] := by simp [lOf, tailB]
      rw [e3, flE_nil]
      simp only [List.flatten_nil, List.map_nil]
      congr 1
      unfold Nd.bare
      obtain ⟨k, s, n⟩ := x
      simp only at *
      by_cases h8' : k = 8
      · rw [if_pos h8', if_neg (by omega)]
      · rw [if_neg h8']
        split
        · rfl
        · next h => rw [hn0 h8' h]
end Go.Proofs.Ytblfeokjlecgkaa

/- Trees, laid out, are types; what numbers they have. -/
namespace Go.Proofs.Ytblfeokjlecgkaa

theorem lt_app {L : List (List Nd)} {tl : Option Int} (h : ∀ t ∈ L, (headNd t).k ≠ 9) : lOf (L ++ (tailN tl).map fun x => [x]) = L ∧ tOf (L ++ (tailN tl).map fun x => [x]) = (tailN tl).map fun x => [x] := by
  cases tl with
  | none =>
    have e : tailB L = false := by
      unfold tailB
      cases e : L.getLast? with
      | none => rfl
      | some t => simpa using h t (List.mem_of_getLast? e)
    simp [tailN, lOf, tOf, e]
  | some p =>
    have e : tailB (L ++ [[⟨9, ByteArray.empty, p⟩]]) = true := by simp [tailB, headNd]
    simp [tailN, lOf, tOf, e]

end Go.Proofs.Ytblfeokjlecgkaa

/- Plain types that agree, told by lists. -/
namespace Go.Proofs.Ytblfeokjlecgkaa

def kidsL : List Nd → List (List Nd)
  | [] => []
  | x :: ks => splitF (manyN x) ks
def agG : Nat → List Nd → List Nd → Bool
  | 0, _, _ => false
  | f + 1, a, b => if (headNd a).k = 0 ∨ (headNd b).k = 0 then true else if (headNd a).k ≠ (headNd b).k then false else
      decide (labsT (kidsL a) = labsT (kidsL b)) && ((kidsL a).zip (kidsL b)).all fun p => agG f p.1 p.2

theorem kidsL_cons {x : Nd} {tss : List (List Nd)} (tr : Trees (manyN x) tss.flatten tss) : kidsL (x :: tss.flatten) = tss := tr.uniq.symm

theorem sorted_labs : ∀ {a b : List Lb}, (a.Pairwise fun x y => ltB x y = true) → (b.Pairwise fun x y => ltB x y = true) → (∀ l, l ∈ a ↔ l ∈ b) → a = b
  | [], [], _, _, _ => rfl
  | [], y :: b, _, _, h => absurd ((h y).2 (by simp)) (by simp)
  | x :: a, [], _, _, h => absurd ((h x).1 (by simp)) (by simp)
  | x :: a, y :: b, ha, hb, h => by
    rw [List.pairwise_cons] at ha hb
    have e : x = y := by
      rcases List.mem_cons.1 ((h x).1 (by simp)) with e | e
      · exact e
      · rcases List.mem_cons.1 ((h y).2 (by simp)) with e' | e'
        · exact e'.symm
        · have h1 := hb.1 x e
          have h2 := ha.1 y e'
          rw [ltB_asym h1] at h2
          cases h2
    subst e
    have hx : ∀ {c : List Lb}, (∀ l ∈ c, ltB x l = true) → x ∉ c := fun hc hm => by
      have := hc x hm
      rw [ltB_irrefl] at this
      cases this
    rw [sorted_labs ha.2 hb.2 fun l => ?_]
    have := h l
    simp only [List.mem_cons] at this
    constructor
    · intro hl
      rcases this.1 (.inr hl) with e | e
      · rw [e] at hl; exact absurd hl (hx ha.1)
      · exact e
    · intro hl
      rcases this.2 (.inr hl) with e | e
      · rw [e] at hl; exact absurd hl (hx hb.1)
      · exact e

theorem agG_co : ∀ (f : Nat) (a b : List Nd), GdT a → GdT b → noTl 0 (utT a) → noTl 0 (utT b) → a.length ≤ f → (agG f a b = true ↔ Co (utT a) (utT b)) := by
  intro f
  induction f with
  | zero =>
    intro a b ga _ _ _ hl
    exact absurd (List.eq_nil_of_length_eq_zero (Nat.le_zero.1 hl)) ga.ne
  | succ f ih =>
    intro a b ga gb na nb hl
    have wa := gd_wf ga
    have wb := gd_wf gb
    cases ga with
    | mk x tss ok k9 tr ch row els tl =>
    cases gb with
    | mk y uss ok' k9' tr' ch' row' els' tl' =>
    have ea := utT_cons tr
    have eb := utT_cons tr'
    have hx : headNd (x :: tss.flatten) = x := rfl
    have hy : headNd (y :: uss.flatten) = y := rfl
    have x8 := noTl_k8 na wa
    have y8 := noTl_k8 nb wb
    rw [ea] at x8 na
    rw [eb] at y8 nb
    rw [noTl_mk] at na nb
    have x8 : x.k ≠ 8 := x8
    have y8 : y.k ≠ 8 := y8
    have hto : ∀ {l : List (List Nd)}, tlU l = none → tOf l = [] := fun {l} h => by
      unfold tlU at h
      rcases tOf_one l with e | ⟨t, e⟩
      · exact e
      · rw [e] at h; simp at h
    have e1 := lOf_eq (hto na.2.1)
    have e2 := lOf_eq (hto nb.2.1)
    have t1 := na.2.1
    have t2 := nb.2.1
    rw [ea, eb, e1, e2, t1, t2, if_neg x8, if_neg y8]
    unfold agG
    rw [hx, hy, kidsL_cons tr, kidsL_cons tr']
    by_cases h0 : x.k = 0 ∨ y.k = 0
    · rw [if_pos h0]
      refine ⟨fun _ => ?_, fun _ => rfl⟩
      rcases h0 with h | h
      · rw [h]; exact .dl _ _ _ _
      · rw [h]; exact .dr _ _ _ _
    · rw [if_neg h0]
      by_cases hk : x.k = y.k
      · rw [if_neg (by simpa using hk)]
        have hk0 : x.k ≠ 0 := fun e => h0 (.inl e)
        have zl : (labsU x.k tss).length = (tss.map utT).length := by
          rcases node_kinds ok k9 tr with ⟨h5, _, a, b, rfl⟩ | ⟨hr, _⟩ | ⟨h5, _, rfl, _⟩
          · unfold labsU; rw [if_pos h5]; rfl
          · unfold labsU; rw [if_neg (by intro e; rw [e] at hr; cases hr), labsT_length, List.length_map]
          · unfold labsU; rw [if_neg h5]; rfl
        have zm : (labsU y.k uss).length = (uss.map utT).length := by
          rcases node_kinds ok' k9' tr' with ⟨h5, _, a, b, rfl⟩ | ⟨hr, _⟩ | ⟨h5, _, rfl, _⟩
          · unfold labsU; rw [if_pos h5]; rfl
          · unfold labsU; rw [if_neg (by intro e; rw [e] at hr; cases hr), labsT_length, List.length_map]
          · unfold labsU; rw [if_neg h5]; rfl
        have hn : (labsU x.k tss).Nodup := by
          rw [utT_cons tr, wfT_mk] at wa
          have := wa.1.nd
          rw [e1, labsF_zip zl] at this
          exact this
        have hIH : labsU x.k tss = labsU y.k uss → ((∀ p ∈ (tss.map utT).zip (uss.map utT), Co p.1 p.2) ↔ ((tss.zip uss).all fun p => agG f p.1 p.2) = true) := fun _ => by
          rw [List.all_eq_true, List.zip_map]
          have key : ∀ p ∈ tss.zip uss, agG f p.1 p.2 = true ↔ Co (utT p.1) (utT p.2) := fun p hp => by
            have hpa := (List.of_mem_zip hp).1
            have hpb := (List.of_mem_zip hp).2
            refine ih p.1 p.2 (ch _ (by rw [e1]; exact hpa)) (ch' _ (by rw [e2]; exact hpb)) ?_ ?_ ?_
            · obtain ⟨i, hi⟩ := List.getElem?_of_mem hpa
              have hlt := (List.getElem?_eq_some_iff.1 hi).1
              have h1 := List.getElem?_eq_getElem (l := labsU x.k tss) (i := i) (by rw [zl, List.length_map]; exact hlt)
              exact na.2.2 (_, utT p.1) (by rw [e1]; exact List.mem_of_getElem? (i := i) (by rw [List.getElem?_zip_eq_some]; exact ⟨h1, by rw [List.getElem?_map, hi]; rfl⟩))
            · obtain ⟨i, hi⟩ := List.getElem?_of_mem hpb
              have hlt := (List.getElem?_eq_some_iff.1 hi).1
              have h1 := List.getElem?_eq_getElem (l := labsU y.k uss) (i := i) (by rw [zm, List.length_map]; exact hlt)
              exact nb.2.2 (_, utT p.2) (by rw [e2]; exact List.mem_of_getElem? (i := i) (by rw [List.getElem?_zip_eq_some]; exact ⟨h1, by rw [List.getElem?_map, hi]; rfl⟩))
            · have h1 := splitF_mem (manyN x) tss.flatten p.1 (tr.uniq ▸ hpa)
              simp only [List.length_cons] at hl
              omega
          constructor
          · intro h p hp
            exact (key p hp).2 (h _ (List.mem_map.2 ⟨p, hp, rfl⟩))
          · intro h q hq
            obtain ⟨p, hp, rfl⟩ := List.mem_map.1 hq
            exact (key p hp).1 (h p hp)
        have hlen : Co (.mk x.k 0 ((labsU x.k tss).zip (tss.map utT)) none) (.mk y.k 0 ((labsU y.k uss).zip (uss.map utT)) none) → labsU x.k tss = labsU y.k uss ∧ labsT tss = labsT uss := fun hc => by
          rw [← hk, co_row hk0] at hc
          rw [← hk]
          have hmem : ∀ l, l ∈ labsU x.k tss ↔ l ∈ labsU x.k uss := fun l => by
            have h := coL_some (hc.2 l)
            have h1 := labsF_zip zl
            have h2 := labsF_zip (hk ▸ zm)
            constructor
            · intro hm
              by_cases hm2 : l ∈ labsU x.k uss
              · exact hm2
              · rw [getF_none.2 (show l ∉ labsF ((labsU x.k uss).zip (uss.map utT)) by rw [h2]; exact hm2)] at h
                rw [Option.isSome_none, Option.isSome_eq_false_iff, Option.isNone_iff_eq_none, getF_none, h1] at h
                exact absurd hm h
            · intro hm
              by_cases hm2 : l ∈ labsU x.k tss
              · exact hm2
              · rw [getF_none.2 (show l ∉ labsF ((labsU x.k tss).zip (tss.map utT)) by rw [h1]; exact hm2)] at h
                have h := h.symm
                rw [Option.isSome_none, Option.isSome_eq_false_iff, Option.isNone_iff_eq_none, getF_none] at h
                exact absurd (by rw [h2]; exact hm) h
          rcases node_kinds ok k9 tr with ⟨h5, _, a, b, rfl⟩ | ⟨hr, _⟩ | ⟨h5, hr, rfl, _⟩
          · refine ⟨by unfold labsU; rw [if_pos h5, if_pos h5], ?_⟩
            rcases node_kinds ok' k9' tr' with ⟨_, _, a', b', rfl⟩ | ⟨hr, _⟩ | ⟨h5', _⟩
            · have r1 := (els (by rw [h5]; rfl)).2
              have r2 := (els' (by rw [← hk, h5]; rfl)).2
              simp only [labsT, List.map_cons, List.map_nil, List.mem_cons, List.not_mem_nil, or_false] at r1 r2 ⊢
              rw [r1 _ (.inl rfl), r1 _ (.inr rfl), r2 _ (.inl rfl), r2 _ (.inr rfl)]
            · rw [← hk, h5] at hr; cases hr
            · exact absurd (hk ▸ h5) h5'
          · have h5 : x.k ≠ 5 := fun e => by rw [e] at hr; cases hr
            have u1 : labsU x.k tss = labsT tss := by unfold labsU; rw [if_neg h5]
            have u2 : labsU x.k uss = labsT uss := by unfold labsU; rw [if_neg h5]
            rw [u1, u2] at hmem ⊢
            have p1 := (row hr).1
            have p2 := (row' (hk ▸ hr)).1
            rw [e1] at p1
            rw [e2] at p2
            have := sorted_labs p1 p2 hmem
            exact ⟨this, this⟩
          · rcases node_kinds ok' k9' tr' with ⟨h5', _⟩ | ⟨hr', _⟩ | ⟨_, _, rfl, _⟩
            · exact absurd (hk.trans h5') h5
            · rw [← hk, hr] at hr'; cases hr'
            · exact ⟨rfl, rfl⟩
        rw [Bool.and_eq_true, decide_eq_true_eq]
        constructor
        · rintro ⟨h1, h2⟩
          have hu : labsU x.k tss = labsU y.k uss := by
            rw [← hk]; unfold labsU; rw [h1]
          rw [← hk] at hu ⊢
          rw [← hu]
          exact (co_zip zl (by rw [hu, hk]; exact zm) hn hk0 none).2 ((hIH (by rw [hu, hk])).2 h2)
        · intro hc
          obtain ⟨hu, h1⟩ := hlen hc
          refine ⟨h1, (hIH hu).1 ?_⟩
          rw [← hk] at hc hu
          rw [← hu] at hc
          exact (co_zip zl (by rw [hu, hk]; exact zm) hn hk0 none).1 hc
      · rw [if_pos hk]
        refine ⟨fun h => (by cases h), fun h => ?_⟩
        rcases co_kinds h with e | e | e
        · exact absurd (.inl e) h0
        · exact absurd (.inr e) h0
        · exact absurd e hk
end Go.Proofs.Ytblfeokjlecgkaa

/- Plain types told; fresh variables. -/
namespace Go.Proofs.Ytblfeokjlecgkaa

theorem wf_ri : ∀ t, wfT t → riT t := by
  refine Ut.ind fun k n fs tl ih h => ?_
  rw [wfT_mk] at h
  rw [riT_mk]
  exact ⟨wf_rise h.1, fun p hp => ih p hp (h.2 p hp)⟩

theorem step_fit {S S' : Kn} {C : Va → Prop} {m0 : Int} (hm : m0 ≤ S.m) (hL : ∀ x, x < m0 → S.L x = none) (s : Step S S' C) {τ : Va} (hτ : S.Sat τ) (hc : C τ) (hf : ∀ n, 0 ≤ n → n < m0 → ndT (τ.v n) ≤ 10000 ∧ dpT (τ.v n) ≤ 100) : fitK m0 S' := by
  obtain ⟨τ', ⟨h1, h2⟩, ha⟩ := s.gen τ hτ hc
  intro n h0 hn
  have hl : S'.L n = none := by rw [s.le.L n (by omega)]; exact hL n hn
  have := s.inv.gen τ' h1 h2 (varT n) (okT_var hl)
  rw [inst_var, inst_var, ← (ha n (by omega)).1] at this
  obtain ⟨a, b⟩ := inst_nd τ' (S'.σ.v n) S'.L (s.inv.wf.v n hl)
  rw [this] at a b
  have := hf n h0 hn
  omega

end Go.Proofs.Ytblfeokjlecgkaa

/- Open rows that were made to agree with one Var: what is known of it. -/
namespace Go.Proofs.Ytblfeokjlecgkaa

theorem static_of {ts : List Nd} (h : GdT ts) : (∀ x ∈ ts, x.k ≠ 0) → stT (utT ts) := by
  induction h with
  | mk x tss ok k9 tr ch row els tl ih =>
    intro hU
    rw [utT_cons tr, stT_mk]
    refine ⟨hU x (List.mem_cons_self ..), fun p hp => ?_⟩
    obtain ⟨t, ht, hpt⟩ := List.mem_map.1 (zip_mem hp)
    rw [← hpt]
    exact ih t ht fun y hy => hU y (List.mem_cons_of_mem _ (List.mem_flatten.2 ⟨t, lOf_mem ht, hy⟩))

theorem ndF_zip : ∀ {ls : List Lb} {us : List Ut}, ndF (ls.zip us) ≤ (us.map ndT).sum
  | [], us => by simp [ndF_nil]
  | l :: ls, [] => by simp [ndF_nil]
  | l :: ls, u :: us => by
    rw [List.zip_cons_cons, ndF_cons, List.map_cons, List.sum_cons]
    have := ndF_zip (ls := ls) (us := us)
    show ndT u + _ ≤ _
    omega
theorem nd_of {ts : List Nd} (h : GdT ts) : ndT (utT ts) ≤ ts.length := by
  induction h with
  | mk x tss ok k9 tr ch row els tl ih =>
    have w := gd_wf (.mk x tss ok k9 tr ch row els tl)
    rw [utT_cons tr] at w ⊢
    rw [wfT_mk] at w
    rw [ndT_mk]
    have hl : ¬ 50 < ((labsU x.k (lOf tss)).zip ((lOf tss).map utT)).length := by
      have h5 := w.1.sh.2.2
      by_cases k5 : x.k = 5
      · obtain ⟨⟨a, b, e⟩, _⟩ := h5.1 k5
        rw [e]
        simp
      · cases hr : isRowB x.k with
        | true => have := w.1.len hr; omega
        | false =>
          obtain ⟨e, _⟩ := h5.2 k5 hr
          rw [e]
          simp
    rw [if_neg hl]
    have h1 : ndF ((labsU x.k (lOf tss)).zip ((lOf tss).map utT)) ≤ ((lOf tss).map List.length).sum := by
      refine Nat.le_trans ndF_zip ?_
      rw [List.map_map]
      exact sum_le (g := List.length) fun t ht => ih t ht
    have e : tss.flatten.length = ((lOf tss).map List.length).sum + ((tOf tss).map List.length).sum := by
      rw [← List.sum_append, ← List.map_append, lOf_tOf, List.length_flatten]
    simp only [List.length_cons]
    omega

theorem dp_nd : ∀ t, ndT t ≤ 10000 → dpT t ≤ ndT t := by
  refine Ut.ind fun k n fs tl ih h => ?_
  rw [ndT_mk] at h ⊢
  rw [dpT_mk]
  have h50 : ¬ 50 < fs.length := fun e => by rw [if_pos e] at h; omega
  rw [if_neg h50] at h ⊢
  have key : ∀ gs : Fl, (∀ p ∈ gs, p ∈ fs) → ndF gs ≤ 10000 → dpF gs ≤ ndF gs := by
    intro gs
    induction gs with
    | nil => intro _ _; rw [dpF_nil]; omega
    | cons p gs ihg =>
      intro hg hn
      rw [ndF_cons] at hn ⊢
      rw [dpF_cons]
      have := ih p (hg p (by simp)) (by omega)
      have := ihg (fun q hq => hg q (by simp [hq])) (by omega)
      omega
  have := key fs (fun _ h => h) (by omega)
  omega
theorem fit_small {ts : List Nd} (h : GdT ts) (hl : ts.length ≤ 100) : ndT (utT ts) ≤ 10000 ∧ dpT (utT ts) ≤ 100 := by
  have h1 := nd_of h
  have h2 := dp_nd (utT ts) (by omega)
  omega

theorem fl_plain {ts : List Nd} (h : GdT ts) (hs : ∀ x ∈ ts, x.k ≠ 0) (he : (headNd ts).s = ByteArray.empty) : flT ByteArray.empty (utT ts) = ts := by
  have := gd_fl h
  rw [he] at this
  rw [this]
  have : ∀ x ∈ ts, Nd.bare x = x := fun x hx => by unfold Nd.bare; rw [if_neg (hs x hx)]
  exact (List.map_congr_left this).trans (List.map_id _)

end Go.Proofs.Ytblfeokjlecgkaa

/- Types put for variables, as rows of nodes. -/
namespace Go.Proofs.Ytblfeokjlecgkaa

def putN (types : List (List Nd)) (x : Nd) : List Nd := if x.k = 8 then
  match types[x.n.toNat]?.getD [] with
  | [] => []
  | y :: ks => { y with s := x.s } :: ks
  else [x]
def putTs (types : List (List Nd)) (t : List Nd) : List Nd := (t.map (putN types)).flatten
def putVa (types : List (List Nd)) : Va := ⟨fun n => if 0 ≤ n ∧ n.toNat < types.length then utT (types[n.toNat]?.getD []) else intT, Va.id.t⟩

theorem GdT.relabel {y : Nd} {ks : List Nd} (h : GdT (y :: ks)) (s : Lb) : GdT ({ y with s := s } :: ks) ∧ utT ({ y with s := s } :: ks) = utT (y :: ks) := by
  generalize e : y :: ks = ts at h
  cases h with
  | mk x tss ok k9 tr ch row els tl =>
    injection e with e1 e2
    subst e1 e2
    have tr2 : Trees (manyN { y with s := s }) tss.flatten tss := tr
    refine ⟨.mk _ tss ok k9 tr2 ch row els tl, ?_⟩
    rw [utT_cons tr, utT_cons tr2]

theorem putL_cons (types : List (List Nd)) (x : Nd) (t : List Nd) : putTs types (x :: t) = putN types x ++ putTs types t := rfl
theorem putL_flatten (types : List (List Nd)) : ∀ tss : List (List Nd), putTs types tss.flatten = (tss.map (putTs types)).flatten
  | [] => rfl
  | t :: tss => by
    rw [List.flatten_cons, List.map_cons, List.flatten_cons, ← putL_flatten types tss]
    unfold putTs
    rw [List.map_append, List.flatten_append]

theorem notail_lOf {tss : List (List Nd)} (h : ∀ t ∈ tss, (headNd t).k ≠ 9) : lOf tss = tss ∧ tOf tss = [] := by
  have := lt_app (tl := none) h
  simpa [tailN] using this

theorem gd_k9 {ts : List Nd} (h : GdT ts) : (headNd ts).k ≠ 9 := by
  cases h with
  | mk x tss ok k9 tr ch row els tl => exact k9

theorem put_gd {types : List (List Nd)} (ht : ∀ T ∈ types, GdT T) {ts : List Nd} (h : GdT ts) : (∀ x ∈ ts, toldN types.length x = true) →
    GdT (putTs types ts) ∧ utT (putTs types ts) = inst (putVa types) (utT ts) ∧ (headNd (putTs types ts)).s = (headNd ts).s ∧ (headNd (putTs types ts)).k ≠ 9 := by
  induction h with
  | mk x tss ok k9 tr ch row els tl ih =>
    intro hU
    have hnt : tOf tss = [] := by
      rcases tOf_one tss with e | ⟨t, e⟩
      · exact e
      · obtain ⟨n, _, ht⟩ := tl t (by rw [e]; simp)
        have hm : (⟨9, ByteArray.empty, n⟩ : Nd) ∈ tss.flatten := List.mem_flatten.2 ⟨t, (by rw [← lOf_tOf tss, e]; simp), by rw [ht]; simp⟩
        have := hU _ (List.mem_cons_of_mem _ hm)
        simp [toldN] at this
    have hl := lOf_eq hnt
    have htl : tlU tss = none := by unfold tlU; rw [hnt]; rfl
    rw [hl] at ih ch row
    by_cases h8 : x.k = 8
    · have hx := hU x (List.mem_cons_self ..)
      simp only [toldN, h8, Bool.and_eq_true, Bool.not_eq_true', beq_self_eq_true, Bool.true_and, decide_eq_false_iff_not] at hx
      have hnil : tss = [] := by
        have := tr.len
        have e : manyN x = 0 := by unfold manyN many isRowB; rw [h8]; rfl
        rw [e] at this
        exact List.eq_nil_of_length_eq_zero this
      subst hnil
      have h0 : 0 ≤ x.n := by
        have := ok
        rw [h8] at this
        unfold okNode at this
        simpa using this
      have hlt : x.n.toNat < types.length := by omega
      have hT := ht _ (List.getElem_mem hlt)
      have hget : types[x.n.toNat]?.getD [] = types[x.n.toNat] := by rw [List.getElem?_eq_getElem hlt]; rfl
      have e : putTs types (x :: [].flatten) = putN types x := by unfold putTs; simp
      rw [e]
      unfold putN
      rw [if_pos h8, hget]
      have hv : inst (putVa types) (utT (x :: ([] : List (List Nd)).flatten)) = utT types[x.n.toNat] := by
        rw [utT_cons tr, inst_eq, if_pos h8]
        show (if 0 ≤ (if x.k = 8 then x.n else 0) ∧ (if x.k = 8 then x.n else 0).toNat < types.length then utT (types[(if x.k = 8 then x.n else 0).toNat]?.getD []) else intT) = _
        rw [if_pos h8, if_pos ⟨h0, hlt⟩, hget]
      rw [hv]
      generalize types[x.n.toNat] = T at hT
      cases T with
      | nil => exact absurd rfl hT.ne
      | cons y ks =>
        obtain ⟨a, b⟩ := hT.relabel x.s
        refine ⟨a, b, rfl, ?_⟩
        exact (gd_k9 hT : (headNd (y :: ks)).k ≠ 9)
    · have hin : ∀ ts ∈ tss, ∀ y ∈ ts, toldN types.length y = true := fun ts hts y hy => hU y (List.mem_cons_of_mem _ (List.mem_flatten.2 ⟨ts, hts, hy⟩))
      have ih' := fun ts hts => ih ts hts (hin ts hts)
      have e : putTs types (x :: tss.flatten) = x :: (tss.map (putTs types)).flatten := by
        rw [putL_cons, putL_flatten]
        unfold putN
        rw [if_neg h8]
        rfl
      have hn9 : ∀ t ∈ tss.map (putTs types), (headNd t).k ≠ 9 := fun t ht => by
        obtain ⟨u, hu, rfl⟩ := List.mem_map.1 ht
        exact (ih' u hu).2.2.2
      obtain ⟨m1, m2⟩ := notail_lOf hn9
      have tr2 : Trees (manyN x) (tss.map (putTs types)).flatten (tss.map (putTs types)) := ⟨by rw [List.length_map]; exact tr.len, rfl, fun t ht => by
        obtain ⟨u, hu, rfl⟩ := List.mem_map.1 ht
        exact (ih' u hu).1.fo⟩
      have hlabs : labsT (tss.map (putTs types)) = labsT tss := by
        unfold labsT
        rw [List.map_map]
        exact List.map_congr_left fun u hu => (ih' u hu).2.2.1
      rw [e]
      refine ⟨.mk x _ ok k9 tr2 (fun t ht => ?_) (fun hr => by rw [m1, hlabs]; exact row hr) (fun hr => ⟨m2, by rw [hlabs]; exact (els hr).2⟩) (fun t ht => by rw [m2] at ht; cases ht), ?_, rfl, k9⟩
      · rw [m1] at ht
        obtain ⟨u, hu, rfl⟩ := List.mem_map.1 ht
        exact (ih' u hu).1
      · have w := gd_wf (GdT.mk x tss ok k9 tr (by rw [hl]; exact ch) (by rw [hl]; exact row) els tl)
        have e3 : tlU (tss.map (putTs types)) = none := by unfold tlU; rw [m2]; rfl
        rw [utT_cons tr, hl, htl] at w ⊢
        rw [wfT_mk] at w
        rw [utT_cons tr2, m1, e3, inst_eq, if_neg h8, if_neg h8]
        have e4 : (tss.map (putTs types)).map utT = (tss.map utT).map (inst (putVa types)) := by
          rw [List.map_map, List.map_map]
          exact List.map_congr_left fun u hu => (ih' u hu).2.1
        have e5 : ∀ (ls : List Lb) (us : List Ut), ls.zip (us.map (inst (putVa types))) = mapF (inst (putVa types)) (ls.zip us) := by
          intro ls
          induction ls with
          | nil => intro us; rfl
          | cons l ls ihl =>
            intro us
            cases us with
            | nil => rfl
            | cons u us => rw [List.map_cons, List.zip_cons_cons, List.zip_cons_cons, ihl, mapF_cons]
        have e6 : labsU x.k (tss.map (putTs types)) = labsU x.k tss := by unfold labsU; rw [hlabs]
        rw [e4, e6, e5]
        have hrise : Rise (mapF (inst (putVa types)) ((labsU x.k tss).zip (tss.map utT))) := by
          have := wf_rise w.1
          unfold Rise mapF at *
          rw [List.pairwise_map]
          exact this
        show _ = Ut.mk x.k 0 (srtF (mapF (inst (putVa types)) ((labsU x.k tss).zip (tss.map utT)) ++ [])) none
        rw [List.append_nil, srtF_of_rise hrise]
end Go.Proofs.Ytblfeokjlecgkaa

/- Plain types told behind a run; types that hold for all that is told. -/
namespace Go.Proofs.Ytblfeokjlecgkaa

theorem mays_good {U : List Lb} {next : Int} {l : List Stp} (hU : ∀ y ∈ labsM l, y ∈ U) (h : maysB next l = true) : ∀ x ∈ l, GoodS U next x := fun x hx => by
  obtain ⟨_, _, _, _, h4, _⟩ := mays_parts h
  obtain ⟨a, b⟩ := mem_labsM hx
  exact good_of_may (hU _ (by simp [labsM])) (hU _ (by simp [labsM])) (hU _ a) (fun e => ⟨fun y hy => hU _ ((b e).1 y hy), fun y hy => hU _ ((b e).2 y hy)⟩) (h4 x hx)
def plN (y : Nd) : Bool := !(y.k == 8) && !(y.k == 9)
theorem plN_told {m : Int} {y : Nd} (h : plN y = true) : toldN m y = true := by
  unfold plN at h
  simp only [Bool.and_eq_true, Bool.not_eq_true'] at h
  unfold toldN
  rw [h.1, h.2]
  rfl
theorem plain_told {U : List Lb} {t : List Nd} (hA : lA ∈ U) (hB : lB ∈ U) (hU : ∀ x ∈ t, x.s ∈ U) (hr : rightB t = true) (hp : ∀ x ∈ t, plN x = true) : Told U 0 (utT t) := told_of hA hB (gd_of hr).1 hU fun x hx => plN_told (hp x hx)
structure TypesOk (types : List (List Nd)) : Prop where
  gd : ∀ T ∈ types, GdT T
  pl : ∀ T ∈ types, ∀ x ∈ T, plN x = true
  st : ∀ T ∈ types, ∀ x ∈ T, x.k ≠ 0
  ln : ∀ T ∈ types, T.length ≤ 30
section
variable {types : List (List Nd)}
theorem putVa_at {n : Int} {T : List Nd} (h0 : 0 ≤ n) (hT : types[n.toNat]? = some T) : (putVa types).v n = utT T := by
  show (if 0 ≤ n ∧ n.toNat < types.length then utT (types[n.toNat]?.getD []) else intT) = _
  rw [if_pos ⟨h0, getq_lt hT⟩, hT]
  rfl
theorem putVa_cases (n : Int) : (putVa types).v n = intT ∨ ∃ T ∈ types, (putVa types).v n = utT T := by
  show (if 0 ≤ n ∧ n.toNat < types.length then utT (types[n.toNat]?.getD []) else intT) = intT ∨ _
  by_cases h : 0 ≤ n ∧ n.toNat < types.length
  · right
    obtain ⟨T, hT⟩ := getq_ex h.2
    exact ⟨T, List.mem_of_getElem? hT, putVa_at h.1 hT⟩
  · left; rw [if_neg h]
theorem putVa_st (h : TypesOk types) (n : Int) : stT ((putVa types).v n) ∧ riT ((putVa types).v n) := by
  rcases putVa_cases (types := types) n with e | ⟨T, hT, e⟩
  · rw [e]; exact intT_st
  · rw [e]; exact ⟨static_of (h.gd T hT) (h.st T hT), wf_ri _ (gd_wf (h.gd T hT))⟩
theorem putVa_fit (h : TypesOk types) (n : Int) : ndT ((putVa types).v n) ≤ 10000 ∧ dpT ((putVa types).v n) ≤ 100 := by
  rcases putVa_cases (types := types) n with e | ⟨T, hT, e⟩
  · rw [e]
    unfold intT
    rw [ndT_mk, dpT_mk, ndF_nil, dpF_nil]
    simp
  · rw [e]; exact fit_small (h.gd T hT) (by have := h.ln T hT; omega)
theorem put_plN (h : TypesOk types) {t : List Nd} (ht : ∀ x ∈ t, toldN types.length x = true) : ∀ y ∈ putTs types t, plN y = true := by
  intro y hy
  obtain ⟨l, hl, hy⟩ := List.mem_flatten.1 hy
  obtain ⟨x, hx, rfl⟩ := List.mem_map.1 hl
  unfold putN at hy
  split at hy
  · next h8 =>
    split at hy
    · simp at hy
    · next z ks e =>
      have hm : (z :: ks) ∈ types := by
        cases hq : types[x.n.toNat]? with
        | none => rw [hq] at e; simp at e
        | some T => rw [hq] at e; simp at e; rw [← e]; exact List.mem_of_getElem? hq
      have hp := h.pl _ hm
      rcases List.mem_cons.1 hy with rfl | hy
      · exact hp z (by simp)
      · exact hp y (by simp [hy])
  · next h8 =>
    simp at hy
    subst hy
    have := ht y hx
    unfold toldN at this
    simp only [Bool.and_eq_true, Bool.not_eq_true'] at this
    unfold plN
    rw [this.1]
    simp [h8]
theorem put_holds (h : TypesOk types) {a b : List Nd} (ga : GdT a) (gb : GdT b) (ta : ∀ x ∈ a, toldN types.length x = true) (tb : ∀ x ∈ b, toldN types.length x = true) : agG (putTs types a).length (putTs types a) (putTs types b) = true ↔ CoI (utT a) (utT b) (putVa types) := by
  obtain ⟨g1, e1, _, _⟩ := put_gd h.gd ga ta
  obtain ⟨g2, e2, _, _⟩ := put_gd h.gd gb tb
  have := agG_co (putTs types a).length _ _ g1 g2 (no_of g1 fun x hx => plN_told (put_plN h ta x hx)) (no_of g2 fun x hx => plN_told (put_plN h tb x hx)) (Nat.le_refl _)
  rw [this, e1, e2]
  rfl
end
end Go.Proofs.Ytblfeokjlecgkaa

/- Rows of types stand while a solver is written. -/
namespace Go.Proofs.Ytblfeokjlecgkaa
open Go.RowKit

structure OffR (w : World) (g : Nat) : Prop where
  cell : ∀ (o : Nat) (v : Value), w.cell? ⟨g, o, none⟩ = some v → (∀ l, v ≠ .string l) ∧ ∀ A n c, v ≠ .slice A n c
section
variable {X : Nat → Prop} {w w' : World}
theorem TyA.past {B : Nat} {A : Option Addr} {xs : List Nd} (h : TyA w B A xs) (hX : ∀ k, X k → OffR w k) (hf : Fr X w w') (hB : B ≤ w.heap.size) : TyA w' B A xs := by
  refine h.frame hf hB fun hne a ha hx => ?_
  cases xs with
  | nil => exact hne rfl
  | cons x xs =>
    obtain ⟨b1, o1, rfl, _, _, c1, _⟩ := h.at_ (i := 0) (x := x) rfl
    injection ha with ha
    subst ha
    exact ((hX b1 hx).cell _ _ c1).1 _ rfl
theorem ReadS.past {B : Nat} {V : Option Addr} {vs : List (Option Addr × Nat × Nat)} (h : ReadS w B V vs) (hX : ∀ k, X k → OffR w k) (hf : Fr X w w') (hB : B ≤ w.heap.size) : ReadS w' B V vs := fun hne => by
  obtain ⟨b, o, hA, hb, hr⟩ := h hne
  refine ⟨b, o, hA, hb, fun i x hx j u hu => ?_⟩
  refine (World.cell?_of_block (a := ⟨b, o + i * 1 + j, none⟩) (hf.block b (Nat.lt_of_lt_of_le hb hB) fun hx2 => ?_)).trans (hr i x hx j u hu)
  have hj : j = 0 := by have := getq_lt hu; rw [encS_len] at this; omega
  subst hj
  have h1 := hr i x hx 0 _ rfl
  exact ((hX b hx2).cell _ _ h1).2 _ _ _ rfl
theorem RowS.past {V : Option Addr} {vs : List (Option Addr × Nat × Nat)} {tss : List (List Nd)} (h : RowS V vs tss w) (hX : ∀ k, X k → OffR w k) (hf : Fr X w w') : RowS V vs tss w' :=
  ⟨(h.1.past hX hf (Nat.le_refl _)).more hf.size, ⟨h.2.1, fun i v xs hv hx => ⟨(h.2.2 i v xs hv hx).1, (((h.2.2 i v xs hv hx).2).past hX hf (Nat.le_refl _)).more hf.size⟩⟩⟩
end
def ToldI (U : List Lb) (s m m0 : Nat) (l : List Stp) (i : Nat) (wr : World) : Prop := ∃ S, RunB U (m0 : Int) (l.take i) S ∧ SolG U s m m0 wr S
theorem ToldI.next {U : List Lb} {s m m0 : Nat} {l : List Stp} {i : Nat} {x : Stp} {w : World} {e : Ending} {w' : World} (hx : l[i]? = some x) (h : DoPost U s m m0 (l.take i) x w e w') : ∃ v : Int, e = .returned (.int .i64 v) ∧ (v = 0 ∨ v = 9) ∧ Fr (SX s m) w w' ∧ (v = 0 → ToldI U s m m0 l (i + 1) w') ∧ (v = 9 → Bad (m0 : Int) (allC (l.take (i + 1)))) := by
  obtain ⟨ok, rfl, hf, hno, hyes⟩ := h
  have e1 : l.take i ++ [x] = l.take (i + 1) := by rw [List.take_add_one, hx]; rfl
  rw [e1] at hno hyes
  cases ok with
  | false => exact ⟨9, rfl, .inr rfl, hf, fun e => (by cases e), fun _ => hno rfl⟩
  | true => exact ⟨0, rfl, .inl rfl, hf, fun _ => hyes rfl, fun e => by cases e⟩
theorem Stps.more {w : World} {B B' : Nat} {vs : List StV} {xs : List Stp} (h : Stps w B vs xs) (hB : B ≤ B') : Stps w B' vs xs := ⟨h.1, fun i v x hv hx => by
  have h := h.2 i v x hv hx
  exact ⟨h.l, h.k, h.n, h.m, h.al, h.aa.more hB, h.ac, h.bl, h.ba.more hB, h.bc⟩⟩
end Go.Proofs.Ytblfeokjlecgkaa

/- The document's Fresh, walked. -/
namespace Go.Proofs.Ytblfeokjlecgkaa
open Go.RowKit

theorem flatMap_setS (v : ByteArray) (x : Nd) : ∀ (l : List Nd) (j : Nat), l[j]? = some x → (l.set j ⟨x.k, v, x.n⟩).flatMap encN = (l.flatMap encN).set (j * 3 + 1) (.string v)
  | [], j, h => by simp at h
  | y :: l, 0, h => by
    simp at h
    subst h
    rw [List.set_cons_zero, List.flatMap_cons, List.flatMap_cons]
    rfl
  | y :: l, j + 1, h => by
    rw [List.getElem?_cons_succ] at h
    rw [List.set_cons_succ, List.flatMap_cons, List.flatMap_cons, flatMap_setS v x l j h, List.set_append_right _ _ (by rw [encN_len]; omega), encN_len, show (j + 1) * 3 + 1 - 3 = j * 3 + 1 by omega]

theorem OwnL.setL {w : World} {base : Nat} {A : Option Addr} {cap : Nat} {l : List Nd} (h : OwnN w base A cap l) {j : Nat} {x : Nd} (hx : l[j]? = some x) (v : ByteArray) :
    ∃ g, A = some ⟨g, 0, none⟩ ∧ base ≤ g ∧ g < w.heap.size ∧ w.cell? ⟨g, j * 3 + 1, none⟩ = some (.string x.s) ∧ w.frozen? ⟨g, j * 3 + 1, none⟩ = false ∧
      OwnN (w.setCell ⟨g, j * 3 + 1, none⟩ (.string v)) base A cap (l.set j ⟨x.k, v, x.n⟩) ∧ w.grownBy (w.setCell ⟨g, j * 3 + 1, none⟩ (.string v)) (some g) := by
  obtain ⟨b, o, hA, hb, c0, c1, c2⟩ := (OwnL.tyA h).at_ hx
  have hc := c1
  have h' : w.ownsRow base 48 3 (.slice A l.length cap) l.length (l.flatMap encN) := h
  rcases h'.2 with ⟨hv, hn⟩ | ⟨g, cap', cur, hv, hbg, hg, hnc, hcm, hcs, htake⟩
  · injection hv with hA' hl hc'
    rw [hA'] at hA
    cases hA
  · injection hv with hA' hl hc'
    subst hA'
    injection hA with hA
    injection hA with hA1 hA2 hA3
    subst hA1
    rw [← hA2, Nat.zero_add] at hc
    obtain ⟨h2, h3⟩ := World.ownsRow.stored h' (j * 3 + 1) (.string v)
    refine ⟨g, rfl, hbg, hb, hc, World.ownsRow.frozenAt h' _, ?_, h3⟩
    show (w.setCell ⟨g, j * 3 + 1, none⟩ (.string v)).ownsRow base 48 3 (.slice (some ⟨g, 0, none⟩) (l.set j ⟨x.k, v, x.n⟩).length cap) (l.set j ⟨x.k, v, x.n⟩).length ((l.set j ⟨x.k, v, x.n⟩).flatMap encN)
    rw [List.length_set, flatMap_setS v x l j hx]
    exact h2

end Go.Proofs.Ytblfeokjlecgkaa

/- term.Ground, walked. -/
namespace Go.Proofs.Ytblfeokjlecgkaa
open Go.RowKit

structure GKids (w0 w : World) (B Bv : Nat) (V : Option Addr) (n : Nat) (vs : List (Option Addr × Nat × Nat)) (l : List (List Nd)) : Prop where
  ext : Below w0.heap.size w0 w
  r : ReadS w Bv V vs
  s : Sls w B vs l
  n : n = vs.length
  caps : ∀ q ∈ vs, q.2.1 ≤ q.2.2
  lo : w0.heap.size ≤ Bv
  hi : Bv ≤ w.heap.size

theorem GKids.step {w0 w w' : World} {B Bv : Nat} {V : Option Addr} {n : Nat} {vs : List (Option Addr × Nat × Nat)} {l : List (List Nd)} (h : GKids w0 w B Bv V n vs l) (hb : Below Bv w w') (hB : B ≤ w0.heap.size) : GKids w0 w' B Bv V n vs l :=
  ⟨h.ext.trans (hb.mono h.lo), ReadL.below h.r hb, sls_below h.s (hb.mono (Nat.le_trans hB h.lo)), h.n, h.caps, h.lo, Nat.le_trans h.hi hb.size⟩

end Go.Proofs.Ytblfeokjlecgkaa

/- The document's Ground, walked. -/
namespace Go.Proofs.Ytblfeokjlecgkaa
open Go.RowKit

inductive Mid : List Nd → Prop
  | node (x : Nd) (ks : List Nd) : (∀ t ∈ lOf (splitF (manyN x) ks), (headNd t).k ≠ 9) → (∀ t ∈ splitF (manyN x) ks, Mid t) → Mid (x :: ks)

theorem manyN_n {y : Nd} (ho : okNode y.k y.n = true) (hr : isRowB y.k = true) : (0 : Int) + (manyN y : Nat) = y.n := by
  obtain ⟨M, hM, _, hn⟩ := many_nat ho
  have : manyN y = M := by unfold manyN; rw [hM]; simp
  rw [this, hn hr]
  omega

theorem mid_rt {f : Nat} {x : Nd} {k : Int} {last : ByteArray} {d : Nat} {ks : List Nd} (h : RtF f x k last d ks) : ∀ t ∈ splitF d ks, Mid t := by
  induction h with
  | nil => intro t ht; simp [splitF] at ht
  | @cons f x k last d y ks rs ho hc h1 h2 i1 i2 =>
    intro t ht
    rw [splitF_cons h1.fo] at ht
    rcases List.mem_cons.1 ht with rfl | ht
    · exact .node y ks (rt_l9 h1 (fun hr => manyN_n ho hr)) i1
    · exact i2 t ht

theorem IsR.mid {T : List Nd} {y : Nd} {ks : List Nd} (h : IsR T y ks) : Mid T := by
  rw [h.eq]
  exact .node y ks (rt_l9 h.rt (fun hr => manyN_n h.ok hr)) (mid_rt h.rt)

end Go.Proofs.Ytblfeokjlecgkaa

/- Rows that grow side by side: a row of types and a row of labels, and what lies beside them. -/
namespace Go.Proofs.Ytblfeokjlecgkaa
open Go.RowKit







theorem encT_one (s : ByteArray) : ∀ u ∈ encT s, u.oneCell' = true := by
  intro u hu
  simp [encT] at hu
  subst hu
  rfl
theorem infoS : (Try.prog.info? 9).map (fun i => (i.zero, i.size, i.bytes)) = some (some (.string ByteArray.empty), 1, 16) := by kernel_rfl
abbrev OwnT (w : World) (base : Nat) (A : Option Addr) (cap : Nat) (l : List ByteArray) : Prop := OwnL 9 1 encT w base A cap l

theorem readT_new (w : World) (s : ByteArray) : ReadT (w.alloc (.cells #[.string s] 9)) (w.heap.size + 1) (some ⟨w.heap.size, 0, none⟩) [s] := fun _ => by
  refine ⟨w.heap.size, 0, rfl, by omega, fun i x hx j u hu => ?_⟩
  match i, hx with
  | 0, hx =>
    simp at hx
    subst hx
    match j, hu with
    | 0, hu => simp [encT] at hu; subst hu; simp
    | j + 1, hu => simp [encT] at hu
  | i + 1, hx => simp at hx

section
variable {w : World} {ops : Array Oper} {rest : List Oper} {o : Oper} {a : Act} {Q : Exit → Act → World → Prop}
theorem wpList_appT (hgd : o.guard = none) (s x : Operand)
    (ho : o.op = .call { callee := .builtin .append, args := #[s, x], argTypes := #[95, 95] })
    (base : Nat) {A : Option Addr} {cap : Nat} {l : List ByteArray} (hs : a.eval s = .slice A l.length cap) (hown : OwnT w base A cap l) {B : Nat} {A2 : Option Addr} {c : Nat} {l2 : List ByteArray} (hx : a.eval x = .slice A2 l2.length c) (hr : ReadT w B A2 l2)
    (hlen : l.length + l2.length ≤ 10000000) (hbase : base ≤ w.heap.size)
    (h : ∀ A' cap' w', OwnT w' base A' cap' (l ++ l2) → w.grownBy w' ((Value.slice A l.length cap).ownBlock) →
      ((Value.slice A' (l.length + l2.length) cap').ownBlock = (Value.slice A l.length cap).ownBlock ∨ (Value.slice A' (l.length + l2.length) cap').ownBlock = some w.heap.size) → wpList Try.prog ops Q rest (a.put o.dst (.slice A' (l.length + l2.length) cap')) w') : wpList Try.prog ops Q (o :: rest) a w := by
  obtain ⟨i0, hi, hz0, hz1, hz2⟩ := info_parts infoS
  exact wpList_app w encT_len encT_one hgd s x 95 ho base 9 i0 _ 16 Try.underlying95 hi hz0 hz1 hz2 rfl (by decide) hs hown hx hr (by unfold maxLen; omega) (by omega) hbase h
end

structure StQ (w0 : World) (A0 : Option Addr) (T : List Nd) (K : Option Addr) (ck : Nat) (kl : List Int) (V : Option Addr) (cv : Nat) (vs : List (Option Addr × Nat × Nat)) (ps : List (List Nd)) (L : Option Addr) (cl : Nat) (ls : List ByteArray) (w : World) : Prop where
  ext : Below w0.heap.size w0 w
  t : TyA w w0.heap.size A0 T
  k : OwnI w w0.heap.size K ck kl
  v : OwnS w w0.heap.size V cv vs
  l : OwnT w w0.heap.size L cl ls
  s : Sls w w.heap.size vs ps
  b : ∀ q ∈ vs, ∀ a, q.1 = some a → a.block < w.heap.size
  vl : Off V L
  vk : Off V K
  lk : Off L K
  ov : ∀ q ∈ vs, Off V q.1
  ol : ∀ q ∈ vs, Off L q.1

section
variable {w0 w w' : World} {A0 K V V' L L' Aq : Option Addr} {T P : List Nd} {ck cv cv' cl cl' cq n' : Nat} {kl : List Int} {vs : List (Option Addr × Nat × Nat)} {ps : List (List Nd)} {ls : List ByteArray} {s : ByteArray}

theorem StQ.step (h : StQ w0 A0 T K ck kl V cv vs ps L cl ls w) (hb : Below w.heap.size w w') : StQ w0 A0 T K ck kl V cv vs ps L cl ls w' where
  ext := ext_trans h.ext hb
  t := h.t.below (hb.mono h.ext.size)
  k := h.k.below hb (Nat.le_refl _)
  v := h.v.below hb (Nat.le_refl _)
  l := h.l.below hb (Nat.le_refl _)
  s := ⟨h.s.1, fun i q xs hq hx => ⟨(h.s.2 i q xs hq hx).1, ((h.s.2 i q xs hq hx).2.below hb).more hb.size⟩⟩
  b := fun q hq a ha => Nat.lt_of_lt_of_le (h.b q hq a ha) hb.size
  vl := h.vl
  vk := h.vk
  lk := h.lk
  ov := h.ov
  ol := h.ol

structure PartQ (w : World) (V L Aq : Option Addr) (P : List Nd) : Prop where
  t : TyA w w.heap.size Aq P
  ov : Off V Aq
  ol : Off L Aq
  b : ∀ a, Aq = some a → a.block < w.heap.size

theorem PartQ.step (h : PartQ w V L Aq P) (hb : Below w.heap.size w w') : PartQ w' V L Aq P :=
  ⟨(h.t.below hb).more hb.size, h.ov, h.ol, fun a ha => Nat.lt_of_lt_of_le (h.b a ha) hb.size⟩

theorem StQ.part (h : StQ w0 A0 T K ck kl V cv vs ps L cl ls w) (ho : OwnN w' w.heap.size Aq cq P) : PartQ w' V L Aq P :=
  ⟨OwnL.tyA ho, fun a b ha hb e => by have h1 := (OwnL.lt h.v a ha).2; have h2 := (OwnL.lt ho b hb).1; omega, fun a b ha hb e => by have h1 := (OwnL.lt h.l a ha).2; have h2 := (OwnL.lt ho b hb).1; omega, fun a ha => (OwnL.lt ho a ha).2⟩



theorem StQ.appV (h : StQ w0 A0 T K ck kl V cv vs ps L cl ls w) (hp : PartQ w V L Aq P) (hg : w.grownBy w' ((Value.slice V vs.length cv).ownBlock)) (ho : OwnS w' w0.heap.size V' cv' (vs ++ [(Aq, P.length, cq)]))
    (hA : (Value.slice V' n' cv').ownBlock = (Value.slice V vs.length cv).ownBlock ∨ (Value.slice V' n' cv').ownBlock = some w.heap.size) : StQ w0 A0 T K ck kl V' cv' (vs ++ [(Aq, P.length, cq)]) (ps ++ [P]) L cl ls w' where
  ext := ext_app h.ext hg fun k hk => (OwnL.block h.v k hk).1
  t := h.t.below (below_app hg h.ext.size fun a ha => (OwnL.lt h.v a ha).1)
  k := kept_off h.k hg h.vk
  v := ho
  l := kept_off h.l hg h.vl
  s := ⟨by simp [h.s.1], fun i q xs hq hx => by
    by_cases hi : i < vs.length
    · rw [List.getElem?_append_left hi] at hq
      rw [List.getElem?_append_left (by rw [← h.s.1]; exact hi)] at hx
      obtain ⟨h1, h2⟩ := h.s.2 i q xs hq hx
      exact ⟨h1, (h2.grown (Nat.le_refl _) hg (h.ov q (List.mem_of_getElem? hq))).more hg.size⟩
    · rw [List.getElem?_append_right (by omega)] at hq
      rw [List.getElem?_append_right (by rw [← h.s.1]; omega), ← h.s.1] at hx
      have hi0 : i - vs.length = 0 := by have := getq_lt hq; simpa using this
      rw [hi0] at hq hx
      simp at hq hx
      subst hq hx
      exact ⟨rfl, (hp.t.grown (Nat.le_refl _) hg hp.ov).more hg.size⟩⟩
  b := fun q hq a ha => by
    rcases List.mem_append.1 hq with hq | hq
    · exact Nat.lt_of_lt_of_le (h.b q hq a ha) hg.size
    · rw [List.mem_singleton.1 hq] at ha
      exact Nat.lt_of_lt_of_le (hp.b a ha) hg.size
  vl := h.vl.app hA fun x hx => (OwnL.lt h.l x hx).2
  vk := h.vk.app hA fun x hx => (OwnL.lt h.k x hx).2
  lk := h.lk
  ov := fun q hq => by
    rcases List.mem_append.1 hq with hq | hq
    · exact (h.ov q hq).app hA (h.b q hq)
    · rw [List.mem_singleton.1 hq]
      exact hp.ov.app hA hp.b
  ol := fun q hq => by
    rcases List.mem_append.1 hq with hq | hq
    · exact h.ol q hq
    · rw [List.mem_singleton.1 hq]
      exact hp.ol

theorem StQ.appL (h : StQ w0 A0 T K ck kl V cv vs ps L cl ls w) (hg : w.grownBy w' ((Value.slice L ls.length cl).ownBlock)) (ho : OwnT w' w0.heap.size L' cl' (ls ++ [s]))
    (hA : (Value.slice L' n' cl').ownBlock = (Value.slice L ls.length cl).ownBlock ∨ (Value.slice L' n' cl').ownBlock = some w.heap.size) : StQ w0 A0 T K ck kl V cv vs ps L' cl' (ls ++ [s]) w' where
  ext := ext_app h.ext hg fun k hk => (OwnL.block h.l k hk).1
  t := h.t.below (below_app hg h.ext.size fun a ha => (OwnL.lt h.l a ha).1)
  k := kept_off h.k hg h.lk
  v := kept_off h.v hg h.vl.symm
  l := ho
  s := ⟨h.s.1, fun i q xs hq hx => ⟨(h.s.2 i q xs hq hx).1, ((h.s.2 i q xs hq hx).2.grown (Nat.le_refl _) hg (h.ol q (List.mem_of_getElem? hq))).more hg.size⟩⟩
  b := fun q hq a ha => Nat.lt_of_lt_of_le (h.b q hq a ha) hg.size
  vl := (h.vl.symm.app hA fun x hx => (OwnL.lt h.v x hx).2).symm
  vk := h.vk
  lk := h.lk.app hA fun x hx => (OwnL.lt h.k x hx).2
  ov := h.ov
  ol := fun q hq => (h.ol q hq).app hA (h.b q hq)
end
end Go.Proofs.Ytblfeokjlecgkaa
