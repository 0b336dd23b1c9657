/- Laid together by a tool from the texts of this seat: Same Right KidsR RRight RightEq Print PEnd Concat Make Part PKids RowA Sort UniA UniB UniC Pure PureA PureP Trees Mem Off Figures PrintR Ask TKids CompactT Joined PutP Few Fresh CanonW UniD UniE UniF UniG UniH UniI UniJ UniK UniL UniM UniN Stps UniO UniP UniQ UniR UniS UniT UniU UMayT UMay KMap UNode UWalkA UMake UOf SymP SymC SymA SymB SymM SymG SymS URow UIn UDel UDelB UStatic UBec UShare UEnds URows UFits Vars VarsP RVars RCanon RKids UTell UFitsB UTree UReg UEndsB UEndsC UEndsD UAgree UEndsZ UAgr UKnown UniV UniW UniX UAlive UDo RowS UAll UMays UBes StQ R07. Conditions: each theorem's own. -/
import Derived.Test.YtblfeokjlecgkaaO01
import Derived.Test.YtblfeokjlecgkaaO02
import Derived.Test.YtblfeokjlecgkaaO03
import Derived.Test.YtblfeokjlecgkaaO04
import Derived.Test.YtblfeokjlecgkaaO05
import Derived.Test.YtblfeokjlecgkaaO06
import Derived.Test.YtblfeokjlecgkaaO07
import Derived.Test.YtblfeokjlecgkaaO08
import Derived.Test.YtblfeokjlecgkaaO09
import Derived.Test.YtblfeokjlecgkaaO10
import Derived.Test.YtblfeokjlecgkaaO11
import Derived.Test.YtblfeokjlecgkaaO12
import Derived.Test.YtblfeokjlecgkaaO13
import Derived.Test.YtblfeokjlecgkaaO14
import Derived.Test.YtblfeokjlecgkaaO15
import Derived.Test.YtblfeokjlecgkaaO16
import Derived.Test.YtblfeokjlecgkaaO17
import Derived.Test.YtblfeokjlecgkaaO18
import Derived.Test.YtblfeokjlecgkaaO19
import Derived.Test.YtblfeokjlecgkaaO20
import Derived.Test.YtblfeokjlecgkaaO21
import Derived.Test.YtblfeokjlecgkaaO22
import Derived.Test.YtblfeokjlecgkaaO23
import Derived.Test.YtblfeokjlecgkaaO24
import Derived.Test.YtblfeokjlecgkaaO25
import Derived.Test.YtblfeokjlecgkaaO26
import Derived.Test.YtblfeokjlecgkaaO27
import Derived.Test.YtblfeokjlecgkaaO28
import Derived.Test.YtblfeokjlecgkaaO29
import Derived.Test.YtblfeokjlecgkaaO30
import Derived.Test.YtblfeokjlecgkaaO31
import Derived.Test.YtblfeokjlecgkaaO32
import Derived.Test.YtblfeokjlecgkaaProg
import Derived.WalkKit
import Derived.WalkSpells
import Derived.WalkLawsBesides
import Derived.Deep.Draws
import Derived.Deep.QuietTactic
import Derived.BigQuiet
import Derived.Lib.Hide
import Derived.Laws.StructEq
import Derived.Lib.SliceRun
import Derived.Laws.EntriesVeiled
/- Nodes of types as data, slices of nodes as lists, and the small facts on worlds that all walks of this seat use. -/
namespace Go.Proofs.Ytblfeokjlecgkaa
open Go.RowKit

section
variable {w w' : World} {B B' : Nat} {A : Option Addr} {xs : List Nd} {b o : Nat}

end

end Go.Proofs.Ytblfeokjlecgkaa

/- The small functions on one node, each by its contract. -/
namespace Go.Proofs.Ytblfeokjlecgkaa
open Go.RowKit

end Go.Proofs.Ytblfeokjlecgkaa

/- Words and tags: what the program asks of a text's runes, and the document of its bytes. -/
namespace Go.Proofs.Ytblfeokjlecgkaa
open Go.RowKit

end Go.Proofs.Ytblfeokjlecgkaa

/- Words and tags as the document has them; labels. -/
namespace Go.Proofs.Ytblfeokjlecgkaa
open Go.RowKit

end Go.Proofs.Ytblfeokjlecgkaa

/- Functions that read slices of nodes, each by its contract. -/
namespace Go.Proofs.Ytblfeokjlecgkaa
open Go.RowKit

def plainB (xs : List Nd) : Bool := xs.all fun x => !isVarB x.k
def staticB (xs : List Nd) : Bool := xs.all fun x => !(x.k == 0)

set_option maxRecDepth 100000 in
set_option maxHeartbeats 1000000 in
theorem rPlain_any (A : Option Addr) (c Ba : Nat) (xs : List Nd) (w : World) (ha : TyA w Ba A xs) (hl : xs.length ≤ 9223372036854775807) :
    Calls Try.prog 49 #[.slice A xs.length c] w fun e w' => e = .returned (.bool (plainB xs)) ∧ w = w' := by
  go_enter Try.func49, Try.ntmps49
  go_wp2_with fail
  go_loop [3] (fun i => ∃ k : Nat, k ≤ xs.length ∧ i = .int .i64 k ∧ Hid (allFrom (fun x => !isVarB x.k) xs k = plainB xs)) (fun i => xs.length - (intOf i).toNat)
  case atStart => exact ⟨0, Nat.zero_le _, rfl, Lib.hid rfl⟩
  case round =>
    obtain ⟨k, hk, rfl, hgood⟩ := hrel
    by_cases hp : k < xs.length
    · obtain ⟨x, hx⟩ := getq_ex hp
      have hstep := Lib.hid (allFrom_step (p := fun x => !isVarB x.k) hx)
      obtain ⟨b1, o1, rfl, hb1, c10, c11, c12⟩ := ha.at_ hx
      clear hx
      by_cases h8 : x.k = 8
      · have h8b : (x.k == 8) = true := by simpa using h8
        have H8 := Lib.hid h8
        clear h8
        go_wp2_with fail
        go_ret
        exact ⟨ret_bool (by rw [← hgood.out, hstep.out]; simp [isVarB, H8.out]), rfl⟩
      · have h8b : (x.k == 8) = false := by simpa using h8
        by_cases h9 : x.k = 9
        · have h9b : (x.k == 9) = true := by simpa using h9
          have H9 := Lib.hid h9
          clear h9 h8
          go_wp2_with fail
          go_ret
          exact ⟨ret_bool (by rw [← hgood.out, hstep.out]; simp [isVarB, H9.out]), rfl⟩
        · have h9b : (x.k == 9) = false := by simpa using h9
          go_wp2_with fail
          go_round
          case rel => exact ⟨k + 1, hp, by go_num, Lib.hid (by rw [← hgood.out, hstep.out]; simp [isVarB, h8b, h9b])⟩
          case measure => simp [intOf]; omega
    · have hend := Lib.hid (allFrom_end (p := fun x => !isVarB x.k) hp)
      go_wp2_with fail
      go_ret
      exact ⟨ret_bool (by rw [← hgood.out, hend.out]), rfl⟩

set_option maxRecDepth 100000 in
set_option maxHeartbeats 1000000 in
theorem rStatic_any (A : Option Addr) (c Ba : Nat) (xs : List Nd) (w : World) (ha : TyA w Ba A xs) (hl : xs.length ≤ 9223372036854775807) :
    Calls Try.prog 27 #[.slice A xs.length c] w fun e w' => e = .returned (.bool (staticB xs)) ∧ w = w' := by
  go_enter Try.func27, Try.ntmps27
  go_wp2_with fail
  go_loop [3] (fun i => ∃ k : Nat, k ≤ xs.length ∧ i = .int .i64 k ∧ Hid (allFrom (fun x => !(x.k == 0)) xs k = staticB xs)) (fun i => xs.length - (intOf i).toNat)
  case atStart => exact ⟨0, Nat.zero_le _, rfl, Lib.hid rfl⟩
  case round =>
    obtain ⟨k, hk, rfl, hgood⟩ := hrel
    by_cases hp : k < xs.length
    · obtain ⟨x, hx⟩ := getq_ex hp
      have hstep := Lib.hid (allFrom_step (p := fun x => !(x.k == 0)) hx)
      obtain ⟨b1, o1, rfl, hb1, c10, c11, c12⟩ := ha.at_ hx
      clear hx
      cases h8 : (x.k == 0)
      all_goals
        have H8 := Lib.hid h8
        go_wp2_with fail
      · go_round
        case rel => exact ⟨k + 1, hp, by go_num, Lib.hid (by rw [← hgood.out, hstep.out, H8.out]; rfl)⟩
        case measure => simp [intOf]; omega
      · go_ret
        exact ⟨ret_bool (by rw [← hgood.out, hstep.out, H8.out]; rfl), rfl⟩
    · have hend := Lib.hid (allFrom_end (p := fun x => !(x.k == 0)) hp)
      go_wp2_with fail
      go_ret
      exact ⟨ret_bool (by rw [← hgood.out, hend.out]), rfl⟩
end Go.Proofs.Ytblfeokjlecgkaa

/- Whether two types are alike: the document's loop, and the program's by a function value. -/
namespace Go.Proofs.Ytblfeokjlecgkaa
open Go.RowKit

/-- A node without its site. -/
def Nd.bare (x : Nd) : Nd := if x.k = 0 then { x with n := 0 } else x

end Go.Proofs.Ytblfeokjlecgkaa

/- ty.Arrow, slices.Clone, ty.Part, and the document's. -/
namespace Go.Proofs.Ytblfeokjlecgkaa
open Go.RowKit

theorem own_one (w : World) (x : Nd) : OwnN (w.alloc (.cells #[.int .i64 x.k, .string x.s, .int .i64 x.n] 48)) w.heap.size (some ⟨w.heap.size, 0, none⟩) 1 [x] :=
  ⟨rfl, .inr ⟨w.heap.size, 1, _, rfl, Nat.le_refl _, heap_alloc_new w _, Nat.le_refl _, by simp [maxLen], rfl, rfl⟩⟩

end Go.Proofs.Ytblfeokjlecgkaa

/- ty.Part and the document's. -/
namespace Go.Proofs.Ytblfeokjlecgkaa
open Go.RowKit

/-- A row of nodes, its first one without a label. -/
def bareN : List Nd → List Nd
  | [] => []
  | x :: xs => x.name ByteArray.empty :: xs

set_option maxRecDepth 100000 in
set_option maxHeartbeats 2000000 in
theorem rPart_any (A : Option Addr) (c : Nat) (T ts rest : List Nd) (i : Nat) (w : World) (ha : TyA w w.heap.size A T) (hl : T.length ≤ 1000000) (hc : T.length ≤ c) (hd : T.drop i = ts ++ rest) (hok : okAll ts) (hokT : okAll T) (hf : Fo 1 ts) :
    Calls Try.prog 106 #[.slice A T.length c, .int .i64 (i : Int)] w (RetN w (bareN ts)) := by
  have hi : i < T.length := drop_lt hd hf.pos
  have hle : i + ts.length ≤ T.length := by
    have := congrArg List.length hd
    rw [List.length_drop, List.length_append] at this
    omega
  have hendr := Lib.hid (show endR T (i : Int) = ((i + ts.length : Nat) : Int) by rw [endR_nat hi, endGo_one hd hok hf])
  obtain ⟨x, ys, rfl⟩ : ∃ x ys, ts = x :: ys := by
    cases ts with
    | nil => exact absurd hf.nil_of (by omega)
    | cons x ys => exact ⟨x, ys, rfl⟩
  obtain ⟨b1, o1, rfl, hb1, c10, c11, c12⟩ := ha.at_ (getq_of_drop hd)
  have hpart := ha.part hd
  have HokT := Lib.hid hokT
  clear hd hok hf hokT
  have h0' : (0 : Int) ≤ (i : Int) := by omega
  have h1' : (i : Int) < (T.length : Int) := by omega
  have hd0 : decide ((i : Int) < 0) = false := by simp
  have hd1 : decide (T.length ≤ i) = false := by simp; omega
  have hown0 := own_empty 48 3 encN w
  have hb0 := ext_alloc (Below.refl w.heap.size w) (.cells #[] 48)
  simp only [List.length_cons] at hle hendr
  go_enter Try.func106, Try.ntmps106
  go_wp2_with fail
  refine (rEnd_any _ c T i _ ((ha.below hb0).more hb0.size) hl HokT.out).mono ?_
  rintro e w1 ⟨rfl, hb⟩
  rw [hendr.out]
  have hown1 := OwnL.below hown0 hb (Nat.le_refl _)
  have hbel1 := ext_trans hb0 hb
  have z1 := hbel1.size
  go_wp2_with (at_builtin; refine wpList_appN rfl (.tmp 14) (.tmp 20) rfl w.heap.size (l := []) rfl hown1 (l2 := x :: ys) (by show _ = Value.slice _ (ys.length + 1) _; rw [show i + (ys.length + 1) - i = ys.length + 1 by omega]; rfl) (hpart.below hbel1) (by simp; omega) z1 ?_; intro A2 cap2 w3 hown2 hg3 _; have hbel2 := ext_app hbel1 hg3 (fun k hk => (OwnL.block hown1 k hk).1); rw [List.nil_append] at hown2; obtain ⟨g, rfl, hbg, hg, hcell, hfz, hown3, hgr3⟩ := OwnL.setN hown2 (j := 0) (x := x) rfl ByteArray.empty; have hbel3 := ext_set (p := ⟨g, 0 * 3 + 1, none⟩) hbel2 (by simp; omega) (.string ByteArray.empty); simp only [Nat.zero_mul, Nat.zero_add] at hcell hfz hown3 hbel3)
  go_ret
  exact ⟨some ⟨g, 0, none⟩, cap2, by simp [bareN], hown3, hbel3⟩
end Go.Proofs.Ytblfeokjlecgkaa

/- ty.Row's parts: odd labels, the order of labels. -/
namespace Go.Proofs.Ytblfeokjlecgkaa
open Go.RowKit

def encT (s : ByteArray) : List Value := [.string s]
theorem encT_len (s : ByteArray) : (encT s).length = 1 := rfl
/-- A slice of strings. -/
abbrev ReadT (w : World) (B : Nat) (A : Option Addr) (l : List ByteArray) : Prop := ReadL 1 encT w B A l

theorem ReadL.str {w : World} {B : Nat} {A : Option Addr} {l : List ByteArray} (h : ReadT w B A l) {i : Nat} {s : ByteArray} (hn : l[i]? = some s) :
    ∃ b o, A = some ⟨b, o, none⟩ ∧ b < B ∧ w.cell? ⟨b, o + i, none⟩ = some (.string s) := by
  obtain ⟨b, o, rfl, hb, hc⟩ := h (by rintro rfl; simp at hn)
  have := hc i s hn 0 _ rfl
  rw [Nat.mul_one, Nat.add_zero] at this
  exact ⟨b, o, rfl, hb, this⟩

end Go.Proofs.Ytblfeokjlecgkaa

/- Types and functions' types (no program in sight). -/
namespace Go.Proofs.Ytblfeokjlecgkaa

theorem IsT.bare {T : List Nd} (h : IsT T) : bareN T = T := by
  obtain ⟨x, ys, rfl, hs, _⟩ := h.root
  unfold bareN Nd.name
  rw [← hs]

section
variable {a b : List Nd}

end

end Go.Proofs.Ytblfeokjlecgkaa

/- Rows in blocks of their own: what a write into one leaves of another. -/
namespace Go.Proofs.Ytblfeokjlecgkaa
open Go.RowKit

theorem below_app {w w' : World} {B n c : Nat} {A : Option Addr} (hg : w.grownBy w' ((Value.slice A n c).ownBlock)) (hB : B ≤ w.heap.size) (hA : ∀ a, A = some a → B ≤ a.block) : Below B w w' :=
  (Below.refl B w).grown hg hB fun k hk => by
    obtain ⟨a, ha, hab⟩ := ownBlock_of hk
    rw [← hab]
    exact hA a ha
end Go.Proofs.Ytblfeokjlecgkaa

/- Types and their trees: there and back. -/
namespace Go.Proofs.Ytblfeokjlecgkaa

theorem flF_zip : ∀ {rs : List (List Nd)}, (∀ t ∈ rs, flT (headNd t).s (utT t) = t.map Nd.bare) → flF ((labsT rs).zip (rs.map utT)) = rs.flatten.map Nd.bare
  | [], _ => by simp [labsT, flF_nil]
  | t :: rs, h => by
    rw [labsT_cons, List.map_cons, List.zip_cons_cons, flF_cons, flF_zip fun t' ht => h t' (List.mem_cons_of_mem _ ht), h t (by simp), List.flatten_cons, List.map_append]

/-- A type's tree, laid out, is the type, but for sites. -/
theorem gd_fl {ts : List Nd} (h : GdT ts) : flT (headNd ts).s (utT ts) = ts.map Nd.bare := by
  induction h with
  | mk x tss ok k9 tr ch row els tl ih =>
    rw [utT_cons tr, flT_mk]
    obtain ⟨t1, t2, t3⟩ := tailN_tlU tl
    have hx : (headNd (x :: tss.flatten)).s = x.s := rfl
    rw [hx, List.map_cons]
    rcases node_kinds ok k9 tr with ⟨h5, hn, a, b, rfl⟩ | ⟨hr, hn, hl, hu⟩ | ⟨h5, hr, rfl, h0, h8, hn0, hnn⟩
    · have hr : isRowB x.k = false := by rw [h5]; rfl
      obtain ⟨e, eb⟩ := els hr
      rw [if_neg (by rw [hr]; simp), lOf_eq e, if_neg (by omega)]
      rw [lOf_eq e] at ih
      have ea := ih a (by simp)
      have eb' := ih b (by simp)
      rw [eb (headNd a).s (by simp [labsT])] at ea
      rw [eb (headNd b).s (by simp [labsT])] at eb'
      have hl : labsU x.k [a, b] = [lA, lB] := by unfold labsU; rw [if_pos h5]
      rw [hl]
      simp only [List.map_cons, List.map_nil, List.zip_cons_cons, List.zip_nil_right, flE_cons, flE_nil, ea, eb', List.append_nil, List.flatten_cons, List.flatten_nil, List.map_append]
      congr 1
      unfold Nd.bare
      rw [if_neg (by omega)]
      rw [← hn]
    · rw [if_pos hr]
      have h67 : x.k = 6 ∨ x.k = 7 := by simpa [isRowB] using hr
      have hlu : labsU x.k (lOf tss) = labsT (lOf tss) := by unfold labsU; rw [if_neg (by omega)]
      have hfl : ((labsT (lOf tss)).zip ((lOf tss).map utT)).length = (lOf tss).length := by rw [List.length_zip, labsT_length, List.length_map, Nat.min_self]
      rw [hlu, hfl, t2, lt_len, flF_zip ih, t1]
      have e : tss.flatten = (lOf tss).flatten ++ (tOf tss).flatten := by rw [← List.flatten_append, lOf_tOf]
      have e2 : (tOf tss).flatten.map Nd.bare = (tOf tss).flatten := by
        rcases tOf_one tss with e | ⟨t, e⟩
        · rw [e]; rfl
        · obtain ⟨n, _, ht⟩ := tl t (by rw [e]; simp)
          rw [e, ht]; rfl
      rw [e, List.map_append, e2]
      congr 1
      unfold Nd.bare
      rw [if_neg (by omega), ← hn]
    · rw [if_neg (by rw [hr]; simp)]
      have e3 : (labsU x.k (lOf [])).zip ((lOf []).map utT) = [] := by simp [lOf, tailB]
      rw [e3, flE_nil]
      simp only [List.flatten_nil, List.map_nil]
      congr 1
      unfold Nd.bare
      obtain ⟨k, s, n⟩ := x
      simp only at *
      by_cases h8' : k = 8
      · rw [if_pos h8', if_neg (by omega)]
      · rw [if_neg h8']
        split
        · rfl
        · next h => rw [hn0 h8' h]
end Go.Proofs.Ytblfeokjlecgkaa

/- Plain types that agree, told by lists. -/
namespace Go.Proofs.Ytblfeokjlecgkaa

def kidsL : List Nd → List (List Nd)
  | [] => []
  | x :: ks => splitF (manyN x) ks
end Go.Proofs.Ytblfeokjlecgkaa

/- Plain types told; fresh variables. -/
namespace Go.Proofs.Ytblfeokjlecgkaa

theorem wf_ri : ∀ t, wfT t → riT t := by
  refine Ut.ind fun k n fs tl ih h => ?_
  rw [wfT_mk] at h
  rw [riT_mk]
  exact ⟨wf_rise h.1, fun p hp => ih p hp (h.2 p hp)⟩

/-! ### Fresh variables -/
/-- A step that some types allow: what is known then has them as an instance; the first variables are as large as they were, at most. -/
theorem step_fit {S S' : Kn} {C : Va → Prop} {m0 : Int} (hm : m0 ≤ S.m) (hL : ∀ x, x < m0 → S.L x = none) (s : Step S S' C) {τ : Va} (hτ : S.Sat τ) (hc : C τ) (hf : ∀ n, 0 ≤ n → n < m0 → ndT (τ.v n) ≤ 10000 ∧ dpT (τ.v n) ≤ 100) : fitK m0 S' := by
  obtain ⟨τ', ⟨h1, h2⟩, ha⟩ := s.gen τ hτ hc
  intro n h0 hn
  have hl : S'.L n = none := by rw [s.le.L n (by omega)]; exact hL n hn
  have := s.inv.gen τ' h1 h2 (varT n) (okT_var hl)
  rw [inst_var, inst_var, ← (ha n (by omega)).1] at this
  obtain ⟨a, b⟩ := inst_nd τ' (S'.σ.v n) S'.L (s.inv.wf.v n hl)
  rw [this] at a b
  have := hf n h0 hn
  omega

end Go.Proofs.Ytblfeokjlecgkaa

/- Open rows that were made to agree with one Var: what is known of it. -/
namespace Go.Proofs.Ytblfeokjlecgkaa

/-- Static, laid out. -/
theorem fl_static : ∀ t, stT t → ∀ s, ∀ x ∈ flT s t, x.k ≠ 0 := by
  refine Ut.ind fun k n fs tl ih h s => ?_
  rw [stT_mk] at h
  have hF : ∀ x ∈ flF fs, x.k ≠ 0 := by
    rw [flF_flat]
    intro x hx
    obtain ⟨l, hl, hx⟩ := List.mem_flatten.1 hx
    obtain ⟨p, hp, rfl⟩ := List.mem_map.1 hl
    exact ih p hp (h.2 p hp) p.1 x hx
  have hE : ∀ gs : Fl, (∀ p ∈ gs, p ∈ fs) → ∀ x ∈ flE gs, x.k ≠ 0 := by
    intro gs
    induction gs with
    | nil => intro _ x hx; rw [flE_nil] at hx; cases hx
    | cons p gs ihg =>
      intro hg x hx
      rw [flE_cons] at hx
      rcases List.mem_append.1 hx with hx | hx
      · exact ih p (hg p (by simp)) (h.2 p (hg p (by simp))) _ x hx
      · exact ihg (fun q hq => hg q (by simp [hq])) x hx
  rw [flT_mk]
  split
  · intro x hx
    rcases List.mem_cons.1 hx with rfl | hx
    · exact h.1
    · rcases List.mem_append.1 hx with hx | hx
      · exact hF x hx
      · cases tl with
        | none => cases hx
        | some p => simp only [tailN, List.mem_singleton] at hx; rw [hx]; show (9 : Int) ≠ 0; decide
  · intro x hx
    rcases List.mem_cons.1 hx with rfl | hx
    · exact h.1
    · exact hE fs (fun _ h => h) x hx

/-- Nodes without ?s: a static tree. -/
theorem static_of {ts : List Nd} (h : GdT ts) : (∀ x ∈ ts, x.k ≠ 0) → stT (utT ts) := by
  induction h with
  | mk x tss ok k9 tr ch row els tl ih =>
    intro hU
    rw [utT_cons tr, stT_mk]
    refine ⟨hU x (List.mem_cons_self ..), fun p hp => ?_⟩
    obtain ⟨t, ht, hpt⟩ := List.mem_map.1 (zip_mem hp)
    rw [← hpt]
    exact ih t ht fun y hy => hU y (List.mem_cons_of_mem _ (List.mem_flatten.2 ⟨t, lOf_mem ht, hy⟩))

theorem ndF_zip : ∀ {ls : List Lb} {us : List Ut}, ndF (ls.zip us) ≤ (us.map ndT).sum
  | [], us => by simp [ndF_nil]
  | l :: ls, [] => by simp [ndF_nil]
  | l :: ls, u :: us => by
    rw [List.zip_cons_cons, ndF_cons, List.map_cons, List.sum_cons]
    have := ndF_zip (ls := ls) (us := us)
    show ndT u + _ ≤ _
    omega
/-- A type is no larger than it has nodes. -/
theorem nd_of {ts : List Nd} (h : GdT ts) : ndT (utT ts) ≤ ts.length := by
  induction h with
  | mk x tss ok k9 tr ch row els tl ih =>
    have w := gd_wf (.mk x tss ok k9 tr ch row els tl)
    rw [utT_cons tr] at w ⊢
    rw [wfT_mk] at w
    rw [ndT_mk]
    have hl : ¬ 50 < ((labsU x.k (lOf tss)).zip ((lOf tss).map utT)).length := by
      have h5 := w.1.sh.2.2
      by_cases k5 : x.k = 5
      · obtain ⟨⟨a, b, e⟩, _⟩ := h5.1 k5
        rw [e]
        simp
      · cases hr : isRowB x.k with
        | true => have := w.1.len hr; omega
        | false =>
          obtain ⟨e, _⟩ := h5.2 k5 hr
          rw [e]
          simp
    rw [if_neg hl]
    have h1 : ndF ((labsU x.k (lOf tss)).zip ((lOf tss).map utT)) ≤ ((lOf tss).map List.length).sum := by
      refine Nat.le_trans ndF_zip ?_
      rw [List.map_map]
      exact sum_le (g := List.length) fun t ht => ih t ht
    have e : tss.flatten.length = ((lOf tss).map List.length).sum + ((tOf tss).map List.length).sum := by
      rw [← List.sum_append, ← List.map_append, lOf_tOf, List.length_flatten]
    simp only [List.length_cons]
    omega

/-- A tree that is not too large is no deeper than it is large. -/
theorem dp_nd : ∀ t, ndT t ≤ 10000 → dpT t ≤ ndT t := by
  refine Ut.ind fun k n fs tl ih h => ?_
  rw [ndT_mk] at h ⊢
  rw [dpT_mk]
  have h50 : ¬ 50 < fs.length := fun e => by rw [if_pos e] at h; omega
  rw [if_neg h50] at h ⊢
  have key : ∀ gs : Fl, (∀ p ∈ gs, p ∈ fs) → ndF gs ≤ 10000 → dpF gs ≤ ndF gs := by
    intro gs
    induction gs with
    | nil => intro _ _; rw [dpF_nil]; omega
    | cons p gs ihg =>
      intro hg hn
      rw [ndF_cons] at hn ⊢
      rw [dpF_cons]
      have := ih p (hg p (by simp)) (by omega)
      have := ihg (fun q hq => hg q (by simp [hq])) (by omega)
      omega
  have := key fs (fun _ h => h) (by omega)
  omega
theorem fit_small {ts : List Nd} (h : GdT ts) (hl : ts.length ≤ 100) : ndT (utT ts) ≤ 10000 ∧ dpT (utT ts) ≤ 100 := by
  have h1 := nd_of h
  have h2 := dp_nd (utT ts) (by omega)
  omega

/-- A plain static type, as it is known. -/
theorem fl_plain {ts : List Nd} (h : GdT ts) (hs : ∀ x ∈ ts, x.k ≠ 0) (he : (headNd ts).s = ByteArray.empty) : flT ByteArray.empty (utT ts) = ts := by
  have := gd_fl h
  rw [he] at this
  rw [this]
  have : ∀ x ∈ ts, Nd.bare x = x := fun x hx => by unfold Nd.bare; rw [if_neg (hs x hx)]
  exact (List.map_congr_left this).trans (List.map_id _)

/-! ### Two labels of one Var -/
/-- A row of labels, all of one type. -/
def rowL (k : Int) (ls : List Lb) : Ut := .mk k 0 (srtF (ls.map fun l => (l, intT))) none
theorem rowL_labs {ls : List Lb} (l : Lb) : l ∈ labsF (srtF (ls.map fun l => (l, intT))) ↔ l ∈ ls := by
  rw [mem_srt_labs]
  unfold labsF
  rw [List.map_map]
  simp
theorem rowL_mem {ls : List Lb} {p : Lb × Ut} (h : p ∈ srtF (ls.map fun l => (l, intT))) : p.2 = intT := by
  obtain ⟨l, _, rfl⟩ := List.mem_map.1 (srtF_mem.1 h)
  rfl
theorem rowL_nodup {ls : List Lb} (h : ls.Nodup) : (labsF (ls.map fun l => (l, intT))).Nodup := by
  unfold labsF
  rw [List.map_map]
  have : (Prod.fst ∘ fun l : Lb => (l, intT)) = id := rfl
  rw [this, List.map_id]
  exact h
theorem rowL_st {k : Int} {ls : List Lb} (hk : k ≠ 0) (h : ls.Nodup) : stT (rowL k ls) ∧ riT (rowL k ls) := by
  unfold rowL
  rw [stT_mk, riT_mk]
  exact ⟨⟨hk, fun p hp => by rw [rowL_mem hp]; exact intT_st.1⟩, srtF_rise (rowL_nodup h), fun p hp => by rw [rowL_mem hp]; exact intT_st.2⟩
theorem rowL_get {ls : List Lb} (h : ls.Nodup) {l : Lb} (hl : l ∈ ls) : getF l (srtF (ls.map fun l => (l, intT))) = some intT := by
  rw [getF_srt (rowL_nodup h)]
  exact getF_of_mem (rowL_nodup h) (List.mem_map.2 ⟨l, hl, rfl⟩)
theorem ndF_ints : ∀ {fs : Fl}, (∀ p ∈ fs, p.2 = intT) → ndF fs ≤ fs.length ∧ dpF fs ≤ 1
  | [], _ => by rw [ndF_nil, dpF_nil]; simp
  | p :: fs, h => by
    have h1 := h p (by simp)
    obtain ⟨h2, h3⟩ := ndF_ints fun q hq => h q (List.mem_cons_of_mem _ hq)
    rw [ndF_cons, dpF_cons, h1]
    unfold intT
    rw [ndT_mk, dpT_mk, ndF_nil, dpF_nil]
    simp
    omega
theorem rowL_fit {k : Int} {ls : List Lb} (h : ls.length ≤ 50) : ndT (rowL k ls) ≤ 10000 ∧ dpT (rowL k ls) ≤ 100 := by
  obtain ⟨h1, h2⟩ := ndF_ints fun p hp => rowL_mem (ls := ls) (p := p) hp
  have hl : (srtF (ls.map fun l => (l, intT))).length = ls.length := by rw [srtF_len, List.length_map]
  unfold rowL
  rw [ndT_mk, dpT_mk, if_neg (by omega)]
  omega

/-- What stands for the first Var, and its labels' Vars: with a static type that has both labels. -/
theorem opens_mid {U : List Lb} {S0 S1 : Kn} {k : Int} {l0 l1 : Lb} {u0 u1 : Int} {T : Ut} {F : Fl} {tl : Option Int} {x0 x1 : Ut} (hT : T = .mk k 0 F tl) (hs : stT T) (hr : riT T) (h0 : getF l0 F = some x0) (h1 : getF l1 F = some x1)
    (hz : ∀ τ : Va, (∀ n, stT (τ.v n) ∧ riT (τ.v n)) → ∃ τ', S0.Sat τ' ∧ ∀ x, x < S0.m → τ.v x = τ'.v x) (hu : u0 ≠ 0) (hu0 : u0 < S0.m) (hm : 0 < S0.m)
    (s1 : Step S0 S1 (Cst.opn k l0 0 u0).holds) (k1 : KG U S1) (hu1 : u1 = S1.m) : ∃ τ, (S1.up (S1.m + 1)).Sat τ ∧ (Cst.opn k l1 0 u1).holds τ ∧ τ.v 0 = T := by
  have hx0 := getF_mem h0
  have hx1 := getF_mem h1
  rw [hT, stT_mk] at hs
  rw [hT, riT_mk] at hr
  obtain ⟨τ0, t0, e0⟩ := hz ⟨fun n => if n = 0 then T else if n = u0 then x0 else intT, Va.id.t⟩ (fun n => by
    simp only
    split
    · rw [hT, stT_mk, riT_mk]; exact ⟨hs, hr⟩
    · split
      · exact ⟨hs.2 _ hx0, hr.2 _ hx0⟩
      · exact intT_st)
  have a0 : τ0.v 0 = T := by rw [← e0 0 hm]; simp
  have b0 : τ0.v u0 = x0 := by rw [← e0 u0 hu0]; simp [hu]
  obtain ⟨τ1, t1, e1⟩ := s1.gen τ0 t0 ⟨F, tl, by rw [a0, hT], by rw [b0]; exact h0⟩
  have hsz : S0.m ≤ S1.m := s1.le.m
  have t2 : (τ1.updV u1 x1).Ok S1.L := t1.1.updV (hs.2 _ hx1) (hr.2 _ hx1)
  have ha : Alike S1.m τ1 (τ1.updV u1 x1) := fun n hn => by
    refine ⟨?_, rfl⟩
    show _ = if n = u1 then x1 else τ1.v n
    rw [if_neg (by omega)]
  have t3 : (S1.up (S1.m + 1)).Sat (τ1.updV u1 x1) := ⟨t2, model_alike t1.2 ha fun v t hv => ⟨(k1.inv.dom v t hv).1, (k1.inv.dom v t hv).2.2.2⟩⟩
  have c0 : (τ1.updV u1 x1).v 0 = T := by rw [← (ha 0 (by omega)).1, ← (e1 0 hm).1, a0]
  exact ⟨_, t3, ⟨F, tl, by rw [c0, hT], by
    show getF l1 F = some (if u1 = u1 then x1 else τ1.v u1)
    rw [if_pos rfl]; exact h1⟩, c0⟩

theorem opens_more {U : List Lb} {S0 S1 S2 : Kn} {k : Int} {l0 l1 : Lb} {u0 u1 : Int} {T : Ut} {F : Fl} {tl : Option Int} {x0 x1 : Ut} (hT : T = .mk k 0 F tl) (hs : stT T) (hr : riT T) (h0 : getF l0 F = some x0) (h1 : getF l1 F = some x1)
    (hz : ∀ τ : Va, (∀ n, stT (τ.v n) ∧ riT (τ.v n)) → ∃ τ', S0.Sat τ' ∧ ∀ x, x < S0.m → τ.v x = τ'.v x) (hu : u0 ≠ 0) (hu0 : u0 < S0.m) (hm : 0 < S0.m)
    (s1 : Step S0 S1 (Cst.opn k l0 0 u0).holds) (k1 : KG U S1) (hu1 : u1 = S1.m) (s2 : Step (S1.up (S1.m + 1)) S2 (Cst.opn k l1 0 u1).holds) : ∃ τ, S2.Sat τ ∧ τ.v 0 = T := by
  obtain ⟨τ1, t1, c1, e1⟩ := opens_mid hT hs hr h0 h1 hz hu hu0 hm s1 k1 hu1
  obtain ⟨τ2, t2, e2⟩ := s2.gen _ t1 c1
  have hsz : S0.m ≤ S1.m := s1.le.m
  exact ⟨τ2, t2, by rw [← (e2 0 (by show (0 : Int) < S1.m + 1; omega)).1, e1]⟩

/-- Nothing is known: all is possible. -/
theorem zero_sat (m m' : Int) (τ : Va) (h : ∀ n, stT (τ.v n) ∧ riT (τ.v n)) : ((Kn.zero m).up m').Sat τ :=
  ⟨⟨fun n _ => h n, fun p ls hp => by cases hp⟩, fun v t hv => by cases hv⟩

theorem opens_first {k : Int} {l0 : Lb} {u0 m m' : Int} (hk : k ≠ 0) (hu : u0 ≠ 0) : ∃ τ, ((Kn.zero m).up m').Sat τ ∧ (Cst.opn k l0 0 u0).holds τ ∧ ndT (τ.v 0) ≤ 10000 ∧ dpT (τ.v 0) ≤ 100 := by
  obtain ⟨a, b⟩ := rowL_st hk (ls := [l0]) (List.nodup_cons.2 ⟨List.not_mem_nil, List.nodup_nil⟩)
  refine ⟨⟨fun n => if n = 0 then rowL k [l0] else intT, Va.id.t⟩, zero_sat m m' _ (fun n => ?_), ⟨_, _, (if_pos rfl : (if (0 : Int) = 0 then rowL k [l0] else intT) = rowL k [l0]), ?_⟩, ?_⟩
  · simp only
    split
    · exact ⟨a, b⟩
    · exact intT_st
  · have e : (if u0 = 0 then rowL k [l0] else intT) = intT := if_neg hu
    show _ = some (if u0 = 0 then rowL k [l0] else intT)
    rw [e]
    exact rowL_get (List.nodup_cons.2 ⟨List.not_mem_nil, List.nodup_nil⟩) (by simp)
  · exact rowL_fit (by simp)

/-- All of what stands for it has both labels. -/
theorem opens_has {U : List Lb} {S0 S1 S2 : Kn} {k : Int} {l0 l1 : Lb} {u0 u1 : Int} (_hu0 : u0 < S0.m) (hm : 0 < S0.m)
    (s1 : Step S0 S1 (Cst.opn k l0 0 u0).holds) (_k1 : KG U S1) (s2 : Step (S1.up (S1.m + 1)) S2 (Cst.opn k l1 0 u1).holds) {τ : Va} (hτ : S2.Sat τ) : ∃ R tl x0 x1, τ.v 0 = .mk k 0 R tl ∧ getF l0 R = some x0 ∧ getF l1 R = some x1 := by
  obtain ⟨R, tl, e1, e2⟩ := s2.co τ hτ
  obtain ⟨τ1, t1, a1⟩ := s2.le.sat τ hτ
  have t1' : S1.Sat τ1 := t1
  obtain ⟨R', tl', e3, e4⟩ := s1.co τ1 t1'
  have hsz : S0.m ≤ S1.m := s1.le.m
  have := (a1 0 (by show (0 : Int) < S1.m + 1; omega)).1
  rw [← this, e1] at e3
  injection e3 with _ _ e3 _
  exact ⟨R, tl, _, _, e1, by rw [e3]; exact e4, e2⟩

/-- How two labels are known: a row of two, that is open. -/
theorem opens_known {U : List Lb} {S0 S1 S2 : Kn} {k : Int} {l0 l1 : Lb} {u0 u1 : Int} (hk : isRowB k = true)
    (hz : ∀ τ : Va, (∀ n, stT (τ.v n) ∧ riT (τ.v n)) → ∃ τ', S0.Sat τ' ∧ ∀ x, x < S0.m → τ.v x = τ'.v x) (hu : u0 ≠ 0) (hu0 : u0 < S0.m) (hm : 0 < S0.m) (hL : S2.L 0 = none)
    (s1 : Step S0 S1 (Cst.opn k l0 0 u0).holds) (k1 : KG U S1) (hu1 : u1 = S1.m) (s2 : Step (S1.up (S1.m + 1)) S2 (Cst.opn k l1 0 u1).holds) (k2 : KG U S2) :
    ∃ (cs : List Nd) (q : Int), flT ByteArray.empty (S2.σ.v 0) = ⟨k, ByteArray.empty, (cs.length + 1 : Nat)⟩ :: (cs ++ [⟨9, ByteArray.empty, q⟩]) ∧ cs.length = (if l0 = l1 then 1 else 2) := by
  obtain ⟨k8, k0', _⟩ := isRow_k hk
  obtain ⟨R, tl, x0, x1, eσ, g0, g1⟩ := opens_has hu0 hm s1 k1 s2 k2.inv.sat
  have ok := k2.inv.wf.v 0 hL
  have sh := k2.sh.σ.v 0 hL
  have ri := (k2.inv.wf.ok.v 0 hL).2
  rw [eσ, okT_mk] at ok
  rw [eσ, shT_mk] at sh
  rw [eσ, riT_mk] at ri
  have key : ∀ ls : List Lb, ls.Nodup → l0 ∈ ls → l1 ∈ ls → ∃ τ : Va, τ.Ok S2.L ∧ inst τ (.mk k 0 R tl) = rowL k ls := fun ls hn i0 i1 => by
    obtain ⟨st, rr⟩ := rowL_st k0' hn
    obtain ⟨τ, ht, e⟩ := opens_more rfl st rr (rowL_get hn i0) (rowL_get hn i1) hz hu hu0 hm s1 k1 hu1 s2
    have := k2.inv.gen τ ht.1 ht.2 (varT 0) (okT_var hL)
    rw [inst_var, inst_var, e, eσ] at this
    exact ⟨τ, ht.1, this⟩
  have sub : ∀ ls : List Lb, ls.Nodup → l0 ∈ ls → l1 ∈ ls → ∀ p ∈ R, p.1 ∈ ls ∧ p.2.fs = [] ∧ isRowB p.2.k = false := fun ls hn i0 i1 p hp => by
    obtain ⟨τ, ht, e⟩ := key ls hn i0 i1
    rw [inst_eq, if_neg k8] at e
    unfold rowL at e
    injection e with _ _ e _
    have hm : (p.1, inst τ p.2) ∈ srtF (mapF (inst τ) R ++ (τ.tail tl).1) := srtF_mem.2 (List.mem_append_left _ (List.mem_map.2 ⟨p, hp, rfl⟩))
    rw [e] at hm
    refine ⟨(rowL_labs p.1).1 (List.mem_map.2 ⟨_, hm, rfl⟩), ?_⟩
    have e2 : inst τ p.2 = intT := rowL_mem hm
    have okc := ok.2 p hp
    generalize p.2 = z at okc e2 ⊢
    obtain ⟨kc, nc, fc, tc⟩ := z
    show fc = [] ∧ isRowB kc = false
    rw [okT_mk] at okc
    rw [inst_eq] at e2
    by_cases kc8 : kc = 8
    · exact ⟨(okc.1.2.1 (.inr kc8)).1, by rw [kc8]; rfl⟩
    · rw [if_neg kc8] at e2
      unfold intT at e2
      injection e2 with e1 _ e2 _
      refine ⟨?_, by rw [e1]; rfl⟩
      have hlen := congrArg List.length e2
      rw [srtF_len, List.length_append] at hlen
      unfold mapF at hlen
      rw [List.length_map] at hlen
      exact List.eq_nil_of_length_eq_zero (Nat.eq_zero_of_add_eq_zero_right hlen)
  -- the tail
  have htl : ∃ q, tl = some q := by
    cases tl with
    | some q => exact ⟨q, rfl⟩
    | none =>
      exfalso
      obtain ⟨lx, hx0, hx1⟩ : ∃ lx : Lb, lx ≠ l0 ∧ lx ≠ l1 := by
        have hsz : (⟨Array.replicate (l0.size + l1.size + 1) 0⟩ : Lb).size = l0.size + l1.size + 1 := Array.size_replicate
        generalize (⟨Array.replicate (l0.size + l1.size + 1) 0⟩ : Lb) = lx at hsz
        exact ⟨lx, fun e => (by rw [e] at hsz; omega), fun e => (by rw [e] at hsz; omega)⟩
      have hn2 : ∃ ls : List Lb, ls.Nodup ∧ ∀ l, l ∈ ls ↔ l = l0 ∨ l = l1 := by
        by_cases h : l0 = l1
        · exact ⟨[l0], by simp, fun l => by rw [h]; simp⟩
        · exact ⟨[l0, l1], by simp [h], fun l => by simp⟩
      obtain ⟨ls, hn, hls⟩ := hn2
      obtain ⟨τ, ht, e⟩ := key (lx :: ls) (List.nodup_cons.2 ⟨fun h => by rcases (hls lx).1 h with h | h <;> contradiction, hn⟩) (List.mem_cons_of_mem _ ((hls l0).2 (.inl rfl))) (List.mem_cons_of_mem _ ((hls l1).2 (.inr rfl)))
      rw [inst_eq, if_neg k8] at e
      unfold rowL at e
      injection e with _ _ e _
      have hi : lx ∈ labsF (srtF ((lx :: ls).map fun l => (l, intT))) := (rowL_labs lx).2 (by simp)
      rw [← e, mem_srt_labs] at hi
      have : lx ∈ labsF R := by
        have h2 : labsF (mapF (inst τ) R ++ (τ.tail none).1) = labsF R := by
          show labsF (mapF (inst τ) R ++ []) = _
          rw [List.append_nil, labsF_mapF]
        rw [h2] at hi
        exact hi
      obtain ⟨p, hp, hpe⟩ := List.mem_map.1 this
      have := (sub ls hn ((hls l0).2 (.inl rfl)) ((hls l1).2 (.inr rfl)) p hp).1
      rcases (hls p.1).1 this with h | h
      · exact hx0 (by rw [← hpe, h])
      · exact hx1 (by rw [← hpe, h])
  obtain ⟨q, rfl⟩ := htl
  have hlf : ∀ p ∈ R, p.2.fs = [] ∧ isRowB p.2.k = false := by
    by_cases h : l0 = l1
    · exact fun p hp => (sub [l0] (by simp) (by simp) (by simp [h]) p hp).2
    · exact fun p hp => (sub [l0, l1] (by simp [h]) (by simp) (by simp) p hp).2
  have hflen : ∀ gs : Fl, (∀ p ∈ gs, p.2.fs = [] ∧ isRowB p.2.k = false) → (flF gs).length = gs.length := by
    intro gs
    induction gs with
    | nil => intro _; rw [flF_nil]; rfl
    | cons p gs ih =>
      intro h1
      rw [flF_cons, List.length_append, ih fun q hq => h1 q (by simp [hq])]
      have a := h1 p (by simp)
      generalize p.2 = z at a ⊢
      obtain ⟨kc, nc, fc, tc⟩ := z
      have a1 : fc = [] := a.1
      have a2 : isRowB kc = false := a.2
      rw [flT_mk, a2, a1, if_neg (by decide), flE_nil]
      simp
      omega
  have hRlen : R.length = if l0 = l1 then 1 else 2 := by
    have hm0 : l0 ∈ labsF R := getF_lab g0
    have hm1 : l1 ∈ labsF R := getF_lab g1
    have hnd := ri.1.nodup
    have hl : (labsF R).length = R.length := List.length_map _
    by_cases h : l0 = l1
    · rw [if_pos h]
      have hs : ∀ l ∈ labsF R, l ∈ [l0] := fun l hl => by
        obtain ⟨p, hp, rfl⟩ := List.mem_map.1 hl
        exact (sub [l0] (by simp) (by simp) (by simp [h]) p hp).1
      have := nodup_len hnd hs
      have h2 := nodup_len (l := [l0]) (U := labsF R) (List.nodup_cons.2 ⟨List.not_mem_nil, List.nodup_nil⟩) (fun x hx => by rw [List.mem_singleton.1 hx]; exact hm0)
      have e1 : [l0].length = 1 := rfl
      omega
    · rw [if_neg h]
      have hs : ∀ l ∈ labsF R, l ∈ [l0, l1] := fun l hl => by
        obtain ⟨p, hp, rfl⟩ := List.mem_map.1 hl
        exact (sub [l0, l1] (by simp [h]) (by simp) (by simp) p hp).1
      have := nodup_len hnd hs
      have h2 := nodup_len (l := [l0, l1]) (U := labsF R) (List.nodup_cons.2 ⟨fun hx => h (List.mem_singleton.1 hx), List.nodup_cons.2 ⟨List.not_mem_nil, List.nodup_nil⟩⟩) (fun x hx => by
        rcases List.mem_cons.1 hx with e | e
        · rw [e]; exact hm0
        · rw [List.mem_singleton.1 e]; exact hm1)
      have e1 : [l0, l1].length = 2 := rfl
      omega
  refine ⟨flF R, q, ?_, by rw [hflen R hlf, hRlen]⟩
  rw [eσ, flT_mk, if_pos hk, hflen R hlf]
  rfl
end Go.Proofs.Ytblfeokjlecgkaa

/- unify.Known, Var and Open, walked. -/
namespace Go.Proofs.Ytblfeokjlecgkaa
open Go.RowKit

attribute [local go_sem ↓] Go.wp_at_zero Go.wp_at_succ

set_option maxRecDepth 100000 in
set_option maxHeartbeats 4000000 in
theorem uVar_any (s m : Nat) (first : Int) (S : Kn) (w : World) (hS : SolAt (SX s m) s m first w S) (h0 : 0 ≤ S.m) (h1 : S.m + 1 ≤ 9223372036854775807) :
    Calls Try.prog 34 #[pk s] w fun e w' => ∃ A' c', e = .returned (.slice A' 1 c') ∧ OwnN w' w.heap.size A' c' [⟨8, ByteArray.empty, S.m⟩] ∧ Fr (SX s m) w w' ∧ ∀ S' : Kn, S'.κ = S.κ → S'.m = S.m + 1 → SolAt (SX s m) s m first w' S' := by
  have hf := Lib.hid (ufresh_any s m first S.m 8 w hS.st (by omega) h1)
  have HS := Lib.hid hS
  clear hS
  unfold pk at hf ⊢
  go_enter Try.func34, Try.ntmps34
  go_wp2_with fail
  refine hf.out.mono ?_
  clear hf
  rintro e w1 ⟨b, rfl, hb, hb2, hs, hfr⟩
  have c1 : w1.cell? ⟨b, 1, none⟩ = some (.int .i64 S.m) := by simp [World.cell?, hb2, bareNode]
  have zb : b < w1.heap.size := (Array.getElem?_eq_some_iff.1 hb2).1
  have G := Lib.hid (And.intro hs hfr)
  clear hs hfr hb2
  go_wp2_with fail
  go_ret
  refine ⟨_, _, rfl, (own_one w1 ⟨8, ByteArray.empty, S.m⟩).lower G.out.2.size, ((G.out.2.mono fun k e => .inl e).alloc _), fun S' hκ hm => (HS.out.fresh G.out.1 G.out.2 hκ hm).bel (ext_alloc (Below.refl _ _) _)⟩

end Go.Proofs.Ytblfeokjlecgkaa

/- Plain types told behind a run; types that hold for all that is told. -/
namespace Go.Proofs.Ytblfeokjlecgkaa

/-- A plain node. -/
def plN (y : Nd) : Bool := !(y.k == 8) && !(y.k == 9)
theorem plN_told {m : Int} {y : Nd} (h : plN y = true) : toldN m y = true := by
  unfold plN at h
  simp only [Bool.and_eq_true, Bool.not_eq_true'] at h
  unfold toldN
  rw [h.1, h.2]
  rfl
theorem plain_told {U : List Lb} {t : List Nd} (hA : lA ∈ U) (hB : lB ∈ U) (hU : ∀ x ∈ t, x.s ∈ U) (hr : rightB t = true) (hp : ∀ x ∈ t, plN x = true) : Told U 0 (utT t) := told_of hA hB (gd_of hr).1 hU fun x hx => plN_told (hp x hx)
/-! ### Types for all variables -/
section
variable {types : List (List Nd)}
end
end Go.Proofs.Ytblfeokjlecgkaa

/- Rows of types stand while a solver is written. -/
namespace Go.Proofs.Ytblfeokjlecgkaa
open Go.RowKit

/-- A block in which no text and no slice lies. -/
structure OffR (w : World) (g : Nat) : Prop where
  cell : ∀ (o : Nat) (v : Value), w.cell? ⟨g, o, none⟩ = some v → (∀ l, v ≠ .string l) ∧ ∀ A n c, v ≠ .slice A n c
theorem solver_offR {w : World} {s m : Nat} {f n : Int} (h : w.heap[s]? = some (solverOf f n m)) : OffR w s := by
  refine ⟨fun o v hv => ?_⟩
  simp only [World.cell?, h, solverOf] at hv
  match o, hv with
  | 0, hv => simp at hv; subst hv; exact ⟨fun l e => (by cases e), fun A n c e => by cases e⟩
  | 1, hv => simp at hv; subst hv; exact ⟨fun l e => (by cases e), fun A n c e => by cases e⟩
  | 2, hv => simp at hv; subst hv; exact ⟨fun l e => (by cases e), fun A n c e => by cases e⟩
  | o + 3, hv => simp at hv
theorem map_offR {κ : Type} {kf : κ → Value} {w : World} {b : Nat} {l : List (κ × Value)} (h : KMap kf w b l) : OffR w b := by
  obtain ⟨es, ck, hm, _⟩ := h
  refine ⟨fun o v hv => ?_⟩
  have : w.cell? ⟨b, o, none⟩ = none := by simp [World.cell?, hm]
  rw [this] at hv
  cases hv
theorem SolG.offR {U : List Lb} {s m m0 : Nat} {w : World} {S : Kn} (h : SolG U s m m0 w S) : ∀ k, SX s m k → OffR w k := by
  rintro k (rfl | rfl)
  · exact solver_offR h.sol.st
  · obtain ⟨_, _, _, _, l, h5, _⟩ := h.sol
    exact map_offR h5
section
variable {X : Nat → Prop} {w w' : World}
theorem TyA.past {B : Nat} {A : Option Addr} {xs : List Nd} (h : TyA w B A xs) (hX : ∀ k, X k → OffR w k) (hf : Fr X w w') (hB : B ≤ w.heap.size) : TyA w' B A xs := by
  refine h.frame hf hB fun hne a ha hx => ?_
  cases xs with
  | nil => exact hne rfl
  | cons x xs =>
    obtain ⟨b1, o1, rfl, _, _, c1, _⟩ := h.at_ (i := 0) (x := x) rfl
    injection ha with ha
    subst ha
    exact ((hX b1 hx).cell _ _ c1).1 _ rfl
theorem ReadS.past {B : Nat} {V : Option Addr} {vs : List (Option Addr × Nat × Nat)} (h : ReadS w B V vs) (hX : ∀ k, X k → OffR w k) (hf : Fr X w w') (hB : B ≤ w.heap.size) : ReadS w' B V vs := fun hne => by
  obtain ⟨b, o, hA, hb, hr⟩ := h hne
  refine ⟨b, o, hA, hb, fun i x hx j u hu => ?_⟩
  refine (World.cell?_of_block (a := ⟨b, o + i * 1 + j, none⟩) (hf.block b (Nat.lt_of_lt_of_le hb hB) fun hx2 => ?_)).trans (hr i x hx j u hu)
  have hj : j = 0 := by have := getq_lt hu; rw [encS_len] at this; omega
  subst hj
  have h1 := hr i x hx 0 _ rfl
  exact ((hX b hx2).cell _ _ h1).2 _ _ _ rfl
theorem RowS.past {V : Option Addr} {vs : List (Option Addr × Nat × Nat)} {tss : List (List Nd)} (h : RowS V vs tss w) (hX : ∀ k, X k → OffR w k) (hf : Fr X w w') : RowS V vs tss w' :=
  ⟨(h.1.past hX hf (Nat.le_refl _)).more hf.size, ⟨h.2.1, fun i v xs hv hx => ⟨(h.2.2 i v xs hv hx).1, (((h.2.2 i v xs hv hx).2).past hX hf (Nat.le_refl _)).more hf.size⟩⟩⟩
end
/-- A law's steps that were told, all of them so far. -/
def ToldI (U : List Lb) (s m m0 : Nat) (l : List Stp) (i : Nat) (wr : World) : Prop := ∃ S, RunB U (m0 : Int) (l.take i) S ∧ SolG U s m m0 wr S
theorem ToldI.next {U : List Lb} {s m m0 : Nat} {l : List Stp} {i : Nat} {x : Stp} {w : World} {e : Ending} {w' : World} (hx : l[i]? = some x) (h : DoPost U s m m0 (l.take i) x w e w') : ∃ v : Int, e = .returned (.int .i64 v) ∧ (v = 0 ∨ v = 9) ∧ Fr (SX s m) w w' ∧ (v = 0 → ToldI U s m m0 l (i + 1) w') ∧ (v = 9 → Bad (m0 : Int) (allC (l.take (i + 1)))) := by
  obtain ⟨ok, rfl, hf, hno, hyes⟩ := h
  have e1 : l.take i ++ [x] = l.take (i + 1) := by rw [List.take_add_one, hx]; rfl
  rw [e1] at hno hyes
  cases ok with
  | false => exact ⟨9, rfl, .inr rfl, hf, fun e => (by cases e), fun _ => hno rfl⟩
  | true => exact ⟨0, rfl, .inl rfl, hf, fun _ => hyes rfl, fun e => by cases e⟩
theorem Stps.more {w : World} {B B' : Nat} {vs : List StV} {xs : List Stp} (h : Stps w B vs xs) (hB : B ≤ B') : Stps w B' vs xs := ⟨h.1, fun i v x hv hx => by
  have h := h.2 i v x hv hx
  exact ⟨h.l, h.k, h.n, h.m, h.al, h.aa.more hB, h.ac, h.bl, h.ba.more hB, h.bc⟩⟩
end Go.Proofs.Ytblfeokjlecgkaa

/- Rows that grow side by side: a row of types and a row of labels, and what lies beside them. -/
namespace Go.Proofs.Ytblfeokjlecgkaa
open Go.RowKit







theorem encT_one (s : ByteArray) : ∀ u ∈ encT s, u.oneCell' = true := by
  intro u hu
  simp [encT] at hu
  subst hu
  rfl
theorem infoS : (Try.prog.info? 9).map (fun i => (i.zero, i.size, i.bytes)) = some (some (.string ByteArray.empty), 1, 16) := by kernel_rfl
abbrev OwnT (w : World) (base : Nat) (A : Option Addr) (cap : Nat) (l : List ByteArray) : Prop := OwnL 9 1 encT w base A cap l

theorem readT_new (w : World) (s : ByteArray) : ReadT (w.alloc (.cells #[.string s] 9)) (w.heap.size + 1) (some ⟨w.heap.size, 0, none⟩) [s] := fun _ => by
  refine ⟨w.heap.size, 0, rfl, by omega, fun i x hx j u hu => ?_⟩
  match i, hx with
  | 0, hx =>
    simp at hx
    subst hx
    match j, hu with
    | 0, hu => simp [encT] at hu; subst hu; simp
    | j + 1, hu => simp [encT] at hu
  | i + 1, hx => simp at hx

section
variable {w : World} {ops : Array Oper} {rest : List Oper} {o : Oper} {a : Act} {Q : Exit → Act → World → Prop}
theorem wpList_appT (hgd : o.guard = none) (s x : Operand)
    (ho : o.op = .call { callee := .builtin .append, args := #[s, x], argTypes := #[95, 95] })
    (base : Nat) {A : Option Addr} {cap : Nat} {l : List ByteArray} (hs : a.eval s = .slice A l.length cap) (hown : OwnT w base A cap l) {B : Nat} {A2 : Option Addr} {c : Nat} {l2 : List ByteArray} (hx : a.eval x = .slice A2 l2.length c) (hr : ReadT w B A2 l2)
    (hlen : l.length + l2.length ≤ 10000000) (hbase : base ≤ w.heap.size)
    (h : ∀ A' cap' w', OwnT w' base A' cap' (l ++ l2) → w.grownBy w' ((Value.slice A l.length cap).ownBlock) →
      ((Value.slice A' (l.length + l2.length) cap').ownBlock = (Value.slice A l.length cap).ownBlock ∨ (Value.slice A' (l.length + l2.length) cap').ownBlock = some w.heap.size) → wpList Try.prog ops Q rest (a.put o.dst (.slice A' (l.length + l2.length) cap')) w') : wpList Try.prog ops Q (o :: rest) a w := by
  obtain ⟨i0, hi, hz0, hz1, hz2⟩ := info_parts infoS
  exact wpList_app w encT_len encT_one hgd s x 95 ho base 9 i0 _ 16 Try.underlying95 hi hz0 hz1 hz2 rfl (by decide) hs hown hx hr (by unfold maxLen; omega) (by omega) hbase h
end

/-- What stands while parts and labels are laid behind one another. -/
structure StQ (w0 : World) (A0 : Option Addr) (T : List Nd) (K : Option Addr) (ck : Nat) (kl : List Int) (V : Option Addr) (cv : Nat) (vs : List (Option Addr × Nat × Nat)) (ps : List (List Nd)) (L : Option Addr) (cl : Nat) (ls : List ByteArray) (w : World) : Prop where
  ext : Below w0.heap.size w0 w
  t : TyA w w0.heap.size A0 T
  k : OwnI w w0.heap.size K ck kl
  v : OwnS w w0.heap.size V cv vs
  l : OwnT w w0.heap.size L cl ls
  s : Sls w w.heap.size vs ps
  b : ∀ q ∈ vs, ∀ a, q.1 = some a → a.block < w.heap.size
  vl : Off V L
  vk : Off V K
  lk : Off L K
  ov : ∀ q ∈ vs, Off V q.1
  ol : ∀ q ∈ vs, Off L q.1

section
variable {w0 w w' : World} {A0 K V V' L L' Aq : Option Addr} {T P : List Nd} {ck cv cv' cl cl' cq n' : Nat} {kl : List Int} {vs : List (Option Addr × Nat × Nat)} {ps : List (List Nd)} {ls : List ByteArray} {s : ByteArray}

theorem StQ.step (h : StQ w0 A0 T K ck kl V cv vs ps L cl ls w) (hb : Below w.heap.size w w') : StQ w0 A0 T K ck kl V cv vs ps L cl ls w' where
  ext := ext_trans h.ext hb
  t := h.t.below (hb.mono h.ext.size)
  k := h.k.below hb (Nat.le_refl _)
  v := h.v.below hb (Nat.le_refl _)
  l := h.l.below hb (Nat.le_refl _)
  s := ⟨h.s.1, fun i q xs hq hx => ⟨(h.s.2 i q xs hq hx).1, ((h.s.2 i q xs hq hx).2.below hb).more hb.size⟩⟩
  b := fun q hq a ha => Nat.lt_of_lt_of_le (h.b q hq a ha) hb.size
  vl := h.vl
  vk := h.vk
  lk := h.lk
  ov := h.ov
  ol := h.ol

/-- A part that was just made. -/
structure PartQ (w : World) (V L Aq : Option Addr) (P : List Nd) : Prop where
  t : TyA w w.heap.size Aq P
  ov : Off V Aq
  ol : Off L Aq
  b : ∀ a, Aq = some a → a.block < w.heap.size

theorem PartQ.step (h : PartQ w V L Aq P) (hb : Below w.heap.size w w') : PartQ w' V L Aq P :=
  ⟨(h.t.below hb).more hb.size, h.ov, h.ol, fun a ha => Nat.lt_of_lt_of_le (h.b a ha) hb.size⟩

theorem StQ.part (h : StQ w0 A0 T K ck kl V cv vs ps L cl ls w) (ho : OwnN w' w.heap.size Aq cq P) : PartQ w' V L Aq P :=
  ⟨OwnL.tyA ho, fun a b ha hb e => by have h1 := (OwnL.lt h.v a ha).2; have h2 := (OwnL.lt ho b hb).1; omega, fun a b ha hb e => by have h1 := (OwnL.lt h.l a ha).2; have h2 := (OwnL.lt ho b hb).1; omega, fun a ha => (OwnL.lt ho a ha).2⟩



theorem StQ.appV (h : StQ w0 A0 T K ck kl V cv vs ps L cl ls w) (hp : PartQ w V L Aq P) (hg : w.grownBy w' ((Value.slice V vs.length cv).ownBlock)) (ho : OwnS w' w0.heap.size V' cv' (vs ++ [(Aq, P.length, cq)]))
    (hA : (Value.slice V' n' cv').ownBlock = (Value.slice V vs.length cv).ownBlock ∨ (Value.slice V' n' cv').ownBlock = some w.heap.size) : StQ w0 A0 T K ck kl V' cv' (vs ++ [(Aq, P.length, cq)]) (ps ++ [P]) L cl ls w' where
  ext := ext_app h.ext hg fun k hk => (OwnL.block h.v k hk).1
  t := h.t.below (below_app hg h.ext.size fun a ha => (OwnL.lt h.v a ha).1)
  k := kept_off h.k hg h.vk
  v := ho
  l := kept_off h.l hg h.vl
  s := ⟨by simp [h.s.1], fun i q xs hq hx => by
    by_cases hi : i < vs.length
    · rw [List.getElem?_append_left hi] at hq
      rw [List.getElem?_append_left (by rw [← h.s.1]; exact hi)] at hx
      obtain ⟨h1, h2⟩ := h.s.2 i q xs hq hx
      exact ⟨h1, (h2.grown (Nat.le_refl _) hg (h.ov q (List.mem_of_getElem? hq))).more hg.size⟩
    · rw [List.getElem?_append_right (by omega)] at hq
      rw [List.getElem?_append_right (by rw [← h.s.1]; omega), ← h.s.1] at hx
      have hi0 : i - vs.length = 0 := by have := getq_lt hq; simpa using this
      rw [hi0] at hq hx
      simp at hq hx
      subst hq hx
      exact ⟨rfl, (hp.t.grown (Nat.le_refl _) hg hp.ov).more hg.size⟩⟩
  b := fun q hq a ha => by
    rcases List.mem_append.1 hq with hq | hq
    · exact Nat.lt_of_lt_of_le (h.b q hq a ha) hg.size
    · rw [List.mem_singleton.1 hq] at ha
      exact Nat.lt_of_lt_of_le (hp.b a ha) hg.size
  vl := h.vl.app hA fun x hx => (OwnL.lt h.l x hx).2
  vk := h.vk.app hA fun x hx => (OwnL.lt h.k x hx).2
  lk := h.lk
  ov := fun q hq => by
    rcases List.mem_append.1 hq with hq | hq
    · exact (h.ov q hq).app hA (h.b q hq)
    · rw [List.mem_singleton.1 hq]
      exact hp.ov.app hA hp.b
  ol := fun q hq => by
    rcases List.mem_append.1 hq with hq | hq
    · exact h.ol q hq
    · rw [List.mem_singleton.1 hq]
      exact hp.ol

theorem StQ.appL (h : StQ w0 A0 T K ck kl V cv vs ps L cl ls w) (hg : w.grownBy w' ((Value.slice L ls.length cl).ownBlock)) (ho : OwnT w' w0.heap.size L' cl' (ls ++ [s]))
    (hA : (Value.slice L' n' cl').ownBlock = (Value.slice L ls.length cl).ownBlock ∨ (Value.slice L' n' cl').ownBlock = some w.heap.size) : StQ w0 A0 T K ck kl V cv vs ps L' cl' (ls ++ [s]) w' where
  ext := ext_app h.ext hg fun k hk => (OwnL.block h.l k hk).1
  t := h.t.below (below_app hg h.ext.size fun a ha => (OwnL.lt h.l a ha).1)
  k := kept_off h.k hg h.lk
  v := kept_off h.v hg h.vl.symm
  l := ho
  s := ⟨h.s.1, fun i q xs hq hx => ⟨(h.s.2 i q xs hq hx).1, ((h.s.2 i q xs hq hx).2.grown (Nat.le_refl _) hg (h.ol q (List.mem_of_getElem? hq))).more hg.size⟩⟩
  b := fun q hq a ha => Nat.lt_of_lt_of_le (h.b q hq a ha) hg.size
  vl := (h.vl.symm.app hA fun x hx => (OwnL.lt h.v x hx).2).symm
  vk := h.vk
  lk := h.lk.app hA fun x hx => (OwnL.lt h.k x hx).2
  ov := h.ov
  ol := fun q hq => (h.ol q hq).app hA (h.b q hq)
end
end Go.Proofs.Ytblfeokjlecgkaa

/- leavenref07: kids, alike, Agree, Plain, walked. -/
namespace Go.Proofs.Ytblfeokjlecgkaa
open Go.RowKit

theorem kidsL_fo {a t : List Nd} (ha : Fo 1 a) (h : t ∈ kidsL a) : Fo 1 t := by
  cases a with
  | nil => simp [kidsL] at h
  | cons x ks =>
    obtain ⟨k1, rs, e, h1, h2⟩ := ha.uncons
    rw [h2.of_zero, List.append_nil] at e
    subst e
    exact (trees_of h1).one t h
/-- A tree of nodes that a walk may take apart. -/
structure TrW (T : List Nd) : Prop where
  fo : Fo 1 T
  ok : okAll T
theorem TrW.kid {T t : List Nd} (h : TrW T) (ht : t ∈ kidsL T) : TrW t := by
  refine ⟨kidsL_fo h.fo ht, fun y hy => h.ok y ?_⟩
  cases T with
  | nil => simp [kidsL] at ht
  | cons x ks =>
    obtain ⟨k1, rs, e, h1, h2⟩ := h.fo.uncons
    rw [h2.of_zero, List.append_nil] at e
    subst e
    have := (trees_of h1).flat
    refine List.mem_cons_of_mem _ ?_
    rw [← this]
    exact List.mem_flatten.2 ⟨t, ht, hy⟩
theorem TrW.bare {T : List Nd} (h : TrW T) : TrW (bareN T) := by
  cases T with
  | nil => exact h
  | cons x ks => exact ⟨h.fo, fun y hy => by
      rcases List.mem_cons.1 hy with rfl | hy
      · exact h.ok x (by simp)
      · exact h.ok y (by simp [hy])⟩
theorem TrW.fifty {T : List Nd} (h : TrW T) : (kidsL T).length ≤ 50 := by
  cases T with
  | nil => exact Nat.zero_le _
  | cons x ks =>
    obtain ⟨k1, rs, e, h1, h2⟩ := h.fo.uncons
    rw [h2.of_zero, List.append_nil] at e
    subst e
    have := (trees_of h1).len
    show (splitF (manyN x) ks).length ≤ 50
    rw [this]
    exact manyN_le (h.ok x (by simp))
theorem GdT.trw {T : List Nd} (h : GdT T) : TrW T := ⟨h.fo1, h.okAll⟩
theorem kidsR_zero {x : Nd} {ks : List Nd} : kidsR (x :: ks) 0 = kidsGo (x :: ks) (manyN x) 1 := rfl

/-- What the document's 'kids' answers. -/
def Kids07 (T : List Nd) (w : World) (e : Ending) (w' : World) : Prop :=
  ∃ (V : Option Addr) (cv : Nat) (vs : List (Option Addr × Nat × Nat)) (L : Option Addr) (cl : Nat), e = .returned (.tuple #[.slice V vs.length cv, .slice L (kidsL T).length cl]) ∧ ReadS w' w'.heap.size V vs ∧ Sls w' w'.heap.size vs ((kidsL T).map bareN) ∧ ReadT w' w'.heap.size L (labsT (kidsL T)) ∧ (∀ v ∈ vs, v.2.1 ≤ v.2.2) ∧ Below w.heap.size w w'

set_option maxRecDepth 100000 in
set_option maxHeartbeats 4000000 in
theorem kids07_any (A : Option Addr) (c : Nat) (T : List Nd) (w : World) (ha : TyA w w.heap.size A T) (hT : TrW T) (hl : T.length ≤ 100000) (hc : T.length ≤ c) :
    Calls Try.prog 60 #[.slice A T.length c] w (Kids07 T w) := by
  obtain ⟨x, ks, rfl⟩ : ∃ x ks, T = x :: ks := by
    have := hT.fo.pos
    cases T with
    | nil => simp at this
    | cons x ks => exact ⟨x, ks, rfl⟩
  have htr : Trees (manyN x) ks (kidsL (x :: ks)) := by
    obtain ⟨k1, rs, e, h1, h2⟩ := hT.fo.uncons
    rw [h2.of_zero, List.append_nil] at e
    subst e
    exact trees_of h1
  have h50 : (kidsL (x :: ks)).length ≤ 50 := by rw [htr.len]; exact manyN_le (hT.ok x (by simp))
  obtain ⟨q1, q2⟩ := kidsGo_at (T := x :: ks) (kidsL (x :: ks)) 1 [] (by rw [htr.flat]; simp) fun z hz => ⟨kidsL_fo hT.fo hz, (hT.kid hz).ok⟩
  rw [htr.len] at q1 q2
  rw [← kidsR_zero] at q1 q2
  have hK := Lib.hid fun W (hW : Below w.heap.size w W) => rKids_any A c (x :: ks) 0 W ((ha.below hW).more hW.size) (by omega) hT.ok
  have HA := Lib.hid (And.intro ha hT)
  have HQ := Lib.hid (And.intro q1 (And.intro q2 htr.len))
  obtain ⟨b1, o1, rfl, hb1, _⟩ := ha (by simp)
  clear ha hT htr q1 q2
  obtain ⟨T, hTd⟩ : ∃ T, T = x :: ks := ⟨_, rfl⟩
  rw [← hTd] at HA HQ hK hl hc h50 ⊢
  have HTd := Lib.hid hTd
  clear hTd
  have hown0 := Lib.hid (own_empty 34 1 encS w)
  have hown1 := Lib.hid (own_empty 9 1 encT (w.alloc (.cells #[] 34)))
  have hbe := Lib.hid (ext_alloc (ext_alloc (Below.refl w.heap.size w) (.cells #[] 34)) (.cells #[] 9))
  go_enter Try.func60, Try.ntmps60
  go_wp2_with fail
  refine (hK.out _ hbe.out).mono ?_
  clear hK
  rintro e w1 ⟨K, ck, rfl, hok, hb⟩
  have hkl : (asI (kidsR T 0)).length = (kidsL T).length := by rw [asI, List.length_map, HQ.out.1, HQ.out.2.2]
  have S0 : Hid (StQ w (some ⟨b1, o1, none⟩) T K ck (asI (kidsR T 0)) (some ⟨w.heap.size, 0, none⟩) 0 [] [] (some ⟨w.heap.size + 1, 0, none⟩) 0 [] w1) := Lib.hid (by
    have h0 := OwnL.below (OwnL.alloc hown0.out (.cells #[] 9)) hb (by simp)
    have h1 := OwnL.below hown1.out hb (by simp)
    simp only [World.size_alloc] at h1 hok
    refine ⟨ext_trans hbe.out hb, HA.out.1.below (ext_trans hbe.out hb), hok.lower (by omega), h0, h1.lower (by omega), ⟨rfl, fun i q xs hq => by simp at hq⟩, fun q hq => (by cases hq), ?_, ?_, ?_, fun q hq => (by cases hq), fun q hq => (by cases hq)⟩
    · intro a b ha hb e; injection ha with ha; injection hb with hb; subst ha hb; simp at e
    · intro a b ha hb e; injection ha with ha; subst ha; have := (OwnL.lt hok b hb).1; have e : w.heap.size = b.block := e; omega
    · intro a b ha hb e; injection ha with ha; subst ha; have := (OwnL.lt hok b hb).1; have e : w.heap.size + 1 = b.block := e; omega)
  obtain ⟨kl, hkl0⟩ : ∃ kl, kl = asI (kidsR T 0) := ⟨_, rfl⟩
  rw [← hkl0] at hkl S0 ⊢
  have HKL := Lib.hid (fun (j p : Nat) (h : (kidsR T 0)[j]? = some p) => (show kl[j]? = some (p : Int) by rw [hkl0, asI, List.getElem?_map, h]; rfl))
  rw [hkl]
  clear hkl hkl0 hok hb hown0 hown1 hbe
  go_wp2_with fail
  go_loopw [4, 5, 7] (fun s4 s5 s7 wr => ∃ (k : Nat) (V : Option Addr) (cv : Nat) (vs : List (Option Addr × Nat × Nat)) (L : Option Addr) (cl : Nat) (ls : List ByteArray), s4 = .slice V vs.length cv ∧ s5 = .slice L ls.length cl ∧ s7 = .int .i64 k ∧ k ≤ (kidsL T).length ∧ Hid (vs.length = k ∧ ls = labsT ((kidsL T).take k) ∧ ls.length = k) ∧ Hid (StQ w (some ⟨b1, o1, none⟩) T K ck kl V cv vs (((kidsL T).take k).map bareN) L cl ls wr ∧ ∀ v ∈ vs, v.2.1 ≤ v.2.2)) (fun _ _ s7 _ => (kidsL T).length - (intOf s7).toNat)
  case atStart => exact ⟨0, _, 0, [], _, 0, [], rfl, rfl, rfl, Nat.zero_le _, Lib.hid ⟨rfl, rfl, rfl⟩, Lib.hid ⟨S0.out, fun v hv => by cases hv⟩⟩
  case round =>
    clear S0
    obtain ⟨k, V, cv, vs, L, cl, ls, rfl, rfl, rfl, hk, HL, M⟩ := hrel
    by_cases hp : k < (kidsL T).length
    · obtain ⟨ts, hts⟩ := getq_ex hp
      obtain ⟨p, r2, hkp, hdp⟩ := HQ.out.2.1 k ts hts
      have hmem := List.mem_of_getElem? hts
      have hkid := HA.out.2.kid hmem
      obtain ⟨bk, ok, rfl, hbk, hck⟩ := ReadL.int (OwnL.read encI_len M.out.1.k) (HKL.out k p hkp)
      have hsz := M.out.1.ext.size
      have hpart := Lib.hid (rPart_any (some ⟨b1, o1, none⟩) c T ts r2 p wr (M.out.1.t.more hsz) (by omega) hc hdp hkid.ok HA.out.2.ok hkid.fo)
      have hyp : T[p]? = some (headNd ts) := by
        have := congrArg (·[0]?) hdp
        simp only [List.getElem?_drop, Nat.add_zero] at this
        have hpos := hkid.fo.pos
        rw [this]
        cases ts with
        | nil => simp at hpos
        | cons y ys => rfl
      have Hyp := Lib.hid hyp
      have hpT := getq_lt hyp
      have hp0 : (0 : Int) ≤ (p : Int) := by omega
      have hp1 : (p : Int) < (T.length : Int) := by omega
      have Hts := Lib.hid hts
      have HKP := Lib.hid hkp
      have hvl : vs.length ≤ 100 := by have := HL.out.1; omega
      have hll : ls.length ≤ 100 := by have := HL.out.2.2; omega
      clear hts hkp hdp hmem hkid hyp
      go_wp2_with fail
      refine hpart.out.mono ?_
      clear hpart
      rintro e w5 ⟨Aq, cq, rfl, hoq, hbq⟩
      have hcap := Lib.hid (OwnL.le_cap hoq)
      have PQ := Lib.hid (M.out.1.part hoq)
      have S5 := Lib.hid (M.out.1.step hbq)
      obtain ⟨P, hP⟩ : ∃ P, P = bareN ts := ⟨_, rfl⟩
      rw [← hP] at PQ hcap ⊢
      have HP := Lib.hid hP
      have HV := Lib.hid M.out.2
      have HKp := Lib.hid (HKL.out k p HKP.out)
      have hbw5 : bk < w5.heap.size := Nat.lt_of_lt_of_le hbk hbq.size
      clear hoq hbq hP M hck
      go_wp2_with (first
        | (at_builtin; refine wpList_appS rfl (.tmp 18) (.tmp 25) rfl w.heap.size (l := vs) rfl (OwnL.alloc S5.out.v _) (l2 := [(Aq, P.length, cq)]) rfl (readS_new _ (Aq, P.length, cq)) (by simp; omega) (by have := S5.out.ext.size; simp; omega) ?_; intro V2 cv2 w8 hown8 hg8 hA8; have S6 := Lib.hid (StQ.appV (S5.out.step (ext_alloc (Below.refl _ _) _)) (PQ.out.step (ext_alloc (Below.refl _ _) _)) hg8 hown8 hA8); obtain ⟨bk6, ok6, eK, hbk6, hck6⟩ := ReadL.int (OwnL.read encI_len S6.out.k) HKp.out; injection eK with eK; injection eK with eK1 eK2 _; subst eK1 eK2; obtain ⟨hbT, c10, c11, c12⟩ := (S6.out.t.more S6.out.ext.size).cells Hyp.out; clear hown8 hg8 hA8)
        | (at_builtin; refine wpList_appT rfl (.tmp 27) (.tmp 36) rfl w.heap.size (l := ls) rfl (OwnL.alloc S6.out.l _) (l2 := [(headNd ts).s]) rfl (readT_new _ (headNd ts).s) (by simp; omega) (by have := S6.out.ext.size; simp; omega) ?_; intro L2 cl2 w9 hown9 hg9 hA9; have S7 := Lib.hid (StQ.appL (S6.out.step (ext_alloc (Below.refl _ _) _)) hg9 hown9 hA9); clear c10 c11 c12 hck6 hown9 hg9 hA9))
      go_roundw
      case rel =>
        refine ⟨k + 1, V2, cv2, vs ++ [(Aq, P.length, cq)], L2, cl2, ls ++ [(headNd ts).s], by simp, by simp, by go_num, hp, Lib.hid ⟨by simp [HL.out.1], ?_, by simp [HL.out.2.2]⟩, Lib.hid ⟨?_, fun v hv => ?_⟩⟩
        · rw [HL.out.2.1, List.take_add_one, Hts.out]; simp [labsT]
        · rw [List.take_add_one, Hts.out, List.map_append]
          have h := S7.out
          rw [HP.out] at h ⊢
          exact h
        · rcases List.mem_append.1 hv with hv | hv
          · exact HV.out v hv
          · rw [List.mem_singleton.1 hv]; exact hcap.out
      case measure => simp [intOf]; omega
    · have e1 : (kidsL T).take k = kidsL T := List.take_of_length_le (by omega)
      rw [e1] at HL M
      have hkk : Hid (ls.length = (kidsL T).length) := Lib.hid (by have := HL.out.2.2; omega)
      go_wp2_with fail
      go_ret2
      unfold Kids07
      rw [← hkk.out]
      refine ⟨V, cv, vs, L, cl, rfl, OwnL.read encS_len M.out.1.v, M.out.1.s, ?_, M.out.2, M.out.1.ext⟩
      rw [← HL.out.2.1]
      exact OwnL.read encT_len M.out.1.l

theorem str_ne {a b : ByteArray} (h : a ≠ b) : (a.toList != b.toList) = true := by
  rw [bne_iff_ne]
  intro e
  apply h
  rw [ByteArray.toList_eq, ByteArray.toList_eq] at e
  cases a; cases b
  simp only at e
  congr
  exact Array.toList_inj.1 e
theorem bel_drewN (w : World) (n : Nat) : Below w.heap.size w (w.drewN n) := ((Fr.refl (fun _ => False) w).drewN n).toBelow fun _ e => e.elim
/-! ### Agree -/
end Go.Proofs.Ytblfeokjlecgkaa
