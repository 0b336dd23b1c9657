/- Laid together by a tool from the texts of this seat: Same Right KidsR RRight RightEq Print PEnd Concat Make Part PKids RowA Sort UniA UniB UniC Pure PureA PureP Trees Mem Off Figures PrintR Ask TKids CompactT Joined PutP Few Fresh CanonW UniD UniE UniF UniG UniH UniI UniJ UniK UniL UniM UniN Stps UniO UniP UniQ UniR UniS UniT UniU UMayT UMay KMap UNode UWalkA UMake UOf SymP SymC SymA SymB SymM SymG SymS URow UIn UDel UDelB UStatic UBec UShare UEnds URows UFits Vars VarsP RVars RCanon RKids UTell UFitsB UTree UReg UEndsB UEndsC UEndsD UAgree UEndsZ UAgr UKnown UniV UniW UniX UAlive UDo RowS UAll UMays UBes StQ. Conditions: each theorem's own. -/
import Derived.Test.YtblfeokjlecgkaaO01
import Derived.Test.YtblfeokjlecgkaaO02
import Derived.Test.YtblfeokjlecgkaaO03
import Derived.Test.YtblfeokjlecgkaaO04
import Derived.Test.YtblfeokjlecgkaaO05
import Derived.Test.YtblfeokjlecgkaaO06
import Derived.Test.YtblfeokjlecgkaaO07
import Derived.Test.YtblfeokjlecgkaaO08
import Derived.Test.YtblfeokjlecgkaaO09
import Derived.Test.YtblfeokjlecgkaaO10
import Derived.Test.YtblfeokjlecgkaaO11
import Derived.Test.YtblfeokjlecgkaaO12
import Derived.Test.YtblfeokjlecgkaaO13
import Derived.Test.YtblfeokjlecgkaaO14
import Derived.Test.YtblfeokjlecgkaaO15
import Derived.Test.YtblfeokjlecgkaaO16
import Derived.Test.YtblfeokjlecgkaaO17
import Derived.Test.YtblfeokjlecgkaaO18
import Derived.Test.YtblfeokjlecgkaaO19
import Derived.Test.YtblfeokjlecgkaaO20
import Derived.Test.YtblfeokjlecgkaaO21
import Derived.Test.YtblfeokjlecgkaaO22
import Derived.Test.YtblfeokjlecgkaaO23
import Derived.Test.YtblfeokjlecgkaaO24
import Derived.Test.YtblfeokjlecgkaaO25
import Derived.Test.YtblfeokjlecgkaaO26
import Derived.Test.YtblfeokjlecgkaaO27
import Derived.Test.YtblfeokjlecgkaaO28
import Derived.Test.YtblfeokjlecgkaaO29
import Derived.Test.YtblfeokjlecgkaaO30
import Derived.Test.YtblfeokjlecgkaaO31
import Derived.Test.YtblfeokjlecgkaaO32
import Derived.Test.YtblfeokjlecgkaaProg
import Derived.WalkKit
import Derived.WalkSpells
import Derived.WalkLawsBesides
import Derived.Deep.Draws
import Derived.Deep.QuietTactic
import Derived.BigQuiet
import Derived.Lib.Hide
import Derived.Laws.StructEq
import Derived.Laws.EntriesVeiled
/- Nodes of types as data, slices of nodes as lists, and the small facts on worlds that all walks of this seat use. -/
namespace Go.Proofs.Ytblfeokjlecgkaa
open Go.RowKit

section
variable {w w' : World} {B B' : Nat} {A : Option Addr} {xs : List Nd} {b o : Nat}

end

end Go.Proofs.Ytblfeokjlecgkaa

/- The small functions on one node, each by its contract. -/
namespace Go.Proofs.Ytblfeokjlecgkaa
open Go.RowKit

end Go.Proofs.Ytblfeokjlecgkaa

/- Words and tags: what the program asks of a text's runes, and the document of its bytes. -/
namespace Go.Proofs.Ytblfeokjlecgkaa
open Go.RowKit

end Go.Proofs.Ytblfeokjlecgkaa

/- Words and tags as the document has them; labels. -/
namespace Go.Proofs.Ytblfeokjlecgkaa
open Go.RowKit

end Go.Proofs.Ytblfeokjlecgkaa

/- Functions that read slices of nodes, each by its contract. -/
namespace Go.Proofs.Ytblfeokjlecgkaa
open Go.RowKit

def plainB (xs : List Nd) : Bool := xs.all fun x => !isVarB x.k
set_option maxRecDepth 100000 in
set_option maxHeartbeats 1000000 in
theorem rPlain_any (A : Option Addr) (c Ba : Nat) (xs : List Nd) (w : World) (ha : TyA w Ba A xs) (hl : xs.length ≤ 9223372036854775807) :
    Calls Try.prog 49 #[.slice A xs.length c] w fun e w' => e = .returned (.bool (plainB xs)) ∧ w = w' := by
  go_enter Try.func49, Try.ntmps49
  go_wp2_with fail
  go_loop [3] (fun i => ∃ k : Nat, k ≤ xs.length ∧ i = .int .i64 k ∧ Hid (allFrom (fun x => !isVarB x.k) xs k = plainB xs)) (fun i => xs.length - (intOf i).toNat)
  case atStart => exact ⟨0, Nat.zero_le _, rfl, Lib.hid rfl⟩
  case round =>
    obtain ⟨k, hk, rfl, hgood⟩ := hrel
    by_cases hp : k < xs.length
    · obtain ⟨x, hx⟩ := getq_ex hp
      have hstep := Lib.hid (allFrom_step (p := fun x => !isVarB x.k) hx)
      obtain ⟨b1, o1, rfl, hb1, c10, c11, c12⟩ := ha.at_ hx
      clear hx
      by_cases h8 : x.k = 8
      · have h8b : (x.k == 8) = true := by simpa using h8
        have H8 := Lib.hid h8
        clear h8
        go_wp2_with fail
        go_ret
        exact ⟨ret_bool (by rw [← hgood.out, hstep.out]; simp [isVarB, H8.out]), rfl⟩
      · have h8b : (x.k == 8) = false := by simpa using h8
        by_cases h9 : x.k = 9
        · have h9b : (x.k == 9) = true := by simpa using h9
          have H9 := Lib.hid h9
          clear h9 h8
          go_wp2_with fail
          go_ret
          exact ⟨ret_bool (by rw [← hgood.out, hstep.out]; simp [isVarB, H9.out]), rfl⟩
        · have h9b : (x.k == 9) = false := by simpa using h9
          go_wp2_with fail
          go_round
          case rel => exact ⟨k + 1, hp, by go_num, Lib.hid (by rw [← hgood.out, hstep.out]; simp [isVarB, h8b, h9b])⟩
          case measure => simp [intOf]; omega
    · have hend := Lib.hid (allFrom_end (p := fun x => !isVarB x.k) hp)
      go_wp2_with fail
      go_ret
      exact ⟨ret_bool (by rw [← hgood.out, hend.out]), rfl⟩

end Go.Proofs.Ytblfeokjlecgkaa

/- Whether two types are alike: the document's loop, and the program's by a function value. -/
namespace Go.Proofs.Ytblfeokjlecgkaa
open Go.RowKit

/-- A node without its site. -/
def Nd.bare (x : Nd) : Nd := if x.k = 0 then { x with n := 0 } else x

end Go.Proofs.Ytblfeokjlecgkaa

/- ty.Part and the document's. -/
namespace Go.Proofs.Ytblfeokjlecgkaa
open Go.RowKit

/-- A row of nodes, its first one without a label. -/
def bareN : List Nd → List Nd
  | [] => []
  | x :: xs => x.name ByteArray.empty :: xs

theorem bareN_length (xs : List Nd) : (bareN xs).length = xs.length := by cases xs <;> rfl

set_option maxRecDepth 100000 in
set_option maxHeartbeats 2000000 in
theorem rPart_any (A : Option Addr) (c : Nat) (T ts rest : List Nd) (i : Nat) (w : World) (ha : TyA w w.heap.size A T) (hl : T.length ≤ 1000000) (hc : T.length ≤ c) (hd : T.drop i = ts ++ rest) (hok : okAll ts) (hokT : okAll T) (hf : Fo 1 ts) :
    Calls Try.prog 106 #[.slice A T.length c, .int .i64 (i : Int)] w (RetN w (bareN ts)) := by
  have hi : i < T.length := drop_lt hd hf.pos
  have hle : i + ts.length ≤ T.length := by
    have := congrArg List.length hd
    rw [List.length_drop, List.length_append] at this
    omega
  have hendr := Lib.hid (show endR T (i : Int) = ((i + ts.length : Nat) : Int) by rw [endR_nat hi, endGo_one hd hok hf])
  obtain ⟨x, ys, rfl⟩ : ∃ x ys, ts = x :: ys := by
    cases ts with
    | nil => exact absurd hf.nil_of (by omega)
    | cons x ys => exact ⟨x, ys, rfl⟩
  obtain ⟨b1, o1, rfl, hb1, c10, c11, c12⟩ := ha.at_ (getq_of_drop hd)
  have hpart := ha.part hd
  have HokT := Lib.hid hokT
  clear hd hok hf hokT
  have h0' : (0 : Int) ≤ (i : Int) := by omega
  have h1' : (i : Int) < (T.length : Int) := by omega
  have hd0 : decide ((i : Int) < 0) = false := by simp
  have hd1 : decide (T.length ≤ i) = false := by simp; omega
  have hown0 := own_empty 48 3 encN w
  have hb0 := ext_alloc (Below.refl w.heap.size w) (.cells #[] 48)
  simp only [List.length_cons] at hle hendr
  go_enter Try.func106, Try.ntmps106
  go_wp2_with fail
  refine (rEnd_any _ c T i _ ((ha.below hb0).more hb0.size) hl HokT.out).mono ?_
  rintro e w1 ⟨rfl, hb⟩
  rw [hendr.out]
  have hown1 := OwnL.below hown0 hb (Nat.le_refl _)
  have hbel1 := ext_trans hb0 hb
  have z1 := hbel1.size
  go_wp2_with (at_builtin; refine wpList_appN rfl (.tmp 14) (.tmp 20) rfl w.heap.size (l := []) rfl hown1 (l2 := x :: ys) (by show _ = Value.slice _ (ys.length + 1) _; rw [show i + (ys.length + 1) - i = ys.length + 1 by omega]; rfl) (hpart.below hbel1) (by simp; omega) z1 ?_; intro A2 cap2 w3 hown2 hg3 _; have hbel2 := ext_app hbel1 hg3 (fun k hk => (OwnL.block hown1 k hk).1); rw [List.nil_append] at hown2; obtain ⟨g, rfl, hbg, hg, hcell, hfz, hown3, hgr3⟩ := OwnL.setN hown2 (j := 0) (x := x) rfl ByteArray.empty; have hbel3 := ext_set (p := ⟨g, 0 * 3 + 1, none⟩) hbel2 (by simp; omega) (.string ByteArray.empty); simp only [Nat.zero_mul, Nat.zero_add] at hcell hfz hown3 hbel3)
  go_ret
  exact ⟨some ⟨g, 0, none⟩, cap2, by simp [bareN], hown3, hbel3⟩
end Go.Proofs.Ytblfeokjlecgkaa

/- ty.Row's parts: odd labels, the order of labels. -/
namespace Go.Proofs.Ytblfeokjlecgkaa
open Go.RowKit

def encT (s : ByteArray) : List Value := [.string s]
theorem encT_len (s : ByteArray) : (encT s).length = 1 := rfl
/-- A slice of strings. -/
abbrev ReadT (w : World) (B : Nat) (A : Option Addr) (l : List ByteArray) : Prop := ReadL 1 encT w B A l

theorem ReadL.str {w : World} {B : Nat} {A : Option Addr} {l : List ByteArray} (h : ReadT w B A l) {i : Nat} {s : ByteArray} (hn : l[i]? = some s) :
    ∃ b o, A = some ⟨b, o, none⟩ ∧ b < B ∧ w.cell? ⟨b, o + i, none⟩ = some (.string s) := by
  obtain ⟨b, o, rfl, hb, hc⟩ := h (by rintro rfl; simp at hn)
  have := hc i s hn 0 _ rfl
  rw [Nat.mul_one, Nat.add_zero] at this
  exact ⟨b, o, rfl, hb, this⟩

end Go.Proofs.Ytblfeokjlecgkaa

/- Types and functions' types (no program in sight). -/
namespace Go.Proofs.Ytblfeokjlecgkaa

theorem IsT.bare {T : List Nd} (h : IsT T) : bareN T = T := by
  obtain ⟨x, ys, rfl, hs, _⟩ := h.root
  unfold bareN Nd.name
  rw [← hs]

section
variable {a b : List Nd}

end

end Go.Proofs.Ytblfeokjlecgkaa

/- Rows in blocks of their own: what a write into one leaves of another. -/
namespace Go.Proofs.Ytblfeokjlecgkaa
open Go.RowKit

theorem below_app {w w' : World} {B n c : Nat} {A : Option Addr} (hg : w.grownBy w' ((Value.slice A n c).ownBlock)) (hB : B ≤ w.heap.size) (hA : ∀ a, A = some a → B ≤ a.block) : Below B w w' :=
  (Below.refl B w).grown hg hB fun k hk => by
    obtain ⟨a, ha, hab⟩ := ownBlock_of hk
    rw [← hab]
    exact hA a ha
end Go.Proofs.Ytblfeokjlecgkaa

/- Plain types that agree, told by lists. -/
namespace Go.Proofs.Ytblfeokjlecgkaa

def kidsL : List Nd → List (List Nd)
  | [] => []
  | x :: ks => splitF (manyN x) ks
/-- Whether two types agree, as the document says. -/
def agG : Nat → List Nd → List Nd → Bool
  | 0, _, _ => false
  | f + 1, a, b => if (headNd a).k = 0 ∨ (headNd b).k = 0 then true else if (headNd a).k ≠ (headNd b).k then false else
      decide (labsT (kidsL a) = labsT (kidsL b)) && ((kidsL a).zip (kidsL b)).all fun p => agG f p.1 p.2

theorem kidsL_cons {x : Nd} {tss : List (List Nd)} (tr : Trees (manyN x) tss.flatten tss) : kidsL (x :: tss.flatten) = tss := tr.uniq.symm

/-- Rows of labels that rise are told by what is in them. -/
theorem sorted_labs : ∀ {a b : List Lb}, (a.Pairwise fun x y => ltB x y = true) → (b.Pairwise fun x y => ltB x y = true) → (∀ l, l ∈ a ↔ l ∈ b) → a = b
  | [], [], _, _, _ => rfl
  | [], y :: b, _, _, h => absurd ((h y).2 (by simp)) (by simp)
  | x :: a, [], _, _, h => absurd ((h x).1 (by simp)) (by simp)
  | x :: a, y :: b, ha, hb, h => by
    rw [List.pairwise_cons] at ha hb
    have e : x = y := by
      rcases List.mem_cons.1 ((h x).1 (by simp)) with e | e
      · exact e
      · rcases List.mem_cons.1 ((h y).2 (by simp)) with e' | e'
        · exact e'.symm
        · have h1 := hb.1 x e
          have h2 := ha.1 y e'
          rw [ltB_asym h1] at h2
          cases h2
    subst e
    have hx : ∀ {c : List Lb}, (∀ l ∈ c, ltB x l = true) → x ∉ c := fun hc hm => by
      have := hc x hm
      rw [ltB_irrefl] at this
      cases this
    rw [sorted_labs ha.2 hb.2 fun l => ?_]
    have := h l
    simp only [List.mem_cons] at this
    constructor
    · intro hl
      rcases this.1 (.inr hl) with e | e
      · rw [e] at hl; exact absurd hl (hx ha.1)
      · exact e
    · intro hl
      rcases this.2 (.inr hl) with e | e
      · rw [e] at hl; exact absurd hl (hx hb.1)
      · exact e

theorem agG_co : ∀ (f : Nat) (a b : List Nd), GdT a → GdT b → noTl 0 (utT a) → noTl 0 (utT b) → a.length ≤ f → (agG f a b = true ↔ Co (utT a) (utT b)) := by
  intro f
  induction f with
  | zero =>
    intro a b ga _ _ _ hl
    exact absurd (List.eq_nil_of_length_eq_zero (Nat.le_zero.1 hl)) ga.ne
  | succ f ih =>
    intro a b ga gb na nb hl
    have wa := gd_wf ga
    have wb := gd_wf gb
    cases ga with
    | mk x tss ok k9 tr ch row els tl =>
    cases gb with
    | mk y uss ok' k9' tr' ch' row' els' tl' =>
    have ea := utT_cons tr
    have eb := utT_cons tr'
    have hx : headNd (x :: tss.flatten) = x := rfl
    have hy : headNd (y :: uss.flatten) = y := rfl
    have x8 := noTl_k8 na wa
    have y8 := noTl_k8 nb wb
    rw [ea] at x8 na
    rw [eb] at y8 nb
    rw [noTl_mk] at na nb
    have x8 : x.k ≠ 8 := x8
    have y8 : y.k ≠ 8 := y8
    have hto : ∀ {l : List (List Nd)}, tlU l = none → tOf l = [] := fun {l} h => by
      unfold tlU at h
      rcases tOf_one l with e | ⟨t, e⟩
      · exact e
      · rw [e] at h; simp at h
    have e1 := lOf_eq (hto na.2.1)
    have e2 := lOf_eq (hto nb.2.1)
    have t1 := na.2.1
    have t2 := nb.2.1
    rw [ea, eb, e1, e2, t1, t2, if_neg x8, if_neg y8]
    unfold agG
    rw [hx, hy, kidsL_cons tr, kidsL_cons tr']
    by_cases h0 : x.k = 0 ∨ y.k = 0
    · rw [if_pos h0]
      refine ⟨fun _ => ?_, fun _ => rfl⟩
      rcases h0 with h | h
      · rw [h]; exact .dl _ _ _ _
      · rw [h]; exact .dr _ _ _ _
    · rw [if_neg h0]
      by_cases hk : x.k = y.k
      · rw [if_neg (by simpa using hk)]
        have hk0 : x.k ≠ 0 := fun e => h0 (.inl e)
        have zl : (labsU x.k tss).length = (tss.map utT).length := by
          rcases node_kinds ok k9 tr with ⟨h5, _, a, b, rfl⟩ | ⟨hr, _⟩ | ⟨h5, _, rfl, _⟩
          · unfold labsU; rw [if_pos h5]; rfl
          · unfold labsU; rw [if_neg (by intro e; rw [e] at hr; cases hr), labsT_length, List.length_map]
          · unfold labsU; rw [if_neg h5]; rfl
        have zm : (labsU y.k uss).length = (uss.map utT).length := by
          rcases node_kinds ok' k9' tr' with ⟨h5, _, a, b, rfl⟩ | ⟨hr, _⟩ | ⟨h5, _, rfl, _⟩
          · unfold labsU; rw [if_pos h5]; rfl
          · unfold labsU; rw [if_neg (by intro e; rw [e] at hr; cases hr), labsT_length, List.length_map]
          · unfold labsU; rw [if_neg h5]; rfl
        have hn : (labsU x.k tss).Nodup := by
          rw [utT_cons tr, wfT_mk] at wa
          have := wa.1.nd
          rw [e1, labsF_zip zl] at this
          exact this
        have hIH : labsU x.k tss = labsU y.k uss → ((∀ p ∈ (tss.map utT).zip (uss.map utT), Co p.1 p.2) ↔ ((tss.zip uss).all fun p => agG f p.1 p.2) = true) := fun _ => by
          rw [List.all_eq_true, List.zip_map]
          have key : ∀ p ∈ tss.zip uss, agG f p.1 p.2 = true ↔ Co (utT p.1) (utT p.2) := fun p hp => by
            have hpa := (List.of_mem_zip hp).1
            have hpb := (List.of_mem_zip hp).2
            refine ih p.1 p.2 (ch _ (by rw [e1]; exact hpa)) (ch' _ (by rw [e2]; exact hpb)) ?_ ?_ ?_
            · obtain ⟨i, hi⟩ := List.getElem?_of_mem hpa
              have hlt := (List.getElem?_eq_some_iff.1 hi).1
              have h1 := List.getElem?_eq_getElem (l := labsU x.k tss) (i := i) (by rw [zl, List.length_map]; exact hlt)
              exact na.2.2 (_, utT p.1) (by rw [e1]; exact List.mem_of_getElem? (i := i) (by rw [List.getElem?_zip_eq_some]; exact ⟨h1, by rw [List.getElem?_map, hi]; rfl⟩))
            · obtain ⟨i, hi⟩ := List.getElem?_of_mem hpb
              have hlt := (List.getElem?_eq_some_iff.1 hi).1
              have h1 := List.getElem?_eq_getElem (l := labsU y.k uss) (i := i) (by rw [zm, List.length_map]; exact hlt)
              exact nb.2.2 (_, utT p.2) (by rw [e2]; exact List.mem_of_getElem? (i := i) (by rw [List.getElem?_zip_eq_some]; exact ⟨h1, by rw [List.getElem?_map, hi]; rfl⟩))
            · have h1 := splitF_mem (manyN x) tss.flatten p.1 (tr.uniq ▸ hpa)
              simp only [List.length_cons] at hl
              omega
          constructor
          · intro h p hp
            exact (key p hp).2 (h _ (List.mem_map.2 ⟨p, hp, rfl⟩))
          · intro h q hq
            obtain ⟨p, hp, rfl⟩ := List.mem_map.1 hq
            exact (key p hp).1 (h p hp)
        have hlen : Co (.mk x.k 0 ((labsU x.k tss).zip (tss.map utT)) none) (.mk y.k 0 ((labsU y.k uss).zip (uss.map utT)) none) → labsU x.k tss = labsU y.k uss ∧ labsT tss = labsT uss := fun hc => by
          rw [← hk, co_row hk0] at hc
          rw [← hk]
          have hmem : ∀ l, l ∈ labsU x.k tss ↔ l ∈ labsU x.k uss := fun l => by
            have h := coL_some (hc.2 l)
            have h1 := labsF_zip zl
            have h2 := labsF_zip (hk ▸ zm)
            constructor
            · intro hm
              by_cases hm2 : l ∈ labsU x.k uss
              · exact hm2
              · rw [getF_none.2 (show l ∉ labsF ((labsU x.k uss).zip (uss.map utT)) by rw [h2]; exact hm2)] at h
                rw [Option.isSome_none, Option.isSome_eq_false_iff, Option.isNone_iff_eq_none, getF_none, h1] at h
                exact absurd hm h
            · intro hm
              by_cases hm2 : l ∈ labsU x.k tss
              · exact hm2
              · rw [getF_none.2 (show l ∉ labsF ((labsU x.k tss).zip (tss.map utT)) by rw [h1]; exact hm2)] at h
                have h := h.symm
                rw [Option.isSome_none, Option.isSome_eq_false_iff, Option.isNone_iff_eq_none, getF_none] at h
                exact absurd (by rw [h2]; exact hm) h
          rcases node_kinds ok k9 tr with ⟨h5, _, a, b, rfl⟩ | ⟨hr, _⟩ | ⟨h5, hr, rfl, _⟩
          · refine ⟨by unfold labsU; rw [if_pos h5, if_pos h5], ?_⟩
            rcases node_kinds ok' k9' tr' with ⟨_, _, a', b', rfl⟩ | ⟨hr, _⟩ | ⟨h5', _⟩
            · have r1 := (els (by rw [h5]; rfl)).2
              have r2 := (els' (by rw [← hk, h5]; rfl)).2
              simp only [labsT, List.map_cons, List.map_nil, List.mem_cons, List.not_mem_nil, or_false] at r1 r2 ⊢
              rw [r1 _ (.inl rfl), r1 _ (.inr rfl), r2 _ (.inl rfl), r2 _ (.inr rfl)]
            · rw [← hk, h5] at hr; cases hr
            · exact absurd (hk ▸ h5) h5'
          · have h5 : x.k ≠ 5 := fun e => by rw [e] at hr; cases hr
            have u1 : labsU x.k tss = labsT tss := by unfold labsU; rw [if_neg h5]
            have u2 : labsU x.k uss = labsT uss := by unfold labsU; rw [if_neg h5]
            rw [u1, u2] at hmem ⊢
            have p1 := (row hr).1
            have p2 := (row' (hk ▸ hr)).1
            rw [e1] at p1
            rw [e2] at p2
            have := sorted_labs p1 p2 hmem
            exact ⟨this, this⟩
          · rcases node_kinds ok' k9' tr' with ⟨h5', _⟩ | ⟨hr', _⟩ | ⟨_, _, rfl, _⟩
            · exact absurd (hk.trans h5') h5
            · rw [← hk, hr] at hr'; cases hr'
            · exact ⟨rfl, rfl⟩
        rw [Bool.and_eq_true, decide_eq_true_eq]
        constructor
        · rintro ⟨h1, h2⟩
          have hu : labsU x.k tss = labsU y.k uss := by
            rw [← hk]; unfold labsU; rw [h1]
          rw [← hk] at hu ⊢
          rw [← hu]
          exact (co_zip zl (by rw [hu, hk]; exact zm) hn hk0 none).2 ((hIH (by rw [hu, hk])).2 h2)
        · intro hc
          obtain ⟨hu, h1⟩ := hlen hc
          refine ⟨h1, (hIH hu).1 ?_⟩
          rw [← hk] at hc hu
          rw [← hu] at hc
          exact (co_zip zl (by rw [hu, hk]; exact zm) hn hk0 none).1 hc
      · rw [if_pos hk]
        refine ⟨fun h => (by cases h), fun h => ?_⟩
        rcases co_kinds h with e | e | e
        · exact absurd (.inl e) h0
        · exact absurd (.inr e) h0
        · exact absurd e hk
end Go.Proofs.Ytblfeokjlecgkaa

/- Plain types told; fresh variables. -/
namespace Go.Proofs.Ytblfeokjlecgkaa

theorem co_const {U : List Lb} {a b : Ut} (ha : Told U 0 a) (hb : Told U 0 b) (τ : Va) : CoI a b τ ↔ Co a b := by
  unfold CoI
  rw [plain_inst τ a ha.wf ha.no, plain_inst τ b hb.wf hb.no]

/-- Two plain types that can't be, behind a run, don't agree. -/
theorem plain_bad {U : List Lb} {m0 : Int} {C : Va → Prop} {S : Kn} {a b : Ut} (h : Run U m0 C S) (ha : Told U 0 a) (hb : Told U 0 b) (hd : Bad m0 fun τ => C τ ∧ CoI a b τ) : ¬ Co a b := fun hc =>
  h.not_bad (h.low.and fun _τ τ' _ _ => (co_const ha hb τ').2 hc) (fun τ hτ => ⟨hτ, (co_const ha hb τ).2 hc⟩) hd

theorem plain_good {U : List Lb} {S S' : Kn} {a b : Ut} (s : Step S S' (CoI a b)) (ha : Told U 0 a) (hb : Told U 0 b) : Co a b :=
  (co_const ha hb S'.σ).1 (s.co _ s.inv.sat)

/-! ### Fresh variables -/
end Go.Proofs.Ytblfeokjlecgkaa

/- Plain types told behind a run; types that hold for all that is told. -/
namespace Go.Proofs.Ytblfeokjlecgkaa

theorem mays_good {U : List Lb} {next : Int} {l : List Stp} (hU : ∀ y ∈ labsM l, y ∈ U) (h : maysB next l = true) : ∀ x ∈ l, GoodS U next x := fun x hx => by
  obtain ⟨_, _, _, _, h4, _⟩ := mays_parts h
  obtain ⟨a, b⟩ := mem_labsM hx
  exact good_of_may (hU _ (by simp [labsM])) (hU _ (by simp [labsM])) (hU _ a) (fun e => ⟨fun y hy => hU _ ((b e).1 y hy), fun y hy => hU _ ((b e).2 y hy)⟩) (h4 x hx)
/-- Nothing more is known. -/
theorem plain_same {U : List Lb} {m0 : Nat} {C : Va → Prop} {S S' : Kn} {a b : Ut} (h : Run U (m0 : Int) C S) (s : Step S S' (CoI a b)) (ha : Told U 0 a) (hb : Told U 0 b) : canT [] (knownL m0 S') = canT [] (knownL m0 S) := by
  have hc : ∀ τ, CoI a b τ := fun τ => (co_const ha hb τ).2 (plain_good s ha hb)
  exact known_canon h.most (h.most.next s h.low (pair_low (ha.mono h.h0) (hb.mono h.h0))) h.kg.sh h.low fun τ => ⟨fun e => ⟨e, hc τ⟩, fun e => e.1⟩
/-- A plain node. -/
def plN (y : Nd) : Bool := !(y.k == 8) && !(y.k == 9)
theorem plN_told {m : Int} {y : Nd} (h : plN y = true) : toldN m y = true := by
  unfold plN at h
  simp only [Bool.and_eq_true, Bool.not_eq_true'] at h
  unfold toldN
  rw [h.1, h.2]
  rfl
theorem plain_told {U : List Lb} {t : List Nd} (hA : lA ∈ U) (hB : lB ∈ U) (hU : ∀ x ∈ t, x.s ∈ U) (hr : rightB t = true) (hp : ∀ x ∈ t, plN x = true) : Told U 0 (utT t) := told_of hA hB (gd_of hr).1 hU fun x hx => plN_told (hp x hx)
theorem agG_told {a b : List Nd} (ha : rightB a = true) (hb : rightB b = true) (pa : ∀ x ∈ a, plN x = true) (pb : ∀ x ∈ b, plN x = true) : agG a.length a b = true ↔ Co (utT a) (utT b) :=
  agG_co a.length a b (gd_of ha).1 (gd_of hb).1 (no_of (gd_of ha).1 fun x hx => plN_told (pa x hx)) (no_of (gd_of hb).1 fun x hx => plN_told (pb x hx)) (Nat.le_refl _)

/-! ### Types for all variables -/
section
variable {types : List (List Nd)}
end
end Go.Proofs.Ytblfeokjlecgkaa

/- Rows of types stand while a solver is written. -/
namespace Go.Proofs.Ytblfeokjlecgkaa
open Go.RowKit

/-- A block in which no text and no slice lies. -/
structure OffR (w : World) (g : Nat) : Prop where
  cell : ∀ (o : Nat) (v : Value), w.cell? ⟨g, o, none⟩ = some v → (∀ l, v ≠ .string l) ∧ ∀ A n c, v ≠ .slice A n c
theorem solver_offR {w : World} {s m : Nat} {f n : Int} (h : w.heap[s]? = some (solverOf f n m)) : OffR w s := by
  refine ⟨fun o v hv => ?_⟩
  simp only [World.cell?, h, solverOf] at hv
  match o, hv with
  | 0, hv => simp at hv; subst hv; exact ⟨fun l e => (by cases e), fun A n c e => by cases e⟩
  | 1, hv => simp at hv; subst hv; exact ⟨fun l e => (by cases e), fun A n c e => by cases e⟩
  | 2, hv => simp at hv; subst hv; exact ⟨fun l e => (by cases e), fun A n c e => by cases e⟩
  | o + 3, hv => simp at hv
theorem map_offR {κ : Type} {kf : κ → Value} {w : World} {b : Nat} {l : List (κ × Value)} (h : KMap kf w b l) : OffR w b := by
  obtain ⟨es, ck, hm, _⟩ := h
  refine ⟨fun o v hv => ?_⟩
  have : w.cell? ⟨b, o, none⟩ = none := by simp [World.cell?, hm]
  rw [this] at hv
  cases hv
theorem SolG.offR {U : List Lb} {s m m0 : Nat} {w : World} {S : Kn} (h : SolG U s m m0 w S) : ∀ k, SX s m k → OffR w k := by
  rintro k (rfl | rfl)
  · exact solver_offR h.sol.st
  · obtain ⟨_, _, _, _, l, h5, _⟩ := h.sol
    exact map_offR h5
section
variable {X : Nat → Prop} {w w' : World}
theorem TyA.past {B : Nat} {A : Option Addr} {xs : List Nd} (h : TyA w B A xs) (hX : ∀ k, X k → OffR w k) (hf : Fr X w w') (hB : B ≤ w.heap.size) : TyA w' B A xs := by
  refine h.frame hf hB fun hne a ha hx => ?_
  cases xs with
  | nil => exact hne rfl
  | cons x xs =>
    obtain ⟨b1, o1, rfl, _, _, c1, _⟩ := h.at_ (i := 0) (x := x) rfl
    injection ha with ha
    subst ha
    exact ((hX b1 hx).cell _ _ c1).1 _ rfl
theorem ReadS.past {B : Nat} {V : Option Addr} {vs : List (Option Addr × Nat × Nat)} (h : ReadS w B V vs) (hX : ∀ k, X k → OffR w k) (hf : Fr X w w') (hB : B ≤ w.heap.size) : ReadS w' B V vs := fun hne => by
  obtain ⟨b, o, hA, hb, hr⟩ := h hne
  refine ⟨b, o, hA, hb, fun i x hx j u hu => ?_⟩
  refine (World.cell?_of_block (a := ⟨b, o + i * 1 + j, none⟩) (hf.block b (Nat.lt_of_lt_of_le hb hB) fun hx2 => ?_)).trans (hr i x hx j u hu)
  have hj : j = 0 := by have := getq_lt hu; rw [encS_len] at this; omega
  subst hj
  have h1 := hr i x hx 0 _ rfl
  exact ((hX b hx2).cell _ _ h1).2 _ _ _ rfl
theorem RowS.past {V : Option Addr} {vs : List (Option Addr × Nat × Nat)} {tss : List (List Nd)} (h : RowS V vs tss w) (hX : ∀ k, X k → OffR w k) (hf : Fr X w w') : RowS V vs tss w' :=
  ⟨(h.1.past hX hf (Nat.le_refl _)).more hf.size, ⟨h.2.1, fun i v xs hv hx => ⟨(h.2.2 i v xs hv hx).1, (((h.2.2 i v xs hv hx).2).past hX hf (Nat.le_refl _)).more hf.size⟩⟩⟩
end
/-- A law's steps that were told, all of them so far. -/
def ToldI (U : List Lb) (s m m0 : Nat) (l : List Stp) (i : Nat) (wr : World) : Prop := ∃ S, RunB U (m0 : Int) (l.take i) S ∧ SolG U s m m0 wr S
theorem ToldI.next {U : List Lb} {s m m0 : Nat} {l : List Stp} {i : Nat} {x : Stp} {w : World} {e : Ending} {w' : World} (hx : l[i]? = some x) (h : DoPost U s m m0 (l.take i) x w e w') : ∃ v : Int, e = .returned (.int .i64 v) ∧ (v = 0 ∨ v = 9) ∧ Fr (SX s m) w w' ∧ (v = 0 → ToldI U s m m0 l (i + 1) w') ∧ (v = 9 → Bad (m0 : Int) (allC (l.take (i + 1)))) := by
  obtain ⟨ok, rfl, hf, hno, hyes⟩ := h
  have e1 : l.take i ++ [x] = l.take (i + 1) := by rw [List.take_add_one, hx]; rfl
  rw [e1] at hno hyes
  cases ok with
  | false => exact ⟨9, rfl, .inr rfl, hf, fun e => (by cases e), fun _ => hno rfl⟩
  | true => exact ⟨0, rfl, .inl rfl, hf, fun _ => hyes rfl, fun e => by cases e⟩
theorem Stps.more {w : World} {B B' : Nat} {vs : List StV} {xs : List Stp} (h : Stps w B vs xs) (hB : B ≤ B') : Stps w B' vs xs := ⟨h.1, fun i v x hv hx => by
  have h := h.2 i v x hv hx
  exact ⟨h.l, h.k, h.n, h.m, h.al, h.aa.more hB, h.ac, h.bl, h.ba.more hB, h.bc⟩⟩
/-- Known rows are short. -/
theorem known_short {m0 : Nat} {S : Kn} (hf : fitK (m0 : Int) S) : ∀ xs ∈ canT [] (knownL m0 S), xs.length ≤ 1000000 := fun xs hx => by
  obtain ⟨h1, _⟩ := canT_lens (m := 20000) (l := knownL m0 S) (fun ys hy => by
    obtain ⟨n, hn, rfl⟩ := List.mem_map.1 hy
    have hn := List.mem_range.1 hn
    have h2 := (hf n (by omega) (by omega)).1
    have h3 := fl_len _ h2 ByteArray.empty
    exact ⟨by omega, fl_ne _ _⟩) [] xs hx
  omega
end Go.Proofs.Ytblfeokjlecgkaa

/- Rows that grow side by side: a row of types and a row of labels, and what lies beside them. -/
namespace Go.Proofs.Ytblfeokjlecgkaa
open Go.RowKit







theorem encT_one (s : ByteArray) : ∀ u ∈ encT s, u.oneCell' = true := by
  intro u hu
  simp [encT] at hu
  subst hu
  rfl
theorem infoS : (Try.prog.info? 9).map (fun i => (i.zero, i.size, i.bytes)) = some (some (.string ByteArray.empty), 1, 16) := by kernel_rfl
abbrev OwnT (w : World) (base : Nat) (A : Option Addr) (cap : Nat) (l : List ByteArray) : Prop := OwnL 9 1 encT w base A cap l

theorem readT_new (w : World) (s : ByteArray) : ReadT (w.alloc (.cells #[.string s] 9)) (w.heap.size + 1) (some ⟨w.heap.size, 0, none⟩) [s] := fun _ => by
  refine ⟨w.heap.size, 0, rfl, by omega, fun i x hx j u hu => ?_⟩
  match i, hx with
  | 0, hx =>
    simp at hx
    subst hx
    match j, hu with
    | 0, hu => simp [encT] at hu; subst hu; simp
    | j + 1, hu => simp [encT] at hu
  | i + 1, hx => simp at hx

section
variable {w : World} {ops : Array Oper} {rest : List Oper} {o : Oper} {a : Act} {Q : Exit → Act → World → Prop}
theorem wpList_appT (hgd : o.guard = none) (s x : Operand)
    (ho : o.op = .call { callee := .builtin .append, args := #[s, x], argTypes := #[95, 95] })
    (base : Nat) {A : Option Addr} {cap : Nat} {l : List ByteArray} (hs : a.eval s = .slice A l.length cap) (hown : OwnT w base A cap l) {B : Nat} {A2 : Option Addr} {c : Nat} {l2 : List ByteArray} (hx : a.eval x = .slice A2 l2.length c) (hr : ReadT w B A2 l2)
    (hlen : l.length + l2.length ≤ 10000000) (hbase : base ≤ w.heap.size)
    (h : ∀ A' cap' w', OwnT w' base A' cap' (l ++ l2) → w.grownBy w' ((Value.slice A l.length cap).ownBlock) →
      ((Value.slice A' (l.length + l2.length) cap').ownBlock = (Value.slice A l.length cap).ownBlock ∨ (Value.slice A' (l.length + l2.length) cap').ownBlock = some w.heap.size) → wpList Try.prog ops Q rest (a.put o.dst (.slice A' (l.length + l2.length) cap')) w') : wpList Try.prog ops Q (o :: rest) a w := by
  obtain ⟨i0, hi, hz0, hz1, hz2⟩ := info_parts infoS
  exact wpList_app w encT_len encT_one hgd s x 95 ho base 9 i0 _ 16 Try.underlying95 hi hz0 hz1 hz2 rfl (by decide) hs hown hx hr (by unfold maxLen; omega) (by omega) hbase h
end

/-- What stands while parts and labels are laid behind one another. -/
structure StQ (w0 : World) (A0 : Option Addr) (T : List Nd) (K : Option Addr) (ck : Nat) (kl : List Int) (V : Option Addr) (cv : Nat) (vs : List (Option Addr × Nat × Nat)) (ps : List (List Nd)) (L : Option Addr) (cl : Nat) (ls : List ByteArray) (w : World) : Prop where
  ext : Below w0.heap.size w0 w
  t : TyA w w0.heap.size A0 T
  k : OwnI w w0.heap.size K ck kl
  v : OwnS w w0.heap.size V cv vs
  l : OwnT w w0.heap.size L cl ls
  s : Sls w w.heap.size vs ps
  b : ∀ q ∈ vs, ∀ a, q.1 = some a → a.block < w.heap.size
  vl : Off V L
  vk : Off V K
  lk : Off L K
  ov : ∀ q ∈ vs, Off V q.1
  ol : ∀ q ∈ vs, Off L q.1

section
variable {w0 w w' : World} {A0 K V V' L L' Aq : Option Addr} {T P : List Nd} {ck cv cv' cl cl' cq n' : Nat} {kl : List Int} {vs : List (Option Addr × Nat × Nat)} {ps : List (List Nd)} {ls : List ByteArray} {s : ByteArray}

theorem StQ.step (h : StQ w0 A0 T K ck kl V cv vs ps L cl ls w) (hb : Below w.heap.size w w') : StQ w0 A0 T K ck kl V cv vs ps L cl ls w' where
  ext := ext_trans h.ext hb
  t := h.t.below (hb.mono h.ext.size)
  k := h.k.below hb (Nat.le_refl _)
  v := h.v.below hb (Nat.le_refl _)
  l := h.l.below hb (Nat.le_refl _)
  s := ⟨h.s.1, fun i q xs hq hx => ⟨(h.s.2 i q xs hq hx).1, ((h.s.2 i q xs hq hx).2.below hb).more hb.size⟩⟩
  b := fun q hq a ha => Nat.lt_of_lt_of_le (h.b q hq a ha) hb.size
  vl := h.vl
  vk := h.vk
  lk := h.lk
  ov := h.ov
  ol := h.ol

/-- A part that was just made. -/
structure PartQ (w : World) (V L Aq : Option Addr) (P : List Nd) : Prop where
  t : TyA w w.heap.size Aq P
  ov : Off V Aq
  ol : Off L Aq
  b : ∀ a, Aq = some a → a.block < w.heap.size

theorem PartQ.step (h : PartQ w V L Aq P) (hb : Below w.heap.size w w') : PartQ w' V L Aq P :=
  ⟨(h.t.below hb).more hb.size, h.ov, h.ol, fun a ha => Nat.lt_of_lt_of_le (h.b a ha) hb.size⟩

theorem StQ.part (h : StQ w0 A0 T K ck kl V cv vs ps L cl ls w) (ho : OwnN w' w.heap.size Aq cq P) : PartQ w' V L Aq P :=
  ⟨OwnL.tyA ho, fun a b ha hb e => by have h1 := (OwnL.lt h.v a ha).2; have h2 := (OwnL.lt ho b hb).1; omega, fun a b ha hb e => by have h1 := (OwnL.lt h.l a ha).2; have h2 := (OwnL.lt ho b hb).1; omega, fun a ha => (OwnL.lt ho a ha).2⟩



theorem StQ.appV (h : StQ w0 A0 T K ck kl V cv vs ps L cl ls w) (hp : PartQ w V L Aq P) (hg : w.grownBy w' ((Value.slice V vs.length cv).ownBlock)) (ho : OwnS w' w0.heap.size V' cv' (vs ++ [(Aq, P.length, cq)]))
    (hA : (Value.slice V' n' cv').ownBlock = (Value.slice V vs.length cv).ownBlock ∨ (Value.slice V' n' cv').ownBlock = some w.heap.size) : StQ w0 A0 T K ck kl V' cv' (vs ++ [(Aq, P.length, cq)]) (ps ++ [P]) L cl ls w' where
  ext := ext_app h.ext hg fun k hk => (OwnL.block h.v k hk).1
  t := h.t.below (below_app hg h.ext.size fun a ha => (OwnL.lt h.v a ha).1)
  k := kept_off h.k hg h.vk
  v := ho
  l := kept_off h.l hg h.vl
  s := ⟨by simp [h.s.1], fun i q xs hq hx => by
    by_cases hi : i < vs.length
    · rw [List.getElem?_append_left hi] at hq
      rw [List.getElem?_append_left (by rw [← h.s.1]; exact hi)] at hx
      obtain ⟨h1, h2⟩ := h.s.2 i q xs hq hx
      exact ⟨h1, (h2.grown (Nat.le_refl _) hg (h.ov q (List.mem_of_getElem? hq))).more hg.size⟩
    · rw [List.getElem?_append_right (by omega)] at hq
      rw [List.getElem?_append_right (by rw [← h.s.1]; omega), ← h.s.1] at hx
      have hi0 : i - vs.length = 0 := by have := getq_lt hq; simpa using this
      rw [hi0] at hq hx
      simp at hq hx
      subst hq hx
      exact ⟨rfl, (hp.t.grown (Nat.le_refl _) hg hp.ov).more hg.size⟩⟩
  b := fun q hq a ha => by
    rcases List.mem_append.1 hq with hq | hq
    · exact Nat.lt_of_lt_of_le (h.b q hq a ha) hg.size
    · rw [List.mem_singleton.1 hq] at ha
      exact Nat.lt_of_lt_of_le (hp.b a ha) hg.size
  vl := h.vl.app hA fun x hx => (OwnL.lt h.l x hx).2
  vk := h.vk.app hA fun x hx => (OwnL.lt h.k x hx).2
  lk := h.lk
  ov := fun q hq => by
    rcases List.mem_append.1 hq with hq | hq
    · exact (h.ov q hq).app hA (h.b q hq)
    · rw [List.mem_singleton.1 hq]
      exact hp.ov.app hA hp.b
  ol := fun q hq => by
    rcases List.mem_append.1 hq with hq | hq
    · exact h.ol q hq
    · rw [List.mem_singleton.1 hq]
      exact hp.ol

theorem StQ.appL (h : StQ w0 A0 T K ck kl V cv vs ps L cl ls w) (hg : w.grownBy w' ((Value.slice L ls.length cl).ownBlock)) (ho : OwnT w' w0.heap.size L' cl' (ls ++ [s]))
    (hA : (Value.slice L' n' cl').ownBlock = (Value.slice L ls.length cl).ownBlock ∨ (Value.slice L' n' cl').ownBlock = some w.heap.size) : StQ w0 A0 T K ck kl V cv vs ps L' cl' (ls ++ [s]) w' where
  ext := ext_app h.ext hg fun k hk => (OwnL.block h.l k hk).1
  t := h.t.below (below_app hg h.ext.size fun a ha => (OwnL.lt h.l a ha).1)
  k := kept_off h.k hg h.lk
  v := kept_off h.v hg h.vl.symm
  l := ho
  s := ⟨h.s.1, fun i q xs hq hx => ⟨(h.s.2 i q xs hq hx).1, ((h.s.2 i q xs hq hx).2.grown (Nat.le_refl _) hg (h.ol q (List.mem_of_getElem? hq))).more hg.size⟩⟩
  b := fun q hq a ha => Nat.lt_of_lt_of_le (h.b q hq a ha) hg.size
  vl := (h.vl.symm.app hA fun x hx => (OwnL.lt h.v x hx).2).symm
  vk := h.vk
  lk := h.lk.app hA fun x hx => (OwnL.lt h.k x hx).2
  ov := h.ov
  ol := fun q hq => (h.ol q hq).app hA (h.b q hq)
end
end Go.Proofs.Ytblfeokjlecgkaa
