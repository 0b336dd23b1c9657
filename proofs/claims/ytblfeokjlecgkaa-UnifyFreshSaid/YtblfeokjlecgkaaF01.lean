/- Laid together by a tool from the texts of this seat: Same Right KidsR RRight RightEq Print PEnd Concat Make Part PKids RowA Sort UniA UniB UniC Pure PureA PureP Trees Mem Off Figures PrintR Ask TKids CompactT Joined PutP Few Fresh CanonW UniD UniE UniF UniG UniH UniI UniJ UniK UniL UniM UniN Stps UniO UniP UniQ UniR UniS UniT UniU UMayT UMay KMap UNode UWalkA UMake UOf SymP SymC SymA SymB SymM SymG SymS URow UIn UDel UDelB UStatic UBec UShare UEnds URows UFits Vars VarsP RVars RCanon RKids UTell UFitsB UTree UReg UEndsB UEndsC UEndsD UAgree UEndsZ UAgr UKnown UniV UniW UniX UAlive UDo RowS UAll UMays UBes StQ R07 RP07 UFreshP. Conditions: each theorem's own. -/
import Derived.Test.YtblfeokjlecgkaaO01
import Derived.Test.YtblfeokjlecgkaaO02
import Derived.Test.YtblfeokjlecgkaaO03
import Derived.Test.YtblfeokjlecgkaaO04
import Derived.Test.YtblfeokjlecgkaaO05
import Derived.Test.YtblfeokjlecgkaaO06
import Derived.Test.YtblfeokjlecgkaaO07
import Derived.Test.YtblfeokjlecgkaaO08
import Derived.Test.YtblfeokjlecgkaaO09
import Derived.Test.YtblfeokjlecgkaaO10
import Derived.Test.YtblfeokjlecgkaaO11
import Derived.Test.YtblfeokjlecgkaaO12
import Derived.Test.YtblfeokjlecgkaaO13
import Derived.Test.YtblfeokjlecgkaaO14
import Derived.Test.YtblfeokjlecgkaaO15
import Derived.Test.YtblfeokjlecgkaaO16
import Derived.Test.YtblfeokjlecgkaaO17
import Derived.Test.YtblfeokjlecgkaaO18
import Derived.Test.YtblfeokjlecgkaaO19
import Derived.Test.YtblfeokjlecgkaaO20
import Derived.Test.YtblfeokjlecgkaaO21
import Derived.Test.YtblfeokjlecgkaaO22
import Derived.Test.YtblfeokjlecgkaaO23
import Derived.Test.YtblfeokjlecgkaaO24
import Derived.Test.YtblfeokjlecgkaaO25
import Derived.Test.YtblfeokjlecgkaaO26
import Derived.Test.YtblfeokjlecgkaaO27
import Derived.Test.YtblfeokjlecgkaaO28
import Derived.Test.YtblfeokjlecgkaaO29
import Derived.Test.YtblfeokjlecgkaaO30
import Derived.Test.YtblfeokjlecgkaaO31
import Derived.Test.YtblfeokjlecgkaaO32
import Derived.Test.YtblfeokjlecgkaaProg
import Derived.WalkKit
import Derived.WalkSpells
import Derived.WalkLawsBesides
import Derived.Deep.Draws
import Derived.Deep.QuietTactic
import Derived.BigQuiet
import Derived.Lib.Hide
import Derived.Laws.StructEq
import Derived.Lib.SliceRun
import Derived.Laws.EntriesVeiled
/- Nodes of types as data, slices of nodes as lists, and the small facts on worlds that all walks of this seat use. -/
namespace Go.Proofs.Ytblfeokjlecgkaa
open Go.RowKit

section
variable {w w' : World} {B B' : Nat} {A : Option Addr} {xs : List Nd} {b o : Nat}

end

end Go.Proofs.Ytblfeokjlecgkaa

/- The small functions on one node, each by its contract. -/
namespace Go.Proofs.Ytblfeokjlecgkaa
open Go.RowKit

end Go.Proofs.Ytblfeokjlecgkaa

/- Words and tags: what the program asks of a text's runes, and the document of its bytes. -/
namespace Go.Proofs.Ytblfeokjlecgkaa
open Go.RowKit

end Go.Proofs.Ytblfeokjlecgkaa

/- Words and tags as the document has them; labels. -/
namespace Go.Proofs.Ytblfeokjlecgkaa
open Go.RowKit

end Go.Proofs.Ytblfeokjlecgkaa

/- Functions that read slices of nodes, each by its contract. -/
namespace Go.Proofs.Ytblfeokjlecgkaa
open Go.RowKit

def plainB (xs : List Nd) : Bool := xs.all fun x => !isVarB x.k
def staticB (xs : List Nd) : Bool := xs.all fun x => !(x.k == 0)

set_option maxRecDepth 100000 in
set_option maxHeartbeats 1000000 in
theorem rPlain_any (A : Option Addr) (c Ba : Nat) (xs : List Nd) (w : World) (ha : TyA w Ba A xs) (hl : xs.length ≤ 9223372036854775807) :
    Calls Try.prog 49 #[.slice A xs.length c] w fun e w' => e = .returned (.bool (plainB xs)) ∧ w = w' := by
  go_enter Try.func49, Try.ntmps49
  go_wp2_with fail
  go_loop [3] (fun i => ∃ k : Nat, k ≤ xs.length ∧ i = .int .i64 k ∧ Hid (allFrom (fun x => !isVarB x.k) xs k = plainB xs)) (fun i => xs.length - (intOf i).toNat)
  case atStart => exact ⟨0, Nat.zero_le _, rfl, Lib.hid rfl⟩
  case round =>
    obtain ⟨k, hk, rfl, hgood⟩ := hrel
    by_cases hp : k < xs.length
    · obtain ⟨x, hx⟩ := getq_ex hp
      have hstep := Lib.hid (allFrom_step (p := fun x => !isVarB x.k) hx)
      obtain ⟨b1, o1, rfl, hb1, c10, c11, c12⟩ := ha.at_ hx
      clear hx
      by_cases h8 : x.k = 8
      · have h8b : (x.k == 8) = true := by simpa using h8
        have H8 := Lib.hid h8
        clear h8
        go_wp2_with fail
        go_ret
        exact ⟨ret_bool (by rw [← hgood.out, hstep.out]; simp [isVarB, H8.out]), rfl⟩
      · have h8b : (x.k == 8) = false := by simpa using h8
        by_cases h9 : x.k = 9
        · have h9b : (x.k == 9) = true := by simpa using h9
          have H9 := Lib.hid h9
          clear h9 h8
          go_wp2_with fail
          go_ret
          exact ⟨ret_bool (by rw [← hgood.out, hstep.out]; simp [isVarB, H9.out]), rfl⟩
        · have h9b : (x.k == 9) = false := by simpa using h9
          go_wp2_with fail
          go_round
          case rel => exact ⟨k + 1, hp, by go_num, Lib.hid (by rw [← hgood.out, hstep.out]; simp [isVarB, h8b, h9b])⟩
          case measure => simp [intOf]; omega
    · have hend := Lib.hid (allFrom_end (p := fun x => !isVarB x.k) hp)
      go_wp2_with fail
      go_ret
      exact ⟨ret_bool (by rw [← hgood.out, hend.out]), rfl⟩

set_option maxRecDepth 100000 in
set_option maxHeartbeats 1000000 in
theorem rStatic_any (A : Option Addr) (c Ba : Nat) (xs : List Nd) (w : World) (ha : TyA w Ba A xs) (hl : xs.length ≤ 9223372036854775807) :
    Calls Try.prog 27 #[.slice A xs.length c] w fun e w' => e = .returned (.bool (staticB xs)) ∧ w = w' := by
  go_enter Try.func27, Try.ntmps27
  go_wp2_with fail
  go_loop [3] (fun i => ∃ k : Nat, k ≤ xs.length ∧ i = .int .i64 k ∧ Hid (allFrom (fun x => !(x.k == 0)) xs k = staticB xs)) (fun i => xs.length - (intOf i).toNat)
  case atStart => exact ⟨0, Nat.zero_le _, rfl, Lib.hid rfl⟩
  case round =>
    obtain ⟨k, hk, rfl, hgood⟩ := hrel
    by_cases hp : k < xs.length
    · obtain ⟨x, hx⟩ := getq_ex hp
      have hstep := Lib.hid (allFrom_step (p := fun x => !(x.k == 0)) hx)
      obtain ⟨b1, o1, rfl, hb1, c10, c11, c12⟩ := ha.at_ hx
      clear hx
      cases h8 : (x.k == 0)
      all_goals
        have H8 := Lib.hid h8
        go_wp2_with fail
      · go_round
        case rel => exact ⟨k + 1, hp, by go_num, Lib.hid (by rw [← hgood.out, hstep.out, H8.out]; rfl)⟩
        case measure => simp [intOf]; omega
      · go_ret
        exact ⟨ret_bool (by rw [← hgood.out, hstep.out, H8.out]; rfl), rfl⟩
    · have hend := Lib.hid (allFrom_end (p := fun x => !(x.k == 0)) hp)
      go_wp2_with fail
      go_ret
      exact ⟨ret_bool (by rw [← hgood.out, hend.out]), rfl⟩
end Go.Proofs.Ytblfeokjlecgkaa

/- Whether two types are alike: the document's loop, and the program's by a function value. -/
namespace Go.Proofs.Ytblfeokjlecgkaa
open Go.RowKit

/-- A node without its site. -/
def Nd.bare (x : Nd) : Nd := if x.k = 0 then { x with n := 0 } else x

end Go.Proofs.Ytblfeokjlecgkaa

/- ty.Arrow, slices.Clone, ty.Part, and the document's. -/
namespace Go.Proofs.Ytblfeokjlecgkaa
open Go.RowKit

/-- A function's type, of two. -/
def arrowN (a b : List Nd) : List Nd := ⟨5, ByteArray.empty, 0⟩ :: (a ++ b)

theorem own_one (w : World) (x : Nd) : OwnN (w.alloc (.cells #[.int .i64 x.k, .string x.s, .int .i64 x.n] 48)) w.heap.size (some ⟨w.heap.size, 0, none⟩) 1 [x] :=
  ⟨rfl, .inr ⟨w.heap.size, 1, _, rfl, Nat.le_refl _, heap_alloc_new w _, Nat.le_refl _, by simp [maxLen], rfl, rfl⟩⟩

set_option maxRecDepth 100000 in
set_option maxHeartbeats 2000000 in
theorem rArrow_any (A1 A2 : Option Addr) (c1 c2 : Nat) (a b : List Nd) (w : World) (ha : TyA w w.heap.size A1 a) (hb : TyA w w.heap.size A2 b) (hl : a.length + b.length ≤ 100000) :
    Calls Try.prog 36 #[.slice A1 a.length c1, .slice A2 b.length c2] w (RetN w (arrowN a b)) := by
  have hown0 := own_one w ⟨5, ⟨#[]⟩, 0⟩
  have hb0 := ext_alloc (Below.refl w.heap.size w) (.cells #[.int .i64 5, .string ⟨#[]⟩, .int .i64 0] 48)
  go_enter Try.func36, Try.ntmps36
  go_wp2_with (first
    | (at_builtin; refine wpList_appN rfl (.tmp 8) (.tmp 9) rfl w.heap.size (l := [⟨5, ⟨#[]⟩, 0⟩]) rfl hown0 (l2 := a) rfl (ha.below hb0) (by simp; omega) (by simp) ?_; intro A3 cap3 w3 hown3 hg3 _; have hbel3 := ext_app hb0 hg3 (fun k hk => (OwnL.block hown0 k hk).1))
    | (at_builtin; refine wpList_appN rfl (.tmp 11) (.tmp 12) rfl w.heap.size (l := [⟨5, ⟨#[]⟩, 0⟩] ++ a) (by rw [List.length_append]; rfl) hown3 (l2 := b) rfl (hb.below hbel3) (by simp; omega) hbel3.size ?_; intro A4 cap4 w4 hown4 hg4 _; have hbel4 := ext_app hbel3 hg4 (fun k hk => (OwnL.block hown3 k hk).1)))
  go_ret
  have hfl : [(⟨5, ⟨#[]⟩, 0⟩ : Nd)] ++ a ++ b = arrowN a b := rfl
  rw [hfl] at hown4
  have hln : (arrowN a b).length = a.length + 1 + b.length := by simp [arrowN]; omega
  exact ⟨A4, cap4, by rw [hln]; rfl, hown4, hbel4⟩
end Go.Proofs.Ytblfeokjlecgkaa

/- ty.Part and the document's. -/
namespace Go.Proofs.Ytblfeokjlecgkaa
open Go.RowKit

/-- A row of nodes, its first one without a label. -/
def bareN : List Nd → List Nd
  | [] => []
  | x :: xs => x.name ByteArray.empty :: xs

end Go.Proofs.Ytblfeokjlecgkaa

/- ty.Row's parts: odd labels, the order of labels. -/
namespace Go.Proofs.Ytblfeokjlecgkaa
open Go.RowKit

def encT (s : ByteArray) : List Value := [.string s]
end Go.Proofs.Ytblfeokjlecgkaa

/- Types and functions' types (no program in sight). -/
namespace Go.Proofs.Ytblfeokjlecgkaa

theorem IsT.bare {T : List Nd} (h : IsT T) : bareN T = T := by
  obtain ⟨x, ys, rfl, hs, _⟩ := h.root
  unfold bareN Nd.name
  rw [← hs]

section
variable {a b : List Nd}

end

end Go.Proofs.Ytblfeokjlecgkaa

/- Types and their trees: there and back. -/
namespace Go.Proofs.Ytblfeokjlecgkaa

theorem flF_zip : ∀ {rs : List (List Nd)}, (∀ t ∈ rs, flT (headNd t).s (utT t) = t.map Nd.bare) → flF ((labsT rs).zip (rs.map utT)) = rs.flatten.map Nd.bare
  | [], _ => by simp [labsT, flF_nil]
  | t :: rs, h => by
    rw [labsT_cons, List.map_cons, List.zip_cons_cons, flF_cons, flF_zip fun t' ht => h t' (List.mem_cons_of_mem _ ht), h t (by simp), List.flatten_cons, List.map_append]

/-- A type's tree, laid out, is the type, but for sites. -/
theorem gd_fl {ts : List Nd} (h : GdT ts) : flT (headNd ts).s (utT ts) = ts.map Nd.bare := by
  induction h with
  | mk x tss ok k9 tr ch row els tl ih =>
    rw [utT_cons tr, flT_mk]
    obtain ⟨t1, t2, t3⟩ := tailN_tlU tl
    have hx : (headNd (x :: tss.flatten)).s = x.s := rfl
    rw [hx, List.map_cons]
    rcases node_kinds ok k9 tr with ⟨h5, hn, a, b, rfl⟩ | ⟨hr, hn, hl, hu⟩ | ⟨h5, hr, rfl, h0, h8, hn0, hnn⟩
    · have hr : isRowB x.k = false := by rw [h5]; rfl
      obtain ⟨e, eb⟩ := els hr
      rw [if_neg (by rw [hr]; simp), lOf_eq e, if_neg (by omega)]
      rw [lOf_eq e] at ih
      have ea := ih a (by simp)
      have eb' := ih b (by simp)
      rw [eb (headNd a).s (by simp [labsT])] at ea
      rw [eb (headNd b).s (by simp [labsT])] at eb'
      have hl : labsU x.k [a, b] = [lA, lB] := by unfold labsU; rw [if_pos h5]
      rw [hl]
      simp only [List.map_cons, List.map_nil, List.zip_cons_cons, List.zip_nil_right, flE_cons, flE_nil, ea, eb', List.append_nil, List.flatten_cons, List.flatten_nil, List.map_append]
      congr 1
      unfold Nd.bare
      rw [if_neg (by omega)]
      rw [← hn]
    · rw [if_pos hr]
      have h67 : x.k = 6 ∨ x.k = 7 := by simpa [isRowB] using hr
      have hlu : labsU x.k (lOf tss) = labsT (lOf tss) := by unfold labsU; rw [if_neg (by omega)]
      have hfl : ((labsT (lOf tss)).zip ((lOf tss).map utT)).length = (lOf tss).length := by rw [List.length_zip, labsT_length, List.length_map, Nat.min_self]
      rw [hlu, hfl, t2, lt_len, flF_zip ih, t1]
      have e : tss.flatten = (lOf tss).flatten ++ (tOf tss).flatten := by rw [← List.flatten_append, lOf_tOf]
      have e2 : (tOf tss).flatten.map Nd.bare = (tOf tss).flatten := by
        rcases tOf_one tss with e | ⟨t, e⟩
        · rw [e]; rfl
        · obtain ⟨n, _, ht⟩ := tl t (by rw [e]; simp)
          rw [e, ht]; rfl
      rw [e, List.map_append, e2]
      congr 1
      unfold Nd.bare
      rw [if_neg (by omega), ← hn]
    · rw [if_neg (by rw [hr]; simp)]
      have e3 : (labsU x.k (lOf [])).zip ((lOf []).map utT) = [] := by simp [lOf, tailB]
      rw [e3, flE_nil]
      simp only [List.flatten_nil, List.map_nil]
      congr 1
      unfold Nd.bare
      obtain ⟨k, s, n⟩ := x
      simp only at *
      by_cases h8' : k = 8
      · rw [if_pos h8', if_neg (by omega)]
      · rw [if_neg h8']
        split
        · rfl
        · next h => rw [hn0 h8' h]
end Go.Proofs.Ytblfeokjlecgkaa

/- Trees, laid out, are types; what numbers they have. -/
namespace Go.Proofs.Ytblfeokjlecgkaa

theorem lt_app {L : List (List Nd)} {tl : Option Int} (h : ∀ t ∈ L, (headNd t).k ≠ 9) : lOf (L ++ (tailN tl).map fun x => [x]) = L ∧ tOf (L ++ (tailN tl).map fun x => [x]) = (tailN tl).map fun x => [x] := by
  cases tl with
  | none =>
    have e : tailB L = false := by
      unfold tailB
      cases e : L.getLast? with
      | none => rfl
      | some t => simpa using h t (List.mem_of_getLast? e)
    simp [tailN, lOf, tOf, e]
  | some p =>
    have e : tailB (L ++ [[⟨9, ByteArray.empty, p⟩]]) = true := by simp [tailB, headNd]
    simp [tailN, lOf, tOf, e]

end Go.Proofs.Ytblfeokjlecgkaa

/- Plain types that agree, told by lists. -/
namespace Go.Proofs.Ytblfeokjlecgkaa

def kidsL : List Nd → List (List Nd)
  | [] => []
  | x :: ks => splitF (manyN x) ks
end Go.Proofs.Ytblfeokjlecgkaa

/- Plain types told; fresh variables. -/
namespace Go.Proofs.Ytblfeokjlecgkaa

theorem wf_ri : ∀ t, wfT t → riT t := by
  refine Ut.ind fun k n fs tl ih h => ?_
  rw [wfT_mk] at h
  rw [riT_mk]
  exact ⟨wf_rise h.1, fun p hp => ih p hp (h.2 p hp)⟩

/-! ### Fresh variables -/
/-- What is known of the first variables has no fresh number. -/
theorem known_low {U : List Lb} {m0 : Int} {C : Va → Prop} {S : Kn} (h : Run U m0 C S) {n : Int} (hn : n < m0) {v : Int} (hv : S.m ≤ v) : ∀ x ∈ flT ByteArray.empty (S.σ.v n), isVarB x.k = true → x.n ≠ v := by
  intro x hx hxv e
  have ho : occN v (S.σ.v n) := (occ_fl v _ (h.kg.sh.σ.v _ (h.most.sort _ hn)) _).2 ⟨x, hx, hxv, e⟩
  have hb := h.kg.inv.bd.v n (by have := h.most.m; omega) (h.most.sort _ hn)
  have key : ∀ t, bdT S.m t → ¬ occN v t := by
    refine Ut.ind fun k n fs tl ih hb ho => ?_
    rw [bdT_mk] at hb
    rw [occN_mk] at ho
    rcases ho with ⟨h8, rfl⟩ | e | ⟨p, hp, ho⟩
    · have := hb.1 h8; omega
    · have := hb.2.1 v e; omega
    · exact ih p hp (hb.2.2 p hp) ho
  exact key _ hb ho

/-- A step that some types allow: what is known then has them as an instance; the first variables are as large as they were, at most. -/
theorem step_fit {S S' : Kn} {C : Va → Prop} {m0 : Int} (hm : m0 ≤ S.m) (hL : ∀ x, x < m0 → S.L x = none) (s : Step S S' C) {τ : Va} (hτ : S.Sat τ) (hc : C τ) (hf : ∀ n, 0 ≤ n → n < m0 → ndT (τ.v n) ≤ 10000 ∧ dpT (τ.v n) ≤ 100) : fitK m0 S' := by
  obtain ⟨τ', ⟨h1, h2⟩, ha⟩ := s.gen τ hτ hc
  intro n h0 hn
  have hl : S'.L n = none := by rw [s.le.L n (by omega)]; exact hL n hn
  have := s.inv.gen τ' h1 h2 (varT n) (okT_var hl)
  rw [inst_var, inst_var, ← (ha n (by omega)).1] at this
  obtain ⟨a, b⟩ := inst_nd τ' (S'.σ.v n) S'.L (s.inv.wf.v n hl)
  rw [this] at a b
  have := hf n h0 hn
  omega

/-- Two fresh variables, made to agree with a plain static type in an arrow. -/
theorem fresh_ok {U : List Lb} {m0 : Int} {C : Va → Prop} {S : Kn} {t : Ut} (h : Run U m0 C S) (ht : Told U 0 t) (hs : stT t) :
    ∃ τ, (S.up (S.m + 2)).Sat τ ∧ CoI (arrT (varT S.m) (varT (S.m + 1))) (arrT t (varT S.m)) τ ∧ (∀ n, 0 ≤ n → n < m0 → ndT (τ.v n) ≤ 10000 ∧ dpT (τ.v n) ≤ 100) := by
  have hr := wf_ri _ ht.wf
  have h1 : (S.σ.updV S.m t).Ok S.L := h.kg.inv.wf.ok.updV hs hr
  have h2 : ((S.σ.updV S.m t).updV (S.m + 1) t).Ok S.L := h1.updV hs hr
  have ha : Alike S.m S.σ ((S.σ.updV S.m t).updV (S.m + 1) t) := fun n hn => by
    refine ⟨?_, rfl⟩
    show _ = if n = S.m + 1 then t else if n = S.m then t else S.σ.v n
    rw [if_neg (by omega), if_neg (by omega)]
  have hm := h.most.m
  refine ⟨_, ⟨h2, model_alike h.kg.inv.model ha fun v t hv => ⟨(h.kg.inv.dom v t hv).1, (h.kg.inv.dom v t hv).2.2.2⟩⟩, ?_, fun n h0 hn => ?_⟩
  · unfold CoI
    rw [inst_arr, inst_arr, inst_var, inst_var, plain_inst _ t ht.wf ht.no]
    have e1 : ((S.σ.updV S.m t).updV (S.m + 1) t).v S.m = t := by
      show (if S.m = S.m + 1 then t else if S.m = S.m then t else S.σ.v S.m) = t
      rw [if_neg (by omega), if_pos rfl]
    have e2 : ((S.σ.updV S.m t).updV (S.m + 1) t).v (S.m + 1) = t := if_pos rfl
    rw [e1, e2]
    exact Co.refl _
  · rw [← (ha n (by omega)).1]
    exact h.fit n h0 hn

theorem fresh_known {U : List Lb} {S S' : Kn} {t : Ut} {A B : Int} (hA : S.L A = none) (hB : S.L B = none) (hAm : A < S.m) (hBm : B < S.m) (ht : Told U 0 t) (hs : stT t) (s : Step S S' (CoI (arrT (varT A) (varT B)) (arrT t (varT A)))) : S'.σ.v A = t ∧ S'.σ.v B = t := by
  have := s.co _ s.inv.sat
  unfold CoI at this
  rw [inst_arr, inst_arr, inst_var, inst_var, plain_inst _ t ht.wf ht.no, co_arr] at this
  have oA := s.inv.wf.ok.v A (by rw [s.le.L A hAm]; exact hA)
  have oB := s.inv.wf.ok.v B (by rw [s.le.L B hBm]; exact hB)
  have e := this.1.eq oA.1 hs oA.2 (wf_ri _ ht.wf)
  refine ⟨e, ?_⟩
  rw [e] at this
  exact this.2.eq oB.1 hs oB.2 (wf_ri _ ht.wf)
end Go.Proofs.Ytblfeokjlecgkaa

/- Open rows that were made to agree with one Var: what is known of it. -/
namespace Go.Proofs.Ytblfeokjlecgkaa

/-- Nodes without ?s: a static tree. -/
theorem static_of {ts : List Nd} (h : GdT ts) : (∀ x ∈ ts, x.k ≠ 0) → stT (utT ts) := by
  induction h with
  | mk x tss ok k9 tr ch row els tl ih =>
    intro hU
    rw [utT_cons tr, stT_mk]
    refine ⟨hU x (List.mem_cons_self ..), fun p hp => ?_⟩
    obtain ⟨t, ht, hpt⟩ := List.mem_map.1 (zip_mem hp)
    rw [← hpt]
    exact ih t ht fun y hy => hU y (List.mem_cons_of_mem _ (List.mem_flatten.2 ⟨t, lOf_mem ht, hy⟩))

/-- A plain static type, as it is known. -/
theorem fl_plain {ts : List Nd} (h : GdT ts) (hs : ∀ x ∈ ts, x.k ≠ 0) (he : (headNd ts).s = ByteArray.empty) : flT ByteArray.empty (utT ts) = ts := by
  have := gd_fl h
  rw [he] at this
  rw [this]
  have : ∀ x ∈ ts, Nd.bare x = x := fun x hx => by unfold Nd.bare; rw [if_neg (hs x hx)]
  exact (List.map_congr_left this).trans (List.map_id _)

/-! ### Two labels of one Var -/
end Go.Proofs.Ytblfeokjlecgkaa

/- Types put for variables, as rows of nodes. -/
namespace Go.Proofs.Ytblfeokjlecgkaa

theorem gd_k9 {ts : List Nd} (h : GdT ts) : (headNd ts).k ≠ 9 := by
  cases h with
  | mk x tss ok k9 tr ch row els tl => exact k9

end Go.Proofs.Ytblfeokjlecgkaa

/- term.Vars, walked. -/
namespace Go.Proofs.Ytblfeokjlecgkaa
open Go.RowKit Go.Sort

/-- The numbers of variables, in their order. -/
def numsV (xs : List Nd) : List Int := (xs.filter fun x => isVarB x.k).map (·.n)

def varsL (xs : List Nd) : List Int := Lib.compact ((numsV xs).mergeSort fun x y => decide (x ≤ y))

theorem compact_mem {zs : List Int} {x : Int} : x ∈ Lib.compact zs ↔ x ∈ zs := by
  constructor
  · intro h
    unfold Lib.compact Lib.compactUpTo at h
    obtain ⟨i, hi, rfl⟩ := List.mem_map.1 h
    have hi' : i < zs.length := List.mem_range.1 (List.mem_filter.1 hi).1
    simp [getElem!_pos, hi']
  · intro h
    have key : ∀ (m : Nat), ∀ j, j < m → zs.toArray[j]! ∈ Lib.compactUpTo zs.toArray m := by
      intro m
      induction m with
      | zero => intro j hj; omega
      | succ m ih =>
        intro j hj
        rw [Lib.compactUpTo_succ]
        by_cases hjm : j < m
        · exact List.mem_append_left _ (ih j hjm)
        · have : j = m := by omega
          subst this
          by_cases hk : Lib.keeps zs.toArray j = true
          · rw [if_pos hk]
            exact List.mem_append_right _ (by simp)
          · have hk' : ¬ (j = 0 ∨ zs.toArray[j]! ≠ zs.toArray[j - 1]!) := by simpa [Lib.keeps] using hk
            have h0 : j ≠ 0 := fun e => hk' (.inl e)
            have he : zs.toArray[j]! = zs.toArray[j - 1]! := Classical.byContradiction fun e => hk' (.inr e)
            rw [he]
            exact List.mem_append_left _ (ih (j - 1) (by omega))
    obtain ⟨i, hi, rfl⟩ := List.getElem_of_mem h
    have := key zs.length i hi
    have e : zs.toArray[i]! = zs[i] := by rw [getElem!_pos _ _ (by simpa using hi)]; simp
    rw [e] at this
    exact this

theorem varsL_mem {xs : List Nd} {n : Int} : n ∈ varsL xs ↔ ∃ y ∈ xs, isVarB y.k = true ∧ y.n = n := by
  unfold varsL
  rw [compact_mem, List.mem_mergeSort]
  unfold numsV
  simp [List.mem_map, List.mem_filter, and_assoc]

theorem numsV_le (xs : List Nd) : (numsV xs).length ≤ xs.length := by
  unfold numsV
  rw [List.length_map]
  exact List.length_filter_le _ _

theorem compact_le (zs : List Int) : (Lib.compact zs).length ≤ zs.length := by
  unfold Lib.compact Lib.compactUpTo
  rw [List.length_map]
  refine Nat.le_trans (List.length_filter_le _ _) ?_
  simp

theorem varsL_le (xs : List Nd) : (varsL xs).length ≤ xs.length := by
  unfold varsL
  have h1 := compact_le ((numsV xs).mergeSort fun x y => decide (x ≤ y))
  have h2 := numsV_le xs
  rw [List.length_mergeSort] at h1
  omega

def VarsPost (L : List Int) (w : World) (e : Ending) (w' : World) : Prop := ∃ A' c', e = .returned (.slice A' L.length c') ∧ ReadI w' w'.heap.size A' L ∧ Below w.heap.size w w'

end Go.Proofs.Ytblfeokjlecgkaa

/- The document's row of variables: the least number above the last one, round for round. -/
namespace Go.Proofs.Ytblfeokjlecgkaa

theorem cUp_sorted {zs : List Int} (hs : zs.Pairwise (· ≤ ·)) : ∀ m, m ≤ zs.length → (Lib.compactUpTo zs.toArray m).Pairwise (· < ·) ∧ ∀ x ∈ Lib.compactUpTo zs.toArray m, ∃ j, j < m ∧ zs.toArray[j]! = x
  | 0, _ => by simp [Lib.compactUpTo]
  | m + 1, hm => by
    obtain ⟨h1, h2⟩ := cUp_sorted hs m (by omega)
    rw [Lib.compactUpTo_succ]
    have hget : ∀ j (hj : j < zs.length), zs.toArray[j]! = zs[j] := fun j hj => by rw [getElem!_pos zs.toArray j (by simpa using hj)]; simp
    have hle : ∀ i j, i ≤ j → j < zs.length → zs.toArray[i]! ≤ zs.toArray[j]! := fun i j hij hj => by
      rw [hget i (by omega), hget j hj]
      rcases Nat.lt_or_eq_of_le hij with h | rfl
      · exact List.pairwise_iff_getElem.1 hs i j (by omega) hj h
      · exact Int.le_refl _
    by_cases hk : Lib.keeps zs.toArray m = true
    · rw [if_pos hk]
      have hk' : m = 0 ∨ zs.toArray[m]! ≠ zs.toArray[m - 1]! := by simpa [Lib.keeps] using hk
      refine ⟨List.pairwise_append.2 ⟨h1, by simp, fun x hx y hy => ?_⟩, fun x hx => ?_⟩
      · simp only [List.mem_singleton] at hy
        subst hy
        obtain ⟨j, hj, rfl⟩ := h2 x hx
        rcases hk' with rfl | hk'
        · omega
        · have a1 := hle j (m - 1) (by omega) (by omega)
          have a2 := hle (m - 1) m (by omega) (by omega)
          omega
      · rcases List.mem_append.1 hx with hx | hx
        · obtain ⟨j, hj, e⟩ := h2 x hx
          exact ⟨j, by omega, e⟩
        · simp only [List.mem_singleton] at hx
          exact ⟨m, by omega, hx.symm⟩
    · rw [if_neg hk, List.append_nil]
      exact ⟨h1, fun x hx => by obtain ⟨j, hj, e⟩ := h2 x hx; exact ⟨j, by omega, e⟩⟩

theorem varsL_sorted (xs : List Nd) : (varsL xs).Pairwise (· < ·) := by
  unfold varsL Lib.compact
  refine (cUp_sorted ?_ _ (Nat.le_refl _)).1
  have h := List.pairwise_mergeSort (le := fun (x y : Int) => decide (x ≤ y)) (fun a b c h1 h2 => by simp only [decide_eq_true_eq] at *; omega) (fun a b => by simp only [Bool.or_eq_true, decide_eq_true_eq]; omega) (numsV xs)
  exact h.imp fun h => of_decide_eq_true h

/-- The least number above one, of the first so many nodes; -1: none. -/
def bestV (last : Int) : List Nd → Int → Int
  | [], b => b
  | x :: xs, b => bestV last xs (if isVarB x.k = true ∧ last < x.n ∧ (b < 0 ∨ x.n < b) then x.n else b)

theorem bestV_append (last : Int) : ∀ (a r : List Nd) (b : Int), bestV last (a ++ r) b = bestV last r (bestV last a b)
  | [], _, _ => rfl
  | x :: a, r, b => by simp only [List.cons_append, bestV, bestV_append last a r]

theorem bestV_step {last : Int} {xs : List Nd} {k : Nat} {x : Nd} {b : Int} (h : xs[k]? = some x) : bestV last (xs.take (k + 1)) b = if isVarB x.k = true ∧ last < x.n ∧ (bestV last (xs.take k) b < 0 ∨ x.n < bestV last (xs.take k) b) then x.n else bestV last (xs.take k) b := by
  rw [List.take_add_one, h, bestV_append]
  rfl

theorem bestV_spec {last : Int} (hl : -1 ≤ last) : ∀ (xs : List Nd) (b : Int), (b = -1 ∨ last < b) →
    (bestV last xs b = -1 ∧ b = -1 ∧ ∀ x ∈ xs, isVarB x.k = true → x.n ≤ last) ∨
    (last < bestV last xs b ∧ (bestV last xs b = b ∨ ∃ x ∈ xs, isVarB x.k = true ∧ x.n = bestV last xs b) ∧ (b ≠ -1 → bestV last xs b ≤ b) ∧ ∀ x ∈ xs, isVarB x.k = true → last < x.n → bestV last xs b ≤ x.n)
  | [], b, h => by
    rcases h with rfl | h
    · exact .inl ⟨rfl, rfl, fun x hx => by simp at hx⟩
    · exact .inr ⟨h, .inl rfl, fun _ => Int.le_refl _, fun x hx => by simp at hx⟩
  | x :: xs, b, h => by
    by_cases hc : isVarB x.k = true ∧ last < x.n ∧ (b < 0 ∨ x.n < b)
    · have ih := bestV_spec hl xs x.n (.inr hc.2.1)
      simp only [bestV]
      rw [if_pos hc]
      rcases ih with ⟨_, h2, _⟩ | ⟨h1, h2, h3, h4⟩
      · omega
      · have h5 := h3 (by omega)
        refine .inr ⟨h1, ?_, fun hb => ?_, fun y hy hv hn => ?_⟩
        · rcases h2 with h2 | ⟨y, hy, hv, hn⟩
          · exact .inr ⟨x, by simp, hc.1, h2.symm⟩
          · exact .inr ⟨y, by simp [hy], hv, hn⟩
        · rcases hc.2.2 with h6 | h6 <;> omega
        · rcases List.mem_cons.1 hy with rfl | hy
          · exact h5
          · exact h4 y hy hv hn
    · have ih := bestV_spec hl xs b h
      simp only [bestV]
      rw [if_neg hc]
      rcases ih with ⟨h1, h2, h3⟩ | ⟨h1, h2, h3, h4⟩
      · refine .inl ⟨h1, h2, fun y hy hv => ?_⟩
        rcases List.mem_cons.1 hy with rfl | hy
        · by_cases hn : last < y.n
          · exact absurd ⟨hv, hn, .inl (by omega)⟩ hc
          · omega
        · exact h3 y hy hv
      · refine .inr ⟨h1, ?_, h3, fun y hy hv hn => ?_⟩
        · rcases h2 with h2 | ⟨y, hy, hv, hn⟩
          · exact .inl h2
          · exact .inr ⟨y, by simp [hy], hv, hn⟩
        · rcases List.mem_cons.1 hy with rfl | hy
          · by_cases hb : b < 0
            · exact absurd ⟨hv, hn, .inl hb⟩ hc
            · have h6 : ¬ y.n < b := fun h => hc ⟨hv, hn, .inr h⟩
              have := h3 (by omega)
              omega
          · exact h4 y hy hv hn

/-- The last number that was found. -/
def lastV (L : List Int) (k : Nat) : Int := if k = 0 then -1 else L.getD (k - 1) 0

theorem lastV_succ (L : List Int) (k : Nat) : lastV L (k + 1) = L.getD k 0 := by
  unfold lastV
  rw [if_neg (by omega)]
  rfl

/-- Round for round the numbers are found. -/
theorem bestV_next {xs : List Nd} (h0 : ∀ x ∈ xs, isVarB x.k = true → 0 ≤ x.n) {k : Nat} (hk : k ≤ (varsL xs).length) :
    bestV (lastV (varsL xs) k) xs (-1) = if k < (varsL xs).length then (varsL xs).getD k 0 else -1 := by
  have hs := varsL_sorted xs
  have hnn : ∀ i, i < (varsL xs).length → 0 ≤ (varsL xs).getD i 0 := fun i hi => by
    have : (varsL xs).getD i 0 ∈ varsL xs := by simp only [List.getD, List.getElem?_eq_getElem hi, Option.getD_some]; exact List.getElem_mem hi
    obtain ⟨y, hy, hv, e⟩ := varsL_mem.1 this
    rw [← e]; exact h0 y hy hv
  have hlt : ∀ i j, i < j → j < (varsL xs).length → (varsL xs).getD i 0 < (varsL xs).getD j 0 := fun i j hij hj => by
    simp only [List.getD, List.getElem?_eq_getElem hj, List.getElem?_eq_getElem (Nat.lt_trans hij hj), Option.getD_some]
    exact List.pairwise_iff_getElem.1 hs i j _ hj hij
  have hl : -1 ≤ lastV (varsL xs) k := by
    unfold lastV
    split
    · omega
    · have := hnn (k - 1) (by omega); omega
  have hall : ∀ x ∈ xs, isVarB x.k = true → ∃ i, i < (varsL xs).length ∧ (varsL xs).getD i 0 = x.n := fun x hx hv => by
    have : x.n ∈ varsL xs := varsL_mem.2 ⟨x, hx, hv, rfl⟩
    obtain ⟨i, hi, e⟩ := List.getElem_of_mem this
    exact ⟨i, hi, by simp only [List.getD, List.getElem?_eq_getElem hi, Option.getD_some]; exact e⟩
  have hlast : ∀ i, i < (varsL xs).length → (lastV (varsL xs) k < (varsL xs).getD i 0 ↔ k ≤ i) := fun i hi => by
    unfold lastV
    split
    · have := hnn i hi; omega
    · constructor
      · intro h
        apply Classical.byContradiction
        intro hki
        rcases Nat.lt_or_eq_of_le (show i ≤ k - 1 by omega) with h2 | h2
        · have := hlt i (k - 1) h2 (by omega); omega
        · subst h2; omega
      · intro h
        exact hlt (k - 1) i (by omega) hi
  rcases bestV_spec hl xs (-1) (.inl rfl) with ⟨h1, _, h3⟩ | ⟨h1, h2, _, h4⟩
  · rw [h1, if_neg]
    intro hlk
    have hm : (varsL xs).getD k 0 ∈ varsL xs := by simp only [List.getD, List.getElem?_eq_getElem hlk, Option.getD_some]; exact List.getElem_mem hlk
    obtain ⟨y, hy, hv, e⟩ := varsL_mem.1 hm
    have := h3 y hy hv
    have h5 := (hlast k hlk).2 (Nat.le_refl _)
    omega
  · rcases h2 with h2 | ⟨x, hx, hv, hn⟩
    · rw [h2] at h1; omega
    · obtain ⟨i, hi, e⟩ := hall x hx hv
      have hki : k ≤ i := (hlast i hi).1 (by rw [e, hn]; exact h1)
      have hlk : k < (varsL xs).length := by omega
      rw [if_pos hlk]
      have hm : (varsL xs).getD k 0 ∈ varsL xs := by simp only [List.getD, List.getElem?_eq_getElem hlk, Option.getD_some]; exact List.getElem_mem hlk
      obtain ⟨y, hy, hvy, ey⟩ := varsL_mem.1 hm
      have h5 := (hlast k hlk).2 (Nat.le_refl _)
      have h6 := h4 y hy hvy (by omega)
      rcases Nat.lt_or_eq_of_le hki with h7 | rfl
      · have := hlt k i h7 hi; omega
      · omega
end Go.Proofs.Ytblfeokjlecgkaa

/- The document's Vars, walked. -/
namespace Go.Proofs.Ytblfeokjlecgkaa
open Go.RowKit

set_option maxRecDepth 100000 in
set_option maxHeartbeats 4000000 in
theorem rVars_any (A : Option Addr) (c : Nat) (xs : List Nd) (w : World) (ha : TyA w w.heap.size A xs) (hl : xs.length ≤ 1000000) (h0 : ∀ x ∈ xs, isVarB x.k = true → 0 ≤ x.n) :
    Calls Try.prog 71 #[.slice A xs.length c] w (VarsPost (varsL xs) w) := by
  have Ha := Lib.hid ha
  have Hn := Lib.hid (fun k (hk : k ≤ (varsL xs).length) => bestV_next (xs := xs) h0 hk)
  have HL := Lib.hid (varsL_le xs)
  have hge0 : Hid (∀ k, k < (varsL xs).length → 0 ≤ (varsL xs).getD k 0) := Lib.hid fun k hk => by
    have : (varsL xs).getD k 0 ∈ varsL xs := by simp only [List.getD, List.getElem?_eq_getElem hk, Option.getD_some]; exact List.getElem_mem hk
    obtain ⟨y, hy, hv, e⟩ := varsL_mem.1 this
    rw [← e]; exact h0 y hy hv
  clear ha h0
  go_enter Try.func71, Try.ntmps71
  go_wp2_with fail
  go_loopw [3, 4] (fun s3 s4 wr => ∃ (k : Nat) (A1 : Option Addr) (c1 : Nat) (out : List Int), s3 = .slice A1 out.length c1 ∧ s4 = .int .i64 (lastV (varsL xs) k) ∧ Hid (out.length = k) ∧
      Hid (k ≤ (varsL xs).length ∧ out = (varsL xs).take k ∧ OwnI wr w.heap.size A1 c1 out ∧ Below w.heap.size w wr)) (fun s3 _ _ => (varsL xs).length - lenOf s3)
  case atStart => exact ⟨0, some ⟨w.heap.size, 0, none⟩, 0, [], rfl, rfl, Lib.hid rfl, Lib.hid ⟨Nat.zero_le _, rfl, own_empty _ 1 encI w, ext_alloc (Below.refl _ _) _⟩⟩
  case round =>
    obtain ⟨k, A1, c1, out, rfl, rfl, hk, M⟩ := hrel
    have hnx := Lib.hid (Hn.out k M.out.1)
    generalize hlv : lastV (varsL xs) k = lv at *
    have Hlv := Lib.hid hlv
    clear hlv
    go_wp2_with fail
    go_loopw [5, 6] (fun s5 s6 wi => ∃ i : Nat, i ≤ xs.length ∧ s5 = .int .i64 (bestV lv (xs.take i) (-1)) ∧ s6 = .int .i64 i ∧ Hid (OwnI wi w.heap.size A1 c1 out ∧ Below w.heap.size w wi)) (fun _ s6 _ => xs.length - (intOf s6).toNat)
    case atStart => exact ⟨0, Nat.zero_le _, rfl, rfl, Lib.hid M.out.2.2⟩
    case round =>
      obtain ⟨i, hi, rfl, rfl, N⟩ := hrel
      by_cases hp : i < xs.length
      · obtain ⟨x, hx⟩ := getq_ex hp
        obtain ⟨b1, o1, rfl, hb1, c10, c11, c12⟩ := ((Ha.out.below N.out.2).more N.out.2.size).at_ hx
        have Hst := Lib.hid (bestV_step (last := lv) (b := -1) hx)
        have hT := Lib.hid (fun v (hb : Below w.heap.size w v) => ((Ha.out.below hb).more hb.size).at_ hx)
        clear hx
        generalize hbb : bestV lv (xs.take i) (-1) = bb at *
        have Hbb := Lib.hid hbb
        clear hbb
        go_wp2_with fail
        refine (rIsVar_any _ _ _ _).mono ?_
        rintro e w2 ⟨rfl, hb2⟩
        replace N := Lib.hid (⟨N.out.1.below hb2 (Nat.le_refl _), ext_trans N.out.2 hb2⟩ : OwnI w2 w.heap.size A1 c1 out ∧ Below w.heap.size w w2)
        obtain ⟨b2, o2, hA, _, d10, d11, d12⟩ := hT.out w2 N.out.2
        injection hA with hA
        injection hA with e1 e2 _
        subst e1 e2
        clear hb2
        cases h8 : isVarB x.k
        · have H8 := Lib.hid h8
          go_wp2_with fail
          go_roundw
          case rel => exact ⟨i + 1, hp, by rw [Hst.out, if_neg (by rw [H8.out]; simp)], by go_num, N⟩
          case measure => simp [intOf]; omega
        · have H8 := Lib.hid h8
          by_cases hg : lv < x.n
          · by_cases hb0 : bb < 0
            · go_wp2_with fail
              go_roundw
              case rel => exact ⟨i + 1, hp, by rw [Hst.out, if_pos ⟨H8.out, hg, .inl hb0⟩], by go_num, N⟩
              case measure => simp [intOf]; omega
            · by_cases hlb : x.n < bb
              · go_wp2_with fail
                go_roundw
                case rel => exact ⟨i + 1, hp, by rw [Hst.out, if_pos ⟨H8.out, hg, .inr hlb⟩], by go_num, N⟩
                case measure => simp [intOf]; omega
              · go_wp2_with fail
                go_roundw
                case rel => exact ⟨i + 1, hp, by rw [Hst.out, if_neg (by rintro ⟨_, _, h | h⟩ <;> omega)], by go_num, N⟩
                case measure => simp [intOf]; omega
          · go_wp2_with fail
            go_roundw
            case rel => exact ⟨i + 1, hp, by rw [Hst.out, if_neg (by rintro ⟨_, h, _⟩; omega)], by go_num, N⟩
            case measure => simp [intOf]; omega
      · have hix : i = xs.length := by omega
        have hbest : bestV lv (xs.take i) (-1) = bestV lv xs (-1) := by rw [hix, List.take_length]
        rw [hbest]
        clear hbest
        rw [hnx.out]
        by_cases hkl : k < (varsL xs).length
        · rw [if_pos hkl]
          have hge : 0 ≤ (varsL xs).getD k 0 := hge0.out k hkl
          have hlv1 := Lib.hid (lastV_succ (varsL xs) k)
          have hget := Lib.hid (show (varsL xs).take (k + 1) = (varsL xs).take k ++ [(varsL xs).getD k 0] by rw [List.take_add_one, List.getD, List.getElem?_eq_getElem hkl]; rfl)
          generalize (varsL xs).getD k 0 = z at *
          have hnl : ¬ z < 0 := by omega
          have M2 := Lib.hid M.out.2.1
          have h1m := HL.out
          have hkk := hk.out
          have hol : out.length ≤ 1000000 := by omega
          clear hkk
          go_wp2_with (at_builtin; refine wpList_appI rfl (.tmp 49) (.tmp 51) rfl w.heap.size (l := out) rfl (OwnL.alloc N.out.1 _) (l2 := [z]) rfl (readI_new _ z) (by simp; omega) (by have := N.out.2.size; simp; omega) ?_; intro A2 c2 w3 hown3 hg3 _)
          go_roundw
          case rel => exact ⟨k + 1, A2, c2, out ++ [z], by simp, by rw [hlv1.out], Lib.hid (by simp [hk.out]), Lib.hid ⟨hkl, by rw [hget.out, M2.out], hown3, ext_app (ext_alloc N.out.2 _) hg3 (fun q hq => (OwnL.block N.out.1 q hq).1)⟩⟩
          case measure => have := hk.out; simp [lenOf]; omega
        · rw [if_neg hkl]
          go_wp2_with fail
          go_ret
          have hlen : (varsL xs).take k = varsL xs := List.take_of_length_le (by omega)
          have ho := M.out.2.1
          rw [hlen] at ho
          subst ho
          exact ⟨A1, c1, rfl, OwnL.read encI_len N.out.1, N.out.2⟩
end Go.Proofs.Ytblfeokjlecgkaa

/- unify.Known, Var and Open, walked. -/
namespace Go.Proofs.Ytblfeokjlecgkaa
open Go.RowKit

attribute [local go_sem ↓] Go.wp_at_zero Go.wp_at_succ

set_option maxRecDepth 100000 in
set_option maxHeartbeats 4000000 in
theorem uVar_any (s m : Nat) (first : Int) (S : Kn) (w : World) (hS : SolAt (SX s m) s m first w S) (h0 : 0 ≤ S.m) (h1 : S.m + 1 ≤ 9223372036854775807) :
    Calls Try.prog 34 #[pk s] w fun e w' => ∃ A' c', e = .returned (.slice A' 1 c') ∧ OwnN w' w.heap.size A' c' [⟨8, ByteArray.empty, S.m⟩] ∧ Fr (SX s m) w w' ∧ ∀ S' : Kn, S'.κ = S.κ → S'.m = S.m + 1 → SolAt (SX s m) s m first w' S' := by
  have hf := Lib.hid (ufresh_any s m first S.m 8 w hS.st (by omega) h1)
  have HS := Lib.hid hS
  clear hS
  unfold pk at hf ⊢
  go_enter Try.func34, Try.ntmps34
  go_wp2_with fail
  refine hf.out.mono ?_
  clear hf
  rintro e w1 ⟨b, rfl, hb, hb2, hs, hfr⟩
  have c1 : w1.cell? ⟨b, 1, none⟩ = some (.int .i64 S.m) := by simp [World.cell?, hb2, bareNode]
  have zb : b < w1.heap.size := (Array.getElem?_eq_some_iff.1 hb2).1
  have G := Lib.hid (And.intro hs hfr)
  clear hs hfr hb2
  go_wp2_with fail
  go_ret
  refine ⟨_, _, rfl, (own_one w1 ⟨8, ByteArray.empty, S.m⟩).lower G.out.2.size, ((G.out.2.mono fun k e => .inl e).alloc _), fun S' hκ hm => (HS.out.fresh G.out.1 G.out.2 hκ hm).bel (ext_alloc (Below.refl _ _) _)⟩

end Go.Proofs.Ytblfeokjlecgkaa

/- Plain types told behind a run; types that hold for all that is told. -/
namespace Go.Proofs.Ytblfeokjlecgkaa

theorem mays_good {U : List Lb} {next : Int} {l : List Stp} (hU : ∀ y ∈ labsM l, y ∈ U) (h : maysB next l = true) : ∀ x ∈ l, GoodS U next x := fun x hx => by
  obtain ⟨_, _, _, _, h4, _⟩ := mays_parts h
  obtain ⟨a, b⟩ := mem_labsM hx
  exact good_of_may (hU _ (by simp [labsM])) (hU _ (by simp [labsM])) (hU _ a) (fun e => ⟨fun y hy => hU _ ((b e).1 y hy), fun y hy => hU _ ((b e).2 y hy)⟩) (h4 x hx)
/-- A plain node. -/
def plN (y : Nd) : Bool := !(y.k == 8) && !(y.k == 9)
theorem plN_told {m : Int} {y : Nd} (h : plN y = true) : toldN m y = true := by
  unfold plN at h
  simp only [Bool.and_eq_true, Bool.not_eq_true'] at h
  unfold toldN
  rw [h.1, h.2]
  rfl
theorem plain_told {U : List Lb} {t : List Nd} (hA : lA ∈ U) (hB : lB ∈ U) (hU : ∀ x ∈ t, x.s ∈ U) (hr : rightB t = true) (hp : ∀ x ∈ t, plN x = true) : Told U 0 (utT t) := told_of hA hB (gd_of hr).1 hU fun x hx => plN_told (hp x hx)
/-! ### Types for all variables -/
section
variable {types : List (List Nd)}
end
end Go.Proofs.Ytblfeokjlecgkaa

/- What is known of the first variables may be told again. -/
namespace Go.Proofs.Ytblfeokjlecgkaa

section
variable {U : List Lb} {S : Kn}
theorem chain_ex (h : KG U S) {k n : Int} {fs : Fl} {tl : Option Int} (h8 : k ≠ 8) (g : TG U S (.mk k n fs tl)) : ∃ x p, Chain S k fs tl x p ∧ ∀ q, p = some q → S.κ q = none := by
  obtain ⟨r, h1, h2⟩ := h.rk
  obtain rfl := okT_num g.pend.1 h8
  have key : ∀ (N : Nat) (x : Fl) (p : Option Int), Chain S k fs tl x p → (∀ q, p = some q → r q ≤ N) → ∃ x p, Chain S k fs tl x p ∧ ∀ q, p = some q → S.κ q = none := by
    intro N
    induction N with
    | zero =>
      intro x p c hp
      refine ⟨x, p, c, fun q hq => ?_⟩
      cases hk : S.κ q with
      | none => rfl
      | some t => have := (h2 q t hk).1; have := hp q hq; omega
    | succ N ih =>
      intro x p c hp
      cases p with
      | none => exact ⟨x, none, c, fun q hq => by cases hq⟩
      | some q =>
        cases hk : S.κ q with
        | none => exact ⟨x, some q, c, fun q' hq => by injection hq with hq; subst hq; exact hk⟩
        | some t =>
          obtain ⟨_, _, d, _⟩ := c.row h.inv h.fu h8 g.pend g.fu
          obtain ⟨_, ls, hls, _⟩ := d q rfl
          have hr := h.inv.row q t ls hk hls
          obtain ⟨k', n', gs, q'⟩ := t
          obtain rfl := okT_num (h.inv.dom q _ hk).2.1 hr.1
          refine ih _ _ (.more c hk) fun q2 hq2 => ?_
          have := (h2 q _ hk).2.2 ls q2 hls hq2
          have := hp q rfl
          omega
  cases tl with
  | none => exact ⟨fs, none, .here, fun q hq => by cases hq⟩
  | some q => exact key (r q) fs (some q) .here fun q' hq => by injection hq with hq; subst hq; exact Nat.le_refl _
theorem row_ex (h : KG U S) {t : Ut} (hr : isRowB t.k = true) (g : TG U S t) : ∃ x p, RowG U S t x p := by
  obtain ⟨k, n, fs, tl⟩ := t
  have h8 : k ≠ 8 := by rintro rfl; cases hr
  obtain ⟨x, p, c, hp⟩ := chain_ex h h8 g
  exact ⟨_, _, RowG.of_chain h h8 g c hp⟩
/-- What is known has numbers that are none below 0, and labels that are fit. -/
theorem tg_res (h : KG U S) : ∀ (N : Nat) (t : Ut), tsz (inst S.σ t) ≤ N → TG U S t → nnT (inst S.σ t) ∧ labT U (inst S.σ t) ∧ fuT S.L (inst S.σ t) := by
  intro N
  induction N with
  | zero =>
    intro t ht
    cases e : inst S.σ t with
    | mk k n fs tl => rw [e, tsz_mk] at ht; omega
  | succ N ih =>
    intro t ht g
    obtain ⟨u, hl⟩ := looks_ex h.rk t
    obtain ⟨gu, _, eu⟩ := hl.good h g
    rw [eu] at ht ⊢
    have hend := hl.end_
    clear eu hl g
    obtain ⟨k, n, fs, tl⟩ := u
    by_cases h8 : k = 8
    · obtain ⟨e, _⟩ := okT_shape gu.pend.1 h8
      have hun : S.κ n = none := hend h8
      rw [e, inst_var, (h.inv.unk n hun).1]
      have := gu.nn
      rw [e] at this
      exact ⟨this, labT_var U n, by rw [← e]; exact gu.fu⟩
    · cases hr : isRowB k with
      | false =>
        obtain ⟨rfl, rfl, hin⟩ := inst_plain (S := S) gu.pend.1 gu.sh h8 hr
        have hc : ∀ p ∈ fs, nnT (inst S.σ p.2) ∧ labT U (inst S.σ p.2) ∧ fuT S.L (inst S.σ p.2) := fun p hp => ih p.2 (by have := plain_less gu.pend.1 gu.sh h8 hr hp; omega) (gu.child hp)
        have hlb := gu.lb
        rw [labT_mk] at hlb
        rw [hin, nnT_mk, labT_mk, fuT_mk, mapF_labs]
        refine ⟨⟨fun e => absurd e h8, fun p hp => (by cases hp), fun p hp => ?_⟩, ⟨hlb.1, fun p hp => ?_⟩, fun q ls hq => (by cases hq), fun p hp => ?_⟩
        · obtain ⟨q, hq, rfl⟩ := List.mem_map.1 hp
          exact (hc q hq).1
        · obtain ⟨q, hq, rfl⟩ := List.mem_map.1 hp
          exact (hc q hq).2.1
        · obtain ⟨q, hq, rfl⟩ := List.mem_map.1 hp
          exact (hc q hq).2.2
      | true =>
        obtain ⟨x, p, r⟩ := row_ex (t := .mk k n fs tl) h hr gu
        have hc : ∀ c ∈ x, nnT (inst S.σ c.2) ∧ labT U (inst S.σ c.2) ∧ fuT S.L (inst S.σ c.2) := fun c hc => ih c.2 (by have := r.less hc; omega) (r.el c hc)
        rw [r.is, nnT_mk, labT_mk, fuT_mk, mapF_labs]
        refine ⟨⟨fun e => absurd e h8, r.nn, fun p hp => ?_⟩, ⟨r.lb, fun p hp => ?_⟩, fun q ls hq hls l hl => ?_, fun p hp => ?_⟩
        · obtain ⟨q, hq, rfl⟩ := List.mem_map.1 hp
          exact (hc q hq).1
        · obtain ⟨q, hq, rfl⟩ := List.mem_map.1 hp
          exact (hc q hq).2.1
        · obtain ⟨_, _, ls', e1, e2⟩ := r.of.tl q hq
          rw [hls] at e1
          injection e1 with e1
          subst e1
          exact (e2 l).1 hl
        · obtain ⟨q, hq, rfl⟩ := List.mem_map.1 hp
          exact (hc q hq).2.2
end

/-! ### No union is empty -/
/-! ### What is known is such a type as may be told -/
end Go.Proofs.Ytblfeokjlecgkaa

/- Rows of types stand while a solver is written. -/
namespace Go.Proofs.Ytblfeokjlecgkaa
open Go.RowKit

/-- A block in which no text and no slice lies. -/
structure OffR (w : World) (g : Nat) : Prop where
  cell : ∀ (o : Nat) (v : Value), w.cell? ⟨g, o, none⟩ = some v → (∀ l, v ≠ .string l) ∧ ∀ A n c, v ≠ .slice A n c
theorem solver_offR {w : World} {s m : Nat} {f n : Int} (h : w.heap[s]? = some (solverOf f n m)) : OffR w s := by
  refine ⟨fun o v hv => ?_⟩
  simp only [World.cell?, h, solverOf] at hv
  match o, hv with
  | 0, hv => simp at hv; subst hv; exact ⟨fun l e => (by cases e), fun A n c e => by cases e⟩
  | 1, hv => simp at hv; subst hv; exact ⟨fun l e => (by cases e), fun A n c e => by cases e⟩
  | 2, hv => simp at hv; subst hv; exact ⟨fun l e => (by cases e), fun A n c e => by cases e⟩
  | o + 3, hv => simp at hv
theorem map_offR {κ : Type} {kf : κ → Value} {w : World} {b : Nat} {l : List (κ × Value)} (h : KMap kf w b l) : OffR w b := by
  obtain ⟨es, ck, hm, _⟩ := h
  refine ⟨fun o v hv => ?_⟩
  have : w.cell? ⟨b, o, none⟩ = none := by simp [World.cell?, hm]
  rw [this] at hv
  cases hv
theorem SolG.offR {U : List Lb} {s m m0 : Nat} {w : World} {S : Kn} (h : SolG U s m m0 w S) : ∀ k, SX s m k → OffR w k := by
  rintro k (rfl | rfl)
  · exact solver_offR h.sol.st
  · obtain ⟨_, _, _, _, l, h5, _⟩ := h.sol
    exact map_offR h5
section
variable {X : Nat → Prop} {w w' : World}
theorem TyA.past {B : Nat} {A : Option Addr} {xs : List Nd} (h : TyA w B A xs) (hX : ∀ k, X k → OffR w k) (hf : Fr X w w') (hB : B ≤ w.heap.size) : TyA w' B A xs := by
  refine h.frame hf hB fun hne a ha hx => ?_
  cases xs with
  | nil => exact hne rfl
  | cons x xs =>
    obtain ⟨b1, o1, rfl, _, _, c1, _⟩ := h.at_ (i := 0) (x := x) rfl
    injection ha with ha
    subst ha
    exact ((hX b1 hx).cell _ _ c1).1 _ rfl
theorem ReadS.past {B : Nat} {V : Option Addr} {vs : List (Option Addr × Nat × Nat)} (h : ReadS w B V vs) (hX : ∀ k, X k → OffR w k) (hf : Fr X w w') (hB : B ≤ w.heap.size) : ReadS w' B V vs := fun hne => by
  obtain ⟨b, o, hA, hb, hr⟩ := h hne
  refine ⟨b, o, hA, hb, fun i x hx j u hu => ?_⟩
  refine (World.cell?_of_block (a := ⟨b, o + i * 1 + j, none⟩) (hf.block b (Nat.lt_of_lt_of_le hb hB) fun hx2 => ?_)).trans (hr i x hx j u hu)
  have hj : j = 0 := by have := getq_lt hu; rw [encS_len] at this; omega
  subst hj
  have h1 := hr i x hx 0 _ rfl
  exact ((hX b hx2).cell _ _ h1).2 _ _ _ rfl
theorem RowS.past {V : Option Addr} {vs : List (Option Addr × Nat × Nat)} {tss : List (List Nd)} (h : RowS V vs tss w) (hX : ∀ k, X k → OffR w k) (hf : Fr X w w') : RowS V vs tss w' :=
  ⟨(h.1.past hX hf (Nat.le_refl _)).more hf.size, ⟨h.2.1, fun i v xs hv hx => ⟨(h.2.2 i v xs hv hx).1, (((h.2.2 i v xs hv hx).2).past hX hf (Nat.le_refl _)).more hf.size⟩⟩⟩
end
/-- A law's steps that were told, all of them so far. -/
def ToldI (U : List Lb) (s m m0 : Nat) (l : List Stp) (i : Nat) (wr : World) : Prop := ∃ S, RunB U (m0 : Int) (l.take i) S ∧ SolG U s m m0 wr S
theorem ToldI.next {U : List Lb} {s m m0 : Nat} {l : List Stp} {i : Nat} {x : Stp} {w : World} {e : Ending} {w' : World} (hx : l[i]? = some x) (h : DoPost U s m m0 (l.take i) x w e w') : ∃ v : Int, e = .returned (.int .i64 v) ∧ (v = 0 ∨ v = 9) ∧ Fr (SX s m) w w' ∧ (v = 0 → ToldI U s m m0 l (i + 1) w') ∧ (v = 9 → Bad (m0 : Int) (allC (l.take (i + 1)))) := by
  obtain ⟨ok, rfl, hf, hno, hyes⟩ := h
  have e1 : l.take i ++ [x] = l.take (i + 1) := by rw [List.take_add_one, hx]; rfl
  rw [e1] at hno hyes
  cases ok with
  | false => exact ⟨9, rfl, .inr rfl, hf, fun e => (by cases e), fun _ => hno rfl⟩
  | true => exact ⟨0, rfl, .inl rfl, hf, fun _ => hyes rfl, fun e => by cases e⟩
theorem Stps.more {w : World} {B B' : Nat} {vs : List StV} {xs : List Stp} (h : Stps w B vs xs) (hB : B ≤ B') : Stps w B' vs xs := ⟨h.1, fun i v x hv hx => by
  have h := h.2 i v x hv hx
  exact ⟨h.l, h.k, h.n, h.m, h.al, h.aa.more hB, h.ac, h.bl, h.ba.more hB, h.bc⟩⟩
end Go.Proofs.Ytblfeokjlecgkaa

/- Rows that grow side by side: a row of types and a row of labels, and what lies beside them. -/
namespace Go.Proofs.Ytblfeokjlecgkaa
open Go.RowKit







abbrev OwnT (w : World) (base : Nat) (A : Option Addr) (cap : Nat) (l : List ByteArray) : Prop := OwnL 9 1 encT w base A cap l

section
variable {w : World} {ops : Array Oper} {rest : List Oper} {o : Oper} {a : Act} {Q : Exit → Act → World → Prop}
end

/-- What stands while parts and labels are laid behind one another. -/
structure StQ (w0 : World) (A0 : Option Addr) (T : List Nd) (K : Option Addr) (ck : Nat) (kl : List Int) (V : Option Addr) (cv : Nat) (vs : List (Option Addr × Nat × Nat)) (ps : List (List Nd)) (L : Option Addr) (cl : Nat) (ls : List ByteArray) (w : World) : Prop where
  ext : Below w0.heap.size w0 w
  t : TyA w w0.heap.size A0 T
  k : OwnI w w0.heap.size K ck kl
  v : OwnS w w0.heap.size V cv vs
  l : OwnT w w0.heap.size L cl ls
  s : Sls w w.heap.size vs ps
  b : ∀ q ∈ vs, ∀ a, q.1 = some a → a.block < w.heap.size
  vl : Off V L
  vk : Off V K
  lk : Off L K
  ov : ∀ q ∈ vs, Off V q.1
  ol : ∀ q ∈ vs, Off L q.1

section
variable {w0 w w' : World} {A0 K V V' L L' Aq : Option Addr} {T P : List Nd} {ck cv cv' cl cl' cq n' : Nat} {kl : List Int} {vs : List (Option Addr × Nat × Nat)} {ps : List (List Nd)} {ls : List ByteArray} {s : ByteArray}

theorem StQ.step (h : StQ w0 A0 T K ck kl V cv vs ps L cl ls w) (hb : Below w.heap.size w w') : StQ w0 A0 T K ck kl V cv vs ps L cl ls w' where
  ext := ext_trans h.ext hb
  t := h.t.below (hb.mono h.ext.size)
  k := h.k.below hb (Nat.le_refl _)
  v := h.v.below hb (Nat.le_refl _)
  l := h.l.below hb (Nat.le_refl _)
  s := ⟨h.s.1, fun i q xs hq hx => ⟨(h.s.2 i q xs hq hx).1, ((h.s.2 i q xs hq hx).2.below hb).more hb.size⟩⟩
  b := fun q hq a ha => Nat.lt_of_lt_of_le (h.b q hq a ha) hb.size
  vl := h.vl
  vk := h.vk
  lk := h.lk
  ov := h.ov
  ol := h.ol

/-- A part that was just made. -/
structure PartQ (w : World) (V L Aq : Option Addr) (P : List Nd) : Prop where
  t : TyA w w.heap.size Aq P
  ov : Off V Aq
  ol : Off L Aq
  b : ∀ a, Aq = some a → a.block < w.heap.size

theorem PartQ.step (h : PartQ w V L Aq P) (hb : Below w.heap.size w w') : PartQ w' V L Aq P :=
  ⟨(h.t.below hb).more hb.size, h.ov, h.ol, fun a ha => Nat.lt_of_lt_of_le (h.b a ha) hb.size⟩

theorem StQ.part (h : StQ w0 A0 T K ck kl V cv vs ps L cl ls w) (ho : OwnN w' w.heap.size Aq cq P) : PartQ w' V L Aq P :=
  ⟨OwnL.tyA ho, fun a b ha hb e => by have h1 := (OwnL.lt h.v a ha).2; have h2 := (OwnL.lt ho b hb).1; omega, fun a b ha hb e => by have h1 := (OwnL.lt h.l a ha).2; have h2 := (OwnL.lt ho b hb).1; omega, fun a ha => (OwnL.lt ho a ha).2⟩



end
end Go.Proofs.Ytblfeokjlecgkaa

/- leavenref07: kids, alike, Agree, Plain, walked. -/
namespace Go.Proofs.Ytblfeokjlecgkaa
open Go.RowKit

theorem kidsL_fo {a t : List Nd} (ha : Fo 1 a) (h : t ∈ kidsL a) : Fo 1 t := by
  cases a with
  | nil => simp [kidsL] at h
  | cons x ks =>
    obtain ⟨k1, rs, e, h1, h2⟩ := ha.uncons
    rw [h2.of_zero, List.append_nil] at e
    subst e
    exact (trees_of h1).one t h
/-- A tree of nodes that a walk may take apart. -/
structure TrW (T : List Nd) : Prop where
  fo : Fo 1 T
  ok : okAll T
theorem TrW.kid {T t : List Nd} (h : TrW T) (ht : t ∈ kidsL T) : TrW t := by
  refine ⟨kidsL_fo h.fo ht, fun y hy => h.ok y ?_⟩
  cases T with
  | nil => simp [kidsL] at ht
  | cons x ks =>
    obtain ⟨k1, rs, e, h1, h2⟩ := h.fo.uncons
    rw [h2.of_zero, List.append_nil] at e
    subst e
    have := (trees_of h1).flat
    refine List.mem_cons_of_mem _ ?_
    rw [← this]
    exact List.mem_flatten.2 ⟨t, ht, hy⟩
theorem TrW.bare {T : List Nd} (h : TrW T) : TrW (bareN T) := by
  cases T with
  | nil => exact h
  | cons x ks => exact ⟨h.fo, fun y hy => by
      rcases List.mem_cons.1 hy with rfl | hy
      · exact h.ok x (by simp)
      · exact h.ok y (by simp [hy])⟩
theorem bel_drewN (w : World) (n : Nat) : Below w.heap.size w (w.drewN n) := ((Fr.refl (fun _ => False) w).drewN n).toBelow fun _ e => e.elim
/-! ### Agree -/
end Go.Proofs.Ytblfeokjlecgkaa

/- leavenref07.Plain, walked. -/
namespace Go.Proofs.Ytblfeokjlecgkaa
open Go.RowKit

def plain07B (xs : List Nd) (m : Int) : Bool := fewB xs m && plainB xs
theorem plain07_parts {xs : List Nd} {m : Int} (h : plain07B xs m = true) : (xs.length : Int) ≤ m ∧ rightB xs = true ∧ ∀ x ∈ xs, plN x = true := by
  unfold plain07B at h
  rw [Bool.and_eq_true] at h
  obtain ⟨h1, _, h3⟩ := fewB_parts h.1
  refine ⟨h1, by rw [← right_eq]; exact h3, fun x hx => ?_⟩
  have h4 := h.2
  unfold plainB at h4
  rw [List.all_eq_true] at h4
  have := h4 x hx
  unfold isVarB at this
  unfold plN
  simpa using this

set_option maxRecDepth 100000 in
set_option maxHeartbeats 2000000 in
theorem plain07_any (A : Option Addr) (c : Nat) (xs : List Nd) (m : Int) (w : World) (ha : TyA w w.heap.size A xs) (hl : xs.length ≤ 9223372036854775807) (hs : ∀ x ∈ xs, x.s.size ≤ 9223372036854775807) :
    Calls Try.prog 31 #[.slice A xs.length c, .int .i64 m] w fun e w' => e = .returned (.bool (plain07B xs m)) ∧ Below w.heap.size w w' := by
  have Hs := Lib.hid hs
  clear hs
  by_cases h0 : (xs.length : Int) ≤ m
  · have h0' : ¬ m < (xs.length : Int) := by omega
    have H0 := Lib.hid h0
    clear h0
    go_enter Try.func31, Try.ntmps31
    go_wp2_with fail
    go_loop [5] (fun i => ∃ k : Nat, k ≤ xs.length ∧ i = .int .i64 k ∧ Hid (allFrom shortB xs k = xs.all shortB)) (fun i => xs.length - (intOf i).toNat)
    case atStart => exact ⟨0, Nat.zero_le _, rfl, Lib.hid rfl⟩
    case round =>
      clear h0'
      obtain ⟨k, hk, rfl, hgood⟩ := hrel
      by_cases hp : k < xs.length
      · obtain ⟨x, hx⟩ := getq_ex hp
        have hstep := Lib.hid (allFrom_step (p := shortB) hx)
        have hxs := Hs.out x (List.mem_of_getElem? hx)
        obtain ⟨b1, o1, rfl, hb1, c10, c11, c12⟩ := ha.at_ hx
        clear hx
        by_cases h100 : x.s.size ≤ 100
        · have h100' : ¬ (100 : Int) < (x.s.size : Int) := by omega
          have H := Lib.hid h100
          clear h100
          go_wp2_with fail
          go_round
          case rel => exact ⟨k + 1, hp, by go_num, Lib.hid (by rw [← hgood.out, hstep.out]; simp [shortB, H.out])⟩
          case measure => simp [intOf]; omega
        · have h100' : (100 : Int) < (x.s.size : Int) := by omega
          have H := Lib.hid h100
          clear h100
          go_wp2_with fail
          go_ret
          exact ⟨ret_bool (by
            have e : xs.all shortB = false := by rw [← hgood.out, hstep.out]; simp [shortB, H.out]
            unfold plain07B fewB; rw [e]; simp), Below.refl _ _⟩
      · have hend := Lib.hid (allFrom_end (p := shortB) hp)
        go_wp2_with fail
        refine (rRight_any A c xs _ ha hl Hs.out).mono ?_
        rintro e w1 ⟨rfl, hb⟩
        have B1 := Lib.hid hb
        have T1 := Lib.hid ((ha.below hb).more hb.size)
        clear hb
        cases hr : rRightB xs with
        | false =>
          have HR := Lib.hid hr
          clear hr
          go_wp2_with fail
          go_ret
          exact ⟨ret_bool (by unfold plain07B fewB; rw [HR.out]; simp), B1.out⟩
        | true =>
          have HR := Lib.hid hr
          clear hr
          go_wp2_with fail
          refine (rPlain_any A c w1.heap.size xs w1 T1.out hl).mono ?_
          rintro e w2 ⟨rfl, rfl⟩
          go_wp2_with fail
          go_ret
          exact ⟨ret_bool (by
            have e : xs.all shortB = true := by rw [← hgood.out, hend.out]
            unfold plain07B fewB; rw [e, HR.out, decide_eq_true H0.out]; simp), B1.out⟩
  · have h0' : m < (xs.length : Int) := by omega
    have H0 := Lib.hid h0
    clear h0
    go_enter Try.func31, Try.ntmps31
    go_wp2_with fail
    go_ret
    exact ⟨ret_bool (by unfold plain07B fewB; rw [decide_eq_false (by have := H0.out; omega)]; rfl), Below.refl _ _⟩
end Go.Proofs.Ytblfeokjlecgkaa

/- What a law asks of fresh variables: Has, walked; what is known of arrows. -/
namespace Go.Proofs.Ytblfeokjlecgkaa
open Go.RowKit

theorem has_any (A : Option Addr) (c : Nat) (xs : List Nd) (n : Int) (w : World) (ha : TyA w w.heap.size A xs) (hl : xs.length ≤ 1000000) (h0 : ∀ x ∈ xs, isVarB x.k = true → 0 ≤ x.n) :
    Calls Try.prog 35 #[.slice A xs.length c, .int .i64 n] w fun e w' => e = .returned (.bool (decide (n ∈ varsL xs))) ∧ Below w.heap.size w w' := by
  have hv := Lib.hid (rVars_any A c xs w ha hl h0)
  have hvl := Lib.hid (varsL_le xs)
  clear ha h0
  go_enter Try.func35, Try.ntmps35
  go_wp2_with fail
  refine hv.out.mono ?_
  clear hv
  rintro e w1 ⟨A', c', rfl, hr, hb⟩
  have hvl2 : (varsL xs).length ≤ 9223372036854775807 := by have := hvl.out; omega
  have hin := Lib.hid (in_any A' c' w1.heap.size (varsL xs) n w1 hr hvl2)
  have B := Lib.hid hb
  clear hr hb hvl2
  go_wp2_with fail
  refine hin.out.mono ?_
  rintro e w2 ⟨rfl, rfl⟩
  go_wp2_with fail
  go_ret
  exact ⟨rfl, B.out⟩
/-- Numbers of a known type are below the next one. -/
theorem known_has {U : List Lb} {m0 : Int} {C : Va → Prop} {S : Kn} (h : Run U m0 C S) {n : Int} (h0 : 0 ≤ n) (hn : n < m0) {v : Int} (hv : S.m ≤ v) : decide (v ∈ varsL (flT ByteArray.empty (S.σ.v n))) = false ∧ ∀ x ∈ flT ByteArray.empty (S.σ.v n), isVarB x.k = true → 0 ≤ x.n := by
  constructor
  · rw [decide_eq_false_iff_not, varsL_mem]
    rintro ⟨y, hy, hyv, e⟩
    exact known_low h hn hv y hy hyv e
  · intro x hx hxv
    have hL := h.most.sort n hn
    have hvar := h.kg.var hL h0 (by have := h.most.m; omega)
    have hnn := (tg_res h.kg _ (varT n) (Nat.le_refl _) hvar).1
    rw [inst_var] at hnn
    have ho : occN x.n (S.σ.v n) := (occ_fl x.n _ (h.kg.sh.σ.v _ hL) _).2 ⟨x, hx, hxv, rfl⟩
    have key : ∀ t, nnT t → occN x.n t → 0 ≤ x.n := by
      refine Ut.ind fun k n fs tl ih hb ho => ?_
      rw [nnT_mk] at hb
      rw [occN_mk] at ho
      rcases ho with ⟨h8, e⟩ | e | ⟨p, hp, ho⟩
      · have := hb.1 h8; omega
      · exact hb.2.1 _ e
      · exact ih p hp (hb.2.2 p hp) ho
    exact key _ hnn ho
theorem fl_arr (s : Lb) (a b : Ut) : flT s (arrT a b) = ⟨5, s, 0⟩ :: (flT ByteArray.empty a ++ flT ByteArray.empty b) := by
  unfold arrT
  rw [flT_mk, if_neg (by decide), flE_cons, flE_cons, flE_nil, List.append_nil]
/-- A plain static type: known of fresh variables. -/
theorem arrow_gd {a b : List Nd} (ha : GdT a) (hb : GdT b) (ea : (headNd a).s = ByteArray.empty) (eb : (headNd b).s = ByteArray.empty) : GdT (arrowN a b) ∧ utT (arrowN a b) = arrT (utT a) (utT b) := by
  have tr : Trees (manyN ⟨5, ByteArray.empty, 0⟩) [a, b].flatten [a, b] := by
    refine ⟨rfl, rfl, fun ts hts => ?_⟩
    simp only [List.mem_cons, List.not_mem_nil, or_false] at hts
    rcases hts with rfl | rfl
    · exact ha.fo
    · exact hb.fo
  have e1 := lt_app (L := [a, b]) (tl := none) fun t ht => by
    simp only [List.mem_cons, List.not_mem_nil, or_false] at ht
    rcases ht with rfl | rfl
    · exact gd_k9 ha
    · exact gd_k9 hb
  simp only [tailN, List.map_nil, List.append_nil] at e1
  have efl : arrowN a b = ⟨5, ByteArray.empty, 0⟩ :: [a, b].flatten := by simp [arrowN]
  rw [efl]
  constructor
  · refine .mk _ _ (by rfl) (by show (5 : Int) ≠ 9; decide) tr (fun ts hts => ?_) (fun e => by cases e) (fun _ => ⟨e1.2, fun l hl => ?_⟩) (fun ts hts => by rw [e1.2] at hts; cases hts)
    · rw [e1.1] at hts
      simp only [List.mem_cons, List.not_mem_nil, or_false] at hts
      rcases hts with rfl | rfl
      · exact ha
      · exact hb
    · simp only [labsT, List.map_cons, List.map_nil, List.mem_cons, List.not_mem_nil, or_false] at hl
      rcases hl with rfl | rfl
      · exact ea
      · exact eb
  · rw [utT_cons tr, e1.1]
    have ht : tlU [a, b] = none := by unfold tlU; rw [e1.2]; rfl
    rw [ht]
    rfl
end Go.Proofs.Ytblfeokjlecgkaa
