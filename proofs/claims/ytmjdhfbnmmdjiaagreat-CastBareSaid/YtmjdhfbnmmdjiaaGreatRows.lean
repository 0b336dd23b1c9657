/-
  No cell of these rows narrows 'for every input' (looked for: loops, veiled, ifaces, maps, wideKeys, modest, calm, conditions, laid).
  DERIVED. THE GIVEN ROWS OF THIS SEAT. 6 by the template 'for every input the law returns true; each argument reads behind the call as it read before'; 0 by the template 'total and deterministic' (their statements: YtmjdhfbnmmdjiaaGreatTotals.lean).
  GIVEN WITH THE SEED: the statements are not yours to turn. If you find one false, say at which input.
  Laid BY PROGRAM, IN A SANDBOX (cutbox-rows.mjs): the forced cells as the released guide's own fill.sh prints them over the translation 5caa0b778f7c0a2b… (all of the seat's roots in one cut). By AI agents, Wed Nov 11 2026. No macro, syntax, notation, axiom, sorry.
-/
import Derived.Test.YtmjdhfbnmmdjiaaGreatChecked
import GoSem.Claim
import GoSem.ClaimJoined
import GoSem.ClaimMapViews
import Derived.JoinedTies
import Derived.KernelRfl
namespace Go.Proofs.YtmjdhfbnmmdjiaaGreat
/- THE CELL 'sum', in the pinned program and in every row, IS THE sha256 OF THE DUMP (.gsa) THAT YtmjdhfbnmmdjiaaGreatProg.lean LOADS. Nothing in Lean hashes anything: it is a label: what it is worth is what the hold of that sum in a sandbox is worth. -/
noncomputable def Tryz.pinned : Pinned := { name := "ytmjdhfbnmmdjiaagreat", sum := "5caa0b778f7c0a2bab82bf9a39c46b07edb52bda4e3b51d05f4064dcb8459ea4", checked := Tryz.checked }
namespace Rows
def none {H : Type} : Left H := { results := [], args := [] }

/-- 'leavenlaw10.CheckPlain': WHATEVER THE INPUT: true; the input reads as it did. -/
def checkPlainSpec : ChangeSpec := { name := "checkPlain", fn := fun _ => fun
  | [d1, d2] => { results := [.lit (.bool true)], args := [d1, d2] }
  | _ => none }
def checkPlainRow : OpenClaim := { program := "ytmjdhfbnmmdjiaagreat", sum := "5caa0b778f7c0a2bab82bf9a39c46b07edb52bda4e3b51d05f4064dcb8459ea4", func := "leaven/leavenlaw10.CheckPlain", spec := "checkPlain", unfollowed := true, recurses := true, apart := false }
def CheckPlainSaid : Prop := checkPlainRow.holds Tryz.pinned (OpenSpec.ofChange checkPlainSpec)

/-- ITS FALSE NEIGHBOUR: 'it returns false'. Refute it at one input. -/
def checkPlainWrong : ChangeSpec := { name := "checkPlain", fn := fun _ => fun
  | [d1, d2] => { results := [.lit (.bool false)], args := [d1, d2] }
  | _ => none }
def CheckPlainWrongFalsely : Prop := checkPlainRow.holds Tryz.pinned (OpenSpec.ofChange checkPlainWrong)

/-- 'leavenlaw10.CheckNames': WHATEVER THE INPUT: true; the input reads as it did. -/
def checkNamesSpec : ChangeSpec := { name := "checkNames", fn := fun _ => fun
  | [d1, d2, d3] => { results := [.lit (.bool true)], args := [d1, d2, d3] }
  | _ => none }
def checkNamesRow : OpenClaim := { program := "ytmjdhfbnmmdjiaagreat", sum := "5caa0b778f7c0a2bab82bf9a39c46b07edb52bda4e3b51d05f4064dcb8459ea4", func := "leaven/leavenlaw10.CheckNames", spec := "checkNames", unfollowed := true, recurses := true, apart := false }
def CheckNamesSaid : Prop := checkNamesRow.holds Tryz.pinned (OpenSpec.ofChange checkNamesSpec)

/-- ITS FALSE NEIGHBOUR: 'it returns false'. Refute it at one input. -/
def checkNamesWrong : ChangeSpec := { name := "checkNames", fn := fun _ => fun
  | [d1, d2, d3] => { results := [.lit (.bool false)], args := [d1, d2, d3] }
  | _ => none }
def CheckNamesWrongFalsely : Prop := checkNamesRow.holds Tryz.pinned (OpenSpec.ofChange checkNamesWrong)

/-- 'leavenlaw18.CastTyped': WHATEVER THE INPUT: true; the input reads as it did. -/
def castTypedSpec : ChangeSpec := { name := "castTyped", fn := fun _ => fun
  | [d1, d2] => { results := [.lit (.bool true)], args := [d1, d2] }
  | _ => none }
def castTypedRow : OpenClaim := { program := "ytmjdhfbnmmdjiaagreat", sum := "5caa0b778f7c0a2bab82bf9a39c46b07edb52bda4e3b51d05f4064dcb8459ea4", func := "leaven/leavenlaw18.CastTyped", spec := "castTyped", unfollowed := true, recurses := true, apart := false }
def CastTypedSaid : Prop := castTypedRow.holds Tryz.pinned (OpenSpec.ofChange castTypedSpec)

/-- ITS FALSE NEIGHBOUR: 'it returns false'. Refute it at one input. -/
def castTypedWrong : ChangeSpec := { name := "castTyped", fn := fun _ => fun
  | [d1, d2] => { results := [.lit (.bool false)], args := [d1, d2] }
  | _ => none }
def CastTypedWrongFalsely : Prop := castTypedRow.holds Tryz.pinned (OpenSpec.ofChange castTypedWrong)

/-- 'leavenlaw18.CastBare': WHATEVER THE INPUT: true; the input reads as it did. -/
def castBareSpec : ChangeSpec := { name := "castBare", fn := fun _ => fun
  | [d1, d2] => { results := [.lit (.bool true)], args := [d1, d2] }
  | _ => none }
def castBareRow : OpenClaim := { program := "ytmjdhfbnmmdjiaagreat", sum := "5caa0b778f7c0a2bab82bf9a39c46b07edb52bda4e3b51d05f4064dcb8459ea4", func := "leaven/leavenlaw18.CastBare", spec := "castBare", unfollowed := true, recurses := true, apart := false }
def CastBareSaid : Prop := castBareRow.holds Tryz.pinned (OpenSpec.ofChange castBareSpec)

/-- ITS FALSE NEIGHBOUR: 'it returns false'. Refute it at one input. -/
def castBareWrong : ChangeSpec := { name := "castBare", fn := fun _ => fun
  | [d1, d2] => { results := [.lit (.bool false)], args := [d1, d2] }
  | _ => none }
def CastBareWrongFalsely : Prop := castBareRow.holds Tryz.pinned (OpenSpec.ofChange castBareWrong)

/-- 'leavenlaw18.CastStatic': WHATEVER THE INPUT: true; the input reads as it did. -/
def castStaticSpec : ChangeSpec := { name := "castStatic", fn := fun _ => fun
  | [d1, d2] => { results := [.lit (.bool true)], args := [d1, d2] }
  | _ => none }
def castStaticRow : OpenClaim := { program := "ytmjdhfbnmmdjiaagreat", sum := "5caa0b778f7c0a2bab82bf9a39c46b07edb52bda4e3b51d05f4064dcb8459ea4", func := "leaven/leavenlaw18.CastStatic", spec := "castStatic", unfollowed := true, recurses := true, apart := false }
def CastStaticSaid : Prop := castStaticRow.holds Tryz.pinned (OpenSpec.ofChange castStaticSpec)

/-- ITS FALSE NEIGHBOUR: 'it returns false'. Refute it at one input. -/
def castStaticWrong : ChangeSpec := { name := "castStatic", fn := fun _ => fun
  | [d1, d2] => { results := [.lit (.bool false)], args := [d1, d2] }
  | _ => none }
def CastStaticWrongFalsely : Prop := castStaticRow.holds Tryz.pinned (OpenSpec.ofChange castStaticWrong)

/-- 'leavenlaw18.CastParts': WHATEVER THE INPUT: true; the input reads as it did. -/
def castPartsSpec : ChangeSpec := { name := "castParts", fn := fun _ => fun
  | [d1, d2] => { results := [.lit (.bool true)], args := [d1, d2] }
  | _ => none }
def castPartsRow : OpenClaim := { program := "ytmjdhfbnmmdjiaagreat", sum := "5caa0b778f7c0a2bab82bf9a39c46b07edb52bda4e3b51d05f4064dcb8459ea4", func := "leaven/leavenlaw18.CastParts", spec := "castParts", unfollowed := true, recurses := true, apart := false }
def CastPartsSaid : Prop := castPartsRow.holds Tryz.pinned (OpenSpec.ofChange castPartsSpec)

/-- ITS FALSE NEIGHBOUR: 'it returns false'. Refute it at one input. -/
def castPartsWrong : ChangeSpec := { name := "castParts", fn := fun _ => fun
  | [d1, d2] => { results := [.lit (.bool false)], args := [d1, d2] }
  | _ => none }
def CastPartsWrongFalsely : Prop := castPartsRow.holds Tryz.pinned (OpenSpec.ofChange castPartsWrong)

/- THE SECOND FORM. 'bulk': how many values and letters a reading holds, each counted each time it is reached (what is shared counts as often as it is met; a slice's spare places count too). A statement '..UptoSaid' is the law's where the arguments, and the package variables that the reading takes, are together of bulk at most 1048576: NARROWER than '..Said'. Prove '..Said' where nothing that the law and all that it calls make is longer than what came in: it says more and counts as full. Else prove '..UptoSaid'. A law counts once. -/
mutual
def uptoBulk {H : Type} : DataW H → Nat
  | .lit (.string bytes) => bytes.length + 1
  | .lit _ => 1
  | .nil => 1
  | .ptr d => uptoBulk d + 1
  | .slice elems spare => uptoBulkAll elems + uptoBulkAll spare + 1
  | .agg parts => uptoBulkAll parts + 1
  | .iface _ d => uptoBulk d + 1
  | .map entries => uptoBulkEntries entries + 1
  | .held _ => 1
def uptoBulkAll {H : Type} : List (DataW H) → Nat
  | [] => 0
  | d :: r => uptoBulk d + uptoBulkAll r
def uptoBulkEntries {H : Type} : List (Lit × DataW H) → Nat
  | [] => 0
  | x :: r => uptoBulkEntry x + uptoBulkEntries r
def uptoBulkEntry {H : Type} : Lit × DataW H → Nat
  | (.string bytes, d) => bytes.length + uptoBulk d + 1
  | (_, d) => uptoBulk d + 1
 end
def uptoSmall : (H : Type) → List (DataW H) → Bool := fun _ ds => decide (uptoBulkAll ds ≤ 1048576)
def OpenSpec.upto (s : _root_.Go.ChangeSpec) : _root_.Go.OpenSpec := { _root_.Go.OpenSpec.ofChange s with cond := some uptoSmall }

/-- 'leavenlaw10.CheckPlain', WHERE WHAT IT READS IS OF BULK AT MOST 1048576: true; the input reads as it did. -/
def checkPlainUptoRow : OpenClaim := { program := "ytmjdhfbnmmdjiaagreat", sum := "5caa0b778f7c0a2bab82bf9a39c46b07edb52bda4e3b51d05f4064dcb8459ea4", func := "leaven/leavenlaw10.CheckPlain", spec := "checkPlain", unfollowed := true, recurses := true, apart := false, narrowed := true }
def CheckPlainUptoSaid : Prop := checkPlainUptoRow.holds Tryz.pinned (OpenSpec.upto checkPlainSpec)

/-- 'leavenlaw10.CheckNames', WHERE WHAT IT READS IS OF BULK AT MOST 1048576: true; the input reads as it did. -/
def checkNamesUptoRow : OpenClaim := { program := "ytmjdhfbnmmdjiaagreat", sum := "5caa0b778f7c0a2bab82bf9a39c46b07edb52bda4e3b51d05f4064dcb8459ea4", func := "leaven/leavenlaw10.CheckNames", spec := "checkNames", unfollowed := true, recurses := true, apart := false, narrowed := true }
def CheckNamesUptoSaid : Prop := checkNamesUptoRow.holds Tryz.pinned (OpenSpec.upto checkNamesSpec)

/-- 'leavenlaw18.CastTyped', WHERE WHAT IT READS IS OF BULK AT MOST 1048576: true; the input reads as it did. -/
def castTypedUptoRow : OpenClaim := { program := "ytmjdhfbnmmdjiaagreat", sum := "5caa0b778f7c0a2bab82bf9a39c46b07edb52bda4e3b51d05f4064dcb8459ea4", func := "leaven/leavenlaw18.CastTyped", spec := "castTyped", unfollowed := true, recurses := true, apart := false, narrowed := true }
def CastTypedUptoSaid : Prop := castTypedUptoRow.holds Tryz.pinned (OpenSpec.upto castTypedSpec)

/-- 'leavenlaw18.CastBare', WHERE WHAT IT READS IS OF BULK AT MOST 1048576: true; the input reads as it did. -/
def castBareUptoRow : OpenClaim := { program := "ytmjdhfbnmmdjiaagreat", sum := "5caa0b778f7c0a2bab82bf9a39c46b07edb52bda4e3b51d05f4064dcb8459ea4", func := "leaven/leavenlaw18.CastBare", spec := "castBare", unfollowed := true, recurses := true, apart := false, narrowed := true }
def CastBareUptoSaid : Prop := castBareUptoRow.holds Tryz.pinned (OpenSpec.upto castBareSpec)

/-- 'leavenlaw18.CastStatic', WHERE WHAT IT READS IS OF BULK AT MOST 1048576: true; the input reads as it did. -/
def castStaticUptoRow : OpenClaim := { program := "ytmjdhfbnmmdjiaagreat", sum := "5caa0b778f7c0a2bab82bf9a39c46b07edb52bda4e3b51d05f4064dcb8459ea4", func := "leaven/leavenlaw18.CastStatic", spec := "castStatic", unfollowed := true, recurses := true, apart := false, narrowed := true }
def CastStaticUptoSaid : Prop := castStaticUptoRow.holds Tryz.pinned (OpenSpec.upto castStaticSpec)

/-- 'leavenlaw18.CastParts', WHERE WHAT IT READS IS OF BULK AT MOST 1048576: true; the input reads as it did. -/
def castPartsUptoRow : OpenClaim := { program := "ytmjdhfbnmmdjiaagreat", sum := "5caa0b778f7c0a2bab82bf9a39c46b07edb52bda4e3b51d05f4064dcb8459ea4", func := "leaven/leavenlaw18.CastParts", spec := "castParts", unfollowed := true, recurses := true, apart := false, narrowed := true }
def CastPartsUptoSaid : Prop := castPartsUptoRow.holds Tryz.pinned (OpenSpec.upto castPartsSpec)

end Rows
end Go.Proofs.YtmjdhfbnmmdjiaaGreat
