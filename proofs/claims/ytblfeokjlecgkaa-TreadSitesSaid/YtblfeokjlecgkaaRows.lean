/-
  No cell of these rows narrows 'for every input' (looked for: loops, veiled, ifaces, maps, wideKeys, modest, calm, conditions, laid).
  DERIVED. THE GIVEN ROWS OF THIS SEAT. 12 by the template 'for every input the law returns true; each argument reads behind the call as it read before'; 0 by the template 'total and deterministic' (their statements: YtblfeokjlecgkaaTotals.lean).
  GIVEN WITH THE SEED: the statements are not yours to turn. If you find one false, say at which input.
  Laid BY PROGRAM, IN A SANDBOX (cutbox-rows.mjs): the forced cells as the released guide's own fill.sh prints them over the translation b0fbbdb2de836bd0… (all of the seat's roots in one cut). By AI agents, Wed Nov 11 2026. No macro, syntax, notation, axiom, sorry.
-/
import Derived.Test.YtblfeokjlecgkaaChecked
import GoSem.Claim
import GoSem.ClaimJoined
import GoSem.ClaimMapViews
import Derived.JoinedTies
import Derived.KernelRfl
namespace Go.Proofs.Ytblfeokjlecgkaa
/- THE CELL 'sum', in the pinned program and in every row, IS THE sha256 OF THE DUMP (.gsa) THAT YtblfeokjlecgkaaProg.lean LOADS. Nothing in Lean hashes anything: it is a label: what it is worth is what the hold of that sum in a sandbox is worth. -/
noncomputable def Try.pinned : Pinned := { name := "ytblfeokjlecgkaa", sum := "b0fbbdb2de836bd0d638745b10971c80520a637a8594b41ca73b99aa608eb479", checked := Try.checked }
namespace Rows
def none {H : Type} : Left H := { results := [], args := [] }

/-- 'leavenlaw13.UnifyRuns': WHATEVER THE INPUT: true; the input reads as it did. -/
def unifyRunsSpec : ChangeSpec := { name := "unifyRuns", fn := fun _ => fun
  | [d1, d2] => { results := [.lit (.bool true)], args := [d1, d2] }
  | _ => none }
def unifyRunsRow : OpenClaim := { program := "ytblfeokjlecgkaa", sum := "b0fbbdb2de836bd0d638745b10971c80520a637a8594b41ca73b99aa608eb479", func := "leaven/leavenlaw13.UnifyRuns", spec := "unifyRuns", unfollowed := true, recurses := true, apart := false }
def UnifyRunsSaid : Prop := unifyRunsRow.holds Try.pinned (OpenSpec.ofChange unifyRunsSpec)

/-- ITS FALSE NEIGHBOUR: 'it returns false'. Refute it at one input. -/
def unifyRunsWrong : ChangeSpec := { name := "unifyRuns", fn := fun _ => fun
  | [d1, d2] => { results := [.lit (.bool false)], args := [d1, d2] }
  | _ => none }
def UnifyRunsWrongFalsely : Prop := unifyRunsRow.holds Try.pinned (OpenSpec.ofChange unifyRunsWrong)

/-- 'leavenlaw13.UnifyAgrees': WHATEVER THE INPUT: true; the input reads as it did. -/
def unifyAgreesSpec : ChangeSpec := { name := "unifyAgrees", fn := fun _ => fun
  | [d1, d2] => { results := [.lit (.bool true)], args := [d1, d2] }
  | _ => none }
def unifyAgreesRow : OpenClaim := { program := "ytblfeokjlecgkaa", sum := "b0fbbdb2de836bd0d638745b10971c80520a637a8594b41ca73b99aa608eb479", func := "leaven/leavenlaw13.UnifyAgrees", spec := "unifyAgrees", unfollowed := true, recurses := true, apart := false }
def UnifyAgreesSaid : Prop := unifyAgreesRow.holds Try.pinned (OpenSpec.ofChange unifyAgreesSpec)

/-- ITS FALSE NEIGHBOUR: 'it returns false'. Refute it at one input. -/
def unifyAgreesWrong : ChangeSpec := { name := "unifyAgrees", fn := fun _ => fun
  | [d1, d2] => { results := [.lit (.bool false)], args := [d1, d2] }
  | _ => none }
def UnifyAgreesWrongFalsely : Prop := unifyAgreesRow.holds Try.pinned (OpenSpec.ofChange unifyAgreesWrong)

/-- 'leavenlaw13.UnifyLeast': WHATEVER THE INPUT: true; the input reads as it did. -/
def unifyLeastSpec : ChangeSpec := { name := "unifyLeast", fn := fun _ => fun
  | [d1, d2] => { results := [.lit (.bool true)], args := [d1, d2] }
  | _ => none }
def unifyLeastRow : OpenClaim := { program := "ytblfeokjlecgkaa", sum := "b0fbbdb2de836bd0d638745b10971c80520a637a8594b41ca73b99aa608eb479", func := "leaven/leavenlaw13.UnifyLeast", spec := "unifyLeast", unfollowed := true, recurses := true, apart := false }
def UnifyLeastSaid : Prop := unifyLeastRow.holds Try.pinned (OpenSpec.ofChange unifyLeastSpec)

/-- ITS FALSE NEIGHBOUR: 'it returns false'. Refute it at one input. -/
def unifyLeastWrong : ChangeSpec := { name := "unifyLeast", fn := fun _ => fun
  | [d1, d2] => { results := [.lit (.bool false)], args := [d1, d2] }
  | _ => none }
def UnifyLeastWrongFalsely : Prop := unifyLeastRow.holds Try.pinned (OpenSpec.ofChange unifyLeastWrong)

/-- 'leavenlaw13.UnifyOrder': WHATEVER THE INPUT: true; the input reads as it did. -/
def unifyOrderSpec : ChangeSpec := { name := "unifyOrder", fn := fun _ => fun
  | [d1, d2] => { results := [.lit (.bool true)], args := [d1, d2] }
  | _ => none }
def unifyOrderRow : OpenClaim := { program := "ytblfeokjlecgkaa", sum := "b0fbbdb2de836bd0d638745b10971c80520a637a8594b41ca73b99aa608eb479", func := "leaven/leavenlaw13.UnifyOrder", spec := "unifyOrder", unfollowed := true, recurses := true, apart := false }
def UnifyOrderSaid : Prop := unifyOrderRow.holds Try.pinned (OpenSpec.ofChange unifyOrderSpec)

/-- ITS FALSE NEIGHBOUR: 'it returns false'. Refute it at one input. -/
def unifyOrderWrong : ChangeSpec := { name := "unifyOrder", fn := fun _ => fun
  | [d1, d2] => { results := [.lit (.bool false)], args := [d1, d2] }
  | _ => none }
def UnifyOrderWrongFalsely : Prop := unifyOrderRow.holds Try.pinned (OpenSpec.ofChange unifyOrderWrong)

/-- 'leavenlaw13.UnifyPlain': WHATEVER THE INPUT: true; the input reads as it did. -/
def unifyPlainSpec : ChangeSpec := { name := "unifyPlain", fn := fun _ => fun
  | [d1, d2, d3] => { results := [.lit (.bool true)], args := [d1, d2, d3] }
  | _ => none }
def unifyPlainRow : OpenClaim := { program := "ytblfeokjlecgkaa", sum := "b0fbbdb2de836bd0d638745b10971c80520a637a8594b41ca73b99aa608eb479", func := "leaven/leavenlaw13.UnifyPlain", spec := "unifyPlain", unfollowed := true, recurses := true, apart := false }
def UnifyPlainSaid : Prop := unifyPlainRow.holds Try.pinned (OpenSpec.ofChange unifyPlainSpec)

/-- ITS FALSE NEIGHBOUR: 'it returns false'. Refute it at one input. -/
def unifyPlainWrong : ChangeSpec := { name := "unifyPlain", fn := fun _ => fun
  | [d1, d2, d3] => { results := [.lit (.bool false)], args := [d1, d2, d3] }
  | _ => none }
def UnifyPlainWrongFalsely : Prop := unifyPlainRow.holds Try.pinned (OpenSpec.ofChange unifyPlainWrong)

/-- 'leavenlaw13.UnifyFresh': WHATEVER THE INPUT: true; the input reads as it did. -/
def unifyFreshSpec : ChangeSpec := { name := "unifyFresh", fn := fun _ => fun
  | [d1, d2, d3] => { results := [.lit (.bool true)], args := [d1, d2, d3] }
  | _ => none }
def unifyFreshRow : OpenClaim := { program := "ytblfeokjlecgkaa", sum := "b0fbbdb2de836bd0d638745b10971c80520a637a8594b41ca73b99aa608eb479", func := "leaven/leavenlaw13.UnifyFresh", spec := "unifyFresh", unfollowed := true, recurses := true, apart := false }
def UnifyFreshSaid : Prop := unifyFreshRow.holds Try.pinned (OpenSpec.ofChange unifyFreshSpec)

/-- ITS FALSE NEIGHBOUR: 'it returns false'. Refute it at one input. -/
def unifyFreshWrong : ChangeSpec := { name := "unifyFresh", fn := fun _ => fun
  | [d1, d2, d3] => { results := [.lit (.bool false)], args := [d1, d2, d3] }
  | _ => none }
def UnifyFreshWrongFalsely : Prop := unifyFreshRow.holds Try.pinned (OpenSpec.ofChange unifyFreshWrong)

/-- 'leavenlaw13.UnifyOpens': WHATEVER THE INPUT: true; the input reads as it did. -/
def unifyOpensSpec : ChangeSpec := { name := "unifyOpens", fn := fun _ => fun
  | [d1, d2, d3] => { results := [.lit (.bool true)], args := [d1, d2, d3] }
  | _ => none }
def unifyOpensRow : OpenClaim := { program := "ytblfeokjlecgkaa", sum := "b0fbbdb2de836bd0d638745b10971c80520a637a8594b41ca73b99aa608eb479", func := "leaven/leavenlaw13.UnifyOpens", spec := "unifyOpens", unfollowed := true, recurses := true, apart := false }
def UnifyOpensSaid : Prop := unifyOpensRow.holds Try.pinned (OpenSpec.ofChange unifyOpensSpec)

/-- ITS FALSE NEIGHBOUR: 'it returns false'. Refute it at one input. -/
def unifyOpensWrong : ChangeSpec := { name := "unifyOpens", fn := fun _ => fun
  | [d1, d2, d3] => { results := [.lit (.bool false)], args := [d1, d2, d3] }
  | _ => none }
def UnifyOpensWrongFalsely : Prop := unifyOpensRow.holds Try.pinned (OpenSpec.ofChange unifyOpensWrong)

/-- 'leavenlaw04.TreadSites': WHATEVER THE INPUT: true; the input reads as it did. -/
def treadSitesSpec : ChangeSpec := { name := "treadSites", fn := fun _ => fun
  | [d1, d2, d3] => { results := [.lit (.bool true)], args := [d1, d2, d3] }
  | _ => none }
def treadSitesRow : OpenClaim := { program := "ytblfeokjlecgkaa", sum := "b0fbbdb2de836bd0d638745b10971c80520a637a8594b41ca73b99aa608eb479", func := "leaven/leavenlaw04.TreadSites", spec := "treadSites", unfollowed := true, recurses := true, apart := false }
def TreadSitesSaid : Prop := treadSitesRow.holds Try.pinned (OpenSpec.ofChange treadSitesSpec)

/-- ITS FALSE NEIGHBOUR: 'it returns false'. Refute it at one input. -/
def treadSitesWrong : ChangeSpec := { name := "treadSites", fn := fun _ => fun
  | [d1, d2, d3] => { results := [.lit (.bool false)], args := [d1, d2, d3] }
  | _ => none }
def TreadSitesWrongFalsely : Prop := treadSitesRow.holds Try.pinned (OpenSpec.ofChange treadSitesWrong)

/-- 'leavenlaw12.TermTwo': WHATEVER THE INPUT: true; the input reads as it did. -/
def termTwoSpec : ChangeSpec := { name := "termTwo", fn := fun _ => fun
  | [d1, d2, d3] => { results := [.lit (.bool true)], args := [d1, d2, d3] }
  | _ => none }
def termTwoRow : OpenClaim := { program := "ytblfeokjlecgkaa", sum := "b0fbbdb2de836bd0d638745b10971c80520a637a8594b41ca73b99aa608eb479", func := "leaven/leavenlaw12.TermTwo", spec := "termTwo", unfollowed := true, recurses := true, apart := false }
def TermTwoSaid : Prop := termTwoRow.holds Try.pinned (OpenSpec.ofChange termTwoSpec)

/-- ITS FALSE NEIGHBOUR: 'it returns false'. Refute it at one input. -/
def termTwoWrong : ChangeSpec := { name := "termTwo", fn := fun _ => fun
  | [d1, d2, d3] => { results := [.lit (.bool false)], args := [d1, d2, d3] }
  | _ => none }
def TermTwoWrongFalsely : Prop := termTwoRow.holds Try.pinned (OpenSpec.ofChange termTwoWrong)

/-- 'leavenlaw12.TermGround': WHATEVER THE INPUT: true; the input reads as it did. -/
def termGroundSpec : ChangeSpec := { name := "termGround", fn := fun _ => fun
  | [d1, d2] => { results := [.lit (.bool true)], args := [d1, d2] }
  | _ => none }
def termGroundRow : OpenClaim := { program := "ytblfeokjlecgkaa", sum := "b0fbbdb2de836bd0d638745b10971c80520a637a8594b41ca73b99aa608eb479", func := "leaven/leavenlaw12.TermGround", spec := "termGround", unfollowed := true, recurses := true, apart := false }
def TermGroundSaid : Prop := termGroundRow.holds Try.pinned (OpenSpec.ofChange termGroundSpec)

/-- ITS FALSE NEIGHBOUR: 'it returns false'. Refute it at one input. -/
def termGroundWrong : ChangeSpec := { name := "termGround", fn := fun _ => fun
  | [d1, d2] => { results := [.lit (.bool false)], args := [d1, d2] }
  | _ => none }
def TermGroundWrongFalsely : Prop := termGroundRow.holds Try.pinned (OpenSpec.ofChange termGroundWrong)

/-- 'leavenlaw12.TermSelf': WHATEVER THE INPUT: true; the input reads as it did. -/
def termSelfSpec : ChangeSpec := { name := "termSelf", fn := fun _ => fun
  | [d1, d2] => { results := [.lit (.bool true)], args := [d1, d2] }
  | _ => none }
def termSelfRow : OpenClaim := { program := "ytblfeokjlecgkaa", sum := "b0fbbdb2de836bd0d638745b10971c80520a637a8594b41ca73b99aa608eb479", func := "leaven/leavenlaw12.TermSelf", spec := "termSelf", unfollowed := true, recurses := true, apart := false }
def TermSelfSaid : Prop := termSelfRow.holds Try.pinned (OpenSpec.ofChange termSelfSpec)

/-- ITS FALSE NEIGHBOUR: 'it returns false'. Refute it at one input. -/
def termSelfWrong : ChangeSpec := { name := "termSelf", fn := fun _ => fun
  | [d1, d2] => { results := [.lit (.bool false)], args := [d1, d2] }
  | _ => none }
def TermSelfWrongFalsely : Prop := termSelfRow.holds Try.pinned (OpenSpec.ofChange termSelfWrong)

/-- 'leavenlaw12.TermCanon': WHATEVER THE INPUT: true; the input reads as it did. -/
def termCanonSpec : ChangeSpec := { name := "termCanon", fn := fun _ => fun
  | [d1, d2] => { results := [.lit (.bool true)], args := [d1, d2] }
  | _ => none }
def termCanonRow : OpenClaim := { program := "ytblfeokjlecgkaa", sum := "b0fbbdb2de836bd0d638745b10971c80520a637a8594b41ca73b99aa608eb479", func := "leaven/leavenlaw12.TermCanon", spec := "termCanon", unfollowed := true, recurses := true, apart := false }
def TermCanonSaid : Prop := termCanonRow.holds Try.pinned (OpenSpec.ofChange termCanonSpec)

/-- ITS FALSE NEIGHBOUR: 'it returns false'. Refute it at one input. -/
def termCanonWrong : ChangeSpec := { name := "termCanon", fn := fun _ => fun
  | [d1, d2] => { results := [.lit (.bool false)], args := [d1, d2] }
  | _ => none }
def TermCanonWrongFalsely : Prop := termCanonRow.holds Try.pinned (OpenSpec.ofChange termCanonWrong)

/- THE SECOND FORM. 'bulk': how many values and letters a reading holds, each counted each time it is reached (what is shared counts as often as it is met; a slice's spare places count too). A statement '..UptoSaid' is the law's where the arguments, and the package variables that the reading takes, are together of bulk at most 1048576: NARROWER than '..Said'. Prove '..Said' where nothing that the law and all that it calls make is longer than what came in: it says more and counts as full. Else prove '..UptoSaid'. A law counts once. -/
mutual
def uptoBulk {H : Type} : DataW H → Nat
  | .lit (.string bytes) => bytes.length + 1
  | .lit _ => 1
  | .nil => 1
  | .ptr d => uptoBulk d + 1
  | .slice elems spare => uptoBulkAll elems + uptoBulkAll spare + 1
  | .agg parts => uptoBulkAll parts + 1
  | .iface _ d => uptoBulk d + 1
  | .map entries => uptoBulkEntries entries + 1
  | .held _ => 1
def uptoBulkAll {H : Type} : List (DataW H) → Nat
  | [] => 0
  | d :: r => uptoBulk d + uptoBulkAll r
def uptoBulkEntries {H : Type} : List (Lit × DataW H) → Nat
  | [] => 0
  | x :: r => uptoBulkEntry x + uptoBulkEntries r
def uptoBulkEntry {H : Type} : Lit × DataW H → Nat
  | (.string bytes, d) => bytes.length + uptoBulk d + 1
  | (_, d) => uptoBulk d + 1
 end
def uptoSmall : (H : Type) → List (DataW H) → Bool := fun _ ds => decide (uptoBulkAll ds ≤ 1048576)
def OpenSpec.upto (s : _root_.Go.ChangeSpec) : _root_.Go.OpenSpec := { _root_.Go.OpenSpec.ofChange s with cond := some uptoSmall }

/-- 'leavenlaw13.UnifyRuns', WHERE WHAT IT READS IS OF BULK AT MOST 1048576: true; the input reads as it did. -/
def unifyRunsUptoRow : OpenClaim := { program := "ytblfeokjlecgkaa", sum := "b0fbbdb2de836bd0d638745b10971c80520a637a8594b41ca73b99aa608eb479", func := "leaven/leavenlaw13.UnifyRuns", spec := "unifyRuns", unfollowed := true, recurses := true, apart := false, narrowed := true }
def UnifyRunsUptoSaid : Prop := unifyRunsUptoRow.holds Try.pinned (OpenSpec.upto unifyRunsSpec)

/-- 'leavenlaw13.UnifyAgrees', WHERE WHAT IT READS IS OF BULK AT MOST 1048576: true; the input reads as it did. -/
def unifyAgreesUptoRow : OpenClaim := { program := "ytblfeokjlecgkaa", sum := "b0fbbdb2de836bd0d638745b10971c80520a637a8594b41ca73b99aa608eb479", func := "leaven/leavenlaw13.UnifyAgrees", spec := "unifyAgrees", unfollowed := true, recurses := true, apart := false, narrowed := true }
def UnifyAgreesUptoSaid : Prop := unifyAgreesUptoRow.holds Try.pinned (OpenSpec.upto unifyAgreesSpec)

/-- 'leavenlaw13.UnifyLeast', WHERE WHAT IT READS IS OF BULK AT MOST 1048576: true; the input reads as it did. -/
def unifyLeastUptoRow : OpenClaim := { program := "ytblfeokjlecgkaa", sum := "b0fbbdb2de836bd0d638745b10971c80520a637a8594b41ca73b99aa608eb479", func := "leaven/leavenlaw13.UnifyLeast", spec := "unifyLeast", unfollowed := true, recurses := true, apart := false, narrowed := true }
def UnifyLeastUptoSaid : Prop := unifyLeastUptoRow.holds Try.pinned (OpenSpec.upto unifyLeastSpec)

/-- 'leavenlaw13.UnifyOrder', WHERE WHAT IT READS IS OF BULK AT MOST 1048576: true; the input reads as it did. -/
def unifyOrderUptoRow : OpenClaim := { program := "ytblfeokjlecgkaa", sum := "b0fbbdb2de836bd0d638745b10971c80520a637a8594b41ca73b99aa608eb479", func := "leaven/leavenlaw13.UnifyOrder", spec := "unifyOrder", unfollowed := true, recurses := true, apart := false, narrowed := true }
def UnifyOrderUptoSaid : Prop := unifyOrderUptoRow.holds Try.pinned (OpenSpec.upto unifyOrderSpec)

/-- 'leavenlaw13.UnifyPlain', WHERE WHAT IT READS IS OF BULK AT MOST 1048576: true; the input reads as it did. -/
def unifyPlainUptoRow : OpenClaim := { program := "ytblfeokjlecgkaa", sum := "b0fbbdb2de836bd0d638745b10971c80520a637a8594b41ca73b99aa608eb479", func := "leaven/leavenlaw13.UnifyPlain", spec := "unifyPlain", unfollowed := true, recurses := true, apart := false, narrowed := true }
def UnifyPlainUptoSaid : Prop := unifyPlainUptoRow.holds Try.pinned (OpenSpec.upto unifyPlainSpec)

/-- 'leavenlaw13.UnifyFresh', WHERE WHAT IT READS IS OF BULK AT MOST 1048576: true; the input reads as it did. -/
def unifyFreshUptoRow : OpenClaim := { program := "ytblfeokjlecgkaa", sum := "b0fbbdb2de836bd0d638745b10971c80520a637a8594b41ca73b99aa608eb479", func := "leaven/leavenlaw13.UnifyFresh", spec := "unifyFresh", unfollowed := true, recurses := true, apart := false, narrowed := true }
def UnifyFreshUptoSaid : Prop := unifyFreshUptoRow.holds Try.pinned (OpenSpec.upto unifyFreshSpec)

/-- 'leavenlaw13.UnifyOpens', WHERE WHAT IT READS IS OF BULK AT MOST 1048576: true; the input reads as it did. -/
def unifyOpensUptoRow : OpenClaim := { program := "ytblfeokjlecgkaa", sum := "b0fbbdb2de836bd0d638745b10971c80520a637a8594b41ca73b99aa608eb479", func := "leaven/leavenlaw13.UnifyOpens", spec := "unifyOpens", unfollowed := true, recurses := true, apart := false, narrowed := true }
def UnifyOpensUptoSaid : Prop := unifyOpensUptoRow.holds Try.pinned (OpenSpec.upto unifyOpensSpec)

/-- 'leavenlaw04.TreadSites', WHERE WHAT IT READS IS OF BULK AT MOST 1048576: true; the input reads as it did. -/
def treadSitesUptoRow : OpenClaim := { program := "ytblfeokjlecgkaa", sum := "b0fbbdb2de836bd0d638745b10971c80520a637a8594b41ca73b99aa608eb479", func := "leaven/leavenlaw04.TreadSites", spec := "treadSites", unfollowed := true, recurses := true, apart := false, narrowed := true }
def TreadSitesUptoSaid : Prop := treadSitesUptoRow.holds Try.pinned (OpenSpec.upto treadSitesSpec)

/-- 'leavenlaw12.TermTwo', WHERE WHAT IT READS IS OF BULK AT MOST 1048576: true; the input reads as it did. -/
def termTwoUptoRow : OpenClaim := { program := "ytblfeokjlecgkaa", sum := "b0fbbdb2de836bd0d638745b10971c80520a637a8594b41ca73b99aa608eb479", func := "leaven/leavenlaw12.TermTwo", spec := "termTwo", unfollowed := true, recurses := true, apart := false, narrowed := true }
def TermTwoUptoSaid : Prop := termTwoUptoRow.holds Try.pinned (OpenSpec.upto termTwoSpec)

/-- 'leavenlaw12.TermGround', WHERE WHAT IT READS IS OF BULK AT MOST 1048576: true; the input reads as it did. -/
def termGroundUptoRow : OpenClaim := { program := "ytblfeokjlecgkaa", sum := "b0fbbdb2de836bd0d638745b10971c80520a637a8594b41ca73b99aa608eb479", func := "leaven/leavenlaw12.TermGround", spec := "termGround", unfollowed := true, recurses := true, apart := false, narrowed := true }
def TermGroundUptoSaid : Prop := termGroundUptoRow.holds Try.pinned (OpenSpec.upto termGroundSpec)

/-- 'leavenlaw12.TermSelf', WHERE WHAT IT READS IS OF BULK AT MOST 1048576: true; the input reads as it did. -/
def termSelfUptoRow : OpenClaim := { program := "ytblfeokjlecgkaa", sum := "b0fbbdb2de836bd0d638745b10971c80520a637a8594b41ca73b99aa608eb479", func := "leaven/leavenlaw12.TermSelf", spec := "termSelf", unfollowed := true, recurses := true, apart := false, narrowed := true }
def TermSelfUptoSaid : Prop := termSelfUptoRow.holds Try.pinned (OpenSpec.upto termSelfSpec)

/-- 'leavenlaw12.TermCanon', WHERE WHAT IT READS IS OF BULK AT MOST 1048576: true; the input reads as it did. -/
def termCanonUptoRow : OpenClaim := { program := "ytblfeokjlecgkaa", sum := "b0fbbdb2de836bd0d638745b10971c80520a637a8594b41ca73b99aa608eb479", func := "leaven/leavenlaw12.TermCanon", spec := "termCanon", unfollowed := true, recurses := true, apart := false, narrowed := true }
def TermCanonUptoSaid : Prop := termCanonUptoRow.holds Try.pinned (OpenSpec.upto termCanonSpec)

end Rows
end Go.Proofs.Ytblfeokjlecgkaa
