/-
  DERIVED. GIVEN WITH THE SEED: THE CARDS: each row of YtmjdhfbnmmdjiaaDoorRows.lean that lists a variable, with what it lists TIED to the program's text (the seventh form; the later family's looks); each row that meets fmt, with fmt's text TOLD by the authors' own Lean function (tested against real Go, not proved from fmt's source: count such statements apart). THE CARD IS WHAT COUNTS. Prove the row's statement (the work); the ties are given (YtmjdhfbnmmdjiaaDoorTie.lean); close each card by the builder's one call (the guide's Derived/Test/ToyasCard.lean, 'card_holds'). Laid BY PROGRAM, IN A SANDBOX (cutbox-door.mjs). By AI agents, Wed Nov 11 2026. No macro, syntax, notation, axiom, sorry.
-/
import Derived.Test.YtmjdhfbnmmdjiaaDoorRows
import GoSem.ClaimSeven
namespace Go.Proofs.YtmjdhfbnmmdjiaaDoor
namespace Rows

/-- THE TIED CARD OF 'leavenlaw17.SearchEnough'. -/
def searchEnoughCard : Claim7 := { stood := { row := searchEnoughRow, standIns := [], harness := (true, "5a94114943c5271123c31785c9eae2d763c83402f0b5221a23579531ede7c2bb"), looks := true }, kinds := [], alts := [], laidByText := true, laidKinds := [.data, .data, .data], laidTests := true, laidLooks := .later }
def SearchEnoughCardSaid : Prop := Claim7.holds Tryd.pinned (.plain (OpenSpec.ofChange searchEnoughSpec)) searchEnoughCard

/-- THE SECOND FORM's CARD OF 'leavenlaw17.SearchEnough'. -/
def searchEnoughUptoCard : Claim7 := { stood := { row := searchEnoughUptoRow, standIns := [], harness := (true, "5a94114943c5271123c31785c9eae2d763c83402f0b5221a23579531ede7c2bb"), looks := true }, kinds := [], alts := [], laidByText := true, laidKinds := [.data, .data, .data], laidTests := true, laidLooks := .later }
def SearchEnoughUptoCardSaid : Prop := Claim7.holds Tryd.pinned (.plain (OpenSpec.upto searchEnoughSpec)) searchEnoughUptoCard
end Rows
end Go.Proofs.YtmjdhfbnmmdjiaaDoor
