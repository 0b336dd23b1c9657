/- ty.Part and the document's. -/
import Derived.Test.YtblfeokjlecgkaaGreatMake
namespace Go.Proofs.YtblfeokjlecgkaaGreat
open Go.RowKit

/-- A row of nodes, its first one without a label. -/
def bareN : List Nd → List Nd
  | [] => []
  | x :: xs => x.name ByteArray.empty :: xs

theorem bareN_length (xs : List Nd) : (bareN xs).length = xs.length := by cases xs <;> rfl

end Go.Proofs.YtblfeokjlecgkaaGreat
