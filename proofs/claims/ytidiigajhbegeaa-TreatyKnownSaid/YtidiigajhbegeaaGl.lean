/-
  The engine: what the package's variables hold, as far as it is known (here: nothing is asked). Conditions: none.
-/
import Derived.Test.YtidiigajhbegeaaEa
namespace Go.Proofs.Ytidiigajhbegeaa.E
open Go Go.RowKit
def glTab : Nat → Option (List FV) := fun _ => none
end Go.Proofs.Ytidiigajhbegeaa.E
