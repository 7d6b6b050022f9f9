/-
  The chapter of the treaty: its examples hold, by evaluation. Conditions: none.
-/
import Derived.Test.YtidiigajhbegeaaTn
namespace Go.Proofs.Ytidiigajhbegeaa.E
open Go Go.RowKit
theorem works_ctx : (evG base0 TT 12).ctx 17 [] = some [.fv (.bool true)] := by kernel_rfl
theorem works_valid : Valid Try.prog 17 [] [.fv (.bool true)] := ((ev_ok 12).c 17 [] _ works_ctx).1
end Go.Proofs.Ytidiigajhbegeaa.E
