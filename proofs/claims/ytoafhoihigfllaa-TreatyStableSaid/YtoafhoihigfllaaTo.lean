/-
  The chapter of the treaty: the examples come out. Conditions: none.
-/
import Derived.Test.YtoafhoihigfllaaTn
namespace Go.Proofs.Ytoafhoihigfllaa.E
open Go Go.RowKit
set_option maxRecDepth 100000
theorem works_ev : (evG base0 TT 16).ctx 20 [] = some [.fv (.bool true)] := by kernel_rfl
theorem works_ok : Valid Try.prog 20 [] [.fv (.bool true)] ∧ Enters Try.prog 20 := (ev_ok 16).c 20 [] _ works_ev
end Go.Proofs.Ytoafhoihigfllaa.E
