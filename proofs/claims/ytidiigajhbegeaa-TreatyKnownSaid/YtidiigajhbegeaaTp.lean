/-
  The chapter of the treaty: single calls, by evaluation, each by itself. Conditions: none.
-/
import Derived.Test.YtidiigajhbegeaaTo
namespace Go.Proofs.Ytidiigajhbegeaa.E
open Go Go.RowKit
set_option linter.unusedVariables false
def il (l : List Int) : FV := .sl false 1 (ints l)
def tradeF (n : Int) : FV := .agg [.sl false 1 [il [0, 1], il [0], il [0, 1]], .sl false 2 [.agg [.int .i64 n, il [1, 2, 0]], .agg [.int .i64 1, il [0, 1, 2]]]]
def wishF : FV := .sl false 1 [il [2, 1, 0, 3], il [0, 1, 2, 3], il [1, 0, 2, 3], il [0, 3, 1, 2]]
abbrev Fact := FuncId × List (Bool × FV) × List TV
def FactOk (f : Fact) : Prop := Valid Try.prog f.1 f.2.1 f.2.2 ∧ Enters Try.prog f.1
theorem fact_ev {n : Nat} {k : FuncId} {xs : List (Bool × FV)} {res : List TV} (h : (evG base0 TT n).ctx k xs = some res) : FactOk (k, xs, res) := by
  have := (ev_ok n).c k xs res h
  have e : (evG base0 TT n).P = Try.prog := (evG_P base0 TT n).1
  exact ⟨show Valid Try.prog k xs res from e ▸ this.1, show Enters Try.prog k from e ▸ this.2⟩
def aSt (l : List Int) : List (Bool × FV) := [(false, tradeF 1), (false, il l)]
def aBe (l : List Int) (n : Int) : List (Bool × FV) := [(true, wishF), (true, il l), (false, .int .i64 n)]
def no0 : List TV := [.fv (.bool false), .fv (.int .i64 0)]
def no3 : List TV := [.fv (.bool false), .fv (.int .i64 103)]
def aSo (l : List Int) : List (Bool × FV) := [(false, tradeF 1), (true, il l)]
theorem st1 : FactOk (12, aSt [0, -1, 1], no0) := fact_ev (n := 11) (by kernel_rfl)
theorem st2 : FactOk (12, aSt [1, 1, 0], no0) := fact_ev (n := 11) (by kernel_rfl)
theorem st3 : FactOk (12, aSt [1, 0, 0], no0) := fact_ev (n := 11) (by kernel_rfl)
theorem st4 : FactOk (12, aSt [-1, 0, 1], no0) := fact_ev (n := 11) (by kernel_rfl)
theorem st5 : FactOk (12, aSt [-1, -1, -1], no0) := fact_ev (n := 11) (by kernel_rfl)
theorem be1 : FactOk (9, aBe [2, 0, 1, 3] 15, no0) := fact_ev (n := 11) (by kernel_rfl)
theorem be2 : FactOk (9, aBe [2, 1, 0, 3] 1, no0) := fact_ev (n := 11) (by kernel_rfl)
theorem be3 : FactOk (9, aBe [3, 2, 1, 0] 0, no0) := fact_ev (n := 11) (by kernel_rfl)
theorem be4 : FactOk (9, aBe [2, 0, 1] 0, no3) := fact_ev (n := 11) (by kernel_rfl)
theorem be5 : FactOk (9, aBe [2, 0, 1, 1] 0, no3) := fact_ev (n := 11) (by kernel_rfl)
theorem be6 : FactOk (9, aBe [2, 0, 1, 3] 16, no3) := fact_ev (n := 11) (by kernel_rfl)
theorem be7 : FactOk (9, aBe [2, 0, 1, 3] (-1), no3) := fact_ev (n := 11) (by kernel_rfl)
theorem st6 : FactOk (12, aSo [1, 0], no3) := fact_ev (n := 11) (by kernel_rfl)
theorem st7 : FactOk (12, aSo [1, 0, -2], no3) := fact_ev (n := 11) (by kernel_rfl)
theorem st8 : FactOk (12, aSo [1, 0, 2], no3) := fact_ev (n := 11) (by kernel_rfl)
theorem de1 : FactOk (13, [(false, tradeF 2)], [.us 1 (ints [1, 0, 0]), .fv (.int .i64 0)]) := fact_ev (n := 11) (by kernel_rfl)
theorem wo1 : FactOk (17, [], [.fv (.bool true)]) := fact_ev (n := 12) works_ctx
end Go.Proofs.Ytidiigajhbegeaa.E
