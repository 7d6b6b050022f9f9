/-
  The chapter of the share: what this law needs beside: what is kept behind each region of its functions; in which order operations come. Conditions: none.
-/
import Derived.Test.YtejodhjhddnbeaaDoorZ25
set_option linter.unusedVariables false
set_option linter.unusedSimpArgs false
namespace Go.Proofs.YtejodhjhddnbeaaDoor.E
open Go Go.RowKit
def L6 : Live := [(0,([0,1],[])),(1,([0,1,5,6],[])),(2,([0,1,5,6,26],[])),(3,([4],[])),(4,([0,1,5,42],[])),(5,([4],[])),(6,([0,1,5,44],[])),(7,([4],[])),(8,([0,1,5,6,7],[])),(9,([5,7,63],[])),(10,([4],[])),(11,([5,7,8],[])),(12,([5,7,8,67],[])),(13,([5,7,8],[])),(14,([5,7,8,91],[])),(15,([4],[])),(16,([4],[]))]
@[simp] theorem k6_0 : kof L6 0 = ([0,1],[]) := rfl
@[simp] theorem k6_1 : kof L6 1 = ([0,1,5,6],[]) := rfl
@[simp] theorem k6_2 : kof L6 2 = ([0,1,5,6,26],[]) := rfl
@[simp] theorem k6_3 : kof L6 3 = ([4],[]) := rfl
@[simp] theorem k6_4 : kof L6 4 = ([0,1,5,42],[]) := rfl
@[simp] theorem k6_5 : kof L6 5 = ([4],[]) := rfl
@[simp] theorem k6_6 : kof L6 6 = ([0,1,5,44],[]) := rfl
@[simp] theorem k6_7 : kof L6 7 = ([4],[]) := rfl
@[simp] theorem k6_8 : kof L6 8 = ([0,1,5,6,7],[]) := rfl
@[simp] theorem k6_9 : kof L6 9 = ([5,7,63],[]) := rfl
@[simp] theorem k6_10 : kof L6 10 = ([4],[]) := rfl
@[simp] theorem k6_11 : kof L6 11 = ([5,7,8],[]) := rfl
@[simp] theorem k6_12 : kof L6 12 = ([5,7,8,67],[]) := rfl
@[simp] theorem k6_13 : kof L6 13 = ([5,7,8],[]) := rfl
@[simp] theorem k6_14 : kof L6 14 = ([5,7,8,91],[]) := rfl
@[simp] theorem k6_15 : kof L6 15 = ([4],[]) := rfl
@[simp] theorem k6_16 : kof L6 16 = ([4],[]) := rfl
def T6 : List (Nat × Plan) := [(14,[([7],[]),([8],[]),([70,71],[]),([72],[]),([5],[]),([8],[]),([74,75],[]),([76],[]),([77],[]),([73,78],[]),([79],[]),([7,80],[]),([8,80],[]),([81,82,80],[]),([83,80],[]),([5,80],[]),([8,80],[]),([85,86,80],[]),([87,80],[]),([88,80],[])])]
def L30 : Live := [(0,([0,1,2],[])),(1,([0,1,2,7],[])),(2,([0,1,2,7,27],[])),(3,([6],[])),(4,([0,1,2,7,8],[])),(5,([0,1,2,7,8,31],[])),(6,([0,1,2,7,8],[])),(7,([0,1,2,7,8,9],[])),(8,([0,1,2,7,8,62],[])),(9,([6],[])),(10,([0,1,2,7,8,10],[])),(11,([0,1,2,7,8,10,66],[])),(12,([0,1,2,7,8,10],[])),(13,([0,1,2,7,8,10,88],[])),(14,([6],[])),(15,([6],[]))]
@[simp] theorem k30_0 : kof L30 0 = ([0,1,2],[]) := rfl
@[simp] theorem k30_1 : kof L30 1 = ([0,1,2,7],[]) := rfl
@[simp] theorem k30_2 : kof L30 2 = ([0,1,2,7,27],[]) := rfl
@[simp] theorem k30_3 : kof L30 3 = ([6],[]) := rfl
@[simp] theorem k30_4 : kof L30 4 = ([0,1,2,7,8],[]) := rfl
@[simp] theorem k30_5 : kof L30 5 = ([0,1,2,7,8,31],[]) := rfl
@[simp] theorem k30_6 : kof L30 6 = ([0,1,2,7,8],[]) := rfl
@[simp] theorem k30_7 : kof L30 7 = ([0,1,2,7,8,9],[]) := rfl
@[simp] theorem k30_8 : kof L30 8 = ([0,1,2,7,8,62],[]) := rfl
@[simp] theorem k30_9 : kof L30 9 = ([6],[]) := rfl
@[simp] theorem k30_10 : kof L30 10 = ([0,1,2,7,8,10],[]) := rfl
@[simp] theorem k30_11 : kof L30 11 = ([0,1,2,7,8,10,66],[]) := rfl
@[simp] theorem k30_12 : kof L30 12 = ([0,1,2,7,8,10],[]) := rfl
@[simp] theorem k30_13 : kof L30 13 = ([0,1,2,7,8,10,88],[]) := rfl
@[simp] theorem k30_14 : kof L30 14 = ([6],[]) := rfl
@[simp] theorem k30_15 : kof L30 15 = ([6],[]) := rfl
def T30 : List (Nat × Plan) := [(7,[([1],[]),([8],[]),([34,35],[]),([36],[]),([7],[]),([37,38],[]),([0],[]),([2],[]),([8],[]),([41,42],[]),([43],[]),([40,44],[])]),(13,[([2],[]),([8],[]),([69,70],[]),([71],[]),([2],[]),([10],[]),([73,74],[]),([75],[]),([72,76],[]),([77],[]),([1,78],[]),([8,78],[]),([79,80,78],[]),([81,78],[]),([1,78],[]),([10,78],[]),([83,84,78],[]),([85,78],[])])]
end Go.Proofs.YtejodhjhddnbeaaDoor.E
