/-
  The chapter of the share: what this law needs beside: what is kept behind each region of its functions; in which order operations come. Conditions: none.
-/
import Derived.Test.YtejodhjhddnbeaaDoorZ25
set_option linter.unusedVariables false
set_option linter.unusedSimpArgs false
namespace Go.Proofs.YtejodhjhddnbeaaDoor.E
open Go Go.RowKit
def L9 : Live := [(0,([2,3],[])),(1,([2,3,5,6],[])),(2,([2,3,5,6,23],[])),(3,([4],[])),(4,([2,3,5,7],[])),(5,([2,3,5,7],[])),(6,([2,3,5,7],[])),(7,([2,3,5,7,8],[])),(8,([2,3,5,7,8,59],[])),(9,([2,3,5,7,8],[])),(10,([2,3,5,7,8],[])),(11,([2,5,7,9],[])),(12,([2,5,7,9,88],[])),(13,([2,5,7,9],[])),(14,([2,5,7,9],[])),(15,([5,10,11],[])),(16,([4],[]))]
@[simp] theorem k9_0 : kof L9 0 = ([2,3],[]) := rfl
@[simp] theorem k9_1 : kof L9 1 = ([2,3,5,6],[]) := rfl
@[simp] theorem k9_2 : kof L9 2 = ([2,3,5,6,23],[]) := rfl
@[simp] theorem k9_3 : kof L9 3 = ([4],[]) := rfl
@[simp] theorem k9_4 : kof L9 4 = ([2,3,5,7],[]) := rfl
@[simp] theorem k9_5 : kof L9 5 = ([2,3,5,7],[]) := rfl
@[simp] theorem k9_6 : kof L9 6 = ([2,3,5,7],[]) := rfl
@[simp] theorem k9_7 : kof L9 7 = ([2,3,5,7,8],[]) := rfl
@[simp] theorem k9_8 : kof L9 8 = ([2,3,5,7,8,59],[]) := rfl
@[simp] theorem k9_9 : kof L9 9 = ([2,3,5,7,8],[]) := rfl
@[simp] theorem k9_10 : kof L9 10 = ([2,3,5,7,8],[]) := rfl
@[simp] theorem k9_11 : kof L9 11 = ([2,5,7,9],[]) := rfl
@[simp] theorem k9_12 : kof L9 12 = ([2,5,7,9,88],[]) := rfl
@[simp] theorem k9_13 : kof L9 13 = ([2,5,7,9],[]) := rfl
@[simp] theorem k9_14 : kof L9 14 = ([2,5,7,9],[]) := rfl
@[simp] theorem k9_15 : kof L9 15 = ([5,10,11],[]) := rfl
@[simp] theorem k9_16 : kof L9 16 = ([4],[]) := rfl
def T9 : List (Nat × Plan) := [(5,[([2],[39,44,49]),([35],[39,44,49]),([3],[39,44,49]),([37],[39,44,49]),([36,38],[44,49]),([2],[39,44,49]),([40],[39,44,49]),([3],[39,44,49]),([42],[39,44,49]),([41,43],[49]),([2],[39,44,49]),([45],[39,44,49]),([3],[39,44,49]),([47],[39,44,49]),([46,48],[]),([7],[44,49])]),(10,[([7],[71,77,80]),([62],[71,77,80]),([2],[71,77,80]),([64],[71,77,80]),([3],[71,77,80]),([66],[71,77,80]),([2],[71,77,80]),([68],[71,77,80]),([69],[71,77,80]),([67,70],[77,80]),([8],[71,77,80]),([71,72],[77,80]),([2],[71,77,80]),([74],[71,77,80]),([75],[71,77,80]),([73,76],[80]),([65,77],[80]),([78],[80]),([79],[])]),(14,[([7],[98]),([91],[98]),([2],[98]),([93],[98]),([9],[98]),([94,95],[98]),([96],[98]),([97],[])])]
def L36 : Live := [(0,([0,1],[])),(1,([0,1,5],[])),(2,([0,1,5,6],[])),(3,([0,1,5,6,10],[])),(4,([0,1,5,6],[])),(5,([0,1,5,6],[])),(6,([4],[]))]
@[simp] theorem k36_0 : kof L36 0 = ([0,1],[]) := rfl
@[simp] theorem k36_1 : kof L36 1 = ([0,1,5],[]) := rfl
@[simp] theorem k36_2 : kof L36 2 = ([0,1,5,6],[]) := rfl
@[simp] theorem k36_3 : kof L36 3 = ([0,1,5,6,10],[]) := rfl
@[simp] theorem k36_4 : kof L36 4 = ([0,1,5,6],[]) := rfl
@[simp] theorem k36_5 : kof L36 5 = ([0,1,5,6],[]) := rfl
@[simp] theorem k36_6 : kof L36 6 = ([4],[]) := rfl
def T36 : List (Nat × Plan) := []
end Go.Proofs.YtejodhjhddnbeaaDoor.E
