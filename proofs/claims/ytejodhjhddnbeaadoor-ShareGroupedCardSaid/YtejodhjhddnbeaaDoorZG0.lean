/-
  The chapter of the share: what this law needs beside: what is kept behind each region of its functions; in which order operations come. Conditions: none.
-/
import Derived.Test.YtejodhjhddnbeaaDoorZ25
set_option linter.unusedVariables false
set_option linter.unusedSimpArgs false
namespace Go.Proofs.YtejodhjhddnbeaaDoor.E
open Go Go.RowKit
def L11 : Live := [(0,([0,1],[])),(1,([0,1,5,6],[])),(2,([0,1,5,6,25],[])),(3,([4],[])),(4,([0,1,5,7],[])),(5,([0,1,5,7,8],[])),(6,([0,1,5,7,8,45],[])),(7,([0,1,5,7,8],[])),(8,([0,1,5,7,8,9,10,11],[])),(9,([0,1,5,7,8,9,10,11,63],[])),(10,([4],[])),(11,([0,1,5,7,8,9,10,11,12],[])),(12,([0,1,5,7,8,9,10,11,12,70],[])),(13,([0,1,5,7,8,9,10,11,12],[])),(14,([0,1,5,7,8,9,10,11,12],[])),(15,([0,1,5,7,8,9,10,11,12],[])),(16,([0,1,5,7,8,9,10,11,12,106],[])),(17,([0,1,5,7,8,9,10,11,12],[])),(18,([0,1,5,7,8,9,10,11,12],[])),(19,([0,1,5,7,8,139],[])),(20,([4],[])),(21,([0,7,13],[])),(22,([0,7,13,143],[])),(23,([0,7,13],[])),(24,([0,7,13,163],[])),(25,([4],[])),(26,([4],[]))]
@[simp] theorem k11_0 : kof L11 0 = ([0,1],[]) := rfl
@[simp] theorem k11_1 : kof L11 1 = ([0,1,5,6],[]) := rfl
@[simp] theorem k11_2 : kof L11 2 = ([0,1,5,6,25],[]) := rfl
@[simp] theorem k11_3 : kof L11 3 = ([4],[]) := rfl
@[simp] theorem k11_4 : kof L11 4 = ([0,1,5,7],[]) := rfl
@[simp] theorem k11_5 : kof L11 5 = ([0,1,5,7,8],[]) := rfl
@[simp] theorem k11_6 : kof L11 6 = ([0,1,5,7,8,45],[]) := rfl
@[simp] theorem k11_7 : kof L11 7 = ([0,1,5,7,8],[]) := rfl
@[simp] theorem k11_8 : kof L11 8 = ([0,1,5,7,8,9,10,11],[]) := rfl
@[simp] theorem k11_9 : kof L11 9 = ([0,1,5,7,8,9,10,11,63],[]) := rfl
@[simp] theorem k11_10 : kof L11 10 = ([4],[]) := rfl
@[simp] theorem k11_11 : kof L11 11 = ([0,1,5,7,8,9,10,11,12],[]) := rfl
@[simp] theorem k11_12 : kof L11 12 = ([0,1,5,7,8,9,10,11,12,70],[]) := rfl
@[simp] theorem k11_13 : kof L11 13 = ([0,1,5,7,8,9,10,11,12],[]) := rfl
@[simp] theorem k11_14 : kof L11 14 = ([0,1,5,7,8,9,10,11,12],[]) := rfl
@[simp] theorem k11_15 : kof L11 15 = ([0,1,5,7,8,9,10,11,12],[]) := rfl
@[simp] theorem k11_16 : kof L11 16 = ([0,1,5,7,8,9,10,11,12,106],[]) := rfl
@[simp] theorem k11_17 : kof L11 17 = ([0,1,5,7,8,9,10,11,12],[]) := rfl
@[simp] theorem k11_18 : kof L11 18 = ([0,1,5,7,8,9,10,11,12],[]) := rfl
@[simp] theorem k11_19 : kof L11 19 = ([0,1,5,7,8,139],[]) := rfl
@[simp] theorem k11_20 : kof L11 20 = ([4],[]) := rfl
@[simp] theorem k11_21 : kof L11 21 = ([0,7,13],[]) := rfl
@[simp] theorem k11_22 : kof L11 22 = ([0,7,13,143],[]) := rfl
@[simp] theorem k11_23 : kof L11 23 = ([0,7,13],[]) := rfl
@[simp] theorem k11_24 : kof L11 24 = ([0,7,13,163],[]) := rfl
@[simp] theorem k11_25 : kof L11 25 = ([4],[]) := rfl
@[simp] theorem k11_26 : kof L11 26 = ([4],[]) := rfl
def T11 : List (Nat × Plan) := [(24,[([7],[]),([13],[]),([146,147],[]),([148],[]),([149],[]),([150],[]),([7,151],[]),([13,151],[]),([152,153,151],[]),([154,151],[]),([155,151],[]),([0,151],[]),([13,151],[]),([157,158,151],[]),([159,151],[]),([160,151],[])])]
def L39 : Live := [(0,([0,1],[])),(1,([0,1,5],[])),(2,([0,1,5,9],[])),(3,([0,1,5],[])),(4,([0,1,5,35],[])),(5,([4],[])),(6,([4],[]))]
@[simp] theorem k39_0 : kof L39 0 = ([0,1],[]) := rfl
@[simp] theorem k39_1 : kof L39 1 = ([0,1,5],[]) := rfl
@[simp] theorem k39_2 : kof L39 2 = ([0,1,5,9],[]) := rfl
@[simp] theorem k39_3 : kof L39 3 = ([0,1,5],[]) := rfl
@[simp] theorem k39_4 : kof L39 4 = ([0,1,5,35],[]) := rfl
@[simp] theorem k39_5 : kof L39 5 = ([4],[]) := rfl
@[simp] theorem k39_6 : kof L39 6 = ([4],[]) := rfl
def T39 : List (Nat × Plan) := [(4,[([0],[18]),([5],[18]),([12,13],[18]),([14],[18]),([1],[18]),([16],[18]),([15,17],[]),([18],[]),([19],[]),([5,20],[]),([21,20],[]),([22,20],[]),([0,23],[]),([5,23],[]),([24,25,23],[]),([26,23],[]),([0,23],[]),([5,23],[]),([29,23],[]),([28,30,23],[]),([31,23],[])])]
def L40 : Live := [(0,([0,1],[])),(1,([4],[]))]
@[simp] theorem k40_0 : kof L40 0 = ([0,1],[]) := rfl
@[simp] theorem k40_1 : kof L40 1 = ([4],[]) := rfl
def T40 : List (Nat × Plan) := []
end Go.Proofs.YtejodhjhddnbeaaDoor.E
namespace Go.Proofs.YtejodhjhddnbeaaDoor.E
open Go Go.RowKit
theorem firstK_ne {p : Nat → Bool} {K i : Nat} (hi : i < K) (hp : p i = true) : firstK p K ≠ none := by
  unfold firstK
  intro h
  rw [List.find?_eq_none] at h
  exact h i (List.mem_range.2 hi) hp
section
variable {bal : List Int} {nums : List Nat}
end
end Go.Proofs.YtejodhjhddnbeaaDoor.E
namespace Go.Proofs.YtejodhjhddnbeaaDoor.E
open Go Go.RowKit
def H38 (ctx : Ctx) : Prop := ∀ (l : List Int) (ro c : Bool),l.length < 2^44 → ctx 38 [(ro,.sl c 1 (ints l))] = some [.fv (.bool (balances l))]
end Go.Proofs.YtejodhjhddnbeaaDoor.E
namespace Go.Proofs.YtejodhjhddnbeaaDoor.E
open Go Go.RowKit
theorem argL {fs : List FV} {l : List Int} (h : fs = [.sl false 1 (ints l)]) : argFV Tryd.prog 23 fs = .sl false 1 (ints l) := by
  rw [h]; exact argFV_one (by kernel_rfl) _
end Go.Proofs.YtejodhjhddnbeaaDoor.E
namespace Go.Proofs.YtejodhjhddnbeaaDoor.E
open Go Go.RowKit
theorem at38 {L : List Fm} (h : L.find? (fun G => G.k == 38) = some F38) : H38 (famCtx L) := fun l ro c hl => fam_at (F := F38) h ⟨(l,ro,c),hl⟩ rfl rfl
end Go.Proofs.YtejodhjhddnbeaaDoor.E
