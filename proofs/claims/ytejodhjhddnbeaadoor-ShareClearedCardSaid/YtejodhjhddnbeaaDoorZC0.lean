/-
  The chapter of the share: what this law needs beside: what is kept behind each region of its functions; in which order operations come. Conditions: none.
-/
import Derived.Test.YtejodhjhddnbeaaDoorZ25
set_option linter.unusedVariables false
set_option linter.unusedSimpArgs false
namespace Go.Proofs.YtejodhjhddnbeaaDoor.E
open Go Go.RowKit
def L12:Live:=[(0,([0,1],[])),(1,([0,1,5,6],[])),(2,([0,1,5,6,7,8],[])),(3,([0,1,5,6,7,8,34],[])),(4,([4],[])),(5,([0,1,5,6,7,9],[])),(6,([0,5,6,7,9,10],[])),(7,([0,5,6,7,8,9,10,11],[])),(8,([0,5,6,7,8,9,10,11,12],[])),(9,([0,5,6,7,8,9,10,11,12,13],[])),(10,([0,5,6,7,8,9,10,11,12,13,71],[])),(11,([0,5,6,7,8,9,10,11,12,13],[])),(12,([0,5,6,7,8,9,10,11,12,13,78],[])),(13,([0,5,6,7,8,9,10,11,12,13],[])),(14,([4],[]))]
@[simp] theorem k12_0:kof L12 0=([0,1],[]):=rfl
@[simp] theorem k12_1:kof L12 1=([0,1,5,6],[]):=rfl
@[simp] theorem k12_2:kof L12 2=([0,1,5,6,7,8],[]):=rfl
@[simp] theorem k12_3:kof L12 3=([0,1,5,6,7,8,34],[]):=rfl
@[simp] theorem k12_4:kof L12 4=([4],[]):=rfl
@[simp] theorem k12_5:kof L12 5=([0,1,5,6,7,9],[]):=rfl
@[simp] theorem k12_6:kof L12 6=([0,5,6,7,9,10],[]):=rfl
@[simp] theorem k12_7:kof L12 7=([0,5,6,7,8,9,10,11],[]):=rfl
@[simp] theorem k12_8:kof L12 8=([0,5,6,7,8,9,10,11,12],[]):=rfl
@[simp] theorem k12_9:kof L12 9=([0,5,6,7,8,9,10,11,12,13],[]):=rfl
@[simp] theorem k12_10:kof L12 10=([0,5,6,7,8,9,10,11,12,13,71],[]):=rfl
@[simp] theorem k12_11:kof L12 11=([0,5,6,7,8,9,10,11,12,13],[]):=rfl
@[simp] theorem k12_12:kof L12 12=([0,5,6,7,8,9,10,11,12,13,78],[]):=rfl
@[simp] theorem k12_13:kof L12 13=([0,5,6,7,8,9,10,11,12,13],[]):=rfl
@[simp] theorem k12_14:kof L12 14=([4],[]):=rfl
def T12:List (Nat×Plan):=[]
def L43:Live:=[(0,([0,1],[])),(1,([1,5],[])),(2,([1,5,6],[])),(3,([1,5,6,7],[])),(4,([1,5,6,7,17],[])),(5,([1,5,6,7],[])),(6,([1,5,6,7,8,9],[])),(7,([1,5,6,7,8,9,10],[])),(8,([1,5,6,7,8,9,10,23],[])),(9,([1,5,6,7,8,9,10],[])),(10,([1,5,6,7,8,9,10,11],[])),(11,([1,5,6,7,8,9,10,11,45],[])),(12,([1,5,6,7,8,9,10,11],[])),(13,([1,5,6,7,8,9,10,11,55],[])),(14,([1,5,6,7,8,9,10],[])),(15,([1,5,6,7,8,9,62],[])),(16,([4],[])),(17,([1,5,6,7,8,9,12],[])),(18,([1,5,6,7,8,9,12],[])),(19,([1,5,6,7,8,9,12],[])),(20,([1,5,6,7],[])),(21,([4],[]))]
@[simp] theorem k43_0:kof L43 0=([0,1],[]):=rfl
@[simp] theorem k43_1:kof L43 1=([1,5],[]):=rfl
@[simp] theorem k43_2:kof L43 2=([1,5,6],[]):=rfl
@[simp] theorem k43_3:kof L43 3=([1,5,6,7],[]):=rfl
@[simp] theorem k43_4:kof L43 4=([1,5,6,7,17],[]):=rfl
@[simp] theorem k43_5:kof L43 5=([1,5,6,7],[]):=rfl
@[simp] theorem k43_6:kof L43 6=([1,5,6,7,8,9],[]):=rfl
@[simp] theorem k43_7:kof L43 7=([1,5,6,7,8,9,10],[]):=rfl
@[simp] theorem k43_8:kof L43 8=([1,5,6,7,8,9,10,23],[]):=rfl
@[simp] theorem k43_9:kof L43 9=([1,5,6,7,8,9,10],[]):=rfl
@[simp] theorem k43_10:kof L43 10=([1,5,6,7,8,9,10,11],[]):=rfl
@[simp] theorem k43_11:kof L43 11=([1,5,6,7,8,9,10,11,45],[]):=rfl
@[simp] theorem k43_12:kof L43 12=([1,5,6,7,8,9,10,11],[]):=rfl
@[simp] theorem k43_13:kof L43 13=([1,5,6,7,8,9,10,11,55],[]):=rfl
@[simp] theorem k43_14:kof L43 14=([1,5,6,7,8,9,10],[]):=rfl
@[simp] theorem k43_15:kof L43 15=([1,5,6,7,8,9,62],[]):=rfl
@[simp] theorem k43_16:kof L43 16=([4],[]):=rfl
@[simp] theorem k43_17:kof L43 17=([1,5,6,7,8,9,12],[]):=rfl
@[simp] theorem k43_18:kof L43 18=([1,5,6,7,8,9,12],[]):=rfl
@[simp] theorem k43_19:kof L43 19=([1,5,6,7,8,9,12],[]):=rfl
@[simp] theorem k43_20:kof L43 20=([1,5,6,7],[]):=rfl
@[simp] theorem k43_21:kof L43 21=([4],[]):=rfl
def T43:List (Nat×Plan):=[(17,[([5],[]),([8],[]),([64,65],[]),([66],[]),([67],[]),([5],[]),([9],[]),([69,70],[]),([71],[])])]
def L73:Live:=[(0,([0,1],[])),(1,([0,1,7],[])),(2,([4],[])),(3,([4],[]))]
@[simp] theorem k73_0:kof L73 0=([0,1],[]):=rfl
@[simp] theorem k73_1:kof L73 1=([0,1,7],[]):=rfl
@[simp] theorem k73_2:kof L73 2=([4],[]):=rfl
@[simp] theorem k73_3:kof L73 3=([4],[]):=rfl
def T73:List (Nat×Plan):=[]
end Go.Proofs.YtejodhjhddnbeaaDoor.E
namespace Go.Proofs.YtejodhjhddnbeaaDoor.E
open Go Go.RowKit
theorem firstK_ne {p:Nat->Bool} {K i:Nat} (hi:i < K) (hp:p i=true):firstK p K≠none:=by
 unfold firstK
 intro h
 rw [List.find?_eq_none] at h
 exact h i (List.mem_range.2 hi) hp
section
variable {bal:List Int} {nums:List Nat}
end
end Go.Proofs.YtejodhjhddnbeaaDoor.E
namespace Go.Proofs.YtejodhjhddnbeaaDoor.E
open Go Go.RowKit
def H38 (ctx:Ctx):Prop:=∀ (l:List Int) (ro c:Bool),l.length < 2^44->ctx 38 [(ro,.sl c 1 (ints l))]=some [.fv (.bool (balances l))]
end Go.Proofs.YtejodhjhddnbeaaDoor.E
namespace Go.Proofs.YtejodhjhddnbeaaDoor.E
open Go Go.RowKit
theorem argL {fs:List FV} {l:List Int} (h:fs=[.sl false 1 (ints l)]):argFV Tryd.prog 23 fs = .sl false 1 (ints l):=by
 rw [h]; exact argFV_one (by kernel_rfl) _
end Go.Proofs.YtejodhjhddnbeaaDoor.E
namespace Go.Proofs.YtejodhjhddnbeaaDoor.E
open Go Go.RowKit
theorem at38 {L:List Fm} (h:L.find? (fun G=>G.k==38)=some F38):H38 (famCtx L):=fun l ro c hl=>fam_at (F:=F38) h ⟨(l,ro,c),hl⟩ rfl rfl
end Go.Proofs.YtejodhjhddnbeaaDoor.E
