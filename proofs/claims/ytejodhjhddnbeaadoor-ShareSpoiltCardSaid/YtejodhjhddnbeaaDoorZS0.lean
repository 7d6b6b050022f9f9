/-
  The chapter of the share: what this law needs beside: what is kept behind each region of its functions; in which order operations come. Conditions: none.
-/
import Derived.Test.YtejodhjhddnbeaaDoorZ25
set_option linter.unusedVariables false
set_option linter.unusedSimpArgs false
namespace Go.Proofs.YtejodhjhddnbeaaDoor.E
open Go Go.RowKit
def L13:Live:=[(0,([0,1],[])),(1,([0,1,5,6],[])),(2,([0,1,5,32],[])),(3,([4],[])),(4,([0,1,5],[])),(5,([0,1,5,7],[])),(6,([0,1,5,7],[])),(7,([0,5,7,8],[])),(8,([0,5,6,8,9],[])),(9,([0,5,6,9,10,11],[])),(10,([0,5,99],[])),(11,([4],[])),(12,([0,5,12],[])),(13,([0,5,12,13],[])),(14,([0,5,12,13,103],[])),(15,([0,5,12,13],[])),(16,([0,5,12,13],[])),(17,([12,14,15],[])),(18,([4],[]))]
@[simp] theorem k13_0:kof L13 0=([0,1],[]):=rfl
@[simp] theorem k13_1:kof L13 1=([0,1,5,6],[]):=rfl
@[simp] theorem k13_2:kof L13 2=([0,1,5,32],[]):=rfl
@[simp] theorem k13_3:kof L13 3=([4],[]):=rfl
@[simp] theorem k13_4:kof L13 4=([0,1,5],[]):=rfl
@[simp] theorem k13_5:kof L13 5=([0,1,5,7],[]):=rfl
@[simp] theorem k13_6:kof L13 6=([0,1,5,7],[]):=rfl
@[simp] theorem k13_7:kof L13 7=([0,5,7,8],[]):=rfl
@[simp] theorem k13_8:kof L13 8=([0,5,6,8,9],[]):=rfl
@[simp] theorem k13_9:kof L13 9=([0,5,6,9,10,11],[]):=rfl
@[simp] theorem k13_10:kof L13 10=([0,5,99],[]):=rfl
@[simp] theorem k13_11:kof L13 11=([4],[]):=rfl
@[simp] theorem k13_12:kof L13 12=([0,5,12],[]):=rfl
@[simp] theorem k13_13:kof L13 13=([0,5,12,13],[]):=rfl
@[simp] theorem k13_14:kof L13 14=([0,5,12,13,103],[]):=rfl
@[simp] theorem k13_15:kof L13 15=([0,5,12,13],[]):=rfl
@[simp] theorem k13_16:kof L13 16=([0,5,12,13],[]):=rfl
@[simp] theorem k13_17:kof L13 17=([12,14,15],[]):=rfl
@[simp] theorem k13_18:kof L13 18=([4],[]):=rfl
def T13:List (Nat×Plan):=[(6,[([7],[]),([1],[]),([5],[]),([1],[]),([48,49],[]),([50],[]),([51],[]),([5],[]),([1],[]),([53,54],[]),([55],[]),([56],[]),([5],[]),([1],[]),([58,59],[]),([60],[]),([61],[]),([62],[]),([52,57,63],[])]),(7,[([],[70]),([5],[66,70]),([1],[66,70]),([67,68],[66,70]),([66,69],[]),([5],[66,70]),([1],[66,70]),([72],[66,70]),([71,73],[66,70])])]
end Go.Proofs.YtejodhjhddnbeaaDoor.E
namespace Go.Proofs.YtejodhjhddnbeaaDoor.E
open Go Go.RowKit
theorem firstK_ne {p:Nat->Bool} {K i:Nat} (hi:i < K) (hp:p i=true):firstK p K≠none:=by
 unfold firstK
 intro h
 rw [List.find?_eq_none] at h
 exact h i (List.mem_range.2 hi) hp
section
variable {bal:List Int} {nums:List Nat}
end
end Go.Proofs.YtejodhjhddnbeaaDoor.E
namespace Go.Proofs.YtejodhjhddnbeaaDoor.E
open Go Go.RowKit
def H38 (ctx:Ctx):Prop:=∀ (l:List Int) (ro c:Bool),l.length < 2^44->ctx 38 [(ro,.sl c 1 (ints l))]=some [.fv (.bool (balances l))]
end Go.Proofs.YtejodhjhddnbeaaDoor.E
namespace Go.Proofs.YtejodhjhddnbeaaDoor.E
open Go Go.RowKit
theorem argL {fs:List FV} {l:List Int} (h:fs=[.sl false 1 (ints l)]):argFV Tryd.prog 23 fs = .sl false 1 (ints l):=by
 rw [h]; exact argFV_one (by kernel_rfl) _
end Go.Proofs.YtejodhjhddnbeaaDoor.E
namespace Go.Proofs.YtejodhjhddnbeaaDoor.E
open Go Go.RowKit
theorem at38 {L:List Fm} (h:L.find? (fun G=>G.k==38)=some F38):H38 (famCtx L):=fun l ro c hl=>fam_at (F:=F38) h ⟨(l,ro,c),hl⟩ rfl rfl
end Go.Proofs.YtejodhjhddnbeaaDoor.E
