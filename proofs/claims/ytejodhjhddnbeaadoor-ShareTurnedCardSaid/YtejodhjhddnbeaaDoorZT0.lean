/-
  The chapter of the share: what this law needs beside: what is kept behind each region of its functions; in which order operations come. Conditions: none.
-/
import Derived.Test.YtejodhjhddnbeaaDoorZ25
set_option linter.unusedVariables false
set_option linter.unusedSimpArgs false
namespace Go.Proofs.YtejodhjhddnbeaaDoor.E
open Go Go.RowKit Go.ChangeShapes
section
variable {H:Type} {enc:TypeId×Value->H} {P:Program} {W W':World} {base:Nat} {spare:Nat->Bool} {held:Bool}
end
end Go.Proofs.YtejodhjhddnbeaaDoor.E
namespace Go.Proofs.YtejodhjhddnbeaaDoor.E
open Go Go.RowKit
section
variable {P:Program}
end
section
variable {P:Program}
theorem IsT_two {n t e:Nat} {fs:List FV} (ht:P.underlying t=some (.array 2 e)) (he:P.underlying e=some (.int .i64)) (h:IsT P (n+2) t fs):∃ a b,fs=[.int .i64 a,.int .i64 b]:=by
 have h:=h.h
 simp only [FVT,ht] at h
 obtain ⟨gss,hl,rfl,hf⟩:=h
 match gss,hl with
 | [g0,g1],_ =>
  obtain ⟨a,ha⟩:=IsT_int he ⟨hf g0 (by simp)⟩
  obtain ⟨b,hb⟩:=IsT_int he ⟨hf g1 (by simp)⟩
  exact ⟨a,b,by rw [ha,hb]; rfl⟩
end
end Go.Proofs.YtejodhjhddnbeaaDoor.E
namespace Go.Proofs.YtejodhjhddnbeaaDoor.E
open Go Go.RowKit
def L7:Live:=[(0,([0,1,5],[])),(1,([0,1,5,7,8],[])),(2,([0,1,5,7,8,38],[])),(3,([6],[])),(4,([0,1,5,7,9],[])),(5,([0,1,5,7,10],[])),(6,([0,1,5,7,10,11],[])),(7,([0,1,5,7,10,11,74],[])),(8,([0,1,5,7,10,11],[])),(9,([0,1,5,7,10,11],[])),(10,([0,1,5,7,8,10,12],[])),(11,([0,1,5,7,10,12,107],[])),(12,([6],[])),(13,([0,1,5,7,10,12,13],[])),(14,([0,1,5,7,10,12,13,111],[])),(15,([0,1,5,7,10,12,13],[])),(16,([0,1,5,7,10,12,13,14],[])),(17,([0,1,5,7,10,12,13,14,117],[])),(18,([0,1,5,7,10,12,13,14],[])),(19,([0,1,5,7,10,12,13,14,141],[])),(20,([6],[])),(21,([0,1,7,15],[])),(22,([0,1,7,15,16],[])),(23,([0,1,7,15,16,17],[])),(24,([0,1,7,15,16,17,149],[])),(25,([0,1,7,15,16,17],[])),(26,([0,1,7,15,16,17,159],[])),(27,([6],[])),(28,([0,1,7,15,16,17],[])),(29,([7,8,18],[])),(30,([6],[]))]
@[simp] theorem k7_0:kof L7 0=([0,1,5],[]):=rfl
@[simp] theorem k7_1:kof L7 1=([0,1,5,7,8],[]):=rfl
@[simp] theorem k7_2:kof L7 2=([0,1,5,7,8,38],[]):=rfl
@[simp] theorem k7_3:kof L7 3=([6],[]):=rfl
@[simp] theorem k7_4:kof L7 4=([0,1,5,7,9],[]):=rfl
@[simp] theorem k7_5:kof L7 5=([0,1,5,7,10],[]):=rfl
@[simp] theorem k7_6:kof L7 6=([0,1,5,7,10,11],[]):=rfl
@[simp] theorem k7_7:kof L7 7=([0,1,5,7,10,11,74],[]):=rfl
@[simp] theorem k7_8:kof L7 8=([0,1,5,7,10,11],[]):=rfl
@[simp] theorem k7_9:kof L7 9=([0,1,5,7,10,11],[]):=rfl
@[simp] theorem k7_10:kof L7 10=([0,1,5,7,8,10,12],[]):=rfl
@[simp] theorem k7_11:kof L7 11=([0,1,5,7,10,12,107],[]):=rfl
@[simp] theorem k7_12:kof L7 12=([6],[]):=rfl
@[simp] theorem k7_13:kof L7 13=([0,1,5,7,10,12,13],[]):=rfl
@[simp] theorem k7_14:kof L7 14=([0,1,5,7,10,12,13,111],[]):=rfl
@[simp] theorem k7_15:kof L7 15=([0,1,5,7,10,12,13],[]):=rfl
@[simp] theorem k7_16:kof L7 16=([0,1,5,7,10,12,13,14],[]):=rfl
@[simp] theorem k7_17:kof L7 17=([0,1,5,7,10,12,13,14,117],[]):=rfl
@[simp] theorem k7_18:kof L7 18=([0,1,5,7,10,12,13,14],[]):=rfl
@[simp] theorem k7_19:kof L7 19=([0,1,5,7,10,12,13,14,141],[]):=rfl
@[simp] theorem k7_20:kof L7 20=([6],[]):=rfl
@[simp] theorem k7_21:kof L7 21=([0,1,7,15],[]):=rfl
@[simp] theorem k7_22:kof L7 22=([0,1,7,15,16],[]):=rfl
@[simp] theorem k7_23:kof L7 23=([0,1,7,15,16,17],[]):=rfl
@[simp] theorem k7_24:kof L7 24=([0,1,7,15,16,17,149],[]):=rfl
@[simp] theorem k7_25:kof L7 25=([0,1,7,15,16,17],[]):=rfl
@[simp] theorem k7_26:kof L7 26=([0,1,7,15,16,17,159],[]):=rfl
@[simp] theorem k7_27:kof L7 27=([6],[]):=rfl
@[simp] theorem k7_28:kof L7 28=([0,1,7,15,16,17],[]):=rfl
@[simp] theorem k7_29:kof L7 29=([7,8,18],[]):=rfl
@[simp] theorem k7_30:kof L7 30=([6],[]):=rfl
def T7:List (Nat×Plan):=[(5,[([],[59]),([1],[55,59]),([9],[55,59]),([56,57],[55,59]),([55,58],[]),([1],[55,59]),([9],[55,59]),([60,61],[55,59])]),(9,[([10],[]),([11],[]),([10],[]),([11],[]),([80],[]),([10],[]),([11],[]),([83],[]),([82,84],[]),([85],[]),([10],[]),([11],[]),([87,88],[]),([89],[]),([77,78],[])]),(19,[([10],[]),([14],[]),([120,121],[]),([122],[]),([123],[]),([1],[]),([13],[]),([125,126],[]),([127],[]),([128],[]),([124,129],[]),([130],[]),([12,131],[]),([14,131],[]),([132,133,131],[]),([134,131],[]),([7,131],[]),([13,131],[]),([136,137,131],[]),([138,131],[])]),(28,[([16],[175]),([1],[175]),([17],[175]),([162,163],[175]),([164],[175]),([165],[175]),([1],[175]),([17],[175]),([167,168],[175]),([169],[175]),([170],[175]),([15],[175]),([171,172],[175]),([166,173],[175]),([174],[])])]
end Go.Proofs.YtejodhjhddnbeaaDoor.E
