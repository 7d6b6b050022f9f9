/-
  The chapter of the share: its functions, and what they compute. Conditions: none.
-/
import Derived.Test.YtejodhjhddnbeaaDoorZ07
import Derived.Test.YtejodhjhddnbeaaDoorProg
set_option linter.unusedVariables false
set_option linter.unusedSimpArgs false
namespace Go.Proofs.YtejodhjhddnbeaaDoor.E
open Go Go.RowKit
noncomputable def tbl:List (Nat×TI):=[(3,⟨1,8,[.int .i64 0],(.int .i64)⟩),
 (4,⟨1,1,[.bool false],.bool⟩),
 (5,⟨1,1,[.int .u8 0],(.int .u8)⟩),
 (9,⟨1,16,[.str ByteArray.empty],.string⟩),
 (22,⟨1,24,[.sl true 0 []],(.slice 49)⟩),
 (23,⟨1,24,[.sl true 0 []],(.slice 3)⟩),
 (24,⟨1,8,[.int .i64 0],(.int .i64)⟩),
 (30,⟨1,24,[.sl true 0 []],(.slice 59)⟩),
 (32,⟨9,152,[.int .i64 0,.sl true 0 [],.int .i64 0,.int .i64 0,.int .i64 0,.sl true 0 [],.sl true 0 [],.sl true 0 [],.sl true 0 []],(.struct [(0,3),(1,23),(2,3),(3,3),(4,3),(5,22),(6,22),(7,22),(8,30)])⟩),
 (33,⟨1,8,[.nilfn],.other⟩),
 (38,⟨1,24,[.sl true 0 []],(.slice 53)⟩),
 (46,⟨2,16,[.int .i64 0,.int .i64 0],(.array 2 3)⟩),
 (49,⟨2,24,[.str ByteArray.empty,.int .i64 0],(.struct [(0,9),(1,3)])⟩),
 (53,⟨4,40,[.str ByteArray.empty,.int .i64 0,.int .i64 0,.int .i64 0],(.struct [(0,9),(1,3),(2,3),(3,3)])⟩),
 (56,⟨4,32,[.int .i64 0,.int .i64 0,.int .i64 0,.int .i64 0],(.array 4 3)⟩),
 (59,⟨4,48,[.str ByteArray.empty,.str ByteArray.empty,.int .i64 0,.int .i64 0],(.struct [(0,9),(1,9),(2,3),(3,3)])⟩),
 (61,⟨1,24,[.sl true 0 []],(.slice 23)⟩),
 (67,⟨1,24,[.sl true 0 []],(.slice 74)⟩),
 (74,⟨3,24,[.int .i64 0,.int .i64 0,.int .i64 0],(.struct [(0,3),(1,3),(2,3)])⟩),
 (76,⟨1,24,[.sl true 0 []],(.slice 32)⟩),
 (84,⟨9,152,[.int .i64 0,.sl true 0 [],.int .i64 0,.int .i64 0,.int .i64 0,.sl true 0 [],.sl true 0 [],.sl true 0 [],.sl true 0 []],(.struct [(0,32)])⟩),
 (88,⟨1,8,[.nilmp],(.map 9 96)⟩),
 (89,⟨1,8,[.nilfn],.other⟩),
 (90,⟨2,24,[.str ByteArray.empty,.nilfn],(.struct [(0,9),(1,89)])⟩),
 (91,⟨6,72,[.str ByteArray.empty,.nilfn,.str ByteArray.empty,.nilfn,.str ByteArray.empty,.nilfn],(.array 3 90)⟩),
 (93,⟨3,24,[.int .i64 0,.int .i64 0,.int .i64 0],(.array 3 3)⟩),
 (94,⟨3,24,[.int .i64 0,.int .i64 0,.int .i64 0],(.array 3 3)⟩),
 (96,⟨1,8,[.nilpt],(.ptr 93)⟩),
 (99,⟨1,8,[.nilfn],.other⟩),
 (101,⟨1,8,[.nilmp],(.map 3 3)⟩),
 (103,⟨3,56,[.sl true 0 [],.sl true 0 [],.nilmp],(.struct [(0,23),(1,23),(2,101)])⟩),
 (107,⟨1,8,[.nilfn],.other⟩),
 (109,⟨2,48,[.sl true 0 [],.sl true 0 []],(.struct [(0,23),(1,23)])⟩),
 (114,⟨1,8,[.nilfn],.other⟩),
 (115,⟨1,24,[.sl true 0 []],(.slice 117)⟩),
 (117,⟨5,48,[.str ByteArray.empty,.int .i64 0,.int .i64 0,.int .i64 0,.int .i64 0],(.struct [(0,49),(2,3),(3,3),(4,3)])⟩),
 (118,⟨1,8,[.nilfn],.other⟩),
 (120,⟨1,24,[.sl true 0 []],(.slice 9)⟩),
 (126,⟨1,8,[.int .u64 0],(.int .u64)⟩),
 (127,⟨1,8,[.nilfn],.other⟩),
 (129,⟨1,24,[.sl true 0 []],(.slice 5)⟩),
 (131,⟨1,8,[.nilfn],.other⟩),
 (132,⟨1,8,[.nilfn],.other⟩),
 (134,⟨1,8,[.nilfn],(.struct [(0,132)])⟩),
 (144,⟨1,4,[.int .u32 0],(.int .u32)⟩),
 (146,⟨1,8,[.int .u64 0],(.int .u64)⟩)]
@[simp] theorem tb3:lk 3 tbl=some ⟨1,8,[.int .i64 0],(.int .i64)⟩:=rfl
@[simp] theorem tb4:lk 4 tbl=some ⟨1,1,[.bool false],.bool⟩:=rfl
@[simp] theorem tb5:lk 5 tbl=some ⟨1,1,[.int .u8 0],(.int .u8)⟩:=rfl
@[simp] theorem tb9:lk 9 tbl=some ⟨1,16,[.str ByteArray.empty],.string⟩:=rfl
@[simp] theorem tb22:lk 22 tbl=some ⟨1,24,[.sl true 0 []],(.slice 49)⟩:=rfl
@[simp] theorem tb23:lk 23 tbl=some ⟨1,24,[.sl true 0 []],(.slice 3)⟩:=rfl
@[simp] theorem tb24:lk 24 tbl=some ⟨1,8,[.int .i64 0],(.int .i64)⟩:=rfl
@[simp] theorem tb30:lk 30 tbl=some ⟨1,24,[.sl true 0 []],(.slice 59)⟩:=rfl
@[simp] theorem tb32:lk 32 tbl=some ⟨9,152,[.int .i64 0,.sl true 0 [],.int .i64 0,.int .i64 0,.int .i64 0,.sl true 0 [],.sl true 0 [],.sl true 0 [],.sl true 0 []],(.struct [(0,3),(1,23),(2,3),(3,3),(4,3),(5,22),(6,22),(7,22),(8,30)])⟩:=rfl
@[simp] theorem tb33:lk 33 tbl=some ⟨1,8,[.nilfn],.other⟩:=rfl
@[simp] theorem tb38:lk 38 tbl=some ⟨1,24,[.sl true 0 []],(.slice 53)⟩:=rfl
@[simp] theorem tb46:lk 46 tbl=some ⟨2,16,[.int .i64 0,.int .i64 0],(.array 2 3)⟩:=rfl
@[simp] theorem tb49:lk 49 tbl=some ⟨2,24,[.str ByteArray.empty,.int .i64 0],(.struct [(0,9),(1,3)])⟩:=rfl
@[simp] theorem tb53:lk 53 tbl=some ⟨4,40,[.str ByteArray.empty,.int .i64 0,.int .i64 0,.int .i64 0],(.struct [(0,9),(1,3),(2,3),(3,3)])⟩:=rfl
@[simp] theorem tb56:lk 56 tbl=some ⟨4,32,[.int .i64 0,.int .i64 0,.int .i64 0,.int .i64 0],(.array 4 3)⟩:=rfl
@[simp] theorem tb59:lk 59 tbl=some ⟨4,48,[.str ByteArray.empty,.str ByteArray.empty,.int .i64 0,.int .i64 0],(.struct [(0,9),(1,9),(2,3),(3,3)])⟩:=rfl
@[simp] theorem tb61:lk 61 tbl=some ⟨1,24,[.sl true 0 []],(.slice 23)⟩:=rfl
@[simp] theorem tb67:lk 67 tbl=some ⟨1,24,[.sl true 0 []],(.slice 74)⟩:=rfl
@[simp] theorem tb74:lk 74 tbl=some ⟨3,24,[.int .i64 0,.int .i64 0,.int .i64 0],(.struct [(0,3),(1,3),(2,3)])⟩:=rfl
@[simp] theorem tb76:lk 76 tbl=some ⟨1,24,[.sl true 0 []],(.slice 32)⟩:=rfl
@[simp] theorem tb84:lk 84 tbl=some ⟨9,152,[.int .i64 0,.sl true 0 [],.int .i64 0,.int .i64 0,.int .i64 0,.sl true 0 [],.sl true 0 [],.sl true 0 [],.sl true 0 []],(.struct [(0,32)])⟩:=rfl
@[simp] theorem tb88:lk 88 tbl=some ⟨1,8,[.nilmp],(.map 9 96)⟩:=rfl
@[simp] theorem tb89:lk 89 tbl=some ⟨1,8,[.nilfn],.other⟩:=rfl
@[simp] theorem tb90:lk 90 tbl=some ⟨2,24,[.str ByteArray.empty,.nilfn],(.struct [(0,9),(1,89)])⟩:=rfl
@[simp] theorem tb91:lk 91 tbl=some ⟨6,72,[.str ByteArray.empty,.nilfn,.str ByteArray.empty,.nilfn,.str ByteArray.empty,.nilfn],(.array 3 90)⟩:=rfl
@[simp] theorem tb93:lk 93 tbl=some ⟨3,24,[.int .i64 0,.int .i64 0,.int .i64 0],(.array 3 3)⟩:=rfl
@[simp] theorem tb94:lk 94 tbl=some ⟨3,24,[.int .i64 0,.int .i64 0,.int .i64 0],(.array 3 3)⟩:=rfl
@[simp] theorem tb96:lk 96 tbl=some ⟨1,8,[.nilpt],(.ptr 93)⟩:=rfl
@[simp] theorem tb99:lk 99 tbl=some ⟨1,8,[.nilfn],.other⟩:=rfl
@[simp] theorem tb101:lk 101 tbl=some ⟨1,8,[.nilmp],(.map 3 3)⟩:=rfl
@[simp] theorem tb103:lk 103 tbl=some ⟨3,56,[.sl true 0 [],.sl true 0 [],.nilmp],(.struct [(0,23),(1,23),(2,101)])⟩:=rfl
@[simp] theorem tb107:lk 107 tbl=some ⟨1,8,[.nilfn],.other⟩:=rfl
@[simp] theorem tb109:lk 109 tbl=some ⟨2,48,[.sl true 0 [],.sl true 0 []],(.struct [(0,23),(1,23)])⟩:=rfl
@[simp] theorem tb114:lk 114 tbl=some ⟨1,8,[.nilfn],.other⟩:=rfl
@[simp] theorem tb115:lk 115 tbl=some ⟨1,24,[.sl true 0 []],(.slice 117)⟩:=rfl
@[simp] theorem tb117:lk 117 tbl=some ⟨5,48,[.str ByteArray.empty,.int .i64 0,.int .i64 0,.int .i64 0,.int .i64 0],(.struct [(0,49),(2,3),(3,3),(4,3)])⟩:=rfl
@[simp] theorem tb118:lk 118 tbl=some ⟨1,8,[.nilfn],.other⟩:=rfl
@[simp] theorem tb120:lk 120 tbl=some ⟨1,24,[.sl true 0 []],(.slice 9)⟩:=rfl
@[simp] theorem tb126:lk 126 tbl=some ⟨1,8,[.int .u64 0],(.int .u64)⟩:=rfl
@[simp] theorem tb127:lk 127 tbl=some ⟨1,8,[.nilfn],.other⟩:=rfl
@[simp] theorem tb129:lk 129 tbl=some ⟨1,24,[.sl true 0 []],(.slice 5)⟩:=rfl
@[simp] theorem tb131:lk 131 tbl=some ⟨1,8,[.nilfn],.other⟩:=rfl
@[simp] theorem tb132:lk 132 tbl=some ⟨1,8,[.nilfn],.other⟩:=rfl
@[simp] theorem tb134:lk 134 tbl=some ⟨1,8,[.nilfn],(.struct [(0,132)])⟩:=rfl
@[simp] theorem tb144:lk 144 tbl=some ⟨1,4,[.int .u32 0],(.int .u32)⟩:=rfl
@[simp] theorem tb146:lk 146 tbl=some ⟨1,8,[.int .u64 0],(.int .u64)⟩:=rfl
abbrev Ctx:=FuncId->List (Bool×FV)->Option (List TV)
def eqT:List (Nat×List Sc):=[(94,[.int,.int,.int]),(117,[.str,.int,.int,.int,.int]),(53,[.str,.int,.int,.int])]
noncomputable def pg (ctx:Ctx):Pg:={ P:=Tryd.prog,tbl:=tbl,ctx:=ctx,eqs:=eqT,deep:=[88,76] }
@[simp] theorem pg_tbl (ctx:Ctx):(pg ctx).tbl=tbl:=rfl
@[simp] theorem pg_ctx (ctx:Ctx):(pg ctx).ctx=ctx:=rfl
@[simp] theorem pg_keys (ctx:Ctx):(pg ctx).keys=[]:=rfl
@[simp] theorem pg_inl (ctx:Ctx) (k d:Nat) (σ:St) (a:List V):(pg ctx).inl k d σ a=none:=rfl
@[simp] theorem pg_fz (ctx:Ctx) (k:Nat):(pg ctx).fz k=false:=rfl
@[simp] theorem pg_yl (ctx:Ctx):(pg ctx).yl=none:=rfl
@[simp] theorem pg_eqs (ctx:Ctx):(pg ctx).eqs=[(94,[.int,.int,.int]),(117,[.str,.int,.int,.int,.int]),(53,[.str,.int,.int,.int])]:=rfl
@[simp] theorem pg_deep (ctx:Ctx):(pg ctx).deep=[88,76]:=rfl
@[simp] theorem pg_pin (ctx:Ctx):(pg ctx).pin=[]:=rfl
@[simp] theorem pg_hd (ctx:Ctx) (k:Nat):(pg ctx).hd k=false:=rfl
@[simp] theorem pg_itrH (ctx:Ctx) (k:Nat) (b:List (Nat×Blk)) (c:List V):(pg ctx).itrH k b c=none:=rfl
theorem tchk:tblChk Tryd.prog tbl=true:=by kernel_rfl
theorem eqv_int {a b:Value} {r:Bool} (h:eqv .int a b=some r):∃ k x y,a = .int k x/\b = .int k y/\r=(x==y):=by
 unfold eqv at h
 split at h
 ·split at h
  ·rename_i hc; subst hc; simp only [Option.some.injEq] at h; exact ⟨_,_,_,rfl,rfl,h.symm⟩
  ·simp at h
 ·contradiction
 ·contradiction
 ·simp at h
theorem eqv_str {a b:Value} {r:Bool} (h:eqv .str a b=some r):∃ x y,a = .string x/\b = .string y/\r=(x==y):=by
 unfold eqv at h
 split at h
 ·contradiction
 ·contradiction
 ·simp only [Option.some.injEq] at h; exact ⟨_,_,rfl,rfl,h.symm⟩
 ·simp at h
theorem eqvs_cons {q:Sc} {qs:List Sc} {a b:Value} {ps bs:List Value} {r:Bool} (h:eqvs (q :: qs) (a :: ps) (b :: bs)=some r):∃ x y,eqv q a b=some x/\eqvs qs ps bs=some y/\r=(x&&y):=by
 simp only [eqvs] at h
 split at h
 ·simp only [Option.some.injEq] at h; exact ⟨_,_,‹_›,‹_›,h.symm⟩
 ·simp at h
theorem part3 {cs:Array Value} {off:Nat} {v:Value} (w:World) (h:cs[off]? = some v):(part 3 cs off).run Tryd.prog w = .ok v w:=by
 simp [part,isAgg,underlying,Tryd.underlying3,h]
theorem part9 {cs:Array Value} {off:Nat} {v:Value} (w:World) (h:cs[off]? = some v):(part 9 cs off).run Tryd.prog w = .ok v w:=by
 simp [part,isAgg,underlying,Tryd.underlying9,h]
theorem eqin3 (d:Nat) (k:IntKind) (x y:Int) (w:World):(Op.equalIn (d+1) 3 (.int k x) (.int k y)).run Tryd.prog w = .ok (x==y) w:=by
 rw [Op.equalIn]; simp [underlying,Tryd.underlying3]
theorem eqin9 (d:Nat) (x y:ByteArray) (w:World):(Op.equalIn (d+1) 9 (.string x) (.string y)).run Tryd.prog w = .ok (x==y) w:=by
 rw [Op.equalIn]; simp [underlying,Tryd.underlying9]
theorem eqin49 (d:Nat) (k:IntKind) (x y:ByteArray) (m n:Int) (w:World):(Op.equalIn (d+1+1) 49 (.agg #[.string x,.int k m]) (.agg #[.string y,.int k n])).run Tryd.prog w = .ok (x==y&&m==n) w:=by
 rw [Op.equalIn]
 simp only [underlying,Tryd.underlying49,Sem.run_bind,run_program,Result.andThen_ok,Sem.run_pure]
 simp [part9 w (show (#[Value.string x,.int k m]:Array Value)[0]? = some _ from rfl),part3 w (show (#[Value.string x,.int k m]:Array Value)[1]? = some _ from rfl),part9 w (show (#[Value.string y,.int k n]:Array Value)[0]? = some _ from rfl),part3 w (show (#[Value.string y,.int k n]:Array Value)[1]? = some _ from rfl),eqin3,eqin9]
 cases e1:x==y
 ·simp
 ·cases e2:m==n<;>simp<;>simpa using e2
theorem eq53:EqIs Tryd.prog 53 [.str,.int,.int,.int]:=by
 refine ⟨by kernel_rfl,fun xs ys r w h=>?_⟩
 obtain ⟨xs⟩:=xs
 obtain ⟨ys⟩:=ys
 have hl:=eqvs_len h
 match xs,ys,hl,h with
 | [a,b,c,d],[a',b',c',d'],_,h =>
  obtain ⟨p1,q1,h1,g1,rfl⟩:=eqvs_cons h
  obtain ⟨p2,q2,h2,g2,rfl⟩:=eqvs_cons g1
  obtain ⟨p3,q3,h3,g3,rfl⟩:=eqvs_cons g2
  obtain ⟨p4,q4,h4,g4,rfl⟩:=eqvs_cons g3
  simp only [eqvs,Option.some.injEq] at g4; subst g4
  obtain ⟨s,s',rfl,rfl,rfl⟩:=eqv_str h1
  obtain ⟨k2,x2,y2,rfl,rfl,rfl⟩:=eqv_int h2
  obtain ⟨k3,x3,y3,rfl,rfl,rfl⟩:=eqv_int h3
  obtain ⟨k4,x4,y4,rfl,rfl,rfl⟩:=eqv_int h4
  unfold Op.equal
  rw [show Op.maxDepth=9998+1+1 from rfl,Op.equalIn]
  simp only [underlying,Tryd.underlying53,Sem.run_bind,run_program,Result.andThen_ok,Sem.run_pure]
  simp [part9 w (show (#[Value.string s,.int k2 x2,.int k3 x3,.int k4 x4]:Array Value)[0]? = some _ from rfl),part3 w (show (#[Value.string s,.int k2 x2,.int k3 x3,.int k4 x4]:Array Value)[1]? = some _ from rfl),part3 w (show (#[Value.string s,.int k2 x2,.int k3 x3,.int k4 x4]:Array Value)[2]? = some _ from rfl),part3 w (show (#[Value.string s,.int k2 x2,.int k3 x3,.int k4 x4]:Array Value)[3]? = some _ from rfl),
   part9 w (show (#[Value.string s',.int k2 y2,.int k3 y3,.int k4 y4]:Array Value)[0]? = some _ from rfl),part3 w (show (#[Value.string s',.int k2 y2,.int k3 y3,.int k4 y4]:Array Value)[1]? = some _ from rfl),part3 w (show (#[Value.string s',.int k2 y2,.int k3 y3,.int k4 y4]:Array Value)[2]? = some _ from rfl),part3 w (show (#[Value.string s',.int k2 y2,.int k3 y3,.int k4 y4]:Array Value)[3]? = some _ from rfl),eqin3 9998,eqin9 9998]
  cases e1:s==s'<;>cases e2:x2==y2<;>cases e3:x3==y3<;>cases e4:x4==y4<;>simp_all
theorem part49 {cs:Array Value} {a b:Value} (w:World) (h0:cs[0]? = some a) (h1:cs[1]? = some b):(part 49 cs 0).run Tryd.prog w = .ok (.agg #[a,b]) w:=by
 have hsz:(sizeOf 49).run Tryd.prog w = .ok 2 w:=by kernel_rfl
 have hag:(isAgg 49).run Tryd.prog w = .ok true w:=by kernel_rfl
 have e:cs.extract 0 2=#[a,b]:=by
  obtain ⟨cs⟩:=cs
  match cs,h0,h1 with
  | x :: y :: r,h0,h1 =>
   simp at h0 h1
   subst h0; subst h1
   simp
  | [x],_,h1=>simp at h1
  | [],h0,_=>simp at h0
 simp [part,hag,hsz,e]
theorem eq117:EqIs Tryd.prog 117 [.str,.int,.int,.int,.int]:=by
 refine ⟨by kernel_rfl,fun xs ys r w h=>?_⟩
 obtain ⟨xs⟩:=xs
 obtain ⟨ys⟩:=ys
 have hl:=eqvs_len h
 match xs,ys,hl,h with
 | [a,b,c,d,e],[a',b',c',d',e'],_,h =>
  obtain ⟨p1,q1,h1,g1,rfl⟩:=eqvs_cons h
  obtain ⟨p2,q2,h2,g2,rfl⟩:=eqvs_cons g1
  obtain ⟨p3,q3,h3,g3,rfl⟩:=eqvs_cons g2
  obtain ⟨p4,q4,h4,g4,rfl⟩:=eqvs_cons g3
  obtain ⟨p5,q5,h5,g5,rfl⟩:=eqvs_cons g4
  simp only [eqvs,Option.some.injEq] at g5; subst g5
  obtain ⟨s,s',rfl,rfl,rfl⟩:=eqv_str h1
  obtain ⟨k2,x2,y2,rfl,rfl,rfl⟩:=eqv_int h2
  obtain ⟨k3,x3,y3,rfl,rfl,rfl⟩:=eqv_int h3
  obtain ⟨k4,x4,y4,rfl,rfl,rfl⟩:=eqv_int h4
  obtain ⟨k5,x5,y5,rfl,rfl,rfl⟩:=eqv_int h5
  unfold Op.equal
  rw [show Op.maxDepth=9997+1+1+1 from rfl,Op.equalIn]
  simp only [underlying,Tryd.underlying117,Sem.run_bind,run_program,Result.andThen_ok,Sem.run_pure]
  simp [part49 w (show (#[Value.string s,.int k2 x2,.int k3 x3,.int k4 x4,.int k5 x5]:Array Value)[0]? = some _ from rfl) (show (#[Value.string s,.int k2 x2,.int k3 x3,.int k4 x4,.int k5 x5]:Array Value)[1]? = some _ from rfl),part3 w (show (#[Value.string s,.int k2 x2,.int k3 x3,.int k4 x4,.int k5 x5]:Array Value)[2]? = some _ from rfl),part3 w (show (#[Value.string s,.int k2 x2,.int k3 x3,.int k4 x4,.int k5 x5]:Array Value)[3]? = some _ from rfl),part3 w (show (#[Value.string s,.int k2 x2,.int k3 x3,.int k4 x4,.int k5 x5]:Array Value)[4]? = some _ from rfl),
   part49 w (show (#[Value.string s',.int k2 y2,.int k3 y3,.int k4 y4,.int k5 y5]:Array Value)[0]? = some _ from rfl) (show (#[Value.string s',.int k2 y2,.int k3 y3,.int k4 y4,.int k5 y5]:Array Value)[1]? = some _ from rfl),part3 w (show (#[Value.string s',.int k2 y2,.int k3 y3,.int k4 y4,.int k5 y5]:Array Value)[2]? = some _ from rfl),part3 w (show (#[Value.string s',.int k2 y2,.int k3 y3,.int k4 y4,.int k5 y5]:Array Value)[3]? = some _ from rfl),part3 w (show (#[Value.string s',.int k2 y2,.int k3 y3,.int k4 y4,.int k5 y5]:Array Value)[4]? = some _ from rfl),eqin3 9998,eqin49 9997]
  cases e1:s==s'<;>cases e2:x2==y2<;>cases e3:x3==y3<;>cases e4:x4==y4<;>cases e5:x5==y5<;>simp_all
theorem eq94:EqIs Tryd.prog 94 [.int,.int,.int]:=by
 refine ⟨by kernel_rfl,fun xs ys r w h=>?_⟩
 obtain ⟨xs⟩:=xs
 obtain ⟨ys⟩:=ys
 have hl:=eqvs_len h
 match xs,ys,hl,h with
 | [b,c,d],[b',c',d'],_,h =>
  obtain ⟨p2,q2,h2,g2,rfl⟩:=eqvs_cons h
  obtain ⟨p3,q3,h3,g3,rfl⟩:=eqvs_cons g2
  obtain ⟨p4,q4,h4,g4,rfl⟩:=eqvs_cons g3
  simp only [eqvs,Option.some.injEq] at g4; subst g4
  obtain ⟨k2,x2,y2,rfl,rfl,rfl⟩:=eqv_int h2
  obtain ⟨k3,x3,y3,rfl,rfl,rfl⟩:=eqv_int h3
  obtain ⟨k4,x4,y4,rfl,rfl,rfl⟩:=eqv_int h4
  unfold Op.equal
  rw [show Op.maxDepth=9998+1+1 from rfl,Op.equalIn]
  have hsz:(sizeOf 3).run Tryd.prog w = .ok 1 w:=by kernel_rfl
  simp only [underlying,Tryd.underlying94,Sem.run_bind,run_program,Result.andThen_ok,Sem.run_pure,hsz,Std.Legacy.Range.forIn_eq_forIn_range',Std.Legacy.Range.size,Nat.sub_zero,Nat.add_one_sub_one,Nat.div_one]
  simp [List.range'_succ,part3 w (show (#[Value.int k2 x2,.int k3 x3,.int k4 x4]:Array Value)[0]? = some _ from rfl),part3 w (show (#[Value.int k2 x2,.int k3 x3,.int k4 x4]:Array Value)[1]? = some _ from rfl),part3 w (show (#[Value.int k2 x2,.int k3 x3,.int k4 x4]:Array Value)[2]? = some _ from rfl),
   part3 w (show (#[Value.int k2 y2,.int k3 y3,.int k4 y4]:Array Value)[0]? = some _ from rfl),part3 w (show (#[Value.int k2 y2,.int k3 y3,.int k4 y4]:Array Value)[1]? = some _ from rfl),part3 w (show (#[Value.int k2 y2,.int k3 y3,.int k4 y4]:Array Value)[2]? = some _ from rfl),eqin3 9998]
  cases e2:x2==y2<;>cases e3:x3==y3<;>cases e4:x4==y4<;>simp_all
theorem tok (ctx:Ctx):TOk (pg ctx):=TOk_of_chk (G:=pg ctx) tchk (fun t n h=>by
 simp only [pg_eqs,lk] at h
 split at h
 ·rename_i e; subst e; simp only [Option.some.injEq] at h; subst h; exact eq94
 ·split at h
  ·rename_i e; subst e; simp only [Option.some.injEq] at h; subst h; exact eq117
  ·split at h
   ·rename_i e; subst e; simp only [Option.some.injEq] at h; subst h; exact eq53
   ·simp at h) (fun t n ht=>by simp at ht)
theorem mixed:Tryd.prog.follows .mixedOrders=true:=by kernel_rfl
def L15:Live:=[(0,([0,1],[])),(1,([0,1,9],[])),(2,([4,5],[])),(3,([0,1,18],[])),(4,([4,5],[])),(5,([6],[])),(6,([4,5],[]))]
@[simp] theorem k15_0:kof L15 0=([0,1],[]):=rfl
@[simp] theorem k15_1:kof L15 1=([0,1,9],[]):=rfl
@[simp] theorem k15_2:kof L15 2=([4,5],[]):=rfl
@[simp] theorem k15_3:kof L15 3=([0,1,18],[]):=rfl
@[simp] theorem k15_4:kof L15 4=([4,5],[]):=rfl
@[simp] theorem k15_5:kof L15 5=([6],[]):=rfl
@[simp] theorem k15_6:kof L15 6=([4,5],[]):=rfl
def T15:List (Nat×Plan):=[]
def L17:Live:=[(0,([0,1],[])),(1,([0,1,10],[])),(2,([4],[])),(3,([0,1,5],[])),(4,([0,1,5,14],[])),(5,([0,1,5],[])),(6,([0,1,5,25],[])),(7,([4],[])),(8,([4],[]))]
@[simp] theorem k17_0:kof L17 0=([0,1],[]):=rfl
@[simp] theorem k17_1:kof L17 1=([0,1,10],[]):=rfl
@[simp] theorem k17_2:kof L17 2=([4],[]):=rfl
@[simp] theorem k17_3:kof L17 3=([0,1,5],[]):=rfl
@[simp] theorem k17_4:kof L17 4=([0,1,5,14],[]):=rfl
@[simp] theorem k17_5:kof L17 5=([0,1,5],[]):=rfl
@[simp] theorem k17_6:kof L17 6=([0,1,5,25],[]):=rfl
@[simp] theorem k17_7:kof L17 7=([4],[]):=rfl
@[simp] theorem k17_8:kof L17 8=([4],[]):=rfl
def T17:List (Nat×Plan):=[(6,[([0],[]),([5],[]),([17,18],[]),([19],[]),([1],[]),([5],[]),([21,22],[]),([23],[])])]
def L18:Live:=[(0,([],[])),(1,([1,2],[])),(2,([1,2,3,4],[])),(3,([1,2,3,4,5,6,7,8],[])),(4,([1,2,3,4,5,6,7,8,9,10],[])),(5,([82],[])),(6,([0],[])),(7,([2,11],[])),(8,([2,4,11,12],[])),(9,([2,4,8,11,12,13],[])),(10,([0],[]))]
@[simp] theorem k18_0:kof L18 0=([],[]):=rfl
@[simp] theorem k18_1:kof L18 1=([1,2],[]):=rfl
@[simp] theorem k18_2:kof L18 2=([1,2,3,4],[]):=rfl
@[simp] theorem k18_3:kof L18 3=([1,2,3,4,5,6,7,8],[]):=rfl
@[simp] theorem k18_4:kof L18 4=([1,2,3,4,5,6,7,8,9,10],[]):=rfl
@[simp] theorem k18_5:kof L18 5=([82],[]):=rfl
@[simp] theorem k18_6:kof L18 6=([0],[]):=rfl
@[simp] theorem k18_7:kof L18 7=([2,11],[]):=rfl
@[simp] theorem k18_8:kof L18 8=([2,4,11,12],[]):=rfl
@[simp] theorem k18_9:kof L18 9=([2,4,8,11,12,13],[]):=rfl
@[simp] theorem k18_10:kof L18 10=([0],[]):=rfl
def T18:List (Nat×Plan):=[]
def L19:Live:=[(0,([1],[])),(1,([1,4],[])),(2,([1,4,10],[])),(3,([2,3],[])),(4,([5],[])),(5,([2,3],[]))]
@[simp] theorem k19_0:kof L19 0=([1],[]):=rfl
@[simp] theorem k19_1:kof L19 1=([1,4],[]):=rfl
@[simp] theorem k19_2:kof L19 2=([1,4,10],[]):=rfl
@[simp] theorem k19_3:kof L19 3=([2,3],[]):=rfl
@[simp] theorem k19_4:kof L19 4=([5],[]):=rfl
@[simp] theorem k19_5:kof L19 5=([2,3],[]):=rfl
def T19:List (Nat×Plan):=[]
def L21:Live:=[(0,([1],[])),(1,([3],[])),(2,([3,10],[])),(3,([2],[])),(4,([5],[])),(5,([17],[])),(6,([2],[])),(7,([2],[]))]
@[simp] theorem k21_0:kof L21 0=([1],[]):=rfl
@[simp] theorem k21_1:kof L21 1=([3],[]):=rfl
@[simp] theorem k21_2:kof L21 2=([3,10],[]):=rfl
@[simp] theorem k21_3:kof L21 3=([2],[]):=rfl
@[simp] theorem k21_4:kof L21 4=([5],[]):=rfl
@[simp] theorem k21_5:kof L21 5=([17],[]):=rfl
@[simp] theorem k21_6:kof L21 6=([2],[]):=rfl
@[simp] theorem k21_7:kof L21 7=([2],[]):=rfl
def T21:List (Nat×Plan):=[]
def L23:Live:=[(0,([1],[])),(1,([1,6],[])),(2,([1,6,11],[])),(3,([2,3,4,5],[])),(4,([7],[])),(5,([2,3,4,5,18,21],[]))]
@[simp] theorem k23_0:kof L23 0=([1],[]):=rfl
@[simp] theorem k23_1:kof L23 1=([1,6],[]):=rfl
@[simp] theorem k23_2:kof L23 2=([1,6,11],[]):=rfl
@[simp] theorem k23_3:kof L23 3=([2,3,4,5],[]):=rfl
@[simp] theorem k23_4:kof L23 4=([7],[]):=rfl
@[simp] theorem k23_5:kof L23 5=([2,3,4,5,18,21],[]):=rfl
def T23:List (Nat×Plan):=[(5,[([7],[]),([16],[]),([17],[]),([7],[]),([19],[]),([20],[]),([7],[]),([22],[]),([23],[]),([18],[]),([21],[])])]
def L27:Live:=[(0,([0,1],[])),(1,([0,1,10],[])),(2,([4],[])),(3,([0,1,5],[])),(4,([0,1,5,14],[])),(5,([0,1,5],[])),(6,([0,1,5,25],[])),(7,([4],[])),(8,([4],[]))]
@[simp] theorem k27_0:kof L27 0=([0,1],[]):=rfl
@[simp] theorem k27_1:kof L27 1=([0,1,10],[]):=rfl
@[simp] theorem k27_2:kof L27 2=([4],[]):=rfl
@[simp] theorem k27_3:kof L27 3=([0,1,5],[]):=rfl
@[simp] theorem k27_4:kof L27 4=([0,1,5,14],[]):=rfl
@[simp] theorem k27_5:kof L27 5=([0,1,5],[]):=rfl
@[simp] theorem k27_6:kof L27 6=([0,1,5,25],[]):=rfl
@[simp] theorem k27_7:kof L27 7=([4],[]):=rfl
@[simp] theorem k27_8:kof L27 8=([4],[]):=rfl
def T27:List (Nat×Plan):=[(6,[([0],[]),([5],[]),([17,18],[]),([19],[]),([1],[]),([5],[]),([21,22],[]),([23],[])])]
def L28:Live:=[(0,([0],[])),(1,([0,3],[])),(2,([0,3,4],[])),(3,([0,3,4,14],[])),(4,([0,3,4],[])),(5,([0,3,4],[])),(6,([2],[]))]
@[simp] theorem k28_0:kof L28 0=([0],[]):=rfl
@[simp] theorem k28_1:kof L28 1=([0,3],[]):=rfl
@[simp] theorem k28_2:kof L28 2=([0,3,4],[]):=rfl
@[simp] theorem k28_3:kof L28 3=([0,3,4,14],[]):=rfl
@[simp] theorem k28_4:kof L28 4=([0,3,4],[]):=rfl
@[simp] theorem k28_5:kof L28 5=([0,3,4],[]):=rfl
@[simp] theorem k28_6:kof L28 6=([2],[]):=rfl
def T28:List (Nat×Plan):=[]
def L29:Live:=[(0,([0,1,2],[])),(1,([6],[]))]
@[simp] theorem k29_0:kof L29 0=([0,1,2],[]):=rfl
@[simp] theorem k29_1:kof L29 1=([6],[]):=rfl
def T29:List (Nat×Plan):=[]
def L31:Live:=[(0,([0],[])),(1,([0,3],[])),(2,([0,3,4],[])),(3,([0,3,4,8],[])),(4,([0,3,4],[])),(5,([0,3,4],[])),(6,([2],[]))]
@[simp] theorem k31_0:kof L31 0=([0],[]):=rfl
@[simp] theorem k31_1:kof L31 1=([0,3],[]):=rfl
@[simp] theorem k31_2:kof L31 2=([0,3,4],[]):=rfl
@[simp] theorem k31_3:kof L31 3=([0,3,4,8],[]):=rfl
@[simp] theorem k31_4:kof L31 4=([0,3,4],[]):=rfl
@[simp] theorem k31_5:kof L31 5=([0,3,4],[]):=rfl
@[simp] theorem k31_6:kof L31 6=([2],[]):=rfl
def T31:List (Nat×Plan):=[]
def L32:Live:=[(0,([0,1],[])),(1,([1,5],[])),(2,([1,5,10],[])),(3,([5],[])),(4,([4],[]))]
@[simp] theorem k32_0:kof L32 0=([0,1],[]):=rfl
@[simp] theorem k32_1:kof L32 1=([1,5],[]):=rfl
@[simp] theorem k32_2:kof L32 2=([1,5,10],[]):=rfl
@[simp] theorem k32_3:kof L32 3=([5],[]):=rfl
@[simp] theorem k32_4:kof L32 4=([4],[]):=rfl
def T32:List (Nat×Plan):=[]
def L33:Live:=[(0,([1],[])),(1,([2],[]))]
@[simp] theorem k33_0:kof L33 0=([1],[]):=rfl
@[simp] theorem k33_1:kof L33 1=([2],[]):=rfl
def T33:List (Nat×Plan):=[]
def L34:Live:=[(0,([0],[])),(1,([0,3],[])),(2,([0,3,4],[])),(3,([0,3,4,8],[])),(4,([0,3,4],[])),(5,([0,3,4],[])),(6,([2],[]))]
@[simp] theorem k34_0:kof L34 0=([0],[]):=rfl
@[simp] theorem k34_1:kof L34 1=([0,3],[]):=rfl
@[simp] theorem k34_2:kof L34 2=([0,3,4],[]):=rfl
@[simp] theorem k34_3:kof L34 3=([0,3,4,8],[]):=rfl
@[simp] theorem k34_4:kof L34 4=([0,3,4],[]):=rfl
@[simp] theorem k34_5:kof L34 5=([0,3,4],[]):=rfl
@[simp] theorem k34_6:kof L34 6=([2],[]):=rfl
def T34:List (Nat×Plan):=[]
def L37:Live:=[(0,([0],[])),(1,([0,10],[])),(2,([2,3],[])),(3,([4],[])),(4,([4,5],[])),(5,([4,5,16,17,18],[])),(6,([4,5,16,17,18,19],[])),(7,([4,5,7,16,17,18],[])),(8,([4,5,16,17,18],[])),(9,([4,5,16,17,18],[])),(10,([2,3],[]))]
@[simp] theorem k37_0:kof L37 0=([0],[]):=rfl
@[simp] theorem k37_1:kof L37 1=([0,10],[]):=rfl
@[simp] theorem k37_2:kof L37 2=([2,3],[]):=rfl
@[simp] theorem k37_3:kof L37 3=([4],[]):=rfl
@[simp] theorem k37_4:kof L37 4=([4,5],[]):=rfl
@[simp] theorem k37_5:kof L37 5=([4,5,16,17,18],[]):=rfl
@[simp] theorem k37_6:kof L37 6=([4,5,16,17,18,19],[]):=rfl
@[simp] theorem k37_7:kof L37 7=([4,5,7,16,17,18],[]):=rfl
@[simp] theorem k37_8:kof L37 8=([4,5,16,17,18],[]):=rfl
@[simp] theorem k37_9:kof L37 9=([4,5,16,17,18],[]):=rfl
@[simp] theorem k37_10:kof L37 10=([2,3],[]):=rfl
def L38:Live:=[(0,([0],[])),(1,([0,3],[])),(2,([0,3,4],[])),(3,([0,3,4,14],[])),(4,([0,3,4],[])),(5,([0,3,4],[])),(6,([2],[]))]
@[simp] theorem k38_0:kof L38 0=([0],[]):=rfl
@[simp] theorem k38_1:kof L38 1=([0,3],[]):=rfl
@[simp] theorem k38_2:kof L38 2=([0,3,4],[]):=rfl
@[simp] theorem k38_3:kof L38 3=([0,3,4,14],[]):=rfl
@[simp] theorem k38_4:kof L38 4=([0,3,4],[]):=rfl
@[simp] theorem k38_5:kof L38 5=([0,3,4],[]):=rfl
@[simp] theorem k38_6:kof L38 6=([2],[]):=rfl
def T38:List (Nat×Plan):=[]
def L41:Live:=[(0,([0],[])),(1,([0,4,5],[])),(2,([0,4,5,19],[])),(3,([2,3],[])),(4,([0,4,6],[])),(5,([4,6,7],[])),(6,([4,6,7,25,26],[])),(7,([4,6,7,25,26,27],[])),(8,([4,6,7,8,25,26],[])),(9,([4,6,7,9,25,26],[])),(10,([4,6,7,9,10,11,25,26],[])),(11,([4,6,7,9,10,11,25,26,46],[])),(12,([4,6,7,9,10,11,25,26],[])),(13,([4,6,7,9,10,11,12,25,26],[])),(14,([4,6,7,9,10,11,12,25,26],[])),(15,([4,6,7,9,25,26],[])),(16,([4,6,7,25,26],[])),(17,([2,3],[]))]
@[simp] theorem k41_0:kof L41 0=([0],[]):=rfl
@[simp] theorem k41_1:kof L41 1=([0,4,5],[]):=rfl
@[simp] theorem k41_2:kof L41 2=([0,4,5,19],[]):=rfl
@[simp] theorem k41_3:kof L41 3=([2,3],[]):=rfl
@[simp] theorem k41_4:kof L41 4=([0,4,6],[]):=rfl
@[simp] theorem k41_5:kof L41 5=([4,6,7],[]):=rfl
@[simp] theorem k41_6:kof L41 6=([4,6,7,25,26],[]):=rfl
@[simp] theorem k41_7:kof L41 7=([4,6,7,25,26,27],[]):=rfl
@[simp] theorem k41_8:kof L41 8=([4,6,7,8,25,26],[]):=rfl
@[simp] theorem k41_9:kof L41 9=([4,6,7,9,25,26],[]):=rfl
@[simp] theorem k41_10:kof L41 10=([4,6,7,9,10,11,25,26],[]):=rfl
@[simp] theorem k41_11:kof L41 11=([4,6,7,9,10,11,25,26,46],[]):=rfl
@[simp] theorem k41_12:kof L41 12=([4,6,7,9,10,11,25,26],[]):=rfl
@[simp] theorem k41_13:kof L41 13=([4,6,7,9,10,11,12,25,26],[]):=rfl
@[simp] theorem k41_14:kof L41 14=([4,6,7,9,10,11,12,25,26],[]):=rfl
@[simp] theorem k41_15:kof L41 15=([4,6,7,9,25,26],[]):=rfl
@[simp] theorem k41_16:kof L41 16=([4,6,7,25,26],[]):=rfl
@[simp] theorem k41_17:kof L41 17=([2,3],[]):=rfl
def T41:List (Nat×Plan):=[(13,[([7],[]),([10],[]),([52,53],[]),([54],[]),([55],[]),([7],[]),([11],[]),([57,58],[]),([59],[])]),(14,[([7],[]),([10],[]),([7],[]),([11],[]),([7],[]),([10],[]),([66,67],[]),([68],[]),([12],[]),([69,70],[]),([7],[]),([11],[]),([72,73],[]),([74],[]),([12],[]),([75,76],[]),([62,63],[])])]
def L42:Live:=[(0,([0,1],[])),(1,([0,1,13],[])),(2,([4,5],[])),(3,([0,1,6],[])),(4,([0,6,17,18,19],[])),(5,([0,6,17,18,19,20],[])),(6,([0,6,8,17,18,19],[])),(7,([0,6,8,17,18,19,50],[])),(8,([4,5],[])),(9,([0,6,8,17,18,19],[])),(10,([0,6,17,18,19],[])),(11,([0,6,17,18,19],[])),(12,([6,70,71,72],[])),(13,([6,70,71,72,73],[])),(14,([6,9,10,70,71,72],[])),(15,([6,70,71,72,82],[])),(16,([4,5],[])),(17,([6,70,71,72],[])),(18,([4,5],[]))]
@[simp] theorem k42_0:kof L42 0=([0,1],[]):=rfl
@[simp] theorem k42_1:kof L42 1=([0,1,13],[]):=rfl
@[simp] theorem k42_2:kof L42 2=([4,5],[]):=rfl
@[simp] theorem k42_3:kof L42 3=([0,1,6],[]):=rfl
@[simp] theorem k42_4:kof L42 4=([0,6,17,18,19],[]):=rfl
@[simp] theorem k42_5:kof L42 5=([0,6,17,18,19,20],[]):=rfl
@[simp] theorem k42_6:kof L42 6=([0,6,8,17,18,19],[]):=rfl
@[simp] theorem k42_7:kof L42 7=([0,6,8,17,18,19,50],[]):=rfl
@[simp] theorem k42_8:kof L42 8=([4,5],[]):=rfl
@[simp] theorem k42_9:kof L42 9=([0,6,8,17,18,19],[]):=rfl
@[simp] theorem k42_10:kof L42 10=([0,6,17,18,19],[]):=rfl
@[simp] theorem k42_11:kof L42 11=([0,6,17,18,19],[]):=rfl
@[simp] theorem k42_12:kof L42 12=([6,70,71,72],[]):=rfl
@[simp] theorem k42_13:kof L42 13=([6,70,71,72,73],[]):=rfl
@[simp] theorem k42_14:kof L42 14=([6,9,10,70,71,72],[]):=rfl
@[simp] theorem k42_15:kof L42 15=([6,70,71,72,82],[]):=rfl
@[simp] theorem k42_16:kof L42 16=([4,5],[]):=rfl
@[simp] theorem k42_17:kof L42 17=([6,70,71,72],[]):=rfl
@[simp] theorem k42_18:kof L42 18=([4,5],[]):=rfl
def T42:List (Nat×Plan):=[(9,[([6],[]),([8],[]),([52],[]),([51,53],[]),([54],[]),([8],[]),([56],[])]),(10,[([6],[]),([8],[]),([61],[]),([60,62],[]),([63],[]),([8],[]),([65],[])])]
def L44:Live:=[(0,([0],[])),(1,([0],[]))]
@[simp] theorem k44_0:kof L44 0=([0],[]):=rfl
@[simp] theorem k44_1:kof L44 1=([0],[]):=rfl
def T44:List (Nat×Plan):=[]
def L45:Live:=[(0,([],[])),(1,([0],[]))]
@[simp] theorem k45_0:kof L45 0=([],[]):=rfl
@[simp] theorem k45_1:kof L45 1=([0],[]):=rfl
def T45:List (Nat×Plan):=[]
def L46:Live:=[(0,([0,1,2],[])),(1,([6],[]))]
@[simp] theorem k46_0:kof L46 0=([0,1,2],[]):=rfl
@[simp] theorem k46_1:kof L46 1=([6],[]):=rfl
def T46:List (Nat×Plan):=[]
def L47:Live:=[(0,([0],[])),(1,([0,3],[])),(2,([0,3,9,10,11],[])),(3,([0,3,9,10,11,12],[])),(4,([0,3,4,5,9,10,11],[])),(5,([0,3,9,10,11],[])),(6,([0,3,9,10,11],[])),(7,([2],[]))]
@[simp] theorem k47_0:kof L47 0=([0],[]):=rfl
@[simp] theorem k47_1:kof L47 1=([0,3],[]):=rfl
@[simp] theorem k47_2:kof L47 2=([0,3,9,10,11],[]):=rfl
@[simp] theorem k47_3:kof L47 3=([0,3,9,10,11,12],[]):=rfl
@[simp] theorem k47_4:kof L47 4=([0,3,4,5,9,10,11],[]):=rfl
@[simp] theorem k47_5:kof L47 5=([0,3,9,10,11],[]):=rfl
@[simp] theorem k47_6:kof L47 6=([0,3,9,10,11],[]):=rfl
@[simp] theorem k47_7:kof L47 7=([2],[]):=rfl
def T47:List (Nat×Plan):=[]
def L48:Live:=[(0,([0],[])),(1,([0,3],[])),(2,([3,6,7,8],[])),(3,([3,6,7,8,9],[])),(4,([3,5,6,7,8],[])),(5,([3,6,7,8],[])),(6,([3,6,7,8],[])),(7,([2],[]))]
@[simp] theorem k48_0:kof L48 0=([0],[]):=rfl
@[simp] theorem k48_1:kof L48 1=([0,3],[]):=rfl
@[simp] theorem k48_2:kof L48 2=([3,6,7,8],[]):=rfl
@[simp] theorem k48_3:kof L48 3=([3,6,7,8,9],[]):=rfl
@[simp] theorem k48_4:kof L48 4=([3,5,6,7,8],[]):=rfl
@[simp] theorem k48_5:kof L48 5=([3,6,7,8],[]):=rfl
@[simp] theorem k48_6:kof L48 6=([3,6,7,8],[]):=rfl
@[simp] theorem k48_7:kof L48 7=([2],[]):=rfl
def T48:List (Nat×Plan):=[]
def L49:Live:=[(0,([0],[])),(1,([0,3],[])),(2,([3,6,7,8],[])),(3,([3,6,7,8,9],[])),(4,([3,5,6,7,8],[])),(5,([3,6,7,8],[])),(6,([3,6,7,8],[])),(7,([2],[]))]
@[simp] theorem k49_0:kof L49 0=([0],[]):=rfl
@[simp] theorem k49_1:kof L49 1=([0,3],[]):=rfl
@[simp] theorem k49_2:kof L49 2=([3,6,7,8],[]):=rfl
@[simp] theorem k49_3:kof L49 3=([3,6,7,8,9],[]):=rfl
@[simp] theorem k49_4:kof L49 4=([3,5,6,7,8],[]):=rfl
@[simp] theorem k49_5:kof L49 5=([3,6,7,8],[]):=rfl
@[simp] theorem k49_6:kof L49 6=([3,6,7,8],[]):=rfl
@[simp] theorem k49_7:kof L49 7=([2],[]):=rfl
def T49:List (Nat×Plan):=[]
def L50:Live:=[(0,([0,1,4,56],[])),(1,([0,1,4,5,56],[])),(2,([0,1,4,5,6,56],[])),(3,([0,1,4,5,6,7,56],[])),(4,([0,4,5,6,7,18,19,20,56],[])),(5,([0,4,5,6,7,18,19,20,21,56],[])),(6,([0,4,5,6,7,8,9,18,19,20,56],[])),(7,([0,4,5,6,7,8,10,18,19,20,56],[])),(8,([0,4,5,6,7,10,18,19,20,56],[])),(9,([0,4,5,6,7,18,19,20,56],[])),(10,([0,4,5,6,7,18,19,20,56],[])),(11,([4,6,55,56],[])),(12,([4,6,11,56],[])),(13,([4,6,56],[])),(14,([4],[]))]
@[simp] theorem k50_0:kof L50 0=([0,1,4,56],[]):=rfl
@[simp] theorem k50_1:kof L50 1=([0,1,4,5,56],[]):=rfl
@[simp] theorem k50_2:kof L50 2=([0,1,4,5,6,56],[]):=rfl
@[simp] theorem k50_3:kof L50 3=([0,1,4,5,6,7,56],[]):=rfl
@[simp] theorem k50_4:kof L50 4=([0,4,5,6,7,18,19,20,56],[]):=rfl
@[simp] theorem k50_5:kof L50 5=([0,4,5,6,7,18,19,20,21,56],[]):=rfl
@[simp] theorem k50_6:kof L50 6=([0,4,5,6,7,8,9,18,19,20,56],[]):=rfl
@[simp] theorem k50_7:kof L50 7=([0,4,5,6,7,8,10,18,19,20,56],[]):=rfl
@[simp] theorem k50_8:kof L50 8=([0,4,5,6,7,10,18,19,20,56],[]):=rfl
@[simp] theorem k50_9:kof L50 9=([0,4,5,6,7,18,19,20,56],[]):=rfl
@[simp] theorem k50_10:kof L50 10=([0,4,5,6,7,18,19,20,56],[]):=rfl
@[simp] theorem k50_11:kof L50 11=([4,6,55,56],[]):=rfl
@[simp] theorem k50_12:kof L50 12=([4,6,11,56],[]):=rfl
@[simp] theorem k50_13:kof L50 13=([4,6,56],[]):=rfl
@[simp] theorem k50_14:kof L50 14=([4],[]):=rfl
def T50:List (Nat×Plan):=[(7,[([9],[10]),([0],[10]),([9],[10]),([27],[10]),([26,28],[10]),([5],[10]),([29,30],[10]),([0],[10]),([9],[10]),([33],[10]),([32,34],[10]),([5],[10]),([35,36],[10]),([8],[10]),([25,31,37,38],[10]),([],[])])]
def L54:Live:=[(0,([],[])),(1,([0],[]))]
@[simp] theorem k54_0:kof L54 0=([],[]):=rfl
@[simp] theorem k54_1:kof L54 1=([0],[]):=rfl
def T54:List (Nat×Plan):=[]
def L55:Live:=[(0,([1,2],[])),(1,([1,2,4],[])),(2,([1,2,4,17,18,19],[])),(3,([1,2,4,17,18,19,20],[])),(4,([1,2,4,6,17,18,19],[])),(5,([1,2,4,17,18,19],[])),(6,([1,2,4,17,18,19],[])),(7,([1,2,4,33],[])),(8,([2,3],[])),(9,([1,2,4,36,37,38],[])),(10,([1,2,4,36,37,38,39],[])),(11,([1,2,4,8,36,37,38],[])),(12,([1,2,4,8,9,10,36,37,38],[])),(13,([1,2,4,8,9,10,36,37,38,72],[])),(14,([2,3],[])),(15,([1,2,4,8,9,10,36,37,38],[])),(16,([1,2,4,9,10,11,36,37,38],[])),(17,([1,2,4,36,37,38],[])),(18,([1,2,4,36,37,38],[])),(19,([2,4,119,120],[])),(20,([2,4,119,120,121],[])),(21,([2,4,12,119,120],[])),(22,([2,4,119,120,134],[])),(23,([2,3],[])),(24,([2,4,119,120],[])),(25,([2,3],[]))]
@[simp] theorem k55_0:kof L55 0=([1,2],[]):=rfl
@[simp] theorem k55_1:kof L55 1=([1,2,4],[]):=rfl
@[simp] theorem k55_2:kof L55 2=([1,2,4,17,18,19],[]):=rfl
@[simp] theorem k55_3:kof L55 3=([1,2,4,17,18,19,20],[]):=rfl
@[simp] theorem k55_4:kof L55 4=([1,2,4,6,17,18,19],[]):=rfl
@[simp] theorem k55_5:kof L55 5=([1,2,4,17,18,19],[]):=rfl
@[simp] theorem k55_6:kof L55 6=([1,2,4,17,18,19],[]):=rfl
@[simp] theorem k55_7:kof L55 7=([1,2,4,33],[]):=rfl
@[simp] theorem k55_8:kof L55 8=([2,3],[]):=rfl
@[simp] theorem k55_9:kof L55 9=([1,2,4,36,37,38],[]):=rfl
@[simp] theorem k55_10:kof L55 10=([1,2,4,36,37,38,39],[]):=rfl
@[simp] theorem k55_11:kof L55 11=([1,2,4,8,36,37,38],[]):=rfl
@[simp] theorem k55_12:kof L55 12=([1,2,4,8,9,10,36,37,38],[]):=rfl
@[simp] theorem k55_13:kof L55 13=([1,2,4,8,9,10,36,37,38,72],[]):=rfl
@[simp] theorem k55_14:kof L55 14=([2,3],[]):=rfl
@[simp] theorem k55_15:kof L55 15=([1,2,4,8,9,10,36,37,38],[]):=rfl
@[simp] theorem k55_16:kof L55 16=([1,2,4,9,10,11,36,37,38],[]):=rfl
@[simp] theorem k55_17:kof L55 17=([1,2,4,36,37,38],[]):=rfl
@[simp] theorem k55_18:kof L55 18=([1,2,4,36,37,38],[]):=rfl
@[simp] theorem k55_19:kof L55 19=([2,4,119,120],[]):=rfl
@[simp] theorem k55_20:kof L55 20=([2,4,119,120,121],[]):=rfl
@[simp] theorem k55_21:kof L55 21=([2,4,12,119,120],[]):=rfl
@[simp] theorem k55_22:kof L55 22=([2,4,119,120,134],[]):=rfl
@[simp] theorem k55_23:kof L55 23=([2,3],[]):=rfl
@[simp] theorem k55_24:kof L55 24=([2,4,119,120],[]):=rfl
@[simp] theorem k55_25:kof L55 25=([2,3],[]):=rfl
def T55:List (Nat×Plan):=[(12,[([1],[45]),([8],[45]),([43],[45]),([42,44],[]),([1],[45]),([8],[45]),([47],[45])]),(15,[([4],[]),([9],[]),([4],[]),([10],[]),([4],[]),([9],[]),([77,78],[]),([79],[]),([8],[]),([81],[]),([80,82],[]),([4],[]),([10],[]),([84,85],[]),([86],[]),([8],[]),([88],[]),([87,89],[]),([73,74],[])]),(17,[([2],[]),([9],[]),([2],[]),([10],[]),([2],[]),([9],[]),([103,104],[]),([105],[]),([11],[]),([106,107],[]),([2],[]),([10],[]),([109,110],[]),([111],[]),([11],[]),([112,113],[]),([99,100],[])])]
def L57:Live:=[(0,([1],[])),(1,([1,3],[])),(2,([1,3,22,23,24],[])),(3,([1,3,22,23,24,25],[])),(4,([1,3,5,22,23,24],[])),(5,([1,3,22,23,24],[])),(6,([1,3,22,23,24],[])),(7,([1,3],[])),(8,([1,3,6],[])),(9,([1,3,6,50,51],[])),(10,([1,3,6,50,51,52],[])),(11,([1,3,6,7,8,50,51],[])),(12,([1,3,6,50,51],[])),(13,([1,3,6,50,51],[])),(14,([2],[]))]
@[simp] theorem k57_0:kof L57 0=([1],[]):=rfl
@[simp] theorem k57_1:kof L57 1=([1,3],[]):=rfl
@[simp] theorem k57_2:kof L57 2=([1,3,22,23,24],[]):=rfl
@[simp] theorem k57_3:kof L57 3=([1,3,22,23,24,25],[]):=rfl
@[simp] theorem k57_4:kof L57 4=([1,3,5,22,23,24],[]):=rfl
@[simp] theorem k57_5:kof L57 5=([1,3,22,23,24],[]):=rfl
@[simp] theorem k57_6:kof L57 6=([1,3,22,23,24],[]):=rfl
@[simp] theorem k57_7:kof L57 7=([1,3],[]):=rfl
@[simp] theorem k57_8:kof L57 8=([1,3,6],[]):=rfl
@[simp] theorem k57_9:kof L57 9=([1,3,6,50,51],[]):=rfl
@[simp] theorem k57_10:kof L57 10=([1,3,6,50,51,52],[]):=rfl
@[simp] theorem k57_11:kof L57 11=([1,3,6,7,8,50,51],[]):=rfl
@[simp] theorem k57_12:kof L57 12=([1,3,6,50,51],[]):=rfl
@[simp] theorem k57_13:kof L57 13=([1,3,6,50,51],[]):=rfl
@[simp] theorem k57_14:kof L57 14=([2],[]):=rfl
def T57:List (Nat×Plan):=[(7,[([3],[42]),([37],[42]),([1,38],[42]),([39,38],[42]),([40,38],[42]),([41,38],[]),([1,38],[42]),([43,38],[42]),([44,38],[42])])]
def L59:Live:=[(0,([1],[])),(1,([1,3],[])),(2,([1,3,7,8],[])),(3,([1,3,7,8,9],[])),(4,([1,3,4,5,7,8],[])),(5,([1,3,7,8],[])),(6,([1,3,7,8],[])),(7,([2],[]))]
@[simp] theorem k59_0:kof L59 0=([1],[]):=rfl
@[simp] theorem k59_1:kof L59 1=([1,3],[]):=rfl
@[simp] theorem k59_2:kof L59 2=([1,3,7,8],[]):=rfl
@[simp] theorem k59_3:kof L59 3=([1,3,7,8,9],[]):=rfl
@[simp] theorem k59_4:kof L59 4=([1,3,4,5,7,8],[]):=rfl
@[simp] theorem k59_5:kof L59 5=([1,3,7,8],[]):=rfl
@[simp] theorem k59_6:kof L59 6=([1,3,7,8],[]):=rfl
@[simp] theorem k59_7:kof L59 7=([2],[]):=rfl
def T59:List (Nat×Plan):=[(7,[([1],[28]),([22],[28]),([23],[28]),([1],[28]),([25],[28]),([26],[28]),([27],[]),([24,28],[]),([3],[28])])]
def L62:Live:=[(0,([1,2],[])),(1,([2],[]))]
@[simp] theorem k62_0:kof L62 0=([1,2],[]):=rfl
@[simp] theorem k62_1:kof L62 1=([2],[]):=rfl
def T62:List (Nat×Plan):=[]
def L64:Live:=[(0,([2,3],[])),(1,([4],[]))]
@[simp] theorem k64_0:kof L64 0=([2,3],[]):=rfl
@[simp] theorem k64_1:kof L64 1=([4],[]):=rfl
def T64:List (Nat×Plan):=[]
def L65:Live:=[(0,([0,1],[])),(1,([4],[]))]
@[simp] theorem k65_0:kof L65 0=([0,1],[]):=rfl
@[simp] theorem k65_1:kof L65 1=([4],[]):=rfl
def T65:List (Nat×Plan):=[]
def L67:Live:=[(0,([0],[])),(1,([0,3],[])),(2,([0,3,9,10,11],[])),(3,([0,3,9,10,11,12],[])),(4,([0,3,5,9,10,11],[])),(5,([0,3,9,10,11],[])),(6,([0,3,9,10,11],[])),(7,([2],[]))]
@[simp] theorem k67_0:kof L67 0=([0],[]):=rfl
@[simp] theorem k67_1:kof L67 1=([0,3],[]):=rfl
@[simp] theorem k67_2:kof L67 2=([0,3,9,10,11],[]):=rfl
@[simp] theorem k67_3:kof L67 3=([0,3,9,10,11,12],[]):=rfl
@[simp] theorem k67_4:kof L67 4=([0,3,5,9,10,11],[]):=rfl
@[simp] theorem k67_5:kof L67 5=([0,3,9,10,11],[]):=rfl
@[simp] theorem k67_6:kof L67 6=([0,3,9,10,11],[]):=rfl
@[simp] theorem k67_7:kof L67 7=([2],[]):=rfl
def T67:List (Nat×Plan):=[]
def L68:Live:=[(0,([0,2],[])),(1,([0,2,3],[])),(2,([2,3,9,10,11],[])),(3,([2,3,9,10,11,12],[])),(4,([2,3,4,5,9,10,11],[])),(5,([2,3,4,9,10,11,17],[])),(6,([2,3,9,10,11],[])),(7,([2,3,9,10,11],[])),(8,([2],[]))]
@[simp] theorem k68_0:kof L68 0=([0,2],[]):=rfl
@[simp] theorem k68_1:kof L68 1=([0,2,3],[]):=rfl
@[simp] theorem k68_2:kof L68 2=([2,3,9,10,11],[]):=rfl
@[simp] theorem k68_3:kof L68 3=([2,3,9,10,11,12],[]):=rfl
@[simp] theorem k68_4:kof L68 4=([2,3,4,5,9,10,11],[]):=rfl
@[simp] theorem k68_5:kof L68 5=([2,3,4,9,10,11,17],[]):=rfl
@[simp] theorem k68_6:kof L68 6=([2,3,9,10,11],[]):=rfl
@[simp] theorem k68_7:kof L68 7=([2,3,9,10,11],[]):=rfl
@[simp] theorem k68_8:kof L68 8=([2],[]):=rfl
def T68:List (Nat×Plan):=[]
def L69:Live:=[(0,([1,2],[])),(1,([1,2,5],[])),(2,([1,2,5],[])),(3,([1,2,5],[])),(4,([1,2,5,6],[])),(5,([1,2,5,6,7],[])),(6,([1,2,5,6,7,15],[])),(7,([1,2,5,6,7,23],[])),(8,([1,2,5,6,7],[])),(9,([1,2,5,6,7,8],[])),(10,([1,2,5,6,7,8,35],[])),(11,([1,2,5,6,7,8],[])),(12,([1,2,5,6,7,8,40,41],[])),(13,([1,2,5,6,7,8,40,41,42],[])),(14,([1,2,5,6,7,8,9,40,41],[])),(15,([1,2,5,6,7,8,9,40,41,58],[])),(16,([1,2,5,6,7],[])),(17,([1,2,5,6,7,8,40,41],[])),(18,([6,7,69],[])),(19,([6],[])),(20,([4],[]))]
@[simp] theorem k69_0:kof L69 0=([1,2],[]):=rfl
@[simp] theorem k69_1:kof L69 1=([1,2,5],[]):=rfl
@[simp] theorem k69_2:kof L69 2=([1,2,5],[]):=rfl
@[simp] theorem k69_3:kof L69 3=([1,2,5],[]):=rfl
@[simp] theorem k69_4:kof L69 4=([1,2,5,6],[]):=rfl
@[simp] theorem k69_5:kof L69 5=([1,2,5,6,7],[]):=rfl
@[simp] theorem k69_6:kof L69 6=([1,2,5,6,7,15],[]):=rfl
@[simp] theorem k69_7:kof L69 7=([1,2,5,6,7,23],[]):=rfl
@[simp] theorem k69_8:kof L69 8=([1,2,5,6,7],[]):=rfl
@[simp] theorem k69_9:kof L69 9=([1,2,5,6,7,8],[]):=rfl
@[simp] theorem k69_10:kof L69 10=([1,2,5,6,7,8,35],[]):=rfl
@[simp] theorem k69_11:kof L69 11=([1,2,5,6,7,8],[]):=rfl
@[simp] theorem k69_12:kof L69 12=([1,2,5,6,7,8,40,41],[]):=rfl
@[simp] theorem k69_13:kof L69 13=([1,2,5,6,7,8,40,41,42],[]):=rfl
@[simp] theorem k69_14:kof L69 14=([1,2,5,6,7,8,9,40,41],[]):=rfl
@[simp] theorem k69_15:kof L69 15=([1,2,5,6,7,8,9,40,41,58],[]):=rfl
@[simp] theorem k69_16:kof L69 16=([1,2,5,6,7],[]):=rfl
@[simp] theorem k69_17:kof L69 17=([1,2,5,6,7,8,40,41],[]):=rfl
@[simp] theorem k69_18:kof L69 18=([6,7,69],[]):=rfl
@[simp] theorem k69_19:kof L69 19=([6],[]):=rfl
@[simp] theorem k69_20:kof L69 20=([4],[]):=rfl
def L70:Live:=[(0,([1],[])),(1,([2],[]))]
@[simp] theorem k70_0:kof L70 0=([1],[]):=rfl
@[simp] theorem k70_1:kof L70 1=([2],[]):=rfl
def T70:List (Nat×Plan):=[]
def L71:Live:=[(0,([1,2],[])),(1,([1,2,5],[])),(2,([1,5,9,10,11],[])),(3,([1,5,9,10,11,12],[])),(4,([1,5,6,7,9,10,11],[])),(5,([1,5,7,9,10,11,20],[])),(6,([1,5,9,10,11],[])),(7,([1,5,9,10,11],[])),(8,([4],[]))]
@[simp] theorem k71_0:kof L71 0=([1,2],[]):=rfl
@[simp] theorem k71_1:kof L71 1=([1,2,5],[]):=rfl
@[simp] theorem k71_2:kof L71 2=([1,5,9,10,11],[]):=rfl
@[simp] theorem k71_3:kof L71 3=([1,5,9,10,11,12],[]):=rfl
@[simp] theorem k71_4:kof L71 4=([1,5,6,7,9,10,11],[]):=rfl
@[simp] theorem k71_5:kof L71 5=([1,5,7,9,10,11,20],[]):=rfl
@[simp] theorem k71_6:kof L71 6=([1,5,9,10,11],[]):=rfl
@[simp] theorem k71_7:kof L71 7=([1,5,9,10,11],[]):=rfl
@[simp] theorem k71_8:kof L71 8=([4],[]):=rfl
def T71:List (Nat×Plan):=[]
def L72:Live:=[(0,([1],[])),(1,([1,2,3],[])),(2,([1,2,3,7,8,9],[])),(3,([1,2,3,7,8,9,10],[])),(4,([1,2,3,5,7,8,9],[])),(5,([1,2,3,5,7,8,9,13],[])),(6,([1,2,3,7,8,9],[])),(7,([1,2,3,5,7,8,9,25],[])),(8,([1,2,3,7,8,9],[])),(9,([1,2,3,7,8,9],[])),(10,([2,3],[]))]
@[simp] theorem k72_0:kof L72 0=([1],[]):=rfl
@[simp] theorem k72_1:kof L72 1=([1,2,3],[]):=rfl
@[simp] theorem k72_2:kof L72 2=([1,2,3,7,8,9],[]):=rfl
@[simp] theorem k72_3:kof L72 3=([1,2,3,7,8,9,10],[]):=rfl
@[simp] theorem k72_4:kof L72 4=([1,2,3,5,7,8,9],[]):=rfl
@[simp] theorem k72_5:kof L72 5=([1,2,3,5,7,8,9,13],[]):=rfl
@[simp] theorem k72_6:kof L72 6=([1,2,3,7,8,9],[]):=rfl
@[simp] theorem k72_7:kof L72 7=([1,2,3,5,7,8,9,25],[]):=rfl
@[simp] theorem k72_8:kof L72 8=([1,2,3,7,8,9],[]):=rfl
@[simp] theorem k72_9:kof L72 9=([1,2,3,7,8,9],[]):=rfl
@[simp] theorem k72_10:kof L72 10=([2,3],[]):=rfl
def T72:List (Nat×Plan):=[]
def L74:Live:=[(0,([0],[])),(1,([0,13],[])),(2,([2],[])),(3,([15,16,17],[])),(4,([15,16,17,18],[])),(5,([4,15,16,17],[])),(6,([15,16,17,34],[])),(7,([2],[])),(8,([15,16,17],[])),(9,([2],[]))]
@[simp] theorem k74_0:kof L74 0=([0],[]):=rfl
@[simp] theorem k74_1:kof L74 1=([0,13],[]):=rfl
@[simp] theorem k74_2:kof L74 2=([2],[]):=rfl
@[simp] theorem k74_3:kof L74 3=([15,16,17],[]):=rfl
@[simp] theorem k74_4:kof L74 4=([15,16,17,18],[]):=rfl
@[simp] theorem k74_5:kof L74 5=([4,15,16,17],[]):=rfl
@[simp] theorem k74_6:kof L74 6=([15,16,17,34],[]):=rfl
@[simp] theorem k74_7:kof L74 7=([2],[]):=rfl
@[simp] theorem k74_8:kof L74 8=([15,16,17],[]):=rfl
@[simp] theorem k74_9:kof L74 9=([2],[]):=rfl
def T74:List (Nat×Plan):=[]
def L75:Live:=[(0,([0,1],[])),(1,([4],[]))]
@[simp] theorem k75_0:kof L75 0=([0,1],[]):=rfl
@[simp] theorem k75_1:kof L75 1=([4],[]):=rfl
def T75:List (Nat×Plan):=[]
def L76:Live:=[(0,([1,2],[])),(1,([3],[]))]
@[simp] theorem k76_0:kof L76 0=([1,2],[]):=rfl
@[simp] theorem k76_1:kof L76 1=([3],[]):=rfl
def T76:List (Nat×Plan):=[]
def L77:Live:=[(0,([2,3],[])),(1,([4],[]))]
@[simp] theorem k77_0:kof L77 0=([2,3],[]):=rfl
@[simp] theorem k77_1:kof L77 1=([4],[]):=rfl
def T77:List (Nat×Plan):=[]
def L80:Live:=[(0,([2,3],[])),(1,([4],[]))]
@[simp] theorem k80_0:kof L80 0=([2,3],[]):=rfl
@[simp] theorem k80_1:kof L80 1=([4],[]):=rfl
def T80:List (Nat×Plan):=[]
def L85:Live:=[(0,([0,1,2],[])),(1,([0,1,2,5,6],[])),(2,([0,1,2,5,20],[])),(3,([4],[])),(4,([0,1,2,7],[])),(5,([0,1,2,7,24,25],[])),(6,([0,1,2,7,24,25,26],[])),(7,([0,1,2,7,8,24,25],[])),(8,([0,1,2,7,8,24,25,32],[])),(9,([0,1,2,7,24,25],[])),(10,([0,1,2,7,24,25],[])),(11,([0,1,7,45],[])),(12,([0,1,7],[])),(13,([7],[])),(14,([4],[]))]
@[simp] theorem k85_0:kof L85 0=([0,1,2],[]):=rfl
@[simp] theorem k85_1:kof L85 1=([0,1,2,5,6],[]):=rfl
@[simp] theorem k85_2:kof L85 2=([0,1,2,5,20],[]):=rfl
@[simp] theorem k85_3:kof L85 3=([4],[]):=rfl
@[simp] theorem k85_4:kof L85 4=([0,1,2,7],[]):=rfl
@[simp] theorem k85_5:kof L85 5=([0,1,2,7,24,25],[]):=rfl
@[simp] theorem k85_6:kof L85 6=([0,1,2,7,24,25,26],[]):=rfl
@[simp] theorem k85_7:kof L85 7=([0,1,2,7,8,24,25],[]):=rfl
@[simp] theorem k85_8:kof L85 8=([0,1,2,7,8,24,25,32],[]):=rfl
@[simp] theorem k85_9:kof L85 9=([0,1,2,7,24,25],[]):=rfl
@[simp] theorem k85_10:kof L85 10=([0,1,2,7,24,25],[]):=rfl
@[simp] theorem k85_11:kof L85 11=([0,1,7,45],[]):=rfl
@[simp] theorem k85_12:kof L85 12=([0,1,7],[]):=rfl
@[simp] theorem k85_13:kof L85 13=([7],[]):=rfl
@[simp] theorem k85_14:kof L85 14=([4],[]):=rfl
def T85:List (Nat×Plan):=[(9,[([7],[]),([2],[]),([0],[]),([8],[]),([36],[]),([35,37],[])])]
def L86:Live:=[(0,([1,2],[])),(1,([1,2,5],[])),(2,([1,2,5,9,10,11],[])),(3,([1,2,5,9,10,11,12],[])),(4,([1,2,5,6,7,9,10,11],[])),(5,([1,2,5,7,9,10,11,20],[])),(6,([1,2,5,9,10,11],[])),(7,([1,2,5,9,10,11],[])),(8,([4],[]))]
@[simp] theorem k86_0:kof L86 0=([1,2],[]):=rfl
@[simp] theorem k86_1:kof L86 1=([1,2,5],[]):=rfl
@[simp] theorem k86_2:kof L86 2=([1,2,5,9,10,11],[]):=rfl
@[simp] theorem k86_3:kof L86 3=([1,2,5,9,10,11,12],[]):=rfl
@[simp] theorem k86_4:kof L86 4=([1,2,5,6,7,9,10,11],[]):=rfl
@[simp] theorem k86_5:kof L86 5=([1,2,5,7,9,10,11,20],[]):=rfl
@[simp] theorem k86_6:kof L86 6=([1,2,5,9,10,11],[]):=rfl
@[simp] theorem k86_7:kof L86 7=([1,2,5,9,10,11],[]):=rfl
@[simp] theorem k86_8:kof L86 8=([4],[]):=rfl
def T86:List (Nat×Plan):=[]
def L87:Live:=[(0,([0,1],[])),(1,([0,1,7,8],[])),(2,([0,1,7,8,9],[])),(3,([0,1,5,7,8],[])),(4,([0,1,5,7,8,16],[])),(5,([4],[])),(6,([0,1,7,8],[])),(7,([4],[]))]
@[simp] theorem k87_0:kof L87 0=([0,1],[]):=rfl
@[simp] theorem k87_1:kof L87 1=([0,1,7,8],[]):=rfl
@[simp] theorem k87_2:kof L87 2=([0,1,7,8,9],[]):=rfl
@[simp] theorem k87_3:kof L87 3=([0,1,5,7,8],[]):=rfl
@[simp] theorem k87_4:kof L87 4=([0,1,5,7,8,16],[]):=rfl
@[simp] theorem k87_5:kof L87 5=([4],[]):=rfl
@[simp] theorem k87_6:kof L87 6=([0,1,7,8],[]):=rfl
@[simp] theorem k87_7:kof L87 7=([4],[]):=rfl
def T87:List (Nat×Plan):=[]
def L88:Live:=[(0,([0,1,2,4],[])),(1,([0,1,2],[])),(2,([0,2,12,13,14],[])),(3,([0,2,12,13,14,15],[])),(4,([0,2,6,12,13,14],[])),(5,([0,2,6,12,13,14],[])),(6,([0,2,12,13,14,32],[])),(7,([0,2,12,13,14],[]))]
@[simp] theorem k88_0:kof L88 0=([0,1,2,4],[]):=rfl
@[simp] theorem k88_1:kof L88 1=([0,1,2],[]):=rfl
@[simp] theorem k88_2:kof L88 2=([0,2,12,13,14],[]):=rfl
@[simp] theorem k88_3:kof L88 3=([0,2,12,13,14,15],[]):=rfl
@[simp] theorem k88_4:kof L88 4=([0,2,6,12,13,14],[]):=rfl
@[simp] theorem k88_5:kof L88 5=([0,2,6,12,13,14],[]):=rfl
@[simp] theorem k88_6:kof L88 6=([0,2,12,13,14,32],[]):=rfl
@[simp] theorem k88_7:kof L88 7=([0,2,12,13,14],[]):=rfl
def T88:List (Nat×Plan):=[]
def L89:Live:=[(0,([2,3],[])),(1,([4],[]))]
@[simp] theorem k89_0:kof L89 0=([2,3],[]):=rfl
@[simp] theorem k89_1:kof L89 1=([4],[]):=rfl
def T89:List (Nat×Plan):=[(1,[([3],[9]),([5],[9]),([2],[9]),([7],[9]),([6,8],[]),([2],[9]),([10],[9]),([11],[9]),([3],[9]),([13],[9]),([14],[9])])]
def L90:Live:=[(0,([0],[])),(1,([0,3],[])),(2,([3,6,7,8],[])),(3,([3,6,7,8,9],[])),(4,([3,5,6,7,8],[])),(5,([3,5,6,7,8,14],[])),(6,([2],[])),(7,([3,6,7,8],[])),(8,([2],[]))]
@[simp] theorem k90_0:kof L90 0=([0],[]):=rfl
@[simp] theorem k90_1:kof L90 1=([0,3],[]):=rfl
@[simp] theorem k90_2:kof L90 2=([3,6,7,8],[]):=rfl
@[simp] theorem k90_3:kof L90 3=([3,6,7,8,9],[]):=rfl
@[simp] theorem k90_4:kof L90 4=([3,5,6,7,8],[]):=rfl
@[simp] theorem k90_5:kof L90 5=([3,5,6,7,8,14],[]):=rfl
@[simp] theorem k90_6:kof L90 6=([2],[]):=rfl
@[simp] theorem k90_7:kof L90 7=([3,6,7,8],[]):=rfl
@[simp] theorem k90_8:kof L90 8=([2],[]):=rfl
def T90:List (Nat×Plan):=[]
def L91:Live:=[(0,([0,1],[])),(1,([0,1,5],[])),(2,([0,1,5,6],[])),(3,([0,1,6,11],[])),(4,([12],[])),(5,([4],[])),(6,([4],[])),(7,([0,1,13],[])),(8,([4],[])),(9,([0,1,16],[])),(10,([4],[])),(11,([19],[])),(12,([4],[])),(13,([4],[]))]
@[simp] theorem k91_0:kof L91 0=([0,1],[]):=rfl
@[simp] theorem k91_1:kof L91 1=([0,1,5],[]):=rfl
@[simp] theorem k91_2:kof L91 2=([0,1,5,6],[]):=rfl
@[simp] theorem k91_3:kof L91 3=([0,1,6,11],[]):=rfl
@[simp] theorem k91_4:kof L91 4=([12],[]):=rfl
@[simp] theorem k91_5:kof L91 5=([4],[]):=rfl
@[simp] theorem k91_6:kof L91 6=([4],[]):=rfl
@[simp] theorem k91_7:kof L91 7=([0,1,13],[]):=rfl
@[simp] theorem k91_8:kof L91 8=([4],[]):=rfl
@[simp] theorem k91_9:kof L91 9=([0,1,16],[]):=rfl
@[simp] theorem k91_10:kof L91 10=([4],[]):=rfl
@[simp] theorem k91_11:kof L91 11=([19],[]):=rfl
@[simp] theorem k91_12:kof L91 12=([4],[]):=rfl
@[simp] theorem k91_13:kof L91 13=([4],[]):=rfl
def T91:List (Nat×Plan):=[]
def L93:Live:=[(0,([1,2],[])),(1,([3],[]))]
@[simp] theorem k93_0:kof L93 0=([1,2],[]):=rfl
@[simp] theorem k93_1:kof L93 1=([3],[]):=rfl
def T93:List (Nat×Plan):=[]
def L105:Live:=[(0,([0],[])),(1,([2],[]))]
@[simp] theorem k105_0:kof L105 0=([0],[]):=rfl
@[simp] theorem k105_1:kof L105 1=([2],[]):=rfl
def T105:List (Nat×Plan):=[]
def L141:Live:=[(0,([1],[])),(1,([2],[]))]
@[simp] theorem k141_0:kof L141 0=([1],[]):=rfl
@[simp] theorem k141_1:kof L141 1=([2],[]):=rfl
def T141:List (Nat×Plan):=[]
def L142:Live:=[(0,([1],[])),(1,([2],[]))]
@[simp] theorem k142_0:kof L142 0=([1],[]):=rfl
@[simp] theorem k142_1:kof L142 1=([2],[]):=rfl
def T142:List (Nat×Plan):=[]
def L143:Live:=[(0,([1],[])),(1,([2],[]))]
@[simp] theorem k143_0:kof L143 0=([1],[]):=rfl
@[simp] theorem k143_1:kof L143 1=([2],[]):=rfl
def T143:List (Nat×Plan):=[]
end Go.Proofs.YtejodhjhddnbeaaDoor.E
