/-
  The chapter of the share: its functions, and what they compute. Conditions: none.
-/
import Derived.Test.YtejodhjhddnbeaaDoorZ09
import Derived.Shelf.Small.Strs
import Derived.Shelf.SlGeneric
import Derived.Shelf.SlSortCmp.NoneTotal
import Derived.Ground.SlsfProg
import Derived.Shelf.SlicesE.Clone
import Derived.Ground.SlgnProg
set_option linter.unusedVariables false
set_option linter.unusedSimpArgs false
namespace Go.Proofs.YtejodhjhddnbeaaDoor.E
open Go Go.RowKit
def sumI (l:List Int):Int:=l.foldl (fun n x=>IntKind.i64.wrap (n+x)) 0
theorem sumI_take (l:List Int) (i:Nat) (h:i < l.length):sumI (l.take (i+1))=IntKind.i64.wrap (sumI (l.take i)+l[i]):=by
 simp only [sumI,List.take_add_one,List.getElem?_eq_getElem h,Option.toList_some,List.foldl_append,List.foldl_cons,List.foldl_nil]
theorem wrap_id {n:Int} (h:-9223372036854775808<=n) (h':n < 9223372036854775808):IntKind.i64.wrap n=n:=by
 show (if (true&&decide (n % 18446744073709551616>=9223372036854775808))=true then n % 18446744073709551616-18446744073709551616 else n % 18446744073709551616)=n
 simp only [Bool.true_and,decide_eq_true_eq]
 split<;>omega
theorem wrap_nat {n:Nat} (h:n < 9223372036854775808):IntKind.i64.wrap n=n:=wrap_id (by omega) (by omega)
abbrev Stk:=ByteArray×Int
def stF (p:Stk):FV:=.agg [.str p.1,.int .i64 p.2]
def stL (l:List Stk):List FV:=l.map stF
@[simp] theorem stL_length (l:List Stk):(stL l).length=l.length:=by simp [stL]
@[simp] theorem stL_get? (l:List Stk) (i:Nat):(stL l)[i]? = (l[i]?).map stF:=by simp [stL]
@[simp] theorem stL_get (l:List Stk) (i:Nat) (h:i < (stL l).length):(stL l)[i] = .agg [.str (l[i]'(by simpa using h)).1,.int .i64 (l[i]'(by simpa using h)).2]:=by simp [stL,stF]
@[simp] theorem stL_take (l:List Stk) (i:Nat):(stL l).take i=stL (l.take i):=by simp [stL,List.map_take]
@[simp] theorem stL_nil:stL []=[]:=rfl
def wts (l:List Stk):List Int:=l.map (·.2)
@[simp] theorem wts_length (l:List Stk):(wts l).length=l.length:=by simp [wts]
theorem wts_take (l:List Stk) (i:Nat) (h:i < l.length):wts (l.take (i+1))=wts (l.take i)++[l[i].2]:=by
 simp only [wts,List.take_add_one,List.getElem?_eq_getElem h,Option.toList_some,List.map_append,List.map_cons,List.map_nil]
theorem v46 (ctx:Ctx) (hC:CtxOk (pg ctx)) (a b c:Int) (r1 r2 r3:Bool):Valid Tryd.prog 46 [(r1,.int .i64 a),(r2,.int .i64 b),(r3,.int .i64 c)] [.fv (.bool (decide (b<=a)&&decide (a<=c)))]:=by
 refine valid_of_ev (G:=pg ctx) (tok ctx) hC mixed Tryd.func46 T46 L46 (by simp [Tryd.ntmps46]) ⟨_,rfl,?_⟩
 simp only [Tryd.ntmps46,Tryd.results46,initSt,initEnv]
 refine ev_seq (ev_reg (by simp; rfl) ?_)
 by_cases h:b<=a
 ·refine ev_seq (ev_reg (by simp [h]; rfl) ?_)
  refine ev_ret ?_
  simp [h]
 ·refine ev_seq (ev_reg (by simp [h,unsetS]; rfl) ?_)
  refine ev_ret ?_
  simp [h]
def H46 (ctx:Ctx):Prop:=∀ (a b c:Int) (r1 r2 r3:Bool),ctx 46 [(r1,.int .i64 a),(r2,.int .i64 b),(r3,.int .i64 c)]=some [.fv (.bool (decide (b<=a)&&decide (a<=c)))]
theorem v48 (ctx:Ctx) (hC:CtxOk (pg ctx)) (l:List Int) (ro:Bool) (c:Bool) (hl:l.length < 2^62):Valid Tryd.prog 48 [(ro,.sl c 1 (ints l))] [.fv (.int .i64 (sumI l))]:=by
 refine valid_of_ev (G:=pg ctx) (tok ctx) hC mixed Tryd.func48 T48 L48 (by simp [Tryd.ntmps48]) ⟨_,rfl,?_⟩
 simp only [Tryd.ntmps48,Tryd.results48,initSt,initEnv]
 refine ev_seq (ev_reg (by simp; rfl) ?_)
 refine ev_seq (ev_reg (by simp; rfl) ?_)
 refine ev_seq (ev_seq (ev_reg (by simp; rfl) ?_))
 refine ev_block ?_
 refine ev_loop (fun i:Nat=>({ env:=[(3,V.fv false (FV.int .i64 (sumI (l.take i)))),(6,V.fv ro (FV.sl c 1 (ints l))),(7,V.fv false (FV.int .i64 l.length)),(8,V.fv false (FV.int .i64 i))],blk:=[] }:St)) (fun i=>l.length-i) (fun i=>i<=l.length) 0 rfl (by simp) (by simp [R]; omega) (fun i hi=>?_)
 refine ev_seq (ev_reg (by simp; rfl) ?_)
 refine ev_seq (ev_cond rfl (fun hb=>?_) (fun hb=>?_))
 ·simp at hb
  refine ev_skip ?_
  refine ev_seq (ev_block ?_)
  refine ev_seq (ev_reg (by simp [hb]; rfl) ?_)
  refine ev_reg (by simp; rfl) ?_
  refine ev_reg (by simp; rfl) ?_
  refine ⟨i+1,?_,by omega,by omega⟩
  simp [sumI_take l i hb]
  exact wrap_nat (n:=i+1) (by omega)
 ·simp at hb
  refine ev_exit ?_
  refine ev_seq (ev_reg (by simp; rfl) ?_)
  refine ev_ret ?_
  simp [List.take_of_length_le hb]
def H48 (ctx:Ctx):Prop:=∀ (l:List Int) (ro c:Bool),l.length < 2^62->ctx 48 [(ro,.sl c 1 (ints l))]=some [.fv (.int .i64 (sumI l))]
theorem v49 (ctx:Ctx) (hC:CtxOk (pg ctx)) (l:List Stk) (ro:Bool) (c:Bool) (hl:l.length < 2^44):Valid Tryd.prog 49 [(ro,.sl c 2 (stL l))] [.us 1 (ints (wts l))]:=by
 refine valid_of_ev (G:=pg ctx) (tok ctx) hC mixed Tryd.func49 T49 L49 (by simp [Tryd.ntmps49]) ⟨_,rfl,?_⟩
 simp only [Tryd.ntmps49,Tryd.results49,initSt,initEnv]
 refine ev_seq (ev_reg (by simp; rfl) ?_)
 refine ev_seq (ev_reg (by simp; rfl) ?_)
 refine ev_seq (ev_seq (ev_reg (by simp; rfl) ?_))
 refine ev_block ?_
 refine ev_loop (fun i:Nat=>({ env:=[(3,V.own 3 0 (wts (l.take i)).length),(6,V.fv ro (FV.sl c 2 (stL l))),(7,V.fv false (FV.int .i64 l.length)),(8,V.fv false (FV.int .i64 i))],blk:=[(3,.arr 1 (ints (wts (l.take i))))] }:St)) (fun i=>l.length-i) (fun i=>i<=l.length) 0 rfl (by simp) (by simp [R]; omega) (fun i hi=>?_)
 have hmin:min i l.length=i:=by omega
 refine ev_seq (ev_reg (by simp; rfl) ?_)
 refine ev_seq (ev_cond rfl (fun hb=>?_) (fun hb=>?_))
 ·simp at hb
  refine ev_skip ?_
  refine ev_seq (ev_block ?_)
  have hbd:(i+1)*8<=140737488355328:=by omega
  refine ev_seq (ev_reg (by simp [hb]; rfl) ?_)
  refine ev_reg (by simp [hmin,hbd]; rfl) ?_
  refine ev_reg (by simp; rfl) ?_
  refine ⟨i+1,?_,by omega,by omega⟩
  simp [wts_take l i hb,hmin]
  exact wrap_nat (n:=i+1) (by omega)
 ·simp at hb
  refine ev_exit ?_
  refine ev_seq (ev_reg (by simp; rfl) ?_)
  refine ev_ret ?_
  obtain rfl:i=l.length:=by omega
  simp
def H49 (ctx:Ctx):Prop:=∀ (l:List Stk) (ro c:Bool),l.length < 2^44->ctx 49 [(ro,.sl c 2 (stL l))]=some [.us 1 (ints (wts l))]
theorem v76 (ctx:Ctx) (hC:CtxOk (pg ctx)) (p:Stk) (n:ByteArray) (w:Int) (r1 r2:Bool):Valid Tryd.prog 76 [(r1,stF p),(r2,.pt [.str n,.int .i64 w] 0)] [.fv (.bool (p.1==n))]:=by
 refine valid_of_ev (G:=pg ctx) (tok ctx) hC mixed Tryd.func76 T76 L76 (by simp [Tryd.ntmps76]) ⟨_,rfl,?_⟩
 simp only [Tryd.ntmps76,Tryd.results76,initSt,initEnv,stF]
 refine ev_seq (ev_reg (by simp; rfl) ?_)
 refine ev_seq (ev_reg (by simp; rfl) ?_)
 refine ev_ret ?_
 simp
def idx {α:Type} (p:α->Bool) (l:List α):Int:=match l.findIdx? p with | some i=>i | none=>-1
theorem take_all {α:Type} {p:α->Bool} {l:List α} {i:Nat} (hi:i < l.length) (hn:∀ x∈l.take i,p x=false) (h:p l[i]=false):∀ x∈l.take (i+1),p x=false:=by
 intro x hx
 rw [List.take_add_one,List.getElem?_eq_getElem hi] at hx
 simp only [Option.toList_some,List.mem_append,List.mem_singleton] at hx
 rcases hx with hx | rfl
 ·exact hn x hx
 ·exact h
theorem idx_some {α:Type} {p:α->Bool} {l:List α} {i:Nat} (hi:i < l.length) (hn:∀ x∈l.take i,p x=false) (h:p l[i]=true):l.findIdx? p=some i:=by
 rw [List.findIdx?_eq_some_iff_getElem]
 refine ⟨hi,h,fun j hj=>?_⟩
 have:=hn l[j] (List.mem_iff_getElem.2 ⟨j,by simp; omega,by simp⟩)
 simp [this]
theorem idx_nonneg {α:Type} (p:α->Bool) (l:List α):decide (0<=idx p l)=l.any p:=by
 unfold idx
 cases h:l.findIdx? p with
 | none =>
  simp only [List.findIdx?_eq_none_iff] at h
  have:l.any p=false:=by simpa using h
  rw [this]; rfl
 | some i =>
  rw [List.findIdx?_eq_some_iff_getElem] at h
  obtain ⟨hi,hp,_⟩:=h
  have:l.any p=true:=by simp only [List.any_eq_true]; exact ⟨_,List.getElem_mem hi,hp⟩
  rw [this]; simp
theorem v87 (ctx:Ctx) (hC:CtxOk (pg ctx)) (k:FuncId) (p:Stk->Bool) (l:List Stk) (hl:l.length < 2^44) (ro rf c:Bool) (caps:List FV) (hk:∀ x∈l,∀ q,ctx k ((q,stF x) :: caps.map fun y=>(rf,y))=some [.fv (.bool (p x))]):Valid Tryd.prog 87 [(ro,.sl c 2 (stL l)),(rf,.fn (.func k) [] caps)] [.fv (.int .i64 (idx p l))]:=by
 refine valid_of_ev (G:=pg ctx) (tok ctx) hC mixed Tryd.func87 T87 L87 (by simp [Tryd.ntmps87]) ⟨_,rfl,?_⟩
 simp only [Tryd.ntmps87,Tryd.results87,initSt,initEnv]
 refine ev_seq (ev_reg (by simp; rfl) ?_)
 refine ev_seq (ev_seq (ev_reg (by simp; rfl) ?_))
 refine ev_block ?_
 refine ev_loop (fun i:Nat=>({ env:=[(0,V.fv ro (FV.sl c 2 (stL l))),(1,V.fv rf (.fn (.func k) [] caps)),(7,V.fv false (FV.int .i64 l.length)),(8,V.fv false (FV.int .i64 i))],blk:=[] }:St)) (fun i=>l.length-i) (fun i=>i<=l.length/\∀ x∈l.take i,p x=false) 0 rfl (by simp) (by simp [R]; omega) (fun i hi=>?_)
 obtain ⟨hi,hn⟩:=hi
 refine ev_seq (ev_reg (by simp; rfl) ?_)
 refine ev_seq (ev_cond rfl (fun hb=>?_) (fun hb=>?_))
 ·simp at hb
  refine ev_skip ?_
  refine ev_seq (ev_block ?_)
  refine ev_seq (ev_reg (by simp; rfl) ?_)
  have hm:=hk l[i] (by simp)
  simp only [stF] at hm
  have hlen:l.length≠0:=by omega
  refine ev_seq (ev_reg (by simp [hb,hm]; rfl) ?_)
  refine ev_cond rfl (fun hb2=>?_) (fun hb2=>?_)
  ·refine ev_seq (ev_reg (by simp; rfl) ?_)
   refine ev_ret ?_
   simp [idx,idx_some hb hn hb2]
  ·refine ev_skip ?_
   refine ev_reg (by simp; rfl) ?_
   refine ⟨i+1,?_,⟨by omega,take_all hb hn hb2⟩,by omega⟩
   simp
   exact wrap_nat (n:=i+1) (by omega)
 ·simp at hb
  refine ev_exit ?_
  refine ev_seq (ev_reg (by simp; rfl) ?_)
  refine ev_ret ?_
  have hnone:l.findIdx? p=none:=by
   rw [List.findIdx?_eq_none_iff]
   rw [List.take_of_length_le hb] at hn
   simpa using hn
  simp [idx,hnone]
def H87 (ctx:Ctx) (k:FuncId) (caps:List FV) (p:Stk->Bool):Prop:=∀ (l:List Stk) (ro rf c:Bool),l.length < 2^44->ctx 87 [(ro,.sl c 2 (stL l)),(rf,.fn (.func k) [] caps)]=some [.fv (.int .i64 (idx p l))]
theorem v75 (ctx:Ctx) (hC:CtxOk (pg ctx)) (k:FuncId) (p:Stk->Bool) (caps:List FV) (h87:H87 ctx k caps p) (l:List Stk) (hl:l.length < 2^44) (ro rf c:Bool):Valid Tryd.prog 75 [(ro,.sl c 2 (stL l)),(rf,.fn (.func k) [] caps)] [.fv (.bool (l.any p))]:=by
 refine valid_of_ev (G:=pg ctx) (tok ctx) hC mixed Tryd.func75 T75 L75 (by simp [Tryd.ntmps75]) ⟨_,rfl,?_⟩
 simp only [Tryd.ntmps75,Tryd.results75,initSt,initEnv]
 refine ev_seq (ev_reg (by simp; rfl) ?_)
 refine ev_seq (ev_reg (by simp [h87 l ro rf c hl]; rfl) ?_)
 refine ev_ret ?_
 simp [idx_nonneg]
def H75 (ctx:Ctx):Prop:=∀ (n:ByteArray) (w:Int) (l:List Stk) (ro rf c:Bool),l.length < 2^44->ctx 75 [(ro,.sl c 2 (stL l)),(rf,.fn (.func 76) [] [.pt [.str n,.int .i64 w] 0])]=some [.fv (.bool (l.any fun p=>p.1==n))]
end Go.Proofs.YtejodhjhddnbeaaDoor.E
namespace Go.Proofs.YtejodhjhddnbeaaDoor
open Go Go.RowKit Go.Shelf
def Tryd.mCmp_ren:Go.Shelf.Ren:=⟨fun | 213=>84 | 265=>104 | n=>n,fun | 3=>3 | 9=>9 | n=>n,fun | n=>n⟩
theorem Tryd.mCmp : Go.Proofs.Lays.n213 Tryd.prog Tryd.mCmp_ren := {
  mixed := by kernel_rfl
  f213 := Tryd.func84.trans (congrArg some (by kernel_rfl))
  f265 := Tryd.func104.trans (congrArg some (by kernel_rfl))
  t3 := Tryd.underlying3
  a3 := Tryd.isAgg3
  z3 := Tryd.sizeOf3
  v3 := Tryd.zeroValue3
  t9 := Tryd.underlying9
  a9 := Tryd.isAgg9
  z9 := Tryd.sizeOf9
  v9 := Tryd.zeroValue9 }
namespace E
def cmpB (a b:ByteArray):Int:=Go.Lib.compareBytes a.data.toList b.data.toList
theorem v84 (a b:ByteArray) (r1 r2:Bool):Valid Tryd.prog 84 [(r1,.str a),(r2,.str b)] [.fv (.int .i64 (cmpB a b))]:=by
 intro w Fz Fy vs hzy hyl hlen hr hgl
 obtain ⟨u,hu,h0⟩:=hr 0 _ rfl
 obtain ⟨v,hv,h1⟩:=hr 1 _ rfl
 have hvs:vs=[u,v]:=by
  match vs,hlen,hu,hv with
  | [a,b],_,hu,hv=>simp at hu hv; rw [hu,hv]
 subst hvs
 cases h0 with
 | str =>
 cases h1 with
 | str =>
 refine (Any.bytealg_CompareString Tryd.mCmp a b w).mono ?_
 rintro e w' ⟨rfl,rfl⟩
 refine ⟨_,[.int .i64 (cmpB a b)],fun _=>none,rfl,Below.refl _ _,⟨rfl,rfl,fun j r hj=>?_,fun j b base h=>(by cases h),fun i j b base b' base' _ h=>(by cases h)⟩⟩
 cases j with
 | zero =>
  simp only [List.getElem?_cons_zero,Option.some.injEq] at hj; subst hj
  exact ⟨_,rfl,.fv _ _ (.int _ _)⟩
 | succ j=>simp at hj
def H84 (ctx:Ctx):Prop:=∀ (a b:ByteArray) (r1 r2:Bool),ctx 84 [(r1,.str a),(r2,.str b)]=some [.fv (.int .i64 (cmpB a b))]
theorem v65 (ctx:Ctx) (hC:CtxOk (pg ctx)) (h84:H84 ctx) (a b:ByteArray) (r1 r2:Bool):Valid Tryd.prog 65 [(r1,.str a),(r2,.str b)] [.fv (.int .i64 (cmpB a b))]:=by
 refine valid_of_ev (G:=pg ctx) (tok ctx) hC mixed Tryd.func65 T65 L65 (by simp [Tryd.ntmps65]) ⟨_,rfl,?_⟩
 simp only [Tryd.ntmps65,Tryd.results65,initSt,initEnv]
 refine ev_seq (ev_reg (by simp; rfl) ?_)
 refine ev_seq (ev_reg (by simp [h84 a b r1 r2]; rfl) ?_)
 refine ev_ret ?_
 simp
def H65 (ctx:Ctx):Prop:=∀ (a b:ByteArray) (r1 r2:Bool),ctx 65 [(r1,.str a),(r2,.str b)]=some [.fv (.int .i64 (cmpB a b))]
theorem v105 (ctx:Ctx) (hC:CtxOk (pg ctx)) (a:Int) (r:Bool):Valid Tryd.prog 105 [(r,.int .i64 a)] [.fv (.bool false)]:=by
 refine valid_of_ev (G:=pg ctx) (tok ctx) hC mixed Tryd.func105 T105 L105 (by simp [Tryd.ntmps105]) ⟨_,rfl,?_⟩
 simp only [Tryd.ntmps105,Tryd.results105,initSt,initEnv]
 refine ev_seq (ev_reg (by simp; rfl) ?_)
 refine ev_seq (ev_reg (by simp; rfl) ?_)
 refine ev_ret ?_
 simp
def H105 (ctx:Ctx):Prop:=∀ (a:Int) (r:Bool),ctx 105 [(r,.int .i64 a)]=some [.fv (.bool false)]
def cmpI (a b:Int):Int:=if a < b then -1 else if b < a then 1 else 0
theorem v91 (ctx:Ctx) (hC:CtxOk (pg ctx)) (h105:H105 ctx) (a b:Int) (r1 r2:Bool):Valid Tryd.prog 91 [(r1,.int .i64 a),(r2,.int .i64 b)] [.fv (.int .i64 (cmpI a b))]:=by
 refine valid_of_ev (G:=pg ctx) (tok ctx) hC mixed Tryd.func91 T91 L91 (by simp [Tryd.ntmps91]) ⟨_,rfl,?_⟩
 simp only [Tryd.ntmps91,Tryd.results91,initSt,initEnv]
 refine ev_seq (ev_reg (by simp; rfl) ?_)
 refine ev_seq (ev_reg (by simp [h105 a r1]; rfl) ?_)
 refine ev_seq (ev_reg (by simp [h105 b r2]; rfl) ?_)
 refine ev_seq (ev_seq (ev_reg (by simp; rfl) ?_))
 refine ev_cond rfl (fun hb=>?_) (fun hb=>?_)
 ·simp at hb
 ·refine ev_skip ?_
  refine ev_seq (ev_seq (ev_reg (by simp; rfl) ?_))
  refine ev_cond rfl (fun hb=>?_) (fun hb=>?_)
  ·simp at hb
  ·refine ev_skip ?_
   refine ev_seq (ev_seq (ev_reg (by simp; rfl) ?_))
   refine ev_cond rfl (fun hb=>?_) (fun hb=>?_)
   ·simp at hb
    refine ev_seq (ev_reg (by simp; rfl) ?_)
    refine ev_ret ?_
    simp [cmpI,hb]
   ·simp at hb
    refine ev_skip ?_
    refine ev_seq (ev_seq (ev_reg (by simp; rfl) ?_))
    refine ev_cond rfl (fun hb2=>?_) (fun hb2=>?_)
    ·simp at hb2
     refine ev_seq (ev_reg (by simp; rfl) ?_)
     refine ev_ret ?_
     simp [cmpI,hb2,show ¬ a < b by omega]
    ·simp at hb2
     refine ev_skip ?_
     refine ev_seq (ev_reg (by simp; rfl) ?_)
     refine ev_ret ?_
     simp [cmpI,show ¬ a < b by omega,show ¬ b < a by omega]
def H91 (ctx:Ctx):Prop:=∀ (a b:Int) (r1 r2:Bool),ctx 91 [(r1,.int .i64 a),(r2,.int .i64 b)]=some [.fv (.int .i64 (cmpI a b))]
def orI (l:List Int):Int:=(l.find? fun x=>decide (x≠0)).getD 0
theorem v90 (ctx:Ctx) (hC:CtxOk (pg ctx)) (l:List Int) (hl:l.length < 2^62) (ro c:Bool):Valid Tryd.prog 90 [(ro,.sl c 1 (ints l))] [.fv (.int .i64 (orI l))]:=by
 refine valid_of_ev (G:=pg ctx) (tok ctx) hC mixed Tryd.func90 T90 L90 (by simp [Tryd.ntmps90]) ⟨_,rfl,?_⟩
 simp only [Tryd.ntmps90,Tryd.results90,initSt,initEnv]
 refine ev_seq (ev_reg (by simp; rfl) ?_)
 refine ev_seq (ev_reg (by simp; rfl) ?_)
 refine ev_seq (ev_seq (ev_reg (by simp; rfl) ?_))
 refine ev_block ?_
 refine ev_loop (fun i:Nat=>({ env:=[(3,V.fv false (FV.int .i64 0)),(6,V.fv ro (FV.sl c 1 (ints l))),(7,V.fv false (FV.int .i64 l.length)),(8,V.fv false (FV.int .i64 i))],blk:=[] }:St)) (fun i=>l.length-i) (fun i=>i<=l.length/\∀ x∈l.take i,decide (x≠0)=false) 0 rfl (by simp) (by simp [R]; omega) (fun i hi=>?_)
 obtain ⟨hi,hn⟩:=hi
 refine ev_seq (ev_reg (by simp; rfl) ?_)
 refine ev_seq (ev_cond rfl (fun hb=>?_) (fun hb=>?_))
 ·simp at hb
  refine ev_skip ?_
  refine ev_seq (ev_block ?_)
  refine ev_seq (ev_reg (by simp [hb]; rfl) ?_)
  refine ev_seq (ev_reg (by simp; rfl) ?_)
  refine ev_cond rfl (fun hb2=>?_) (fun hb2=>?_)
  ·refine ev_seq (ev_reg (by simp; rfl) ?_)
   refine ev_ret ?_
   have hf:l.find? (fun x=>decide (x≠0))=some l[i]:=by
    rw [List.find?_eq_some_iff_getElem]
    refine ⟨by simpa using hb2,i,hb,rfl,fun j hj=>?_⟩
    have:=hn l[j] (List.mem_iff_getElem.2 ⟨j,by simp; omega,by simp⟩)
    simpa using this
   have ho:orI l=l[i]:=by unfold orI; rw [hf]; rfl
   simp [ho]
  ·refine ev_skip ?_
   refine ev_reg (by simp; rfl) ?_
   refine ⟨i+1,?_,⟨by omega,take_all hb hn (by simpa using hb2)⟩,by omega⟩
   simp
   exact wrap_nat (n:=i+1) (by omega)
 ·simp at hb
  refine ev_exit ?_
  refine ev_seq (ev_reg (by simp; rfl) ?_)
  refine ev_ret ?_
  have hf:l.find? (fun x=>decide (x≠0))=none:=by
   rw [List.find?_eq_none]
   rw [List.take_of_length_le hb] at hn
   intro x hx
   have:=hn x hx
   simpa using this
  have ho:orI l=0:=by unfold orI; rw [hf]; rfl
  simp [ho]
def H90 (ctx:Ctx):Prop:=∀ (l:List Int) (ro c:Bool),l.length < 2^62->ctx 90 [(ro,.sl c 1 (ints l))]=some [.fv (.int .i64 (orI l))]
structure Shr where
 n:ByteArray
 w:Int
 g:Int
 r:Int
 p:Int
def shF (x:Shr):FV:=.agg [.str x.n,.int .i64 x.w,.int .i64 x.g,.int .i64 x.r,.int .i64 x.p]
def cmpS (x y:Shr):Int:=orI [cmpI y.r x.r,cmpB x.n y.n]
theorem v89 (ctx:Ctx) (hC:CtxOk (pg ctx)) (h91:H91 ctx) (h65:H65 ctx) (h90:H90 ctx) (x y:Shr) (r1 r2:Bool):Valid Tryd.prog 89 [(r1,shF x),(r2,shF y)] [.fv (.int .i64 (cmpS x y))]:=by
 refine valid_of_ev (G:=pg ctx) (tok ctx) hC mixed Tryd.func89 T89 L89 (by simp [Tryd.ntmps89]) ⟨_,rfl,?_⟩
 simp only [Tryd.ntmps89,Tryd.results89,initSt,initEnv,shF]
 have e91:∀ a b,ctx 91 [(false,.int .i64 a),(false,.int .i64 b)]=some [.fv (.int .i64 (cmpI a b))]:=fun a b=>h91 a b _ _
 have e65:∀ a b,ctx 65 [(false,.str a),(false,.str b)]=some [.fv (.int .i64 (cmpB a b))]:=fun a b=>h65 a b _ _
 have e90:∀ a b ro c,ctx 90 [(ro,.sl c 1 [.int .i64 a,.int .i64 b])]=some [.fv (.int .i64 (orI [a,b]))]:=fun a b ro c=>h90 [a,b] ro c (by simp)
 refine ev_seq (ev_reg (by simp; rfl) ?_)
 refine ev_seq (ev_drw rfl (by kernel_rfl) (by kernel_rfl) (by simp [e91,e65,e90,show ([0,1]:List Nat)=List.range 2 from rfl]; rfl) ?_)
 refine ev_ret ?_
 simp [cmpS]
end E
end Go.Proofs.YtejodhjhddnbeaaDoor
namespace Go.Proofs.YtejodhjhddnbeaaDoor
open Go Go.RowKit Go.Sort Go.Shelf
def Tryd.mSortS_ren:Go.Shelf.Ren:=⟨fun | 6=>92 | 15=>83 | 14=>106 | 28=>102 | 29=>103 | 20=>112 | 21=>113 | 22=>114 | 23=>115 | 24=>116 | 25=>117 | 26=>118 | 27=>119 | 46=>121 | 47=>108 | 48=>109 | 49=>122 | 50=>123 | 57=>124 | n=>n,fun | 22=>115 | 24=>117 | 25=>132 | 3=>3 | 39=>126 | 0=>0 | 53=>144 | 55=>146 | 4=>4 | 46=>138 | 45=>137 | 50=>128 | 5=>5 | 9=>9 | 66=>149 | 70=>153 | 76=>160 | 77=>110 | n=>n,fun | n=>n⟩
theorem Tryd.mSortS : Go.Proofs.SlLaysF0.n6 Tryd.prog Tryd.mSortS_ren := {
  mixed := by kernel_rfl
  f6 := ⟨Tryd.f92.name,by decide,Tryd.func92.trans (congrArg some (by kernel_rfl))⟩
  f14 := ⟨Tryd.f106.name,by decide,Tryd.func106.trans (congrArg some (by kernel_rfl))⟩
  f15 := Tryd.func83.trans (congrArg some (by kernel_rfl))
  f20 := ⟨Tryd.f112.name,by decide,Tryd.func112.trans (congrArg some (by kernel_rfl))⟩
  f21 := ⟨Tryd.f113.name,by decide,Tryd.func113.trans (congrArg some (by kernel_rfl))⟩
  f22 := ⟨Tryd.f114.name,by decide,Tryd.func114.trans (congrArg some (by kernel_rfl))⟩
  f23 := ⟨Tryd.f115.name,by decide,Tryd.func115.trans (congrArg some (by kernel_rfl))⟩
  f24 := ⟨Tryd.f116.name,by decide,Tryd.func116.trans (congrArg some (by kernel_rfl))⟩
  f25 := ⟨Tryd.f117.name,by decide,Tryd.func117.trans (congrArg some (by kernel_rfl))⟩
  f26 := ⟨Tryd.f118.name,by decide,Tryd.func118.trans (congrArg some (by kernel_rfl))⟩
  f27 := ⟨Tryd.f119.name,by decide,Tryd.func119.trans (congrArg some (by kernel_rfl))⟩
  f28 := Tryd.func102.trans (congrArg some (by kernel_rfl))
  f29 := Tryd.func103.trans (congrArg some (by kernel_rfl))
  f46 := ⟨Tryd.f121.name,by decide,Tryd.func121.trans (congrArg some (by kernel_rfl))⟩
  f47 := Tryd.func108.trans (congrArg some (by kernel_rfl))
  f48 := Tryd.func109.trans (congrArg some (by kernel_rfl))
  f49 := ⟨Tryd.f122.name,by decide,Tryd.func122.trans (congrArg some (by kernel_rfl))⟩
  f50 := ⟨Tryd.f123.name,by decide,Tryd.func123.trans (congrArg some (by kernel_rfl))⟩
  f57 := ⟨Tryd.f124.name,by decide,Tryd.func124.trans (congrArg some (by kernel_rfl))⟩
  t0 := Tryd.underlying0
  a0 := Tryd.isAgg0
  z0 := Tryd.sizeOf0
  v0 := Tryd.zeroValue0
  t3 := Tryd.underlying3
  a3 := Tryd.isAgg3
  z3 := Tryd.sizeOf3
  v3 := Tryd.zeroValue3
  t4 := Tryd.underlying4
  a4 := Tryd.isAgg4
  z4 := Tryd.sizeOf4
  v4 := Tryd.zeroValue4
  t5 := Tryd.underlying5
  a5 := Tryd.isAgg5
  z5 := Tryd.sizeOf5
  v5 := Tryd.zeroValue5
  t9 := Tryd.underlying9
  a9 := Tryd.isAgg9
  z9 := Tryd.sizeOf9
  v9 := Tryd.zeroValue9
  t22 := Tryd.underlying115
  a22 := Tryd.isAgg115
  z22 := Tryd.sizeOf115
  v22 := Tryd.zeroValue115
  t25 := Tryd.underlying132
  a25 := Tryd.isAgg132
  z25 := Tryd.sizeOf132
  v25 := Tryd.zeroValue132
  t39 := Tryd.underlying126
  a39 := Tryd.isAgg126
  z39 := Tryd.sizeOf126
  v39 := Tryd.zeroValue126
  t45 := Tryd.underlying137
  a45 := Tryd.isAgg137
  z45 := Tryd.sizeOf137
  v45 := Tryd.zeroValue137
  t46 := Tryd.underlying138
  a46 := Tryd.isAgg138
  z46 := Tryd.sizeOf138
  v46 := Tryd.zeroValue138
  t50 := Tryd.underlying128
  a50 := Tryd.isAgg128
  z50 := Tryd.sizeOf128
  v50 := Tryd.zeroValue128
  t53 := Tryd.underlying144
  a53 := Tryd.isAgg144
  z53 := Tryd.sizeOf144
  v53 := Tryd.zeroValue144
  t55 := Tryd.underlying146
  a55 := Tryd.isAgg146
  z55 := Tryd.sizeOf146
  v55 := Tryd.zeroValue146
  t66 := Tryd.underlying149
  a66 := Tryd.isAgg149
  z66 := Tryd.sizeOf149
  v66 := Tryd.zeroValue149
  t70 := Tryd.underlying153
  a70 := Tryd.isAgg153
  z70 := Tryd.sizeOf153
  v70 := Tryd.zeroValue153
  t76 := Tryd.underlying160
  a76 := Tryd.isAgg160
  z76 := Tryd.sizeOf160
  v76 := Tryd.zeroValue160
  t77 := Tryd.underlying110
  a77 := Tryd.isAgg110
  z77 := Tryd.sizeOf110
  v77 := Tryd.zeroValue110 }
def Tryd.mSortD_ren:Go.Shelf.Ren:=⟨fun | 6=>63 | 15=>83 | 14=>82 | 28=>102 | 29=>103 | 20=>94 | 21=>95 | 22=>96 | 23=>97 | 24=>98 | 25=>99 | 26=>100 | 27=>101 | 46=>107 | 47=>108 | 48=>109 | 49=>110 | 50=>111 | 57=>120 | n=>n,fun | 22=>38 | 24=>53 | 25=>99 | 3=>3 | 39=>126 | 0=>0 | 53=>144 | 55=>146 | 4=>4 | 46=>138 | 45=>137 | 50=>128 | 5=>5 | 9=>9 | 66=>149 | 70=>153 | 76=>160 | 77=>110 | n=>n,fun | n=>n⟩
theorem Tryd.mSortD : Go.Proofs.SlLaysF0.n6 Tryd.prog Tryd.mSortD_ren := {
  mixed := by kernel_rfl
  f6 := ⟨Tryd.f63.name,by decide,Tryd.func63.trans (congrArg some (by kernel_rfl))⟩
  f14 := ⟨Tryd.f82.name,by decide,Tryd.func82.trans (congrArg some (by kernel_rfl))⟩
  f15 := Tryd.func83.trans (congrArg some (by kernel_rfl))
  f20 := ⟨Tryd.f94.name,by decide,Tryd.func94.trans (congrArg some (by kernel_rfl))⟩
  f21 := ⟨Tryd.f95.name,by decide,Tryd.func95.trans (congrArg some (by kernel_rfl))⟩
  f22 := ⟨Tryd.f96.name,by decide,Tryd.func96.trans (congrArg some (by kernel_rfl))⟩
  f23 := ⟨Tryd.f97.name,by decide,Tryd.func97.trans (congrArg some (by kernel_rfl))⟩
  f24 := ⟨Tryd.f98.name,by decide,Tryd.func98.trans (congrArg some (by kernel_rfl))⟩
  f25 := ⟨Tryd.f99.name,by decide,Tryd.func99.trans (congrArg some (by kernel_rfl))⟩
  f26 := ⟨Tryd.f100.name,by decide,Tryd.func100.trans (congrArg some (by kernel_rfl))⟩
  f27 := ⟨Tryd.f101.name,by decide,Tryd.func101.trans (congrArg some (by kernel_rfl))⟩
  f28 := Tryd.func102.trans (congrArg some (by kernel_rfl))
  f29 := Tryd.func103.trans (congrArg some (by kernel_rfl))
  f46 := ⟨Tryd.f107.name,by decide,Tryd.func107.trans (congrArg some (by kernel_rfl))⟩
  f47 := Tryd.func108.trans (congrArg some (by kernel_rfl))
  f48 := Tryd.func109.trans (congrArg some (by kernel_rfl))
  f49 := ⟨Tryd.f110.name,by decide,Tryd.func110.trans (congrArg some (by kernel_rfl))⟩
  f50 := ⟨Tryd.f111.name,by decide,Tryd.func111.trans (congrArg some (by kernel_rfl))⟩
  f57 := ⟨Tryd.f120.name,by decide,Tryd.func120.trans (congrArg some (by kernel_rfl))⟩
  t0 := Tryd.underlying0
  a0 := Tryd.isAgg0
  z0 := Tryd.sizeOf0
  v0 := Tryd.zeroValue0
  t3 := Tryd.underlying3
  a3 := Tryd.isAgg3
  z3 := Tryd.sizeOf3
  v3 := Tryd.zeroValue3
  t4 := Tryd.underlying4
  a4 := Tryd.isAgg4
  z4 := Tryd.sizeOf4
  v4 := Tryd.zeroValue4
  t5 := Tryd.underlying5
  a5 := Tryd.isAgg5
  z5 := Tryd.sizeOf5
  v5 := Tryd.zeroValue5
  t9 := Tryd.underlying9
  a9 := Tryd.isAgg9
  z9 := Tryd.sizeOf9
  v9 := Tryd.zeroValue9
  t22 := Tryd.underlying38
  a22 := Tryd.isAgg38
  z22 := Tryd.sizeOf38
  v22 := Tryd.zeroValue38
  t25 := Tryd.underlying99
  a25 := Tryd.isAgg99
  z25 := Tryd.sizeOf99
  v25 := Tryd.zeroValue99
  t39 := Tryd.underlying126
  a39 := Tryd.isAgg126
  z39 := Tryd.sizeOf126
  v39 := Tryd.zeroValue126
  t45 := Tryd.underlying137
  a45 := Tryd.isAgg137
  z45 := Tryd.sizeOf137
  v45 := Tryd.zeroValue137
  t46 := Tryd.underlying138
  a46 := Tryd.isAgg138
  z46 := Tryd.sizeOf138
  v46 := Tryd.zeroValue138
  t50 := Tryd.underlying128
  a50 := Tryd.isAgg128
  z50 := Tryd.sizeOf128
  v50 := Tryd.zeroValue128
  t53 := Tryd.underlying144
  a53 := Tryd.isAgg144
  z53 := Tryd.sizeOf144
  v53 := Tryd.zeroValue144
  t55 := Tryd.underlying146
  a55 := Tryd.isAgg146
  z55 := Tryd.sizeOf146
  v55 := Tryd.zeroValue146
  t66 := Tryd.underlying149
  a66 := Tryd.isAgg149
  z66 := Tryd.sizeOf149
  v66 := Tryd.zeroValue149
  t70 := Tryd.underlying153
  a70 := Tryd.isAgg153
  z70 := Tryd.sizeOf153
  v70 := Tryd.zeroValue153
  t76 := Tryd.underlying160
  a76 := Tryd.isAgg160
  z76 := Tryd.sizeOf160
  v76 := Tryd.zeroValue160
  t77 := Tryd.underlying110
  a77 := Tryd.isAgg110
  z77 := Tryd.sizeOf110
  v77 := Tryd.zeroValue110 }
end Go.Proofs.YtejodhjhddnbeaaDoor
