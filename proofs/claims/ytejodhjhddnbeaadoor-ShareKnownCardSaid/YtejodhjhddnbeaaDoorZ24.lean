/-
  The chapter of the share: its functions, and what they compute. Conditions: none.
-/
import Derived.Test.YtejodhjhddnbeaaDoorRows
import Derived.Test.YtejodhjhddnbeaaDoorZ07
import Derived.LaidMore
import Derived.OpenShut
import Derived.Stop.Joined
import Derived.JoinedCond
import Derived.JoinedOf
import Derived.Test.YtejodhjhddnbeaaDoorZ23
set_option linter.unusedVariables false
set_option linter.unusedSimpArgs false
namespace Go.Proofs.YtejodhjhddnbeaaDoor.E
open Go Go.RowKit
theorem ownP:ownKnob Tryd.prog.godebug=none:=by kernel_rfl
theorem gParts : Tryd.prog.globalNamed "drifter/share.parts" = some 0 := by kernel_rfl
theorem tParts:(Tryd.prog.globals[0]?).map (·.type)=some 91:=by kernel_rfl
abbrev laidP : List (String × DataW Unit) := [("drifter/share.parts", Rows.laid_drifter_share_parts)]
theorem door_met (os:Os) (args:Array Value):laidMetH Tryd.prog laidP ((World.doorLaid Tryd.prog 2000 os).forCall (fun _ _=>0) ⟨#[],args,[]⟩).memory :=
 laidMetH_of_parts3 (fuel:=8) (laidMet_of_run' 8 (by kernel_rfl) (by kernel_rfl)) (by kernel_rfl) (by kernel_rfl)
theorem str_of {s:ByteArray} {t:String} (h:s.data.toList=t.toUTF8.data.toList):s=t.toUTF8:=by
 obtain ⟨⟨a⟩⟩:=s
 generalize t.toUTF8=u at h
 obtain ⟨⟨b⟩⟩:=u
 simp only at h
 rw [h]
theorem cells91:Tryd.prog.cellsOf 91=6:=by kernel_rfl
theorem cells90:Tryd.prog.cellsOf 90=2:=by kernel_rfl
theorem cells9:Tryd.prog.cellsOf 9=1:=by kernel_rfl
theorem cells89:Tryd.prog.cellsOf 89=1:=by kernel_rfl
theorem part_of {W:World} {m:Nat} {c0 c1:Value} {b0:UInt8} {r0:List UInt8} {b:UInt8} {r:List UInt8} {q:List MemPlace} {f0:FuncId} (hone:((List.range Tryd.prog.funcs.size).filter fun f=>(Tryd.prog.funcs[f]?).any (·.name.toUTF8.data.toList==b :: r))=[f0])
  (h:DataW.trod (funcToken Tryd.prog) Tryd.prog W 0 (fun _=>true) true m 90 [c0,c1]=some (.agg [.lit (.string (b0 :: r0)),.held (b :: r)],q)):(∃ s:ByteArray,c0 = .string s/\s.data.toList=b0 :: r0)/\c1 = .func (.func f0) #[] #[]:=by
 obtain ⟨xs,n,rfl,hx,hl,hlen,hel⟩:=DataW.trod_struct Tryd.underlying90 h
 match xs,hlen with
 | [x0,x1],_ =>
  have e0:=hel 0 _ rfl
  have e1:=hel 1 _ rfl
  have e0:DataW.trod (funcToken Tryd.prog) Tryd.prog W 0 (fun _=>true) true n 9 (([c0,c1].drop 0).take (Tryd.prog.cellsOf 9))=some x0:=e0
  have e1:DataW.trod (funcToken Tryd.prog) Tryd.prog W 0 (fun _=>true) true n 89 (([c0,c1].drop 1).take (Tryd.prog.cellsOf 89))=some x1:=e1
  rw [cells9] at e0
  rw [cells89] at e1
  simp only [Prod.mk.injEq,DataW.agg.injEq,List.map_cons,List.map_nil,List.cons.injEq,and_true] at hx
  obtain ⟨s,hs1,hs2,_⟩:=DataW.trod_string Tryd.underlying9 (show DataW.trod _ _ W 0 _ true n 9 [c0]=some x0 from e0)
  have e1':DataW.trod (funcToken Tryd.prog) Tryd.prog W 0 (fun _=>true) true n 89 [c1]=some (x1.1,x1.2):=e1
  rw [<-hx.1.2] at e1'
  refine ⟨⟨s,by simpa using hs1,?_⟩,func_of_trod Tryd.underlying89 hone e1'⟩
  have:=hx.1.1
  rw [hs2] at this
  simpa using this.symm
theorem list3 {α:Type} {l:List α} (h:l.length=3):∃ a b c,l=[a,b,c]:=by
 match l,h with
 | [a,b,c],_=>exact ⟨a,b,c,rfl⟩
theorem list6 {α:Type} {l:List α} (h:l.length=6):∃ a b c d e f,l=[a,b,c,d,e,f]:=by
 match l,h with
 | [a,b,c,d,e,f],_=>exact ⟨a,b,c,d,e,f,rfl⟩
set_option maxRecDepth 100000 in
theorem gl_of_laid {W:World} (h:laidMetH Tryd.prog laidP W):GlOk (fun b=>b < W.heap.size) W:=by
 obtain ⟨g,t,cs,fuel,p,hg,ht,hv,hd⟩:=h.funcs (List.mem_singleton.2 rfl)
 obtain rfl:=Option.some.inj (gParts.symm.trans hg)
 obtain rfl:=Option.some.inj (tParts.symm.trans ht)
 obtain ⟨xs,m,rfl,hx,hlen,hn3,hel⟩:=DataW.trod_array Tryd.underlying91 hd
 obtain ⟨l⟩:=cs
 rw [cells91] at hlen
 obtain ⟨c0,c1,c2,c3,c4,c5,rfl⟩:=list6 hlen
 obtain ⟨x0,x1,x2,rfl⟩:=list3 hn3
 have e0:=hel 0 (by decide)
 have e1:=hel 1 (by decide)
 have e2:=hel 2 (by decide)
 rw [cells90] at e0 e1 e2
 simp only [Prod.mk.injEq,List.map_cons,List.map_nil] at hx
 have e0':DataW.trod (funcToken Tryd.prog) Tryd.prog W 0 (fun _=>true) true m 90 [c0,c1]=some (x0.1,x0.2):=e0
 have e1':DataW.trod (funcToken Tryd.prog) Tryd.prog W 0 (fun _=>true) true m 90 [c2,c3]=some (x1.1,x1.2):=e1
 have e2':DataW.trod (funcToken Tryd.prog) Tryd.prog W 0 (fun _=>true) true m 90 [c4,c5]=some (x2.1,x2.2):=e2
 have hh:=hx.1
 simp only [DataW.funcsOut,DataW.funcsOutAll,DataW.agg.injEq,List.cons.injEq,and_true] at hh
 obtain ⟨h0,h1,h2⟩:=hh
 rw [<-h0] at e0'
 rw [<-h1] at e1'
 rw [<-h2] at e2'
 obtain ⟨⟨s0,rfl,hs0⟩,rfl⟩:=part_of (f0:=141) (by kernel_rfl) e0'
 obtain ⟨⟨s1,rfl,hs1⟩,rfl⟩:=part_of (f0:=142) (by kernel_rfl) e1'
 obtain ⟨⟨s2,rfl,hs2⟩,rfl⟩:=part_of (f0:=143) (by kernel_rfl) e2'
 have q0 : s0 = "boat".toUTF8 := str_of (hs0.trans (by kernel_rfl))
 have q1 : s1 = "nets".toUTF8 := str_of (hs1.trans (by kernel_rfl))
 have q2 : s2 = "crew".toUTF8 := str_of (hs2.trans (by kernel_rfl))
 subst q0 q1 q2
 intro g cells hgt
 unfold glTab at hgt
 split at hgt
 ·rename_i e
  simp only [Option.some.injEq] at hgt
  subst e hgt
  have hcell:=World.var?_cell gParts hv
  have hsz:0 < W.heap.size:=by
   have:=hcell 0
   unfold World.cell? at this
   cases hw:W.heap[0]? with
   | none=>rw [hw] at this; simp at this
   | some o=>exact (Array.getElem?_eq_some_iff.1 hw).1
  refine RepF.pt partsF 0 0 0 (fun j => (#[Value.string "boat".toUTF8, .func (.func 141) #[] #[], .string "nets".toUTF8, .func (.func 142) #[] #[], .string "crew".toUTF8, .func (.func 143) #[] #[]] : Array Value).getD j undef) hsz (fun j y hj => ?_) (fun j y hj => ?_)
  ·have:=hcell j
   rw [Nat.zero_add,this]
   match j,hj with
   | 0,_=>rfl
   | 1,_=>rfl
   | 2,_=>rfl
   | 3,_=>rfl
   | 4,_=>rfl
   | 5,_=>rfl
   | j+6,hj=>simp [partsF] at hj
  ·have hfn:∀ f:FuncId,RepF (fun b=>b < W.heap.size) W (.fn (.func f) [] []) (.func (.func f) #[] #[]):=fun f=>.fn _ _ _ _ _ rfl rfl (by simp) (by simp)
   match j,hj with
   | 0,hj=>cases hj; exact .str _
   | 1,hj=>cases hj; exact hfn _
   | 2,hj=>cases hj; exact .str _
   | 3,hj=>cases hj; exact hfn _
   | 4,hj=>cases hj; exact .str _
   | 5,hj=>cases hj; exact hfn _
   | j+6,hj=>simp [partsF] at hj
 ·cases hgt
def nBuckie:ByteArray:=⟨#[98,117,99,107,105,101]⟩
def nCullen:ByteArray:=⟨#[99,117,108,108,101,110]⟩
def nEye:ByteArray:=⟨#[101,121,101,109,111,117,116,104]⟩
def nSmith:ByteArray:=⟨#[115,109,105,116,104]⟩
def nWick:ByteArray:=⟨#[119,105,99,107]⟩
def nBoy:ByteArray:=⟨#[98,111,121]⟩
def nightV:Voy:=⟨1000,[40,19],3,3,2,[(nBuckie,5),(nCullen,3)],[(nBuckie,20),(nEye,10),(nSmith,0)],[(nSmith,10),(nWick,8),(nBoy,4)],[⟨nEye,nSmith,10,3⟩]⟩
def nightD:List Due:=[⟨nBoy,0,0,43⟩,⟨nBuckie,221,235,0⟩,⟨nCullen,132,0,0⟩,⟨nEye,0,44,0⟩,⟨nSmith,0,74,107⟩,⟨nWick,0,0,85⟩]
def balV:List Int:=[5,-3,-2,4,-4,0]
def abcS:List Stk:=[(⟨#[98]⟩,1),(⟨#[97]⟩,1),(⟨#[99]⟩,1)]
def payV:List Pay:=[⟨1,0,5⟩,⟨2,1,2⟩,⟨4,3,4⟩]
theorem ex_div:divideF 10 abcS=([3,4,3],0):=by kernel_rfl
theorem ex_check:checkF nightV=0:=by kernel_rfl
theorem ex_claims:allClaims nightV=[160,30,50]:=by kernel_rfl
theorem ex_parts:partsR nightV=[353,353,235]:=by kernel_rfl
theorem ex_shares:sharesF nightV=nightD:=by kernel_rfl
theorem ex_groups:(groupsF balV).1.length=2/\(groupsF balV).2=0:=⟨by kernel_rfl,by kernel_rfl⟩
theorem ex_clear:(clearF balV).1.length=3/\(clearF balV).2=0:=⟨by kernel_rfl,by kernel_rfl⟩
theorem ex_is:isClearF balV payV=(true,0):=by kernel_rfl
theorem ex_small:Small nightV:=by
 refine ⟨?_,?_,?_,?_,?_⟩<;>exact of_decide_eq_true (by kernel_rfl)
theorem v17 (ctx:Ctx) (hC:CtxOk (pg ctx)) (l m:List Int) (hl:l.length < 2^62) (hm:m.length < 2^62) (ro r2 c c2:Bool):Valid Tryd.prog 17 [(ro,.sl c 1 (ints l)),(r2,.sl c2 1 (ints m))] [.fv (.bool (decide (l=m)))]:=by
 refine valid_of_ev (G:=pg ctx) (tok ctx) hC mixed Tryd.func17 T17 L17 (by simp [Tryd.ntmps17]) ⟨_,rfl,?_⟩
 simp only [Tryd.ntmps17,Tryd.results17,initSt,initEnv]
 refine ev_seq (ev_reg (by simp; rfl) ?_)
 refine ev_seq (ev_seq (ev_reg (by simp; rfl) ?_))
 refine ev_cond rfl (fun hb=>?_) (fun hb=>?_)
 ·simp at hb
  refine ev_seq (ev_reg (by simp; rfl) ?_)
  refine ev_ret ?_
  have:l≠m:=fun e=>hb (by rw [e])
  simp [this]
 ·simp at hb
  refine ev_skip ?_
  refine ev_seq (ev_seq (ev_reg (by simp; rfl) ?_))
  refine ev_block ?_
  refine ev_loop (fun i:Nat=>({ env:=[(0,V.fv ro (FV.sl c 1 (ints l))),(1,V.fv r2 (FV.sl c2 1 (ints m))),(5,V.fv false (FV.int .i64 i))],blk:=[] }:St)) (fun i=>l.length-i) (fun i=>i<=l.length/\l.take i=m.take i) 0 rfl (by simp) (by simp [R]; omega) (fun i hi=>?_)
  obtain ⟨hi,hn⟩:=hi
  refine ev_seq (ev_seq (ev_reg (by simp; rfl) ?_))
  refine ev_cond rfl (fun hb2=>?_) (fun hb2=>?_)
  ·simp at hb2
   have hb3:i < m.length:=by omega
   refine ev_skip ?_
   refine ev_seq (ev_block ?_)
   refine ev_seq (ev_drw rfl (by kernel_rfl) (by kernel_rfl) (by simp [hb2,hb3]; rfl) ?_)
   refine ev_cond rfl (fun hb4=>?_) (fun hb4=>?_)
   ·simp at hb4
    refine ev_seq (ev_reg (by simp; rfl) ?_)
    refine ev_ret ?_
    have:l≠m:=fun e=>by subst e; exact hb4 rfl
    simp [this]
   ·simp at hb4
    refine ev_skip ?_
    refine ev_reg (by simp; rfl) ?_
    refine ⟨i+1,?_,⟨by omega,?_⟩,by omega⟩
    ·simp
     exact wrap_nat (n:=i+1) (by omega)
    ·rw [List.take_add_one,List.take_add_one,List.getElem?_eq_getElem hb2,List.getElem?_eq_getElem hb3,hn,hb4]
  ·simp at hb2
   refine ev_exit ?_
   refine ev_seq (ev_reg (by simp; rfl) ?_)
   refine ev_ret ?_
   have:l=m:=by
    rw [List.take_of_length_le hb2,List.take_of_length_le (by omega)] at hn
    exact hn
   simp [this]
def H17 (ctx:Ctx):Prop:=∀ (l m:List Int) (ro c r2 c2:Bool),l.length < 2^62->m.length < 2^62->ctx 17 [(ro,.sl c 1 (ints l)),(r2,.sl c2 1 (ints m))]=some [.fv (.bool (decide (l=m)))]
instance:DecidableEq Due:=fun x y=>decidable_of_iff (x.n=y.n/\x.b=y.b/\x.t=y.t/\x.c=y.c) (by
 cases x; cases y; simp)
theorem due_neq (x y:Due):fscals [.str,.int,.int,.int] [.str x.n,.int .i64 x.b,.int .i64 x.t,.int .i64 x.c] [.str y.n,.int .i64 y.b,.int .i64 y.t,.int .i64 y.c]=some (decide (x=y)):=by
 obtain ⟨n,b,t,c⟩:=x
 obtain ⟨n',b',t',c'⟩:=y
 simp only [fscals,fscal,if_true,Option.some.injEq,Due.mk.injEq]
 rw [Bool.eq_iff_iff]
 simp only [Bool.and_eq_true,decide_eq_true_eq,beq_iff_eq,bytes_eq]
 constructor
 ·rintro ⟨h1,h2,h3,h4,_⟩; exact ⟨h1,h2,h3,h4⟩
 ·rintro ⟨h1,h2,h3,h4⟩; exact ⟨h1,h2,h3,h4,trivial⟩
theorem v27 (ctx:Ctx) (hC:CtxOk (pg ctx)) (l m:List Due) (hl:l.length < 2^62) (hm:m.length < 2^62) (ro r2 c c2:Bool):Valid Tryd.prog 27 [(ro,.sl c 4 (duL l)),(r2,.sl c2 4 (duL m))] [.fv (.bool (decide (l=m)))]:=by
 refine valid_of_ev (G:=pg ctx) (tok ctx) hC mixed Tryd.func27 T27 L27 (by simp [Tryd.ntmps27]) ⟨_,rfl,?_⟩
 simp only [Tryd.ntmps27,Tryd.results27,initSt,initEnv]
 refine ev_seq (ev_reg (by simp; rfl) ?_)
 refine ev_seq (ev_seq (ev_reg (by simp; rfl) ?_))
 refine ev_cond rfl (fun hb=>?_) (fun hb=>?_)
 ·simp at hb
  refine ev_seq (ev_reg (by simp; rfl) ?_)
  refine ev_ret ?_
  have:l≠m:=fun e=>hb (by rw [e])
  simp [this]
 ·simp at hb
  refine ev_skip ?_
  refine ev_seq (ev_seq (ev_reg (by simp; rfl) ?_))
  refine ev_block ?_
  refine ev_loop (fun i:Nat=>({ env:=[(0,V.fv ro (FV.sl c 4 (duL l))),(1,V.fv r2 (FV.sl c2 4 (duL m))),(5,V.fv false (FV.int .i64 i))],blk:=[] }:St)) (fun i=>l.length-i) (fun i=>i<=l.length/\l.take i=m.take i) 0 rfl (by simp) (by simp [R]; omega) (fun i hi=>?_)
  obtain ⟨hi,hn⟩:=hi
  refine ev_seq (ev_seq (ev_reg (by simp; rfl) ?_))
  refine ev_cond rfl (fun hb2=>?_) (fun hb2=>?_)
  ·simp at hb2
   have hb3:i < m.length:=by omega
   refine ev_skip ?_
   refine ev_seq (ev_block ?_)
   refine ev_seq (ev_drw rfl (by kernel_rfl) (by kernel_rfl) (by simp [hb2,hb3,due_neq,duF]; rfl) ?_)
   refine ev_cond rfl (fun hb4=>?_) (fun hb4=>?_)
   ·simp at hb4
    refine ev_seq (ev_reg (by simp; rfl) ?_)
    refine ev_ret ?_
    have:l≠m:=fun e=>by subst e; exact hb4 rfl
    simp [this]
   ·simp at hb4
    refine ev_skip ?_
    refine ev_reg (by simp; rfl) ?_
    refine ⟨i+1,?_,⟨by omega,?_⟩,by omega⟩
    ·simp
     exact wrap_nat (n:=i+1) (by omega)
    ·rw [List.take_add_one,List.take_add_one,List.getElem?_eq_getElem hb2,List.getElem?_eq_getElem hb3,hn,hb4]
  ·simp at hb2
   refine ev_exit ?_
   refine ev_seq (ev_reg (by simp; rfl) ?_)
   refine ev_ret ?_
   have:l=m:=by
    rw [List.take_of_length_le hb2,List.take_of_length_le (by omega)] at hn
    exact hn
   simp [this]
def H27 (ctx:Ctx):Prop:=∀ (l m:List Due) (ro c r2 c2:Bool),l.length < 2^62->m.length < 2^62->ctx 27 [(ro,.sl c 4 (duL l)),(r2,.sl c2 4 (duL m))]=some [.fv (.bool (decide (l=m)))]
theorem v44 (ctx:Ctx) (hC:CtxOk (pg ctx)):Valid Tryd.prog 44 [] [.fv (voyF nightV)]:=by
 refine valid_of_ev (G:=pg ctx) (tok ctx) hC mixed Tryd.func44 T44 L44 (by simp [Tryd.ntmps44]) ⟨_,rfl,?_⟩
 simp only [Tryd.ntmps44,Tryd.results44,initSt,initEnv]
 refine ev_seq (ev_reg (by simp; rfl) ?_)
 refine ev_seq (ev_reg (by simp; rfl) ?_)
 refine ev_ret ?_
 simp [voyF,voyC,nightV,ints,stL,stF,loL,loF,nBoy,nBuckie,nCullen,nEye,nSmith,nWick]
def H44 (ctx:Ctx):Prop:=ctx 44 []=some [.fv (voyF nightV)]
theorem v45 (ctx:Ctx) (hC:CtxOk (pg ctx)):Valid Tryd.prog 45 [] [.us 1 (ints balV)]:=by
 refine valid_of_ev (G:=pg ctx) (tok ctx) hC mixed Tryd.func45 T45 L45 (by simp [Tryd.ntmps45]) ⟨_,rfl,?_⟩
 simp only [Tryd.ntmps45,Tryd.results45,initSt,initEnv]
 refine ev_seq (ev_reg (by simp; rfl) ?_)
 refine ev_seq (ev_reg (by simp; rfl) ?_)
 refine ev_ret ?_
 simp [balV,ints]
def H45 (ctx:Ctx):Prop:=ctx 45 []=some [.us 1 (ints balV)]
theorem v54 (ctx:Ctx) (hC:CtxOk (pg ctx)):Valid Tryd.prog 54 [] [.us 4 (duL nightD)]:=by
 refine valid_of_ev (G:=pg ctx) (tok ctx) hC mixed Tryd.func54 T54 L54 (by simp [Tryd.ntmps54]) ⟨_,rfl,?_⟩
 simp only [Tryd.ntmps54,Tryd.results54,initSt,initEnv]
 refine ev_seq (ev_reg (by simp; rfl) ?_)
 refine ev_seq (ev_reg (by simp; rfl) ?_)
 refine ev_ret ?_
 simp [nightD,duL,duF,nBoy,nBuckie,nCullen,nEye,nSmith,nWick]
def H54 (ctx:Ctx):Prop:=ctx 54 []=some [.us 4 (duL nightD)]
set_option maxRecDepth 20000 in
theorem v18 (ctx:Ctx) (hC:CtxOk (pg ctx)) (h15:H15 ctx) (h17:H17 ctx) (h19:H19 ctx) (h23:H23 ctx) (h25:H25 ctx) (h27:H27 ctx) (h37:H37 ctx) (h41:H41 ctx) (h42:H42 ctx) (h44:H44 ctx) (h45:H45 ctx) (h54:H54 ctx):Valid Tryd.prog 18 [] [.fv (.bool true)]:=by
 refine valid_of_ev (G:=pg ctx) (tok ctx) hC mixed Tryd.func18 T18 L18 (by simp [Tryd.ntmps18]) ⟨_,rfl,?_⟩
 simp only [Tryd.ntmps18,Tryd.results18,initSt,initEnv]
 have hr3:List.range 3=[0,1,2]:=rfl
 have e15:=fun r0 ro c=>h15 10 abcS r0 ro c (by decide)
 have e19:=h19 nightV ex_small
 have e23:=h23 nightV ex_small
 have e25:=h25 nightV ex_small
 have e37:=fun r c=>h37 balV r c (by decide)
 have e41:=fun r c=>h41 balV r c (by decide)
 have e42:=fun r0 r1 c0 c1=>h42 balV payV r0 r1 c0 c1 (by decide) (by decide)
 have e17a:=fun r c r2 c2=>h17 [3,4,3] [3,4,3] r c r2 c2 (by decide) (by decide)
 have e17b:=fun r c r2 c2=>h17 [160,30,50] [160,30,50] r c r2 c2 (by decide) (by decide)
 have e27:=fun r c r2 c2=>h27 nightD nightD r c r2 c2 (by decide) (by decide)
 have e44:ctx 44 []=some [.fv (voyF nightV)]:=h44
 have e45:ctx 45 []=some [.us 1 (ints balV)]:=h45
 have e54:ctx 54 []=some [.us 4 (duL nightD)]:=h54
 rw [ex_claims,ex_check] at e19
 rw [ex_parts,ex_check] at e23
 rw [ex_shares,ex_check] at e25
 simp only [ex_div] at e15
 simp only [ex_is] at e42
 obtain ⟨g1,g2⟩:=ex_groups
 obtain ⟨c1,c2⟩:=ex_clear
 rw [g2] at e37
 rw [c2] at e41
 have g1:(grL (groupsF balV).1).length=2:=by simp [g1]
 have c1:(paL (clearF balV).1).length=3:=by simp [c1]
 generalize grL (groupsF balV).1=gs at g1 e37
 generalize paL (clearF balV).1=ps at c1 e41
 generalize duL nightD=nd at e25 e27 e54
 generalize voyF nightV=vv at e19 e23 e25 e44
 generalize hbb:ints balV=bb at e37 e41 e42 e45
 simp only [abcS,stL,stF,List.map_cons,List.map_nil,ints_cons,ints_nil] at e15
 simp only [payV,paL,paF,List.map_cons,List.map_nil] at e42
 simp [ints] at e17a e17b e27 e19 e23
 refine ev_seq (ev_reg (by simp; rfl) ?_)
 refine ev_seq (ev_reg (by simp [e15,hr3]; rfl) ?_)
 refine ev_seq (ev_reg (by simp [e44,e19]; rfl) ?_)
 refine ev_seq (ev_reg (by simp [e44,e23]; rfl) ?_)
 refine ev_seq (ev_reg (by simp [e44,e25]; rfl) ?_)
 refine ev_seq (ev_seq (ev_reg (by simp [e17a,e17b,e54,e27,hr3]; rfl) ?_))
 refine ev_cond rfl (fun hb=>?_) (fun hb=>?_)
 ·simp at hb
 ·refine ev_skip ?_
  refine ev_seq (ev_reg (by simp [e45,e37]; rfl) ?_)
  refine ev_seq (ev_reg (by simp [e45,e41]; rfl) ?_)
  refine ev_seq (ev_reg (by simp [e45,e42,hr3]; rfl) ?_)
  refine ev_seq (ev_reg (by simp [g1,c1]; rfl) ?_)
  refine ev_ret ?_
  simp
def H18 (ctx:Ctx):Prop:=ctx 18 []=some [.fv (.bool true)]
end Go.Proofs.YtejodhjhddnbeaaDoor.E
