/-
  The chapter of the share: its functions, and what they compute. Conditions: none.
-/
import Derived.Test.YtejodhjhddnbeaaDoorZ24
import Derived.Test.YtejodhjhddnbeaaDoorZ23
set_option linter.unusedVariables false
set_option linter.unusedSimpArgs false
namespace Go.Proofs.YtejodhjhddnbeaaDoor.E
open Go Go.RowKit
theorem v29 (ctx:Ctx) (hC:CtxOk (pg ctx)) (a b c:Int) (r1 r2 r3:Bool):Valid Tryd.prog 29 [(r1,.int .i64 a),(r2,.int .i64 b),(r3,.int .i64 c)] [.fv (.bool (decide (b<=a)&&decide (a<=c)))]:=by
 refine valid_of_ev (G:=pg ctx) (tok ctx) hC mixed Tryd.func29 T29 L29 (by simp [Tryd.ntmps29]) ⟨_,rfl,?_⟩
 simp only [Tryd.ntmps29,Tryd.results29,initSt,initEnv]
 refine ev_seq (ev_reg (by simp; rfl) ?_)
 by_cases h:b<=a
 ·refine ev_seq (ev_reg (by simp [h]; rfl) ?_)
  refine ev_ret ?_
  simp [h]
 ·refine ev_seq (ev_reg (by simp [h,unsetS]; rfl) ?_)
  refine ev_ret ?_
  simp [h]
def H29 (ctx:Ctx):Prop:=∀ (a b c:Int) (r1 r2 r3:Bool),ctx 29 [(r1,.int .i64 a),(r2,.int .i64 b),(r3,.int .i64 c)]=some [.fv (.bool (decide (b<=a)&&decide (a<=c)))]
theorem v34 (ctx:Ctx) (hC:CtxOk (pg ctx)) (l:List Int) (ro:Bool) (c:Bool) (hl:l.length < 2^62):Valid Tryd.prog 34 [(ro,.sl c 1 (ints l))] [.fv (.int .i64 (sumI l))]:=by
 refine valid_of_ev (G:=pg ctx) (tok ctx) hC mixed Tryd.func34 T34 L34 (by simp [Tryd.ntmps34]) ⟨_,rfl,?_⟩
 simp only [Tryd.ntmps34,Tryd.results34,initSt,initEnv]
 refine ev_seq (ev_reg (by simp; rfl) ?_)
 refine ev_seq (ev_reg (by simp; rfl) ?_)
 refine ev_seq (ev_seq (ev_reg (by simp; rfl) ?_))
 refine ev_block ?_
 refine ev_loop (fun i:Nat=>({ env:=[(0,V.fv ro (FV.sl c 1 (ints l))),(3,V.fv false (FV.int .i64 (sumI (l.take i)))),(4,V.fv false (FV.int .i64 i))],blk:=[] }:St)) (fun i=>l.length-i) (fun i=>i<=l.length) 0 rfl (by simp) (by simp [R]; omega) (fun i hi=>?_)
 refine ev_seq (ev_seq (ev_reg (by simp; rfl) ?_))
 refine ev_cond rfl (fun hb=>?_) (fun hb=>?_)
 ·simp at hb
  refine ev_skip ?_
  refine ev_seq (ev_block ?_)
  refine ev_reg (by simp [hb]; rfl) ?_
  refine ev_reg (by simp; rfl) ?_
  refine ⟨i+1,?_,by omega,by omega⟩
  simp [sumI_take l i hb]
  exact wrap_nat (n:=i+1) (by omega)
 ·simp at hb
  refine ev_exit ?_
  refine ev_seq (ev_reg (by simp; rfl) ?_)
  refine ev_ret ?_
  simp [List.take_of_length_le hb]
def H34 (ctx:Ctx):Prop:=∀ (l:List Int) (ro c:Bool),l.length < 2^62->ctx 34 [(ro,.sl c 1 (ints l))]=some [.fv (.int .i64 (sumI l))]
def modI (n d:Int):Int:=if n.tmod d < 0 then IntKind.i64.wrap (n.tmod d+d) else n.tmod d
theorem v32 (ctx:Ctx) (hC:CtxOk (pg ctx)) (n d:Int) (hd:d≠0) (r1 r2:Bool):Valid Tryd.prog 32 [(r1,.int .i64 n),(r2,.int .i64 d)] [.fv (.int .i64 (modI n d))]:=by
 refine valid_of_ev (G:=pg ctx) (tok ctx) hC mixed Tryd.func32 T32 L32 (by simp [Tryd.ntmps32]) ⟨_,rfl,?_⟩
 simp only [Tryd.ntmps32,Tryd.results32,initSt,initEnv]
 refine ev_seq (ev_reg (by simp; rfl) ?_)
 refine ev_seq (ev_reg (by simp [hd]; rfl) ?_)
 refine ev_seq (ev_seq (ev_reg (by simp; rfl) ?_))
 refine ev_cond rfl (fun hb=>?_) (fun hb=>?_)
 ·simp at hb
  refine ev_reg (by simp; rfl) ?_
  refine ev_seq (ev_reg (by simp; rfl) ?_)
  refine ev_ret ?_
  simp [modI,hb]
 ·simp at hb
  refine ev_skip ?_
  refine ev_seq (ev_reg (by simp; rfl) ?_)
  refine ev_ret ?_
  simp [modI,Int.not_lt.2 hb]
def H32 (ctx:Ctx):Prop:=∀ (n d:Int) (r1 r2:Bool),d≠0->ctx 32 [(r1,.int .i64 n),(r2,.int .i64 d)]=some [.fv (.int .i64 (modI n d))]
theorem v31 (ctx:Ctx) (hC:CtxOk (pg ctx)) (l:List Stk) (ro:Bool) (c:Bool) (hl:l.length < 2^44):Valid Tryd.prog 31 [(ro,.sl c 2 (stL l))] [.us 1 (ints (wts l))]:=by
 refine valid_of_ev (G:=pg ctx) (tok ctx) hC mixed Tryd.func31 T31 L31 (by simp [Tryd.ntmps31]) ⟨_,rfl,?_⟩
 simp only [Tryd.ntmps31,Tryd.results31,initSt,initEnv]
 refine ev_seq (ev_reg (by simp; rfl) ?_)
 refine ev_seq (ev_reg (by simp; rfl) ?_)
 refine ev_seq (ev_seq (ev_reg (by simp; rfl) ?_))
 refine ev_block ?_
 refine ev_loop (fun i:Nat=>({ env:=[(0,V.fv ro (FV.sl c 2 (stL l))),(3,V.own 3 0 (wts (l.take i)).length),(4,V.fv false (FV.int .i64 i))],blk:=[(3,.arr 1 (ints (wts (l.take i))))] }:St)) (fun i=>l.length-i) (fun i=>i<=l.length) 0 (by simp [wts,ints]) (by simp) (by simp [R]; omega) (fun i hi=>?_)
 have hmin:min i l.length=i:=by omega
 refine ev_seq (ev_seq (ev_reg (by simp; rfl) ?_))
 refine ev_cond rfl (fun hb=>?_) (fun hb=>?_)
 ·simp at hb
  refine ev_skip ?_
  have hbd:(i+1)*8<=140737488355328:=by omega
  refine ev_seq (ev_block ?_)
  refine ev_reg (by simp [hb,hmin,hbd]; rfl) ?_
  refine ev_reg (by simp; rfl) ?_
  refine ⟨i+1,?_,by omega,by omega⟩
  simp [wts_take l i hb,hmin]
  exact wrap_nat (n:=i+1) (by omega)
 ·simp at hb
  refine ev_exit ?_
  obtain rfl:i=l.length:=by omega
  refine ev_seq (ev_reg (by simp; rfl) ?_)
  refine ev_ret ?_
  simp
def H31 (ctx:Ctx):Prop:=∀ (l:List Stk) (ro c:Bool),l.length < 2^44->ctx 31 [(ro,.sl c 2 (stL l))]=some [.us 1 (ints (wts l))]
def wOk (x:Stk):Bool:=decide (0<=x.2)&&decide (x.2<=1000)
def smTo (l:List Stk) (i:Nat):Bool:=decide (l.length<=10)&&(l.take i).all wOk
theorem smTo_succ (l:List Stk) (i:Nat) (h:i < l.length):smTo l (i+1)=(smTo l i&&wOk l[i]):=by
 simp only [smTo,List.take_add_one,List.getElem?_eq_getElem h,Option.toList_some,List.all_append,List.all_cons,List.all_nil,Bool.and_true,Bool.and_assoc]
theorem smTo_false {l:List Stk} {i:Nat} (h:smTo l i=false):smTo l l.length=false:=by
 unfold smTo at h ⊢
 rw [Bool.and_eq_false_iff] at h ⊢
 refine h.imp id fun h=>?_
 rw [List.take_length]
 rw [List.all_eq_false] at h ⊢
 obtain ⟨x,hx,h⟩:=h
 exact ⟨x,List.mem_of_mem_take hx,h⟩
def smallS (l:List Stk):Bool:=smTo l l.length
theorem v28 (ctx:Ctx) (hC:CtxOk (pg ctx)) (h29:H29 ctx) (l:List Stk) (ro c:Bool) (hl:l.length < 2^44):Valid Tryd.prog 28 [(ro,.sl c 2 (stL l))] [.fv (.bool (smallS l))]:=by
 refine valid_of_ev (G:=pg ctx) (tok ctx) hC mixed Tryd.func28 T28 L28 (by simp [Tryd.ntmps28]) ⟨_,rfl,?_⟩
 simp only [Tryd.ntmps28,Tryd.results28,initSt,initEnv]
 refine ev_seq (ev_reg (by simp; rfl) ?_)
 refine ev_seq (ev_reg (by simp; rfl) ?_)
 refine ev_seq (ev_seq (ev_reg (by simp; rfl) ?_))
 refine ev_block ?_
 refine ev_loop (fun i:Nat=>({ env:=[(0,V.fv ro (.sl c 2 (stL l))),(3,.fv false (.bool (smTo l i))),(4,.fv false (.int .i64 i))],blk:=[] }:St)) (fun i=>l.length-i) (fun i=>i<=l.length) 0 (by simp [smTo]; omega) (by simp) (by simp [R]; omega) (fun i hi=>?_)
 cases h0:smTo l i with
 | false =>
  have hf:smallS l=false:=smTo_false h0
  refine ev_seq (ev_seq (ev_reg (by simp [unsetS]; rfl) ?_))
  refine ev_cond rfl (fun hb=>?_) (fun hb=>?_)
  ·simp at hb
  ·refine ev_exit ?_
   refine ev_seq (ev_reg (by simp; rfl) ?_)
   refine ev_ret ?_
   simp [hf]
 | true =>
  refine ev_seq (ev_seq (ev_reg (by simp; rfl) ?_))
  refine ev_cond rfl (fun hb=>?_) (fun hb=>?_)
  ·simp at hb
   have hs:=smTo_succ l i hb
   rw [h0] at hs
   have e29:ctx 29 [(false,.int .i64 l[i].2),(false,.int .i64 0),(false,.int .i64 1000)]=some [.fv (.bool (wOk l[i]))]:=h29 _ _ _ _ _ _
   refine ev_skip ?_
   refine ev_seq (ev_block ?_)
   refine ev_reg (by simp [hb,e29]; rfl) ?_
   refine ev_reg (by simp; rfl) ?_
   refine ⟨i+1,?_,by omega,by omega⟩
   simp [hs]
   exact wrap_nat (n:=i+1) (by omega)
  ·simp at hb
   obtain rfl:i=l.length:=by omega
   have hf:smallS l=true:=h0
   refine ev_exit ?_
   refine ev_seq (ev_reg (by simp; rfl) ?_)
   refine ev_ret ?_
   simp [hf]
def H28 (ctx:Ctx):Prop:=∀ (l:List Stk) (ro c:Bool),l.length < 2^44->ctx 28 [(ro,.sl c 2 (stL l))]=some [.fv (.bool (smallS l))]
theorem balTo_false {l:List Int} {i:Nat} (h:balTo l i=false):balTo l l.length=false:=by
 unfold balTo at h ⊢
 rw [Bool.and_eq_false_iff] at h ⊢
 refine h.imp id fun h=>?_
 rw [List.take_length]
 rw [List.all_eq_false] at h ⊢
 obtain ⟨x,hx,h⟩:=h
 exact ⟨x,List.mem_of_mem_take hx,h⟩
theorem v38 (ctx:Ctx) (hC:CtxOk (pg ctx)) (h29:H29 ctx) (h34:H34 ctx) (l:List Int) (ro c:Bool) (hl:l.length < 2^44):Valid Tryd.prog 38 [(ro,.sl c 1 (ints l))] [.fv (.bool (balances l))]:=by
 refine valid_of_ev (G:=pg ctx) (tok ctx) hC mixed Tryd.func38 T38 L38 (by simp [Tryd.ntmps38]) ⟨_,rfl,?_⟩
 simp only [Tryd.ntmps38,Tryd.results38,initSt,initEnv]
 refine ev_seq (ev_reg (by simp; rfl) ?_)
 refine ev_seq (ev_reg (by simp; rfl) ?_)
 refine ev_seq (ev_seq (ev_reg (by simp; rfl) ?_))
 refine ev_block ?_
 refine ev_loop (fun i:Nat=>({ env:=[(0,V.fv ro (.sl c 1 (ints l))),(3,.fv false (.bool (balTo l i))),(4,.fv false (.int .i64 i))],blk:=[] }:St)) (fun i=>l.length-i) (fun i=>i<=l.length) 0 (by simp [balTo]; omega) (by simp) (by simp [R]; omega) (fun i hi=>?_)
 have hbl:balances l=(balTo l l.length&&(sumI l==0)):=rfl
 cases h0:balTo l i with
 | false =>
  have hf:balances l=false:=by rw [hbl,balTo_false h0]; rfl
  refine ev_seq (ev_seq (ev_reg (by simp [unsetS]; rfl) ?_))
  refine ev_cond rfl (fun hb=>?_) (fun hb=>?_)
  ·simp at hb
  ·refine ev_exit ?_
   refine ev_seq (ev_reg (by simp [unsetS]; rfl) ?_)
   refine ev_ret ?_
   simp [hf]
 | true =>
  refine ev_seq (ev_seq (ev_reg (by simp; rfl) ?_))
  refine ev_cond rfl (fun hb=>?_) (fun hb=>?_)
  ·simp at hb
   have hs:=balTo_succ l i hb
   rw [h0] at hs
   have e29:ctx 29 [(false,.int .i64 l[i]),(false,.int .i64 (-1000000)),(false,.int .i64 1000000)]=some [.fv (.bool (balOk l[i]))]:=h29 _ _ _ _ _ _
   refine ev_skip ?_
   refine ev_seq (ev_block ?_)
   refine ev_reg (by simp [hb,e29]; rfl) ?_
   refine ev_reg (by simp; rfl) ?_
   refine ⟨i+1,?_,by omega,by omega⟩
   simp [hs]
   exact wrap_nat (n:=i+1) (by omega)
  ·simp at hb
   obtain rfl:i=l.length:=by omega
   have hf:balances l=(sumI l==0):=by rw [hbl,h0]; rfl
   have e34:ctx 34 [(ro,.sl c 1 (ints l))]=some [.fv (.int .i64 (sumI l))]:=h34 _ _ _ (by omega)
   refine ev_exit ?_
   refine ev_seq (ev_reg (by simp [e34]; rfl) ?_)
   refine ev_ret ?_
   simp [hf]
theorem small_of {l:List Stk} (h:stakesOk l=true):smallS l=true:=by
 unfold smallS smTo
 have h1:=stakes_len h
 rw [List.take_length]
 simp only [Bool.and_eq_true,decide_eq_true_eq,List.all_eq_true,wOk]
 exact ⟨h1,fun x hx=>(stakes_mem h hx).2⟩
theorem loans_le {v:Voy} {c:List Int} (h:claimsF v=some c):v.loans.length<=12:=by
 unfold claimsF at h
 split at h
 ·cases h
 ·omega
theorem v33 (ctx:Ctx) (hC:CtxOk (pg ctx)) (h21:H21 ctx) (h28:H28 ctx) (h29:H29 ctx) (v:Voy) (hv:Small v):Valid Tryd.prog 33 [(false,voyF v)] [.fv (.bool (decide (checkF v=0)))]:=by
 refine valid_of_ev (G:=pg ctx) (tok ctx) hC mixed Tryd.func33 T33 L33 (by simp [Tryd.ntmps33]) ⟨_,rfl,?_⟩
 simp only [Tryd.ntmps33,Tryd.results33,initSt,initEnv,voyF,voyC]
 have e21:=h21 v hv
 simp only [voyF,voyC] at e21
 refine ev_seq (ev_reg (by simp; rfl) ?_)
 by_cases hb:checkF v=0
 ·obtain ⟨hvo,c,hc⟩:=check_ok hb
  have hl:=loans_le hc
  have hg:=hvo.g
  have hcl:=hvo.cl
  have e29:ctx 29 [(false,.int .i64 v.gross),(false,.int .i64 0),(false,.int .i64 10000000)]=some [.fv (.bool true)]:=by
   rw [h29]; simp [hg]
  have e28a:∀ r c,ctx 28 [(r,.sl c 2 (stL v.own))]=some [.fv (.bool true)]:=fun r c=>by rw [h28 _ _ _ hv.2.1,show smallS v.own=true from small_of (hvo.st 0 (by omega))]
  have e28b:∀ r c,ctx 28 [(r,.sl c 2 (stL v.lend))]=some [.fv (.bool true)]:=fun r c=>by rw [h28 _ _ _ hv.2.2.1,show smallS v.lend=true from small_of (hvo.st 1 (by omega))]
  have e28c:∀ r c,ctx 28 [(r,.sl c 2 (stL v.hand))]=some [.fv (.bool true)]:=fun r c=>by rw [h28 _ _ _ hv.2.2.2.1,show smallS v.hand=true from small_of (hvo.st 2 (by omega))]
  have hl2:(v.loans.length:Int)<=12:=by omega
  have hcl2:(v.costs.length:Int)<=10:=by omega
  refine ev_seq (ev_reg (by simp [e21,hb,e29,e28a,e28b,e28c,hcl,hl,hl2,hcl2]; rfl) ?_)
  refine ev_ret ?_
  simp [hb]
 ·have hb2:(checkF v==0)=false:=by simp [hb]
  refine ev_seq (ev_reg (by simp [e21,hb2,hb,unsetS]; rfl) ?_)
  refine ev_ret ?_
  simp [hb]
def H33 (ctx:Ctx):Prop:=∀ v:Voy,Small v->ctx 33 [(false,voyF v)]=some [.fv (.bool (decide (checkF v=0)))]
theorem cel49:Tryd.prog.cellsOf 49=2:=by kernel_rfl
theorem byt49:Tryd.prog.bytesOf 49=24:=by kernel_rfl
theorem cel59:Tryd.prog.cellsOf 59=4:=by kernel_rfl
theorem byt59:Tryd.prog.bytesOf 59=48:=by kernel_rfl
theorem cel3:Tryd.prog.cellsOf 3=1:=by kernel_rfl
theorem byt3:Tryd.prog.bytesOf 3=8:=by kernel_rfl
theorem st49:isStruct Tryd.prog 49=true:=by kernel_rfl
theorem st59:isStruct Tryd.prog 59=true:=by kernel_rfl
theorem st32:isStruct Tryd.prog 32=true:=by kernel_rfl
theorem st56:isStruct Tryd.prog 56=true:=by kernel_rfl
theorem isI {n:Nat} {fs:List FV} (h:IsT Tryd.prog (n+1) 3 fs):∃ m,fs=[.int .i64 m]:=IsT_int Tryd.underlying3 h
theorem isS {n:Nat} {fs:List FV} (h:IsT Tryd.prog (n+1) 9 fs):∃ s,fs=[.str s]:=by
 obtain ⟨s,h1,_⟩:=IsT_str Tryd.underlying9 h
 exact ⟨s,h1⟩
theorem isL {n:Nat} {fs:List FV} (h:IsT Tryd.prog (n+2) 23 fs):∃ l:List Int,fs=[.sl false 1 (ints l)]/\l.length < 2^44:=by
 obtain ⟨xs,rfl,hl,hx⟩:=IsT_list Tryd.underlying23 h
 rw [cel3]
 rw [byt3,reachBytes] at hl
 have hx':∀ x∈xs,∃ m,x = .int .i64 m:=fun x hm=>by
  rcases hx x hm with ⟨h1,_⟩ | ⟨_,h1⟩
  ·exact absurd (show isStruct Tryd.prog 3=false by kernel_rfl) (by rw [h1]; simp)
  ·obtain ⟨m,hm⟩:=isI h1
   exact ⟨m,by simpa using hm⟩
 have key:∀ xs:List FV,(∀ x∈xs,∃ m,x=FV.int .i64 m)->∃ l,xs=ints l:=by
  intro xs
  induction xs with
  | nil=>intro _; exact ⟨[],rfl⟩
  | cons x r ih =>
   intro h
   obtain ⟨l,hl⟩:=ih fun y hy=>h y (List.mem_cons_of_mem _ hy)
   obtain ⟨m,hm⟩:=h x List.mem_cons_self
   exact ⟨m :: l,by rw [hm,hl]; rfl⟩
 obtain ⟨l,rfl⟩:=key xs hx'
 refine ⟨l,rfl,?_⟩
 rw [ints_length] at hl
 omega
theorem isStk {n:Nat} {fs:List FV} (h:IsT Tryd.prog (n+2) 49 fs):∃ p:Stk,.agg fs=stF p:=by
 obtain ⟨g0,g1,rfl,h0,h1⟩:=IsT_pair Tryd.underlying49 h
 obtain ⟨s,rfl⟩:=isS h0
 obtain ⟨m,rfl⟩:=isI h1
 exact ⟨(s,m),rfl⟩
theorem list_of {α:Type} {F:α->FV}:∀ {xs:List FV},(∀ x∈xs,∃ a,x=F a)->∃ l:List α,xs=l.map F
 | [],_=>⟨[],rfl⟩
 | x :: r,h=>by
  obtain ⟨l,hl⟩:=list_of fun y hy=>h y (List.mem_cons_of_mem _ hy)
  obtain ⟨a,ha⟩:=h x List.mem_cons_self
  exact ⟨a :: l,by rw [ha,hl]; rfl⟩
theorem isStks {n:Nat} {fs:List FV} (h:IsT Tryd.prog (n+3) 22 fs):∃ l:List Stk,fs=[.sl false 2 (stL l)]/\l.length < 2^44:=by
 obtain ⟨xs,rfl,hl,hx⟩:=IsT_list Tryd.underlying22 h
 rw [cel49]
 rw [byt49,reachBytes] at hl
 obtain ⟨l,rfl⟩:=list_of (F:=stF) fun x hm=>by
  rcases hx x hm with ⟨_,gs,rfl,h1⟩ | ⟨h1,_⟩
  ·exact isStk h1
  ·rw [st49] at h1; cases h1
 refine ⟨l,rfl,?_⟩
 rw [List.length_map] at hl
 omega
theorem isLoan {n:Nat} {fs:List FV} (h:IsT Tryd.prog (n+2) 59 fs):∃ x:Loan,.agg fs=loF x:=by
 obtain ⟨gss,hl,rfl,hf⟩:=IsT_fields Tryd.underlying59 h
 match gss,hl with
 | [g0,g1,g2,g3],_ =>
  obtain ⟨a,rfl⟩:=isS (hf 0 _ _ rfl rfl)
  obtain ⟨b,rfl⟩:=isS (hf 1 _ _ rfl rfl)
  obtain ⟨c,rfl⟩:=isI (hf 2 _ _ rfl rfl)
  obtain ⟨d,rfl⟩:=isI (hf 3 _ _ rfl rfl)
  exact ⟨⟨a,b,c,d⟩,rfl⟩
theorem isLoans {n:Nat} {fs:List FV} (h:IsT Tryd.prog (n+3) 30 fs):∃ l:List Loan,fs=[.sl false 4 (loL l)]/\l.length < 2^44:=by
 obtain ⟨xs,rfl,hl,hx⟩:=IsT_list Tryd.underlying30 h
 rw [cel59]
 rw [byt59,reachBytes] at hl
 obtain ⟨l,rfl⟩:=list_of (F:=loF) fun x hm=>by
  rcases hx x hm with ⟨_,gs,rfl,h1⟩ | ⟨h1,_⟩
  ·exact isLoan h1
  ·rw [st59] at h1; cases h1
 refine ⟨l,rfl,?_⟩
 rw [List.length_map] at hl
 omega
theorem list9 {α:Type} {l:List α} (h:l.length=9):∃ a b c d e f g i j,l=[a,b,c,d,e,f,g,i,j]:=by
 match l,h with
 | [a,b,c,d,e,f,g,i,j],_=>exact ⟨a,b,c,d,e,f,g,i,j,rfl⟩
theorem IsT_types {n t:Nat} {fl:Array Field} {fs:List FV} (ht:Tryd.prog.underlying t=some (.struct fl)) (h:IsT Tryd.prog (n+1) t fs) {ts:List TypeId} (hts:fl.toList.map (·.type)=ts):∃ gss:List (List FV),gss.length=ts.length/\fs=gss.flatten/\∀ (i:Nat) (u:TypeId) (g:List FV),ts[i]? = some u->gss[i]? = some g->IsT Tryd.prog n u g:=by
 obtain ⟨gss,hl,e,hf⟩:=IsT_fields ht h
 subst hts
 refine ⟨gss,by simpa using hl,e,fun i u g h1 h2=>?_⟩
 rw [List.getElem?_map] at h1
 cases hi:fl.toList[i]? with
 | none=>rw [hi] at h1; cases h1
 | some f =>
  rw [hi] at h1
  simp only [Option.map_some,Option.some.injEq] at h1
  subst h1
  exact hf i f g hi h2
theorem isVoy {n:Nat} {fs:List FV} (h:IsT Tryd.prog (n+4) 32 fs):∃ v:Voy,argFV Tryd.prog 32 fs=voyF v/\Small v:=by
 rw [argFV_struct st32]
 obtain ⟨gss,hl,rfl,hf⟩:=IsT_types Tryd.underlying32 h (ts:=[3,23,3,3,3,22,22,22,30]) rfl
 obtain ⟨g0,g1,g2,g3,g4,g5,g6,g7,g8,rfl⟩:=list9 hl
 have h0:=hf 0 3 g0 rfl rfl
 have h1:=hf 1 23 g1 rfl rfl
 have h2:=hf 2 3 g2 rfl rfl
 have h3:=hf 3 3 g3 rfl rfl
 have h4:=hf 4 3 g4 rfl rfl
 have h5:=hf 5 22 g5 rfl rfl
 have h6:=hf 6 22 g6 rfl rfl
 have h7:=hf 7 22 g7 rfl rfl
 have h8:=hf 8 30 g8 rfl rfl
 clear hf hl h
 obtain ⟨a,e0⟩:=isI (n:=n+2) h0
 obtain ⟨c,e1,hc⟩:=isL (n:=n+1) h1
 obtain ⟨b1,e2⟩:=isI (n:=n+2) h2
 obtain ⟨b2,e3⟩:=isI (n:=n+2) h3
 obtain ⟨b3,e4⟩:=isI (n:=n+2) h4
 obtain ⟨l1,e5,k1⟩:=isStks (n:=n) h5
 obtain ⟨l2,e6,k2⟩:=isStks (n:=n) h6
 obtain ⟨l3,e7,k3⟩:=isStks (n:=n) h7
 obtain ⟨l4,e8,k4⟩:=isLoans (n:=n) h8
 refine ⟨⟨a,c,b1,b2,b3,l1,l2,l3,l4⟩,?_,hc,k1,k2,k3,k4⟩
 rw [e0,e1,e2,e3,e4,e5,e6,e7,e8]
 rfl
theorem IsT_four {P:Program} {n t e:Nat} {fs:List FV} (ht:P.underlying t=some (.array 4 e)) (he:P.underlying e=some (.int .i64)) (h:IsT P (n+2) t fs):∃ a b c d,fs=[.int .i64 a,.int .i64 b,.int .i64 c,.int .i64 d]:=by
 have h:=h.h
 simp only [FVT,ht] at h
 obtain ⟨gss,hl,rfl,hf⟩:=h
 match gss,hl with
 | [g0,g1,g2,g3],_ =>
  obtain ⟨a,ha⟩:=IsT_int he ⟨hf g0 (by simp)⟩
  obtain ⟨b,hb⟩:=IsT_int he ⟨hf g1 (by simp)⟩
  obtain ⟨c,hc⟩:=IsT_int he ⟨hf g2 (by simp)⟩
  obtain ⟨d,hd⟩:=IsT_int he ⟨hf g3 (by simp)⟩
  exact ⟨a,b,c,d,by rw [ha,hb,hc,hd]; rfl⟩
theorem isFour {n:Nat} {fs:List FV} (h:IsT Tryd.prog (n+2) 56 fs):∃ a b c d:Int,argFV Tryd.prog 56 fs = .agg [.int .i64 a,.int .i64 b,.int .i64 c,.int .i64 d]:=by
 rw [argFV_struct st56]
 obtain ⟨a,b,c,d,e⟩:=IsT_four Tryd.underlying56 Tryd.underlying3 h
 exact ⟨a,b,c,d,by rw [e]⟩
theorem argI {fs:List FV} {m:Int} (h:fs=[.int .i64 m]):argFV Tryd.prog 3 fs = .int .i64 m:=by
 rw [h]; exact argFV_one (by kernel_rfl) _
theorem argStks {fs:List FV} {l:List Stk} (h:fs=[.sl false 2 (stL l)]):argFV Tryd.prog 22 fs = .sl false 2 (stL l):=by
 rw [h]; exact argFV_one (by kernel_rfl) _
noncomputable def F17:Fm where
 k:=17
 α:={ x:(List Int)×(List Int)×Bool×Bool×Bool×Bool // (match x with | (l,m,ro,c,r2,c2)=>(l.length < 2^62)/\(m.length < 2^62)) }
 f:=fun ⟨(l,m,ro,c,r2,c2),_⟩=>[(ro,.sl c 1 (ints l)),(r2,.sl c2 1 (ints m))]
 g:=fun ⟨(l,m,ro,c,r2,c2),_⟩=>[.fv (.bool (decide (l=m)))]
 inj:=fun ⟨(l,m,ro,c,r2,c2),_⟩ ⟨(l',m',ro',c',r2',c2'),_⟩ hh=>by
  simp [ints_inj,stL_inj,voyF_inj,shF_inj,duF_inj,paL_inj,natL_inj,bookF_inj,stF_inj,duL_inj,Int.natCast_inj] at hh
  simp [hh]
 ok:=fun ⟨(l,m,ro,c,r2,c2),⟨hl,hm⟩⟩=>v17 _ (fam_ctx KS) l m hl hm ro r2 c c2
 en:=enters_of Tryd.func17 (by kernel_rfl)
theorem at17 {L:List Fm} (h:L.find? (fun G=>G.k==17)=some F17):H17 (famCtx L):=fun l m ro c r2 c2 hl hm=>fam_at (F:=F17) h ⟨(l,m,ro,c,r2,c2),⟨hl,hm⟩⟩ rfl rfl
noncomputable def F27:Fm where
 k:=27
 α:={ x:(List Due)×(List Due)×Bool×Bool×Bool×Bool // (match x with | (l,m,ro,c,r2,c2)=>(l.length < 2^62)/\(m.length < 2^62)) }
 f:=fun ⟨(l,m,ro,c,r2,c2),_⟩=>[(ro,.sl c 4 (duL l)),(r2,.sl c2 4 (duL m))]
 g:=fun ⟨(l,m,ro,c,r2,c2),_⟩=>[.fv (.bool (decide (l=m)))]
 inj:=fun ⟨(l,m,ro,c,r2,c2),_⟩ ⟨(l',m',ro',c',r2',c2'),_⟩ hh=>by
  simp [ints_inj,stL_inj,voyF_inj,shF_inj,duF_inj,paL_inj,natL_inj,bookF_inj,stF_inj,duL_inj,Int.natCast_inj] at hh
  simp [hh]
 ok:=fun ⟨(l,m,ro,c,r2,c2),⟨hl,hm⟩⟩=>v27 _ (fam_ctx KS) l m hl hm ro r2 c c2
 en:=enters_of Tryd.func27 (by kernel_rfl)
theorem at27 {L:List Fm} (h:L.find? (fun G=>G.k==27)=some F27):H27 (famCtx L):=fun l m ro c r2 c2 hl hm=>fam_at (F:=F27) h ⟨(l,m,ro,c,r2,c2),⟨hl,hm⟩⟩ rfl rfl
noncomputable def F29:Fm where
 k:=29
 α:={ x:Int×Int×Int×Bool×Bool×Bool // True }
 f:=fun ⟨(a,b,c,r1,r2,r3),_⟩=>[(r1,.int .i64 a),(r2,.int .i64 b),(r3,.int .i64 c)]
 g:=fun ⟨(a,b,c,r1,r2,r3),_⟩=>[.fv (.bool (decide (b<=a)&&decide (a<=c)))]
 inj:=fun ⟨(a,b,c,r1,r2,r3),_⟩ ⟨(a',b',c',r1',r2',r3'),_⟩ hh=>by
  simp [ints_inj,stL_inj,voyF_inj,shF_inj,duF_inj,paL_inj,natL_inj,bookF_inj,stF_inj,duL_inj,Int.natCast_inj] at hh
  simp [hh]
 ok:=fun ⟨(a,b,c,r1,r2,r3),_⟩=>v29 _ (fam_ctx KS) a b c r1 r2 r3
 en:=enters_of Tryd.func29 (by kernel_rfl)
theorem at29 {L:List Fm} (h:L.find? (fun G=>G.k==29)=some F29):H29 (famCtx L):=fun a b c r1 r2 r3=>fam_at (F:=F29) h ⟨(a,b,c,r1,r2,r3),trivial⟩ rfl rfl
noncomputable def F34:Fm where
 k:=34
 α:={ x:(List Int)×Bool×Bool // (match x with | (l,ro,c)=>(l.length < 2^62)) }
 f:=fun ⟨(l,ro,c),_⟩=>[(ro,.sl c 1 (ints l))]
 g:=fun ⟨(l,ro,c),_⟩=>[.fv (.int .i64 (sumI l))]
 inj:=fun ⟨(l,ro,c),_⟩ ⟨(l',ro',c'),_⟩ hh=>by
  simp [ints_inj,stL_inj,voyF_inj,shF_inj,duF_inj,paL_inj,natL_inj,bookF_inj,stF_inj,duL_inj,Int.natCast_inj] at hh
  simp [hh]
 ok:=fun ⟨(l,ro,c),hl⟩=>v34 _ (fam_ctx KS) l ro c hl
 en:=enters_of Tryd.func34 (by kernel_rfl)
theorem at34 {L:List Fm} (h:L.find? (fun G=>G.k==34)=some F34):H34 (famCtx L):=fun l ro c hl=>fam_at (F:=F34) h ⟨(l,ro,c),hl⟩ rfl rfl
noncomputable def F32:Fm where
 k:=32
 α:={ x:Int×Int×Bool×Bool // (match x with | (n,d,r1,r2)=>(d≠0)) }
 f:=fun ⟨(n,d,r1,r2),_⟩=>[(r1,.int .i64 n),(r2,.int .i64 d)]
 g:=fun ⟨(n,d,r1,r2),_⟩=>[.fv (.int .i64 (modI n d))]
 inj:=fun ⟨(n,d,r1,r2),_⟩ ⟨(n',d',r1',r2'),_⟩ hh=>by
  simp [ints_inj,stL_inj,voyF_inj,shF_inj,duF_inj,paL_inj,natL_inj,bookF_inj,stF_inj,duL_inj,Int.natCast_inj] at hh
  simp [hh]
 ok:=fun ⟨(n,d,r1,r2),hd⟩=>v32 _ (fam_ctx KS) n d hd r1 r2
 en:=enters_of Tryd.func32 (by kernel_rfl)
theorem at32 {L:List Fm} (h:L.find? (fun G=>G.k==32)=some F32):H32 (famCtx L):=fun n d r1 r2 hd=>fam_at (F:=F32) h ⟨(n,d,r1,r2),hd⟩ rfl rfl
noncomputable def F31:Fm where
 k:=31
 α:={ x:(List Stk)×Bool×Bool // (match x with | (l,ro,c)=>(l.length < 2^44)) }
 f:=fun ⟨(l,ro,c),_⟩=>[(ro,.sl c 2 (stL l))]
 g:=fun ⟨(l,ro,c),_⟩=>[.us 1 (ints (wts l))]
 inj:=fun ⟨(l,ro,c),_⟩ ⟨(l',ro',c'),_⟩ hh=>by
  simp [ints_inj,stL_inj,voyF_inj,shF_inj,duF_inj,paL_inj,natL_inj,bookF_inj,stF_inj,duL_inj,Int.natCast_inj] at hh
  simp [hh]
 ok:=fun ⟨(l,ro,c),hl⟩=>v31 _ (fam_ctx KS) l ro c hl
 en:=enters_of Tryd.func31 (by kernel_rfl)
theorem at31 {L:List Fm} (h:L.find? (fun G=>G.k==31)=some F31):H31 (famCtx L):=fun l ro c hl=>fam_at (F:=F31) h ⟨(l,ro,c),hl⟩ rfl rfl
noncomputable def F44:Fm where
 k:=44
 α:={ x:Unit // True }
 f:=fun ⟨u,_⟩=>[]
 g:=fun ⟨u,_⟩=>[.fv (voyF nightV)]
 inj:=fun ⟨u,_⟩ ⟨u',_⟩ hh=>by rfl
 ok:=fun ⟨u,_⟩=>v44 _ (fam_ctx KS)
 en:=enters_of Tryd.func44 (by kernel_rfl)
noncomputable def F45:Fm where
 k:=45
 α:={ x:Unit // True }
 f:=fun ⟨u,_⟩=>[]
 g:=fun ⟨u,_⟩=>[.us 1 (ints balV)]
 inj:=fun ⟨u,_⟩ ⟨u',_⟩ hh=>by rfl
 ok:=fun ⟨u,_⟩=>v45 _ (fam_ctx KS)
 en:=enters_of Tryd.func45 (by kernel_rfl)
noncomputable def F54:Fm where
 k:=54
 α:={ x:Unit // True }
 f:=fun ⟨u,_⟩=>[]
 g:=fun ⟨u,_⟩=>[.us 4 (duL nightD)]
 inj:=fun ⟨u,_⟩ ⟨u',_⟩ hh=>by rfl
 ok:=fun ⟨u,_⟩=>v54 _ (fam_ctx KS)
 en:=enters_of Tryd.func54 (by kernel_rfl)
noncomputable def M0:List Fm:=F17 :: F27 :: F29 :: F34 :: F32 :: F31 :: F44 :: F45 :: F54 :: KS
noncomputable def F28:Fm where
 k:=28
 α:={ x:(List Stk)×Bool×Bool // (match x with | (l,ro,c)=>(l.length < 2^44)) }
 f:=fun ⟨(l,ro,c),_⟩=>[(ro,.sl c 2 (stL l))]
 g:=fun ⟨(l,ro,c),_⟩=>[.fv (.bool (smallS l))]
 inj:=fun ⟨(l,ro,c),_⟩ ⟨(l',ro',c'),_⟩ hh=>by
  simp [ints_inj,stL_inj,voyF_inj,shF_inj,duF_inj,paL_inj,natL_inj,bookF_inj,stF_inj,duL_inj,Int.natCast_inj] at hh
  simp [hh]
 ok:=fun ⟨(l,ro,c),hl⟩=>v28 _ (fam_ctx M0) (at29 rfl) l ro c hl
 en:=enters_of Tryd.func28 (by kernel_rfl)
theorem at28 {L:List Fm} (h:L.find? (fun G=>G.k==28)=some F28):H28 (famCtx L):=fun l ro c hl=>fam_at (F:=F28) h ⟨(l,ro,c),hl⟩ rfl rfl
noncomputable def F38:Fm where
 k:=38
 α:={ x:(List Int)×Bool×Bool // (match x with | (l,ro,c)=>(l.length < 2^44)) }
 f:=fun ⟨(l,ro,c),_⟩=>[(ro,.sl c 1 (ints l))]
 g:=fun ⟨(l,ro,c),_⟩=>[.fv (.bool (balances l))]
 inj:=fun ⟨(l,ro,c),_⟩ ⟨(l',ro',c'),_⟩ hh=>by
  simp [ints_inj,stL_inj,voyF_inj,shF_inj,duF_inj,paL_inj,natL_inj,bookF_inj,stF_inj,duL_inj,Int.natCast_inj] at hh
  simp [hh]
 ok:=fun ⟨(l,ro,c),hl⟩=>v38 _ (fam_ctx M0) (at29 rfl) (at34 rfl) l ro c hl
 en:=enters_of Tryd.func38 (by kernel_rfl)
noncomputable def F18:Fm where
 k:=18
 α:={ x:Unit // True }
 f:=fun ⟨u,_⟩=>[]
 g:=fun ⟨u,_⟩=>[.fv (.bool true)]
 inj:=fun ⟨u,_⟩ ⟨u',_⟩ hh=>by rfl
 ok:=fun ⟨u,_⟩=>v18 _ (fam_ctx M0) (at15 rfl) (at17 rfl) (at19 rfl) (at23 rfl) (at25 rfl) (at27 rfl) (at37 rfl) (at41 rfl) (at42 rfl) (fam_at (F:=F44) rfl ⟨(),trivial⟩ rfl rfl) (fam_at (F:=F45) rfl ⟨(),trivial⟩ rfl rfl) (fam_at (F:=F54) rfl ⟨(),trivial⟩ rfl rfl)
 en:=enters_of Tryd.func18 (by kernel_rfl)
noncomputable def M1:List Fm:=F17 :: F27 :: F29 :: F34 :: F32 :: F31 :: F44 :: F45 :: F54 :: F28 :: F38 :: F18 :: KS
noncomputable def F33:Fm where
 k:=33
 α:={ v:Voy // (Small v) }
 f:=fun ⟨v,_⟩=>[(false,voyF v)]
 g:=fun ⟨v,_⟩=>[.fv (.bool (decide (checkF v=0)))]
 inj:=fun ⟨v,_⟩ ⟨v',_⟩ hh=>by
  simp [ints_inj,stL_inj,voyF_inj,shF_inj,duF_inj,paL_inj,natL_inj,bookF_inj,stF_inj,duL_inj,Int.natCast_inj] at hh
  simp [hh]
 ok:=fun ⟨v,hv⟩=>v33 _ (fam_ctx M1) (at21 rfl) (at28 rfl) (at29 rfl) v hv
 en:=enters_of Tryd.func33 (by kernel_rfl)
theorem at33 {L:List Fm} (h:L.find? (fun G=>G.k==33)=some F33):H33 (famCtx L):=fun v hv=>fam_at (F:=F33) h ⟨v,hv⟩ rfl rfl
noncomputable def KL:List Fm:=F17 :: F27 :: F29 :: F34 :: F32 :: F31 :: F44 :: F45 :: F54 :: F28 :: F38 :: F18 :: F33 :: KS
theorem at18 {L:List Fm} (h:L.find? (fun G=>G.k==18)=some F18):H18 (famCtx L):=fam_at (F:=F18) h ⟨(),trivial⟩ rfl rfl
end Go.Proofs.YtejodhjhddnbeaaDoor.E
