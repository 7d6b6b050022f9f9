/-
  The chapter of the share: its functions, and what they compute. Conditions: none.
-/
import Derived.Test.YtejodhjhddnbeaaDoorZ10
import Derived.Test.YtejodhjhddnbeaaDoorZ13
set_option linter.unusedVariables false
set_option linter.unusedSimpArgs false
namespace Go.Proofs.YtejodhjhddnbeaaDoor.E
open Go Go.RowKit
def balOk (n:Int):Bool:=decide (-1000000<=n)&&decide (n<=1000000)
def balTo (l:List Int) (i:Nat):Bool:=decide (l.length<=10)&&(l.take i).all balOk
def balances (l:List Int):Bool:=balTo l l.length&&(sumI l==0)
theorem balTo_succ (l:List Int) (i:Nat) (h:i < l.length):balTo l (i+1)=(balTo l i&&balOk l[i]):=by
 simp only [balTo,List.take_add_one,List.getElem?_eq_getElem h,Option.toList_some,List.all_append,List.all_cons,List.all_nil,Bool.and_true,Bool.and_assoc]
theorem v67 (ctx:Ctx) (hC:CtxOk (pg ctx)) (h46:H46 ctx) (h48:H48 ctx) (l:List Int) (hl:l.length < 2^44) (ro c:Bool):Valid Tryd.prog 67 [(ro,.sl c 1 (ints l))] [.fv (.bool (balances l))]:=by
 refine valid_of_ev (G:=pg ctx) (tok ctx) hC mixed Tryd.func67 T67 L67 (by simp [Tryd.ntmps67]) ⟨_,rfl,?_⟩
 simp only [Tryd.ntmps67,Tryd.results67,initSt,initEnv]
 refine ev_seq (ev_reg (by simp; rfl) ?_)
 refine ev_seq (ev_reg (by simp; rfl) ?_)
 refine ev_seq (ev_seq (ev_reg (by simp; rfl) ?_))
 refine ev_block ?_
 refine ev_loop (fun i:Nat=>({ env:=[(0,V.fv ro (.sl c 1 (ints l))),(3,.fv false (.bool (balTo l i))),(9,.fv ro (.sl c 1 (ints l))),(10,.fv false (.int .i64 l.length)),(11,.fv false (.int .i64 i))],blk:=[] }:St)) (fun i=>l.length-i) (fun i=>i<=l.length) 0 (by simp [balTo]; omega) (by simp) (by simp [R]; omega) (fun i hi=>?_)
 refine ev_seq (ev_reg (by simp; rfl) ?_)
 refine ev_seq (ev_cond rfl (fun hb=>?_) (fun hb=>?_))
 ·simp at hb
  refine ev_skip ?_
  refine ev_seq (ev_block ?_)
  refine ev_seq (ev_reg (by simp [hb]; rfl) ?_)
  have hs:=balTo_succ l i hb
  have e46:ctx 46 [(false,.int .i64 l[i]),(false,.int .i64 (-1000000)),(false,.int .i64 1000000)]=some [.fv (.bool (balOk l[i]))]:=h46 _ _ _ _ _ _
  generalize balOk l[i]=a at hs e46
  cases h0:balTo l i with
  | false =>
   rw [h0] at hs
   refine ev_reg (by simp [unsetS]; rfl) ?_
   refine ev_reg (by simp; rfl) ?_
   refine ⟨i+1,?_,by omega,by omega⟩
   simp [hs]
   exact wrap_nat (n:=i+1) (by omega)
  | true =>
   rw [h0] at hs
   refine ev_reg (by simp [e46]; rfl) ?_
   refine ev_reg (by simp; rfl) ?_
   refine ⟨i+1,?_,by omega,by omega⟩
   simp [hs]
   exact wrap_nat (n:=i+1) (by omega)
 ·simp at hb
  refine ev_exit ?_
  obtain rfl:i=l.length:=by omega
  have hbl:balances l=(balTo l l.length&&(sumI l==0)):=rfl
  have e48:ctx 48 [(ro,.sl c 1 (ints l))]=some [.fv (.int .i64 (sumI l))]:=h48 _ _ _ (by omega)
  refine ev_seq (ev_reg (σ':={ env:=[(2,.fv false (.bool (balances l)))],blk:=[] }) ?_ ?_)
  ·rw [hbl]
   cases balTo l l.length
   ·simp [unsetS]
   ·simp [e48]
  ·refine ev_ret ?_
   simp
def H67 (ctx:Ctx):Prop:=∀ (l:List Int) (ro c:Bool),l.length < 2^44->ctx 67 [(ro,.sl c 1 (ints l))]=some [.fv (.bool (balances l))]
def payStep (bal:List Int) (s:Int×Int) (q:Nat):Int×Int :=
 if bal.getD q 0 < 0/\s.1 < 0 then (q,s.2) else if 0 < bal.getD q 0/\s.2 < 0 then (s.1,q) else s
def payF (bal:List Int) (mem:List Nat):Int×Int:=mem.foldl (payStep bal) (-1,-1)
def natL (l:List Nat):List Int:=l.map Int.ofNat
@[simp] theorem natL_length (l:List Nat):(natL l).length=l.length:=by simp [natL]
theorem payF_take (bal:List Int) (mem:List Nat) (i:Nat) (h:i < mem.length):payF bal (mem.take (i+1))=payStep bal (payF bal (mem.take i)) mem[i]:=by
 simp only [payF,List.take_add_one,List.getElem?_eq_getElem h,Option.toList_some,List.foldl_append,List.foldl_cons,List.foldl_nil]
theorem v72 (ctx:Ctx) (hC:CtxOk (pg ctx)) (bal:List Int) (mem:List Nat) (hl:mem.length < 2^44) (hm:∀ q∈mem,q < bal.length) (ro c1 c2:Bool):Valid Tryd.prog 72 [(ro,.agg [.sl c1 1 (ints bal),.sl c2 1 (ints (natL mem))])] [.fv (.int .i64 (payF bal mem).1),.fv (.int .i64 (payF bal mem).2)]:=by
 refine valid_of_ev (G:=pg ctx) (tok ctx) hC mixed Tryd.func72 T72 L72 (by simp [Tryd.ntmps72]) ⟨_,rfl,?_⟩
 simp only [Tryd.ntmps72,Tryd.results72,initSt,initEnv]
 refine ev_seq (ev_reg (by simp; rfl) ?_)
 refine ev_seq (ev_reg (by simp; rfl) ?_)
 refine ev_seq (ev_seq (ev_reg (by simp; rfl) ?_))
 refine ev_block ?_
 refine ev_loop (fun i:Nat=>({ env:=[(1,V.ptr 1 0),(2,.fv false (.int .i64 (payF bal (mem.take i)).1)),(3,.fv false (.int .i64 (payF bal (mem.take i)).2)),(7,.fv ro (.sl c2 1 (ints (natL mem)))),(8,.fv false (.int .i64 mem.length)),(9,.fv false (.int .i64 i))],blk:=[(1,.box [.fv ro (.sl c1 1 (ints bal)),.fv ro (.sl c2 1 (ints (natL mem)))])] }:St)) (fun i=>mem.length-i) (fun i=>i<=mem.length) 0 (by simp [payF]) (by simp) (by simp [R]; omega) (fun i hi=>?_)
 refine ev_seq (ev_reg (by simp; rfl) ?_)
 refine ev_seq (ev_cond rfl (fun hb=>?_) (fun hb=>?_))
 ·simp at hb
  have hbn:i < (natL mem).length:=by simpa using hb
  have hq:mem[i] < bal.length:=hm _ (List.getElem_mem hb)
  have hst:=payF_take bal mem i hb
  have hgd:bal.getD mem[i] 0=bal[mem[i]]:=by simp [hq]
  have hnl:(natL mem)[i]'hbn=(mem[i]:Int):=by simp [natL]
  refine ev_skip ?_
  refine ev_seq (ev_block ?_)
  refine ev_seq (ev_reg (by simp [hb,hnl]; rfl) ?_)
  simp only [payStep,hgd] at hst
  generalize mem[i]=q at hq hst hnl ⊢
  generalize hx:bal[q]=x at hst
  generalize payF bal (mem.take i)=s at hst ⊢
  refine ev_block ?_
  by_cases h1:x < 0
  ·have h1':decide (x < 0)=true:=by simpa using h1
   have h3:¬ 0 < x:=by omega
   by_cases h2:s.1 < 0
   ·refine ev_seq (ev_reg (by simp [hq,hx,h1,h2]; rfl) ?_)
    refine ev_cond rfl (fun hb2=>?_) (fun hb2=>?_)
    ·refine ev_reg (by simp; rfl) ?_
     refine ev_reg (by simp; rfl) ?_
     refine ⟨i+1,?_,by omega,by omega⟩
     simp [hst,h1,h2]
     exact wrap_nat (n:=i+1) (by omega)
    ·simp at hb2
   ·refine ev_seq (ev_reg (by simp [hq,hx,h1,h2]; rfl) ?_)
    refine ev_cond rfl (fun hb2=>?_) (fun hb2=>?_)
    ·simp at hb2
    ·refine ev_seq (ev_reg (by simp [hq,hx,h3,unsetS]; rfl) ?_)
     refine ev_cond rfl (fun hb3=>?_) (fun hb3=>?_)
     ·simp at hb3
     ·refine ev_skip ?_
      refine ev_reg (by simp; rfl) ?_
      refine ⟨i+1,?_,by omega,by omega⟩
      simp [hst,h1,h2,h3]
      exact wrap_nat (n:=i+1) (by omega)
  ·refine ev_seq (ev_reg (by simp [hq,hx,h1,unsetS]; rfl) ?_)
   refine ev_cond rfl (fun hb2=>?_) (fun hb2=>?_)
   ·simp at hb2
   ·by_cases h3:0 < x
    ·by_cases h4:s.2 < 0
     ·refine ev_seq (ev_reg (by simp [hq,hx,h3,h4]; rfl) ?_)
      refine ev_cond rfl (fun hb3=>?_) (fun hb3=>?_)
      ·refine ev_reg (by simp; rfl) ?_
       refine ev_reg (by simp; rfl) ?_
       refine ⟨i+1,?_,by omega,by omega⟩
       simp [hst,h1,h3,h4]
       exact wrap_nat (n:=i+1) (by omega)
      ·simp at hb3
     ·refine ev_seq (ev_reg (by simp [hq,hx,h3,h4]; rfl) ?_)
      refine ev_cond rfl (fun hb3=>?_) (fun hb3=>?_)
      ·simp at hb3
      ·refine ev_skip ?_
       refine ev_reg (by simp; rfl) ?_
       refine ⟨i+1,?_,by omega,by omega⟩
       simp [hst,h1,h3,h4]
       exact wrap_nat (n:=i+1) (by omega)
    ·refine ev_seq (ev_reg (by simp [hq,hx,h3,unsetS]; rfl) ?_)
     refine ev_cond rfl (fun hb3=>?_) (fun hb3=>?_)
     ·simp at hb3
     ·refine ev_skip ?_
      refine ev_reg (by simp; rfl) ?_
      refine ⟨i+1,?_,by omega,by omega⟩
      simp [hst,h1,h3]
      exact wrap_nat (n:=i+1) (by omega)
 ·simp at hb
  refine ev_exit ?_
  obtain rfl:i=mem.length:=by omega
  refine ev_seq (ev_reg (by simp; rfl) ?_)
  refine ev_ret ?_
  simp
def upd (l:List Int) (a b:Nat) (d:Int):List Int:=(l.set a (l.getD a 0-d)).set b (l.getD b 0+d)
@[simp] theorem upd_length (l:List Int) (a b:Nat) (d:Int):(upd l a b d).length=l.length:=by simp [upd]
theorem upd_bound {l:List Int} {a b:Nat} {d B D:Int} (h:∀ x∈l,-B<=x/\x<=B) (hB:0<=B) (hd:0<=d/\d<=D):∀ x∈upd l a b d,-(B+D)<=x/\x<=B+D:=by
 have hg:∀ i,-B<=l.getD i 0/\l.getD i 0<=B:=fun i=>by
  rw [List.getD_eq_getElem?_getD]
  cases hi:l[i]? with
  | none=>simp; omega
  | some x=>exact h x (List.mem_of_getElem? hi)
 intro x hx
 unfold upd at hx
 have g1:=hg a
 have g2:=hg b
 rcases List.mem_or_eq_of_mem_set hx with hx | rfl
 ·rcases List.mem_or_eq_of_mem_set hx with hx | rfl
  ·have:=h x hx; omega
  ·omega
 ·omega
def loanBad (v:Voy) (x:Loan):Bool:=decide (placeF v.lend x.fr < 0)||decide (placeF v.lend x.to < 0)||(placeF v.lend x.fr==placeF v.lend x.to)||!(decide (1<=x.nets)&&decide (x.nets<=1000))||!(decide (0<=x.rent)&&decide (x.rent<=8))
def lend1 (v:Voy) (s:List Int×List Int) (x:Loan):Option (List Int×List Int) :=
 if loanBad v x=true then none else
 some (upd s.1 (placeF v.lend x.fr).toNat (placeF v.lend x.to).toNat x.nets,upd s.2 (placeF v.lend x.fr).toNat (placeF v.lend x.to).toNat ((8-x.rent)*x.nets))
def lendF (v:Voy):List Loan->List Int×List Int->Option (List Int×List Int)
 | [],s=>some s
 | x :: r,s=>match lend1 v s x with
  | some s'=>lendF v r s'
  | none=>none
theorem lendF_append (v:Voy):∀ (l m:List Loan) (s:List Int×List Int),lendF v (l++m) s=match lendF v l s with | some s'=>lendF v m s' | none=>none
 | [],m,s=>rfl
 | x :: r,m,s=>by
  simp only [List.cons_append,lendF]
  split
  ·exact lendF_append v r m _
  ·rfl
theorem lendF_take (v:Voy) (l:List Loan) (s:List Int×List Int) (i:Nat) (h:i < l.length):lendF v (l.take (i+1)) s=match lendF v (l.take i) s with | some s'=>lend1 v s' l[i] | none=>none:=by
 rw [List.take_add_one,List.getElem?_eq_getElem h,Option.toList_some,lendF_append]
 split
 ·simp only [lendF]; split<;>simp [*]
 ·rfl
theorem lendF_none (v:Voy) (l:List Loan) (s:List Int×List Int) (i:Nat) (h:lendF v (l.take i) s=none):lendF v l s=none:=by
 have:=lendF_append v (l.take i) (l.drop i) s
 rw [List.take_append_drop,h] at this
 exact this
def c8 (l:List Stk):List Int:=(wts l).map fun x=>8*x
@[simp] theorem c8_length (l:List Stk):(c8 l).length=l.length:=by simp [c8]
theorem c8_take (l:List Stk) (i:Nat) (h:i < l.length):c8 (l.take (i+1))=c8 (l.take i)++[8*l[i].2]:=by simp [c8,wts_take l i h]
def neg (l:List Int):Bool:=l.any fun x=>decide (x < 0)
def claimsF (v:Voy):Option (List Int) :=
 if 12 < v.loans.length then none else match lendF v v.loans (wts v.lend,c8 v.lend) with
  | some (n,c)=>if (neg n||neg c)=true then none else some c
  | none=>none
structure LendInv (v:Voy) (k:Nat) (s:List Int×List Int):Prop where
 l1:s.1.length=v.lend.length
 l2:s.2.length=v.lend.length
 b1:∀ x∈s.1,-(1000+1000*(k:Int))<=x/\x<=1000+1000*(k:Int)
 b2:∀ x∈s.2,-(8000+8000*(k:Int))<=x/\x<=8000+8000*(k:Int)
theorem loanOk {v:Voy} {x:Loan} (h:loanBad v x=false):0<=placeF v.lend x.fr/\0<=placeF v.lend x.to/\placeF v.lend x.fr≠placeF v.lend x.to/\(1<=x.nets/\x.nets<=1000)/\0<=x.rent/\x.rent<=8:=by
 simp only [loanBad,Bool.or_eq_false_iff,decide_eq_false_iff_not,Bool.not_eq_false',Bool.and_eq_true,decide_eq_true_eq,beq_eq_false_iff_ne] at h
 obtain ⟨⟨⟨⟨h1,h2⟩,h3⟩,h4⟩,h5⟩:=h
 exact ⟨by omega,by omega,h3,h4,h5⟩
theorem rent_bound {x:Loan} (h1:1<=x.nets/\x.nets<=1000) (h2:0<=x.rent/\x.rent<=8):0<=(8-x.rent)*x.nets/\(8-x.rent)*x.nets<=8000:=by
 constructor
 ·exact Int.mul_nonneg (by omega) (by omega)
 ·have h3:(8-x.rent)*x.nets<=8*x.nets:=Int.mul_le_mul_of_nonneg_right (by omega) (by omega)
  omega
theorem LendInv.step {v:Voy} {k:Nat} {s s':List Int×List Int} {x:Loan} (h:LendInv v k s) (hs:lend1 v s x=some s'):LendInv v (k+1) s':=by
 unfold lend1 at hs
 split at hs
 ·simp at hs
 ·rename_i hb
  simp only [Bool.not_eq_true] at hb
  obtain ⟨_,_,_,h4,h5⟩:=loanOk hb
  simp only [Option.some.injEq] at hs
  subst hs
  refine ⟨by simp [h.l1],by simp [h.l2],fun y hy=>?_,fun y hy=>?_⟩
  ·have:=upd_bound (D:=1000) h.b1 (by omega) (by omega) y hy
   omega
  ·have:=upd_bound (D:=8000) h.b2 (by omega) (rent_bound h4 h5) y hy
   omega
theorem LendInv.start (v:Voy) (hw:∀ x∈v.lend,0<=x.2/\x.2<=1000):LendInv v 0 (wts v.lend,c8 v.lend):=by
 refine ⟨by simp,by simp,fun y hy=>?_,fun y hy=>?_⟩
 ·simp only [wts,List.mem_map] at hy
  obtain ⟨p,hp,rfl⟩:=hy
  have:=hw p hp
  simp; omega
 ·simp only [c8,wts,List.map_map,List.mem_map] at hy
  obtain ⟨p,hp,rfl⟩:=hy
  have:=hw p hp
  simp; omega
theorem placeF_lt {l:List Stk} {n:ByteArray} (h:0<=placeF l n):∃ a:Nat,a < l.length/\placeF l n=a:=by
 unfold placeF idx at h ⊢
 split at h
 ·rename_i i hi
  rw [List.findIdx?_eq_some_iff_getElem] at hi
  obtain ⟨hi,_⟩:=hi
  exact ⟨i,hi,rfl⟩
 ·omega
theorem neg_take (l:List Int) (i:Nat) (h:i < l.length):neg (l.take (i+1))=(neg (l.take i)||decide (l[i] < 0)):=by
 simp only [neg,List.take_add_one,List.getElem?_eq_getElem h,Option.toList_some,List.any_append,List.any_cons,List.any_nil,Bool.or_false]
theorem neg_of_take {l:List Int} {i:Nat} (h:neg (l.take i)=true):neg l=true:=by
 simp only [neg,List.any_eq_true] at h ⊢
 obtain ⟨x,hx,h⟩:=h
 exact ⟨x,List.mem_of_mem_take hx,h⟩
def claimsR:Option (List Int)->List TV
 | some c=>[.us 1 (ints c),.fv (.bool true)]
 | none=>[.us 1 (ints []),.fv (.bool false)]
theorem v55 (ctx:Ctx) (hC:CtxOk (pg ctx)) (h46:H46 ctx) (h49:H49 ctx) (h80:H80 ctx) (v:Voy) (hlen:v.lend.length<=10) (hw:∀ x∈v.lend,0<=x.2/\x.2<=1000) (hlo:v.loans.length < 2^44):Valid Tryd.prog 55 [(false,voyF v)] (claimsR (claimsF v)):=by
 refine valid_of_ev (G:=pg ctx) (tok ctx) hC mixed Tryd.func55 T55 L55 (by simp [Tryd.ntmps55]) ⟨_,rfl,?_⟩
 simp only [Tryd.ntmps55,Tryd.results55,initSt,initEnv,voyF,voyC]
 have h80':=fun n r1 r2=>h80 v n r1 r2 (by omega)
 simp only [voyF,voyC] at h80'
 have e49:∀ r c,ctx 49 [(r,.sl c 2 (stL v.lend))]=some [.us 1 (ints (wts v.lend))]:=fun r c=>h49 _ r c (by omega)
 have htk:List.take v.lend.length (wts v.lend)=wts v.lend:=List.take_of_length_le (by simp)
 refine ev_seq (ev_reg (by simp; rfl) ?_)
 refine ev_seq (ev_reg (by simp [e49]; rfl) ?_)
 refine ev_seq (ev_seq (ev_reg (by simp [htk]; rfl) ?_))
 refine ev_block ?_
 refine ev_loop (fun i:Nat=>({ env:=[(1,V.ptr 1 0),(2,V.own 2 0 (c8 (v.lend.take i)).length),(4,V.own 4 0 v.lend.length),(17,V.own 4 0 v.lend.length),(18,.fv false (.int .i64 v.lend.length)),(19,.fv false (.int .i64 i))],blk:=[(1,.box [.fv false (.int .i64 v.gross),.fv false (.sl false 1 (ints v.costs)),.fv false (.int .i64 v.boat),.fv false (.int .i64 v.nets),.fv false (.int .i64 v.crew),.fv false (.sl false 2 (stL v.own)),.fv false (.sl false 2 (stL v.lend)),.fv false (.sl false 2 (stL v.hand)),.fv false (.sl false 4 (loL v.loans))]),(2,.arr 1 (ints (c8 (v.lend.take i)))),(4,.arr 1 (ints (wts v.lend)))] }:St)) (fun i=>v.lend.length-i) (fun i=>i<=v.lend.length) 0 rfl (by simp) (by simp [R]; omega) (fun i hi=>?_)
 have hmin:min i v.lend.length=i:=by omega
 refine ev_seq (ev_reg (by simp; rfl) ?_)
 refine ev_seq (ev_cond rfl (fun hb=>?_) (fun hb=>?_))
 ·simp at hb
  refine ev_skip ?_
  refine ev_seq (ev_block ?_)
  have hbd:(i+1)*8<=140737488355328:=by omega
  have hwi:=hw v.lend[i] (List.getElem_mem hb)
  have hwd:(wts v.lend)[i]'(by simpa using hb)=v.lend[i].2:=by simp [wts]
  have hwq:(wts v.lend)[i]? = some v.lend[i].2:=by rw [List.getElem?_eq_getElem (by simpa using hb),hwd]
  have hm8:IntKind.i64.wrap (8*v.lend[i].2)=8*v.lend[i].2:=wrap_id (by omega) (by omega)
  refine ev_seq (ev_reg (by simp [hb,hwd,hwq,htk]; rfl) ?_)
  refine ev_reg (by simp [hmin,hbd,hm8]; rfl) ?_
  refine ev_reg (by simp; rfl) ?_
  refine ⟨i+1,?_,by omega,by omega⟩
  simp [c8_take v.lend i hb,hmin]
  exact wrap_nat (n:=i+1) (by omega)
 ·simp at hb
  refine ev_exit ?_
  obtain rfl:i=v.lend.length:=by omega
  refine ev_seq (ev_seq (ev_reg (by simp; rfl) ?_))
  refine ev_cond rfl (fun hb2=>?_) (fun hb2=>?_)
  ·simp at hb2
   refine ev_seq (ev_reg (by simp; rfl) ?_)
   refine ev_ret ?_
   have:claimsF v=none:=by unfold claimsF; rw [if_pos (by omega)]
   simp [this,claimsR]
  ·simp at hb2
   have hcl:claimsF v=match lendF v v.loans (wts v.lend,c8 v.lend) with
    | some (n,c)=>if (neg n||neg c)=true then none else some c
    | none=>none:=by unfold claimsF; rw [if_neg (by omega)]<;>rfl
   refine ev_skip ?_
   refine ev_seq (ev_seq (ev_reg (by simp; rfl) ?_))
   refine ev_block ?_
   refine ev_loop (fun x:Nat×List Int×List Int=>({ env:=[(1,V.ptr 1 0),(2,V.own 2 0 x.2.2.length),(4,V.own 4 0 x.2.1.length),(36,.fv false (.sl false 4 (loL v.loans))),(37,.fv false (.int .i64 v.loans.length)),(38,.fv false (.int .i64 x.1))],blk:=[(1,.box [.fv false (.int .i64 v.gross),.fv false (.sl false 1 (ints v.costs)),.fv false (.int .i64 v.boat),.fv false (.int .i64 v.nets),.fv false (.int .i64 v.crew),.fv false (.sl false 2 (stL v.own)),.fv false (.sl false 2 (stL v.lend)),.fv false (.sl false 2 (stL v.hand)),.fv false (.sl false 4 (loL v.loans))]),(2,.arr 1 (ints x.2.2)),(4,.arr 1 (ints x.2.1))] }:St)) (fun x=>v.loans.length-x.1) (fun x=>x.1<=v.loans.length/\lendF v (v.loans.take x.1) (wts v.lend,c8 v.lend)=some x.2/\LendInv v x.1 x.2) (0,wts v.lend,c8 v.lend) (by simp) ⟨by omega,rfl,LendInv.start v hw⟩ (by simp [R]; omega) (fun x hx=>?_)
   obtain ⟨i,n,c⟩:=x
   obtain ⟨hi,hx1,hx2⟩:=hx
   simp only at hi hx1 hx2 ⊢
   clear hmin
   refine ev_seq (ev_reg (by simp; rfl) ?_)
   refine ev_seq (ev_cond rfl (fun hb=>?_) (fun hb=>?_))
   ·simp at hb
    refine ev_skip ?_
    refine ev_seq (ev_block ?_)
    refine ev_seq (ev_reg (by simp [hb]; rfl) ?_)
    generalize hxe:v.loans[i]=x
    refine ev_seq (ev_drw rfl (by kernel_rfl) (by kernel_rfl) (by simp [h80']; rfl) ?_)
    have hbad:loanBad v x=(decide (placeF v.lend x.fr < 0)||decide (placeF v.lend x.to < 0)||(placeF v.lend x.fr==placeF v.lend x.to)||!(decide (1<=x.nets)&&decide (x.nets<=1000))||!(decide (0<=x.rent)&&decide (x.rent<=8))):=rfl
    have e1:ctx 46 [(false,.int .i64 x.nets),(false,.int .i64 1),(false,.int .i64 1000)]=some [.fv (.bool (decide (1<=x.nets)&&decide (x.nets<=1000)))]:=h46 _ _ _ _ _ _
    have e2:ctx 46 [(false,.int .i64 x.rent),(false,.int .i64 0),(false,.int .i64 8)]=some [.fv (.bool (decide (0<=x.rent)&&decide (x.rent<=8)))]:=h46 _ _ _ _ _ _
    refine ev_seq (ev_seq (ev_reg (σ':={ env:=[(1,V.ptr 1 0),(2,V.own 2 0 c.length),(4,V.own 4 0 n.length),(8,V.ptr 8 0),(9,.fv false (.int .i64 (placeF v.lend x.fr))),(10,.fv false (.int .i64 (placeF v.lend x.to))),(36,.fv false (.sl false 4 (loL v.loans))),(37,.fv false (.int .i64 v.loans.length)),(38,.fv false (.int .i64 i)),(72,.fv false (.bool (loanBad v x)))],blk:=[(1,.box [.fv false (.int .i64 v.gross),.fv false (.sl false 1 (ints v.costs)),.fv false (.int .i64 v.boat),.fv false (.int .i64 v.nets),.fv false (.int .i64 v.crew),.fv false (.sl false 2 (stL v.own)),.fv false (.sl false 2 (stL v.lend)),.fv false (.sl false 2 (stL v.hand)),.fv false (.sl false 4 (loL v.loans))]),(2,.arr 1 (ints c)),(4,.arr 1 (ints n)),(8,.box [.fv false (.str x.fr),.fv false (.str x.to),.fv false (.int .i64 x.nets),.fv false (.int .i64 x.rent)])] }) ?_ ?_))
    ·rw [hbad]
     by_cases c1:placeF v.lend x.fr < 0
     ·simp [c1,unsetS]
     by_cases c2:placeF v.lend x.to < 0
     ·simp [c1,c2,unsetS]
     by_cases c3:placeF v.lend x.fr=placeF v.lend x.to
     ·have c4:(placeF v.lend x.fr==placeF v.lend x.to)=true:=by simp [c3]
      simp [c1,c2,c4,unsetS]
     have c4:(placeF v.lend x.fr==placeF v.lend x.to)=false:=by simp [c3]
     generalize (decide (1<=x.nets)&&decide (x.nets<=1000))=d1 at e1
     generalize (decide (0<=x.rent)&&decide (x.rent<=8))=d2 at e2
     cases d1
     ·simp [c1,c2,c4,e1,unsetS]
     ·cases d2<;>simp [c1,c2,c4,e1,e2,unsetS]
    have htake:lendF v (v.loans.take (i+1)) (wts v.lend,c8 v.lend)=lend1 v (n,c) x:=by
     have:=lendF_take v v.loans (wts v.lend,c8 v.lend) i hb
     rw [hx1,hxe] at this
     exact this
    refine ev_cond rfl (fun hb3=>?_) (fun hb3=>?_)
    ·refine ev_seq (ev_reg (by simp; rfl) ?_)
     refine ev_ret ?_
     have h1:lend1 v (n,c) x=none:=by unfold lend1; rw [if_pos hb3]
     rw [h1] at htake
     have:claimsF v=none:=by rw [hcl,lendF_none v _ _ _ htake]
     simp [this,claimsR]
    ·obtain ⟨k1,k2,k3,k4,k5⟩:=loanOk hb3
     obtain ⟨p,hp,ep⟩:=placeF_lt k1
     obtain ⟨q,hq,eq⟩:=placeF_lt k2
     have hpq:p≠q:=fun e=>k3 (by rw [ep,eq,e])
     have h1:lend1 v (n,c) x=some (upd n p q x.nets,upd c p q ((8-x.rent)*x.nets)):=by unfold lend1; rw [if_neg (by simp [hb3]),ep,eq]; rfl
     rw [h1] at htake
     have hinv:=hx2.step h1
     have hpn:p < n.length:=by rw [hx2.l1]; exact hp
     have hqn:q < n.length:=by rw [hx2.l1]; exact hq
     have hpc:p < c.length:=by rw [hx2.l2]; exact hp
     have hqc:q < c.length:=by rw [hx2.l2]; exact hq
     refine ev_skip ?_
     have b1:=hx2.b1 n[p] (List.getElem_mem hpn)
     have b2:=hx2.b1 n[q] (List.getElem_mem hqn)
     have w1:IntKind.i64.wrap (n[p]-x.nets)=n[p]-x.nets:=wrap_id (by omega) (by omega)
     have w2:IntKind.i64.wrap (n[q]+x.nets)=n[q]+x.nets:=wrap_id (by omega) (by omega)
     have hu:upd n p q x.nets=(n.set p (n[p]-x.nets)).set q (n[q]+x.nets):=by simp [upd,List.getD_eq_getElem?_getD,hpn,hqn]
     have hr:=rent_bound k4 k5
     have w0:IntKind.i64.wrap (8-x.rent)=8-x.rent:=wrap_id (by omega) (by omega)
     have w0':IntKind.i64.wrap ((8-x.rent)*x.nets)=(8-x.rent)*x.nets:=wrap_id (by omega) (by omega)
     refine ev_seq (ev_late rfl (by kernel_rfl) (by kernel_rfl) (by kernel_rfl) (fs:=[false,false,true,true,false,false,false,false,false,false,false,false,false,false,false,true,true,true,false]) (by kernel_rfl) rfl rfl (by simp [ep,eq,hpn,hqn,w1,w2]; rfl) (by simp [hpn]; exact ⟨rfl,rfl,rfl⟩) (by simp) (by simp) (by simp [ep,eq,hpn,hqn,w1,w2]) (by simp [hqn]; rfl) ?_)
     refine ev_seq (ev_reg (by simp [w0,w0']; rfl) ?_)
     generalize hdd:(8-x.rent)*x.nets=dd at hr w0' h1 htake hinv
     have b3:=hx2.b2 c[p] (List.getElem_mem hpc)
     have b4:=hx2.b2 c[q] (List.getElem_mem hqc)
     have w3:IntKind.i64.wrap (c[p]-dd)=c[p]-dd:=wrap_id (by omega) (by omega)
     have w4:IntKind.i64.wrap (c[q]+dd)=c[q]+dd:=wrap_id (by omega) (by omega)
     have hu2:upd c p q dd=(c.set p (c[p]-dd)).set q (c[q]+dd):=by simp [upd,List.getD_eq_getElem?_getD,hpc,hqc]
     refine ev_late rfl (by kernel_rfl) (by kernel_rfl) (by kernel_rfl) (fs:=[false,false,true,true,false,false,false,false,false,false,false,false,false,false,true,true,false]) (by kernel_rfl) rfl rfl (by simp [ep,eq,hpc,hqc,w3,w4]; rfl) (by simp [hpc]; exact ⟨rfl,rfl,rfl⟩) (by simp) (by simp) (by simp [ep,eq,hpc,hqc,w3,w4]) (by simp [hqc]; rfl) ?_
     refine ev_reg (by simp; rfl) ?_
     refine ⟨(i+1,upd n p q x.nets,upd c p q dd),?_,⟨by simp only; omega,htake,hinv⟩,by simp only; omega⟩
     simp [hu,hu2]
     exact wrap_nat (n:=i+1) (by omega)
   ·simp at hb
    obtain rfl:i=v.loans.length:=by omega
    rw [List.take_length] at hx1
    rw [hx1] at hcl
    simp only at hcl
    have hnl:=hx2.l1
    have hcl2:=hx2.l2
    simp only at hnl hcl2
    refine ev_exit ?_
    refine ev_seq (ev_seq (ev_reg (by simp; rfl) ?_))
    refine ev_block ?_
    refine ev_loop (fun i:Nat=>({ env:=[(2,V.own 2 0 c.length),(4,V.own 4 0 n.length),(119,.fv false (.int .i64 n.length)),(120,.fv false (.int .i64 i))],blk:=[(2,.arr 1 (ints c)),(4,.arr 1 (ints n))] }:St)) (fun i=>n.length-i) (fun i=>i<=n.length/\neg (n.take i)=false/\neg (c.take i)=false) 0 rfl (by simp [neg]) (by simp [R]; omega) (fun i hi=>?_)
    obtain ⟨hi1,hi2,hi3⟩:=hi
    refine ev_seq (ev_reg (by simp; rfl) ?_)
    refine ev_seq (ev_cond rfl (fun hb=>?_) (fun hb=>?_))
    ·simp at hb
     have hic:i < c.length:=by omega
     refine ev_skip ?_
     refine ev_seq (ev_block ?_)
     refine ev_seq (ev_reg (by simp; rfl) ?_)
     refine ev_seq (ev_reg (σ':={ env:=[(2,V.own 2 0 c.length),(4,V.own 4 0 n.length),(119,.fv false (.int .i64 n.length)),(120,.fv false (.int .i64 i)),(134,.fv false (.bool (decide (n[i] < 0)||decide (c[i] < 0))))],blk:=[(2,.arr 1 (ints c)),(4,.arr 1 (ints n))] }) ?_ ?_)
     ·by_cases c1:n[i] < 0
      ·simp [hb,hic,c1,unsetS]
      ·simp [hb,hic,c1]
     have t1:=neg_take n i hb
     have t2:=neg_take c i hic
     rw [hi2] at t1
     rw [hi3] at t2
     simp only [Bool.false_or] at t1 t2
     refine ev_cond rfl (fun hb2=>?_) (fun hb2=>?_)
     ·refine ev_seq (ev_reg (by simp; rfl) ?_)
      refine ev_ret ?_
      have hng:(neg n||neg c)=true:=by
       rw [<-t1,<-t2] at hb2
       simp only [Bool.or_eq_true] at hb2 ⊢
       exact hb2.imp neg_of_take neg_of_take
      rw [if_pos hng] at hcl
      simp [hcl,claimsR]
     ·simp only [Bool.or_eq_false_iff] at hb2
      rw [hb2.1] at t1
      rw [hb2.2] at t2
      refine ev_skip ?_
      refine ev_reg (by simp; rfl) ?_
      refine ⟨i+1,?_,⟨by omega,t1,t2⟩,by omega⟩
      simp
      exact wrap_nat (n:=i+1) (by omega)
    ·simp at hb
     obtain rfl:i=n.length:=by omega
     rw [List.take_length] at hi2
     rw [List.take_of_length_le (by omega)] at hi3
     rw [if_neg (by simp [hi2,hi3])] at hcl
     refine ev_exit ?_
     refine ev_seq (ev_reg (by simp; rfl) ?_)
     refine ev_ret ?_
     simp [hcl,claimsR]
def H55 (ctx:Ctx):Prop:=∀ v:Voy,v.lend.length<=10->(∀ x∈v.lend,0<=x.2/\x.2<=1000)->v.loans.length < 2^44->ctx 55 [(false,voyF v)]=some (claimsR (claimsF v))
end Go.Proofs.YtejodhjhddnbeaaDoor.E
