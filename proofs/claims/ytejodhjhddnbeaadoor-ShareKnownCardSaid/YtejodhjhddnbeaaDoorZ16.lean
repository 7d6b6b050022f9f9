/-
  The chapter of the share: its functions, and what they compute. Conditions: none.
-/
import Derived.Test.YtejodhjhddnbeaaDoorZ14
import Derived.Test.YtejodhjhddnbeaaDoorZ07
set_option linter.unusedVariables false
set_option linter.unusedSimpArgs false
namespace Go.Proofs.YtejodhjhddnbeaaDoor.E
open Go Go.RowKit
structure Pay where
 fr:Int
 to:Int
 sum:Int
def paF (x:Pay):FV:=.agg [.int .i64 x.fr,.int .i64 x.to,.int .i64 x.sum]
def paL (l:List Pay):List FV:=l.map paF
@[simp] theorem paL_length (l:List Pay):(paL l).length=l.length:=by simp [paL]
@[simp] theorem paL_get? (l:List Pay) (i:Nat):(paL l)[i]? = (l[i]?).map paF:=by simp [paL]
@[simp] theorem paL_get (l:List Pay) (i:Nat) (h:i < (paL l).length):(paL l)[i] = .agg [.int .i64 (l[i]'(by simpa using h)).fr,.int .i64 (l[i]'(by simpa using h)).to,.int .i64 (l[i]'(by simpa using h)).sum]:=by simp [paL,paF]
@[simp] theorem paL_take (l:List Pay) (i:Nat):(paL l).take i=paL (l.take i):=by simp [paL,List.map_take]
def payBad (n:Nat) (x:Pay):Bool:=!(decide (0<=x.fr)&&decide (x.fr<=(n:Int)-1))||!(decide (0<=x.to)&&decide (x.to<=(n:Int)-1))||(x.fr==x.to)||decide (x.sum<=0)
def payTo (g:List Int) (a b:Nat) (d:Int):List Int:=(g.set a (IntKind.i64.wrap (g.getD a 0-d))).set b (IntKind.i64.wrap (g.getD b 0+d))
def pay1 (n:Nat) (g:List Int) (x:Pay):Option (List Int):=if payBad n x=true then none else some (payTo g x.fr.toNat x.to.toNat x.sum)
def payAll (n:Nat):List Pay->List Int->Option (List Int)
 | [],g=>some g
 | x :: r,g=>match pay1 n g x with
  | some g'=>payAll n r g'
  | none=>none
theorem payAll_append (n:Nat):∀ (l m:List Pay) (g:List Int),payAll n (l++m) g=match payAll n l g with | some g'=>payAll n m g' | none=>none
 | [],m,g=>rfl
 | x :: r,m,g=>by
  simp only [List.cons_append,payAll]
  split
  ·exact payAll_append n r m _
  ·rfl
theorem payAll_take (n:Nat) (l:List Pay) (g:List Int) (i:Nat) (h:i < l.length):payAll n (l.take (i+1)) g=match payAll n (l.take i) g with | some g'=>pay1 n g' l[i] | none=>none:=by
 rw [List.take_add_one,List.getElem?_eq_getElem h,Option.toList_some,payAll_append]
 split
 ·simp only [payAll]; split<;>simp [*]
 ·rfl
theorem payAll_none (n:Nat) (l:List Pay) (g:List Int) (i:Nat) (h:payAll n (l.take i) g=none):payAll n l g=none:=by
 have:=payAll_append n (l.take i) (l.drop i) g
 rw [List.take_append_drop,h] at this
 exact this
theorem payAll_length {n:Nat}:∀ {l:List Pay} {g g':List Int},payAll n l g=some g'->g'.length=g.length
 | [],g,g',h=>by simp only [payAll,Option.some.injEq] at h; rw [h]
 | x :: r,g,g',h=>by
  simp only [payAll] at h
  split at h
  ·rename_i g1 h1
   rw [payAll_length h]
   unfold pay1 at h1
   split at h1
   ·simp at h1
   ·simp only [Option.some.injEq] at h1
    rw [<-h1]; simp [payTo]
  ·simp at h
def isClearF (bal:List Int) (l:List Pay):Bool×Int :=
 if balances bal=true then (match payAll bal.length l (List.replicate bal.length 0) with | some g=>(decide (g=bal),0) | none=>(false,0)) else (false,33)
theorem bal_len {l:List Int} (h:balances l=true):l.length<=10:=by
 simp only [balances,balTo,Bool.and_eq_true,decide_eq_true_eq] at h
 exact h.1.1
theorem v42 (ctx:Ctx) (hC:CtxOk (pg ctx)) (h46:H46 ctx) (h67:H67 ctx) (bal:List Int) (l:List Pay) (hbl:bal.length < 2^44) (hl:l.length < 2^44) (r0 r1 c0 c1:Bool):Valid Tryd.prog 42 [(r0,.sl c0 1 (ints bal)),(r1,.sl c1 3 (paL l))] [.fv (.bool (isClearF bal l).1),.fv (.int .i64 (isClearF bal l).2)]:=by
 refine valid_of_ev (G:=pg ctx) (tok ctx) hC mixed Tryd.func42 T42 L42 (by simp [Tryd.ntmps42]) ⟨_,rfl,?_⟩
 simp only [Tryd.ntmps42,Tryd.results42,initSt,initEnv]
 have e67:=h67 bal r0 c0 hbl
 refine ev_seq (ev_reg (by simp; rfl) ?_)
 refine ev_seq (ev_seq (ev_reg (by simp [e67]; rfl) ?_))
 refine ev_cond rfl (fun hb=>?_) (fun hb=>?_)
 ·simp at hb
  refine ev_seq (ev_reg (by simp; rfl) ?_)
  refine ev_ret ?_
  simp [isClearF,hb]
 ·simp at hb
  have hb10:=bal_len hb
  have hcl:isClearF bal l=match payAll bal.length l (List.replicate bal.length 0) with | some g=>(decide (g=bal),0) | none=>(false,0):=by unfold isClearF; rw [if_pos hb]
  refine ev_skip ?_
  have hbd:(8*(bal.length:Int))<=281474976710656:=by omega
  have hbd2:(bal.length:Int)<=9223372036854775807:=by omega
  refine ev_seq (ev_reg (by simp [hbd,hbd2]; rfl) ?_)
  refine ev_seq (ev_seq (ev_reg (by simp; rfl) ?_))
  refine ev_block ?_
  refine ev_loop (fun x:Nat×List Int=>({ env:=[(0,V.fv r0 (.sl c0 1 (ints bal))),(6,V.own 6 0 bal.length),(17,V.fv r1 (.sl c1 3 (paL l))),(18,.fv false (.int .i64 l.length)),(19,.fv false (.int .i64 x.1))],blk:=[(6,.arr 1 (ints x.2))] }:St)) (fun x=>l.length-x.1) (fun x=>x.1<=l.length/\payAll bal.length (l.take x.1) (List.replicate bal.length 0)=some x.2) (0,List.replicate bal.length 0) (by simp [ints]) ⟨by omega,rfl⟩ (by simp [R]; omega) (fun x hx=>?_)
  obtain ⟨i,g⟩:=x
  obtain ⟨hi,hx⟩:=hx
  simp only at hi hx ⊢
  have hgl:g.length=bal.length:=by have:=payAll_length hx; simpa using this
  refine ev_seq (ev_reg (by simp; rfl) ?_)
  refine ev_seq (ev_cond rfl (fun hb=>?_) (fun hb=>?_))
  ·simp at hb
   refine ev_skip ?_
   refine ev_seq (ev_block ?_)
   refine ev_seq (ev_reg (by simp [hb]; rfl) ?_)
   generalize hxe:l[i]=x
   have hbad:payBad bal.length x=(!(decide (0<=x.fr)&&decide (x.fr<=(bal.length:Int)-1))||!(decide (0<=x.to)&&decide (x.to<=(bal.length:Int)-1))||(x.fr==x.to)||decide (x.sum<=0)):=rfl
   have hw:IntKind.i64.wrap ((bal.length:Int)-1)=(bal.length:Int)-1:=wrap_id (by omega) (by omega)
   have e1:ctx 46 [(false,.int .i64 x.fr),(false,.int .i64 0),(false,.int .i64 ((bal.length:Int)-1))]=some [.fv (.bool (decide (0<=x.fr)&&decide (x.fr<=(bal.length:Int)-1)))]:=h46 _ _ _ _ _ _
   have e2:ctx 46 [(false,.int .i64 x.to),(false,.int .i64 0),(false,.int .i64 ((bal.length:Int)-1))]=some [.fv (.bool (decide (0<=x.to)&&decide (x.to<=(bal.length:Int)-1)))]:=h46 _ _ _ _ _ _
   refine ev_seq (ev_seq (ev_reg (σ':={ env:=[(0,V.fv r0 (.sl c0 1 (ints bal))),(6,V.own 6 0 bal.length),(8,V.ptr 8 0),(17,V.fv r1 (.sl c1 3 (paL l))),(18,.fv false (.int .i64 l.length)),(19,.fv false (.int .i64 i)),(50,.fv false (.bool (payBad bal.length x)))],blk:=[(6,.arr 1 (ints g)),(8,.box [.fv false (.int .i64 x.fr),.fv false (.int .i64 x.to),.fv false (.int .i64 x.sum)])] }) ?_ ?_))
   ·have hk:payBad bal.length x=true\/(0<=x.fr/\x.fr<=(bal.length:Int)-1)/\(0<=x.to/\x.to<=(bal.length:Int)-1):=by
     rw [hbad]; simp; omega
    rw [hbad]
    generalize (decide (0<=x.fr)&&decide (x.fr<=(bal.length:Int)-1))=d1 at e1
    generalize (decide (0<=x.to)&&decide (x.to<=(bal.length:Int)-1))=d2 at e2
    cases d1
    ·simp [hw,e1,unsetS]
    ·cases d2
     ·simp [hw,e1,e2,unsetS]
     ·by_cases c3:x.fr=x.to
      ·have c4:(x.fr==x.to)=true:=by simp [c3]
       simp [hw,e1,e2,c4,unsetS]
      ·have c4:(x.fr==x.to)=false:=by simp [c3]
       simp [hw,e1,e2,c4]
   have htake:payAll bal.length (l.take (i+1)) (List.replicate bal.length 0)=pay1 bal.length g x:=by
    have:=payAll_take bal.length l (List.replicate bal.length 0) i hb
    rw [hx,hxe] at this
    exact this
   refine ev_cond rfl (fun hb3=>?_) (fun hb3=>?_)
   ·refine ev_seq (ev_reg (by simp; rfl) ?_)
    refine ev_ret ?_
    have h1:pay1 bal.length g x=none:=by unfold pay1; rw [if_pos hb3]
    rw [h1] at htake
    rw [payAll_none _ _ _ _ htake] at hcl
    simp [hcl]
   ·rw [hbad] at hb3
    simp only [Bool.or_eq_false_iff,Bool.not_eq_false',Bool.and_eq_true,decide_eq_true_eq,beq_eq_false_iff_ne,decide_eq_false_iff_not] at hb3
    obtain ⟨⟨⟨k1,k2⟩,k3⟩,k4⟩:=hb3
    have h1:pay1 bal.length g x=some (payTo g x.fr.toNat x.to.toNat x.sum):=by unfold pay1; rw [if_neg (by rw [hbad]; simp; omega)]
    rw [h1] at htake
    obtain ⟨p,ep⟩:∃ p:Nat,x.fr=p:=⟨x.fr.toNat,by omega⟩
    obtain ⟨q,eq⟩:∃ q:Nat,x.to=q:=⟨x.to.toNat,by omega⟩
    have hpq:p≠q:=fun e=>k3 (by rw [ep,eq,e])
    have hpn:p < g.length:=by omega
    have hqn:q < g.length:=by omega
    have hpn':p < bal.length:=by omega
    have hqn':q < bal.length:=by omega
    have hu:payTo g x.fr.toNat x.to.toNat x.sum=(g.set p (IntKind.i64.wrap (g[p]-x.sum))).set q (IntKind.i64.wrap (g[q]+x.sum)):=by rw [ep,eq]; simp [payTo,List.getD_eq_getElem?_getD,hpn,hqn]
    rw [hu] at htake
    have hset:(g.set p (IntKind.i64.wrap (g[p]-x.sum)))[q]'(by simpa using hqn)=g[q]:=List.getElem_set_ne hpq _
    have hset':(g.set p (IntKind.i64.wrap (g[p]-x.sum)))[q]? = some g[q]:=by rw [List.getElem?_eq_getElem (by simpa using hqn),hset]
    refine ev_skip ?_
    refine ev_seq (ev_drw rfl (by kernel_rfl) (by kernel_rfl) (by simp [ep,hpn,hpn']; rfl) ?_)
    refine ev_drw rfl (by kernel_rfl) (by kernel_rfl) (by simp [eq,hqn,hqn',hset,hset']; rfl) ?_
    refine ev_reg (by simp; rfl) ?_
    refine ⟨(i+1,_),?_,⟨by simp only; omega,htake⟩,by simp only; omega⟩
    simp
    exact wrap_nat (n:=i+1) (by omega)
  ·simp at hb
   obtain rfl:i=l.length:=by omega
   rw [List.take_length] at hx
   rw [hx] at hcl
   simp only at hcl
   refine ev_exit ?_
   refine ev_seq (ev_seq (ev_reg (by simp; rfl) ?_))
   refine ev_block ?_
   refine ev_loop (fun i:Nat=>({ env:=[(6,V.own 6 0 bal.length),(70,V.fv r0 (.sl c0 1 (ints bal))),(71,.fv false (.int .i64 bal.length)),(72,.fv false (.int .i64 i))],blk:=[(6,.arr 1 (ints g))] }:St)) (fun i=>bal.length-i) (fun i=>i<=bal.length/\g.take i=bal.take i) 0 rfl (by simp) (by simp [R]; omega) (fun i hi=>?_)
   obtain ⟨hi1,hi2⟩:=hi
   refine ev_seq (ev_reg (by simp; rfl) ?_)
   refine ev_seq (ev_cond rfl (fun hb=>?_) (fun hb=>?_))
   ·simp at hb
    have hig:i < g.length:=by omega
    refine ev_skip ?_
    refine ev_seq (ev_block ?_)
    refine ev_seq (ev_reg (by simp [hb]; rfl) ?_)
    refine ev_seq (ev_reg (by simp [hb,hig]; rfl) ?_)
    refine ev_cond rfl (fun hb2=>?_) (fun hb2=>?_)
    ·have hne:g[i]≠bal[i]:=by simpa using hb2
     have hgb:g≠bal:=fun e=>hne (by subst e; rfl)
     refine ev_seq (ev_reg (by simp; rfl) ?_)
     refine ev_ret ?_
     simp [hcl,hgb]
    ·have he:g[i]=bal[i]:=by simpa using hb2
     refine ev_skip ?_
     refine ev_reg (by simp; rfl) ?_
     refine ⟨i+1,?_,⟨by omega,?_⟩,by omega⟩
     ·simp
      exact wrap_nat (n:=i+1) (by omega)
     ·rw [List.take_add_one,List.take_add_one,hi2,List.getElem?_eq_getElem hig,List.getElem?_eq_getElem hb,he]
   ·simp at hb
    obtain rfl:i=bal.length:=by omega
    rw [List.take_length,List.take_of_length_le (by omega)] at hi2
    refine ev_exit ?_
    refine ev_seq (ev_reg (by simp; rfl) ?_)
    refine ev_ret ?_
    simp [hcl,hi2]
def H42 (ctx:Ctx):Prop:=∀ (bal:List Int) (l:List Pay) (r0 r1 c0 c1:Bool),bal.length < 2^44->l.length < 2^44->ctx 42 [(r0,.sl c0 1 (ints bal)),(r1,.sl c1 3 (paL l))]=some [.fv (.bool (isClearF bal l).1),.fv (.int .i64 (isClearF bal l).2)]
def clr (s i:Nat):Nat:=s ^^^ (s &&& 2 ^ i)
theorem clr_bit (s i j:Nat):(clr s i).testBit j=(s.testBit j&&!decide (i=j)):=by
 simp only [clr,Nat.testBit_xor,Nat.testBit_and,Nat.testBit_two_pow]
 cases s.testBit j<;>cases decide (i=j)<;>rfl
theorem clr_le (s i:Nat):clr s i<=s:=by
 refine Nat.le_of_testBit fun j hj=>?_
 rw [clr_bit] at hj
 simp only [Bool.and_eq_true] at hj
 exact hj.1
theorem ofInt_nat {s:Nat}:BitVec.ofInt 64 (s:Int)=BitVec.ofNat 64 s:=by
 exact BitVec.ofInt_natCast ..
theorem bit_facts (s i:Nat) (hs:s < 2^62) (hi:i < 62):∃ q,fshift .shr .i64 (s:Int) (i:Int)=some (.int .i64 q)/\∃ r,fint .and .i64 q 1=some (.int .i64 r)/\fint .eql .i64 r 1=some (.bool (s.testBit i))/\fint .eql .i64 r 0=some (.bool (!s.testBit i)):=by
 refine ⟨((s / 2^i:Nat):Int),?_,((s / 2^i % 2:Nat):Int),?_,?_,?_⟩
 ·simp only [fshift]
  rw [if_neg (by omega)]
  have hm:min ((i:Int).toNat) (IntKind.i64).bits=i:=by
   have:(IntKind.i64).bits=64:=rfl
   rw [this]; simp only [Int.toNat_natCast]; omega
  rw [hm]
  congr 1
  rw [Int.fdiv_eq_ediv_of_nonneg _ (by exact Int.le_of_lt (Int.pow_pos (by omega)))]
  simp
 ·simp only [fint]
  congr 2
  have e1:(1:Int)=((1:Nat):Int):=rfl
  show IntKind.i64.wrap ((BitVec.ofInt 64 ((s / 2^i:Nat):Int) &&& BitVec.ofInt 64 ((1:Nat):Int)).toNat)=_
  rw [ofInt_nat,ofInt_nat,BitVec.toNat_and,BitVec.toNat_ofNat,BitVec.toNat_ofNat]
  have h1:s / 2^i<=s:=Nat.div_le_self _ _
  rw [Nat.mod_eq_of_lt (show s / 2^i < 2^64 by omega),Nat.mod_eq_of_lt (show 1 < 2^64 by omega),Nat.and_one_is_mod]
  exact wrap_nat (by omega)
 ·simp only [fint,fcmp,Option.map_some]
  congr 2
  rw [Nat.testBit_eq_decide_div_mod_eq]
  have hm:s / 2^i % 2 < 2:=Nat.mod_lt _ (by omega)
  generalize s / 2^i % 2=m at hm
  rw [Bool.eq_iff_iff]
  simp only [beq_iff_eq,decide_eq_true_eq]
  omega
 ·simp only [fint,fcmp,Option.map_some]
  congr 2
  rw [Nat.testBit_eq_decide_div_mod_eq]
  have hm:s / 2^i % 2 < 2:=Nat.mod_lt _ (by omega)
  generalize s / 2^i % 2=m at hm
  rw [Bool.eq_iff_iff]
  simp only [beq_iff_eq,Bool.not_eq_true',decide_eq_false_iff_not]
  omega
theorem shl_fact (i:Nat) (hi:i < 62):fshift .shl .i64 1 (i:Int)=some (.int .i64 ((2^i:Nat):Int)):=by
 simp only [fshift]
 rw [if_neg (by omega)]
 have hm:min ((i:Int).toNat) (IntKind.i64).bits=i:=by
  have:(IntKind.i64).bits=64:=rfl
  rw [this]; simp only [Int.toNat_natCast]; omega
 rw [hm,Int.one_mul]
 have h2:(2:Nat)^i < 2^62:=Nat.pow_lt_pow_right (by omega) hi
 have:((2:Int)^i)=((2^i:Nat):Int):=by simp
 rw [this,wrap_nat (by omega)]
theorem clr_facts (s i:Nat) (hs:s < 2^62) (hi:i < 62):∃ q,fshift .shl .i64 1 (i:Int)=some (.int .i64 q)/\fint .andNot .i64 (s:Int) q=some (.int .i64 ((clr s i:Nat):Int)):=by
 refine ⟨_,shl_fact i hi,?_⟩
 simp only [fint]
 congr 2
 show IntKind.i64.wrap ((BitVec.ofInt 64 ((s:Nat):Int) &&& ~~~BitVec.ofInt 64 ((2^i:Nat):Int)).toNat)=_
 have hc:clr s i < 2^62:=Nat.lt_of_le_of_lt (clr_le s i) hs
 have h2:(2:Nat)^i < 2^62:=Nat.pow_lt_pow_right (by omega) hi
 have:(BitVec.ofInt 64 ((s:Nat):Int) &&& ~~~BitVec.ofInt 64 ((2^i:Nat):Int)).toNat=clr s i:=by
  rw [ofInt_nat,ofInt_nat]
  refine Nat.eq_of_testBit_eq fun j=>?_
  rw [BitVec.testBit_toNat,clr_bit,BitVec.getLsbD_and,BitVec.getLsbD_not,BitVec.getLsbD_ofNat,BitVec.getLsbD_ofNat,Nat.testBit_two_pow]
  by_cases hj:j < 64
  ·simp [hj]
  ·have:s.testBit j=false:=Nat.testBit_lt_two_pow (Nat.lt_of_lt_of_le hs (Nat.pow_le_pow_right (by omega) (by omega)))
   simp [hj,this]
 rw [this,wrap_nat (by omega)]
theorem or_facts (s i:Nat) (hs:s < 2^62) (hi:i < 62):∃ q,fshift .shl .i64 1 (i:Int)=some (.int .i64 q)/\fint .or .i64 (s:Int) q=some (.int .i64 ((s ||| 2^i:Nat):Int)):=by
 refine ⟨_,shl_fact i hi,?_⟩
 simp only [fint]
 congr 2
 show IntKind.i64.wrap ((BitVec.ofInt 64 ((s:Nat):Int) ||| BitVec.ofInt 64 ((2^i:Nat):Int)).toNat)=_
 have h2:(2:Nat)^i < 2^62:=Nat.pow_lt_pow_right (by omega) hi
 have h3:s ||| 2^i < 2^62:=Nat.or_lt_two_pow hs h2
 rw [ofInt_nat,ofInt_nat,BitVec.toNat_or,BitVec.toNat_ofNat,BitVec.toNat_ofNat,Nat.mod_eq_of_lt (by omega),Nat.mod_eq_of_lt (by omega),wrap_nat (by omega)]
def sumTo (bal:List Int) (nums:List Nat) (set i:Nat):Int:=((List.range i).filter fun k=>set.testBit k).foldl (fun n k=>IntKind.i64.wrap (n+bal.getD (nums.getD k 0) 0)) 0
def sumS (bal:List Int) (nums:List Nat) (set:Nat):Int:=sumTo bal nums set nums.length
theorem sumTo_succ (bal:List Int) (nums:List Nat) (set i:Nat):sumTo bal nums set (i+1)=if set.testBit i=true then IntKind.i64.wrap (sumTo bal nums set i+bal.getD (nums.getD i 0) 0) else sumTo bal nums set i:=by
 unfold sumTo
 rw [List.range_succ,List.filter_append,List.foldl_append]
 cases h:set.testBit i<;>simp [h]
def memTo (nums:List Nat) (set i:Nat):List Nat:=((List.range i).filter fun k=>set.testBit k).map fun k=>nums.getD k 0
def memS (nums:List Nat) (set:Nat):List Nat:=memTo nums set nums.length
theorem memTo_succ (nums:List Nat) (set i:Nat):memTo nums set (i+1)=if set.testBit i=true then memTo nums set i++[nums.getD i 0] else memTo nums set i:=by
 unfold memTo
 rw [List.range_succ,List.filter_append,List.map_append]
 cases h:set.testBit i<;>simp [h]
theorem memTo_length (nums:List Nat) (set i:Nat):(memTo nums set i).length<=i:=by
 unfold memTo
 rw [List.length_map]
 exact Nat.le_trans (List.length_filter_le _ _) (by simp)
theorem natL_append (a b:List Nat):natL (a++b)=natL a++natL b:=by simp [natL]
def bookF (bal:List Int) (nums:List Nat) (c1 c2:Bool) (sz:Nat):FV:=.agg [.sl c1 1 (ints bal),.sl c2 sz (ints (natL nums)),.top]
theorem nat_get (nums:List Nat) (i:Nat) (h:i < nums.length):(natL nums)[i]'(by simpa using h)=(nums[i]:Int):=by simp [natL]
theorem v86 (ctx:Ctx) (hC:CtxOk (pg ctx)) (bal:List Int) (nums:List Nat) (set:Nat) (hs:set < 2^62) (hn:nums.length<=10) (hm:∀ q∈nums,q < bal.length) (r1 r2 c1 c2:Bool) (sz:Nat) (hsz:nums=[]\/sz=1):Valid Tryd.prog 86 [(r1,bookF bal nums c1 c2 sz),(r2,.int .i64 set)] [.fv (.int .i64 (sumS bal nums set))]:=by
 refine valid_of_ev (G:=pg ctx) (tok ctx) hC mixed Tryd.func86 T86 L86 (by simp [Tryd.ntmps86]) ⟨_,rfl,?_⟩
 simp only [Tryd.ntmps86,Tryd.results86,initSt,initEnv,bookF]
 refine ev_seq (ev_reg (by simp; rfl) ?_)
 refine ev_seq (ev_reg (by simp; rfl) ?_)
 refine ev_seq (ev_seq (ev_reg (by simp; rfl) ?_))
 refine ev_block ?_
 refine ev_loop (fun i:Nat=>({ env:=[(1,V.fv r2 (.int .i64 set)),(2,V.ptr 2 0),(5,.fv false (.int .i64 (sumTo bal nums set i))),(9,.fv r1 (.sl c2 sz (ints (natL nums)))),(10,.fv false (.int .i64 nums.length)),(11,.fv false (.int .i64 i))],blk:=[(2,.box [.fv r1 (.sl c1 1 (ints bal)),.fv r1 (.sl c2 sz (ints (natL nums))),.fv false .top])] }:St)) (fun i=>nums.length-i) (fun i=>i<=nums.length) 0 (by simp [sumTo]) (by simp) (by simp [R]; omega) (fun i hi=>?_)
 refine ev_seq (ev_reg (by simp; rfl) ?_)
 refine ev_seq (ev_cond rfl (fun hb=>?_) (fun hb=>?_))
 ·simp at hb
  obtain rfl:sz=1:=by
   rcases hsz with rfl | h
   ·simp at hb
   ·exact h
  have hq:nums[i] < bal.length:=hm _ (List.getElem_mem hb)
  have hg:=nat_get nums i hb
  have hst:=sumTo_succ bal nums set i
  have hgd:bal.getD (nums.getD i 0) 0=bal[nums[i]]:=by simp [List.getD_eq_getElem?_getD,hb,hq]
  rw [hgd] at hst
  refine ev_skip ?_
  refine ev_seq (ev_block ?_)
  refine ev_seq (ev_reg (by simp [hb,hg]; rfl) ?_)
  obtain ⟨q,f1,r,f2,f3,_⟩:=bit_facts set i hs (by omega)
  refine ev_seq (ev_reg (by simp [-fint,f1,f2,f3]; rfl) ?_)
  refine ev_cond rfl (fun hb2=>?_) (fun hb2=>?_)
  ·rw [if_pos hb2] at hst
   refine ev_reg (by simp [hq]; rfl) ?_
   refine ev_reg (by simp; rfl) ?_
   refine ⟨i+1,?_,by omega,by omega⟩
   simp [hst]
   exact wrap_nat (n:=i+1) (by omega)
  ·rw [if_neg (by simp [hb2])] at hst
   refine ev_skip ?_
   refine ev_reg (by simp; rfl) ?_
   refine ⟨i+1,?_,by omega,by omega⟩
   simp [hst]
   exact wrap_nat (n:=i+1) (by omega)
 ·simp at hb
  obtain rfl:i=nums.length:=by omega
  refine ev_exit ?_
  refine ev_seq (ev_reg (by simp; rfl) ?_)
  refine ev_ret ?_
  simp [sumS]
def H86 (ctx:Ctx):Prop:=∀ (bal:List Int) (nums:List Nat) (set:Nat) (r1 r2 c1 c2:Bool) (sz:Nat),set < 2^62->nums.length<=10->(∀ q∈nums,q < bal.length)->(nums=[]\/sz=1)->ctx 86 [(r1,bookF bal nums c1 c2 sz),(r2,.int .i64 set)]=some [.fv (.int .i64 (sumS bal nums set))]
theorem v70 (ctx:Ctx) (hC:CtxOk (pg ctx)) (bal:List Int) (nums:List Nat) (hn:nums.length<=10) (r1 c1 c2:Bool) (sz:Nat):Valid Tryd.prog 70 [(r1,bookF bal nums c1 c2 sz)] [.fv (.int .i64 ((2^nums.length-1:Nat):Int))]:=by
 refine valid_of_ev (G:=pg ctx) (tok ctx) hC mixed Tryd.func70 T70 L70 (by simp [Tryd.ntmps70]) ⟨_,rfl,?_⟩
 simp only [Tryd.ntmps70,Tryd.results70,initSt,initEnv,bookF]
 have f1:=shl_fact nums.length (by omega)
 have h1:1<=(2:Nat)^nums.length:=Nat.one_le_two_pow
 have h2:(2:Nat)^nums.length<=2^10:=Nat.pow_le_pow_right (by omega) hn
 have f2:fint .sub .i64 ((2^nums.length:Nat):Int) 1=some (.int .i64 ((2^nums.length-1:Nat):Int)):=by
  simp only [fint]
  congr 2
  rw [wrap_id (by omega) (by omega)]
  omega
 generalize hp:((2^nums.length:Nat):Int)=p at f1 f2
 generalize hp:((2^nums.length-1:Nat):Int)=p' at f2
 refine ev_seq (ev_reg (by simp; rfl) ?_)
 refine ev_seq (ev_reg (by simp [-fint,f1,f2]; rfl) ?_)
 refine ev_ret ?_
 simp
def H70 (ctx:Ctx):Prop:=∀ (bal:List Int) (nums:List Nat) (r1 c1 c2:Bool) (sz:Nat),nums.length<=10->ctx 70 [(r1,bookF bal nums c1 c2 sz)]=some [.fv (.int .i64 ((2^nums.length-1:Nat):Int))]
theorem v71 (ctx:Ctx) (hC:CtxOk (pg ctx)) (bal:List Int) (nums:List Nat) (set:Nat) (hs:set < 2^62) (hn:nums.length<=10) (r1 r2 c1 c2:Bool) (sz:Nat) (hsz:nums=[]\/sz=1):Valid Tryd.prog 71 [(r1,bookF bal nums c1 c2 sz),(r2,.int .i64 set)] [.us 1 (ints (natL (memS nums set)))]:=by
 refine valid_of_ev (G:=pg ctx) (tok ctx) hC mixed Tryd.func71 T71 L71 (by simp [Tryd.ntmps71]) ⟨_,rfl,?_⟩
 simp only [Tryd.ntmps71,Tryd.results71,initSt,initEnv,bookF]
 refine ev_seq (ev_reg (by simp; rfl) ?_)
 refine ev_seq (ev_reg (by simp; rfl) ?_)
 refine ev_seq (ev_seq (ev_reg (by simp; rfl) ?_))
 refine ev_block ?_
 refine ev_loop (fun i:Nat=>({ env:=[(1,V.fv r2 (.int .i64 set)),(5,.own 5 0 (memTo nums set i).length),(9,.fv r1 (.sl c2 sz (ints (natL nums)))),(10,.fv false (.int .i64 nums.length)),(11,.fv false (.int .i64 i))],blk:=[(5,.arr 1 (ints (natL (memTo nums set i))))] }:St)) (fun i=>nums.length-i) (fun i=>i<=nums.length) 0 (by simp [memTo,natL]) (by simp) (by simp [R]; omega) (fun i hi=>?_)
 refine ev_seq (ev_reg (by simp; rfl) ?_)
 refine ev_seq (ev_cond rfl (fun hb=>?_) (fun hb=>?_))
 ·simp at hb
  obtain rfl:sz=1:=by
   rcases hsz with rfl | h
   ·simp at hb
   ·exact h
  have hg:=nat_get nums i hb
  have hst:=memTo_succ nums set i
  have hgd:nums.getD i 0=nums[i]:=by simp [List.getD_eq_getElem?_getD,hb]
  rw [hgd] at hst
  have hml:=memTo_length nums set i
  refine ev_skip ?_
  refine ev_seq (ev_block ?_)
  refine ev_seq (ev_reg (by simp [hb,hg]; rfl) ?_)
  obtain ⟨q,f1,r,f2,f3,_⟩:=bit_facts set i hs (by omega)
  refine ev_seq (ev_reg (by simp [-fint,f1,f2,f3]; rfl) ?_)
  refine ev_cond rfl (fun hb2=>?_) (fun hb2=>?_)
  ·rw [if_pos hb2] at hst
   have hbd:((memTo nums set i).length+1)*8<=140737488355328:=by omega
   refine ev_reg (by simp [hbd]; rfl) ?_
   refine ev_reg (by simp; rfl) ?_
   refine ⟨i+1,?_,by omega,by omega⟩
   simp [hst,natL_append]
   exact ⟨wrap_nat (n:=i+1) (by omega),rfl⟩
  ·rw [if_neg (by simp [hb2])] at hst
   refine ev_skip ?_
   refine ev_reg (by simp; rfl) ?_
   refine ⟨i+1,?_,by omega,by omega⟩
   simp [hst]
   exact wrap_nat (n:=i+1) (by omega)
 ·simp at hb
  obtain rfl:i=nums.length:=by omega
  refine ev_exit ?_
  refine ev_seq (ev_reg (by simp; rfl) ?_)
  refine ev_ret ?_
  simp [memS]
def H71 (ctx:Ctx):Prop:=∀ (bal:List Int) (nums:List Nat) (set:Nat) (r1 r2 c1 c2:Bool) (sz:Nat),set < 2^62->nums.length<=10->(nums=[]\/sz=1)->ctx 71 [(r1,bookF bal nums c1 c2 sz),(r2,.int .i64 set)]=some [.us 1 (ints (natL (memS nums set)))]
abbrev Memo:=List (Nat×Int)
def memE (m:Memo):List (FV×V):=m.map fun p=>(.int .i64 p.1,.fv false (.int .i64 p.2))
@[simp] theorem memE_kill (m:Memo) (ns:List Nat):(memE m).map (fun e=>(e.1,killV ns e.2))=memE m:=by simp [memE,killV,ment]
@[simp] theorem memE_ren (m:Memo) (s k n:Nat):(memE m).map (fun e=>(e.1,renV s k (n+1) e.2))=memE m:=by simp [memE,renV]
@[simp] theorem memE_any (m:Memo) (n s:Nat):(((memE m).map fun x=>x.2).any (ment (n+1) s))=false:=by simp [memE,ment]
@[simp] theorem memE_any' (m:Memo) (n s:Nat):((memE m).any (ment (n+1) s ∘ fun x=>x.2))=false:=by simp [memE,ment]
def idxM (m:Memo) (s:Nat):Option Nat:=m.findIdx? fun p=>p.1==s
def lookM (m:Memo) (s:Nat):Option Int:=(idxM m s).map fun i=>(m.getD i (0,0)).2
def insM (m:Memo) (s:Nat) (v:Int):Memo:=match idxM m s with
 | some i=>m.set i (s,v)
 | none=>m++[(s,v)]
theorem findF_memE {G:Pg} (hG:G.tbl=tbl) (s:Nat):∀ (m:Memo) (j:Nat),findF (kmatch G 3 (.int .i64 (s:Int))) j (memE m)=some ((idxM m s).map fun i=>(j+i,.fv false (.int .i64 (m.getD i (0,0)).2)))
 | [],j=>rfl
 | (k,v) :: r,j=>by
  have ih:=findF_memE hG s r (j+1)
  have hk:kmatch G 3 (.int .i64 (s:Int)) (.int .i64 (k:Int))=some ((s:Int)==(k:Int)):=by simp [kmatch,hG]
  simp only [memE,List.map_cons,findF,hk]
  simp only [memE] at ih
  by_cases e:s=k
  ·subst e
   simp [idxM,List.findIdx?_cons]
  ·have h1:((s:Int)==(k:Int))=false:=by simp; omega
   have h2:(k==s)=false:=by simp; omega
   simp only [h1]
   rw [ih]
   simp only [idxM,List.findIdx?_cons,h2]
   cases r.findIdx? (fun p=>p.1==s) with
   | none=>rfl
   | some i=>simp [Nat.add_comm,Nat.add_left_comm]
theorem keyOK_memE {G:Pg} (hG:G.tbl=tbl) (s:Nat):keyOK G 3 (.int .i64 (s:Int))=true:=by simp [keyOK,kmatch,hG]
def pcK (set K:Nat):Nat:=((List.range K).filter fun k=>set.testBit k).length
theorem pcK_clr {set K i:Nat} (h:set.testBit i=true) (hi:i < K):pcK (clr set i) K < pcK set K:=by
 refine filter_less (i:=i) (fun x hx=>?_) h ?_ (List.mem_range.2 hi)
 ·rw [clr_bit] at hx
  simp only [Bool.and_eq_true] at hx
  exact hx.1
 ·rw [clr_bit]; simp
def fillK (F:Nat->Memo->Int×Memo) (set:Nat):Nat->Int×Memo->Int×Memo
 | 0,s=>s
 | i+1,s=>let t:=fillK F set i s
  if set.testBit i=true then (max t.1 (F (clr set i) t.2).1,(F (clr set i) t.2).2) else t
def fillN (bal:List Int) (nums:List Nat):Nat->Nat->Memo->Int×Memo
 | 0,_,m=>(0,m)
 | n+1,set,m=>match lookM m set with
  | some v=>(v,m)
  | none=>if set=0 then (0,m) else
   let t:=fillK (fillN bal nums n) set nums.length (0,m)
   let b:=if sumS bal nums set=0 then IntKind.i64.wrap (t.1+1) else t.1
   (b,insM t.2 set b)
def bsF (ro c1:Bool) (bal:List Int) (nums:List Nat) (m:Memo):List (Nat×Blk) :=
 [(0,.box [.fv ro (.sl c1 1 (ints bal)),.own 2 0 nums.length,.map 3]),(1,.box [.fn (.func 85) [] [.ptr 0 0,.ptr 1 0]]),(2,.arr 1 (ints (natL nums))),(3,.mp (memE m))]
end Go.Proofs.YtejodhjhddnbeaaDoor.E
