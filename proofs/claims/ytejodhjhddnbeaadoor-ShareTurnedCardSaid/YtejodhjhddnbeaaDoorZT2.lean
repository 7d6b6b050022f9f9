/-
  Stakes turned (ShareTurned): in whatever order stakes are told, each name gets the same; if all weights are so many times as great, too, for any sum and stakes; numbers choose the order, and how many times. Conditions: none.
-/
import Derived.Test.YtejodhjhddnbeaaDoorZ25
import Derived.Test.YtejodhjhddnbeaaDoorZT1
set_option linter.unusedVariables false
set_option linter.unusedSimpArgs false
namespace Go.Proofs.YtejodhjhddnbeaaDoor.E
open Go Go.RowKit
theorem divide_ok {all:Int} {l:List Stk} (h:(divideF all l).2=0):DivOk all l/\(0<=all/\all<=10000000)/\stakesOk l=true/\0 < (wts l).sum/\(divideF all l).1=divF all l:=by
 unfold divideF at h ⊢
 split at h
 ·rename_i h1
  split at h
  ·rename_i h2
   rw [if_pos h1,if_pos h2]
   exact ⟨divOk_of h1.1 h1.2 h2.1 h2.2,h1,h2.1,h2.2,rfl⟩
  ·simp at h
 ·simp at h
theorem divide_bad {all:Int} {l:List Stk} (h:(divideF all l).2≠0):(divideF all l).1=[]:=by
 unfold divideF at h ⊢
 split
 ·split
  ·rename_i h1 h2
   rw [if_pos h1,if_pos h2] at h
   exact absurd rfl h
  ·rfl
 ·rfl
theorem divide_of {all:Int} {l:List Stk} (h1:0<=all/\all<=10000000) (h2:stakesOk l=true) (h3:0 < (wts l).sum):divideF all l=(divF all l,0):=by
 unfold divideF
 rw [if_pos h1,if_pos ⟨h2,h3⟩]
theorem modI_range5 (n:Int):0<=modI n 5/\modI n 5 < 5:=by
 rw [modI_emod (by omega) (by omega)]
 omega
theorem swap_perm {α:Type}:∀ {l:List α} {i:Nat} (h:i+1 < l.length),((l.set i l[i+1]).set (i+1) (l[i]'(by omega))).Perm l
 | [],_,h=>by simp at h
 | [x],_,h=>by simp at h
 | x :: y :: l,0,_=>by simpa using List.Perm.swap x y l
 | x :: l,i+1,h=>by
  have h':i+1 < l.length:=by simpa using h
  simpa using (swap_perm (l:=l) (i:=i) h').cons x
theorem turn_perm {α:Type} (l:List α) (f:Nat):(l.drop f++l.take f).Perm l:=by
 have:=List.take_append_drop f l
 conv=>rhs; rw [<-this]
 exact List.perm_append_comm
def st7 (all:Int) (r0 c:Bool) (l t:List Stk) (d:List Int) (n0 n1:Int) (e:List (Nat×V)):St:={ env:=[(0,.fv r0 (.int .i64 all)),(1,.fv false (.sl c 2 (stL l))),(5,.ptr 5 0),(7,.own 7 0 l.length),(10,.own 10 0 l.length)]++e,blk:=[(5,.box [.fv false (.int .i64 n0),.fv false (.int .i64 n1)]),(7,.arr 1 (ints d)),(10,.arr 2 (stL t))] }
set_option maxHeartbeats 3200000 in
theorem v7 (ctx:Ctx) (hC:CtxOk (pg ctx)) (h15:H15 ctx) (h17:H17 ctx) (h18:H18 ctx) (h28:H28 ctx) (h32:H32 ctx) (all:Int) (l:List Stk) (n0 n1:Int) (hl:l.length < 2^44) (r0 c:Bool):Valid Tryd.prog 7 [(r0,.int .i64 all),(false,.sl c 2 (stL l)),(false,.agg [.int .i64 n0,.int .i64 n1])] [.fv (.bool true)]:=by
 refine valid_of_ev (G:=pg ctx) (tok ctx) hC mixed Tryd.func7 T7 L7 (by simp [Tryd.ntmps7]) ⟨_,rfl,?_⟩
 simp only [Tryd.ntmps7,Tryd.results7,initSt,initEnv]
 have e18:ctx 18 []=some [.fv (.bool true)]:=h18
 have e15:∀ r r2 c,ctx 15 [(r,.int .i64 all),(r2,.sl c 2 (stL l))]=some [.us 1 (ints (divideF all l).1),.fv (.int .i64 (divideF all l).2)]:=fun r r2 c=>h15 all l r r2 c hl
 refine ev_seq (ev_reg (by simp; rfl) ?_)
 by_cases h0:(divideF all l).2=0
 ·obtain ⟨hd,ha,hs,hp,he⟩:=divide_ok h0
  have hll:=hd.len
  rw [h0,he] at e15
  have hfl:=divF_length all l
  have hpos:0 < l.length:=by
   refine Nat.pos_of_ne_zero fun hz=>?_
   have:l=[]:=List.length_eq_zero_iff.1 hz
   subst this
   simp [wts] at hp
  have e28:∀ r c,ctx 28 [(r,.sl c 2 (stL l))]=some [.fv (.bool true)]:=fun r c=>by rw [h28 l r c hl,show smallS l=true from small_of hs]
  obtain ⟨d,hdd⟩:∃ d,divF all l=d:=⟨_,rfl⟩
  rw [hdd] at e15 hfl
  have hflI:(d.length:Int)=l.length:=by omega
  have hmax:(if (1:Int) < (l.length:Int) then (l.length:Int) else 1)=l.length:=by split<;>omega
  have hr:=modI_emod (n:=n0) (d:=l.length) (by omega) (by omega)
  have hr1:=Int.emod_nonneg n0 (show (l.length:Int)≠0 by omega)
  have hr2:=Int.emod_lt_of_pos n0 (show (0:Int) < l.length by omega)
  obtain ⟨f,hf⟩:∃ f:Nat,modI n0 l.length=f:=⟨(modI n0 l.length).toNat,by omega⟩
  have hfl2:f < l.length:=by omega
  have e32:∀ r r2,ctx 32 [(r,.int .i64 n0),(r2,.int .i64 l.length)]=some [.fv (.int .i64 (f:Int))]:=fun r r2=>by rw [h32 _ _ _ _ (by omega),hf]
  have e32b:∀ r r2,ctx 32 [(r,.int .i64 n0),(r2,.int .i64 2)]=some [.fv (.int .i64 (modI n0 2))]:=fun r r2=>h32 _ _ _ _ (by omega)
  have e32c:∀ r r2,ctx 32 [(r,.int .i64 n1),(r2,.int .i64 5)]=some [.fv (.int .i64 (modI n1 5))]:=fun r r2=>h32 _ _ _ _ (by omega)
  have hfle:f<=l.length:=by omega
  have htd:List.take (l.length-f) (List.drop f (stL l))=stL (l.drop f):=by simp [stL,List.map_drop,List.take_of_length_le]
  have hmin:min f l.length=f:=by omega
  have hbd3:l.length*24<=140737488355328:=by omega
  have hbd:(l.length-f)*24<=140737488355328:=by omega
  have hbd2:(l.length-f+f)*24<=140737488355328:=by omega
  refine ev_seq (ev_reg (by simp [e15]; rfl) ?_)
  refine ev_seq (ev_seq (ev_reg (by simp [e28,hfl]; rfl) ?_))
  refine ev_cond rfl (fun hb=>?_) (fun hb=>?_)
  ·simp at hb
  refine ev_skip ?_
  refine ev_seq (ev_reg (by simp [hmax,e32]; rfl) ?_)
  refine ev_seq (ev_drw rfl (by kernel_rfl) (by kernel_rfl) (by simp [hfle,hmin,hbd,hbd2,hbd3,htd]; rfl) ?_)
  have hbd24:∀ i:Nat,i < l.length->(i+1)*24<=140737488355328:=fun i hi=>by omega
  refine ev_midP (fun τ=>∃ t:List Stk,t.Perm l/\∃ i:Nat,τ=st7 all r0 c l t d n0 n1 [(11,.fv false (.int .i64 i)),(74,.fv false (.bool false))]) ?_ ?_
  ·refine ev_seq (ev_reg (by simp; rfl) ?_)
   refine ev_block ?_
   refine ev_loop (fun x:Nat×List Stk=>(st7 all r0 c l x.2 d n0 n1 [(11,.fv false (.int .i64 x.1))]:St)) (fun x=>l.length+2-x.1) (fun x=>x.1<=l.length+1/\x.2.Perm l) (0,l.drop f++l.take f) (by simp [st7,stL]) ⟨by omega,turn_perm l f⟩ (by simp [R]; omega) (fun x hx=>?_)
   obtain ⟨i,t⟩:=x
   obtain ⟨hi,ht⟩:=hx
   simp only at hi ht
   have htl:t.length=l.length:=ht.length_eq
   have hw1:IntKind.i64.wrap ((i:Int)+1)=((i+1:Nat):Int):=wrap_nat (n:=i+1) (by omega)
   have hw2:IntKind.i64.wrap ((i:Int)+2)=((i+2:Nat):Int):=wrap_nat (n:=i+2) (by omega)
   simp only [st7]
   by_cases h1:i+1 < l.length
   ·have h1i:(i:Int)+1 < l.length:=by omega
    cases h2:decide (modI n0 2=1) with
    | true =>
     have h2':modI n0 2=1:=of_decide_eq_true h2
     have a1:i < t.length:=by omega
     have a2:i+1 < t.length:=by omega
     have hne:¬ i+1=i:=by omega
     have hge:0<=(i:Int)+1:=by omega
     have hil:i < l.length:=by omega
     have hnt:((i:Int)+1).toNat=i+1:=by omega
     refine ev_seq (ev_seq (ev_reg (by simp [hw1,h1,h1i,e32b,h2']; rfl) ?_))
     refine ev_cond rfl (fun hb=>?_) (fun hb=>?_)
     ·refine ev_skip ?_
      refine ev_seq (ev_block ?_)
      refine ev_late rfl (by kernel_rfl) (by kernel_rfl) (by kernel_rfl) (fs:=[false,false,true,true,true,false,false,false,false,false,false,false,false,false,false]) (by kernel_rfl) rfl rfl (by simp [hw1,a1,a2,h1,hil,h1i,hge,hnt]; rfl) (by simp [a1,hil]; exact ⟨rfl,rfl,rfl⟩) (by simp) (by simp) (by simp [hw1,a1,a2,h1,hil,h1i,hge,hnt]) (by simp [hw1,a1,a2,h1,hil,h1i,hge,hnt]; rfl) ?_
      refine ev_reg (by simp; rfl) ?_
      refine ⟨(i+2,(t.set i t[i+1]).set (i+1) t[i]),?_,⟨by simp only; omega,(swap_perm a2).trans ht⟩,by simp only; omega⟩
      simp [stL,stF,List.map_set]
      exact hw2
     ·simp at hb
    | false =>
     have h2':¬ modI n0 2=1:=of_decide_eq_false h2
     have h2b:(modI n0 2==1)=false:=by simp [h2']
     refine ev_seq (ev_seq (ev_reg (σ':={ env:=[(0,.fv r0 (.int .i64 all)),(1,.fv false (.sl c 2 (stL l))),(5,.ptr 5 0),(7,.own 7 0 l.length),(10,.own 10 0 l.length),(11,.fv false (.int .i64 i)),(74,.fv false (.bool false))],blk:=[(5,.box [.fv false (.int .i64 n0),.fv false (.int .i64 n1)]),(7,.arr 1 (ints d)),(10,.arr 2 (stL t))] }) (by simp [hw1,h1,h1i,e32b,h2',h2b]) ?_))
     refine ev_cond rfl (fun hb=>?_) (fun hb=>?_)
     ·simp at hb
     ·refine ev_exit ?_
      exact ⟨rfl,t,ht,i,rfl⟩
   ·have h1i:¬ (i:Int)+1 < l.length:=by omega
    refine ev_seq (ev_seq (ev_reg (σ':={ env:=[(0,.fv r0 (.int .i64 all)),(1,.fv false (.sl c 2 (stL l))),(5,.ptr 5 0),(7,.own 7 0 l.length),(10,.own 10 0 l.length),(11,.fv false (.int .i64 i)),(74,.fv false (.bool false))],blk:=[(5,.box [.fv false (.int .i64 n0),.fv false (.int .i64 n1)]),(7,.arr 1 (ints d)),(10,.arr 2 (stL t))] }) (by simp [hw1,h1,h1i,unsetS]) ?_))
    refine ev_cond rfl (fun hb=>?_) (fun hb=>?_)
    ·simp at hb
    ·refine ev_exit ?_
     exact ⟨rfl,t,ht,i,rfl⟩
  rintro τ ⟨t,ht,i0,rfl⟩
  have htl:t.length=l.length:=ht.length_eq
  have hst:=stakes_perm ht hs
  have hdt:=hd.perm ht
  have hpt:0 < (wts t).sum:=by rw [wts_perm ht]; exact hp
  have e15t:∀ r r2 c,ctx 15 [(r,.int .i64 all),(r2,.sl c 2 (stL t))]=some [.us 1 (ints (divF all t)),.fv (.int .i64 0)]:=fun r r2 c=>by rw [h15 all t r r2 c (by omega),divide_of ha hst hpt]
  have hdl:=divF_length all t
  have htt:List.take l.length (stL t)=stL t:=List.take_of_length_le (by simp [htl])
  have hdp:∀ i k (hi:i < l.length) (hk:k < t.length),t[k].1=l[i].1->(divF all t).getD k 0=(divF all l).getD i 0:=fun i k hi hk e=>div_perm hd ht hi hk e
  rw [hdd] at hdp
  obtain ⟨dt,hdt2⟩:∃ dt,divF all t=dt:=⟨_,rfl⟩
  rw [hdt2] at e15t hdl hdp
  have hdtl:dt.length=l.length:=by omega
  simp only [st7]
  refine ev_seq (ev_reg (by simp [e15t,htt]; rfl) ?_)
  refine ev_seq (ev_seq (ev_reg (by simp [hdtl]; rfl) ?_))
  refine ev_cond rfl (fun hb=>?_) (fun hb=>?_)
  ·simp at hb
  refine ev_skip ?_
  refine ev_mid ({ env:=[(0,.fv r0 (.int .i64 all)),(1,.fv false (.sl c 2 (stL l))),(5,.ptr 5 0),(7,.own 7 0 l.length),(10,.own 10 0 l.length),(12,.own 12 0 l.length),(13,.fv false (.int .i64 l.length)),(111,.fv false (.bool false))],blk:=[(5,.box [.fv false (.int .i64 n0),.fv false (.int .i64 n1)]),(7,.arr 1 (ints d)),(10,.arr 2 (stL t)),(12,.arr 1 (ints dt))] }) ?_ ?_
  ·refine ev_seq (ev_reg (by simp; rfl) ?_)
   refine ev_block ?_
   refine ev_loop (fun i:Nat=>({ env:=[(0,.fv r0 (.int .i64 all)),(1,.fv false (.sl c 2 (stL l))),(5,.ptr 5 0),(7,.own 7 0 l.length),(10,.own 10 0 l.length),(12,.own 12 0 l.length),(13,.fv false (.int .i64 i))],blk:=[(5,.box [.fv false (.int .i64 n0),.fv false (.int .i64 n1)]),(7,.arr 1 (ints d)),(10,.arr 2 (stL t)),(12,.arr 1 (ints dt))] }:St)) (fun i=>l.length-i) (fun i=>i<=l.length) 0 (by simp) (by simp) (by simp [R]; omega) (fun i hi=>?_)
   refine ev_seq (ev_seq (ev_reg (by simp; rfl) ?_))
   refine ev_cond rfl (fun hb=>?_) (fun hb=>?_)
   ·have hb:i < l.length:=by simp at hb; omega
    refine ev_skip ?_
    refine ev_seq (ev_block ?_)
    refine ev_seq (ev_reg (by simp; rfl) ?_)
    refine ev_block ?_
    refine ev_loop (fun k:Nat=>({ env:=[(0,.fv r0 (.int .i64 all)),(1,.fv false (.sl c 2 (stL l))),(5,.ptr 5 0),(7,.own 7 0 l.length),(10,.own 10 0 l.length),(12,.own 12 0 l.length),(13,.fv false (.int .i64 i)),(14,.fv false (.int .i64 k))],blk:=[(5,.box [.fv false (.int .i64 n0),.fv false (.int .i64 n1)]),(7,.arr 1 (ints d)),(10,.arr 2 (stL t)),(12,.arr 1 (ints dt))] }:St)) (fun k=>l.length-k) (fun k=>k<=l.length) 0 (by simp) (by simp) (by simp [R]; omega) (fun k hk=>?_)
    refine ev_seq (ev_seq (ev_reg (by simp; rfl) ?_))
    refine ev_cond rfl (fun hb2=>?_) (fun hb2=>?_)
    ·have hb2:k < l.length:=by simp at hb2; omega
     have k1:k < t.length:=by omega
     have k2:k < dt.length:=by omega
     have k3:i < d.length:=by omega
     have hv:=hdp i k hb k1
     have g1:dt.getD k 0=dt[k]:=by simp [List.getD_eq_getElem?_getD,k2]
     have g2:d.getD i 0=d[i]:=by simp [List.getD_eq_getElem?_getD,k3]
     rw [g1,g2] at hv
     refine ev_skip ?_
     refine ev_seq (ev_block ?_)
     cases hn:(t[k].1==l[i].1) with
     | true =>
      have hv:=hv ((bytes_eq _ _).1 hn)
      refine ev_seq (ev_drw rfl (by kernel_rfl) (by kernel_rfl) (by simp [hb,hb2,k1,k2,k3,hn,hv]; rfl) ?_)
      refine ev_cond rfl (fun hb3=>?_) (fun hb3=>?_)
      ·simp at hb3
      refine ev_skip ?_
      refine ev_reg (by simp; rfl) ?_
      refine ⟨k+1,?_,by omega,by omega⟩
      simp
      exact wrap_nat (n:=k+1) (by omega)
     | false =>
      refine ev_seq (ev_drw rfl (by kernel_rfl) (by kernel_rfl) (by simp [hb,hb2,k1,k2,k3,hn,unsetS]; rfl) ?_)
      refine ev_cond rfl (fun hb3=>?_) (fun hb3=>?_)
      ·simp at hb3
      refine ev_skip ?_
      refine ev_reg (by simp; rfl) ?_
      refine ⟨k+1,?_,by omega,by omega⟩
      simp
      exact wrap_nat (n:=k+1) (by omega)
    ·simp at hb2
     refine ev_exit ?_
     refine ev_reg (by simp; rfl) ?_
     refine ⟨i+1,?_,by omega,by omega⟩
     simp
     exact wrap_nat (n:=i+1) (by omega)
   ·have hb:i=l.length:=by simp at hb; omega
    subst hb
    refine ev_exit ?_
    exact ⟨rfl,by simp⟩
  ·have hm5:=modI_range5 n1
   have hwt:IntKind.i64.wrap (2+modI n1 5)=2+modI n1 5:=wrap_id (by omega) (by omega)
   refine ev_seq (ev_reg (by simp [e32c,hwt]; rfl) ?_)
   obtain ⟨T,hT⟩:∃ T,2+modI n1 5=T:=⟨_,rfl⟩
   have hTb:2<=T/\T<=6:=by omega
   rw [hT]
   refine ev_seq (ev_reg (by simp; rfl) ?_)
   refine ev_seq (ev_seq (ev_reg (by simp; rfl) ?_))
   refine ev_block ?_
   refine ev_loop (fun i:Nat=>({ env:=[(0,.fv r0 (.int .i64 all)),(1,.fv false (.sl c 2 (stL l))),(7,.own 7 0 l.length),(15,.fv false (.int .i64 T)),(16,.own 16 0 (scale T (l.take i)).length),(17,.fv false (.int .i64 i))],blk:=[(7,.arr 1 (ints d)),(16,.arr 2 (stL (scale T (l.take i))))] }:St)) (fun i=>l.length-i) (fun i=>i<=l.length/\∀ x∈l.take i,x.2*T<=1000) 0 (by simp [scale,stL]) (by simp) (by simp [R]; omega) (fun i hx=>?_)
   obtain ⟨hi,hall⟩:=hx
   have hsl:(scale T (l.take i)).length=i:=by simp; omega
   refine ev_seq (ev_seq (ev_reg (by simp; rfl) ?_))
   refine ev_cond rfl (fun hb=>?_) (fun hb=>?_)
   ·have hb:i < l.length:=by simp at hb; omega
    have hw:=hd.w _ (List.getElem_mem hb)
    have hm:0<=l[i].2*T/\l[i].2*T<=6000000:=by
     refine ⟨Int.mul_nonneg hw.1 (by omega),?_⟩
     calc l[i].2*T<=1000000*T:=Int.mul_le_mul_of_nonneg_right hw.2 (by omega)
      _<=1000000*6:=Int.mul_le_mul_of_nonneg_left hTb.2 (by omega)
    have hwm:IntKind.i64.wrap (l[i].2*T)=l[i].2*T:=wrap_id (by omega) (by omega)
    refine ev_skip ?_
    refine ev_seq (ev_block ?_)
    by_cases hg:1000 < l[i].2*T
    ·refine ev_seq (ev_seq (ev_reg (by simp [hb,hwm,hg]; rfl) ?_))
     refine ev_cond rfl (fun hb2=>?_) (fun hb2=>?_)
     ·refine ev_seq (ev_reg (by simp [e18]; rfl) ?_)
      refine ev_ret ?_
      simp
     ·simp at hb2
    ·have hst2:scale T (l.take (i+1))=scale T (l.take i)++[(l[i].1,l[i].2*T)]:=by
      unfold scale
      rw [List.take_add_one,List.getElem?_eq_getElem hb,Option.toList_some,List.map_append]
      rfl
     have hbd9:=hbd24 i hb
     have hmin2:min i l.length=i:=by omega
     refine ev_seq (ev_seq (ev_reg (by simp [hb,hwm,hg]; rfl) ?_))
     refine ev_cond rfl (fun hb2=>?_) (fun hb2=>?_)
     ·simp at hb2
     refine ev_skip ?_
     refine ev_drw rfl (by kernel_rfl) (by kernel_rfl) (by simp [hb,hwm,hsl,hmin2,hbd9]; rfl) ?_
     refine ev_reg (by simp; rfl) ?_
     refine ⟨i+1,?_,⟨by omega,fun x hx=>?_⟩,by omega⟩
     ·rw [hst2]
      simp [hmin2,stL,stF]
      exact wrap_nat (n:=i+1) (by omega)
     ·rw [List.take_add_one,List.getElem?_eq_getElem hb,Option.toList_some,List.mem_append,List.mem_singleton] at hx
      rcases hx with hx | rfl
      ·exact hall x hx
      ·omega
   ·have hb:i=l.length:=by simp at hb; omega
    subst hb
    rw [List.take_length] at hall ⊢
    have hss:stakesOk (scale T l)=true:=by
     obtain ⟨q1,q2,q3⟩:=stakes_iff.1 hs
     refine stakes_iff.2 ⟨by simp; exact q1,fun x hx=>?_,?_⟩
     ·unfold scale at hx
      obtain ⟨y,hy,rfl⟩:=List.mem_map.1 hx
      have:=q2 y hy
      exact ⟨this.1,Int.mul_nonneg this.2.1 (by omega),hall y hy⟩
     ·unfold scale
      rw [List.map_map]
      exact q3
    have hps:0 < (wts (scale T l)).sum:=by rw [scale_sum]; exact Int.mul_pos hp (by omega)
    have hsc:=div_scale (t:=T) (by omega) hd (divOk_of ha.1 ha.2 hss hps)
    have e15s:∀ r r2 c,ctx 15 [(r,.int .i64 all),(r2,.sl c 2 (stL (scale T l)))]=some [.us 1 (ints d),.fv (.int .i64 0)]:=fun r r2 c=>by rw [h15 all _ r r2 c (by simp; omega),divide_of ha hss hps,hsc,hdd]
    have e17:∀ r c r2 c2,ctx 17 [(r,.sl c 1 (ints d)),(r2,.sl c2 1 (ints d))]=some [.fv (.bool true)]:=fun r c r2 c2=>by rw [h17 _ _ _ _ _ _ (by omega) (by omega)]; simp
    have tk1:List.take l.length (stL (scale T l))=stL (scale T l):=List.take_of_length_le (by simp)
    have tk2:List.take l.length d=d:=List.take_of_length_le (by omega)
    refine ev_exit ?_
    refine ev_seq (ev_reg (by simp [e15s,tk1]; rfl) ?_)
    refine ev_seq (ev_reg (by simp [e17,e18,tk2,hfl]; rfl) ?_)
    refine ev_ret ?_
    simp
 ·have hne:((divideF all l).2==0)=false:=by simp [h0]
  have hne2:((divideF all l).2 != 0)=true:=by simp [h0]
  rw [divide_bad h0] at e15
  generalize (divideF all l).2=e at e15 h0 hne hne2
  refine ev_seq (ev_reg (by simp [e15]; rfl) ?_)
  refine ev_seq (ev_seq (ev_reg (by simp [hne2,h0,unsetS]; rfl) ?_))
  refine ev_cond rfl (fun hb=>?_) (fun hb=>?_)
  ·refine ev_seq (ev_reg (by simp [hne2,h0,e18]; rfl) ?_)
   refine ev_ret ?_
   simp
  ·simp at hb
end Go.Proofs.YtejodhjhddnbeaaDoor.E
