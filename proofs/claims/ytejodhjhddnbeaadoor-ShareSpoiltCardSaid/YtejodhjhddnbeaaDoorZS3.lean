/-
  Clearings that are spoilt (ShareSpoilt): a clearing in which somebody pays a penny more, or is left out, is none; two of them after each other are one of both balances together, if these are balances, for any balances; a number chooses the payment. Conditions: none.
-/
import Derived.Test.YtejodhjhddnbeaaDoorZS2
set_option linter.unusedVariables false
set_option linter.unusedSimpArgs false
namespace Go.Proofs.YtejodhjhddnbeaaDoor.E
open Go Go.RowKit
def cP (x:Pay) (i:Nat):Int:=(if x.to=(i:Int) then x.sum else 0)-(if x.fr=(i:Int) then x.sum else 0)
theorem netL_cons (x:Pay) (l:List Pay) (i:Nat):netL (x :: l) i=cP x i+netL l i:=by simp [netL,cP]
theorem net_split {p:List Pay} {q:Nat} (hq:q < p.length) (i:Nat):netL p i=netL (p.take q++p.drop (q+1)) i+cP p[q] i:=by
 have e:p=p.take q++p[q] :: p.drop (q+1):=by
  conv=>lhs; rw [<-List.take_append_drop q p,List.drop_eq_getElem_cons hq]
 conv=>lhs; rw [e]
 rw [netL_append,netL_cons,netL_append]
 omega
theorem set_split {p:List Pay} {q:Nat} (hq:q < p.length) (y:Pay) (i:Nat):netL (p.set q y) i=netL (p.take q++p.drop (q+1)) i+cP y i:=by
 rw [List.set_eq_take_append_cons_drop,if_pos hq,netL_append,netL_cons,netL_append]
 omega
theorem spoilt_more {bal:List Int} {p:List Pay} (hb:balances bal=true) (h:ClearIs bal p) {q:Nat} (hq:q < p.length):isClearF bal (p.set q ⟨p[q].fr,p[q].to,p[q].sum+1⟩)=(false,0):=by
 obtain ⟨c1,c2⟩:=h.clear hb
 have hp:=h.len hb
 have hx:=c1 _ (List.getElem_mem hq)
 obtain ⟨t0,t1⟩:=hx.t
 obtain ⟨s0,s1⟩:=hx.s
 have hd:=hx.d
 have hi:p[q].to.toNat < bal.length:=by omega
 refine clear_no hb (by simp; omega) (fun x hxm=>?_) hi ?_
 ·rcases List.mem_or_eq_of_mem_set hxm with hxm | rfl
  ·have:=c1 x hxm
   exact ⟨this.f,this.t,this.d,this.s.1,by have:=this.s.2; omega⟩
  ·exact ⟨hx.f,hx.t,hx.d,by simp only; omega,by simp only; omega⟩
 ·have n1:=net_split hq p[q].to.toNat
  have n2:=set_split hq ⟨p[q].fr,p[q].to,p[q].sum+1⟩ p[q].to.toNat
  rw [c2] at n1
  have e:((p[q].to.toNat:Nat):Int)=p[q].to:=by omega
  simp only [cP,e,if_true,if_neg hd] at n1 n2
  omega
theorem spoilt_less {bal:List Int} {p:List Pay} (hb:balances bal=true) (h:ClearIs bal p) {q:Nat} (hq:q < p.length):isClearF bal (p.take q++p.drop (q+1))=(false,0):=by
 obtain ⟨c1,c2⟩:=h.clear hb
 have hp:=h.len hb
 have hx:=c1 _ (List.getElem_mem hq)
 obtain ⟨t0,t1⟩:=hx.t
 obtain ⟨s0,s1⟩:=hx.s
 have hd:=hx.d
 have hi:p[q].to.toNat < bal.length:=by omega
 refine clear_no hb (by simp; omega) (fun x hxm=>?_) hi ?_
 ·have hxp:x∈p:=by
   rcases List.mem_append.1 hxm with hx | hx
   ·exact List.mem_of_mem_take hx
   ·exact List.mem_of_mem_drop hx
  have:=c1 x hxp
  exact ⟨this.f,this.t,this.d,this.s.1,by have:=this.s.2; omega⟩
 ·have n1:=net_split hq p[q].to.toNat
  rw [c2] at n1
  have e:((p[q].to.toNat:Nat):Int)=p[q].to:=by omega
  simp only [cP,e,if_true,if_neg hd] at n1
  omega
theorem spoilt_twice {bal:List Int} {p:List Pay} (hb:balances bal=true) (h:ClearIs bal p):(balances (bal.map (2*·))=true/\isClearF (bal.map (2*·)) (p++p)=(true,0))\/(balances (bal.map (2*·))=false/\isClearF (bal.map (2*·)) (p++p)=(false,33)):=by
 obtain ⟨c1,c2⟩:=h.clear hb
 have hp:=h.len hb
 cases h2:balances (bal.map (2*·)) with
 | true =>
  left
  refine ⟨rfl,clear_yes h2 (by simp; omega) (fun x hxm=>?_) fun i hi=>?_⟩
  ·have:=c1 x ((List.mem_append.1 hxm).elim id id)
   exact ⟨by rw [List.length_map]; exact this.f,by rw [List.length_map]; exact this.t,this.d,this.s.1,by have:=this.s.2; omega⟩
  ·rw [netL_append,c2]
   have hi':i < bal.length:=by simpa using hi
   have e:(bal.map (2*·)).getD i 0=2*bal.getD i 0:=by simp [List.getD_eq_getElem?_getD,hi']
   rw [e]
   omega
 | false =>
  right
  refine ⟨rfl,?_⟩
  unfold isClearF
  rw [if_neg (by simp [h2])]
set_option maxHeartbeats 1600000 in
theorem v13 (ctx:Ctx) (hC:CtxOk (pg ctx)) (h18:H18 ctx) (h32:H32 ctx) (h38:H38 ctx) (h41:H41 ctx) (h42:H42 ctx) (l:List Int) (k:Int) (hl:l.length < 2^44) (r0 r1 c0:Bool):Valid Tryd.prog 13 [(r0,.sl c0 1 (ints l)),(r1,.int .i64 k)] [.fv (.bool true)]:=by
 refine valid_of_ev (G:=pg ctx) (tok ctx) hC mixed Tryd.func13 T13 L13 (by simp [Tryd.ntmps13]) ⟨_,rfl,?_⟩
 simp only [Tryd.ntmps13,Tryd.results13,initSt,initEnv]
 have e18:ctx 18 []=some [.fv (.bool true)]:=h18
 have e41:∀ r c,ctx 41 [(r,.sl c 1 (ints l))]=some [.us 3 (paL (clearF l).1),.fv (.int .i64 (clearF l).2)]:=fun r c=>h41 l r c hl
 have e38:∀ r c,ctx 38 [(r,.sl c 1 (ints l))]=some [.fv (.bool (balances l))]:=fun r c=>h38 l r c hl
 refine ev_seq (ev_reg (by simp; rfl) ?_)
 cases hb:balances l with
 | true =>
  obtain ⟨k1,k2,k3⟩:=clear_is hb
  have hp10:=k1.len hb
  have hl10:=(bal_facts hb).1
  rw [k2] at e41
  rw [hb] at e38
  generalize hp:(clearF l).1=p at *
  refine ev_seq (ev_reg (by simp [e41]; rfl) ?_)
  by_cases h0:p.length=0
  ·have hp0:p=[]:=List.length_eq_zero_iff.1 h0
   subst hp0
   refine ev_seq (ev_seq (ev_reg (by simp [e38,paL]; rfl) ?_))
   refine ev_cond rfl (fun hb2=>?_) (fun hb2=>?_)
   ·refine ev_seq (ev_reg (by simp [e18,paL]; rfl) ?_)
    refine ev_ret ?_
    simp
   ·simp at hb2
  ·have h0b:(p.length==0)=false:=by simp [h0]
   have h0i:((p.length:Int)==0)=false:=beq_eq_false_iff_ne.2 (by omega)
   refine ev_seq (ev_seq (ev_reg (by simp [e38,h0,h0b,h0i]; rfl) ?_))
   refine ev_cond rfl (fun hb2=>?_) (fun hb2=>?_)
   ·simp at hb2
   have hr:=modI_emod (n:=k) (d:=p.length) (by omega) (by omega)
   have h1:=Int.emod_nonneg k (show (p.length:Int)≠0 by omega)
   have h2:=Int.emod_lt_of_pos k (show (0:Int) < p.length by omega)
   obtain ⟨q,hq⟩:∃ q:Nat,modI k p.length=q:=⟨(modI k p.length).toNat,by omega⟩
   have hql:q < p.length:=by omega
   have e32:∀ r r2,ctx 32 [(r,.int .i64 k),(r2,.int .i64 p.length)]=some [.fv (.int .i64 (q:Int))]:=fun r r2=>by rw [h32 _ _ _ _ (by omega),hq]
   have s1:=spoilt_more hb k1 hql
   have s2:=spoilt_less hb k1 hql
   have s3:=spoilt_twice hb k1
   have hx:=(k1.clear hb).1 _ (List.getElem_mem hql)
   have hws:IntKind.i64.wrap (p[q].sum+1)=p[q].sum+1:=by have:=hx.s; exact wrap_id (by omega) (by omega)
   have hwq:IntKind.i64.wrap ((q:Int)+1)=((q+1:Nat):Int):=wrap_nat (n:=q+1) (by omega)
   have e42a:∀ r c r2 c2,ctx 42 [(r,.sl c 1 (ints l)),(r2,.sl c2 3 ((paL p).set q (.agg [.int .i64 p[q].fr,.int .i64 p[q].to,.int .i64 (p[q].sum+1)])))]=some [.fv (.bool false),.fv (.int .i64 0)]:=fun r c r2 c2=>by
    have:=h42 l (p.set q ⟨p[q].fr,p[q].to,p[q].sum+1⟩) r r2 c c2 hl (by simp; omega)
    rw [s1] at this
    rw [<-this]
    simp [paL,paF,List.map_set]
   have e42b:∀ r c r2 c2,ctx 42 [(r,.sl c 1 (ints l)),(r2,.sl c2 3 (paL (p.take q)++(paL p).drop (q+1)))]=some [.fv (.bool false),.fv (.int .i64 0)]:=fun r c r2 c2=>by
    have:=h42 l (p.take q++p.drop (q+1)) r r2 c c2 hl (by simp; omega)
    rw [s2] at this
    rw [<-this]
    simp [paL,List.map_drop,List.map_take]
   have hbd:p.length*24<=140737488355328:=by omega
   have hmin:min q p.length=q:=by omega
   have hbd2:(q+(p.length-(q+1)))*24<=140737488355328:=by omega
   have hbd3:q*24<=140737488355328:=by omega
   have hq1:q+1<=p.length:=by omega
   have hq3:(0:Int)<=(q:Int)+1/\(q:Int)+1<=(p.length:Int):=by omega
   have hq2:q<=p.length:=by omega
   refine ev_skip ?_
   refine ev_seq (ev_reg (by simp [e32]; rfl) ?_)
   refine ev_seq (ev_reg (by simp [hbd]; rfl) ?_)
   refine ev_seq (ev_drw rfl (by kernel_rfl) (by kernel_rfl) (by simp [hql,hws]; rfl) ?_)
   refine ev_seq (ev_drw rfl (by kernel_rfl) (by kernel_rfl) (by simp [hql,hwq,hmin,hbd2,hbd3,hq1,hq2,hq3.1,hq3.2]; rfl) ?_)
   refine ev_seq (ev_reg (by simp [e42a,List.take_of_length_le,hmin]; rfl) ?_)
   refine ev_seq (ev_reg (by simp [e42b,List.take_of_length_le,hmin]; rfl) ?_)
   refine ev_seq (ev_seq (ev_reg (by simp; rfl) ?_))
   refine ev_cond rfl (fun hb2=>?_) (fun hb2=>?_)
   ·simp at hb2
   refine ev_skip ?_
   refine ev_seq (ev_reg (by simp; rfl) ?_)
   refine ev_seq (ev_seq (ev_reg (by simp; rfl) ?_))
   refine ev_block ?_
   refine ev_loop (fun i:Nat=>({ env:=[(0,.fv r0 (.sl c0 1 (ints l))),(5,.own 5 0 p.length),(12,.own 12 0 ((l.map (2*·)).take i).length),(13,.fv false (.int .i64 i))],blk:=[(5,.arr 3 (paL p)),(12,.arr 1 (ints ((l.map (2*·)).take i)))] }:St)) (fun i=>l.length-i) (fun i=>i<=l.length) 0 (by simp [ints]) (by simp) (by simp [R]; omega) (fun i hi=>?_)
   have hlt:((l.map (2*·)).take i).length=i:=by simp; omega
   generalize hD:(l.map (2*·))=D at *
   have hDl:D.length=l.length:=by rw [<-hD]; simp
   refine ev_seq (ev_seq (ev_reg (by simp; rfl) ?_))
   refine ev_cond rfl (fun hb3=>?_) (fun hb3=>?_)
   ·have hb3:i < l.length:=by simp at hb3; omega
    have hlv:=bal_at (bal_facts hb).2.1 i
    have e2:l.getD i 0=l[i]:=by simp [List.getD_eq_getElem?_getD,hb3]
    rw [e2] at hlv
    have hw2:IntKind.i64.wrap (2*l[i])=2*l[i]:=wrap_id (by omega) (by omega)
    have hbd:(i+1)*8<=140737488355328:=by omega
    have hDi:D.take (i+1)=D.take i++[2*l[i]]:=by
     subst hD
     rw [List.take_add_one,List.getElem?_eq_getElem (show i < (l.map (2*·)).length by simpa using hb3),Option.toList_some,List.getElem_map]
    have hmin2:min i D.length=i:=by omega
    refine ev_skip ?_
    refine ev_seq (ev_block ?_)
    refine ev_reg (by simp [hb3,hw2,hlt,hmin2,hbd]; rfl) ?_
    refine ev_reg (by simp; rfl) ?_
    refine ⟨i+1,?_,by omega,by omega⟩
    rw [hDi]
    simp [hmin2]
    exact wrap_nat (n:=i+1) (by omega)
   ·have hb3:i=l.length:=by simp at hb3; omega
    subst hb3
    rw [List.take_of_length_le (by omega)]
    refine ev_exit ?_
    have e42c:∀ r c r2 c2,ctx 42 [(r,.sl c 1 (ints D)),(r2,.sl c2 3 (paL p++paL p))]=some [.fv (.bool (isClearF D (p++p)).1),.fv (.int .i64 (isClearF D (p++p)).2)]:=fun r c r2 c2=>by
     have:=h42 D (p++p) r r2 c c2 (by omega) (by simp; omega)
     rw [<-this]
     simp [paL]
    have e38c:∀ r c,ctx 38 [(r,.sl c 1 (ints D))]=some [.fv (.bool (balances D))]:=fun r c=>h38 D r c (by omega)
    have hmD:List.take (min l.length D.length) D=D:=List.take_of_length_le (by omega)
    have hmD2:List.take l.length D=D:=List.take_of_length_le (by omega)
    have hbd5:(p.length+p.length)*24<=140737488355328:=by omega
    rcases s3 with ⟨z1,z2⟩ | ⟨z1,z2⟩
    ·rw [z2] at e42c
     refine ev_seq (ev_reg (by simp [hbd,hbd5,hmD,hmD2,e42c,List.take_of_length_le]; rfl) ?_)
     refine ev_seq (ev_reg (by simp [e18,unsetS]; rfl) ?_)
     refine ev_ret ?_
     simp
    ·rw [z2] at e42c
     rw [z1] at e38c
     refine ev_seq (ev_reg (by simp [hbd,hbd5,hmD,hmD2,e42c,List.take_of_length_le]; rfl) ?_)
     refine ev_seq (ev_reg (by simp [e18,e38c,hmD,hmD2]; rfl) ?_)
     refine ev_ret ?_
     simp
 | false =>
  have q1:clearF l=([],33):=by unfold clearF; rw [if_neg (by simp [hb])]
  rw [q1] at e41
  refine ev_seq (ev_reg (by simp [e41]; rfl) ?_)
  refine ev_seq (ev_seq (ev_reg (by simp [unsetS]; rfl) ?_))
  refine ev_cond rfl (fun hb2=>?_) (fun hb2=>?_)
  ·refine ev_seq (ev_reg (by simp [e18,paL]; rfl) ?_)
   refine ev_ret ?_
   simp
  ·simp at hb2
end Go.Proofs.YtejodhjhddnbeaaDoor.E
