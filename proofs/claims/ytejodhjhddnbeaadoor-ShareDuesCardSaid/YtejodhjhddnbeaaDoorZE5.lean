/-
  The dues (ShareDues): Shares returns what the chapter says, for any voyage. Conditions: none.
-/
import Derived.Test.YtejodhjhddnbeaaDoorZE4
set_option linter.unusedVariables false
set_option linter.unusedSimpArgs false
namespace Go.Proofs.YtejodhjhddnbeaaDoor.E
open Go Go.RowKit
def lendE (v:Voy):List Loan->List Int×List Int->(List Int×List Int)×Bool
 | [],s=>(s,true)
 | x :: r,s=>match lend1 v s x with
  | some s'=>lendE v r s'
  | none=>(s,false)
theorem lendE_eq (v:Voy):∀ (l:List Loan) (s:List Int×List Int),lendF v l s=if (lendE v l s).2=true then some (lendE v l s).1 else none
 | [],s=>rfl
 | x :: r,s=>by
  cases h:lend1 v s x with
  | some s'=>simp only [lendF,lendE,h]; exact lendE_eq v r s'
  | none=>simp [lendF,lendE,h]
theorem lend1_len {v:Voy} {s s':List Int×List Int} {x:Loan} (h:lend1 v s x=some s'):s'.1.length=s.1.length/\s'.2.length=s.2.length:=by
 unfold lend1 at h
 split at h
 ·simp at h
 ·simp only [Option.some.injEq] at h
  subst h
  simp
def lendS (v:Voy):(List Int×List Int)×Bool:=if v.loans.length<=12 then lendE v v.loans (wts v.lend,c8 v.lend) else ((wts v.lend,c8 v.lend),false)
def clmE (v:Voy):List Int×Bool:=((lendS v).1.2,(lendS v).2&&!(neg (lendS v).1.1||neg (lendS v).1.2))
theorem clmE_eq (v:Voy):claimsF v=if (clmE v).2=true then some (clmE v).1 else none:=by
 unfold claimsF clmE lendS
 by_cases h:12 < v.loans.length
 ·rw [if_pos h,if_neg (show ¬ v.loans.length<=12 by omega)]; simp
 ·rw [if_neg h,if_pos (show v.loans.length<=12 by omega),lendE_eq]
  cases h2:(lendE v v.loans (wts v.lend,c8 v.lend)).2 with
  | false=>simp
  | true =>
   simp only [if_true,Bool.true_and]
   cases (neg (lendE v v.loans (wts v.lend,c8 v.lend)).1.1||neg (lendE v v.loans (wts v.lend,c8 v.lend)).1.2)<;>simp
theorem neg_upto (l:List Int) (i:Nat) (h:i < l.length):(!(neg (l.take (i+1))))=(!(neg (l.take i))&&decide (0<=l[i])):=by
 rw [neg_take l i h,Bool.not_or]
 congr 1
 rw [Bool.eq_iff_iff]
 simp
theorem v81 (ctx:Ctx) (hC:CtxOk (pg ctx)) (v:Voy) (n:ByteArray) (hl:v.lend.length < 2^44) (ro r1:Bool):Valid Tryd.prog 81 [(ro,voyF v),(r1,.str n)] [.fv (.int .i64 (placeF v.lend n))]:=by
 refine valid_of_ev (G:=pg ctx) (tok ctx) hC mixed Tryd.func81 T81 L81 (by simp [Tryd.ntmps81]) ⟨_,rfl,?_⟩
 simp only [Tryd.ntmps81,Tryd.results81,initSt,initEnv,voyF,voyC]
 refine ev_seq (ev_reg (by simp; rfl) ?_)
 refine ev_seq (ev_seq (ev_reg (by simp; rfl) ?_))
 refine ev_block ?_
 refine ev_loop (fun i:Nat=>({ env:=[(1,V.fv r1 (.str n)),(2,V.ptr 2 0),(5,V.fv false (FV.int .i64 i))],blk:=[(2,.box [.fv false (.int .i64 v.gross),.fv ro (.sl false 1 (ints v.costs)),.fv false (.int .i64 v.boat),.fv false (.int .i64 v.nets),.fv false (.int .i64 v.crew),.fv ro (.sl false 2 (stL v.own)),.fv ro (.sl false 2 (stL v.lend)),.fv ro (.sl false 2 (stL v.hand)),.fv ro (.sl false 4 (loL v.loans))])] }:St)) (fun i=>v.lend.length-i) (fun i=>i<=v.lend.length/\∀ x∈v.lend.take i,(x.1==n)=false) 0 rfl (by simp) (by simp [R]; omega) (fun i hi=>?_)
 obtain ⟨hi,hn⟩:=hi
 refine ev_seq (ev_seq (ev_reg (by simp; rfl) ?_))
 refine ev_cond rfl (fun hb=>?_) (fun hb=>?_)
 ·simp at hb
  refine ev_skip ?_
  refine ev_seq (ev_block ?_)
  cases hq:(v.lend[i].1==n) with
  | true =>
   refine ev_seq (ev_reg (by simp [hb,hq]; rfl) ?_)
   refine ev_cond rfl (fun hb2=>?_) (fun hb2=>?_)
   ·refine ev_seq (ev_reg (by simp; rfl) ?_)
    refine ev_ret ?_
    simp [placeF,idx,idx_some (p:=fun x:Stk=>x.1==n) hb hn hq]
   ·simp at hb2
  | false =>
   refine ev_seq (ev_reg (by simp [hb,hq]; rfl) ?_)
   refine ev_cond rfl (fun hb2=>?_) (fun hb2=>?_)
   ·simp at hb2
   ·refine ev_skip ?_
    refine ev_reg (by simp; rfl) ?_
    refine ⟨i+1,?_,⟨by omega,take_all (p:=fun x:Stk=>x.1==n) hb hn hq⟩,by omega⟩
    simp
    exact wrap_nat (n:=i+1) (by omega)
 ·simp at hb
  refine ev_exit ?_
  refine ev_seq (ev_reg (by simp; rfl) ?_)
  refine ev_ret ?_
  have hnone:v.lend.findIdx? (fun x:Stk=>x.1==n)=none:=by
   rw [List.findIdx?_eq_none_iff]
   rw [List.take_of_length_le hb] at hn
   simpa using hn
  simp [placeF,idx,hnone]
def H81 (ctx:Ctx):Prop:=∀ (v:Voy) (n:ByteArray) (ro r1:Bool),v.lend.length < 2^44->ctx 81 [(ro,voyF v),(r1,.str n)]=some [.fv (.int .i64 (placeF v.lend n))]
set_option maxHeartbeats 3200000 in
set_option maxRecDepth 20000 in
theorem v56 (ctx:Ctx) (hC:CtxOk (pg ctx)) (h29:H29 ctx) (h81:H81 ctx) (v:Voy) (hlen:v.lend.length<=10) (hw:∀ x∈v.lend,0<=x.2/\x.2<=1000) (hlo:v.loans.length < 2^44):Valid Tryd.prog 56 [(false,voyF v)] [.us 1 (ints (clmE v).1),.fv (.bool (clmE v).2)]:=by
 refine valid_of_evH (G:=pg ctx) (tok ctx) hC mixed Tryd.func56 T56 [(5,8)] L56 (by simp [Tryd.ntmps56]) ⟨_,rfl,?_⟩
 simp only [Tryd.ntmps56,Tryd.results56,initSt,initEnv,voyF,voyC]
 have h81':=fun n r1 r2=>h81 v n r1 r2 (by omega)
 simp only [voyF,voyC] at h81'
 refine ev_seq (ev_reg (by simp; rfl) ?_)
 refine ev_seq (ev_reg (by simp; rfl) ?_)
 refine ev_seq (ev_seq (ev_reg (by simp; rfl) ?_))
 refine ev_block ?_
 refine ev_loop (fun i:Nat=>({ env:=[(1,V.ptr 1 0),(4,V.own 4 0 (wts (v.lend.take i)).length),(5,V.own 5 0 (c8 (v.lend.take i)).length),(6,.fv false (.int .i64 i))],blk:=[(1,voyB v),(4,.arr 1 (ints (wts (v.lend.take i)))),(5,.arr 1 (ints (c8 (v.lend.take i))))] }:St)) (fun i=>v.lend.length-i) (fun i=>i<=v.lend.length) 0 rfl (by simp) (by simp [R]; omega) (fun i hi=>?_)
 have hmin:min i v.lend.length=i:=by omega
 refine ev_seq (ev_seq (ev_reg (by simp [voyB]; rfl) ?_))
 refine ev_cond rfl (fun hb=>?_) (fun hb=>?_)
 ·simp at hb
  refine ev_skip ?_
  refine ev_seq (ev_block ?_)
  have hbd:(i+1)*8<=140737488355328:=by omega
  have hwi:=hw v.lend[i] (List.getElem_mem hb)
  have hm8:IntKind.i64.wrap (8*v.lend[i].2)=8*v.lend[i].2:=wrap_id (by omega) (by omega)
  refine ev_hole rfl rfl (by kernel_rfl) (by kernel_rfl) (fs:=[false,false,false,false,false,false,false,false,false,true,true,true,true,true,true,true,true,true]) (by kernel_rfl) rfl (by simp; rfl) (by simp [hb,hmin,hbd,hm8]; rfl) rfl (by simp [hmin,hbd]; exact ⟨rfl,rfl,rfl,rfl⟩) (by simp [hb,hmin,hbd,hm8]) (by simp [hmin,hbd]; rfl) ?_
  refine ev_reg (by simp; rfl) ?_
  refine ⟨i+1,?_,by omega,by omega⟩
  simp [c8_take v.lend i hb,wts_take v.lend i hb,hmin,voyB]
  exact wrap_nat (n:=i+1) (by omega)
 ·simp at hb
  refine ev_exit ?_
  obtain rfl:i=v.lend.length:=by omega
  rw [List.take_length]
  have hS:∀ ok,decide (v.loans.length<=12)=ok->lendS v=(if ok=true then lendE v v.loans (wts v.lend,c8 v.lend) else ((wts v.lend,c8 v.lend),false)):=fun ok h=>by unfold lendS; subst h; simp
  refine ev_seq (ev_reg (σ':={ env:=[(1,V.ptr 1 0),(4,V.own 4 0 v.lend.length),(5,V.own 5 0 v.lend.length),(7,.fv false (.bool (decide (v.loans.length<=12))))],blk:=[(1,voyB v),(4,.arr 1 (ints (wts v.lend))),(5,.arr 1 (ints (c8 v.lend)))] }) (by simp [voyB]; omega) ?_)
  obtain ⟨ok0,hok0⟩:∃ ok0,decide (v.loans.length<=12)=ok0:=⟨_,rfl⟩
  have hS:=hS ok0 hok0
  rw [hok0]
  refine ev_seq (ev_seq (ev_reg (by simp; rfl) ?_))
  refine ev_block ?_
  refine ev_loop (fun x:Nat×(List Int×List Int)×Bool=>({ env:=[(1,V.ptr 1 0),(4,V.own 4 0 x.2.1.1.length),(5,V.own 5 0 x.2.1.2.length),(7,.fv false (.bool x.2.2)),(8,.fv false (.int .i64 x.1))],blk:=[(1,voyB v),(4,.arr 1 (ints x.2.1.1)),(5,.arr 1 (ints x.2.1.2))] }:St)) (fun x=>v.loans.length-x.1) (fun x=>x.1<=v.loans.length/\x.2.1.1.length=v.lend.length/\x.2.1.2.length=v.lend.length/\(x.2.2=true->v.loans.length<=12/\LendInv v x.1 x.2.1/\lendS v=lendE v (v.loans.drop x.1) x.2.1)/\(x.2.2=false->lendS v=(x.2.1,false))) (0,(wts v.lend,c8 v.lend),ok0) (by simp) ⟨by simp,by simp,by simp,fun h=>by
   simp only at h
   refine ⟨by rw [h] at hok0; simpa using hok0,LendInv.start v hw,?_⟩
   rw [hS,if_pos h]; rfl,fun h=>by
   simp only at h
   rw [hS,if_neg (by simp [h])]⟩ (by simp [R]; omega) (fun x hx=>?_)
  obtain ⟨i,⟨n,c⟩,ok⟩:=x
  obtain ⟨hi,hln,hlc,hT,hF⟩:=hx
  simp only at hi hln hlc hT hF ⊢
  clear hmin
  have fin:(i=v.loans.length\/ok=false)->lendS v=((n,c),ok):=fun h=>by
   cases ok with
   | false=>exact hF rfl
   | true =>
    rcases h with h | h
    ·obtain ⟨_,_,e⟩:=hT rfl
     rw [e,h,List.drop_length]
     rfl
    ·cases h
  cases ok with
  | false =>
   have hL:=fin (.inr rfl)
   refine ev_seq (ev_seq (ev_reg (by simp [unsetS]; rfl) ?_))
   refine ev_cond rfl (fun hb=>?_) (fun hb=>?_)
   ·simp at hb
   refine ev_exit ?_
   refine ev_seq (ev_seq (ev_reg (by simp; rfl) ?_))
   refine ev_block ?_
   refine ev_loop (fun i:Nat=>({ env:=[(4,V.own 4 0 n.length),(5,V.own 5 0 c.length),(7,.fv false (.bool false)),(12,.fv false (.int .i64 i))],blk:=[(4,.arr 1 (ints n)),(5,.arr 1 (ints c))] }:St)) (fun i=>c.length-i) (fun i=>i<=c.length) 0 (by simp) (by simp) (by simp [R]; omega) (fun i hi=>?_)
   refine ev_seq (ev_seq (ev_reg (by simp; rfl) ?_))
   refine ev_cond rfl (fun hb=>?_) (fun hb=>?_)
   ·simp at hb
    refine ev_skip ?_
    refine ev_seq (ev_block ?_)
    refine ev_reg (by simp [unsetS]; rfl) ?_
    refine ev_reg (by simp; rfl) ?_
    refine ⟨i+1,?_,by omega,by omega⟩
    simp
    exact wrap_nat (n:=i+1) (by omega)
   ·simp at hb
    refine ev_exit ?_
    refine ev_seq (ev_reg (by simp; rfl) ?_)
    refine ev_ret ?_
    simp [clmE,hL]
  | true =>
   obtain ⟨h12,hinv,hE⟩:=hT rfl
   refine ev_seq (ev_seq (ev_reg (by simp [voyB]; rfl) ?_))
   refine ev_cond rfl (fun hb=>?_) (fun hb=>?_)
   ·simp at hb
    refine ev_skip ?_
    refine ev_seq (ev_block ?_)
    refine ev_seq (ev_reg (by simp [hb]; rfl) ?_)
    have hdrop:v.loans.drop i=v.loans[i] :: v.loans.drop (i+1):=List.drop_eq_getElem_cons hb
    rw [hdrop] at hE
    generalize hxe:v.loans[i]=x at hE
    refine ev_seq (ev_drwH rfl rfl (by kernel_rfl) (by kernel_rfl) (by simp [h81']; rfl) ?_)
    have hbad:loanBad v x=(decide (placeF v.lend x.fr < 0)||decide (placeF v.lend x.to < 0)||(placeF v.lend x.fr==placeF v.lend x.to)||!(decide (1<=x.nets)&&decide (x.nets<=1000))||!(decide (0<=x.rent)&&decide (x.rent<=8))):=rfl
    have e1:ctx 29 [(false,.int .i64 x.nets),(false,.int .i64 1),(false,.int .i64 1000)]=some [.fv (.bool (decide (1<=x.nets)&&decide (x.nets<=1000)))]:=h29 _ _ _ _ _ _
    have e2:ctx 29 [(false,.int .i64 x.rent),(false,.int .i64 0),(false,.int .i64 8)]=some [.fv (.bool (decide (0<=x.rent)&&decide (x.rent<=8)))]:=h29 _ _ _ _ _ _
    refine ev_seq (ev_reg (σ':={ env:=[(1,V.ptr 1 0),(4,V.own 4 0 n.length),(5,V.own 5 0 c.length),(7,.fv false (.bool (!loanBad v x))),(8,.fv false (.int .i64 i)),(9,V.ptr 9 0),(10,.fv false (.int .i64 (placeF v.lend x.fr))),(11,.fv false (.int .i64 (placeF v.lend x.to)))],blk:=[(1,voyB v),(4,.arr 1 (ints n)),(5,.arr 1 (ints c)),(9,.box [.fv false (.str x.fr),.fv false (.str x.to),.fv false (.int .i64 x.nets),.fv false (.int .i64 x.rent)])] }) ?_ ?_)
    ·rw [hbad]
     by_cases c1:placeF v.lend x.fr < 0
     ·have c1':¬ 0<=placeF v.lend x.fr:=by omega
      simp [c1,c1',unsetS,voyB]
     have c1':0<=placeF v.lend x.fr:=by omega
     by_cases c2:placeF v.lend x.to < 0
     ·have c2':¬ 0<=placeF v.lend x.to:=by omega
      simp [c1,c1',c2,c2',unsetS,voyB]
     have c2':0<=placeF v.lend x.to:=by omega
     by_cases c3:placeF v.lend x.fr=placeF v.lend x.to
     ·have c4:(placeF v.lend x.fr==placeF v.lend x.to)=true:=by simp [c3]
      have c5:(placeF v.lend x.fr != placeF v.lend x.to)=false:=by simp [c3]
      simp [c1,c1',c2,c2',c4,c5,unsetS,voyB]
     have c4:(placeF v.lend x.fr==placeF v.lend x.to)=false:=by simp [c3]
     have c5:(placeF v.lend x.fr != placeF v.lend x.to)=true:=by simp [c3]
     generalize (decide (1<=x.nets)&&decide (x.nets<=1000))=d1 at e1
     generalize (decide (0<=x.rent)&&decide (x.rent<=8))=d2 at e2
     cases d1
     ·simp [c1,c1',c2,c2',c4,c5,e1,unsetS,voyB]
     ·cases d2<;>simp [c1,c1',c2,c2',c4,c5,e1,e2,unsetS,voyB]
    refine ev_seq (ev_reg (by simp; rfl) ?_)
    refine ev_cond rfl (fun hb3=>?_) (fun hb3=>?_)
    ·have hb3:loanBad v x=false:=by simpa using hb3
     obtain ⟨k1,k2,k3,k4,k5⟩:=loanOk hb3
     obtain ⟨p,hp,ep⟩:=placeF_lt k1
     obtain ⟨q,hq,eq⟩:=placeF_lt k2
     have hpq:p≠q:=fun e=>k3 (by rw [ep,eq,e])
     have h1:lend1 v (n,c) x=some (upd n p q x.nets,upd c p q ((8-x.rent)*x.nets)):=by unfold lend1; rw [if_neg (by simp [hb3]),ep,eq]; rfl
     have hinv':=hinv.step h1
     have hll:=lend1_len h1
     simp only [lendE,h1] at hE
     have hpn:p < n.length:=by omega
     have hqn:q < n.length:=by omega
     have hpc:p < c.length:=by omega
     have hqc:q < c.length:=by omega
     have b1:=hinv.b1 n[p] (List.getElem_mem hpn)
     have b2:=hinv.b1 n[q] (List.getElem_mem hqn)
     have w1:IntKind.i64.wrap (n[p]-x.nets)=n[p]-x.nets:=wrap_id (by omega) (by omega)
     have w2:IntKind.i64.wrap (n[q]+x.nets)=n[q]+x.nets:=wrap_id (by omega) (by omega)
     have hu:upd n p q x.nets=(n.set p (n[p]-x.nets)).set q (n[q]+x.nets):=by simp [upd,List.getD_eq_getElem?_getD,hpn,hqn]
     have hr:=rent_bound k4 k5
     have w0:IntKind.i64.wrap (8-x.rent)=8-x.rent:=wrap_id (by omega) (by omega)
     have w0':IntKind.i64.wrap ((8-x.rent)*x.nets)=(8-x.rent)*x.nets:=wrap_id (by omega) (by omega)
     generalize hdd:(8-x.rent)*x.nets=dd at hr w0' h1 hinv' hll hE
     have b3:=hinv.b2 c[p] (List.getElem_mem hpc)
     have b4:=hinv.b2 c[q] (List.getElem_mem hqc)
     have w3:IntKind.i64.wrap (c[p]-dd)=c[p]-dd:=wrap_id (by omega) (by omega)
     have w4:IntKind.i64.wrap (c[q]+dd)=c[q]+dd:=wrap_id (by omega) (by omega)
     have hu2:upd c p q dd=(c.set p (c[p]-dd)).set q (c[q]+dd):=by simp [upd,List.getD_eq_getElem?_getD,hpc,hqc]
     have hqn2:(n.set p (n[p]-x.nets))[q]'(by simpa using hqn)=n[q]:=by simp [List.getElem_set,hpq]
     have hqc2:(c.set p (c[p]-dd))[q]'(by simpa using hqc)=c[q]:=by simp [List.getElem_set,hpq]
     refine ev_seq (ev_drwH rfl rfl (by kernel_rfl) (by kernel_rfl) (by simp [ep,hpn,w1]; rfl) ?_)
     refine ev_seq (ev_drwH rfl rfl (by kernel_rfl) (by kernel_rfl) (by simp [eq,hqn,hpq,w2]; rfl) ?_)
     refine ev_seq (ev_drwH rfl rfl (by kernel_rfl) (by kernel_rfl) (by simp [ep,hpc,w0,w0',hdd,w3]; rfl) ?_)
     refine ev_drwH rfl rfl (by kernel_rfl) (by kernel_rfl) (by simp [eq,hqc,hpq,w0,w0',hdd,w4]; rfl) ?_
     refine ev_reg (by simp; rfl) ?_
     refine ⟨(i+1,(upd n p q x.nets,upd c p q dd),true),?_,⟨by simp only; omega,by simpa using hln,by simpa using hlc,fun _=>⟨h12,hinv',hE⟩,fun h=>by cases h⟩,by simp only; omega⟩
     simp [hu,hu2,voyB,hb3]
     exact wrap_nat (n:=i+1) (by omega)
    ·have hb3:loanBad v x=true:=by simpa using hb3
     have h1:lend1 v (n,c) x=none:=by unfold lend1; rw [if_pos hb3]
     simp only [lendE,h1] at hE
     refine ev_skip ?_
     refine ev_reg (by simp; rfl) ?_
     refine ⟨(i+1,(n,c),false),?_,⟨by simp only; omega,hln,hlc,(fun h=>by simp at h),(fun _=>hE)⟩,by simp only; omega⟩
     simp [voyB,hb3]
     exact wrap_nat (n:=i+1) (by omega)
   ·simp at hb
    have hL:=fin (.inl (by omega))
    refine ev_exit ?_
    refine ev_seq (ev_seq (ev_reg (by simp; rfl) ?_))
    refine ev_block ?_
    refine ev_loop (fun i:Nat=>({ env:=[(4,V.own 4 0 n.length),(5,V.own 5 0 c.length),(7,.fv false (.bool (!neg (n.take i)&&!neg (c.take i)))),(12,.fv false (.int .i64 i))],blk:=[(4,.arr 1 (ints n)),(5,.arr 1 (ints c))] }:St)) (fun i=>c.length-i) (fun i=>i<=c.length) 0 (by simp [neg]) (by simp) (by simp [R]; omega) (fun i hi=>?_)
    refine ev_seq (ev_seq (ev_reg (by simp; rfl) ?_))
    refine ev_cond rfl (fun hb=>?_) (fun hb=>?_)
    ·simp at hb
     have hin:i < n.length:=by omega
     have t1:=neg_upto n i hin
     have t2:=neg_upto c i hb
     refine ev_skip ?_
     refine ev_seq (ev_block ?_)
     refine ev_reg (σ':={ env:=[(4,V.own 4 0 n.length),(5,V.own 5 0 c.length),(7,.fv false (.bool (!neg (n.take (i+1))&&!neg (c.take (i+1))))),(12,.fv false (.int .i64 i))],blk:=[(4,.arr 1 (ints n)),(5,.arr 1 (ints c))] }) ?_ ?_
     ·rw [t1,t2]
      generalize neg (n.take i)=a1
      generalize neg (c.take i)=a2
      cases a1<;>cases a2
      ·by_cases c1:0<=n[i]
       ·by_cases c2:0<=c[i]
        ·simp [hin,hb,c1,c2]
        ·simp [hin,hb,c1,c2]
       ·simp [hin,hb,c1,unsetS]
      all_goals simp [unsetS]
     refine ev_reg (by simp; rfl) ?_
     refine ⟨i+1,?_,by omega,by omega⟩
     simp
     exact wrap_nat (n:=i+1) (by omega)
    ·simp at hb
     have hi2:i=c.length:=by omega
     have tn:List.take i n=n:=List.take_of_length_le (by omega)
     have tc:List.take i c=c:=List.take_of_length_le (by omega)
     refine ev_exit ?_
     refine ev_seq (ev_reg (by simp; rfl) ?_)
     refine ev_ret ?_
     simp [clmE,hL,tn,tc]
def H56 (ctx:Ctx):Prop:=∀ v:Voy,v.lend.length<=10->(∀ x∈v.lend,0<=x.2/\x.2<=1000)->v.loans.length < 2^44->ctx 56 [(false,voyF v)]=some [.us 1 (ints (clmE v).1),.fv (.bool (clmE v).2)]
def sumW (v:Voy):Int:=IntKind.i64.wrap (IntKind.i64.wrap (v.boat+v.nets)+v.crew)
def in8 (n:Int):Bool:=decide (0<=n)&&decide (n<=8)
def okM (v:Voy):Bool:=vok7 v&&in8 v.boat&&in8 v.nets&&in8 v.crew&&sumW v==8
def okS (v:Voy):Bool:=okM v&&stakesOk v.own&&stakesOk v.lend&&stakesOk v.hand
def hasW (n:Int) (l:List Stk):Bool:=n==0||decide (0 < sumI (wts l))
def okD (v:Voy):Bool:=okS v&&hasW v.boat v.own&&hasW v.nets v.lend&&hasW v.crew v.hand
theorem okD_eq (v:Voy):okD v=voyOk v:=by
 have key:in8 v.boat=true->in8 v.nets=true->in8 v.crew=true->sumI [v.boat,v.nets,v.crew]=sumW v:=by
  intro h1 h2 h3
  simp only [in8,Bool.and_eq_true,decide_eq_true_eq] at h1 h2 h3
  rw [sum3 h1 h2 h3]
  unfold sumW
  rw [wrap_id (n:=v.boat+v.nets) (by omega) (by omega),wrap_id (by omega) (by omega)]
 have e0:partOk v 0=(in8 v.boat&&stakesOk v.own&&hasW v.boat v.own):=rfl
 have e1:partOk v 1=(in8 v.nets&&stakesOk v.lend&&hasW v.nets v.lend):=rfl
 have e2:partOk v 2=(in8 v.crew&&stakesOk v.hand&&hasW v.crew v.hand):=rfl
 have e:voyOk v=(vok7 v&&partOk v 0&&partOk v 1&&partOk v 2&&(sumI [v.boat,v.nets,v.crew]==8)):=rfl
 rw [e,e0,e1,e2]
 unfold okD okS okM
 generalize vok7 v=a
 generalize stakesOk v.own=s0
 generalize stakesOk v.lend=s1
 generalize stakesOk v.hand=s2
 generalize hasW v.boat v.own=w0
 generalize hasW v.nets v.lend=w1
 generalize hasW v.crew v.hand=w2
 cases h0:in8 v.boat with
 | false=>simp
 | true=>cases h1:in8 v.nets with
  | false=>simp
  | true=>cases h2:in8 v.crew with
   | false=>simp
   | true =>
    rw [key h0 h1 h2]
    generalize (sumW v==8)=b
    revert a s0 s1 s2 w0 w1 w2 b
    decide
set_option maxHeartbeats 3200000 in
theorem v58 (ctx:Ctx) (hC:CtxOk (pg ctx)) (h29:H29 ctx) (h34:H34 ctx) (h51:H51 ctx) (h52:H52 ctx) (v:Voy) (hv:Small v):Valid Tryd.prog 58 [(false,voyF v)] [.fv (.bool (voyOk v))]:=by
 rw [<-okD_eq]
 obtain ⟨s1,s2,s3,s4,s5⟩:=hv
 refine valid_of_ev (G:=pg ctx) (tok ctx) hC mixed Tryd.func58 T58 L58 (by simp [Tryd.ntmps58]) ⟨_,rfl,?_⟩
 simp only [Tryd.ntmps58,Tryd.results58,initSt,initEnv,voyF,voyC]
 refine ev_seq (ev_reg (by simp; rfl) ?_)
 refine ev_seq (ev_reg (σ':={ env:=[(1,V.ptr 1 0),(3,.fv false (.bool (vok0 v)))],blk:=[(1,voyB v)] }) ?_ ?_)
 ·have e29:ctx 29 [(false,.int .i64 v.gross),(false,.int .i64 0),(false,.int .i64 10000000)]=some [.fv (.bool (decide (0<=v.gross)&&decide (v.gross<=10000000)))]:=h29 _ _ _ _ _ _
  have hv0:vok0 v=((decide (0<=v.gross)&&decide (v.gross<=10000000))&&decide (v.costs.length<=10)):=rfl
  generalize (decide (0<=v.gross)&&decide (v.gross<=10000000))=a at e29 hv0
  cases a
  ·simp [e29,hv0,unsetS,voyB]
  ·simp [e29,hv0,voyB]
   omega
 refine ev_seq (ev_seq (ev_reg (by simp; rfl) ?_))
 refine ev_block ?_
 refine ev_loop (fun x:Nat×Bool=>({ env:=[(1,V.ptr 1 0),(3,.fv false (.bool x.2)),(4,.fv false (.int .i64 x.1))],blk:=[(1,voyB v)] }:St)) (fun x=>v.costs.length-x.1) (fun x=>x.1<=v.costs.length/\vokC v v.costs.length=(x.2&&(v.costs.drop x.1).all (costOk v))) (0,vok0 v) (by simp) ⟨by simp,by simp [vokC]⟩ (by simp [R]; omega) (fun x hx=>?_)
 obtain ⟨i,ok⟩:=x
 obtain ⟨hi,hx⟩:=hx
 simp only at hi hx
 cases ok with
 | false =>
  simp only [Bool.false_and] at hx
  have h7:vok7 v=false:=by unfold vok7; rw [hx]; rfl
  have hD:okD v=false:=by simp [okD,okS,okM,h7]
  refine ev_seq (ev_seq (ev_reg (by simp [unsetS]; rfl) ?_))
  refine ev_cond rfl (fun hb=>?_) (fun hb=>?_)
  ·simp at hb
  refine ev_exit ?_
  refine ev_seq (ev_drw rfl (by kernel_rfl) (by kernel_rfl) (by simp [unsetS]; rfl) ?_)
  refine ev_seq (ev_reg (by simp [unsetS]; rfl) ?_)
  refine ev_seq (ev_reg (by simp [unsetS]; rfl) ?_)
  refine ev_ret ?_
  simp [hD]
 | true =>
  simp only [Bool.true_and] at hx
  refine ev_seq (ev_seq (ev_reg (by simp [voyB]; rfl) ?_))
  refine ev_cond rfl (fun hb=>?_) (fun hb=>?_)
  ·simp at hb
   have hdr:v.costs.drop i=v.costs[i] :: v.costs.drop (i+1):=List.drop_eq_getElem_cons hb
   rw [hdr,List.all_cons] at hx
   have e29:ctx 29 [(false,.int .i64 v.costs[i]),(false,.int .i64 0),(false,.int .i64 v.gross)]=some [.fv (.bool (costOk v v.costs[i]))]:=h29 _ _ _ _ _ _
   refine ev_skip ?_
   refine ev_seq (ev_block ?_)
   refine ev_drw rfl (by kernel_rfl) (by kernel_rfl) (by simp [hb,e29]; rfl) ?_
   refine ev_reg (by simp; rfl) ?_
   refine ⟨(i+1,costOk v v.costs[i]),?_,⟨by simp only; omega,hx⟩,by simp only; omega⟩
   simp [voyB]
   exact wrap_nat (n:=i+1) (by omega)
  ·have hie:i=v.costs.length:=by simp at hb; omega
   subst hie
   rw [List.drop_length] at hx
   simp only [List.all_nil] at hx
   have h7:vok7 v=decide (sumI v.costs<=v.gross):=by unfold vok7; rw [hx]; simp
   have e34:∀ r c,ctx 34 [(r,.sl c 1 (ints v.costs))]=some [.fv (.int .i64 (sumI v.costs))]:=fun r c=>h34 _ r c (by omega)
   have e29:∀ n,ctx 29 [(false,.int .i64 n),(false,.int .i64 0),(false,.int .i64 8)]=some [.fv (.bool (in8 n))]:=fun n=>h29 _ _ _ _ _ _
   have e51:∀ l r c,l.length < 2^44->ctx 51 [(r,.sl c 2 (stL l))]=some [.fv (.bool (stakesOk l))]:=fun l r c h=>h51 l r c h
   have e52:∀ l r c,l.length < 2^44->ctx 52 [(r,.sl c 2 (stL l))]=some [.fv (.int .i64 (sumI (wts l)))]:=fun l r c h=>h52 l r c h
   have a1:=fun r c=>e51 v.own r c s2
   have a2:=fun r c=>e51 v.lend r c s3
   have a3:=fun r c=>e51 v.hand r c s4
   have b1:=fun r c=>e52 v.own r c s2
   have b2:=fun r c=>e52 v.lend r c s3
   have b3:=fun r c=>e52 v.hand r c s4
   have g1:=e29 v.boat
   have g2:=e29 v.nets
   have g3:=e29 v.crew
   refine ev_exit ?_
   refine ev_seq (ev_drw (σ':={ env:=[(1,V.ptr 1 0),(3,.fv false (.bool (okM v)))],blk:=[(1,voyB v)] }) rfl (by kernel_rfl) (by kernel_rfl) ?_ ?_)
   ·have hM:okM v=(decide (sumI v.costs<=v.gross)&&in8 v.boat&&in8 v.nets&&in8 v.crew&&sumW v==8):=by unfold okM; rw [h7]
    rw [hM]
    clear hM a1 a2 a3 b1 b2 b3 e29 e51 e52
    by_cases c0:¬ sumI v.costs<=v.gross
    ·simp [e34,c0,unsetS,voyB]
    have c1:sumI v.costs<=v.gross:=Decidable.not_not.1 c0
    clear c0
    generalize in8 v.boat=q1 at g1
    cases q1 with
    | false=>simp [e34,c1,g1,unsetS,voyB]
    | true =>
     generalize in8 v.nets=q2 at g2
     cases q2 with
     | false=>simp [e34,c1,g1,g2,unsetS,voyB]
     | true =>
      generalize in8 v.crew=q3 at g3
      cases q3 with
      | false=>simp [e34,c1,g1,g2,g3,unsetS,voyB]
      | true=>simp [e34,c1,g1,g2,g3,voyB,sumW]
   refine ev_seq (ev_reg (σ':={ env:=[(1,V.ptr 1 0),(3,.fv false (.bool (okS v)))],blk:=[(1,voyB v)] }) ?_ ?_)
   ·unfold okS
    generalize okM v=q0
    clear b1 b2 b3 g1 g2 g3 e29 e51 e52
    cases q0 with
    | false=>simp [unsetS,voyB]
    | true =>
     generalize stakesOk v.own=q1 at a1
     cases q1 with
     | false=>simp [a1,unsetS,voyB]
     | true =>
      generalize stakesOk v.lend=q2 at a2
      cases q2 with
      | false=>simp [a1,a2,unsetS,voyB]
      | true=>simp [a1,a2,a3,voyB]
   refine ev_seq (ev_reg (σ':={ env:=[(2,.fv false (.bool (okD v)))],blk:=[] }) ?_ ?_)
   ·unfold okD hasW
    generalize okS v=q0
    clear a1 a2 a3 g1 g2 g3 e29 e51 e52
    cases q0 with
    | false=>simp [unsetS,voyB]
    | true =>
     generalize sumI (wts v.own)=w1 at b1
     generalize sumI (wts v.lend)=w2 at b2
     generalize sumI (wts v.hand)=w3 at b3
     by_cases c1:v.boat=0
     ·have c1':(v.boat==0)=true:=by simp [c1]
      by_cases c2:v.nets=0
      ·have c2':(v.nets==0)=true:=by simp [c2]
       by_cases c3:v.crew=0
       ·have c3':(v.crew==0)=true:=by simp [c3]
        simp [c1,c1',c2,c2',c3,c3',unsetS,voyB]
       ·have c3':(v.crew==0)=false:=by simp [c3]
        simp [c1,c1',c2,c2',c3,c3',b3,unsetS,voyB]
      ·have c2':(v.nets==0)=false:=by simp [c2]
       by_cases d2:0 < w2
       ·by_cases c3:v.crew=0
        ·have c3':(v.crew==0)=true:=by simp [c3]
         simp [c1,c1',c2,c2',c3,c3',b2,d2,unsetS,voyB]
        ·have c3':(v.crew==0)=false:=by simp [c3]
         simp [c1,c1',c2,c2',c3,c3',b2,d2,b3,unsetS,voyB]
       ·simp [c1,c1',c2,c2',b2,d2,unsetS,voyB]
     ·have c1':(v.boat==0)=false:=by simp [c1]
      by_cases d1:0 < w1
      ·by_cases c2:v.nets=0
       ·have c2':(v.nets==0)=true:=by simp [c2]
        by_cases c3:v.crew=0
        ·have c3':(v.crew==0)=true:=by simp [c3]
         simp [c1,c1',b1,d1,c2,c2',c3,c3',unsetS,voyB]
        ·have c3':(v.crew==0)=false:=by simp [c3]
         simp [c1,c1',b1,d1,c2,c2',c3,c3',b3,unsetS,voyB]
       ·have c2':(v.nets==0)=false:=by simp [c2]
        by_cases d2:0 < w2
        ·by_cases c3:v.crew=0
         ·have c3':(v.crew==0)=true:=by simp [c3]
          simp [c1,c1',b1,d1,c2,c2',c3,c3',b2,d2,unsetS,voyB]
         ·have c3':(v.crew==0)=false:=by simp [c3]
          simp [c1,c1',b1,d1,c2,c2',c3,c3',b2,d2,b3,unsetS,voyB]
        ·simp [c1,c1',b1,d1,c2,c2',b2,d2,unsetS,voyB]
      ·simp [c1,c1',b1,d1,unsetS,voyB]
   refine ev_ret ?_
   simp
def H58 (ctx:Ctx):Prop:=∀ v:Voy,Small v->ctx 58 [(false,voyF v)]=some [.fv (.bool (voyOk v))]
theorem v22 (ctx:Ctx) (hC:CtxOk (pg ctx)) (h56:H56 ctx) (h58:H58 ctx) (v:Voy) (hv:Small v):Valid Tryd.prog 22 [(false,voyF v)] [.fv (.int .i64 (checkF v))]:=by
 refine valid_of_ev (G:=pg ctx) (tok ctx) hC mixed Tryd.func22 T22 L22 (by simp [Tryd.ntmps22]) ⟨_,rfl,?_⟩
 simp only [Tryd.ntmps22,Tryd.results22,initSt,initEnv,voyF,voyC]
 have e58:=h58 v hv
 simp only [voyF,voyC] at e58
 refine ev_seq (ev_reg (by simp; rfl) ?_)
 refine ev_seq (ev_seq (ev_reg (by simp [e58]; rfl) ?_))
 refine ev_cond rfl (fun hb=>?_) (fun hb=>?_)
 ·simp at hb
  refine ev_seq (ev_reg (by simp; rfl) ?_)
  refine ev_ret ?_
  simp [checkF,hb]
 ·simp at hb
  have hvo:=voyOk_iff.1 hb
  have e56:=h56 v hvo.lend.1 hvo.lend.2 hv.2.2.2.2
  have hce:=clmE_eq v
  simp only [voyF,voyC] at e56
  refine ev_skip ?_
  generalize (clmE v).1=c at e56 hce
  cases hk:(clmE v).2 with
  | false =>
   rw [hk] at e56 hce
   simp only [Bool.false_eq_true,if_false] at hce
   refine ev_seq (ev_seq (ev_reg (by simp [e56]; rfl) ?_))
   refine ev_seq (ev_reg (by simp; rfl) ?_)
   refine ev_cond rfl (fun hb2=>?_) (fun hb2=>?_)
   ·refine ev_seq (ev_reg (by simp; rfl) ?_)
    refine ev_ret ?_
    simp [checkF,hb,hce]
   ·simp at hb2
  | true =>
   rw [hk] at e56 hce
   simp only [if_true] at hce
   refine ev_seq (ev_seq (ev_reg (by simp [e56]; rfl) ?_))
   refine ev_seq (ev_reg (by simp; rfl) ?_)
   refine ev_cond rfl (fun hb2=>?_) (fun hb2=>?_)
   ·simp at hb2
   ·refine ev_skip ?_
    refine ev_seq (ev_reg (by simp; rfl) ?_)
    refine ev_ret ?_
    simp [checkF,hb,hce]
def H22 (ctx:Ctx):Prop:=∀ v:Voy,Small v->ctx 22 [(false,voyF v)]=some [.fv (.int .i64 (checkF v))]
theorem clmE_ok {v:Voy} {c:List Int} (h:claimsF v=some c):clmE v=(c,true):=by
 have:=clmE_eq v
 rw [h] at this
 split at this
 ·rename_i h2
  simp only [Option.some.injEq] at this
  exact Prod.ext this.symm h2
 ·simp at this
def H20 (ctx:Ctx):Prop:=∀ v:Voy,Small v->ctx 20 [(false,voyF v)]=some [.us 1 (ints (allClaims v)),.fv (.int .i64 (checkF v))]
theorem v60 (ctx:Ctx) (hC:CtxOk (pg ctx)) (h34:H34 ctx) (v:Voy) (hv:VoyOk v):Valid Tryd.prog 60 [(false,voyF v)] [.fv (.int .i64 (netF v))]:=by
 refine valid_of_ev (G:=pg ctx) (tok ctx) hC mixed Tryd.func60 T60 L60 (by simp [Tryd.ntmps60]) ⟨_,rfl,?_⟩
 simp only [Tryd.ntmps60,Tryd.results60,initSt,initEnv,voyF,voyC]
 have hc:=costs_sum hv.g hv.cl hv.c
 have hcl:=hv.cl
 have hg:=hv.g
 have hcs:=hv.cs
 have e34:∀ r c,ctx 34 [(r,.sl c 1 (ints v.costs))]=some [.fv (.int .i64 v.costs.sum)]:=fun r c=>by rw [h34 _ _ _ (by omega),hc.1]
 have hw:IntKind.i64.wrap (v.gross-v.costs.sum)=netF v:=wrap_id (by omega) (by omega)
 refine ev_seq (ev_reg (by simp; rfl) ?_)
 refine ev_seq (ev_drw rfl (by kernel_rfl) (by kernel_rfl) (by simp [e34,hw]; rfl) ?_)
 refine ev_ret ?_
 simp
def H60 (ctx:Ctx):Prop:=∀ v:Voy,VoyOk v->ctx 60 [(false,voyF v)]=some [.fv (.int .i64 (netF v))]
theorem v24 (ctx:Ctx) (hC:CtxOk (pg ctx)) (h22:H22 ctx) (h53:H53 ctx) (h60:H60 ctx) (v:Voy) (hv:Small v):Valid Tryd.prog 24 [(false,voyF v)] [.fv (.int .i64 ((partsR v).getD 0 0)),.fv (.int .i64 ((partsR v).getD 1 0)),.fv (.int .i64 ((partsR v).getD 2 0)),.fv (.int .i64 (checkF v))]:=by
 refine valid_of_ev (G:=pg ctx) (tok ctx) hC mixed Tryd.func24 T24 L24 (by simp [Tryd.ntmps24]) ⟨_,rfl,?_⟩
 simp only [Tryd.ntmps24,Tryd.results24,initSt,initEnv,voyF,voyC]
 have e22:=h22 v hv
 simp only [voyF,voyC] at e22
 refine ev_seq (ev_reg (by simp; rfl) ?_)
 refine ev_seq (ev_seq (ev_reg (by simp [e22]; rfl) ?_))
 refine ev_seq (ev_reg (by simp; rfl) ?_)
 refine ev_cond rfl (fun hb=>?_) (fun hb=>?_)
 ·simp at hb
  refine ev_seq (ev_reg (by simp; rfl) ?_)
  refine ev_ret ?_
  simp [partsR,hb]
 ·simp at hb
  obtain ⟨hvo,c,hc⟩:=check_ok hb
  have e60:=h60 v hvo
  simp only [voyF,voyC] at e60
  have n1 : "boat".toUTF8 = (⟨#[98, 111, 97, 116]⟩ : ByteArray) := by kernel_rfl
  have n2 : "nets".toUTF8 = (⟨#[110, 101, 116, 115]⟩ : ByteArray) := by kernel_rfl
  have n3 : "crew".toUTF8 = (⟨#[99, 114, 101, 119]⟩ : ByteArray) := by kernel_rfl
  have hr3:List.range 3=[0,1,2]:=rfl
  have e53:∀ r0 ro c,ctx 53 [(r0,.int .i64 (netF v)),(ro,.sl c 2 [.agg [.str ⟨#[98,111,97,116]⟩,.int .i64 v.boat],.agg [.str ⟨#[110,101,116,115]⟩,.int .i64 v.nets],.agg [.str ⟨#[99,114,101,119]⟩,.int .i64 v.crew]])]=some [.us 1 (ints (threeF v))]:=fun r0 ro c=>by
   have:=h53 (netF v) (parts3 v) r0 ro c hvo.div3
   simp only [parts3,n1,n2,n3,stL,stF,List.map_cons,List.map_nil] at this
   exact this
  have hl:=threeF_len v
  have hr:partsR v=threeF v:=by unfold partsR; rw [if_pos hb]
  rw [hr]
  generalize threeF v=l at e53 hl
  obtain ⟨a,b,c,rfl⟩:∃ a b c,l=[a,b,c]:=by
   match l,hl with
   | [a,b,c],_=>exact ⟨a,b,c,rfl⟩
  refine ev_skip ?_
  refine ev_seq (ev_drw rfl (by kernel_rfl) (by kernel_rfl) (by simp [e60,e53,hr3]; rfl) ?_)
  refine ev_seq (ev_drw rfl (by kernel_rfl) (by kernel_rfl) (by simp; rfl) ?_)
  refine ev_ret ?_
  simp [hb]
def H24 (ctx:Ctx):Prop:=∀ v:Voy,Small v->ctx 24 [(false,voyF v)]=some [.fv (.int .i64 ((partsR v).getD 0 0)),.fv (.int .i64 ((partsR v).getD 1 0)),.fv (.int .i64 ((partsR v).getD 2 0)),.fv (.int .i64 (checkF v))]
theorem allClaims_len {v:Voy}:(allClaims v).length<=v.lend.length:=by
 unfold allClaims
 split
 ·rename_i h
  obtain ⟨_,c,hc⟩:=check_ok h
  rw [hc,Option.getD_some,(claims_facts hc).1]
  omega
 ·simp
theorem v4 (ctx:Ctx) (hC:CtxOk (pg ctx)) (h17:H17 ctx) (h18:H18 ctx) (h19:H19 ctx) (h20:H20 ctx) (h21:H21 ctx) (h22:H22 ctx) (h23:H23 ctx) (h24:H24 ctx) (v:Voy) (hv:Small v):Valid Tryd.prog 4 [(false,voyF v)] [.fv (.bool true)]:=by
 refine valid_of_ev (G:=pg ctx) (tok ctx) hC mixed Tryd.func4 T4 L4 (by simp [Tryd.ntmps4]) ⟨_,rfl,?_⟩
 simp only [Tryd.ntmps4,Tryd.results4,initSt,initEnv,voyF,voyC]
 have e18:ctx 18 []=some [.fv (.bool true)]:=h18
 have e19:=h19 v hv
 have e20:=h20 v hv
 have e21:=h21 v hv
 have e22:=h22 v hv
 have e23:=h23 v hv
 have e24:=h24 v hv
 simp only [voyF,voyC] at e19 e20 e21 e22 e23 e24
 have hal:=allClaims_len (v:=v)
 have hl3:=hv.2.2.1
 generalize allClaims v=d at e19 e20 hal
 generalize (partsR v).getD 0 0=x0 at e23 e24
 generalize (partsR v).getD 1 0=x1 at e23 e24
 generalize (partsR v).getD 2 0=x2 at e23 e24
 generalize checkF v=e at e19 e20 e21 e22 e23 e24
 have e17:∀ r c r2 c2,ctx 17 [(r,.sl c 1 (ints d)),(r2,.sl c2 1 (ints d))]=some [.fv (.bool true)]:=fun r c r2 c2=>by rw [h17 _ _ _ _ _ _ (by omega) (by omega)]; simp
 refine ev_seq (ev_reg (by simp; rfl) ?_)
 refine ev_seq (ev_reg (by simp [e19]; rfl) ?_)
 refine ev_seq (ev_reg (by simp [e20]; rfl) ?_)
 refine ev_seq (ev_seq (ev_drw rfl (by kernel_rfl) (by kernel_rfl) (by simp [e17,e21,e22]; rfl) ?_))
 refine ev_cond rfl (fun hb=>?_) (fun hb=>?_)
 ·simp at hb
 refine ev_skip ?_
 refine ev_seq (ev_reg (by simp [e23]; rfl) ?_)
 refine ev_seq (ev_reg (by simp [e24]; rfl) ?_)
 refine ev_seq (ev_reg (by simp [e18]; rfl) ?_)
 refine ev_ret ?_
 simp
end Go.Proofs.YtejodhjhddnbeaaDoor.E
