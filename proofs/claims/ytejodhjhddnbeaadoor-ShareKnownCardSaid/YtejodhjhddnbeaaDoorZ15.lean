/-
  The chapter of the share: its functions, and what they compute. Conditions: none.
-/
import Derived.Test.YtejodhjhddnbeaaDoorZ13
import Derived.Test.YtejodhjhddnbeaaDoorZ12
import Derived.Test.YtejodhjhddnbeaaDoorZ14
set_option linter.unusedVariables false
set_option linter.unusedSimpArgs false
namespace Go.Proofs.YtejodhjhddnbeaaDoor.E
open Go Go.RowKit
structure VoyOk (v:Voy):Prop where
 g:0<=v.gross/\v.gross<=10000000
 cl:v.costs.length<=10
 c:∀ x∈v.costs,0<=x/\x<=v.gross
 cs:v.costs.sum<=v.gross
 e:∀ i,i < 3->0<=partE v i/\partE v i<=8
 st:∀ i,i < 3->stakesOk (partL v i)=true
 p:∀ i,i < 3->partE v i=0\/0 < (wts (partL v i)).sum
 s:v.boat+v.nets+v.crew=8
theorem costs_sum {v:Voy} (g:0<=v.gross/\v.gross<=10000000) (cl:v.costs.length<=10) (c:∀ x∈v.costs,0<=x/\x<=v.gross):sumI v.costs=v.costs.sum/\0<=v.costs.sum/\v.costs.sum<=100000000:=by
 obtain ⟨h1,h2,h3⟩:=sumI_eq (B:=10000000) (by omega) v.costs (fun x hx=>by have:=c x hx; omega) (by omega)
 exact ⟨h1,h2,by omega⟩
theorem sum3 {a b c:Int} (ha:0<=a/\a<=8) (hb:0<=b/\b<=8) (hc:0<=c/\c<=8):sumI [a,b,c]=a+b+c:=by
 simp only [sumI,List.foldl_cons,List.foldl_nil]
 rw [wrap_id (n:=0+a) (by omega) (by omega),wrap_id (n:=0+a+b) (by omega) (by omega),wrap_id (by omega) (by omega)]
 omega
theorem partOk_iff {v:Voy} {i:Nat}:partOk v i=true↔(0<=partE v i/\partE v i<=8)/\stakesOk (partL v i)=true/\(partE v i=0\/0 < (wts (partL v i)).sum):=by
 simp only [partOk,Bool.and_eq_true,Bool.or_eq_true,decide_eq_true_eq,beq_iff_eq]
 constructor
 ·rintro ⟨⟨h1,h2⟩,h3⟩
  rw [(stakes_sum h2).1] at h3
  exact ⟨h1,h2,h3⟩
 ·rintro ⟨h1,h2,h3⟩
  rw [<-(stakes_sum h2).1] at h3
  exact ⟨⟨h1,h2⟩,h3⟩
theorem voyOk_iff {v:Voy}:voyOk v=true↔VoyOk v:=by
 have h3:∀ i,i < 3↔i=0\/i=1\/i=2:=fun i=>by omega
 simp only [voyOk,vokP,vok7,vokC,vok0,Bool.and_eq_true,decide_eq_true_eq,beq_iff_eq,List.take_length,List.all_eq_true,costOk,partOk_iff]
 constructor
 ·rintro ⟨⟨⟨⟨⟨⟨⟨g1,g2⟩,g3⟩,g4⟩,p0⟩,p1⟩,p2⟩,hs⟩
  have hc:=costs_sum g1 g2 g3
  have hp:∀ i,i < 3->(0<=partE v i/\partE v i<=8)/\stakesOk (partL v i)=true/\(partE v i=0\/0 < (wts (partL v i)).sum):=fun i hi=>by
   rcases (h3 i).1 hi with rfl | rfl | rfl<;>assumption
  rw [hc.1] at g4
  have e0:=p0.1
  have e1:=p1.1
  have e2:=p2.1
  simp only [partE] at e0 e1 e2
  rw [sum3 e0 e1 e2] at hs
  exact ⟨g1,g2,g3,g4,fun i hi=>(hp i hi).1,fun i hi=>(hp i hi).2.1,fun i hi=>(hp i hi).2.2,hs⟩
 ·intro h
  have hc:=costs_sum h.g h.cl h.c
  have hp:∀ i,i < 3->(0<=partE v i/\partE v i<=8)/\stakesOk (partL v i)=true/\(partE v i=0\/0 < (wts (partL v i)).sum):=fun i hi=>⟨h.e i hi,h.st i hi,h.p i hi⟩
  refine ⟨⟨⟨⟨⟨⟨⟨h.g,h.cl⟩,h.c⟩,?_⟩,hp 0 (by omega)⟩,hp 1 (by omega)⟩,hp 2 (by omega)⟩,?_⟩
  ·rw [hc.1]; exact h.cs
  ·rw [sum3 (a:=v.boat) (b:=v.nets) (c:=v.crew) (h.e 0 (by omega)) (h.e 1 (by omega)) (h.e 2 (by omega))]; exact h.s
theorem VoyOk.lend {v:Voy} (h:VoyOk v):v.lend.length<=10/\∀ x∈v.lend,0<=x.2/\x.2<=1000 :=
 ⟨stakes_len (h.st 1 (by omega)),fun x hx=>(stakes_mem (h.st 1 (by omega)) hx).2⟩
def checkF (v:Voy):Int:=if voyOk v=true then (match claimsF v with | some _=>0 | none=>31) else 30
theorem v21 (ctx:Ctx) (hC:CtxOk (pg ctx)) (h55:H55 ctx) (h57:H57 ctx) (v:Voy) (hv:Small v):Valid Tryd.prog 21 [(false,voyF v)] [.fv (.int .i64 (checkF v))]:=by
 refine valid_of_ev (G:=pg ctx) (tok ctx) hC mixed Tryd.func21 T21 L21 (by simp [Tryd.ntmps21]) ⟨_,rfl,?_⟩
 simp only [Tryd.ntmps21,Tryd.results21,initSt,initEnv,voyF,voyC]
 have e57:=h57 v hv
 simp only [voyF,voyC] at e57
 refine ev_seq (ev_reg (by simp; rfl) ?_)
 refine ev_seq (ev_reg (by simp; rfl) ?_)
 refine ev_seq (ev_seq (ev_reg (by simp [e57]; rfl) ?_))
 refine ev_cond rfl (fun hb=>?_) (fun hb=>?_)
 ·simp at hb
  refine ev_seq (ev_reg (by simp; rfl) ?_)
  refine ev_ret ?_
  simp [checkF,hb]
 ·simp at hb
  have hvo:=voyOk_iff.1 hb
  have e55:=h55 v hvo.lend.1 hvo.lend.2 hv.2.2.2.2
  simp only [voyF,voyC] at e55
  refine ev_skip ?_
  cases hc:claimsF v with
  | none =>
   rw [hc] at e55
   simp only [claimsR] at e55
   refine ev_seq (ev_seq (ev_reg (by simp [e55]; rfl) ?_))
   refine ev_seq (ev_reg (by simp; rfl) ?_)
   refine ev_cond rfl (fun hb2=>?_) (fun hb2=>?_)
   ·refine ev_seq (ev_reg (by simp; rfl) ?_)
    refine ev_ret ?_
    simp [checkF,hb,hc]
   ·simp at hb2
  | some c =>
   rw [hc] at e55
   simp only [claimsR] at e55
   refine ev_seq (ev_seq (ev_reg (by simp [e55]; rfl) ?_))
   refine ev_seq (ev_reg (by simp; rfl) ?_)
   refine ev_cond rfl (fun hb2=>?_) (fun hb2=>?_)
   ·simp at hb2
   ·refine ev_skip ?_
    refine ev_seq (ev_reg (by simp; rfl) ?_)
    refine ev_ret ?_
    simp [checkF,hb,hc]
def H21 (ctx:Ctx):Prop:=∀ v:Voy,Small v->ctx 21 [(false,voyF v)]=some [.fv (.int .i64 (checkF v))]
def allClaims (v:Voy):List Int:=if checkF v=0 then (claimsF v).getD [] else []
theorem check_ok {v:Voy} (h:checkF v=0):VoyOk v/\∃ c,claimsF v=some c:=by
 unfold checkF at h
 split at h
 ·rename_i hv
  split at h
  ·rename_i c hc; exact ⟨voyOk_iff.1 hv,c,hc⟩
  ·omega
 ·omega
theorem v19 (ctx:Ctx) (hC:CtxOk (pg ctx)) (h21:H21 ctx) (h55:H55 ctx) (v:Voy) (hv:Small v):Valid Tryd.prog 19 [(false,voyF v)] [.us 1 (ints (allClaims v)),.fv (.int .i64 (checkF v))]:=by
 refine valid_of_ev (G:=pg ctx) (tok ctx) hC mixed Tryd.func19 T19 L19 (by simp [Tryd.ntmps19]) ⟨_,rfl,?_⟩
 simp only [Tryd.ntmps19,Tryd.results19,initSt,initEnv,voyF,voyC]
 have e21:=h21 v hv
 simp only [voyF,voyC] at e21
 refine ev_seq (ev_reg (by simp; rfl) ?_)
 refine ev_seq (ev_seq (ev_reg (by simp [e21]; rfl) ?_))
 refine ev_seq (ev_reg (by simp; rfl) ?_)
 refine ev_cond rfl (fun hb=>?_) (fun hb=>?_)
 ·simp at hb
  refine ev_seq (ev_reg (by simp; rfl) ?_)
  refine ev_ret ?_
  simp [allClaims,hb,ints]
 ·simp at hb
  obtain ⟨hvo,c,hc⟩:=check_ok hb
  have e55:=h55 v hvo.lend.1 hvo.lend.2 hv.2.2.2.2
  rw [hc] at e55
  simp only [voyF,voyC,claimsR] at e55
  refine ev_skip ?_
  refine ev_seq (ev_reg (by simp [e55]; rfl) ?_)
  refine ev_seq (ev_reg (by simp; rfl) ?_)
  refine ev_ret ?_
  simp [allClaims,hb,hc]
def H19 (ctx:Ctx):Prop:=∀ v:Voy,Small v->ctx 19 [(false,voyF v)]=some [.us 1 (ints (allClaims v)),.fv (.int .i64 (checkF v))]
def parts3 (v : Voy) : List Stk := [("boat".toUTF8, v.boat), ("nets".toUTF8, v.nets), ("crew".toUTF8, v.crew)]
def netF (v:Voy):Int:=v.gross-v.costs.sum
theorem VoyOk.div3 {v:Voy} (h:VoyOk v):DivOk (netF v) (parts3 v):=by
 have hc:=costs_sum h.g h.cl h.c
 have h1:=h.cs
 have h2:=h.g
 have e0:=h.e 0 (by omega)
 have e1:=h.e 1 (by omega)
 have e2:=h.e 2 (by omega)
 simp only [partE] at e0 e1 e2
 have hs:=h.s
 refine { len:=by simp [parts3],h0:=by unfold netF; omega,h1:=by unfold netF; omega,w:=?_,pos:=?_,nd:=by kernel_rfl,ne:=?_ }
 ·intro x hx
  simp only [parts3,List.mem_cons,List.not_mem_nil,or_false] at hx
  rcases hx with rfl | rfl | rfl<;>simp only<;>omega
 ·simp only [parts3,wts,List.map_cons,List.map_nil,List.sum_cons,List.sum_nil]; omega
 ·intro x hx
  simp only [parts3,List.mem_cons,List.not_mem_nil,or_false] at hx
  rcases hx with rfl | rfl | rfl<;>kernel_rfl
def threeF (v:Voy):List Int:=divF (netF v) (parts3 v)
theorem v59 (ctx:Ctx) (hC:CtxOk (pg ctx)) (h48:H48 ctx) (h50:H50 ctx) (h62:H62 ctx) (v:Voy) (h:VoyOk v):Valid Tryd.prog 59 [(false,voyF v)] [.us 1 (ints (threeF v))]:=by
 refine valid_of_ev (G:=pg ctx) (tok ctx) hC mixed Tryd.func59 T59 L59 (by simp [Tryd.ntmps59]) ⟨_,rfl,?_⟩
 simp only [Tryd.ntmps59,Tryd.results59,initSt,initEnv,voyF,voyC]
 have e62:=fun ro=>h62 v ro
 simp only [voyF,voyC] at e62
 refine ev_seq (ev_reg (by simp; rfl) ?_)
 refine ev_seq (ev_reg (by simp; rfl) ?_)
 refine ev_seq (ev_seq (ev_reg (by simp [e62]; rfl) ?_))
 refine ev_block ?_
 refine ev_loop (fun i:Nat=>({ env:=[(1,V.ptr 1 0),(3,V.own 3 0 ((parts3 v).take i).length),(7,.fv false (.agg [.int .i64 v.boat,.int .i64 v.nets,.int .i64 v.crew])),(8,.fv false (.int .i64 i))],blk:=[(1,.box [.fv false (.int .i64 v.gross),.fv false (.sl false 1 (ints v.costs)),.fv false (.int .i64 v.boat),.fv false (.int .i64 v.nets),.fv false (.int .i64 v.crew),.fv false (.sl false 2 (stL v.own)),.fv false (.sl false 2 (stL v.lend)),.fv false (.sl false 2 (stL v.hand)),.fv false (.sl false 4 (loL v.loans))]),(3,.arr 2 (stL ((parts3 v).take i)))] }:St)) (fun i=>3-i) (fun i=>i<=3) 0 (by simp) (by omega) (by simp [R]) (fun i hi=>?_)
 refine ev_seq (ev_reg (by simp; rfl) ?_)
 refine ev_seq (ev_cond rfl (fun hb=>?_) (fun hb=>?_))
 ·have hi3:i < 3:=by simp at hb; omega
  refine ev_skip ?_
  refine ev_seq (ev_block ?_)
  obtain rfl | rfl | rfl:i=0\/i=1\/i=2:=by omega
  ·refine ev_seq (ev_reg (by simp; rfl) ?_)
   refine ev_reg (by simp [glTab,partsF]; rfl) ?_
   refine ev_reg (by simp; rfl) ?_
   exact ⟨1,by simp [parts3,stL,stF,show IntKind.i64.wrap 1=1 from rfl],by omega,by omega⟩
  ·refine ev_seq (ev_reg (by simp; rfl) ?_)
   refine ev_reg (by simp [glTab,partsF,parts3,stL,stF]; rfl) ?_
   refine ev_reg (by simp; rfl) ?_
   exact ⟨2,by simp [parts3,stL,stF,show IntKind.i64.wrap 2=2 from rfl],by omega,by omega⟩
  ·refine ev_seq (ev_reg (by simp; rfl) ?_)
   refine ev_reg (by simp [glTab,partsF,parts3,stL,stF]; rfl) ?_
   refine ev_reg (by simp; rfl) ?_
   exact ⟨3,by simp [parts3,stL,stF,show IntKind.i64.wrap 3=3 from rfl],by omega,by omega⟩
 ·have hi3:i=3:=by simp at hb; omega
  subst hi3
  refine ev_exit ?_
  have hc:=costs_sum h.g h.cl h.c
  have hcl:=h.cl
  have hg:=h.g
  have hcs:=h.cs
  have e48:ctx 48 [(false,.sl false 1 (ints v.costs))]=some [.fv (.int .i64 v.costs.sum)]:=by rw [h48 _ _ _ (by omega),hc.1]
  have hw:IntKind.i64.wrap (v.gross-v.costs.sum)=netF v:=wrap_id (by omega) (by omega)
  have e50 : ∀ r0 ro c, ctx 50 [(r0, .int .i64 (netF v)), (ro, .sl c 2 [.agg [.str "boat".toByteArray, .int .i64 v.boat], .agg [.str "nets".toByteArray, .int .i64 v.nets], .agg [.str "crew".toByteArray, .int .i64 v.crew]])] = some [.us 1 (ints (threeF v))] := fun r0 ro c => h50 (netF v) (parts3 v) r0 ro c h.div3
  refine ev_seq (ev_drw rfl (by kernel_rfl) (by kernel_rfl) (by simp [e48,hw,e50,parts3,stL,stF]; rfl) ?_)
  refine ev_ret ?_
  simp
def H59 (ctx:Ctx):Prop:=∀ v:Voy,VoyOk v->ctx 59 [(false,voyF v)]=some [.us 1 (ints (threeF v))]
theorem threeF_len (v:Voy):(threeF v).length=3:=by
 unfold threeF divF
 rw [pen_length]
 simp [gets,parts3]
def partsR (v:Voy):List Int:=if checkF v=0 then threeF v else [0,0,0]
theorem v23 (ctx:Ctx) (hC:CtxOk (pg ctx)) (h21:H21 ctx) (h59:H59 ctx) (v:Voy) (hv:Small v):Valid Tryd.prog 23 [(false,voyF v)] [.fv (.int .i64 ((partsR v).getD 0 0)),.fv (.int .i64 ((partsR v).getD 1 0)),.fv (.int .i64 ((partsR v).getD 2 0)),.fv (.int .i64 (checkF v))]:=by
 refine valid_of_ev (G:=pg ctx) (tok ctx) hC mixed Tryd.func23 T23 L23 (by simp [Tryd.ntmps23]) ⟨_,rfl,?_⟩
 simp only [Tryd.ntmps23,Tryd.results23,initSt,initEnv,voyF,voyC]
 have e21:=h21 v hv
 simp only [voyF,voyC] at e21
 refine ev_seq (ev_reg (by simp; rfl) ?_)
 refine ev_seq (ev_seq (ev_reg (by simp [e21]; rfl) ?_))
 refine ev_seq (ev_reg (by simp; rfl) ?_)
 refine ev_cond rfl (fun hb=>?_) (fun hb=>?_)
 ·simp at hb
  refine ev_seq (ev_reg (by simp; rfl) ?_)
  refine ev_ret ?_
  simp [partsR,hb]
 ·simp at hb
  obtain ⟨hvo,c,hc⟩:=check_ok hb
  have e59:=h59 v hvo
  simp only [voyF,voyC] at e59
  have hl:=threeF_len v
  have hr:partsR v=threeF v:=by unfold partsR; rw [if_pos hb]
  rw [hr]
  generalize threeF v=l at e59 hl
  obtain ⟨a,b,c,rfl⟩:∃ a b c,l=[a,b,c]:=by
   match l,hl with
   | [a,b,c],_=>exact ⟨a,b,c,rfl⟩
  refine ev_skip ?_
  refine ev_seq (ev_reg (by simp [e59]; rfl) ?_)
  refine ev_seq (ev_drw rfl (by kernel_rfl) (by kernel_rfl) (by simp; rfl) ?_)
  refine ev_ret ?_
  simp [hb]
def H23 (ctx:Ctx):Prop:=∀ v:Voy,Small v->ctx 23 [(false,voyF v)]=some [.fv (.int .i64 ((partsR v).getD 0 0)),.fv (.int .i64 ((partsR v).getD 1 0)),.fv (.int .i64 ((partsR v).getD 2 0)),.fv (.int .i64 (checkF v))]
end Go.Proofs.YtejodhjhddnbeaaDoor.E
