/-
  The chapter of the share: its functions, and what they compute. Conditions: none.
-/
import Derived.Test.YtejodhjhddnbeaaDoorZ10
import Derived.Test.YtejodhjhddnbeaaDoorZ11
set_option linter.unusedVariables false
set_option linter.unusedSimpArgs false
namespace Go.Proofs.YtejodhjhddnbeaaDoor.E
open Go Go.RowKit
structure Loan where
 fr:ByteArray
 to:ByteArray
 nets:Int
 rent:Int
def loF (x:Loan):FV:=.agg [.str x.fr,.str x.to,.int .i64 x.nets,.int .i64 x.rent]
def loL (l:List Loan):List FV:=l.map loF
@[simp] theorem loL_length (l:List Loan):(loL l).length=l.length:=by simp [loL]
@[simp] theorem loL_get? (l:List Loan) (i:Nat):(loL l)[i]? = (l[i]?).map loF:=by simp [loL]
@[simp] theorem loL_get (l:List Loan) (i:Nat) (h:i < (loL l).length):(loL l)[i] = .agg [.str (l[i]'(by simpa using h)).fr,.str (l[i]'(by simpa using h)).to,.int .i64 (l[i]'(by simpa using h)).nets,.int .i64 (l[i]'(by simpa using h)).rent]:=by simp [loL,loF]
structure Voy where
 gross:Int
 costs:List Int
 boat:Int
 nets:Int
 crew:Int
 own:List Stk
 lend:List Stk
 hand:List Stk
 loans:List Loan
def voyC (v:Voy):List FV:=[.int .i64 v.gross,.sl false 1 (ints v.costs),.int .i64 v.boat,.int .i64 v.nets,.int .i64 v.crew,.sl false 2 (stL v.own),.sl false 2 (stL v.lend),.sl false 2 (stL v.hand),.sl false 4 (loL v.loans)]
def voyF (v:Voy):FV:=.agg (voyC v)
theorem v141 (ctx:Ctx) (hC:CtxOk (pg ctx)) (v:Voy):Valid Tryd.prog 141 [(false,voyF v)] [.fv (.sl false 2 (stL v.own))]:=by
 refine valid_of_ev (G:=pg ctx) (tok ctx) hC mixed Tryd.func141 T141 L141 (by simp [Tryd.ntmps141]) ⟨_,rfl,?_⟩
 simp only [Tryd.ntmps141,Tryd.results141,initSt,initEnv,voyF,voyC]
 refine ev_seq (ev_reg (by simp; rfl) ?_)
 refine ev_seq (ev_reg (by simp; rfl) ?_)
 refine ev_ret ?_
 simp
theorem v142 (ctx:Ctx) (hC:CtxOk (pg ctx)) (v:Voy):Valid Tryd.prog 142 [(false,voyF v)] [.fv (.sl false 2 (stL v.lend))]:=by
 refine valid_of_ev (G:=pg ctx) (tok ctx) hC mixed Tryd.func142 T142 L142 (by simp [Tryd.ntmps142]) ⟨_,rfl,?_⟩
 simp only [Tryd.ntmps142,Tryd.results142,initSt,initEnv,voyF,voyC]
 refine ev_seq (ev_reg (by simp; rfl) ?_)
 refine ev_seq (ev_reg (by simp; rfl) ?_)
 refine ev_ret ?_
 simp
theorem v143 (ctx:Ctx) (hC:CtxOk (pg ctx)) (v:Voy):Valid Tryd.prog 143 [(false,voyF v)] [.fv (.sl false 2 (stL v.hand))]:=by
 refine valid_of_ev (G:=pg ctx) (tok ctx) hC mixed Tryd.func143 T143 L143 (by simp [Tryd.ntmps143]) ⟨_,rfl,?_⟩
 simp only [Tryd.ntmps143,Tryd.results143,initSt,initEnv,voyF,voyC]
 refine ev_seq (ev_reg (by simp; rfl) ?_)
 refine ev_seq (ev_reg (by simp; rfl) ?_)
 refine ev_ret ?_
 simp
def H141 (ctx:Ctx):Prop:=∀ v:Voy,ctx 141 [(false,voyF v)]=some [.fv (.sl false 2 (stL v.own))]
def H142 (ctx:Ctx):Prop:=∀ v:Voy,ctx 142 [(false,voyF v)]=some [.fv (.sl false 2 (stL v.lend))]
def H143 (ctx:Ctx):Prop:=∀ v:Voy,ctx 143 [(false,voyF v)]=some [.fv (.sl false 2 (stL v.hand))]
theorem v62 (ctx:Ctx) (hC:CtxOk (pg ctx)) (v:Voy) (ro:Bool):Valid Tryd.prog 62 [(ro,voyF v)] [.fv (.agg [.int .i64 v.boat,.int .i64 v.nets,.int .i64 v.crew])]:=by
 refine valid_of_ev (G:=pg ctx) (tok ctx) hC mixed Tryd.func62 T62 L62 (by simp [Tryd.ntmps62]) ⟨_,rfl,?_⟩
 simp only [Tryd.ntmps62,Tryd.results62,initSt,initEnv,voyF,voyC]
 refine ev_seq (ev_reg (by simp; rfl) ?_)
 refine ev_seq (ev_reg (by simp; rfl) ?_)
 refine ev_ret ?_
 simp
def H62 (ctx:Ctx):Prop:=∀ (v:Voy) (ro:Bool),ctx 62 [(ro,voyF v)]=some [.fv (.agg [.int .i64 v.boat,.int .i64 v.nets,.int .i64 v.crew])]
theorem v93 (ctx:Ctx) (hC:CtxOk (pg ctx)) (p:Stk) (n:ByteArray) (r1 r2:Bool):Valid Tryd.prog 93 [(r1,stF p),(r2,.pt [.str n] 0)] [.fv (.bool (p.1==n))]:=by
 refine valid_of_ev (G:=pg ctx) (tok ctx) hC mixed Tryd.func93 T93 L93 (by simp [Tryd.ntmps93]) ⟨_,rfl,?_⟩
 simp only [Tryd.ntmps93,Tryd.results93,initSt,initEnv,stF]
 refine ev_seq (ev_reg (by simp; rfl) ?_)
 refine ev_seq (ev_reg (by simp; rfl) ?_)
 refine ev_ret ?_
 simp
def placeF (l:List Stk) (n:ByteArray):Int:=idx (fun p:Stk=>p.1==n) l
def H87n (ctx:Ctx):Prop:=∀ (n:ByteArray) (l:List Stk) (ro rf c:Bool),l.length < 2^44->ctx 87 [(ro,.sl c 2 (stL l)),(rf,.fn (.func 93) [] [.pt [.str n] 0])]=some [.fv (.int .i64 (placeF l n))]
theorem v80 (ctx:Ctx) (hC:CtxOk (pg ctx)) (h87:H87n ctx) (v:Voy) (n:ByteArray) (r1 r2:Bool) (hl:v.lend.length < 2^44):Valid Tryd.prog 80 [(r1,voyF v),(r2,.str n)] [.fv (.int .i64 (placeF v.lend n))]:=by
 refine valid_of_ev (G:=pg ctx) (tok ctx) hC mixed Tryd.func80 T80 L80 (by simp [Tryd.ntmps80]) ⟨_,rfl,?_⟩
 simp only [Tryd.ntmps80,Tryd.results80,initSt,initEnv,voyF,voyC]
 have e87:∀ ro rf,ctx 87 [(ro,.sl false 2 (stL v.lend)),(rf,.fn (.func 93) [] [.pt [.str n] 0])]=some [.fv (.int .i64 (placeF v.lend n))]:=fun ro rf=>h87 n _ _ _ _ hl
 refine ev_seq (ev_reg (by simp; rfl) ?_)
 refine ev_seq (ev_reg (by simp [e87]; rfl) ?_)
 refine ev_ret ?_
 simp
def H80 (ctx:Ctx):Prop:=∀ (v:Voy) (n:ByteArray) (r1 r2:Bool),v.lend.length < 2^44->ctx 80 [(r1,voyF v),(r2,.str n)]=some [.fv (.int .i64 (placeF v.lend n))]
def vok0 (v:Voy):Bool:=(decide (0<=v.gross)&&decide (v.gross<=10000000))&&decide (v.costs.length<=10)
def costOk (v:Voy) (n:Int):Bool:=decide (0<=n)&&decide (n<=v.gross)
def vokC (v:Voy) (i:Nat):Bool:=vok0 v&&(v.costs.take i).all (costOk v)
def vok7 (v:Voy):Bool:=vokC v v.costs.length&&decide (sumI v.costs<=v.gross)
theorem vokC_succ (v:Voy) (i:Nat) (h:i < v.costs.length):vokC v (i+1)=(vokC v i&&costOk v v.costs[i]):=by
 simp only [vokC,List.take_add_one,List.getElem?_eq_getElem h,Option.toList_some,List.all_append,List.all_cons,List.all_nil,Bool.and_true,Bool.and_assoc]
def partE (v:Voy):Nat->Int
 | 0=>v.boat
 | 1=>v.nets
 | _=>v.crew
def partL (v:Voy):Nat->List Stk
 | 0=>v.own
 | 1=>v.lend
 | _=>v.hand
def partOk (v:Voy) (j:Nat):Bool:=(decide (0<=partE v j)&&decide (partE v j<=8))&&stakesOk (partL v j)&&(partE v j==0||decide (0 < sumI (wts (partL v j))))
def vokP (v:Voy):Nat->Bool
 | 0=>vok7 v
 | i+1=>vokP v i&&partOk v i
def voyOk (v:Voy):Bool:=vokP v 3&&(sumI [v.boat,v.nets,v.crew]==8)
def Small (v:Voy):Prop:=v.costs.length < 2^44/\v.own.length < 2^44/\v.lend.length < 2^44/\v.hand.length < 2^44/\v.loans.length < 2^44
theorem v57 (ctx:Ctx) (hC:CtxOk (pg ctx)) (h46:H46 ctx) (h47:H47 ctx) (h48:H48 ctx) (h49:H49 ctx) (h62:H62 ctx) (h141:H141 ctx) (h142:H142 ctx) (h143:H143 ctx) (v:Voy) (hv:Small v):Valid Tryd.prog 57 [(false,voyF v)] [.fv (.bool (voyOk v))]:=by
 obtain ⟨s1,s2,s3,s4,s5⟩:=hv
 refine valid_of_ev (G:=pg ctx) (tok ctx) hC mixed Tryd.func57 T57 L57 (by simp [Tryd.ntmps57]) ⟨_,rfl,?_⟩
 simp only [Tryd.ntmps57,Tryd.results57,initSt,initEnv,voyF,voyC]
 have e46:ctx 46 [(false,.int .i64 v.gross),(false,.int .i64 0),(false,.int .i64 10000000)]=some [.fv (.bool (decide (0<=v.gross)&&decide (v.gross<=10000000)))]:=h46 _ _ _ _ _ _
 have hv0:vok0 v=((decide (0<=v.gross)&&decide (v.gross<=10000000))&&decide (v.costs.length<=10)):=rfl
 have h10:decide ((v.costs.length:Int)<=10)=decide (v.costs.length<=10):=by rw [Bool.eq_iff_iff]; simp; omega
 have hr1:∀ σ',σ'=({ env:=[(1,V.ptr 1 0),(3,.fv false (.bool (vok0 v)))],blk:=[(1,.box ((voyC v).map (V.fv false)))] }:St)->True:=fun _ _=>trivial
 refine ev_seq (ev_reg (by simp; rfl) ?_)
 have key:∀ (Q:St->Prop),Q ({ env:=[(1,V.ptr 1 0),(3,.fv false (.bool (vok0 v)))],blk:=[(1,.box [.fv false (.int .i64 v.gross),.fv false (.sl false 1 (ints v.costs)),.fv false (.int .i64 v.boat),.fv false (.int .i64 v.nets),.fv false (.int .i64 v.crew),.fv false (.sl false 2 (stL v.own)),.fv false (.sl false 2 (stL v.lend)),.fv false (.sl false 2 (stL v.hand)),.fv false (.sl false 4 (loL v.loans))])] }:St)->Q _:=fun Q h=>h
 generalize (decide (0<=v.gross)&&decide (v.gross<=10000000))=a at e46 hv0
 refine ev_seq (ev_reg (σ':={ env:=[(1,V.ptr 1 0),(3,.fv false (.bool (vok0 v)))],blk:=[(1,.box [.fv false (.int .i64 v.gross),.fv false (.sl false 1 (ints v.costs)),.fv false (.int .i64 v.boat),.fv false (.int .i64 v.nets),.fv false (.int .i64 v.crew),.fv false (.sl false 2 (stL v.own)),.fv false (.sl false 2 (stL v.lend)),.fv false (.sl false 2 (stL v.hand)),.fv false (.sl false 4 (loL v.loans))])] }) ?_ ?_)
 ·cases a
  ·simp [e46,hv0,unsetS]
  ·simp [e46,hv0]
   omega
 clear e46 hv0 h10 hr1 key
 refine ev_seq (ev_seq (ev_reg (by simp; rfl) ?_))
 refine ev_block ?_
 refine ev_loop (fun i:Nat=>({ env:=[(1,V.ptr 1 0),(3,.fv false (.bool (vokC v i))),(22,.fv false (.sl false 1 (ints v.costs))),(23,.fv false (.int .i64 v.costs.length)),(24,.fv false (.int .i64 i))],blk:=[(1,.box [.fv false (.int .i64 v.gross),.fv false (.sl false 1 (ints v.costs)),.fv false (.int .i64 v.boat),.fv false (.int .i64 v.nets),.fv false (.int .i64 v.crew),.fv false (.sl false 2 (stL v.own)),.fv false (.sl false 2 (stL v.lend)),.fv false (.sl false 2 (stL v.hand)),.fv false (.sl false 4 (loL v.loans))])] }:St)) (fun i=>v.costs.length-i) (fun i=>i<=v.costs.length) 0 (by simp [vokC]) (by simp) (by simp [R]; omega) (fun i hi=>?_)
 refine ev_seq (ev_reg (by simp; rfl) ?_)
 refine ev_seq (ev_cond rfl (fun hb=>?_) (fun hb=>?_))
 ·simp at hb
  refine ev_skip ?_
  refine ev_seq (ev_block ?_)
  refine ev_seq (ev_reg (by simp [hb]; rfl) ?_)
  have hs:=vokC_succ v i hb
  have e46:ctx 46 [(false,.int .i64 v.costs[i]),(false,.int .i64 0),(false,.int .i64 v.gross)]=some [.fv (.bool (costOk v v.costs[i]))]:=h46 _ _ _ _ _ _
  generalize costOk v v.costs[i]=a at hs e46
  cases h0:vokC v i with
  | false =>
   rw [h0] at hs
   refine ev_reg (by simp [unsetS]; rfl) ?_
   refine ev_reg (by simp; rfl) ?_
   refine ⟨i+1,?_,by omega,by omega⟩
   simp [hs]
   exact wrap_nat (n:=i+1) (by omega)
  | true =>
   rw [h0] at hs
   refine ev_reg (by simp [e46]; rfl) ?_
   refine ev_reg (by simp; rfl) ?_
   refine ⟨i+1,?_,by omega,by omega⟩
   simp [hs]
   exact wrap_nat (n:=i+1) (by omega)
 ·simp at hb
  refine ev_exit ?_
  obtain rfl:i=v.costs.length:=by omega
  have h7:vok7 v=(vokC v v.costs.length&&decide (sumI v.costs<=v.gross)):=rfl
  have e48:ctx 48 [(false,.sl false 1 (ints v.costs))]=some [.fv (.int .i64 (sumI v.costs))]:=h48 _ _ _ (by omega)
  refine ev_seq (ev_drw (σ':={ env:=[(1,V.ptr 1 0),(3,.fv false (.bool (vok7 v)))],blk:=[(1,.box [.fv false (.int .i64 v.gross),.fv false (.sl false 1 (ints v.costs)),.fv false (.int .i64 v.boat),.fv false (.int .i64 v.nets),.fv false (.int .i64 v.crew),.fv false (.sl false 2 (stL v.own)),.fv false (.sl false 2 (stL v.lend)),.fv false (.sl false 2 (stL v.hand)),.fv false (.sl false 4 (loL v.loans))])] }) rfl (by kernel_rfl) (by kernel_rfl) ?_ ?_)
  ·cases h0:vokC v v.costs.length
   ·rw [h0] at h7; simp [h7]
   ·rw [h0] at h7; simp [h7,e48]
  clear h7 e48
  have e62:=h62 v false
  simp only [voyF,voyC] at e62
  refine ev_seq (ev_reg (by simp [e62]; rfl) ?_)
  refine ev_seq (ev_seq (ev_reg (by simp [glTab,partsF]; rfl) ?_))
  refine ev_block ?_
  refine ev_loop (fun i:Nat=>({ env:=[(1,V.ptr 1 0),(3,.fv false (.bool (vokP v i))),(6,.ptr 6 0),(50,.fv false (.agg partsF)),(51,.fv false (.int .i64 i))],blk:=[(1,.box [.fv false (.int .i64 v.gross),.fv false (.sl false 1 (ints v.costs)),.fv false (.int .i64 v.boat),.fv false (.int .i64 v.nets),.fv false (.int .i64 v.crew),.fv false (.sl false 2 (stL v.own)),.fv false (.sl false 2 (stL v.lend)),.fv false (.sl false 2 (stL v.hand)),.fv false (.sl false 4 (loL v.loans))]),(6,.box [.fv false (.int .i64 v.boat),.fv false (.int .i64 v.nets),.fv false (.int .i64 v.crew)])] }:St)) (fun i=>3-i) (fun i=>i<=3) 0 (by simp [vokP,partsF]) (by omega) (by simp [R]) (fun i hi=>?_)
  refine ev_seq (ev_reg (by simp; rfl) ?_)
  refine ev_seq (ev_cond rfl (fun hb=>?_) (fun hb=>?_))
  ·have hi3:i < 3:=by simp at hb; omega
   refine ev_skip ?_
   refine ev_seq (ev_block ?_)
   have h141':=h141 v
   have h142':=h142 v
   have h143':=h143 v
   simp only [voyF,voyC] at h141' h142' h143'
   obtain rfl | rfl | rfl:i=0\/i=1\/i=2:=by omega
   ·have hs:vokP v 1=(vokP v 0&&partOk v 0):=rfl
    have hpo:partOk v 0=((decide (0<=v.boat)&&decide (v.boat<=8))&&stakesOk v.own&&(v.boat==0||decide (0 < sumI (wts v.own)))):=rfl
    have e46:ctx 46 [(false,.int .i64 v.boat),(false,.int .i64 0),(false,.int .i64 8)]=some [.fv (.bool (decide (0<=v.boat)&&decide (v.boat<=8)))]:=h46 _ _ _ _ _ _
    have e47:ctx 47 [(false,.sl false 2 (stL v.own))]=some [.fv (.bool (stakesOk v.own))]:=h47 _ _ _ s2
    have e49:ctx 49 [(false,.sl false 2 (stL v.own))]=some [.us 1 (ints (wts v.own))]:=h49 _ _ _ s2
    have htk:List.take v.own.length (wts v.own)=wts v.own:=List.take_of_length_le (by simp)
    have e48:∀ ro c,ctx 48 [(ro,.sl c 1 (ints (wts v.own)))]=some [.fv (.int .i64 (sumI (wts v.own)))]:=fun ro c=>h48 _ ro c (by simp; omega)
    rw [hpo] at hs
    refine ev_seq (ev_reg (by simp [partsF]; rfl) ?_)
    generalize (decide (0<=v.boat)&&decide (v.boat<=8))=a at e46 hs
    generalize stakesOk v.own=b at e47 hs
    refine ev_reg (σ':={ env:=[(1,V.ptr 1 0),(3,.fv false (.bool (vokP v 1))),(6,.ptr 6 0),(50,.fv false (.agg partsF)),(51,.fv false (.int .i64 0))],blk:=[(1,.box [.fv false (.int .i64 v.gross),.fv false (.sl false 1 (ints v.costs)),.fv false (.int .i64 v.boat),.fv false (.int .i64 v.nets),.fv false (.int .i64 v.crew),.fv false (.sl false 2 (stL v.own)),.fv false (.sl false 2 (stL v.lend)),.fv false (.sl false 2 (stL v.hand)),.fv false (.sl false 4 (loL v.loans))]),(6,.box [.fv false (.int .i64 v.boat),.fv false (.int .i64 v.nets),.fv false (.int .i64 v.crew)])] }) ?_ ?_
    ·rw [hs]
     cases vokP v 0
     ·simp [unsetS,partsF]
     ·cases a
      ·simp [e46,unsetS,partsF]
      ·cases b
       ·simp [e46,e47,h141',unsetS,partsF]
       ·cases hz:(v.boat==0)
        ·simp [e46,e47,e48,e49,htk,h141',hz,partsF]
        ·simp [e46,e47,h141',hz,unsetS,partsF]
    ·refine ev_reg (by simp; rfl) ?_
     exact ⟨1,by simp [show IntKind.i64.wrap 1=1 from rfl],by omega,by omega⟩
   ·have hs:vokP v 2=(vokP v 1&&partOk v 1):=rfl
    have hpo:partOk v 1=((decide (0<=v.nets)&&decide (v.nets<=8))&&stakesOk v.lend&&(v.nets==0||decide (0 < sumI (wts v.lend)))):=rfl
    have e46:ctx 46 [(false,.int .i64 v.nets),(false,.int .i64 0),(false,.int .i64 8)]=some [.fv (.bool (decide (0<=v.nets)&&decide (v.nets<=8)))]:=h46 _ _ _ _ _ _
    have e47:ctx 47 [(false,.sl false 2 (stL v.lend))]=some [.fv (.bool (stakesOk v.lend))]:=h47 _ _ _ s3
    have e49:ctx 49 [(false,.sl false 2 (stL v.lend))]=some [.us 1 (ints (wts v.lend))]:=h49 _ _ _ s3
    have htk:List.take v.lend.length (wts v.lend)=wts v.lend:=List.take_of_length_le (by simp)
    have e48:∀ ro c,ctx 48 [(ro,.sl c 1 (ints (wts v.lend)))]=some [.fv (.int .i64 (sumI (wts v.lend)))]:=fun ro c=>h48 _ ro c (by simp; omega)
    rw [hpo] at hs
    refine ev_seq (ev_reg (by simp [partsF]; rfl) ?_)
    generalize (decide (0<=v.nets)&&decide (v.nets<=8))=a at e46 hs
    generalize stakesOk v.lend=b at e47 hs
    refine ev_reg (σ':={ env:=[(1,V.ptr 1 0),(3,.fv false (.bool (vokP v 2))),(6,.ptr 6 0),(50,.fv false (.agg partsF)),(51,.fv false (.int .i64 1))],blk:=[(1,.box [.fv false (.int .i64 v.gross),.fv false (.sl false 1 (ints v.costs)),.fv false (.int .i64 v.boat),.fv false (.int .i64 v.nets),.fv false (.int .i64 v.crew),.fv false (.sl false 2 (stL v.own)),.fv false (.sl false 2 (stL v.lend)),.fv false (.sl false 2 (stL v.hand)),.fv false (.sl false 4 (loL v.loans))]),(6,.box [.fv false (.int .i64 v.boat),.fv false (.int .i64 v.nets),.fv false (.int .i64 v.crew)])] }) ?_ ?_
    ·rw [hs]
     cases vokP v 1
     ·simp [unsetS,partsF]
     ·cases a
      ·simp [e46,unsetS,partsF]
      ·cases b
       ·simp [e46,e47,h142',unsetS,partsF]
       ·cases hz:(v.nets==0)
        ·simp [e46,e47,e48,e49,htk,h142',hz,partsF]
        ·simp [e46,e47,h142',hz,unsetS,partsF]
    ·refine ev_reg (by simp; rfl) ?_
     exact ⟨2,by simp [show IntKind.i64.wrap 2=2 from rfl],by omega,by omega⟩
   ·have hs:vokP v 3=(vokP v 2&&partOk v 2):=rfl
    have hpo:partOk v 2=((decide (0<=v.crew)&&decide (v.crew<=8))&&stakesOk v.hand&&(v.crew==0||decide (0 < sumI (wts v.hand)))):=rfl
    have e46:ctx 46 [(false,.int .i64 v.crew),(false,.int .i64 0),(false,.int .i64 8)]=some [.fv (.bool (decide (0<=v.crew)&&decide (v.crew<=8)))]:=h46 _ _ _ _ _ _
    have e47:ctx 47 [(false,.sl false 2 (stL v.hand))]=some [.fv (.bool (stakesOk v.hand))]:=h47 _ _ _ s4
    have e49:ctx 49 [(false,.sl false 2 (stL v.hand))]=some [.us 1 (ints (wts v.hand))]:=h49 _ _ _ s4
    have htk:List.take v.hand.length (wts v.hand)=wts v.hand:=List.take_of_length_le (by simp)
    have e48:∀ ro c,ctx 48 [(ro,.sl c 1 (ints (wts v.hand)))]=some [.fv (.int .i64 (sumI (wts v.hand)))]:=fun ro c=>h48 _ ro c (by simp; omega)
    rw [hpo] at hs
    refine ev_seq (ev_reg (by simp [partsF]; rfl) ?_)
    generalize (decide (0<=v.crew)&&decide (v.crew<=8))=a at e46 hs
    generalize stakesOk v.hand=b at e47 hs
    refine ev_reg (σ':={ env:=[(1,V.ptr 1 0),(3,.fv false (.bool (vokP v 3))),(6,.ptr 6 0),(50,.fv false (.agg partsF)),(51,.fv false (.int .i64 2))],blk:=[(1,.box [.fv false (.int .i64 v.gross),.fv false (.sl false 1 (ints v.costs)),.fv false (.int .i64 v.boat),.fv false (.int .i64 v.nets),.fv false (.int .i64 v.crew),.fv false (.sl false 2 (stL v.own)),.fv false (.sl false 2 (stL v.lend)),.fv false (.sl false 2 (stL v.hand)),.fv false (.sl false 4 (loL v.loans))]),(6,.box [.fv false (.int .i64 v.boat),.fv false (.int .i64 v.nets),.fv false (.int .i64 v.crew)])] }) ?_ ?_
    ·rw [hs]
     cases vokP v 2
     ·simp [unsetS,partsF]
     ·cases a
      ·simp [e46,unsetS,partsF]
      ·cases b
       ·simp [e46,e47,h143',unsetS,partsF]
       ·cases hz:(v.crew==0)
        ·simp [e46,e47,e48,e49,htk,h143',hz,partsF]
        ·simp [e46,e47,h143',hz,unsetS,partsF]
    ·refine ev_reg (by simp; rfl) ?_
     exact ⟨3,by simp [show IntKind.i64.wrap 3=3 from rfl],by omega,by omega⟩
  ·have hi3:i=3:=by simp at hb; omega
   subst hi3
   refine ev_exit ?_
   have hvo:voyOk v=(vokP v 3&&(sumI [v.boat,v.nets,v.crew]==8)):=rfl
   have e48:∀ ro c,ctx 48 [(ro,.sl c 1 [.int .i64 v.boat,.int .i64 v.nets,.int .i64 v.crew])]=some [.fv (.int .i64 (sumI [v.boat,v.nets,v.crew]))]:=fun ro c=>h48 [v.boat,v.nets,v.crew] ro c (by simp)
   refine ev_seq (ev_reg (σ':={ env:=[(2,.fv false (.bool (voyOk v)))],blk:=[] }) ?_ ?_)
   ·rw [hvo]
    cases vokP v 3
    ·simp [unsetS]
    ·simp [e48]
   ·refine ev_ret ?_
    simp
def H57 (ctx:Ctx):Prop:=∀ v:Voy,Small v->ctx 57 [(false,voyF v)]=some [.fv (.bool (voyOk v))]
end Go.Proofs.YtejodhjhddnbeaaDoor.E
