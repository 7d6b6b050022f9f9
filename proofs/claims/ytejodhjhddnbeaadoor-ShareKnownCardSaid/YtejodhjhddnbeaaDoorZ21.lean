/-
  The chapter of the share: its functions, and what they compute. Conditions: none.
-/
import Derived.Test.YtejodhjhddnbeaaDoorZ20
import Derived.Test.YtejodhjhddnbeaaDoorZ15
import Derived.Test.YtejodhjhddnbeaaDoorZ12
import Derived.Test.YtejodhjhddnbeaaDoorZ08
set_option linter.unusedVariables false
set_option linter.unusedSimpArgs false
namespace Go.Proofs.YtejodhjhddnbeaaDoor.E
open Go Go.RowKit
def H72 (ctx:Ctx):Prop:=∀ (bal:List Int) (mem:List Nat) (ro c1 c2:Bool),mem.length < 2^44->(∀ q∈mem,q < bal.length)->ctx 72 [(ro,.agg [.sl c1 1 (ints bal),.sl c2 1 (ints (natL mem))])]=some [.fv (.int .i64 (payF bal mem).1),.fv (.int .i64 (payF bal mem).2)]
theorem memS_mem {nums:List Nat} {set:Nat}:∀ q∈memS nums set,q∈nums:=fun q hq=>by
 unfold memS memTo at hq
 rw [List.mem_map] at hq
 obtain ⟨k,hk,rfl⟩:=hq
 rw [List.mem_filter,List.mem_range] at hk
 have:nums.getD k 0=nums[k]'hk.1:=by simp [List.getD_eq_getElem?_getD,hk.1]
 rw [this]; exact List.getElem_mem hk.1
theorem groupsF_mem {bal:List Int} (h:balances bal=true):∀ g∈(groupsF bal).1,g.length<=10/\∀ q∈g,q < bal.length:=fun g hg=>by
 have hb10:=bal_len h
 have hgf:(groupsF bal).1=(groupsS bal (numsF bal) (2^(numsF bal).length-1)).map (memS (numsF bal)):=by unfold groupsF; rw [if_pos h]
 rw [hgf,List.mem_map] at hg
 obtain ⟨s,_,rfl⟩:=hg
 have h1:=memTo_length (numsF bal) s (numsF bal).length
 have h2:(numsF bal).length<=bal.length:=nonz_len bal bal.length
 exact ⟨by unfold memS; omega,fun q hq=>nonz_mem q (memS_mem q hq)⟩
theorem groupsF_len {bal:List Int} (h:balances bal=true):(groupsF bal).1.length<=11:=by
 have hb10:=bal_len h
 have hgf:(groupsF bal).1=(groupsS bal (numsF bal) (2^(numsF bal).length-1)).map (memS (numsF bal)):=by unfold groupsF; rw [if_pos h]
 have h1:=groupsS_len (bal:=bal) (nums:=numsF bal) (set:=2^(numsF bal).length-1)
 have h2:(numsF bal).length<=bal.length:=nonz_len bal bal.length
 rw [hgf,List.length_map]
 omega
theorem bal_bound {bal:List Int} (h:balances bal=true):∀ x∈bal,-1000000<=x/\x<=1000000:=fun x hx=>by
 simp only [balances,balTo,Bool.and_eq_true,List.take_length,List.all_eq_true,balOk,decide_eq_true_eq] at h
 exact h.1.2 x hx
theorem settleAll_take (gs:List (List Nat)) (s:List Int×List Pay) (i:Nat) (h:i < gs.length):settleAll (gs.take (i+1)) s=settle 11 gs[i] (settleAll (gs.take i) s):=by
 unfold settleAll
 rw [List.take_add_one,List.getElem?_eq_getElem h,Option.toList_some,List.foldl_append]
 rfl
theorem v41 (ctx:Ctx) (hC:CtxOk (pg ctx)) (h37:H37 ctx) (h72:H72 ctx) (bal:List Int) (r0 c0:Bool) (hbl:bal.length < 2^44):Valid Tryd.prog 41 [(r0,.sl c0 1 (ints bal))] [.us 3 (paL (clearF bal).1),.fv (.int .i64 (clearF bal).2)]:=by
 refine valid_of_ev (G:=pg ctx) (tok ctx) hC mixed Tryd.func41 T41 L41 (by simp [Tryd.ntmps41]) ⟨_,rfl,?_⟩
 simp only [Tryd.ntmps41,Tryd.results41,initSt,initEnv]
 have e37:=h37 bal r0 c0 hbl
 have herr:(groupsF bal).2=if balances bal=true then 0 else 33:=by unfold groupsF; split<;>rfl
 refine ev_seq (ev_reg (by simp; rfl) ?_)
 refine ev_seq (ev_reg (by simp [e37]; rfl) ?_)
 refine ev_seq (ev_seq (ev_reg (by simp; rfl) ?_))
 refine ev_cond rfl (fun hb=>?_) (fun hb=>?_)
 ·have hno:balances bal=false:=by
   cases h:balances bal with
   | false=>rfl
   | true=>rw [h] at herr; simp [herr] at hb
  rw [hno] at herr
  simp only [Bool.false_eq_true,if_false] at herr
  refine ev_seq (ev_reg (by simp; rfl) ?_)
  refine ev_ret ?_
  simp [clearF,hno,herr,paL]
 ·have hyes:balances bal=true:=by
   cases h:balances bal with
   | true=>rfl
   | false=>rw [h] at herr; simp [herr] at hb
  have hmem:=groupsF_mem hyes
  have hgl:=groupsF_len hyes
  have hb10:=bal_len hyes
  have hbd:=bal_bound hyes
  have hcf:clearF bal=((settleAll (groupsF bal).1 (bal,[])).2,0):=by unfold clearF; rw [if_pos hyes]
  generalize (groupsF bal).1=gs at hmem hgl hcf
  have hbd8:bal.length*8<=140737488355328:=by omega
  refine ev_skip ?_
  refine ev_seq (ev_reg (by simp; rfl) ?_)
  refine ev_seq (ev_reg (by simp [hbd8]; rfl) ?_)
  refine ev_seq (ev_seq (ev_reg (by simp; rfl) ?_))
  refine ev_block ?_
  refine ev_loop (fun x:Nat×List Int×List Pay=>({ env:=[(4,.own 4 0 gs.length),(6,.own 6 0 x.2.2.length),(7,.own 7 0 bal.length),(25,.fv false (.int .i64 gs.length)),(26,.fv false (.int .i64 x.1))],blk:=[(4,.arr 1 (grL gs)),(6,.arr 3 (paL x.2.2)),(7,.arr 1 (ints x.2.1))] }:St)) (fun x=>gs.length-x.1) (fun x=>x.1<=gs.length/\settleAll (gs.take x.1) (bal,[])=x.2/\x.2.1.length=bal.length/\x.2.2.length+cntZ x.2.1<=10/\∀ y∈x.2.1,-1000000<=y/\y<=1000000) (0,bal,[]) (by simp [paL]) ⟨by omega,rfl,rfl,by have:=cntZ_le bal; simp; omega,hbd⟩ (by simp [R]; omega) (fun x hx=>?_)
  obtain ⟨i,left,out⟩:=x
  obtain ⟨hi,hx1,hx2,hx3,hx4⟩:=hx
  simp only at hi hx1 hx2 hx3 hx4 ⊢
  refine ev_seq (ev_reg (by simp; rfl) ?_)
  refine ev_seq (ev_cond rfl (fun hb=>?_) (fun hb=>?_))
  ·simp at hb
   have hst:=settleAll_take gs (bal,[]) i hb
   rw [hx1] at hst
   have hg:=hmem gs[i] (List.getElem_mem hb)
   have hgg:(grL gs)[i]? = some (.sl false 1 (ints (natL gs[i]))):=by simp [grL,hb]
   have hgg':(grL gs)[i]'(by simpa using hb) = .sl false 1 (ints (natL gs[i])):=by simp [grL]
   generalize gs[i]=g at hst hg hgg hgg'
   have hsb:=settle_stable (mem:=g) 11 (cntZ left+1) (left,out) (fun q hq=>by rw [hx2]; exact hg.2 q hq) (by simp only; omega) (by simp only; omega)
   rw [hsb] at hst
   refine ev_skip ?_
   refine ev_seq (ev_block ?_)
   refine ev_seq (ev_reg (by simp; rfl) ?_)
   refine ev_seq (ev_reg (by simp [hb,hgg,hgg']; rfl) ?_)
   have e72:∀ l:List Int,l.length=bal.length->∀ r,ctx 72 [(r,.agg [.sl false 1 (ints l),.sl false 1 (ints (natL g))])]=some [.fv (.int .i64 (payF l g).1),.fv (.int .i64 (payF l g).2)]:=fun l hl r=>h72 l g r false false (by omega) (fun q hq=>by rw [hl]; exact hg.2 q hq)
   have htk:∀ l:List Int,l.length=bal.length->List.take bal.length l=l:=fun l hl=>List.take_of_length_le (by omega)
   refine ev_seq (ev_reg (by simp [e72 left hx2,htk left hx2]; rfl) ?_)
   generalize hT:settle (cntZ left+1) g (left,out)=T at hst
   refine ev_block ?_
   refine ev_loop (fun y:List Int×List Pay=>({ env:=[(4,.own 4 0 gs.length),(6,.own 6 0 y.2.length),(7,.own 7 0 bal.length),(9,.fn (.func 72) [.agg [.own 7 0 bal.length,.fv false (.sl false 1 (ints (natL g)))]] []),(10,.fv false (.int .i64 (payF y.1 g).1)),(11,.fv false (.int .i64 (payF y.1 g).2)),(25,.fv false (.int .i64 gs.length)),(26,.fv false (.int .i64 i))],blk:=[(4,.arr 1 (grL gs)),(6,.arr 3 (paL y.2)),(7,.arr 1 (ints y.1))] }:St)) (fun y=>cntZ y.1) (fun y=>y.1.length=bal.length/\settle (cntZ y.1+1) g y=T/\y.2.length+cntZ y.1<=10/\∀ z∈y.1,-1000000<=z/\z<=1000000) (left,out) rfl ⟨hx2,hT,hx3,hx4⟩ (by simp [R]; omega) (fun y hy=>?_)
   obtain ⟨l,o⟩:=y
   obtain ⟨hy1,hy2,hy3,hy4⟩:=hy
   simp only at hy1 hy2 hy3 hy4 ⊢
   have hcond:∀ w,w=(decide (0<=(payF l g).1)&&decide (0<=(payF l g).2))->True:=fun _ _=>trivial
   refine ev_seq (ev_seq (ev_reg (σ':=({ env:=[(4,.own 4 0 gs.length),(6,.own 6 0 o.length),(7,.own 7 0 bal.length),(9,.fn (.func 72) [.agg [.own 7 0 bal.length,.fv false (.sl false 1 (ints (natL g)))]] []),(10,.fv false (.int .i64 (payF l g).1)),(11,.fv false (.int .i64 (payF l g).2)),(25,.fv false (.int .i64 gs.length)),(26,.fv false (.int .i64 i)),(46,.fv false (.bool (decide (0<=(payF l g).1)&&decide (0<=(payF l g).2))))],blk:=[(4,.arr 1 (grL gs)),(6,.arr 3 (paL o)),(7,.arr 1 (ints l))] }:St)) ?_ ?_))
   ·by_cases c1:0<=(payF l g).1
    ·simp [c1]
    ·simp [c1,unsetS]
   refine ev_cond rfl (fun hb2=>?_) (fun hb2=>?_)
   ·simp only [Bool.and_eq_true,decide_eq_true_eq] at hb2
    obtain ⟨a,b,hp⟩:=payF_some hb2.1 hb2.2
    have ha:a < l.length:=by rw [hy1]; exact hg.2 a hp.ha
    have hb':b < l.length:=by rw [hy1]; exact hg.2 b hp.hb
    have ha2:a < bal.length:=by omega
    have hb2':b < bal.length:=by omega
    have hne:a≠b:=fun e=>by have h1:=hp.na; have h2:=hp.nb; rw [e] at h1; omega
    have ga:l.getD a 0=l[a]:=by simp [List.getD_eq_getElem?_getD,ha]
    have gb:l.getD b 0=l[b]:=by simp [List.getD_eq_getElem?_getD,hb']
    have ba:=hy4 l[a] (List.getElem_mem ha)
    have bb:=hy4 l[b] (List.getElem_mem hb')
    have na:=hp.na
    have nb:=hp.nb
    rw [ga] at na
    rw [gb] at nb
    have hpn:payN l a b=min (-l[a]) l[b]:=by unfold payN; rw [ga,gb]
    have hpl:payL l a b=(l.set a (l[a]+payN l a b)).set b (l[b]-payN l a b):=by unfold payL; rw [ga,gb]
    have hcnt:=payL_cnt hp ha hb'
    have hbnd:=payL_bound hp hy4 (by omega)
    have hpll:=payL_length l a b
    have hstep:settle (cntZ l+1) g (l,o)=settle (cntZ l) g (payL l a b,o++[⟨a,b,payN l a b⟩]):=by
     conv=>lhs; unfold settle
     rw [if_pos hb2]
     simp only [hp.ea,hp.eb,Int.toNat_natCast]
    have hsb2:=settle_stable (mem:=g) (cntZ l) (cntZ (payL l a b)+1) (payL l a b,o++[⟨a,b,payN l a b⟩]) (fun q hq=>by simp only [hpll,hy1]; exact hg.2 q hq) hcnt (Nat.lt_succ_self _)
    have w1:IntKind.i64.wrap (-l[a])=-l[a]:=wrap_id (by omega) (by omega)
    have w2:IntKind.i64.wrap (l[a]+payN l a b)=l[a]+payN l a b:=wrap_id (by omega) (by omega)
    have w3:IntKind.i64.wrap (l[b]-payN l a b)=l[b]-payN l a b:=wrap_id (by omega) (by omega)
    have hmin:(if l[b] < -l[a] then l[b] else -l[a])=payN l a b:=by rw [hpn]; omega
    have h0:(l.set a (l[a]+payN l a b)).length=bal.length:=by simp [hy1]
    have ea:=hp.ea
    have eb:=hp.eb
    refine ev_skip ?_
    refine ev_seq (ev_block ?_)
    refine ev_seq (ev_drw rfl (by kernel_rfl) (by kernel_rfl) (by simp [ea,eb,ha,hb',ha2,hb2',w1,hmin]; rfl) ?_)
    refine ev_seq (ev_late rfl (by kernel_rfl) (by kernel_rfl) (by kernel_rfl) (fs:=[false,false,true,true,false,false,false,false,false,false,false,false,false,false,true,true,false]) (by kernel_rfl) rfl rfl (by simp [ea,eb,ha,hb',ha2,hb2',w2,w3]; rfl) (by simp [ha,ha2]; exact ⟨rfl,rfl,rfl⟩) (by simp) (by simp) (by simp [ea,eb,ha,hb',ha2,hb2',w2,w3]) (by simp [hb',hb2']; rfl) ?_)
    have hbo:(o.length+1)*24<=140737488355328:=by omega
    refine ev_reg (by simp [ea,eb,hbo]; rfl) ?_
    have hl2:((l.set a (l[a]+payN l a b)).set b (l[b]-payN l a b)).length=bal.length:=by simp [hy1]
    have e72':=e72 _ hl2
    have htk2:=htk _ hl2
    refine ev_reg (by simp [e72',htk2]; rfl) ?_
    refine ⟨(payL l a b,o++[⟨a,b,payN l a b⟩]),?_,⟨by simp only; omega,by simp only; rw [<-hsb2,<-hstep]; exact hy2,by simp only [List.length_append,List.length_singleton]; omega,hbnd⟩,by simp only; omega⟩
    simp only [hpl]
    simp [paL,paF]
   ·have hb2f:¬ (0<=(payF l g).1/\0<=(payF l g).2):=fun hc=>by rw [decide_eq_true hc.1,decide_eq_true hc.2] at hb2; cases hb2
    have hfin:(l,o)=T:=by
     rw [<-hy2]
     conv=>rhs; unfold settle
     rw [if_neg hb2f]
    refine ev_exit ?_
    refine ev_reg (by simp; rfl) ?_
    refine ⟨(i+1,l,o),?_,⟨by simp only; omega,by simp only; rw [hst,<-hfin],hy1,hy3,hy4⟩,by simp only; omega⟩
    simp
    exact wrap_nat (n:=i+1) (by omega)
  ·simp at hb
   obtain rfl:i=gs.length:=by omega
   rw [List.take_length] at hx1
   rw [hx1] at hcf
   have hall:List.take out.length (paL out)=paL out:=List.take_of_length_le (by simp)
   refine ev_exit ?_
   refine ev_seq (ev_reg (by simp; rfl) ?_)
   refine ev_ret ?_
   simp [hcf,hall]
def H41 (ctx:Ctx):Prop:=∀ (bal:List Int) (r0 c0:Bool),bal.length < 2^44->ctx 41 [(r0,.sl c0 1 (ints bal))]=some [.us 3 (paL (clearF bal).1),.fv (.int .i64 (clearF bal).2)]
@[simp] theorem stL_flat (l:List Stk):(stL l).all flat=true:=by
 simp only [List.all_eq_true]
 intro x hx
 obtain ⟨y,_,rfl⟩:=List.mem_map.1 hx
 rfl
theorem v61 (ctx:Ctx) (hC:CtxOk (pg ctx)) (l:List Stk) (ro c:Bool) (hl:l.length<=10):Valid Tryd.prog 61 [(ro,.sl c 2 (stL l))] [.us 2 (stL l)]:=by
 refine valid_of_evS (G:=pg ctx) (tok ctx) hC Tryd.func61 (by simp [Tryd.ntmps61]) ⟨_,rfl,?_⟩
 simp only [Tryd.ntmps61,Tryd.results61,initSt,initEnv]
 have hT:=tok ctx
 refine evS_seq (evS_k hT hC [0] [] (by simp [keepO,keepS]; rfl) ?_)
 refine evS_seq (evS_seq (evS_list (evL_step hT hC [0] rfl (by simp; rfl) (evL_isnil (G:=pg ctx) hT (ti1:=1) (ti2:=24) (z:=[.sl true 0 []]) (e:=49) rfl rfl rfl tb22 (by omega) rfl fun b hb=>evL_nil ?_))))
 refine evS_cond rfl (fun h=>?_) (fun h=>?_)
 ·subst h
  have he:stL l=[]:=by
   by_cases e:stL l=[]
   ·exact e
   ·exact absurd (hb e) (by simp)
  rw [he]
  refine evS_seq (evS_k hT hC [2] [2] (by simp [keepO,keepS]; rfl) ?_)
  refine evS_ret ?_
  simp
 ·subst h
  refine evS_skip ?_
  have hlen:l.length*24<=140737488355328:=by omega
  refine evS_seq (evS_k hT hC [2] [2] (by simp [keepO,keepS,hlen]; rfl) ?_)
  refine evS_ret ?_
  simp
def H61 (ctx:Ctx):Prop:=∀ (l:List Stk) (ro c:Bool),l.length<=10->ctx 61 [(ro,.sl c 2 (stL l))]=some [.us 2 (stL l)]
def duOf:FV->Option Due
 | .agg [.str n,.int .i64 b,.int .i64 t,.int .i64 c]=>some ⟨n,b,t,c⟩
 | _=>none
def dusOf:List FV->Option (List Due)
 | []=>some []
 | x :: r=>match duOf x,dusOf r with
  | some y,some l=>some (y :: l)
  | _,_=>none
@[simp] theorem dusOf_duL:∀ l:List Due,dusOf (duL l)=some l
 | []=>rfl
 | x :: r=>by
  have:=dusOf_duL r
  simp only [duL] at this ⊢
  simp [dusOf,this,duOf,duF]
theorem duOf_some {v:FV} {x:Due} (h:duOf v=some x):v=duF x:=by
 unfold duOf at h
 split at h
 ·simp only [Option.some.injEq] at h; subst h; rfl
 ·cases h
theorem dusOf_some:∀ {xs:List FV} {l:List Due},dusOf xs=some l->xs=duL l
 | [],l,h=>by simp only [dusOf,Option.some.injEq] at h; subst h; rfl
 | x :: r,l,h=>by
  simp only [dusOf] at h
  split at h
  ·rename_i y m h1 h2
   simp only [Option.some.injEq] at h; subst h
   rw [duOf_some h1,dusOf_some h2]; rfl
  ·cases h
def inlQ:FuncId->Nat->St->List V->Option (St×List V):=fun k d σ xs =>
 if k=63 then match xs with
  | [.own s 0 n,.fv ro (.fn (.func 64) [] [])]=>match lk s σ.blk with
   | some (.arr sz ys)=>match dusOf ys with
    | some l=>if sz=4/\n=ys.length/\l.length < 1000000/\nodupB (l.map (·.n))=true then some ({ σ with blk:=put s (.arr 4 (duL (isr cmpD l))) σ.blk },[]) else none
    | none=>none
   | _=>none
  | _=>none
 else none
theorem enters63:Enters Tryd.prog 63:=⟨_,Tryd.func63,by kernel_rfl,by kernel_rfl⟩
theorem inlQ_ok (hv:∀ x y:Due,Valid Tryd.prog 64 [(false,duF x),(false,duF y)] [.fv (.int .i64 (cmpD x y))]) {k:FuncId} {d:Nat} {σ σ':St} {xs vs:List V} (h:inlQ k d σ xs=some (σ',vs)):InlOK Tryd.prog k σ xs σ' vs/\Enters Tryd.prog k:=by
 unfold inlQ at h
 split at h
 ·rename_i hk
  subst hk
  refine ⟨?_,enters63⟩
  split at h
  ·rename_i s n ro
   split at h
   ·rename_i sz ys hlk
    split at h
    ·rename_i l hl
     split at h
     ·rename_i hc
      simp only [Option.some.injEq,Prod.mk.injEq] at h
      obtain ⟨rfl,rfl⟩:=h
      obtain ⟨rfl,rfl,h3,h4⟩:=hc
      have:=dusOf_some hl
      subst this
      exact inl_of_sort (sortD_row hv (by omega) (nodupB_inj Due.n h4)) hlk ro
     ·cases h
    ·cases h
   ·cases h
  ·cases h
 ·cases h
noncomputable def pgQ (ctx:Ctx):Pg:={ pg ctx with inl:=inlQ }
@[simp] theorem pgQ_tbl (ctx:Ctx):(pgQ ctx).tbl=tbl:=rfl
@[simp] theorem pgQ_ctx (ctx:Ctx):(pgQ ctx).ctx=ctx:=rfl
@[simp] theorem pgQ_keys (ctx:Ctx):(pgQ ctx).keys=[]:=rfl
@[simp] theorem pgQ_inl (ctx:Ctx):(pgQ ctx).inl=inlQ:=rfl
@[simp] theorem pgQ_fz (ctx:Ctx) (k:Nat):(pgQ ctx).fz k=false:=rfl
@[simp] theorem pgQ_yl (ctx:Ctx):(pgQ ctx).yl=none:=rfl
@[simp] theorem pgQ_eqs (ctx:Ctx):(pgQ ctx).eqs=[(94,[.int,.int,.int]),(117,[.str,.int,.int,.int,.int]),(53,[.str,.int,.int,.int])]:=rfl
@[simp] theorem pgQ_deep (ctx:Ctx):(pgQ ctx).deep=[88,76]:=rfl
@[simp] theorem pgQ_pin (ctx:Ctx):(pgQ ctx).pin=[]:=rfl
@[simp] theorem pgQ_hd (ctx:Ctx) (k:Nat):(pgQ ctx).hd k=false:=rfl
@[simp] theorem pgQ_ctxB (ctx:Ctx) (k:Nat) (a b:List (Bool×FV)):(pgQ ctx).ctxB k a b=none:=rfl
@[simp] theorem pgQ_srt (ctx:Ctx) (k n:Nat) (a:List FV):(pgQ ctx).srt k n a=none:=rfl
theorem tokQ (ctx:Ctx):TOk (pgQ ctx):=⟨(tok ctx).tt,(tok ctx).ee,(tok ctx).kk,(tok ctx).zv⟩
theorem ctxQ_ok (ctx:Ctx) (hC:CtxOk (pg ctx)) (h65:H65 ctx):CtxOk (pgQ ctx) :=
 { c:=hC.c,b:=hC.b,s:=hC.s,l:=fun k d σ args σ' vs h=>inlQ_ok (d:=d) (fun x y=>v64 ctx hC h65 x y _ _) h,i:=hC.i,t:=hC.t,h:=hC.h }
def dn (i:Nat):Nat:=5000000+i
theorem dn_ne {i k:Nat} (h:k < 5000000):(dn i=k)=False:=by unfold dn; simp; omega
theorem ne_dn {i k:Nat} (h:k < 5000000):(k=dn i)=False:=by unfold dn; simp; omega
@[simp] theorem dn_inj {i k:Nat}:(dn i=dn k)=(i=k):=by unfold dn; simp
theorem dn_lt {i k:Nat} (h:k < 5000000):(dn i < k)=False:=by unfold dn; simp; omega
theorem lt_dn {i k:Nat} (h:k < 5000000):(k < dn i)=True:=by unfold dn; simp; omega
theorem beq_dn {i k:Nat} (h:k < 5000000):(k==dn i)=false:=by unfold dn; simp; omega
theorem dn_beq {i k:Nat} (h:k < 5000000):(dn i==k)=false:=by unfold dn; simp; omega
@[simp] theorem dn_not_lt {i:Nat}:(dn i < 5000000)=False:=by unfold dn; simp
@[simp] theorem dn_big {i:Nat}:(5000000<=dn i)=True:=by unfold dn; simp
@[simp] theorem dn_ble {i:Nat}:Nat.ble 5000000 (dn i)=true:=by unfold dn; simp
@[simp] theorem dn_succ {i:Nat}:dn i+1=dn (i+1):=rfl
def dueX (x:Due):Blk:=.box [.fv false (.int .i64 x.b),.fv false (.int .i64 x.t),.fv false (.int .i64 x.c)]
def dueB:Nat->List Due->List (Nat×Blk)
 | _,[]=>[]
 | j,x :: r=>(dn j,dueX x) :: dueB (j+1) r
def dueE:Nat->List Due->List (FV×V)
 | _,[]=>[]
 | j,x :: r=>(.str x.n,.ptr (dn j) 0) :: dueE (j+1) r
theorem dueE_snoc:∀ (l:List Due) (j:Nat) (x:Due),dueE j l++[(.str x.n,.ptr (dn (j+l.length)) 0)]=dueE j (l++[x])
 | [],j,x=>rfl
 | y :: r,j,x=>by
  have:=dueE_snoc r (j+1) x
  simp only [dueE,List.cons_append,List.length_cons]
  rw [<-this,show j+(r.length+1)=j+1+r.length from by omega]
@[simp] theorem dueE_length:∀ (l:List Due) (j:Nat),(dueE j l).length=l.length
 | [],_=>rfl
 | x :: r,j=>by simp [dueE,dueE_length r]
theorem dueE_get:∀ (l:List Due) (j i:Nat),(dueE j l)[i]? = (l[i]?).map fun x=>(.str x.n,.ptr (dn (j+i)) 0)
 | [],_,_=>rfl
 | x :: r,j,0=>rfl
 | x :: r,j,i+1=>by
  simp only [dueE,List.getElem?_cons_succ,dueE_get r]
  rw [show j+1+i=j+(i+1) from by omega]
theorem lk_dueB_lt {s:Nat} (h:s < 5000000):∀ (l:List Due) (j:Nat),lk s (dueB j l)=none
 | [],_=>rfl
 | x :: r,j=>by simp only [dueB,lk,ne_dn h,if_false,lk_dueB_lt h r]
theorem lk_dueB:∀ (l:List Due) (j i:Nat),lk (dn (j+i)) (dueB j l)=(l[i]?).map dueX
 | [],_,_=>rfl
 | x :: r,j,0=>by simp [dueB,lk]
 | x :: r,j,i+1=>by
  simp only [dueB,lk,dn_inj,List.getElem?_cons_succ]
  rw [if_neg (by omega),show j+(i+1)=j+1+i from by omega,lk_dueB r]
@[simp] theorem lk_dueB0 (l:List Due) (i:Nat):lk (dn i) (dueB 0 l)=(l[i]?).map dueX:=by
 have:=lk_dueB l 0 i
 rwa [Nat.zero_add] at this
theorem rm_dueB_lt {s:Nat} (h:s < 5000000):∀ (l:List Due) (j:Nat),rm s (dueB j l)=dueB j l
 | [],_=>rfl
 | x :: r,j=>by simp only [dueB,rm,ne_dn h,if_false,rm_dueB_lt h r]
theorem rm_dueB_ge:∀ (l:List Due) (j i:Nat),j+l.length<=i->rm (dn i) (dueB j l)=dueB j l
 | [],_,_,_=>rfl
 | x :: r,j,i,h=>by
  simp only [List.length_cons] at h
  simp only [dueB,rm,dn_inj]
  rw [if_neg (by omega),rm_dueB_ge r (j+1) i (by omega)]
@[simp] theorem rm_dueB_len (l:List Due):rm (dn l.length) (dueB 0 l)=dueB 0 l:=rm_dueB_ge l 0 _ (by omega)
theorem put_dueB_lt {s:Nat} {b:Blk} (h:s < 5000000) (l:List Due) (j:Nat):put s b (dueB j l)=(s,b) :: dueB j l:=by
 cases l with
 | nil=>rfl
 | cons x r=>simp only [dueB,put,ne_dn h,lt_dn h,if_false,if_true]
theorem put_dueB_len:∀ (l:List Due) (j:Nat) (x:Due),put (dn (j+l.length)) (dueX x) (dueB j l)=dueB j (l++[x])
 | [],j,x=>rfl
 | y :: r,j,x=>by
  simp only [dueB,put,dn_inj,List.length_cons,List.cons_append]
  rw [if_neg (by omega),if_neg (by unfold dn; omega),show j+(r.length+1)=j+1+r.length from by omega,put_dueB_len r]
theorem put_dueB:∀ (l:List Due) (j i:Nat) (x:Due),i < l.length->put (dn (j+i)) (dueX x) (dueB j l)=dueB j (l.set i x)
 | [],_,_,_,h=>by simp at h
 | y :: r,j,0,x,_=>by simp [dueB,put]
 | y :: r,j,i+1,x,h=>by
  simp only [List.length_cons] at h
  simp only [dueB,put,dn_inj,List.set_cons_succ]
  rw [if_neg (by omega),if_neg (by unfold dn; omega),show j+(i+1)=j+1+i from by omega,put_dueB r _ _ _ (by omega)]
theorem put_set {l:List Due} {i:Nat} (h:i < l.length) (x:Due):put (dn i) (.box [.fv false (.int .i64 x.b),.fv false (.int .i64 x.t),.fv false (.int .i64 x.c)]) (dueB 0 l)=dueB 0 (l.set i x):=by
 have:=put_dueB l 0 i x h
 rwa [Nat.zero_add] at this
theorem put_new (l:List Due) (n:ByteArray):put (dn l.length) (.box [.fv false (.int .i64 0),.fv false (.int .i64 0),.fv false (.int .i64 0)]) (dueB 0 l)=dueB 0 (l++[⟨n,0,0,0⟩]):=by
 have:=put_dueB_len l 0 ⟨n,0,0,0⟩
 rwa [Nat.zero_add] at this
theorem ent_new (l:List Due) (n:ByteArray):dueE 0 l++[(.str n,.ptr (dn l.length) 0)]=dueE 0 (l++[⟨n,0,0,0⟩]):=by
 have:=dueE_snoc l 0 ⟨n,0,0,0⟩
 rwa [Nat.zero_add] at this
theorem map_dueB {f:Nat×Blk->Nat×Blk} (h:∀ (i:Nat) (a b c:Int),f (dn i,.box [.fv false (.int .i64 a),.fv false (.int .i64 b),.fv false (.int .i64 c)])=(dn i,.box [.fv false (.int .i64 a),.fv false (.int .i64 b),.fv false (.int .i64 c)])):∀ (l:List Due) (j:Nat),(dueB j l).map f=dueB j l
 | [],_=>rfl
 | x :: r,j=>by
  have:=h j x.b x.t x.c
  simp only [dueB,dueX,List.map_cons,this,map_dueB h r]
theorem map_dueE {f:FV×V->FV×V} (h:∀ (i:Nat) (n:ByteArray),f (.str n,.ptr (dn i) 0)=(.str n,.ptr (dn i) 0)):∀ (l:List Due) (j:Nat),(dueE j l).map f=dueE j l
 | [],_=>rfl
 | x :: r,j=>by simp only [dueE,List.map_cons,h,map_dueE h r]
theorem map_dueE' {f:FV×V->FV×V}:∀ (l:List Due) (j:Nat),(∀ (i:Nat) (n:ByteArray),i < j+l.length->f (.str n,.ptr (dn i) 0)=(.str n,.ptr (dn i) 0))->(dueE j l).map f=dueE j l
 | [],_,_=>rfl
 | x :: r,j,h=>by
  simp only [List.length_cons] at h
  simp only [dueE,List.map_cons,h j x.n (by omega),map_dueE' r (j+1) fun i n hi=>h i n (by omega)]
theorem map_new (s:Nat) (hs:s < 5000000) (l:List Due):(dueE 0 l).map ((fun e=>(e.fst,renV s (dn l.length) 5 e.snd)) ∘ fun e=>(e.fst,killV [dn l.length] e.snd))=dueE 0 l:=by
 refine map_dueE' l 0 fun i n hi=>?_
 have h1:(dn i==dn l.length)=false:=by simp; omega
 have h2:dn i≠s:=by unfold dn; omega
 simp only [Function.comp,killV,List.any_cons,List.any_nil,ment,h1,Bool.or_false,Bool.false_eq_true,if_false,renV,h2]
theorem kpIf_dueB {p:Nat->Bool} (h:∀ i:Nat,p (dn i)=true):∀ (l:List Due) (j:Nat),kpIf p (dueB j l)=dueB j l
 | [],_=>rfl
 | x :: r,j=>by simp only [dueB,kpIf,h,if_true,kpIf_dueB h r]
theorem fresh_dueB:∀ (l:List Due) (j:Nat),freshN (dueB j l)=if l=[] then 5000000 else dn (j+l.length)
 | [],_=>rfl
 | [x],j=>by
  simp only [dueB,freshN,dn_not_lt,if_false]
  unfold dn; simp; omega
 | x :: y :: r,j=>by
  have:=fresh_dueB (y :: r) (j+1)
  rw [dueB,freshN,this]
  simp only [dn_not_lt,if_false]
  unfold dn; simp; omega
@[simp] theorem fresh_dueB0 (l:List Due):freshN (dueB 0 l)=dn l.length:=by
 rw [fresh_dueB]
 split
 ·rename_i h; subst h; rfl
 ·rw [Nat.zero_add]
theorem dueE_setJ:∀ {l:List Due} {i:Nat} (j:Nat) (h:i < l.length) {x:Due},x.n=l[i].n->dueE j (l.set i x)=dueE j l
 | [],_,_,h,_,_=>by simp at h
 | y :: r,0,j,_,x,e=>by simp only [List.set_cons_zero,dueE]; rw [e]; rfl
 | y :: r,i+1,j,h,x,e=>by simp only [List.set_cons_succ,dueE]; rw [dueE_setJ (j+1) (by simpa using h) (by simpa using e)]
theorem dueE_set {l:List Due} {i:Nat} (h:i < l.length) {x:Due} (e:x.n=l[i].n):dueE 0 (l.set i x)=dueE 0 l:=dueE_setJ 0 h e
def ixD (n:ByteArray) (l:List Due):Option Nat:=l.findIdx? fun x=>n==x.n
theorem find_due (ctx:Ctx) (n:ByteArray):∀ (l:List Due) (j:Nat),findF (kmatch (pgQ ctx) 9 (.str n)) j (dueE j l)=some ((ixD n l).map fun i=>(j+i,.ptr (dn (j+i)) 0))
 | [],j=>rfl
 | x :: r,j=>by
  have ih:=find_due ctx n r (j+1)
  have hk:kmatch (pgQ ctx) 9 (.str n) (.str x.n)=some (n==x.n):=rfl
  simp only [dueE,findF,hk,ixD,List.findIdx?_cons]
  cases h:n==x.n with
  | true=>simp
  | false =>
   simp only [ih]
   unfold ixD
   cases r.findIdx? fun x=>n==x.n with
   | none=>rfl
   | some i=>simp; omega
end Go.Proofs.YtejodhjhddnbeaaDoor.E
