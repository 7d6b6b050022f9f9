/-
  The chapter of the share: its functions, and what they compute. Conditions: none.
-/
import Derived.Test.YtejodhjhddnbeaaDoorZ16
set_option linter.unusedVariables false
set_option linter.unusedSimpArgs false
namespace Go.Proofs.YtejodhjhddnbeaaDoor.E
open Go Go.RowKit
structure FillAt (n:Nat) (bs:List (Nat×Blk)) (args:List V) (r:Nat×Blk×FV) (p q nb m:Nat) (ro c1:Bool) (bal:List Int) (nums:List Nat) (memo:Memo) (set:Nat):Prop where
 ha:args=[.fv false (.int .i64 (set:Int)),.ptr p 0,.ptr q 0]
 hp:lk p bs=some (.box [.fv ro (.sl c1 1 (ints bal)),.own nb 0 nums.length,.map m])
 hq:lk q bs=some (.box [.fn (.func 85) [] [.ptr p 0,.ptr q 0]])
 hnb:lk nb bs=some (.arr 1 (ints (natL nums)))
 hm:lk m bs=some (.mp (memE memo))
 ne:nums≠[]
 len:nums.length<=10
 at':∀ i∈nums,i < bal.length
 set':set < 2^nums.length
 pc:pcK set nums.length < n
 y:p≠YN/\q≠YN/\nb≠YN/\m≠YN
 r':r=(m,.mp (memE (fillN bal nums n set memo).2),.int .i64 (fillN bal nums n set memo).1)
def FillA (n:Nat) (bs:List (Nat×Blk)) (args:List V) (r:Nat×Blk×FV):Prop:=∃ p q nb m ro c1 bal nums memo set,FillAt n bs args r p q nb m ro c1 bal nums memo set
theorem map_injK {α β:Type} {f:α->β} (hf:∀ x y,f x=f y->x=y):∀ {a b:List α},a.map f=b.map f->a=b
 | [],[],_=>rfl
 | [],_ :: _,h=>by simp at h
 | _ :: _,[],h=>by simp at h
 | x :: a,y :: b,h=>by
  simp only [List.map_cons,List.cons.injEq] at h
  rw [hf x y h.1,map_injK hf h.2]
theorem ints_injK {a b:List Int} (h:ints a=ints b):a=b:=map_injK (fun x y e=>by cases e; rfl) h
theorem natL_injK {a b:List Nat} (h:natL a=natL b):a=b:=map_injK (fun x y e=>Int.ofNat.inj e) h
theorem memE_inj {a b:Memo} (h:memE a=memE b):a=b:=map_injK (fun x y e=>by
 simp only [Prod.mk.injEq,FV.int.injEq,true_and,V.fv.injEq] at e
 exact Prod.ext (by omega) e.2) h
theorem FillA.one {n:Nat} {bs:List (Nat×Blk)} {args:List V} {r r':Nat×Blk×FV} (h:FillA n bs args r) (h':FillA n bs args r'):r=r':=by
 obtain ⟨p,q,nb,m,ro,c1,bal,nums,memo,set,h⟩:=h
 obtain ⟨p',q',nb',m',ro',c1',bal',nums',memo',set',h'⟩:=h'
 have e1:=h.ha.symm.trans h'.ha
 simp only [List.cons.injEq,V.fv.injEq,FV.int.injEq,true_and,V.ptr.injEq,and_true] at e1
 obtain ⟨e1,rfl,rfl⟩:=e1
 have e2:set=set':=by omega
 subst e2
 have e3:=h.hp.symm.trans h'.hp
 simp only [Option.some.injEq,Blk.box.injEq,List.cons.injEq,V.fv.injEq,FV.sl.injEq,true_and,V.own.injEq,V.map.injEq,and_true] at e3
 obtain ⟨⟨rfl,rfl,e4⟩,⟨rfl,e5⟩,rfl⟩:=e3
 have:=ints_injK e4
 subst this
 have e6:=h.hnb.symm.trans h'.hnb
 simp only [Option.some.injEq,Blk.arr.injEq,true_and] at e6
 have:=natL_injK (ints_injK e6)
 subst this
 have e7:=h.hm.symm.trans h'.hm
 simp only [Option.some.injEq,Blk.mp.injEq] at e7
 have:=memE_inj e7
 subst this
 rw [h.r',h'.r']
open Classical in
noncomputable def wrF (n:Nat):FuncId->List (Nat×Blk)->List V->Option (Nat×Blk×FV):=fun k bs args=>if h:k=85/\∃ r,FillA n bs args r then some h.2.choose else none
theorem wrF_some {n:Nat} {k:FuncId} {bs:List (Nat×Blk)} {args:List V} {r:Nat×Blk×FV}:wrF n k bs args=some r↔k=85/\FillA n bs args r:=by
 unfold wrF
 constructor
 ·intro h
  split at h
  ·rename_i hx
   simp only [Option.some.injEq] at h
   exact ⟨hx.1,h▸hx.2.choose_spec⟩
  ·cases h
 ·rintro ⟨rfl,h⟩
  have hx:(85:Nat)=85/\∃ r,FillA n bs args r:=⟨rfl,r,h⟩
  rw [dif_pos hx]
  congr 1
  exact FillA.one hx.2.choose_spec h
noncomputable def pgF (ctx:Ctx) (n:Nat):Pg:={ pg ctx with hd:=fun k=>k==85,wr:=wrF n }
@[simp] theorem pgF_tbl (ctx:Ctx) (n:Nat):(pgF ctx n).tbl=tbl:=rfl
@[simp] theorem pgF_ctx (ctx:Ctx) (n:Nat):(pgF ctx n).ctx=ctx:=rfl
@[simp] theorem pgF_keys (ctx:Ctx) (n:Nat):(pgF ctx n).keys=[]:=rfl
@[simp] theorem pgF_inl (ctx:Ctx) (n:Nat) (k d:Nat) (σ:St) (a:List V):(pgF ctx n).inl k d σ a=none:=rfl
@[simp] theorem pgF_fz (ctx:Ctx) (n:Nat) (k:Nat):(pgF ctx n).fz k=false:=rfl
@[simp] theorem pgF_yl (ctx:Ctx) (n:Nat):(pgF ctx n).yl=none:=rfl
@[simp] theorem pgF_deep (ctx:Ctx) (n:Nat):(pgF ctx n).deep=[88,76]:=rfl
@[simp] theorem pgF_pin (ctx:Ctx) (n:Nat):(pgF ctx n).pin=[]:=rfl
@[simp] theorem pgF_hd (ctx:Ctx) (n:Nat) (k:Nat):(pgF ctx n).hd k=(k==85):=rfl
@[simp] theorem pgF_rd (ctx:Ctx) (n:Nat) (k:FuncId) (bs:List (Nat×Blk)) (a:List V):(pgF ctx n).rd k bs a=none:=rfl
@[simp] theorem pgF_wr (ctx:Ctx) (n:Nat):(pgF ctx n).wr=wrF n:=rfl
theorem tokF (ctx:Ctx) (n:Nat):TOk (pgF ctx n):=⟨(tok ctx).tt,(tok ctx).ee,(tok ctx).kk,(tok ctx).zv⟩
theorem inl85 (ctx:Ctx) (n:Nat) (hC:CtxOk (pgF ctx n)) (h86:H86 ctx) (ro c1:Bool) (bal:List Int) (nums:List Nat) (memo:Memo) (set:Nat) (ne:nums≠[]) (len:nums.length<=10) (hat:∀ i∈nums,i < bal.length) (hset:set < 2^nums.length) (hpc:pcK set nums.length < n+1) :
  InlOK Tryd.prog 85 (tinyH (bsF ro c1 bal nums memo)) [.fv false (.int .i64 (set:Int)),.ptr 0 0,.ptr 1 0] ⟨witE 0 (bsF ro c1 bal nums (fillN bal nums (n+1) set memo).2),bsF ro c1 bal nums (fillN bal nums (n+1) set memo).2,[]⟩ [.fv false (.int .i64 (fillN bal nums (n+1) set memo).1)]:=by
 have hset62:set < 2^62:=Nat.lt_of_lt_of_le hset (Nat.pow_le_pow_right (by omega) (by omega))
 have key:∃ c,Tryd.f85.body=some c/\Ev (exec (pgF ctx n) L85 Tryd.f85.ntmps (drawT T85 (pgF ctx n) L85 Tryd.f85.ntmps) R c ((tinyH (bsF ro c1 bal nums memo)).enterI [.fv false (.int .i64 (set:Int)),.ptr 0 0,.ptr 1 0])) (fun e σ=>(e = .normal\/e = .ret)/\∃ vs,slotsA (pgF ctx n) σ Tryd.f85.results.toList=some vs/\σ.leaveI 0=⟨witE 0 (bsF ro c1 bal nums (fillN bal nums (n+1) set memo).2),bsF ro c1 bal nums (fillN bal nums (n+1) set memo).2,[]⟩/\vs.map (mapV (onLive σ (fdn 0 (surv σ.blk))) 6)=[.fv false (.int .i64 (fillN bal nums (n+1) set memo).1)]):=by
  refine ⟨_,rfl,?_⟩
  have hent:(tinyH (bsF ro c1 bal nums memo)).enterI [.fv false (.int .i64 (set:Int)),.ptr 0 0,.ptr 1 0]=({ env:=[(0,.fv false (.int .i64 (set:Int))),(1,.ptr 100000000 0),(2,.ptr 100000001 0),(100000000,.ptr 100000000 0),(100000001,.ptr 100000001 0),(100000002,.own 100000002 0 nums.length),(100000003,.map 100000003)],blk:=[(100000000,.box [.fv ro (.sl c1 1 (ints bal)),.own 100000002 0 nums.length,.map 100000003]),(100000001,.box [.fn (.func 85) [] [.ptr 100000000 0,.ptr 100000001 0]]),(100000002,.arr 1 (ints (natL nums))),(100000003,.mp (memE memo))] }:St):=by
   simp [tinyH,bsF,witE,witV,St.enterI,St.mapN,mapEnv,mapBlk,parEnv,upEnv,fup,onLive,mapB,bmapB,mapV,pres,lk]
   simp [memE,mapV]
  rw [hent]
  have hend:∀ (m:Memo) (v:Int),({ env:=[(4,.fv false (.int .i64 v)),(100000000,.ptr 100000000 0),(100000001,.ptr 100000001 0),(100000002,.own 100000002 0 nums.length),(100000003,.map 100000003)],blk:=[(100000000,.box [.fv ro (.sl c1 1 (ints bal)),.own 100000002 0 nums.length,.map 100000003]),(100000001,.box [.fn (.func 85) [] [.ptr 100000000 0,.ptr 100000001 0]]),(100000002,.arr 1 (ints (natL nums))),(100000003,.mp (memE m))] }:St).leaveI 0=⟨witE 0 (bsF ro c1 bal nums m),bsF ro c1 bal nums m,[]⟩:=by
   intro m v
   simp [bsF,witE,witV,St.leaveI,St.leave,dnEnv,St.mapN,mapEnv,mapBlk,fdn,surv,idxOf,newN,onLive,mapB,bmapB,mapV,pres,lk]
   simp [memE,mapV]
  simp only [Tryd.ntmps85,Tryd.results85]
  refine ev_seq (ev_reg (by simp; rfl) ?_)
  refine ev_scope ?_
  have hF:∀ m:Memo,findF (kmatch (pgF ctx n) 3 (.int .i64 (set:Int))) 0 (memE m)=some ((idxM m set).map fun i=>(i,.fv false (.int .i64 (m.getD i (0,0)).2))):=fun m=>by
   have:=findF_memE (G:=pgF ctx n) rfl set m 0
   simpa using this
  have hK:=keyOK_memE (G:=pgF ctx n) rfl set
  have done:∀ v m,fillN bal nums (n+1) set memo=(v,m)->(Ex.ret = .normal\/Ex.ret = .ret)/\∃ vs,slotsA (pgF ctx n) ({ env:=[(4,.fv false (.int .i64 v)),(100000000,.ptr 100000000 0),(100000001,.ptr 100000001 0),(100000002,.own 100000002 0 nums.length),(100000003,.map 100000003)],blk:=[(100000000,.box [.fv ro (.sl c1 1 (ints bal)),.own 100000002 0 nums.length,.map 100000003]),(100000001,.box [.fn (.func 85) [] [.ptr 100000000 0,.ptr 100000001 0]]),(100000002,.arr 1 (ints (natL nums))),(100000003,.mp (memE m))] }:St) [.tmp 4]=some vs/\({ env:=[(4,.fv false (.int .i64 v)),(100000000,.ptr 100000000 0),(100000001,.ptr 100000001 0),(100000002,.own 100000002 0 nums.length),(100000003,.map 100000003)],blk:=[(100000000,.box [.fv ro (.sl c1 1 (ints bal)),.own 100000002 0 nums.length,.map 100000003]),(100000001,.box [.fn (.func 85) [] [.ptr 100000000 0,.ptr 100000001 0]]),(100000002,.arr 1 (ints (natL nums))),(100000003,.mp (memE m))] }:St).leaveI 0=⟨witE 0 (bsF ro c1 bal nums (fillN bal nums (n+1) set memo).2),bsF ro c1 bal nums (fillN bal nums (n+1) set memo).2,[]⟩/\vs.map (mapV (onLive ({ env:=[(4,.fv false (.int .i64 v)),(100000000,.ptr 100000000 0),(100000001,.ptr 100000001 0),(100000002,.own 100000002 0 nums.length),(100000003,.map 100000003)],blk:=[(100000000,.box [.fv ro (.sl c1 1 (ints bal)),.own 100000002 0 nums.length,.map 100000003]),(100000001,.box [.fn (.func 85) [] [.ptr 100000000 0,.ptr 100000001 0]]),(100000002,.arr 1 (ints (natL nums))),(100000003,.mp (memE m))] }:St) (fdn 0 (surv ({ env:=[(4,.fv false (.int .i64 v)),(100000000,.ptr 100000000 0),(100000001,.ptr 100000001 0),(100000002,.own 100000002 0 nums.length),(100000003,.map 100000003)],blk:=[(100000000,.box [.fv ro (.sl c1 1 (ints bal)),.own 100000002 0 nums.length,.map 100000003]),(100000001,.box [.fn (.func 85) [] [.ptr 100000000 0,.ptr 100000001 0]]),(100000002,.arr 1 (ints (natL nums))),(100000003,.mp (memE m))] }:St).blk))) 6)=[.fv false (.int .i64 (fillN bal nums (n+1) set memo).1)]:=fun v m hv=>by
   refine ⟨.inr rfl,[.fv false (.int .i64 v)],by simp,?_,?_⟩
   ·rw [hv]; exact hend m v
   ·rw [hv]; simp [mapV]
  cases hl:idxM memo set with
  | some ix =>
   have hF0:=hF memo
   rw [hl] at hF0
   simp only [Option.map_some] at hF0
   have hv:fillN bal nums (n+1) set memo=((memo.getD ix (0,0)).2,memo):=by simp [fillN,lookM,hl]
   generalize (memo.getD ix (0,0)).2=v at hF0 hv
   refine ev_seq (ev_seq (ev_reg (by simp [-findF,-kmatch,-keyOK,hF0,hK]; rfl) ?_))
   refine ev_seq (ev_reg (by simp [unsetS]; rfl) ?_)
   refine ev_cond rfl (fun hb=>?_) (fun hb=>?_)
   ·refine ev_seq (ev_reg (by simp; rfl) ?_)
    refine ev_ret ?_
    exact done v memo hv
   ·simp at hb
  | none =>
   have hF0:=hF memo
   rw [hl] at hF0
   simp only [Option.map_none] at hF0
   refine ev_seq (ev_seq (ev_reg (by simp [-findF,-kmatch,-keyOK,hF0,hK]; rfl) ?_))
   refine ev_seq (ev_reg (by simp; rfl) ?_)
   refine ev_cond rfl (fun hb=>?_) (fun hb=>?_)
   ·have hs0:set=0:=by simp at hb; omega
    have hv:fillN bal nums (n+1) set memo=(0,memo):=by unfold fillN; simp only [lookM,hl,Option.map_none]; rw [if_pos hs0]
    refine ev_seq (ev_reg (by simp; rfl) ?_)
    refine ev_ret ?_
    exact done 0 memo hv
   ·have hs0:set≠0:=by simp at hb; omega
    refine ev_skip ?_
    refine ev_seq (ev_reg (by simp; rfl) ?_)
    refine ev_seq (ev_label ?_)
    refine ev_seq (ev_seq (ev_reg (by simp; rfl) ?_))
    refine ev_block ?_
    refine ev_loop (fun i:Nat=>({ env:=[(0,.fv false (.int .i64 (set:Int))),(1,.ptr 100000000 0),(2,.ptr 100000001 0),(7,.fv false (.int .i64 (fillK (fillN bal nums n) set i (0,memo)).1)),(24,.fv false (.int .i64 nums.length)),(25,.fv false (.int .i64 i)),(100000000,.ptr 100000000 0),(100000001,.ptr 100000001 0),(100000002,.own 100000002 0 nums.length),(100000003,.map 100000003)],blk:=[(100000000,.box [.fv ro (.sl c1 1 (ints bal)),.own 100000002 0 nums.length,.map 100000003]),(100000001,.box [.fn (.func 85) [] [.ptr 100000000 0,.ptr 100000001 0]]),(100000002,.arr 1 (ints (natL nums))),(100000003,.mp (memE (fillK (fillN bal nums n) set i (0,memo)).2))] }:St)) (fun i=>nums.length-i) (fun i=>i<=nums.length) 0 (by simp [fillK]) (by simp) (by simp [R]; omega) (fun i hi=>?_)
    have hfk:fillK (fillN bal nums n) set (i+1) (0,memo)=(if set.testBit i=true then (max (fillK (fillN bal nums n) set i (0,memo)).1 (fillN bal nums n (clr set i) (fillK (fillN bal nums n) set i (0,memo)).2).1,(fillN bal nums n (clr set i) (fillK (fillN bal nums n) set i (0,memo)).2).2) else fillK (fillN bal nums n) set i (0,memo)):=rfl
    refine ev_seq (ev_reg (by simp; rfl) ?_)
    refine ev_seq (ev_cond rfl (fun hb=>?_) (fun hb=>?_))
    ·simp at hb
     have hi10:i < 10:=by omega
     generalize fillK (fillN bal nums n) set i (0,memo)=st at hfk ⊢
     obtain ⟨best,mm⟩:=st
     simp only at hfk ⊢
     refine ev_skip ?_
     refine ev_seq (ev_block ?_)
     refine ev_seq (ev_reg (by simp; rfl) ?_)
     obtain ⟨q,f1,r,f2,_,f3⟩:=bit_facts set i hset62 (by omega)
     refine ev_seq (ev_seq (ev_reg (by simp [-fint,f1,f2,f3]; rfl) ?_))
     refine ev_cond rfl (fun hb2=>?_) (fun hb2=>?_)
     ·simp only [Bool.not_eq_true'] at hb2
      refine ev_exit ?_
      refine ev_reg (by simp; rfl) ?_
      refine ⟨i+1,?_,by omega,by omega⟩
      rw [hfk,if_neg (by simp [hb2])]
      simp
      exact wrap_nat (n:=i+1) (by omega)
     ·simp only [Bool.not_eq_false'] at hb2
      rw [if_pos hb2] at hfk
      obtain ⟨q2,g1,g2⟩:=clr_facts set i hset62 (by omega)
      have hcs:clr set i < 2^nums.length:=Nat.lt_of_le_of_lt (clr_le set i) hset
      have hpc2:pcK (clr set i) nums.length < n:=by have:=pcK_clr hb2 hb; omega
      generalize hce:clr set i=cs at hfk g2 hcs hpc2
      have hw:wrF n 85 [(100000000,.box [.fv ro (.sl c1 1 (ints bal)),.own 100000002 0 nums.length,.map 100000003]),(100000001,.box [.fn (.func 85) [] [.ptr 100000000 0,.ptr 100000001 0]]),(100000002,.arr 1 (ints (natL nums))),(100000003,.mp (memE mm))] [.fv false (.int .i64 (cs:Int)),.ptr 100000000 0,.ptr 100000001 0]=some (100000003,.mp (memE (fillN bal nums n cs mm).2),.int .i64 (fillN bal nums n cs mm).1) :=
       wrF_some.2 ⟨rfl,100000000,100000001,100000002,100000003,ro,c1,bal,nums,mm,cs,{ ha:=rfl,hp:=rfl,hq:=rfl,hnb:=rfl,hm:=rfl,ne:=ne,len:=len,at':=hat,set':=hcs,pc:=hpc2,y:=by decide,r':=rfl }⟩
      refine ev_skip ?_
      refine ev_late rfl (by kernel_rfl) (by kernel_rfl) (by kernel_rfl) (fs:=[true,false,false,false,false,false]) (by kernel_rfl) rfl rfl (by simp [-fint,g1,g2]; rfl) (by simp [hw]; exact ⟨rfl,rfl,rfl⟩) (by simp) (by simp) (by simp) (by simp; rfl) ?_
      refine ev_reg (by simp; rfl) ?_
      refine ⟨i+1,?_,by omega,by omega⟩
      rw [hfk]
      simp
      exact ⟨by split<;>omega,wrap_nat (n:=i+1) (by omega)⟩
    ·simp at hb
     obtain rfl:i=nums.length:=by omega
     clear hfk
     have hv:fillN bal nums (n+1) set memo=(let t:=fillK (fillN bal nums n) set nums.length (0,memo)
      let b:=if sumS bal nums set=0 then IntKind.i64.wrap (t.1+1) else t.1
      (b,insM t.2 set b)):=by
      conv=>lhs; unfold fillN
      simp only [lookM,hl,Option.map_none]
      rw [if_neg hs0]
     simp only at hv
     generalize fillK (fillN bal nums n) set nums.length (0,memo)=st at hv ⊢
     obtain ⟨best,mm⟩:=st
     simp only at hv ⊢
     have e86:∀ r r2,ctx 86 [(r,.agg [.sl c1 1 (ints bal),.sl false 1 (ints (natL nums)),.top]),(r2,.int .i64 (set:Int))]=some [.fv (.int .i64 (sumS bal nums set))]:=fun r r2=>h86 bal nums set r r2 c1 false 1 hset62 len hat (.inr rfl)
     have htk:List.take nums.length (natL nums)=natL nums:=List.take_of_length_le (by simp)
     refine ev_exit ?_
     refine ev_seq (ev_seq (ev_reg (by simp [e86,htk]; rfl) ?_))
     have hset1:∀ b:Int,memE (insM mm set b)=(match idxM mm set with | some i=>(memE mm).set i (.int .i64 (set:Int),.fv false (.int .i64 b)) | none=>memE mm++[(.int .i64 (set:Int),.fv false (.int .i64 b))]):=fun b=>by
      unfold insM
      cases idxM mm set with
      | some i=>simp [memE,List.map_set]
      | none=>simp [memE]
     have hF1:=hF mm
     refine ev_cond rfl (fun hb2=>?_) (fun hb2=>?_)
     ·rw [if_pos (by simpa using hb2)] at hv
      generalize hbe:IntKind.i64.wrap (best+1)=bb at hv
      have hs1:=hset1 bb
      have fin:=done bb _ hv
      refine ev_reg (by simp [hbe]; rfl) ?_
      cases hix:idxM mm set with
      | some ix =>
       rw [hix] at hF1 hs1
       simp only [Option.map_some] at hF1 hs1
       refine ev_seq (ev_reg (by simp [-findF,-kmatch,-keyOK,hF1,hK]; rfl) ?_)
       refine ev_seq (ev_reg (by simp; rfl) ?_)
       refine ev_ret ?_
       rw [hs1] at fin
       exact fin
      | none =>
       rw [hix] at hF1 hs1
       simp only [Option.map_none] at hF1 hs1
       refine ev_seq (ev_reg (by simp [-findF,-kmatch,-keyOK,hF1,hK]; rfl) ?_)
       refine ev_seq (ev_reg (by simp; rfl) ?_)
       refine ev_ret ?_
       rw [hs1] at fin
       exact fin
     ·rw [if_neg (by simpa using hb2)] at hv
      have hs1:=hset1 best
      have fin:=done best _ hv
      refine ev_skip ?_
      cases hix:idxM mm set with
      | some ix =>
       rw [hix] at hF1 hs1
       simp only [Option.map_some] at hF1 hs1
       refine ev_seq (ev_reg (by simp [-findF,-kmatch,-keyOK,hF1,hK]; rfl) ?_)
       refine ev_seq (ev_reg (by simp; rfl) ?_)
       refine ev_ret ?_
       rw [hs1] at fin
       exact fin
      | none =>
       rw [hix] at hF1 hs1
       simp only [Option.map_none] at hF1 hs1
       refine ev_seq (ev_reg (by simp [-findF,-kmatch,-keyOK,hF1,hK]; rfl) ?_)
       refine ev_seq (ev_reg (by simp; rfl) ?_)
       refine ev_ret ?_
       rw [hs1] at fin
       exact fin
 obtain ⟨c,hb,hx⟩:=key
 obtain ⟨e,σ1,h1,h2,vs,h3,h4,h5⟩:=hx.get
 have:=inl_of_exec (G:=pgF ctx n) (tokF ctx n) hC rfl Tryd.func85 hb (drawOk (tokF ctx n) hC mixed T85 L85 _) R 0 (by simp [Tryd.ntmps85]) h1 h2 h3
 rw [h4,h5] at this
 exact this
def fF (p q nb m:Nat):Nat->Option Nat
 | 0=>some p
 | 1=>some q
 | 2=>some nb
 | 3=>some m
 | _=>none
def gF (p q nb m s:Nat):Option Nat:=if s=p then some 0 else if s=q then some 1 else if s=nb then some 2 else if s=m then some 3 else none
theorem FillAt.apart {n:Nat} {bs:List (Nat×Blk)} {args:List V} {r:Nat×Blk×FV} {p q nb m:Nat} {ro c1:Bool} {bal:List Int} {nums:List Nat} {memo:Memo} {set:Nat} (h:FillAt n bs args r p q nb m ro c1 bal nums memo set):p≠q/\p≠nb/\p≠m/\q≠nb/\q≠m/\nb≠m:=by
 have h1:=h.hp
 have h2:=h.hq
 have h3:=h.hnb
 have h4:=h.hm
 refine ⟨?_,?_,?_,?_,?_,?_⟩<;>intro e<;>subst e<;>simp_all
theorem hands85 {n:Nat} {args:List V} {r:Nat×Blk×FV} {σ:St} {p q nb m:Nat} {ro c1:Bool} {bal:List Int} {nums:List Nat} {memo:Memo} {set:Nat} (h:FillAt n σ.blk args r p q nb m ro c1 bal nums memo set) (memo':Memo) {σ':St} (h1:σ'.env=σ.env) (h2:σ'.tr=σ.tr) (h3:lk m σ'.blk=some (.mp (memE memo'))) (h4:∀ t,t≠m->lk t σ'.blk=lk t σ.blk) :
  Hands (bsF ro c1 bal nums memo) ⟨witE 0 (bsF ro c1 bal nums memo'),bsF ro c1 bal nums memo',[]⟩ σ σ' (fF p q nb m) (gF p q nb m):=by
 obtain ⟨a1,a2,a3,a4,a5,a6⟩:=h.apart
 obtain ⟨y1,y2,y3,y4⟩:=h.y
 have p1:(lk p σ.blk).isSome=true:=by rw [h.hp]; rfl
 have p2:(lk q σ.blk).isSome=true:=by rw [h.hq]; rfl
 have p3:(lk nb σ.blk).isSome=true:=by rw [h.hnb]; rfl
 have p4:(lk m σ.blk).isSome=true:=by rw [h.hm]; rfl
 have hgi:∀ s s' t,gF p q nb m s=some t->gF p q nb m s'=some t->s=s':=fun s s' t e e'=>by
  unfold gF at e e'
  split at e<;>split at e'<;>(try split at e)<;>(try split at e')<;>(try split at e)<;>(try split at e')<;>(try split at e)<;>(try split at e')<;>simp_all<;>omega
 have hgf:∀ s t,gF p q nb m s=some t->fF p q nb m t=some s:=fun s t e=>by
  unfold gF at e
  split at e
  ·simp only [Option.some.injEq] at e; subst e; simp_all [fF]
  ·split at e
   ·simp only [Option.some.injEq] at e; subst e; simp_all [fF]
   ·split at e
    ·simp only [Option.some.injEq] at e; subst e; simp_all [fF]
    ·split at e
     ·simp only [Option.some.injEq] at e; subst e; simp_all [fF]
     ·cases e
 have hfc:∀ t s,fF p q nb m t=some s->(t=0/\s=p)\/(t=1/\s=q)\/(t=2/\s=nb)\/(t=3/\s=m):=fun t s e=>by
  unfold fF at e
  split at e<;>simp_all
 have g1:gF p q nb m p=some 0:=by simp [gF]
 have g2:gF p q nb m q=some 1:=by simp [gF,Ne.symm a1]
 have g3:gF p q nb m nb=some 2:=by simp [gF,Ne.symm a2,Ne.symm a4]
 have g4:gF p q nb m m=some 3:=by simp [gF,Ne.symm a3,Ne.symm a5,Ne.symm a6]
 have hmemV:∀ f (mm:Memo),(memE mm).map (fun e=>(e.1,mapV f 6 e.2))=memE mm:=fun f mm=>by simp [memE,mapV]
 have hent:∀ (mm:Memo) (i t:Nat) (b:Blk),(bsF ro c1 bal nums mm)[i]? = some (t,b)->i=t/\lk t (bsF ro c1 bal nums mm)=some b/\(t=0\/t=1\/t=2\/t=3):=fun mm i t b e=>by
  match i,e with
  | 0,e=>simp [bsF] at e; obtain ⟨rfl,rfl⟩:=e; simp [bsF,lk]
  | 1,e=>simp [bsF] at e; obtain ⟨rfl,rfl⟩:=e; simp [bsF,lk]
  | 2,e=>simp [bsF] at e; obtain ⟨rfl,rfl⟩:=e; simp [bsF,lk]
  | 3,e=>simp [bsF] at e; obtain ⟨rfl,rfl⟩:=e; simp [bsF,lk]
  | i+4,e=>simp [bsF] at e
 refine { size:=by simp [bsF],plain:=fun i t b e=>?_,gi:=hgi,gY:=fun s e=>?_,gf:=hgf,fi:=fun t t' s e e'=>?_,fY:=fun t e=>?_,tiny:=fun t=>?_,back:=fun i t b e=>?_,env:=h1,tr:=h2,blk1:=fun s t e ht=>?_,blk2:=fun s hs=>?_,new:=fun s t e ht hb=>?_,fresh:=fun s t e ht hb=>?_,yf:=fun t b hb=>?_,yn:=?_ }
 ·refine ⟨?_,(hent memo i t b e).2.1⟩
  match i,e with
  | 0,e=>simp [bsF] at e; obtain ⟨rfl,rfl⟩:=e; rfl
  | 1,e=>simp [bsF] at e; obtain ⟨rfl,rfl⟩:=e; rfl
  | 2,e=>simp [bsF] at e; obtain ⟨rfl,rfl⟩:=e; rfl
  | 3,e=>simp [bsF] at e; obtain ⟨rfl,rfl⟩:=e; rfl
  | i+4,e=>simp [bsF] at e
 ·have:=hfc YN s (hgf s YN e)
  have hY:YN≠0/\YN≠1/\YN≠2/\YN≠3:=by decide
  omega
 ·have:=hfc t s e
  have:=hfc t' s e'
  omega
 ·have:=hfc t YN e
  omega
 ·by_cases hx:∃ s,gF p q nb m s=some t
  ·obtain ⟨s,hs⟩:=hx
   have e1:lk t (σ.mapN (gF p q nb m)).blk=(lk s σ.blk).map (mapB (onLive σ (gF p q nb m))):=lk_mapBlk hgi hs
   rw [e1]
   rcases hfc t s (hgf s t hs) with ⟨rfl,rfl⟩ | ⟨rfl,rfl⟩ | ⟨rfl,rfl⟩ | ⟨rfl,rfl⟩
   ·simp [h.hp,bsF,lk,mapB,bmapB,mapV,onLive,p3,p4,g3,g4]
   ·simp [h.hq,bsF,lk,mapB,bmapB,mapV,onLive,p1,p2,g1,g2]
   ·simp [h.hnb,bsF,lk,mapB,bmapB]
   ·simp [h.hm,bsF,lk,mapB,bmapB,hmemV]
  ·have e1:lk t (σ.mapN (gF p q nb m)).blk=none:=by
    cases hc:lk t (σ.mapN (gF p q nb m)).blk with
    | none=>rfl
    | some b=>exact absurd (lk_mapBlk_some hgi hc) hx
   rw [e1]
   have n0:t≠0:=fun e=>hx ⟨p,by rw [e]; exact g1⟩
   have n1:t≠1:=fun e=>hx ⟨q,by rw [e]; exact g2⟩
   have n2:t≠2:=fun e=>hx ⟨nb,by rw [e]; exact g3⟩
   have n3:t≠3:=fun e=>hx ⟨m,by rw [e]; exact g4⟩
   simp [bsF,lk,n0,n1,n2,n3]
 ·match i,e with
  | 0,e=>simp [bsF] at e; obtain ⟨rfl,rfl⟩:=e; simp [bsF,lk,witE,witV,shp]
  | 1,e=>simp [bsF] at e; obtain ⟨rfl,rfl⟩:=e; simp [bsF,lk,witE,witV,shp]
  | 2,e=>simp [bsF] at e; obtain ⟨rfl,rfl⟩:=e; simp [bsF,lk,witE,witV,shp]
  | 3,e=>simp [bsF] at e; obtain ⟨rfl,rfl⟩:=e; simp [bsF,lk,witE,witV,shp]
  | i+4,e=>simp [bsF] at e
 ·rcases hfc t s e with ⟨rfl,rfl⟩ | ⟨rfl,rfl⟩ | ⟨rfl,rfl⟩ | ⟨rfl,rfl⟩
  ·rw [h4 _ a3,h.hp]; simp [bsF,lk,mapB,bmapB,mapV,onLive,pres,fF]
  ·rw [h4 _ a5,h.hq]; simp [bsF,lk,mapB,bmapB,mapV,onLive,pres,fF]
  ·rw [h4 _ a6,h.hnb]; simp [bsF,lk,mapB,bmapB]
  ·rw [h3]; simp [bsF,lk,mapB,bmapB,hmemV]
 ·refine h4 s fun e=>?_
  subst e
  have:=hs 3 rfl
  simp [bsF,lk] at this
 ·exfalso
  rcases hfc t s e with ⟨rfl,rfl⟩ | ⟨rfl,rfl⟩ | ⟨rfl,rfl⟩ | ⟨rfl,rfl⟩
  ·obtain ⟨sz,hsz⟩:=hb _ (by simp [bsF,lk]; rfl); cases hsz
  ·obtain ⟨sz,hsz⟩:=hb _ (by simp [bsF,lk]; rfl); cases hsz
  ·obtain ⟨sz,hsz⟩:=hb (.arr 1 (ints (natL nums))) (by simp [bsF,lk])
   simp only [Blk.arr.injEq] at hsz
   exact h.ne (by
    have:=congrArg List.length hsz.2
    simpa using this)
  ·obtain ⟨sz,hsz⟩:=hb _ (by simp [bsF,lk]; rfl); cases hsz
 ·exfalso
  rcases hfc t s e with ⟨rfl,rfl⟩ | ⟨rfl,rfl⟩ | ⟨rfl,rfl⟩ | ⟨rfl,rfl⟩<;>simp [bsF,lk] at hb
 ·have hc:t=0\/t=1\/t=2\/t=3:=by
   obtain ⟨i,hi⟩:=lk_entry hb
   exact (hent memo' i t b hi).2.2
  rcases hc with rfl | rfl | rfl | rfl<;>simp [bsF,lk] at hb<;>subst hb<;>simp [bcells,yfree,memE]
 ·have hY:YN≠0/\YN≠1/\YN≠2/\YN≠3:=by decide
  simp [bsF,lk,hY.1,hY.2.1,hY.2.2.1,hY.2.2.2]
theorem args85 {n:Nat} {args:List V} {r:Nat×Blk×FV} {σ:St} {p q nb m:Nat} {ro c1:Bool} {bal:List Int} {nums:List Nat} {memo:Memo} {set:Nat} (h:FillAt n σ.blk args r p q nb m ro c1 bal nums memo set):args.map (mapV (onLive σ (gF p q nb m)) 6)=[.fv false (.int .i64 (set:Int)),.ptr 0 0,.ptr 1 0]:=by
 have p1:(lk p σ.blk).isSome=true:=by rw [h.hp]; rfl
 have p2:(lk q σ.blk).isSome=true:=by rw [h.hq]; rfl
 have g2:gF p q nb m q=some 1:=by simp [gF,Ne.symm h.apart.1]
 rw [h.ha]
 simp [mapV,onLive,p1,p2,gF,Ne.symm h.apart.1]
theorem FillAt.sub {n:Nat} {bs bs':List (Nat×Blk)} {args:List V} {r:Nat×Blk×FV} {p q nb m:Nat} {ro c1:Bool} {bal:List Int} {nums:List Nat} {memo:Memo} {set:Nat} (h:FillAt n bs args r p q nb m ro c1 bal nums memo set) (hs:Sub bs bs'):FillAt n bs' args r p q nb m ro c1 bal nums memo set :=
 { h with hp:=hs _ _ h.hp,hq:=hs _ _ h.hq,hnb:=hs _ _ h.hnb,hm:=hs _ _ h.hm }
theorem enters85:Enters Tryd.prog 85:=⟨_,Tryd.func85,by kernel_rfl,by kernel_rfl⟩
theorem wr_ok {n : Nat} (hin : ∀ (ro c1 : Bool) (bal : List Int) (nums : List Nat) (memo : Memo) (set : Nat),nums ≠ [] → nums.length ≤ 10 → (∀ i ∈ nums,i < bal.length) → set < 2^nums.length → pcK set nums.length < n →
      InlOK Tryd.prog 85 (tinyH (bsF ro c1 bal nums memo)) [.fv false (.int .i64 (set : Int)),.ptr 0 0,.ptr 1 0] ⟨witE 0 (bsF ro c1 bal nums (fillN bal nums n set memo).2),bsF ro c1 bal nums (fillN bal nums n set memo).2,[]⟩ [.fv false (.int .i64 (fillN bal nums n set memo).1)])
    (k : FuncId) (bs : List (Nat × Blk)) (args : List V) (s : Nat) (b : Blk) (x : FV) (h : wrF n k bs args = some (s,b,x)) : Enters Tryd.prog k ∧ ∀ σ : St,Sub bs σ.blk → lk s σ.blk ≠ none ∧ wrF n k σ.blk args = some (s,b,x) ∧ InlOK0 Tryd.prog k σ args { σ with blk := put s b σ.blk } [.fv false x] := by
  obtain ⟨rfl,p,q,nb,m,ro,c1,bal,nums,memo,set,hf⟩ := wrF_some.1 h
  refine ⟨enters85,fun σ hs => ?_⟩
  have hf' := hf.sub hs
  have hr := hf'.r'
  simp only [Prod.mk.injEq] at hr
  obtain ⟨rfl,rfl,rfl⟩ := hr
  refine ⟨by simp [hf'.hm],wrF_some.2 ⟨rfl,p,q,nb,s,ro,c1,bal,nums,memo,set,hf'⟩,?_⟩
  have := inl_hand (hin ro c1 bal nums memo set hf.ne hf.len hf.at' hf.set' hf.pc) (hands85 hf' (fillN bal nums n set memo).2 (σ' := { σ with blk := put s (.mp (memE (fillN bal nums n set memo).2)) σ.blk }) rfl rfl (by simp [lk_put]) (fun t ht => by simp [lk_put,ht])) (args85 hf') (by simp [yfree])
  simpa [mapV] using this
theorem wr0 (k:FuncId) (bs:List (Nat×Blk)) (args:List V) (r:Nat×Blk×FV) (h:wrF 0 k bs args=some r):False:=by
 obtain ⟨rfl,p,q,nb,m,ro,c1,bal,nums,memo,set,hf⟩:=wrF_some.1 h
 exact absurd hf.pc (Nat.not_lt_zero _)
theorem ctxF (ctx:Ctx) (hC:CtxOk (pg ctx)) (h86:H86 ctx):∀ n,CtxOk (pgF ctx n)
 | 0=>{ c:=hC.c,b:=hC.b,s:=hC.s,l:=hC.l,i:=hC.i,t:=hC.t,h:=hC.h,w:=fun k bs args s b x h=>(wr0 k bs args _ h).elim }
 | n+1=>{ c:=hC.c,b:=hC.b,s:=hC.s,l:=hC.l,i:=hC.i,t:=hC.t,h:=hC.h,w:=wr_ok fun ro c1 bal nums memo set ne len hat hset hpc=>inl85 ctx n (ctxF ctx hC h86 n) h86 ro c1 bal nums memo set ne len hat hset hpc }
def bsZ (ro c1:Bool) (bal:List Int):List (Nat×Blk) :=
 [(0,.box [.fv ro (.sl c1 1 (ints bal)),.fv false (.sl true 0 []),.map 2]),(1,.box [.fn (.func 85) [] [.ptr 0 0,.ptr 1 0]]),(2,.mp [])]
theorem inl85z (ctx:Ctx) (hC:CtxOk (pg ctx)) (ro c1:Bool) (bal:List Int) :
  InlOK Tryd.prog 85 (tinyH (bsZ ro c1 bal)) [.fv false (.int .i64 0),.ptr 0 0,.ptr 1 0] ⟨witE 0 (bsZ ro c1 bal),bsZ ro c1 bal,[]⟩ [.fv false (.int .i64 0)]:=by
 have key:∃ c,Tryd.f85.body=some c/\Ev (exec (pg ctx) L85 Tryd.f85.ntmps (drawT T85 (pg ctx) L85 Tryd.f85.ntmps) R c ((tinyH (bsZ ro c1 bal)).enterI [.fv false (.int .i64 0),.ptr 0 0,.ptr 1 0])) (fun e σ=>(e = .normal\/e = .ret)/\∃ vs,slotsA (pg ctx) σ Tryd.f85.results.toList=some vs/\σ.leaveI 0=⟨witE 0 (bsZ ro c1 bal),bsZ ro c1 bal,[]⟩/\vs.map (mapV (onLive σ (fdn 0 (surv σ.blk))) 6)=[.fv false (.int .i64 0)]):=by
  refine ⟨_,rfl,?_⟩
  have hent:(tinyH (bsZ ro c1 bal)).enterI [.fv false (.int .i64 0),.ptr 0 0,.ptr 1 0]=({ env:=[(0,.fv false (.int .i64 0)),(1,.ptr 100000000 0),(2,.ptr 100000001 0),(100000000,.ptr 100000000 0),(100000001,.ptr 100000001 0),(100000002,.map 100000002)],blk:=[(100000000,.box [.fv ro (.sl c1 1 (ints bal)),.fv false (.sl true 0 []),.map 100000002]),(100000001,.box [.fn (.func 85) [] [.ptr 100000000 0,.ptr 100000001 0]]),(100000002,.mp [])] }:St):=by
   simp [tinyH,bsZ,witE,witV,St.enterI,St.mapN,mapEnv,mapBlk,parEnv,upEnv,fup,onLive,mapB,bmapB,mapV,pres,lk]
  rw [hent]
  have hend:(({ env:=[(4,.fv false (.int .i64 0)),(100000000,.ptr 100000000 0),(100000001,.ptr 100000001 0),(100000002,.map 100000002)],blk:=[(100000000,.box [.fv ro (.sl c1 1 (ints bal)),.fv false (.sl true 0 []),.map 100000002]),(100000001,.box [.fn (.func 85) [] [.ptr 100000000 0,.ptr 100000001 0]]),(100000002,.mp [])] }:St):St).leaveI 0=⟨witE 0 (bsZ ro c1 bal),bsZ ro c1 bal,[]⟩:=by
   simp [bsZ,witE,witV,St.leaveI,St.leave,dnEnv,St.mapN,mapEnv,mapBlk,fdn,surv,idxOf,newN,onLive,mapB,bmapB,mapV,pres,lk]
  simp only [Tryd.ntmps85,Tryd.results85]
  refine ev_seq (ev_reg (by simp; rfl) ?_)
  refine ev_scope ?_
  refine ev_seq (ev_seq (ev_reg (by simp; rfl) ?_))
  refine ev_seq (ev_reg (by simp; rfl) ?_)
  refine ev_cond rfl (fun hb=>?_) (fun hb=>?_)
  ·refine ev_seq (ev_reg (by simp; rfl) ?_)
   refine ev_ret ?_
   exact ⟨.inr rfl,[.fv false (.int .i64 0)],by simp,hend,by simp [mapV]⟩
  ·simp at hb
 obtain ⟨c,hb,hx⟩:=key
 obtain ⟨e,σ1,h1,h2,vs,h3,h4,h5⟩:=hx.get
 have:=inl_of_exec (G:=pg ctx) (tok ctx) hC rfl Tryd.func85 hb (drawOk (tok ctx) hC mixed T85 L85 _) R 0 (by simp [Tryd.ntmps85]) h1 h2 h3
 rw [h4,h5] at this
 exact this
structure ZeroAt (bs:List (Nat×Blk)) (args:List V) (p q m:Nat) (ro c1:Bool) (bal:List Int):Prop where
 ha:args=[.fv false (.int .i64 0),.ptr p 0,.ptr q 0]
 hp:lk p bs=some (.box [.fv ro (.sl c1 1 (ints bal)),.fv false (.sl true 0 []),.map m])
 hq:lk q bs=some (.box [.fn (.func 85) [] [.ptr p 0,.ptr q 0]])
 hm:lk m bs=some (.mp [])
 y:p≠YN/\q≠YN/\m≠YN
def fZ (p q m:Nat):Nat->Option Nat
 | 0=>some p
 | 1=>some q
 | 2=>some m
 | _=>none
def gZ (p q m s:Nat):Option Nat:=if s=p then some 0 else if s=q then some 1 else if s=m then some 2 else none
theorem ZeroAt.apart {bs:List (Nat×Blk)} {args:List V} {p q m:Nat} {ro c1:Bool} {bal:List Int} (h:ZeroAt bs args p q m ro c1 bal):p≠q/\p≠m/\q≠m:=by
 have h1:=h.hp
 have h2:=h.hq
 have h4:=h.hm
 refine ⟨?_,?_,?_⟩<;>intro e<;>subst e<;>simp_all
theorem handsZ {args:List V} {σ:St} {p q m:Nat} {ro c1:Bool} {bal:List Int} (h:ZeroAt σ.blk args p q m ro c1 bal) :
  Hands (bsZ ro c1 bal) ⟨witE 0 (bsZ ro c1 bal),bsZ ro c1 bal,[]⟩ σ σ (fZ p q m) (gZ p q m):=by
 obtain ⟨a1,a3,a5⟩:=h.apart
 obtain ⟨y1,y2,y4⟩:=h.y
 have p1:(lk p σ.blk).isSome=true:=by rw [h.hp]; rfl
 have p2:(lk q σ.blk).isSome=true:=by rw [h.hq]; rfl
 have p4:(lk m σ.blk).isSome=true:=by rw [h.hm]; rfl
 have hgi:∀ s s' t,gZ p q m s=some t->gZ p q m s'=some t->s=s':=fun s s' t e e'=>by
  unfold gZ at e e'
  split at e<;>split at e'<;>(try split at e)<;>(try split at e')<;>(try split at e)<;>(try split at e')<;>simp_all<;>omega
 have hgf:∀ s t,gZ p q m s=some t->fZ p q m t=some s:=fun s t e=>by
  unfold gZ at e
  split at e
  ·simp only [Option.some.injEq] at e; subst e; simp_all [fZ]
  ·split at e
   ·simp only [Option.some.injEq] at e; subst e; simp_all [fZ]
   ·split at e
    ·simp only [Option.some.injEq] at e; subst e; simp_all [fZ]
    ·cases e
 have hfc:∀ t s,fZ p q m t=some s->(t=0/\s=p)\/(t=1/\s=q)\/(t=2/\s=m):=fun t s e=>by
  unfold fZ at e
  split at e<;>simp_all
 have g1:gZ p q m p=some 0:=by simp [gZ]
 have g2:gZ p q m q=some 1:=by simp [gZ,Ne.symm a1]
 have g4:gZ p q m m=some 2:=by simp [gZ,Ne.symm a3,Ne.symm a5]
 have hent:∀ (i t:Nat) (b:Blk),(bsZ ro c1 bal)[i]? = some (t,b)->i=t/\lk t (bsZ ro c1 bal)=some b/\(t=0\/t=1\/t=2):=fun i t b e=>by
  match i,e with
  | 0,e=>simp [bsZ] at e; obtain ⟨rfl,rfl⟩:=e; simp [bsZ,lk]
  | 1,e=>simp [bsZ] at e; obtain ⟨rfl,rfl⟩:=e; simp [bsZ,lk]
  | 2,e=>simp [bsZ] at e; obtain ⟨rfl,rfl⟩:=e; simp [bsZ,lk]
  | i+3,e=>simp [bsZ] at e
 refine { size:=by simp [bsZ],plain:=fun i t b e=>?_,gi:=hgi,gY:=fun s e=>?_,gf:=hgf,fi:=fun t t' s e e'=>?_,fY:=fun t e=>?_,tiny:=fun t=>?_,back:=fun i t b e=>?_,env:=rfl,tr:=rfl,blk1:=fun s t e ht=>?_,blk2:=fun s hs=>rfl,new:=fun s t e ht hb=>?_,fresh:=fun s t e ht hb=>?_,yf:=fun t b hb=>?_,yn:=?_ }
 ·refine ⟨?_,(hent i t b e).2.1⟩
  match i,e with
  | 0,e=>simp [bsZ] at e; obtain ⟨rfl,rfl⟩:=e; rfl
  | 1,e=>simp [bsZ] at e; obtain ⟨rfl,rfl⟩:=e; rfl
  | 2,e=>simp [bsZ] at e; obtain ⟨rfl,rfl⟩:=e; rfl
  | i+3,e=>simp [bsZ] at e
 ·have:=hfc YN s (hgf s YN e)
  have hY:YN≠0/\YN≠1/\YN≠2:=by decide
  omega
 ·have:=hfc t s e
  have:=hfc t' s e'
  omega
 ·have:=hfc t YN e
  omega
 ·by_cases hx:∃ s,gZ p q m s=some t
  ·obtain ⟨s,hs⟩:=hx
   have e1:lk t (σ.mapN (gZ p q m)).blk=(lk s σ.blk).map (mapB (onLive σ (gZ p q m))):=lk_mapBlk hgi hs
   rw [e1]
   rcases hfc t s (hgf s t hs) with ⟨rfl,rfl⟩ | ⟨rfl,rfl⟩ | ⟨rfl,rfl⟩
   ·simp [h.hp,bsZ,lk,mapB,bmapB,mapV,onLive,p4,g4]
   ·simp [h.hq,bsZ,lk,mapB,bmapB,mapV,onLive,p1,p2,g1,g2]
   ·simp [h.hm,bsZ,lk,mapB,bmapB]
  ·have e1:lk t (σ.mapN (gZ p q m)).blk=none:=by
    cases hc:lk t (σ.mapN (gZ p q m)).blk with
    | none=>rfl
    | some b=>exact absurd (lk_mapBlk_some hgi hc) hx
   rw [e1]
   have n0:t≠0:=fun e=>hx ⟨p,by rw [e]; exact g1⟩
   have n1:t≠1:=fun e=>hx ⟨q,by rw [e]; exact g2⟩
   have n2:t≠2:=fun e=>hx ⟨m,by rw [e]; exact g4⟩
   simp [bsZ,lk,n0,n1,n2]
 ·match i,e with
  | 0,e=>simp [bsZ] at e; obtain ⟨rfl,rfl⟩:=e; simp [bsZ,lk,witE,witV,shp]
  | 1,e=>simp [bsZ] at e; obtain ⟨rfl,rfl⟩:=e; simp [bsZ,lk,witE,witV,shp]
  | 2,e=>simp [bsZ] at e; obtain ⟨rfl,rfl⟩:=e; simp [bsZ,lk,witE,witV,shp]
  | i+3,e=>simp [bsZ] at e
 ·rcases hfc t s e with ⟨rfl,rfl⟩ | ⟨rfl,rfl⟩ | ⟨rfl,rfl⟩
  ·rw [h.hp]; simp [bsZ,lk,mapB,bmapB,mapV,onLive,pres,fZ]
  ·rw [h.hq]; simp [bsZ,lk,mapB,bmapB,mapV,onLive,pres,fZ]
  ·rw [h.hm]; simp [bsZ,lk,mapB,bmapB]
 ·exfalso
  rcases hfc t s e with ⟨rfl,rfl⟩ | ⟨rfl,rfl⟩ | ⟨rfl,rfl⟩
  ·obtain ⟨sz,hsz⟩:=hb _ (by simp [bsZ,lk]; rfl); cases hsz
  ·obtain ⟨sz,hsz⟩:=hb _ (by simp [bsZ,lk]; rfl); cases hsz
  ·obtain ⟨sz,hsz⟩:=hb _ (by simp [bsZ,lk]; rfl); cases hsz
 ·exfalso
  rcases hfc t s e with ⟨rfl,rfl⟩ | ⟨rfl,rfl⟩ | ⟨rfl,rfl⟩<;>simp [bsZ,lk] at hb
 ·have hc:t=0\/t=1\/t=2:=by
   obtain ⟨i,hi⟩:=lk_entry hb
   exact (hent i t b hi).2.2
  rcases hc with rfl | rfl | rfl<;>simp [bsZ,lk] at hb<;>subst hb<;>simp [bcells,yfree]
 ·have hY:YN≠0/\YN≠1/\YN≠2:=by decide
  simp [bsZ,lk,hY.1,hY.2.1,hY.2.2]
def RdA (bs:List (Nat×Blk)) (args:List V) (x:FV):Prop :=
 (∃ p q nb m ro c1 bal nums memo set,FillAt 11 bs args (m,.mp (memE memo),x) p q nb m ro c1 bal nums memo set/\(fillN bal nums 11 set memo).2=memo)\/(x = .int .i64 0/\∃ p q m ro c1 bal,ZeroAt bs args p q m ro c1 bal)
theorem RdA.one {bs:List (Nat×Blk)} {args:List V} {x x':FV} (h:RdA bs args x) (h':RdA bs args x'):x=x':=by
 rcases h with ⟨p,q,nb,m,ro,c1,bal,nums,memo,set,h,_⟩ | ⟨rfl,p,q,m,ro,c1,bal,h⟩
 ·rcases h' with ⟨p',q',nb',m',ro',c1',bal',nums',memo',set',h',_⟩ | ⟨rfl,p',q',m',ro',c1',bal',h'⟩
  ·have:=FillA.one ⟨_,_,_,_,_,_,_,_,_,_,h⟩ ⟨_,_,_,_,_,_,_,_,_,_,h'⟩
   simp only [Prod.mk.injEq] at this
   exact this.2.2
  ·exfalso
   have e1:=h.ha.symm.trans h'.ha
   simp only [List.cons.injEq,V.fv.injEq,FV.int.injEq,true_and,V.ptr.injEq,and_true] at e1
   obtain ⟨_,rfl,rfl⟩:=e1
   have e2:=h.hp.symm.trans h'.hp
   simp at e2
 ·rcases h' with ⟨p',q',nb',m',ro',c1',bal',nums',memo',set',h',_⟩ | ⟨rfl,_⟩
  ·exfalso
   have e1:=h.ha.symm.trans h'.ha
   simp only [List.cons.injEq,V.fv.injEq,FV.int.injEq,true_and,V.ptr.injEq,and_true] at e1
   obtain ⟨_,rfl,rfl⟩:=e1
   have e2:=h.hp.symm.trans h'.hp
   simp at e2
  ·rfl
open Classical in
noncomputable def rdG:FuncId->List (Nat×Blk)->List V->Option FV:=fun k bs args=>if h:k=85/\∃ x,RdA bs args x then some h.2.choose else none
theorem rdG_some {k:FuncId} {bs:List (Nat×Blk)} {args:List V} {x:FV}:rdG k bs args=some x↔k=85/\RdA bs args x:=by
 unfold rdG
 constructor
 ·intro h
  split at h
  ·rename_i hx
   simp only [Option.some.injEq] at h
   exact ⟨hx.1,h▸hx.2.choose_spec⟩
  ·cases h
 ·rintro ⟨rfl,h⟩
  have hx:(85:Nat)=85/\∃ x,RdA bs args x:=⟨rfl,x,h⟩
  rw [dif_pos hx]
  congr 1
  exact RdA.one hx.2.choose_spec h
theorem rd_ok (ctx:Ctx) (hC:CtxOk (pg ctx)) (h86:H86 ctx) (k:FuncId) (bs:List (Nat×Blk)) (args:List V) (x:FV) (h:rdG k bs args=some x):Enters Tryd.prog k/\∀ σ:St,Sub bs σ.blk->rdG k σ.blk args=some x/\InlOK0 Tryd.prog k σ args σ [.fv false x]:=by
 obtain ⟨rfl,⟨p,q,nb,m,ro,c1,bal,nums,memo,set,hf,he⟩ | ⟨rfl,p,q,m,ro,c1,bal,hf⟩⟩:=rdG_some.1 h
 ·refine ⟨enters85,fun σ hs=>?_⟩
  have hf':=hf.sub hs
  refine ⟨rdG_some.2 ⟨rfl,.inl ⟨p,q,nb,m,ro,c1,bal,nums,memo,set,hf',he⟩⟩,?_⟩
  have hx:x = .int .i64 (fillN bal nums 11 set memo).1:=by
   have:=hf.r'
   simp only [Prod.mk.injEq] at this
   exact this.2.2
  have hin:=inl85 ctx 10 (ctxF ctx hC h86 10) h86 ro c1 bal nums memo set hf.ne hf.len hf.at' hf.set' hf.pc
  rw [he] at hin
  have:=inl_hand hin (hands85 hf' memo (σ':=σ) rfl rfl hf'.hm (fun t ht=>rfl)) (args85 hf') (by simp [yfree])
  rw [hx]
  simpa [mapV] using this
 ·refine ⟨enters85,fun σ hs=>?_⟩
  have hf':ZeroAt σ.blk args p q m ro c1 bal:={ hf with hp:=hs _ _ hf.hp,hq:=hs _ _ hf.hq,hm:=hs _ _ hf.hm }
  refine ⟨rdG_some.2 ⟨rfl,.inr ⟨rfl,p,q,m,ro,c1,bal,hf'⟩⟩,?_⟩
  have p1:(lk p σ.blk).isSome=true:=by rw [hf'.hp]; rfl
  have p2:(lk q σ.blk).isSome=true:=by rw [hf'.hq]; rfl
  have:=inl_hand (inl85z ctx hC ro c1 bal) (handsZ hf') (args:=args) (by rw [hf'.ha]; simp [mapV,onLive,p1,p2,gZ,Ne.symm hf'.apart.1]) (by simp [yfree])
  simpa [mapV] using this
noncomputable def pgG (ctx:Ctx):Pg:={ pg ctx with hd:=fun k=>k==85,wr:=wrF 11,rd:=rdG }
@[simp] theorem pgG_tbl (ctx:Ctx):(pgG ctx).tbl=tbl:=rfl
@[simp] theorem pgG_ctx (ctx:Ctx):(pgG ctx).ctx=ctx:=rfl
@[simp] theorem pgG_keys (ctx:Ctx):(pgG ctx).keys=[]:=rfl
@[simp] theorem pgG_inl (ctx:Ctx) (k d:Nat) (σ:St) (a:List V):(pgG ctx).inl k d σ a=none:=rfl
@[simp] theorem pgG_fz (ctx:Ctx) (k:Nat):(pgG ctx).fz k=false:=rfl
@[simp] theorem pgG_yl (ctx:Ctx):(pgG ctx).yl=none:=rfl
@[simp] theorem pgG_deep (ctx:Ctx):(pgG ctx).deep=[88,76]:=rfl
@[simp] theorem pgG_pin (ctx:Ctx):(pgG ctx).pin=[]:=rfl
@[simp] theorem pgG_hd (ctx:Ctx) (k:Nat):(pgG ctx).hd k=(k==85):=rfl
@[simp] theorem pgG_rd (ctx:Ctx):(pgG ctx).rd=rdG:=rfl
@[simp] theorem pgG_wr (ctx:Ctx):(pgG ctx).wr=wrF 11:=rfl
theorem tokG (ctx:Ctx):TOk (pgG ctx):=⟨(tok ctx).tt,(tok ctx).ee,(tok ctx).kk,(tok ctx).zv⟩
theorem ctxG (ctx:Ctx) (hC:CtxOk (pg ctx)) (h86:H86 ctx):CtxOk (pgG ctx) :=
 { c:=hC.c,b:=hC.b,s:=hC.s,l:=hC.l,i:=hC.i,t:=hC.t,h:=hC.h,w:=wr_ok fun ro c1 bal nums memo set ne len hat hset hpc=>inl85 ctx 10 (ctxF ctx hC h86 10) h86 ro c1 bal nums memo set ne len hat hset hpc,r:=rd_ok ctx hC h86 }
end Go.Proofs.YtejodhjhddnbeaaDoor.E
