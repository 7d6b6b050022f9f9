/-
  The chapter of the share: its functions, and what they compute. Conditions: none.
-/
import Derived.Test.YtejodhjhddnbeaaDoorZ18
set_option linter.unusedVariables false
set_option linter.unusedSimpArgs false
namespace Go.Proofs.YtejodhjhddnbeaaDoor.E
open Go Go.RowKit
def nonz (bal:List Int) (i:Nat):List Nat:=(List.range i).filter fun k=>!(bal.getD k 0==0)
theorem nonz_succ (bal:List Int) (i:Nat):nonz bal (i+1)=if (bal.getD i 0==0)=true then nonz bal i else nonz bal i++[i]:=by
 unfold nonz
 rw [List.range_succ,List.filter_append]
 cases h:(bal.getD i 0==0)<;>simp only [List.filter_cons,List.filter_nil,h]<;>simp
theorem nonz_len (bal:List Int) (i:Nat):(nonz bal i).length<=i:=Nat.le_trans (List.length_filter_le _ _) (by simp)
def st68 (ro c1:Bool) (bal:List Int) (i:Nat):List Nat->St
 | []=>({ env:=[(2,.ptr 2 0),(3,.ptr 3 0),(9,.fv ro (.sl c1 1 (ints bal))),(10,.fv false (.int .i64 bal.length)),(11,.fv false (.int .i64 (i:Int)))],blk:=[(2,.box [.fv false (.sl true 0 []),.fv false (.sl true 0 []),.fv false .nilmp]),(3,.box [.fv ro (.sl c1 1 (ints bal)),.fv false (.sl true 0 []),.map 7]),(7,.mp [])] }:St)
 | x :: r=>({ env:=[(2,.ptr 2 0),(3,.ptr 3 0),(9,.fv ro (.sl c1 1 (ints bal))),(10,.fv false (.int .i64 bal.length)),(11,.fv false (.int .i64 (i:Int)))],blk:=[(2,.box [.fv false (.sl true 0 []),.fv false (.sl true 0 []),.fv false .nilmp]),(3,.box [.fv ro (.sl c1 1 (ints bal)),.own 22 0 (x :: r).length,.map 7]),(7,.mp []),(22,.arr 1 (ints (natL (x :: r))))] }:St)
def numV:List Nat->V
 | []=>.fv false (.sl true 0 [])
 | x :: r=>.own 2000002 0 (x :: r).length
def numB:List Nat->List (Nat×Blk)
 | []=>[]
 | x :: r=>[(2000002,.arr 1 (ints (natL (x :: r))))]
theorem inl68 (ctx:Ctx) (hC:CtxOk (pg ctx)) (ro c1:Bool) (bal:List Int) (hl:bal.length<=10):∃ B0,
  InlOK Tryd.prog 68 (tinyH []) [.fv ro (.sl c1 1 (ints bal))] ⟨[],(2000000,B0) :: (2000001,.mp []) :: numB (nonz bal bal.length),[]⟩ [.agg [.fv ro (.sl c1 1 (ints bal)),numV (nonz bal bal.length),.map 2000001]]/\(bcells B0).all (yfree 6)=true:=by
 have key:∃ c,Tryd.f68.body=some c/\Ev (exec (pg ctx) L68 Tryd.f68.ntmps (drawT T68 (pg ctx) L68 Tryd.f68.ntmps) R c ((tinyH []).enterI [.fv ro (.sl c1 1 (ints bal))])) (fun e σ=>(e = .normal\/e = .ret)/\∃ vs,slotsA (pg ctx) σ Tryd.f68.results.toList=some vs/\σ.leaveI 0=⟨[],(2000000,.box [.fv ro (.sl c1 1 (ints bal)),numV (nonz bal bal.length),.map 2000001]) :: (2000001,.mp []) :: numB (nonz bal bal.length),[]⟩/\vs.map (mapV (onLive σ (fdn 0 (surv σ.blk))) 6)=[.agg [.fv ro (.sl c1 1 (ints bal)),numV (nonz bal bal.length),.map 2000001]]):=by
  refine ⟨_,rfl,?_⟩
  have hent:(tinyH []).enterI [.fv ro (.sl c1 1 (ints bal))]=({ env:=[(0,.fv ro (.sl c1 1 (ints bal)))],blk:=[] }:St):=by
   simp [tinyH,witE,St.enterI,St.mapN,mapEnv,mapBlk,parEnv,upEnv,mapV]
  rw [hent]
  simp only [Tryd.ntmps68,Tryd.results68]
  refine ev_seq (ev_reg (by simp; rfl) ?_)
  refine ev_seq (ev_reg (by simp; rfl) ?_)
  refine ev_seq (ev_seq (ev_reg (by simp; rfl) ?_))
  refine ev_block ?_
  refine ev_loop (fun i:Nat=>st68 ro c1 bal i (nonz bal i)) (fun i=>bal.length-i) (fun i=>i<=bal.length) 0 (by simp [st68,nonz]) (by simp) (by simp [R]; omega) (fun i hi=>?_)
  have hst:=nonz_succ bal i
  have hnl:=nonz_len bal i
  cases hz:nonz bal i with
  | nil =>
   rw [hz] at hst
   simp only [st68]
   refine ev_seq (ev_reg (by simp; rfl) ?_)
   refine ev_seq (ev_cond rfl (fun hb=>?_) (fun hb=>?_))
   ·simp at hb
    have hgd:bal.getD i 0=bal[i]:=by simp [List.getD_eq_getElem?_getD,hb]
    rw [hgd] at hst
    refine ev_skip ?_
    refine ev_seq (ev_block ?_)
    refine ev_seq (ev_reg (by simp [hb]; rfl) ?_)
    refine ev_seq (ev_reg (by simp; rfl) ?_)
    refine ev_cond rfl (fun hb2=>?_) (fun hb2=>?_)
    ·have hne:¬ (bal[i]==0)=true:=by simpa using hb2
     rw [if_neg hne] at hst
     refine ev_reg (by simp; rfl) ?_
     refine ev_reg (by simp; rfl) ?_
     refine ⟨i+1,?_,by omega,by omega⟩
     rw [hst]
     simp [st68,natL]
     exact wrap_nat (n:=i+1) (by omega)
    ·have hne:(bal[i]==0)=true:=by simpa using hb2
     rw [if_pos hne] at hst
     refine ev_skip ?_
     refine ev_reg (by simp; rfl) ?_
     refine ⟨i+1,?_,by omega,by omega⟩
     rw [hst]
     simp [st68]
     exact wrap_nat (n:=i+1) (by omega)
   ·simp at hb
    obtain rfl:i=bal.length:=by omega
    refine ev_exit ?_
    refine ev_seq (ev_reg (by simp; rfl) ?_)
    refine ev_ret ⟨.inr rfl,_,by simp; rfl,?_,?_⟩
    ·rw [hz]
     simp [numV,numB,St.leaveI,St.leave,dnEnv,St.mapN,mapEnv,mapBlk,fdn,surv,idxOf,newN,onLive,mapB,bmapB,mapV,pres,lk]
    ·rw [hz]
     simp [numV,fdn,surv,idxOf,newN,onLive,mapV,pres,lk]
  | cons x r =>
   rw [hz] at hst hnl
   simp only [st68]
   refine ev_seq (ev_reg (by simp; rfl) ?_)
   refine ev_seq (ev_cond rfl (fun hb=>?_) (fun hb=>?_))
   ·simp at hb
    have hgd:bal.getD i 0=bal[i]:=by simp [List.getD_eq_getElem?_getD,hb]
    rw [hgd] at hst
    refine ev_skip ?_
    refine ev_seq (ev_block ?_)
    refine ev_seq (ev_reg (by simp [hb]; rfl) ?_)
    refine ev_seq (ev_reg (by simp; rfl) ?_)
    refine ev_cond rfl (fun hb2=>?_) (fun hb2=>?_)
    ·have hne:¬ (bal[i]==0)=true:=by simpa using hb2
     rw [if_neg hne] at hst
     have hbd:(r.length+1+1)*8<=140737488355328:=by simp at hnl; omega
     refine ev_reg (by simp [hbd]; rfl) ?_
     refine ev_reg (by simp; rfl) ?_
     refine ⟨i+1,?_,by omega,by omega⟩
     rw [hst]
     simp [st68,natL]
     exact wrap_nat (n:=i+1) (by omega)
    ·have hne:(bal[i]==0)=true:=by simpa using hb2
     rw [if_pos hne] at hst
     refine ev_skip ?_
     refine ev_reg (by simp; rfl) ?_
     refine ⟨i+1,?_,by omega,by omega⟩
     rw [hst]
     simp [st68]
     exact wrap_nat (n:=i+1) (by omega)
   ·simp at hb
    obtain rfl:i=bal.length:=by omega
    refine ev_exit ?_
    refine ev_seq (ev_reg (by simp; rfl) ?_)
    refine ev_ret ⟨.inr rfl,_,by simp; rfl,?_,?_⟩
    ·rw [hz]
     simp [numV,numB,St.leaveI,St.leave,dnEnv,St.mapN,mapEnv,mapBlk,fdn,surv,idxOf,newN,onLive,mapB,bmapB,mapV,pres,lk]
    ·rw [hz]
     simp [numV,fdn,surv,idxOf,newN,onLive,mapV,pres,lk]
 obtain ⟨c,hb,hx⟩:=key
 obtain ⟨e,σ1,h1,h2,vs,h3,h4,h5⟩:=hx.get
 have:=inl_of_exec (G:=pg ctx) (tok ctx) hC rfl Tryd.func68 hb (drawOk (tok ctx) hC mixed T68 L68 _) R 0 (by simp [Tryd.ntmps68]) h1 h2 h3
 rw [h4,h5] at this
 refine ⟨_,this,?_⟩
 cases nonz bal bal.length<;>simp [bcells,numV,yfree]
def bsY:List (Nat×Blk):=[(0,.mp [])]
theorem inl69z (ctx:Ctx) (hC:CtxOk (pg ctx)) (h86:H86 ctx) (ro c1:Bool) (bal:List Int) :
  InlOK Tryd.prog 69 (tinyH bsY) [.agg [.fv ro (.sl c1 1 (ints bal)),.fv false (.sl true 0 []),.map 0],.fv false (.int .i64 0)] ⟨witE 0 bsY,(2000000,.arr 1 []) :: bsY,[]⟩ [.own 2000000 0 0]:=by
 have hG:=ctxG ctx hC h86
 have hrd:rdG 85 ([(2,.box [.fv ro (.sl c1 1 (ints bal)),.fv false (.sl true 0 []),.map 100000000]),(5,.box [.fn (.func 85) [] [.ptr 2 0,.ptr 5 0]]),(100000000,.mp [])]:List (Nat×Blk)) [.fv false (.int .i64 0),.ptr 2 0,.ptr 5 0]=some (.int .i64 0) :=
  rdG_some.2 ⟨rfl,.inr ⟨rfl,2,5,100000000,ro,c1,bal,{ ha:=rfl,hp:=rfl,hq:=rfl,hm:=rfl,y:=by decide }⟩⟩
 have key:∃ c,Tryd.f69.body=some c/\Ev (exec (pgG ctx) L69 Tryd.f69.ntmps (drawT T69p (pgG ctx) L69 Tryd.f69.ntmps) R c ((tinyH bsY).enterI [.agg [.fv ro (.sl c1 1 (ints bal)),.fv false (.sl true 0 []),.map 0],.fv false (.int .i64 0)])) (fun e σ=>(e = .normal\/e = .ret)/\∃ vs,slotsA (pgG ctx) σ Tryd.f69.results.toList=some vs/\σ.leaveI 0=⟨witE 0 bsY,(2000000,.arr 1 []) :: bsY,[]⟩/\vs.map (mapV (onLive σ (fdn 0 (surv σ.blk))) 6)=[.own 2000000 0 0]):=by
  refine ⟨_,rfl,?_⟩
  have hent:(tinyH bsY).enterI [.agg [.fv ro (.sl c1 1 (ints bal)),.fv false (.sl true 0 []),.map 0],.fv false (.int .i64 0)]=({ env:=[(0,.agg [.fv ro (.sl c1 1 (ints bal)),.fv false (.sl true 0 []),.map 100000000]),(1,.fv false (.int .i64 0)),(100000000,.map 100000000)],blk:=[(100000000,.mp [])] }:St):=by
   simp [tinyH,bsY,witE,witV,St.enterI,St.mapN,mapEnv,mapBlk,parEnv,upEnv,fup,onLive,mapB,bmapB,mapV,pres,lk]
  rw [hent]
  simp only [Tryd.ntmps69,Tryd.results69]
  refine ev_seq (ev_reg (by simp; rfl) ?_)
  refine ev_seq (ev_reg (by simp; rfl) ?_)
  refine ev_seq (ev_reg (by simp; rfl) ?_)
  refine ev_seq (ev_reg (by simp [hrd]; rfl) ?_)
  refine ev_seq (ev_reg (by simp; rfl) ?_)
  refine ev_seq (ev_reg (by simp; rfl) ?_)
  refine ev_seq (ev_block ?_)
  refine ev_loop (fun x:Unit=>({ env:=[(1,.fv false (.int .i64 0)),(2,.ptr 2 0),(5,.ptr 5 0),(6,.own 6 0 0),(7,.fv false (.int .i64 0)),(100000000,.map 100000000)],blk:=([(2,.box [.fv ro (.sl c1 1 (ints bal)),.fv false (.sl true 0 []),.map 100000000]),(5,.box [.fn (.func 85) [] [.ptr 2 0,.ptr 5 0]]),(6,.arr 1 []),(100000000,.mp [])]:List (Nat×Blk)) }:St)) (fun _=>0) (fun _=>True) () rfl trivial (by simp [R]) (fun _ _=>?_)
  refine ev_seq (ev_seq (ev_reg (by simp; rfl) ?_))
  refine ev_cond rfl (fun hb=>?_) (fun hb=>?_)
  ·simp at hb
  ·refine ev_exit ?_
   refine ev_seq (ev_seq (ev_reg (by simp; rfl) ?_))
   refine ev_cond rfl (fun hb=>?_) (fun hb=>?_)
   ·simp at hb
   ·refine ev_skip ?_
    refine ev_seq (ev_reg (by simp; rfl) ?_)
    refine ev_ret ⟨.inr rfl,_,by simp; rfl,?_,?_⟩
    ·simp [bsY,witE,witV,St.leaveI,St.leave,dnEnv,St.mapN,mapEnv,mapBlk,fdn,surv,idxOf,newN,onLive,mapB,bmapB,mapV,pres,lk]
    ·simp [fdn,surv,idxOf,newN,onLive,mapV,pres,lk]
 obtain ⟨c,hb,hx⟩:=key
 obtain ⟨e,σ1,h1,h2,vs,h3,h4,h5⟩:=hx.get
 have:=inl_of_exec (G:=pgG ctx) (tokG ctx) hG rfl Tryd.func69 hb (drawOk (tokG ctx) hG mixed T69p L69 _) R 0 (by simp [Tryd.ntmps69]) h1 h2 h3
 rw [h4,h5] at this
 exact this
def swp (ρ:List (Nat×Nat)):List (Nat×Nat):=ρ.map fun p=>(p.2,p.1)
def gOf (bs:List (Nat×Blk)) (ρ:List (Nat×Nat)) (s:Nat):Option Nat:=match lk s (swp ρ) with
 | some t=>if (lk t bs).isSome=true then some t else none
 | none=>none
theorem mem_lk {α:Type}:∀ {l:List (Nat×α)} {k:Nat} {v:α},(l.map (·.1)).Nodup->(k,v)∈l->lk k l=some v
 | (j,u) :: r,k,v,hn,h=>by
  simp only [List.map_cons,List.nodup_cons] at hn
  simp only [lk]
  rcases List.mem_cons.1 h with h | h
  ·simp only [Prod.mk.injEq] at h
   simp [h.1,h.2]
  ·have:k≠j:=fun e=>hn.1 (e▸List.mem_map.2 ⟨(k,v),h,rfl⟩)
   rw [if_neg this]
   exact mem_lk hn.2 h
def Unm (σ:St) (s:Nat):Prop:=(∀ k v,lk k σ.env=some v->∃ n,ment n s v=false)/\∀ s' b,lk s' σ.blk=some b->∀ y∈bcells b,∃ n,ment n s y=false
def freshB (σ:St) (s:Nat):Bool:=(lk s σ.blk).isNone&&(σ.env.all fun e=>!ment 6 s e.2)&&σ.blk.all fun e=>(bcells e.2).all fun y=>!ment 6 s y
theorem freshB_ok {σ:St} {s:Nat} (h:freshB σ s=true):lk s σ.blk=none/\Unm σ s:=by
 simp only [freshB,Bool.and_eq_true,Option.isNone_iff_eq_none,List.all_eq_true,Bool.not_eq_true'] at h
 exact ⟨h.1.1,fun k v hk=>⟨6,h.1.2 _ (lk_mem hk)⟩,fun s' b hb y hy=>⟨6,h.2 _ (lk_mem hb) y hy⟩⟩
theorem hands_mk {bs bs':List (Nat×Blk)} {env':List (Nat×V)} {σ σ':St} (ρ:List (Nat×Nat)) (hsize:bs.length<=90000) (hplain:∀ (i t:Nat) (b:Blk),bs[i]? = some (t,b)->plain b=true/\lk t bs=some b)
  (hn1:(ρ.map (·.1)).Nodup) (hn2:(ρ.map (·.2)).Nodup) (hY:∀ p∈ρ,p.1≠YN/\p.2≠YN) (hh:∀ t b,lk t bs=some b->∃ s,(t,s)∈ρ/\∃ b0,lk s σ.blk=some b0/\mapB (onLive σ (gOf bs ρ)) b0=b)
  (hback:∀ (i t:Nat) (b:Blk),bs[i]? = some (t,b)->lk i env'=some (witV t b)/\∃ b',lk t bs'=some b'/\witV t b'=witV t b/\shp b'=shp b)
  (henv:σ'.env=σ.env) (htr:σ'.tr=σ.tr) (h1:∀ p∈ρ,∀ b',lk p.1 bs'=some b'->lk p.2 σ'.blk=some (mapB (onLive ⟨env',bs',[]⟩ fun t=>lk t ρ) b'))
  (h2:∀ s,(∀ p∈ρ,p.2=s->lk p.1 bs'=none)->lk s σ'.blk=lk s σ.blk)
  (hnew:∀ p∈ρ,lk p.1 bs'≠none->(∀ b,lk p.1 bs=some b->∃ sz,b = .arr sz [])->Unm σ p.2) (hfresh:∀ p∈ρ,lk p.1 bs'≠none->lk p.1 bs=none->lk p.2 σ.blk=none)
  (hyf:∀ t b,lk t bs'=some b->(bcells b).all (yfree 6)=true) (hyn:lk YN bs'=none):Hands bs ⟨env',bs',[]⟩ σ σ' (fun t=>lk t ρ) (gOf bs ρ):=by
 have hsw:∀ s t,lk s (swp ρ)=some t->(t,s)∈ρ:=fun s t h=>by
  have:=lk_mem h
  simp only [swp,List.mem_map,Prod.mk.injEq] at this
  obtain ⟨p,hp,h1,h2⟩:=this
  have e:p=(t,s):=Prod.ext h2 h1
  exact e▸hp
 have hws:∀ s t,(t,s)∈ρ->lk s (swp ρ)=some t:=fun s t h=>by
  refine mem_lk ?_ (List.mem_map.2 ⟨(t,s),h,rfl⟩)
  have:(swp ρ).map (·.1)=ρ.map (·.2):=by simp [swp]
  rw [this]; exact hn2
 have hg:∀ s t,gOf bs ρ s=some t↔(t,s)∈ρ/\lk t bs≠none:=fun s t=>by
  unfold gOf
  constructor
  ·intro h
   split at h
   ·rename_i t' ht
    split at h
    ·rename_i hs
     simp only [Option.some.injEq] at h
     subst h
     exact ⟨hsw s _ ht,by simpa [Option.isSome_iff_ne_none] using hs⟩
    ·cases h
   ·cases h
  ·rintro ⟨h,h0⟩
   rw [hws s t h]
   simp only
   rw [if_pos (by simpa [Option.isSome_iff_ne_none] using h0)]
 have hgi:∀ s s' t,gOf bs ρ s=some t->gOf bs ρ s'=some t->s=s':=fun s s' t e e'=>by
  have a1:=mem_lk hn1 ((hg s t).1 e).1
  have a2:=mem_lk hn1 ((hg s' t).1 e').1
  rw [a1] at a2
  simpa using a2
 refine { size:=hsize,plain:=hplain,gi:=hgi,gY:=fun s e=>(hY _ ((hg s YN).1 e).1).1 rfl,gf:=fun s t e=>mem_lk hn1 ((hg s t).1 e).1,fi:=fun t t' s e e'=>?_,fY:=fun t e=>(hY _ (lk_mem e)).2 rfl,tiny:=fun t=>?_,back:=hback,env:=henv,tr:=htr,blk1:=fun s t e ht=>?_,blk2:=fun s hs=>h2 s fun p hp e=>hs p.1 (by rw [<-e]; exact mem_lk hn1 hp),new:=fun s t e ht hb=>hnew (t,s) (lk_mem e) ht hb,fresh:=fun s t e ht hb=>hfresh (t,s) (lk_mem e) ht hb,yf:=hyf,yn:=hyn }
 ·have a1:=hws s t (lk_mem e)
  have a2:=hws s t' (lk_mem e')
  rw [a1] at a2
  simpa using a2
 ·cases hb:lk t bs with
  | some b =>
   obtain ⟨s,hs,b0,hb0,hm⟩:=hh t b hb
   have e1:lk t (σ.mapN (gOf bs ρ)).blk=(lk s σ.blk).map (mapB (onLive σ (gOf bs ρ))):=lk_mapBlk hgi ((hg s t).2 ⟨hs,by simp [hb]⟩)
   rw [e1,hb0,Option.map_some,hm]
  | none =>
   cases hc:lk t (σ.mapN (gOf bs ρ)).blk with
   | none=>rfl
   | some b =>
    obtain ⟨s,hs⟩:=lk_mapBlk_some hgi hc
    exact absurd hb ((hg s t).1 hs).2
 ·cases hb:lk t bs' with
  | none=>exact absurd hb ht
  | some b'=>rw [h1 (t,s) (lk_mem e) b' hb]; rfl
def nmA (d:Nat):Nat:=3000000+2*d
def nmM (d:Nat):Nat:=3000001+2*d
def opS (d:Nat) (σ:St):List Nat->St
 | []=>{ σ with blk:=put (nmM d) (.mp []) σ.blk }
 | x :: r=>{ σ with blk:=put (nmA d) (.arr 1 (ints (natL (x :: r)))) (put (nmM d) (.mp []) σ.blk) }
def opV (d:Nat):List Nat->V
 | []=>.fv false (.sl true 0 [])
 | x :: r=>.own (nmA d) 0 (x :: r).length
theorem enters68:Enters Tryd.prog 68:=⟨_,Tryd.func68,by kernel_rfl,by kernel_rfl⟩
theorem enters69:Enters Tryd.prog 69:=⟨_,Tryd.func69,by kernel_rfl,by kernel_rfl⟩
theorem ok68 (ctx:Ctx) (hC:CtxOk (pg ctx)) (d:Nat) (σ:St) (ro c1:Bool) (bal:List Int) (hl:bal.length<=10) (ha:freshB σ (nmA d)=true) (hm:freshB σ (nmM d)=true) :
  InlOK0 Tryd.prog 68 σ [.fv ro (.sl c1 1 (ints bal))] (opS d σ (nonz bal bal.length)) [.agg [.fv ro (.sl c1 1 (ints bal)),opV d (nonz bal bal.length),.map (nmM d)]]:=by
 obtain ⟨B0,hin,hB⟩:=inl68 ctx hC ro c1 bal hl
 obtain ⟨a1,a2⟩:=freshB_ok ha
 obtain ⟨m1,m2⟩:=freshB_ok hm
 have hne:nmA d≠nmM d:=by simp [nmA,nmM]
 have hY1:nmA d≠YN:=by simp [nmA,YN]; omega
 have hY2:nmM d≠YN:=by simp [nmM,YN]; omega
 generalize nonz bal bal.length=nums at hin ⊢
 have hands:Hands [] ⟨[],(2000000,B0) :: (2000001,.mp []) :: numB nums,[]⟩ σ (opS d σ nums) (fun t=>lk t [(2000001,nmM d),(2000002,nmA d)]) (gOf [] [(2000001,nmM d),(2000002,nmA d)]):=by
  refine hands_mk [(2000001,nmM d),(2000002,nmA d)] (by simp) (fun i t b e=>by simp at e) (by simp) (by simp [Ne.symm hne]) (fun p hp=>?_) (fun t b e=>by simp [lk] at e) (fun i t b e=>by simp at e) (by cases nums<;>rfl) (by cases nums<;>rfl) (fun p hp b' e=>?_) (fun s hs=>?_) (fun p hp _ _=>?_) (fun p hp _ _=>?_) (fun t b e=>?_) ?_
  ·simp only [List.mem_cons,List.not_mem_nil,or_false] at hp
   rcases hp with rfl | rfl
   ·exact ⟨by simp [YN],hY2⟩
   ·exact ⟨by simp [YN],hY1⟩
  ·simp only [List.mem_cons,List.not_mem_nil,or_false] at hp
   rcases hp with rfl | rfl
   ·cases nums with
    | nil=>simp [lk] at e; subst e; simp [opS,lk_put,mapB,bmapB]
    | cons x r=>simp [lk] at e; subst e; simp [opS,lk_put,mapB,bmapB,Ne.symm hne]
   ·cases nums with
    | nil=>simp [lk,numB] at e
    | cons x r=>simp [lk,numB] at e; subst e; simp [opS,lk_put,mapB,bmapB]
  ·have k1:s≠nmM d:=fun e=>by
    have:=hs (2000001,nmM d) (by simp) e.symm
    simp [lk] at this
   cases nums with
   | nil=>simp [opS,lk_put,k1]
   | cons x r =>
    have k2:s≠nmA d:=fun e=>by
     have:=hs (2000002,nmA d) (by simp) e.symm
     simp [lk,numB] at this
    simp [opS,lk_put,k1,k2]
  ·simp only [List.mem_cons,List.not_mem_nil,or_false] at hp
   rcases hp with rfl | rfl
   ·exact m2
   ·exact a2
  ·simp only [List.mem_cons,List.not_mem_nil,or_false] at hp
   rcases hp with rfl | rfl
   ·exact m1
   ·exact a1
  ·simp only [lk] at e
   split at e
   ·simp only [Option.some.injEq] at e; subst e; exact hB
   ·split at e
    ·simp only [Option.some.injEq] at e; subst e; simp [bcells]
    ·cases nums with
     | nil=>simp [numB,lk] at e
     | cons x r=>simp [numB,lk] at e; obtain ⟨_,rfl⟩:=e; simp [bcells]
  ·cases nums<;>simp [lk,numB,YN]
 have:=inl_hand hin hands (args:=[.fv ro (.sl c1 1 (ints bal))]) (by simp [mapV]) (by cases nums<;>simp [yfree,numV])
 cases nums with
 | nil=>simpa [mapV,numV,numB,opV,onLive,lk,pres] using this
 | cons x r=>simpa [mapV,numV,numB,opV,onLive,lk,pres] using this
theorem ok69 (ctx:Ctx) (hC:CtxOk (pg ctx)) (h86:H86 ctx) (d:Nat) (σ:St) (ro c1:Bool) (bal:List Int) (nums:List Nat) (set0 nb m:Nat) (ne:nums≠[]) (len:nums.length<=10) (hat:∀ i∈nums,i < bal.length) (hset0:set0 < 2^nums.length)
  (hnb:lk nb σ.blk=some (.arr 1 (ints (natL nums)))) (hm:lk m σ.blk=some (.mp [])) (hy:nb≠YN/\m≠YN) (hf:freshB σ (nmA d)=true) :
  InlOK0 Tryd.prog 69 σ [bookV ro c1 bal nums nb m,.fv false (.int .i64 (set0:Int))] { σ with blk:=put (nmA d) (.arr 1 (ints (natL (groupsS bal nums set0)))) (put m (.mp (memE (fillN bal nums 11 set0 []).2)) σ.blk) } [.own (nmA d) 0 (groupsS bal nums set0).length]:=by
 have hin:=inl69 ctx hC h86 ro c1 bal nums set0 ne len hat hset0
 obtain ⟨a1,a2⟩:=freshB_ok hf
 have hY1:nmA d≠YN:=by simp [nmA,YN]; omega
 have n1:nmA d≠nb:=fun e=>by rw [<-e,a1] at hnb; cases hnb
 have n2:nmA d≠m:=fun e=>by rw [<-e,a1] at hm; cases hm
 have n3:nb≠m:=fun e=>by rw [e,hm] at hnb; cases hnb
 have p1:(lk nb σ.blk).isSome=true:=by rw [hnb]; rfl
 have p2:(lk m σ.blk).isSome=true:=by rw [hm]; rfl
 generalize groupsS bal nums set0=RR at hin ⊢
 generalize (fillN bal nums 11 set0 []).2=M at hin ⊢
 have hmemV:∀ f (mm:Memo),(memE mm).map (fun e=>(e.1,mapV f 6 e.2))=memE mm:=fun f mm=>by simp [memE,mapV]
 have hands:Hands (bsG nums []) ⟨witE 0 (bsG nums M),(2000000,.arr 1 (ints (natL RR))) :: bsG nums M,[]⟩ σ { σ with blk:=put (nmA d) (.arr 1 (ints (natL RR))) (put m (.mp (memE M)) σ.blk) } (fun t=>lk t [(0,nb),(1,m),(2000000,nmA d)]) (gOf (bsG nums []) [(0,nb),(1,m),(2000000,nmA d)]):=by
  refine hands_mk [(0,nb),(1,m),(2000000,nmA d)] (by simp [bsG]) (fun i t b e=>?_) (by simp) (by simp [n3,Ne.symm n1,Ne.symm n2]) (fun p hp=>?_) (fun t b e=>?_) (fun i t b e=>?_) rfl rfl (fun p hp b' e=>?_) (fun s hs=>?_) (fun p hp h1 h2=>?_) (fun p hp h1 h2=>?_) (fun t b e=>?_) ?_
  ·match i,e with
   | 0,e=>simp [bsG] at e; obtain ⟨rfl,rfl⟩:=e; simp [bsG,lk,plain]
   | 1,e=>simp [bsG] at e; obtain ⟨rfl,rfl⟩:=e; simp [bsG,lk,plain]
   | i+2,e=>simp [bsG] at e
  ·simp only [List.mem_cons,List.not_mem_nil,or_false] at hp
   rcases hp with rfl | rfl | rfl
   ·exact ⟨by simp [YN],hy.1⟩
   ·exact ⟨by simp [YN],hy.2⟩
   ·exact ⟨by simp [YN],hY1⟩
  ·simp only [bsG,lk] at e
   split at e
   ·rename_i e0; subst e0
    simp only [Option.some.injEq] at e; subst e
    exact ⟨nb,by simp,_,hnb,by simp [mapB,bmapB]⟩
   ·split at e
    ·rename_i e0; subst e0
     simp only [Option.some.injEq] at e; subst e
     exact ⟨m,by simp,_,hm,by simp [mapB,bmapB,memE]⟩
    ·cases e
  ·match i,e with
   | 0,e=>simp [bsG] at e; obtain ⟨rfl,rfl⟩:=e; simp [bsG,lk,witE,witV,shp]
   | 1,e=>simp [bsG] at e; obtain ⟨rfl,rfl⟩:=e; simp [bsG,lk,witE,witV,shp]
   | i+2,e=>simp [bsG] at e
  ·simp only [List.mem_cons,List.not_mem_nil,or_false] at hp
   rcases hp with rfl | rfl | rfl
   ·simp [lk,bsG] at e; subst e; simp [lk_put,Ne.symm n1,n3,hnb,mapB,bmapB]
   ·simp [lk,bsG] at e; subst e; simp [lk_put,Ne.symm n2,mapB,bmapB,hmemV]
   ·simp [lk,bsG] at e; subst e; simp [lk_put,mapB,bmapB]
  ·have k1:s≠m:=fun e=>by
    have:=hs (1,m) (by simp) e.symm
    simp [lk,bsG] at this
   have k2:s≠nmA d:=fun e=>by
    have:=hs (2000000,nmA d) (by simp) e.symm
    simp [lk] at this
   simp [lk_put,k1,k2]
  ·simp only [List.mem_cons,List.not_mem_nil,or_false] at hp
   rcases hp with rfl | rfl | rfl
   ·obtain ⟨sz,hsz⟩:=h2 (.arr 1 (ints (natL nums))) (by simp [bsG,lk])
    simp only [Blk.arr.injEq] at hsz
    exact absurd (by have:=congrArg List.length hsz.2; simpa using this) ne
   ·obtain ⟨sz,hsz⟩:=h2 _ (by simp [bsG,lk]; rfl)
    cases hsz
   ·exact a2
  ·simp only [List.mem_cons,List.not_mem_nil,or_false] at hp
   rcases hp with rfl | rfl | rfl
   ·simp [bsG,lk] at h2
   ·simp [bsG,lk] at h2
   ·exact a1
  ·simp only [bsG,lk] at e
   split at e
   ·simp only [Option.some.injEq] at e; subst e; simp [bcells]
   ·split at e
    ·simp only [Option.some.injEq] at e; subst e; simp [bcells]
    ·split at e
     ·simp only [Option.some.injEq] at e; subst e; simp [bcells,memE,yfree]
     ·cases e
  ·simp [lk,bsG,YN]
 have:=inl_hand hin hands (args:=[bookV ro c1 bal nums nb m,.fv false (.int .i64 (set0:Int))]) (by simp [bookV,mapV,onLive,p1,p2,gOf,swp,lk,bsG,Ne.symm n3]) (by simp [yfree])
 simpa [mapV,onLive,lk,pres,bsG] using this
theorem ok69z (ctx:Ctx) (hC:CtxOk (pg ctx)) (h86:H86 ctx) (d:Nat) (σ:St) (ro c1:Bool) (bal:List Int) (m:Nat) (hm:lk m σ.blk=some (.mp [])) (hy:m≠YN) (hf:freshB σ (nmA d)=true) :
  InlOK0 Tryd.prog 69 σ [.agg [.fv ro (.sl c1 1 (ints bal)),.fv false (.sl true 0 []),.map m],.fv false (.int .i64 0)] { σ with blk:=put (nmA d) (.arr 1 []) σ.blk } [.own (nmA d) 0 0]:=by
 have hin:=inl69z ctx hC h86 ro c1 bal
 obtain ⟨a1,a2⟩:=freshB_ok hf
 have hY1:nmA d≠YN:=by simp [nmA,YN]; omega
 have n2:nmA d≠m:=fun e=>by rw [<-e,a1] at hm; cases hm
 have p2:(lk m σ.blk).isSome=true:=by rw [hm]; rfl
 have hands:Hands bsY ⟨witE 0 bsY,(2000000,.arr 1 []) :: bsY,[]⟩ σ { σ with blk:=put (nmA d) (.arr 1 []) σ.blk } (fun t=>lk t [(0,m),(2000000,nmA d)]) (gOf bsY [(0,m),(2000000,nmA d)]):=by
  refine hands_mk [(0,m),(2000000,nmA d)] (by simp [bsY]) (fun i t b e=>?_) (by simp) (by simp [Ne.symm n2]) (fun p hp=>?_) (fun t b e=>?_) (fun i t b e=>?_) rfl rfl (fun p hp b' e=>?_) (fun s hs=>?_) (fun p hp h1 h2=>?_) (fun p hp h1 h2=>?_) (fun t b e=>?_) ?_
  ·match i,e with
   | 0,e=>simp [bsY] at e; obtain ⟨rfl,rfl⟩:=e; simp [bsY,lk,plain]
   | i+1,e=>simp [bsY] at e
  ·simp only [List.mem_cons,List.not_mem_nil,or_false] at hp
   rcases hp with rfl | rfl
   ·exact ⟨by simp [YN],hy⟩
   ·exact ⟨by simp [YN],hY1⟩
  ·simp only [bsY,lk] at e
   split at e
   ·rename_i e0; subst e0
    simp only [Option.some.injEq] at e; subst e
    exact ⟨m,by simp,_,hm,by simp [mapB,bmapB]⟩
   ·cases e
  ·match i,e with
   | 0,e=>simp [bsY] at e; obtain ⟨rfl,rfl⟩:=e; simp [bsY,lk,witE,witV,shp]
   | i+1,e=>simp [bsY] at e
  ·simp only [List.mem_cons,List.not_mem_nil,or_false] at hp
   rcases hp with rfl | rfl
   ·simp [lk,bsY] at e; subst e; simp [lk_put,Ne.symm n2,hm,mapB,bmapB]
   ·simp [lk,bsY] at e; subst e; simp [lk_put,mapB,bmapB]
  ·have k2:s≠nmA d:=fun e=>by
    have:=hs (2000000,nmA d) (by simp) e.symm
    simp [lk] at this
   simp [lk_put,k2]
  ·simp only [List.mem_cons,List.not_mem_nil,or_false] at hp
   rcases hp with rfl | rfl
   ·obtain ⟨sz,hsz⟩:=h2 _ (by simp [bsY,lk]; rfl)
    cases hsz
   ·exact a2
  ·simp only [List.mem_cons,List.not_mem_nil,or_false] at hp
   rcases hp with rfl | rfl
   ·simp [bsY,lk] at h2
   ·exact a1
  ·simp only [bsY,lk] at e
   split at e
   ·simp only [Option.some.injEq] at e; subst e; simp [bcells]
   ·split at e
    ·simp only [Option.some.injEq] at e; subst e; simp [bcells]
    ·cases e
  ·simp [lk,bsY,YN]
 have:=inl_hand hin hands (args:=[.agg [.fv ro (.sl c1 1 (ints bal)),.fv false (.sl true 0 []),.map m],.fv false (.int .i64 0)]) (by simp [mapV,onLive,p2,gOf,swp,lk,bsY]) (by simp [yfree])
 simpa [mapV,onLive,lk,pres,bsY] using this
def InlB (k:FuncId) (d:Nat) (σ:St) (args:List V) (r:St×List V):Prop :=
 (k=68/\∃ ro c1 bal,args=[.fv ro (.sl c1 1 (ints bal))]/\bal.length<=10/\freshB σ (nmA d)=true/\freshB σ (nmM d)=true/\r=(opS d σ (nonz bal bal.length),[.agg [.fv ro (.sl c1 1 (ints bal)),opV d (nonz bal bal.length),.map (nmM d)]])) ∨
 (k=69/\∃ ro c1 bal nums set0 nb m,args=[bookV ro c1 bal nums nb m,.fv false (.int .i64 ((set0:Nat):Int))]/\nums≠[]/\nums.length<=10/\(∀ i∈nums,i < bal.length)/\set0 < 2^nums.length/\lk nb σ.blk=some (.arr 1 (ints (natL nums)))/\lk m σ.blk=some (.mp [])/\(nb≠YN/\m≠YN)/\freshB σ (nmA d)=true ∧
  r=({ σ with blk:=put (nmA d) (.arr 1 (ints (natL (groupsS bal nums set0)))) (put m (.mp (memE (fillN bal nums 11 set0 []).2)) σ.blk) },[.own (nmA d) 0 (groupsS bal nums set0).length])) ∨
 (k=69/\∃ ro c1 bal m,args=[.agg [.fv ro (.sl c1 1 (ints bal)),.fv false (.sl true 0 []),.map m],.fv false (.int .i64 0)]/\lk m σ.blk=some (.mp [])/\m≠YN/\freshB σ (nmA d)=true/\r=({ σ with blk:=put (nmA d) (.arr 1 []) σ.blk },[.own (nmA d) 0 0]))
theorem InlB.one {k:FuncId} {d:Nat} {σ:St} {args:List V} {r r':St×List V} (h:InlB k d σ args r) (h':InlB k d σ args r'):r=r':=by
 rcases h with ⟨rfl,ro,c1,bal,ha,_,_,_,hr⟩ | ⟨rfl,ro,c1,bal,nums,set0,nb,m,ha,_,_,_,_,hnb,_,_,_,hr⟩ | ⟨rfl,ro,c1,bal,m,ha,_,_,_,hr⟩
 ·rcases h' with ⟨_,ro',c1',bal',ha',_,_,_,hr'⟩ | ⟨h0,_⟩ | ⟨h0,_⟩
  ·rw [ha] at ha'
   simp only [List.cons.injEq,V.fv.injEq,FV.sl.injEq,true_and,and_true] at ha'
   obtain ⟨rfl,rfl,e⟩:=ha'
   have:=ints_injK e
   subst this
   rw [hr,hr']
  ·cases h0
  ·cases h0
 ·rcases h' with ⟨h0,_⟩ | ⟨_,ro',c1',bal',nums',set0',nb',m',ha',_,_,_,_,hnb',_,_,_,hr'⟩ | ⟨_,ro',c1',bal',m',ha',_⟩
  ·cases h0
  ·rw [ha] at ha'
   simp only [bookV,List.cons.injEq,V.agg.injEq,V.fv.injEq,FV.sl.injEq,true_and,and_true,V.own.injEq,V.map.injEq,FV.int.injEq] at ha'
   obtain ⟨⟨⟨rfl,rfl,e⟩,⟨rfl,e1⟩,rfl⟩,e2⟩:=ha'
   have:=ints_injK e
   subst this
   rw [hnb] at hnb'
   simp only [Option.some.injEq,Blk.arr.injEq,true_and] at hnb'
   have:=natL_injK (ints_injK hnb')
   subst this
   have:set0=set0':=by omega
   subst this
   rw [hr,hr']
  ·rw [ha] at ha'
   simp [bookV] at ha'
 ·rcases h' with ⟨h0,_⟩ | ⟨_,ro',c1',bal',nums',set0',nb',m',ha',_⟩ | ⟨_,ro',c1',bal',m',ha',_,_,_,hr'⟩
  ·cases h0
  ·rw [ha] at ha'
   simp [bookV] at ha'
  ·rw [ha] at ha'
   rw [hr,hr']
open Classical in
noncomputable def inlB:FuncId->Nat->St->List V->Option (St×List V):=fun k d σ args=>if h:∃ r,InlB k d σ args r then some h.choose else none
theorem inlB_some {k:FuncId} {d:Nat} {σ:St} {args:List V} {r:St×List V}:inlB k d σ args=some r↔InlB k d σ args r:=by
 unfold inlB
 constructor
 ·intro h
  split at h
  ·rename_i hx
   simp only [Option.some.injEq] at h
   exact h▸hx.choose_spec
  ·cases h
 ·intro h
  have hx:∃ r,InlB k d σ args r:=⟨r,h⟩
  rw [dif_pos hx]
  congr 1
  exact InlB.one hx.choose_spec h
theorem inlB_ok (ctx:Ctx) (hC:CtxOk (pg ctx)) (h86:H86 ctx) {k:FuncId} {d:Nat} {σ σ':St} {args vs:List V} (h:inlB k d σ args=some (σ',vs)):InlOK Tryd.prog k σ args σ' vs/\Enters Tryd.prog k:=by
 rcases inlB_some.1 h with ⟨rfl,ro,c1,bal,rfl,h1,h2,h3,hr⟩ | ⟨rfl,ro,c1,bal,nums,set0,nb,m,rfl,h1,h2,h3,h4,h5,h6,h7,h8,hr⟩ | ⟨rfl,ro,c1,bal,m,rfl,h1,h2,h3,hr⟩
 ·simp only [Prod.mk.injEq] at hr
  obtain ⟨rfl,rfl⟩:=hr
  exact ⟨(ok68 ctx hC d σ ro c1 bal h1 h2 h3).inl,enters68⟩
 ·simp only [Prod.mk.injEq] at hr
  obtain ⟨rfl,rfl⟩:=hr
  exact ⟨(ok69 ctx hC h86 d σ ro c1 bal nums set0 nb m h1 h2 h3 h4 h5 h6 h7 h8).inl,enters69⟩
 ·simp only [Prod.mk.injEq] at hr
  obtain ⟨rfl,rfl⟩:=hr
  exact ⟨(ok69z ctx hC h86 d σ ro c1 bal m h1 h2 h3).inl,enters69⟩
noncomputable def pgB (ctx:Ctx):Pg:={ pg ctx with inl:=inlB }
@[simp] theorem pgB_tbl (ctx:Ctx):(pgB ctx).tbl=tbl:=rfl
@[simp] theorem pgB_ctx (ctx:Ctx):(pgB ctx).ctx=ctx:=rfl
@[simp] theorem pgB_keys (ctx:Ctx):(pgB ctx).keys=[]:=rfl
@[simp] theorem pgB_inl (ctx:Ctx):(pgB ctx).inl=inlB:=rfl
@[simp] theorem pgB_fz (ctx:Ctx) (k:Nat):(pgB ctx).fz k=false:=rfl
@[simp] theorem pgB_yl (ctx:Ctx):(pgB ctx).yl=none:=rfl
@[simp] theorem pgB_deep (ctx:Ctx):(pgB ctx).deep=[88,76]:=rfl
@[simp] theorem pgB_pin (ctx:Ctx):(pgB ctx).pin=[]:=rfl
@[simp] theorem pgB_hd (ctx:Ctx) (k:Nat):(pgB ctx).hd k=false:=rfl
@[simp] theorem pgB_ctxB (ctx:Ctx) (k:Nat) (a b:List (Bool×FV)):(pgB ctx).ctxB k a b=none:=rfl
@[simp] theorem pgB_srt (ctx:Ctx) (k n:Nat) (a:List FV):(pgB ctx).srt k n a=none:=rfl
theorem tokB (ctx:Ctx):TOk (pgB ctx):=⟨(tok ctx).tt,(tok ctx).ee,(tok ctx).kk,(tok ctx).zv⟩
theorem ctxB_ok (ctx:Ctx) (hC:CtxOk (pg ctx)) (h86:H86 ctx):CtxOk (pgB ctx) :=
 { c:=hC.c,b:=hC.b,s:=hC.s,l:=fun k d σ args σ' vs h=>inlB_ok ctx hC h86 h,i:=hC.i,t:=hC.t,h:=hC.h }
end Go.Proofs.YtejodhjhddnbeaaDoor.E
