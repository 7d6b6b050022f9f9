/-
  The theorem of the clearing (ShareCleared): what is cleared leaves nobody with anything to pay or to get, each by less payments than there are balances that are not 0, as many as these less the most groups; no clearing that numbers choose has fewer, for any balances. Conditions: none.
-/
import Derived.Test.YtejodhjhddnbeaaDoorZC2
set_option linter.unusedVariables false
set_option linter.unusedSimpArgs false
namespace Go.Proofs.YtejodhjhddnbeaaDoor.E
open Go Go.RowKit
theorem v73 (ctx:Ctx) (hC:CtxOk (pg ctx)) (h32:H32 ctx) (l:List Int) (n:Int) (hl:l.length < 2^44) (ro r1 c:Bool):Valid Tryd.prog 73 [(ro,.sl c 1 (ints l)),(r1,.int .i64 n)] [.fv (.int .i64 (pickF l n))]:=by
 refine valid_of_ev (G:=pg ctx) (tok ctx) hC mixed Tryd.func73 T73 L73 (by simp [Tryd.ntmps73]) ⟨_,rfl,?_⟩
 simp only [Tryd.ntmps73,Tryd.results73,initSt,initEnv]
 refine ev_seq (ev_reg (by simp; rfl) ?_)
 refine ev_seq (ev_seq (ev_reg (by simp; rfl) ?_))
 refine ev_cond rfl (fun hb=>?_) (fun hb=>?_)
 ·have hb:l.length=0:=by simp at hb; simp [hb]
  refine ev_seq (ev_reg (by simp; rfl) ?_)
  refine ev_ret ?_
  simp [pickF,hb]
 ·have hb:l.length≠0:=fun e=>by
   have:l=[]:=List.length_eq_zero_iff.1 e
   simp [this] at hb
  have hr:=modI_emod (n:=n) (d:=l.length) (by omega) (by omega)
  have h1:=Int.emod_nonneg n (show (l.length:Int)≠0 by omega)
  have h2:=Int.emod_lt_of_pos n (show (0:Int) < l.length by omega)
  obtain ⟨q,hq⟩:∃ q:Nat,modI n l.length=q:=⟨(modI n l.length).toNat,by omega⟩
  have hql:q < l.length:=by omega
  have e32:∀ r r2,ctx 32 [(r,.int .i64 n),(r2,.int .i64 l.length)]=some [.fv (.int .i64 (q:Int))]:=fun r r2=>by rw [h32 _ _ _ _ (by omega),hq]
  refine ev_skip ?_
  refine ev_seq (ev_reg (by simp [e32,hql]; rfl) ?_)
  refine ev_ret ?_
  have:pickF l n=l[q]:=by unfold pickF; rw [if_neg hb,hq]; simp [List.getD_eq_getElem?_getD,hql]
  simp [this]
def H73 (ctx:Ctx):Prop:=∀ (l:List Int) (n:Int) (ro r1 c:Bool),l.length < 2^44->ctx 73 [(ro,.sl c 1 (ints l)),(r1,.int .i64 n)]=some [.fv (.int .i64 (pickF l n))]
theorem rotL_take {len k:Nat} {r:Int} (h:k < len):(rotL len r).take (k+1)=(rotL len r).take k++[(modI ((k:Int)+modI r len) len).toNat]:=by
 unfold rotL
 rw [<-List.map_take,<-List.map_take,List.take_range,List.take_range,show min (k+1) len=k+1 by omega,show min k len=k by omega,List.range_succ,List.map_append]
 rfl
theorem payF_snoc (l:List Int) (m:List Nat) (q:Nat):payF l (m++[q])=payStep l (payF l m) q:=by
 unfold payF
 rw [List.foldl_append]; rfl
theorem payF_idx (l:List Int) (mem:List Nat) (h:∀ q∈mem,q < 1000000):-1<=(payF l mem).1/\(payF l mem).1 < 1000000/\-1<=(payF l mem).2/\(payF l mem).2 < 1000000:=by
 obtain ⟨k1,k2⟩:=payF_at l mem
 rcases k1 with k1 | ⟨a,ha,e1,_⟩<;>rcases k2 with k2 | ⟨b,hb,e2,_⟩
 ·omega
 ·have:=h b hb; omega
 ·have:=h a ha; omega
 ·have:=h a ha; have:=h b hb; omega
def stC (bits:List Int) (r1 c1:Bool) (s:List Int×List Pay) (e:List (Nat×V)):St:={ env:=[(1,.fv r1 (.sl c1 1 (ints bits))),(5,.own 5 0 s.1.length),(6,.own 6 0 s.2.length)]++e,blk:=[(5,.arr 1 (ints s.1)),(6,.arr 3 (paL s.2))] }
set_option maxHeartbeats 1600000 in
theorem v43 (ctx:Ctx) (hC:CtxOk (pg ctx)) (h32:H32 ctx) (h73:H73 ctx) (bal bits:List Int) (hbal:balances bal=true) (hbl:bits.length < 2^44) (r0 c0 r1 c1:Bool):Valid Tryd.prog 43 [(r0,.sl c0 1 (ints bal)),(r1,.sl c1 1 (ints bits))] [.us 3 (paL (chosenF bal bits))]:=by
 obtain ⟨b1,b2,b3⟩:=bal_facts hbal
 refine valid_of_ev (G:=pg ctx) (tok ctx) hC mixed Tryd.func43 T43 L43 (by simp [Tryd.ntmps43]) ⟨_,rfl,?_⟩
 simp only [Tryd.ntmps43,Tryd.results43,initSt,initEnv]
 have hbd8:bal.length*8<=140737488355328:=by omega
 refine ev_seq (ev_reg (by simp; rfl) ?_)
 refine ev_seq (ev_reg (by simp [hbd8]; rfl) ?_)
 refine ev_seq (ev_reg (by simp; rfl) ?_)
 refine ev_seq (ev_seq (ev_reg (by simp; rfl) ?_))
 refine ev_block ?_
 refine ev_loop (fun x:Nat×List Int×List Pay=>(stC bits r1 c1 x.2 [(7,.fv false (.int .i64 x.1))]:St)) (fun x=>20-x.1) (fun x=>x.1<=20/\x.2.1.length=bal.length/\x.2.2.length=x.1/\(∀ i,-1000000<=x.2.1.getD i 0/\x.2.1.getD i 0<=1000000)/\chF bits (20-x.1) x.1 x.2=chosenF bal bits) (0,bal,[]) (by simp [stC,paL]) ⟨by omega,rfl,rfl,fun i=>bal_at b2 i,rfl⟩ (by simp [R]) (fun x hx=>?_)
 obtain ⟨n,l,out⟩:=x
 obtain ⟨hn,hll,hol,hlb,hch⟩:=hx
 simp only at hn hll hol hlb hch
 simp only [stC]
 have hl10:l.length<=10:=by omega
 refine ev_seq (ev_seq (ev_reg (by simp; rfl) ?_))
 refine ev_cond rfl (fun hb=>?_) (fun hb=>?_)
 ·have hb:n < 20:=by simp at hb; omega
  refine ev_skip ?_
  refine ev_seq (ev_block ?_)
  refine ev_seq (ev_reg (by simp; rfl) ?_)
  obtain ⟨mem,hmem⟩:∃ mem,rotL l.length (pickF bits n)=mem:=⟨_,rfl⟩
  have hml:mem.length=l.length:=by rw [<-hmem]; simp [rotL]
  obtain ⟨m1,m2⟩:=rotL_mem (len:=l.length) (by omega) (pickF bits n)
  rw [hmem] at m1 m2
  have hf20:20-n=(20-(n+1))+1:=by omega
  rw [hf20] at hch
  simp only [chF,hmem] at hch
  refine ev_mid (stC bits r1 c1 (l,out) [(7,.fv false (.int .i64 n)),(8,.fv false (.int .i64 (payF l mem).1)),(9,.fv false (.int .i64 (payF l mem).2)),(10,.fv false (.int .i64 l.length)),(23,.fv false (.bool false))]) ?_ ?_
  ·refine ev_seq (ev_reg (by simp; rfl) ?_)
   refine ev_block ?_
   refine ev_loop (fun k:Nat=>(stC bits r1 c1 (l,out) [(7,.fv false (.int .i64 n)),(8,.fv false (.int .i64 (payF l (mem.take k)).1)),(9,.fv false (.int .i64 (payF l (mem.take k)).2)),(10,.fv false (.int .i64 k))]:St)) (fun k=>l.length-k) (fun k=>k<=l.length) 0 (by simp [stC,payF]) (by simp) (by simp [R]; omega) (fun k hk=>?_)
   simp only [stC]
   refine ev_seq (ev_seq (ev_reg (by simp; rfl) ?_))
   refine ev_cond rfl (fun hb2=>?_) (fun hb2=>?_)
   ·have hb2:k < l.length:=by simp at hb2; omega
    have htk:mem.take (k+1)=mem.take k++[(modI ((k:Int)+modI (pickF bits n) l.length) l.length).toNat]:=by rw [<-hmem]; exact rotL_take hb2
    have hne:(l.length:Int)≠0:=by omega
    have hr:=modI_emod (n:=pickF bits n) (d:=l.length) (by omega) (by omega)
    have h1:=Int.emod_nonneg (pickF bits n) hne
    have h2:=Int.emod_lt_of_pos (pickF bits n) (show (0:Int) < l.length by omega)
    have e73:∀ r r2 c,ctx 73 [(r,.sl c 1 (ints bits)),(r2,.int .i64 n)]=some [.fv (.int .i64 (pickF bits n))]:=fun r r2 c=>h73 _ _ _ _ _ hbl
    have e32:∀ r r2,ctx 32 [(r,.int .i64 (pickF bits n)),(r2,.int .i64 l.length)]=some [.fv (.int .i64 (modI (pickF bits n) l.length))]:=fun r r2=>h32 _ _ _ _ hne
    have hw:IntKind.i64.wrap ((k:Int)+modI (pickF bits n) l.length)=(k:Int)+modI (pickF bits n) l.length:=wrap_id (by omega) (by omega)
    have hr2:=modI_emod (n:=(k:Int)+modI (pickF bits n) l.length) (d:=l.length) (by omega) (by omega)
    have h3:=Int.emod_nonneg ((k:Int)+modI (pickF bits n) l.length) hne
    have h4:=Int.emod_lt_of_pos ((k:Int)+modI (pickF bits n) l.length) (show (0:Int) < l.length by omega)
    obtain ⟨q,hq⟩:∃ q:Nat,modI ((k:Int)+modI (pickF bits n) l.length) l.length=q:=⟨(modI ((k:Int)+modI (pickF bits n) l.length) l.length).toNat,by omega⟩
    have hql:q < l.length:=by omega
    have e32b:∀ r r2,ctx 32 [(r,.int .i64 ((k:Int)+modI (pickF bits n) l.length)),(r2,.int .i64 l.length)]=some [.fv (.int .i64 (q:Int))]:=fun r r2=>by rw [h32 _ _ _ _ hne,hq]
    rw [hq,Int.toNat_natCast] at htk
    have hps:=payF_snoc l (mem.take k) q
    rw [<-htk] at hps
    have hidx:=payF_idx l (mem.take k) fun q hq=>by have:=m1 q (List.mem_of_mem_take hq); omega
    have hgq:l.getD q 0=l[q]:=by simp [List.getD_eq_getElem?_getD,hql]
    have hwk:IntKind.i64.wrap ((k:Int)+1)=((k+1:Nat):Int):=wrap_nat (n:=k+1) (by omega)
    generalize payF l (mem.take k)=s at hps hidx
    obtain ⟨fr,to⟩:=s
    simp only at hidx
    unfold payStep at hps
    rw [hgq] at hps
    refine ev_skip ?_
    refine ev_seq (ev_block ?_)
    refine ev_seq (ev_reg (by simp [e73,e32,hw,e32b]; rfl) ?_)
    by_cases ha:l[q] < 0/\fr < 0
    ·rw [if_pos ha] at hps
     have hn2:¬ 0 < l[q]:=by omega
     refine ev_seq (ev_seq (ev_reg (by simp [hql,ha.1,ha.2]; rfl) ?_))
     refine ev_cond rfl (fun hb3=>?_) (fun hb3=>?_)
     ·refine ev_reg (by simp; rfl) ?_
      refine ev_seq (ev_reg (by simp [hql,hn2,unsetS]; rfl) ?_)
      refine ev_cond rfl (fun hb4=>?_) (fun hb4=>?_)
      ·simp at hb4
      ·refine ev_skip ?_
       refine ev_reg (by simp; rfl) ?_
       refine ⟨k+1,?_,by omega,by omega⟩
       simp [hps]
       exact hwk
     ·simp at hb3
    ·rw [if_neg ha] at hps
     have hst:(decide (l[q] < 0)&&decide (fr < 0))=false:=by
      by_cases h1:l[q] < 0<;>simp [h1]
      exact Int.not_lt.1 fun h2=>ha ⟨h1,h2⟩
     refine ev_seq (ev_seq (ev_reg (σ':={ env:=[(1,.fv r1 (.sl c1 1 (ints bits))),(5,.own 5 0 l.length),(6,.own 6 0 out.length),(7,.fv false (.int .i64 n)),(8,.fv false (.int .i64 fr)),(9,.fv false (.int .i64 to)),(10,.fv false (.int .i64 k)),(11,.fv false (.int .i64 (q:Int))),(45,.fv false (.bool false))],blk:=[(5,.arr 1 (ints l)),(6,.arr 3 (paL out))] }) (by
      by_cases h1:l[q] < 0
      ·have h2:¬ fr < 0:=fun h2=>ha ⟨h1,h2⟩
       simp [hql,h1,h2]
      ·simp [hql,h1,unsetS]) ?_))
     refine ev_cond rfl (fun hb3=>?_) (fun hb3=>?_)
     ·simp at hb3
     refine ev_skip ?_
     by_cases hb':0 < l[q]/\to < 0
     ·rw [if_pos hb'] at hps
      refine ev_seq (ev_reg (by simp [hql,hb'.1,hb'.2]; rfl) ?_)
      refine ev_cond rfl (fun hb4=>?_) (fun hb4=>?_)
      ·refine ev_reg (by simp; rfl) ?_
       refine ev_reg (by simp; rfl) ?_
       refine ⟨k+1,?_,by omega,by omega⟩
       simp [hps]
       exact hwk
      ·simp at hb4
     ·rw [if_neg hb'] at hps
      refine ev_seq (ev_reg (σ':={ env:=[(1,.fv r1 (.sl c1 1 (ints bits))),(5,.own 5 0 l.length),(6,.own 6 0 out.length),(7,.fv false (.int .i64 n)),(8,.fv false (.int .i64 fr)),(9,.fv false (.int .i64 to)),(10,.fv false (.int .i64 k)),(11,.fv false (.int .i64 (q:Int))),(55,.fv false (.bool false))],blk:=[(5,.arr 1 (ints l)),(6,.arr 3 (paL out))] }) (by
       by_cases h1:0 < l[q]
       ·have h2:¬ to < 0:=fun h2=>hb' ⟨h1,h2⟩
        simp [hql,h1,h2]
       ·simp [hql,h1,unsetS]) ?_)
      refine ev_cond rfl (fun hb4=>?_) (fun hb4=>?_)
      ·simp at hb4
      ·refine ev_skip ?_
       refine ev_reg (by simp; rfl) ?_
       refine ⟨k+1,?_,by omega,by omega⟩
       simp [hps]
       exact hwk
   ·have hb2:k=l.length:=by simp at hb2; omega
    subst hb2
    rw [List.take_of_length_le (by omega)]
    refine ev_exit ?_
    exact ⟨rfl,by simp⟩
  ·simp only [stC]
   have hidx:=payF_idx l mem fun q hq=>by have:=m1 q hq; omega
   by_cases hneg:(payF l mem).1 < 0\/(payF l mem).2 < 0
   ·rw [if_pos hneg] at hch
    have hret:(decide ((payF l mem).1 < 0)||decide ((payF l mem).2 < 0))=true:=by simpa using hneg
    refine ev_seq (ev_seq (ev_reg (σ':={ env:=[(1,.fv r1 (.sl c1 1 (ints bits))),(5,.own 5 0 l.length),(6,.own 6 0 out.length),(7,.fv false (.int .i64 n)),(8,.fv false (.int .i64 (payF l mem).1)),(9,.fv false (.int .i64 (payF l mem).2)),(62,.fv false (.bool true))],blk:=[(5,.arr 1 (ints l)),(6,.arr 3 (paL out))] }) (by
     by_cases h1:(payF l mem).1 < 0
     ·simp [h1,unsetS]
     ·have h2:=hneg.resolve_left h1
      simp [h1,h2]) ?_))
    refine ev_cond rfl (fun hb3=>?_) (fun hb3=>?_)
    ·refine ev_seq (ev_reg (by simp; rfl) ?_)
     refine ev_ret ?_
     rw [<-hch]
     simp
    ·simp at hb3
   ·rw [if_neg hneg] at hch
    obtain ⟨a,b,hp⟩:=payF_some (l:=l) (mem:=mem) (by omega) (by omega)
    have hok:PayOk l a b:=⟨m1 a hp.ha,m1 b hp.hb,hp.na,hp.nb⟩
    have ha:=hok.ha
    have hb':=hok.hb
    have hab:=hok.ne
    rw [hp.ea,hp.eb] at hch ⊢
    simp only [Int.toNat_natCast] at hch
    have hga:l.getD a 0=l[a]:=by simp [List.getD_eq_getElem?_getD,ha]
    have hgb:l.getD b 0=l[b]:=by simp [List.getD_eq_getElem?_getD,hb']
    have va:=hlb a
    have vb:=hlb b
    have na:=hok.na
    have nb:=hok.nb
    have hpl:=payL_get hok
    obtain ⟨d0,d1,d2,d3⟩:=payN_facts hok
    have hdN:(if l[b] < -l[a] then l[b] else -l[a])=payN l a b:=by unfold payN; rw [hga,hgb]; split<;>omega
    have hpL:payL l a b=(l.set a (l[a]+payN l a b)).set b (l[b]-payN l a b):=by unfold payL; rw [hga,hgb]
    rw [hga] at va na d1
    rw [hgb] at vb nb d2
    have w1:IntKind.i64.wrap (-l[a])=-l[a]:=wrap_id (by omega) (by omega)
    have w2:IntKind.i64.wrap (l[a]+payN l a b)=l[a]+payN l a b:=wrap_id (by omega) (by omega)
    have w3:IntKind.i64.wrap (l[b]-payN l a b)=l[b]-payN l a b:=wrap_id (by omega) (by omega)
    have hlb':∀ i,-1000000<=(payL l a b).getD i 0/\(payL l a b).getD i 0<=1000000:=fun i=>by
     rw [hpl]
     have:=hlb i
     by_cases e1:i=a
     ·subst e1; rw [if_pos rfl,if_neg hab]; rw [hga] at this ⊢; omega
     ·rw [if_neg e1]
      by_cases e2:i=b
      ·subst e2; rw [if_pos rfl]; rw [hgb] at this ⊢; omega
      ·rw [if_neg e2]; omega
    have hnl1:¬ ((a:Int) < 0):=by omega
    have hnl2:¬ ((b:Int) < 0):=by omega
    have hbd:(n+1)*24<=140737488355328:=by omega
    have hba:b≠a:=fun e=>hab e.symm
    have hwn:IntKind.i64.wrap ((n:Int)+1)=((n+1:Nat):Int):=wrap_nat (n:=n+1) (by omega)
    refine ev_seq (ev_seq (ev_reg (by simp [hnl1,hnl2]; rfl) ?_))
    refine ev_cond rfl (fun hb3=>?_) (fun hb3=>?_)
    ·simp at hb3
    refine ev_skip ?_
    refine ev_seq (ev_drw rfl (by kernel_rfl) (by kernel_rfl) (by simp [ha,hb',w1,hdN]; rfl) ?_)
    generalize hD:payN l a b=D at *
    refine ev_seq (ev_reg (by simp [ha,w2]; rfl) ?_)
    refine ev_seq (ev_reg (by simp [hb',hab,hba,w3]; rfl) ?_)
    refine ev_reg (by simp [hol,hbd]; rfl) ?_
    refine ev_reg (by simp; rfl) ?_
    refine ⟨(n+1,payL l a b,out++[⟨a,b,D⟩]),?_,⟨by simp only; omega,by simp only [payL_length]; exact hll,by simp [hol],by simpa using hlb',?_⟩,by simp only; omega⟩
    ·rw [hpL]
     simp [hol,paL,paF]
     exact hwn
    ·exact hch
 ·have hb:n=20:=by simp at hb; omega
  subst hb
  refine ev_exit ?_
  refine ev_seq (ev_reg (by simp; rfl) ?_)
  refine ev_ret ?_
  have:chosenF bal bits=out:=by rw [<-hch]; rfl
  simp [this]
def H43 (ctx:Ctx):Prop:=∀ (bal bits:List Int) (r0 c0 r1 c1:Bool),balances bal=true->bits.length < 2^44->ctx 43 [(r0,.sl c0 1 (ints bal)),(r1,.sl c1 1 (ints bits))]=some [.us 3 (paL (chosenF bal bits))]
theorem cntZ_take (l:List Int) (i:Nat) (h:i < l.length):cntZ (l.take (i+1))=cntZ (l.take i)+(if l[i]=0 then 0 else 1):=by
 unfold cntZ
 rw [List.take_add_one,List.getElem?_eq_getElem h,Option.toList_some,List.countP_append]
 by_cases e:l[i]=0<;>simp [e]
set_option maxHeartbeats 1600000 in
theorem v12 (ctx:Ctx) (hC:CtxOk (pg ctx)) (h18:H18 ctx) (h37:H37 ctx) (h38:H38 ctx) (h41:H41 ctx) (h42:H42 ctx) (h43:H43 ctx) (l bits:List Int) (hl:l.length < 2^44) (hbl:bits.length < 2^44) (r0 r1 c0 c1:Bool):Valid Tryd.prog 12 [(r0,.sl c0 1 (ints l)),(r1,.sl c1 1 (ints bits))] [.fv (.bool true)]:=by
 refine valid_of_ev (G:=pg ctx) (tok ctx) hC mixed Tryd.func12 T12 L12 (by simp [Tryd.ntmps12]) ⟨_,rfl,?_⟩
 simp only [Tryd.ntmps12,Tryd.results12,initSt,initEnv]
 have e18:ctx 18 []=some [.fv (.bool true)]:=h18
 have e41:∀ r c,ctx 41 [(r,.sl c 1 (ints l))]=some [.us 3 (paL (clearF l).1),.fv (.int .i64 (clearF l).2)]:=fun r c=>h41 l r c hl
 have e37:∀ r c,ctx 37 [(r,.sl c 1 (ints l))]=some [.us 1 (grL (groupsF l).1),.fv (.int .i64 (groupsF l).2)]:=fun r c=>h37 l r c hl
 have e38:∀ r c,ctx 38 [(r,.sl c 1 (ints l))]=some [.fv (.bool (balances l))]:=fun r c=>h38 l r c hl
 refine ev_seq (ev_reg (by simp; rfl) ?_)
 cases hb:balances l with
 | true =>
  obtain ⟨k1,k2,k3⟩:=clear_is hb
  have hch:=chosen_is hb bits
  have hfew:=hch.fewest hb
  have hp10:=k1.len hb
  have ho10:=hch.len hb
  have g2:(groupsF l).2=0:=by unfold groupsF; rw [if_pos hb]
  have y1:=clear_yes hb (by omega) (fun x hx=>by have:=(k1.clear hb).1 x hx; exact ⟨this.f,this.t,this.d,this.s.1,by have:=this.s.2; omega⟩) (fun i _=>(k1.clear hb).2 i)
  have y2:=clear_yes hb (by omega) (fun x hx=>by have:=(hch.clear hb).1 x hx; exact ⟨this.f,this.t,this.d,this.s.1,by have:=this.s.2; omega⟩) (fun i _=>(hch.clear hb).2 i)
  have hl10:=(bal_facts hb).1
  have hcl:=cntZ_le l
  rw [k2] at e41
  rw [g2] at e37
  rw [hb] at e38
  have e43:∀ r c r2 c2,ctx 43 [(r,.sl c 1 (ints l)),(r2,.sl c2 1 (ints bits))]=some [.us 3 (paL (chosenF l bits))]:=fun r c r2 c2=>h43 _ _ _ _ _ _ hb hbl
  generalize hp:(clearF l).1=p at *
  generalize hg:(groupsF l).1=g at *
  generalize hoo:chosenF l bits=o at *
  have e42a:∀ r c r2 c2,ctx 42 [(r,.sl c 1 (ints l)),(r2,.sl c2 3 (paL p))]=some [.fv (.bool true),.fv (.int .i64 0)]:=fun r c r2 c2=>by rw [h42 _ _ _ _ _ _ hl (by omega),y1]
  have e42b:∀ r c r2 c2,ctx 42 [(r,.sl c 1 (ints l)),(r2,.sl c2 3 (paL o))]=some [.fv (.bool true),.fv (.int .i64 0)]:=fun r c r2 c2=>by rw [h42 _ _ _ _ _ _ hl (by omega),y2]
  refine ev_seq (ev_reg (by simp [e41]; rfl) ?_)
  refine ev_seq (ev_reg (by simp [e37]; rfl) ?_)
  refine ev_seq (ev_seq (ev_reg (by simp [e38]; rfl) ?_))
  refine ev_cond rfl (fun hb2=>?_) (fun hb2=>?_)
  ·simp at hb2
  refine ev_skip ?_
  refine ev_seq (ev_reg (by simp [e42a]; rfl) ?_)
  refine ev_seq (ev_reg (by simp [e43]; rfl) ?_)
  refine ev_seq (ev_reg (by simp [e42b]; rfl) ?_)
  refine ev_seq (ev_reg (by simp; rfl) ?_)
  refine ev_seq (ev_seq (ev_reg (by simp; rfl) ?_))
  refine ev_block ?_
  refine ev_loop (fun i:Nat=>({ env:=[(0,.fv r0 (.sl c0 1 (ints l))),(5,.own 5 0 p.length),(6,.fv false (.int .i64 0)),(7,.own 7 0 g.length),(8,.fv false (.int .i64 0)),(9,.fv false (.bool true)),(10,.own 10 0 o.length),(11,.fv false (.bool true)),(12,.fv false (.int .i64 (cntZ (l.take i):Nat))),(13,.fv false (.int .i64 i))],blk:=[(5,.arr 3 (paL p)),(7,.arr 1 (grL g)),(10,.arr 3 (paL o))] }:St)) (fun i=>l.length-i) (fun i=>i<=l.length) 0 (by simp [cntZ]) (by simp) (by simp [R]; omega) (fun i hi=>?_)
  refine ev_seq (ev_seq (ev_reg (by simp; rfl) ?_))
  refine ev_cond rfl (fun hb2=>?_) (fun hb2=>?_)
  ·have hb2:i < l.length:=by simp at hb2; omega
   have hct:=cntZ_take l i hb2
   have hwi:IntKind.i64.wrap ((i:Int)+1)=((i+1:Nat):Int):=wrap_nat (n:=i+1) (by omega)
   have hc2:=cntZ_le (l.take i)
   simp only [List.length_take] at hc2
   refine ev_skip ?_
   refine ev_seq (ev_block ?_)
   by_cases hz:l[i]=0
   ·rw [if_pos hz] at hct
    refine ev_seq (ev_reg (by simp [hb2,hz]; rfl) ?_)
    refine ev_cond rfl (fun hb3=>?_) (fun hb3=>?_)
    ·simp at hb3
    ·refine ev_skip ?_
     refine ev_reg (by simp; rfl) ?_
     refine ⟨i+1,?_,by omega,by omega⟩
     simp [hct]
     exact hwi
   ·rw [if_neg hz] at hct
    have hz2:(l[i]==0)=false:=by simp [hz]
    have hwc:IntKind.i64.wrap ((cntZ (l.take i):Int)+1)=((cntZ (l.take i)+1:Nat):Int):=wrap_nat (n:=cntZ (l.take i)+1) (by omega)
    refine ev_seq (ev_reg (by simp [hb2,hz,hz2]; rfl) ?_)
    refine ev_cond rfl (fun hb3=>?_) (fun hb3=>?_)
    ·refine ev_reg (by simp; rfl) ?_
     refine ev_reg (by simp; rfl) ?_
     refine ⟨i+1,?_,by omega,by omega⟩
     simp [hct]
     exact ⟨hwc,hwi⟩
    ·exact absurd (by simpa using hb3) hz
  ·have hb2:i=l.length:=by simp at hb2; omega
   subst hb2
   rw [List.take_length]
   have hw:IntKind.i64.wrap ((cntZ l:Int)-(g.length:Int))=(p.length:Int):=by rw [wrap_id (by omega) (by omega)]; omega
   have hle:p.length<=o.length:=by omega
   have hle2:(p.length:Int)<=o.length:=by omega
   refine ev_exit ?_
   refine ev_seq (ev_reg (by simp [hw,hle,hle2,e18]; rfl) ?_)
   refine ev_ret ?_
   simp
 | false =>
  have q1:clearF l=([],33):=by unfold clearF; rw [if_neg (by simp [hb])]
  have q2:groupsF l=([],33):=by unfold groupsF; rw [if_neg (by simp [hb])]
  rw [q1] at e41
  rw [q2] at e37
  rw [hb] at e38
  refine ev_seq (ev_reg (by simp [e41]; rfl) ?_)
  refine ev_seq (ev_reg (by simp [e37]; rfl) ?_)
  refine ev_seq (ev_seq (ev_reg (by simp [unsetS]; rfl) ?_))
  refine ev_cond rfl (fun hb2=>?_) (fun hb2=>?_)
  ·refine ev_seq (ev_reg (by simp [e38,e18,paL]; rfl) ?_)
   refine ev_ret ?_
   simp
  ·simp at hb2
end Go.Proofs.YtejodhjhddnbeaaDoor.E
