/-
  The dues (ShareDues): Shares returns what the chapter says, for any voyage. Conditions: none.
-/
import Derived.Test.YtejodhjhddnbeaaDoorZE2
import Derived.Test.YtejodhjhddnbeaaDoorZE3
set_option linter.unusedVariables false
set_option linter.unusedSimpArgs false
namespace Go.Proofs.YtejodhjhddnbeaaDoor.E
open Go Go.RowKit
section
variable {all:Int} {l:List Stk}
theorem bef_irr (all S:Int) (x:Stk):bef all S x x=false:=by
 simp [bef,nlt_irr]
theorem bef_trans {all S:Int} {x y z:Stk} (h:bef all S x y=true) (h':bef all S y z=true):bef all S x z=true:=by
 simp only [bef,Bool.or_eq_true,Bool.and_eq_true,decide_eq_true_eq] at h h' ⊢
 rcases h with h | ⟨h,hn⟩<;>rcases h' with h' | ⟨h',hn'⟩
 ·left; omega
 ·left; omega
 ·left; omega
 ·exact .inr ⟨by omega,nlt_trans hn hn'⟩
theorem bef_total {all S:Int} {x y:Stk} (h:x.1≠y.1):bef all S x y=true\/bef all S y x=true:=by
 simp only [bef,Bool.or_eq_true,Bool.and_eq_true,decide_eq_true_eq]
 rcases Int.lt_trichotomy (rst all S x) (rst all S y) with k | k | k
 ·exact .inr (.inl k)
 ·rcases nlt_total h with h | h
  ·exact .inl (.inr ⟨k.symm,h⟩)
  ·exact .inr (.inr ⟨k,h⟩)
 ·exact .inl (.inl k)
theorem countP_lt2 {α:Type} {p q:α->Bool}:∀ {l:List α} {a:α},(∀ x∈l,p x=true->q x=true)->a∈l->q a=true->p a=false->l.countP p < l.countP q
 | [],a,_,h,_,_=>by simp at h
 | x :: l,a,hs,ha,hq,hp=>by
  rw [List.countP_cons,List.countP_cons]
  have hle:l.countP p<=l.countP q:=List.countP_mono_left fun y hy=>hs y (List.mem_cons_of_mem _ hy)
  rcases List.mem_cons.1 ha with rfl | ha
  ·simp [hq,hp]; omega
  ·have:=countP_lt2 (p:=p) (q:=q) (fun y hy=>hs y (List.mem_cons_of_mem _ hy)) ha hq hp
   have hx:=hs x List.mem_cons_self
   cases hpx:p x with
   | true=>simp [hx hpx]; omega
   | false=>simp; split<;>omega
theorem rnk_lt {x y:Stk} (hx:x∈l) (h:bef all (wts l).sum x y=true):rnk all l x < rnk all l y :=
 countP_lt2 (fun z _ hz=>bef_trans hz h) hx h (bef_irr _ _ _)
theorem rnk_bef (h:DivOk all l) {i j:Nat} (hi:i < l.length) (hj:j < l.length) (hij:i≠j):bef all (wts l).sum l[i] l[j]=decide (rnk all l l[i] < rnk all l l[j]):=by
 have hne:l[i].1≠l[j].1:=fun e=>by
  have hd:=nodupB_iff.1 h.nd
  rw [List.nodup_iff_pairwise_ne,List.pairwise_iff_getElem] at hd
  rcases Nat.lt_or_gt_of_ne hij with k | k
  ·have:=hd i j (by simpa using hi) (by simpa using hj) k
   simp only [List.getElem_map] at this
   exact this e
  ·have:=hd j i (by simpa using hj) (by simpa using hi) k
   simp only [List.getElem_map] at this
   exact this e.symm
 rw [Bool.eq_iff_iff,decide_eq_true_eq]
 constructor
 ·exact rnk_lt (List.getElem_mem hi)
 ·intro hlt
  rcases bef_total (all:=all) (S:=(wts l).sum) hne with k | k
  ·exact k
  ·have:=rnk_lt (all:=all) (List.getElem_mem hj) k
   omega
theorem rnk_inj (h:DivOk all l) {i j:Nat} (hi:i < l.length) (hj:j < l.length) (e:rnk all l l[i]=rnk all l l[j]):i=j:=by
 refine Classical.byContradiction fun hij=>?_
 have h1:=rnk_bef h hi hj hij
 have h2:=rnk_bef h hj hi (fun e=>hij e.symm)
 have hne:l[i].1≠l[j].1:=fun e=>by
  have hd:=nodupB_iff.1 h.nd
  rw [List.nodup_iff_pairwise_ne,List.pairwise_iff_getElem] at hd
  rcases Nat.lt_or_gt_of_ne hij with k | k
  ·have:=hd i j (by simpa using hi) (by simpa using hj) k
   simp only [List.getElem_map] at this
   exact this e
  ·have:=hd j i (by simpa using hj) (by simpa using hi) k
   simp only [List.getElem_map] at this
   exact this e.symm
 rw [e] at h1 h2
 simp at h1 h2
 rcases bef_total (all:=all) (S:=(wts l).sum) hne with k | k
 ·rw [h1] at k; cases k
 ·rw [h2] at k; cases k
theorem rnk_bound {x:Stk} (hx:x∈l):rnk all l x < l.length:=by
 have:rnk all l x < l.countP fun _=>true:=countP_lt2 (fun _ _ _=>rfl) hx rfl (bef_irr _ _ _)
 simpa using this
theorem rnk_onto (h:DivOk all l) {k:Nat} (hk:k < l.length):∃ (i:Nat) (hi:i < l.length),rnk all l l[i]=k:=by
 refine Classical.byContradiction fun hx=>?_
 have hnd:(k :: l.map (rnk all l)).Nodup:=by
  rw [List.nodup_cons]
  constructor
  ·intro hm
   obtain ⟨x,hxm,e⟩:=List.mem_map.1 hm
   obtain ⟨i,hi,rfl⟩:=List.mem_iff_getElem.1 hxm
   exact hx ⟨i,hi,e⟩
  ·rw [List.nodup_iff_pairwise_ne,List.pairwise_map,List.pairwise_iff_getElem]
   intro i j hi hj hij e
   have:=rnk_inj h hi hj e
   omega
 have:=nodup_len l.length _ hnd fun x hxm=>by
  rcases List.mem_cons.1 hxm with rfl | hxm
  ·exact hk
  ·obtain ⟨y,hy,rfl⟩:=List.mem_map.1 hxm
   exact rnk_bound hy
 simp at this
 omega
def outR (all:Int) (l:List Stk) (k:Nat):List Int:=l.map fun x=>all*x.2 / (wts l).sum+(if rnk all l x < k then 1 else 0)
def rstR (all:Int) (l:List Stk) (k:Nat):List Int:=l.map fun x=>if rnk all l x < k then -1 else rst all (wts l).sum x
theorem outR_left (h:DivOk all l):outR all l (leftF all l)=divF all l:=by
 refine List.ext_getElem (by simp [outR,divF_length]) fun i h1 h2=>?_
 have hi:i < l.length:=by simpa [outR] using h1
 have:=div_rank h hi
 have e:(divF all l).getD i 0=(divF all l)[i]:=by simp [List.getD_eq_getElem?_getD,h2]
 rw [<-e,this]
 simp [outR]
theorem outR_step (h:DivOk all l) {k i:Nat} (hi:i < l.length) (hr:rnk all l l[i]=k):outR all l (k+1)=(outR all l k).set i ((outR all l k)[i]'(by simpa [outR] using hi)+1)/\rstR all l (k+1)=(rstR all l k).set i (-1):=by
 have hne:∀ j (hj:j < l.length),i≠j->(rnk all l l[j] < k+1↔rnk all l l[j] < k):=fun j hj hij=>by
  have:rnk all l l[j]≠k:=fun e=>hij (rnk_inj h hi hj (hr.trans e.symm))
  omega
 constructor
 ·refine List.ext_getElem (by simp [outR]) fun j h1 h2=>?_
  have hj:j < l.length:=by simpa [outR] using h1
  rw [List.getElem_set]
  by_cases e:i=j
  ·subst e
   simp [outR,hr]
  ·rw [if_neg e]
   simp [outR,hne j hj e]
 ·refine List.ext_getElem (by simp [rstR]) fun j h1 h2=>?_
  have hj:j < l.length:=by simpa [rstR] using h1
  rw [List.getElem_set]
  by_cases e:i=j
  ·subst e
   simp [rstR,hr]
  ·rw [if_neg e]
   simp [rstR,hne j hj e]
structure BestI (all:Int) (l:List Stk) (k i:Nat) (b:Int):Prop where
 none:b=-1->∀ j (hj:j < l.length),j < i->rnk all l l[j] < k
 some:b≠-1->∃ (j:Nat) (hj:j < l.length),b=j/\j < i/\k<=rnk all l l[j]/\∀ q (hq:q < l.length),q < i->k<=rnk all l l[q]->rnk all l l[j]<=rnk all l l[q]
theorem best_start (k:Nat):BestI all l k 0 (-1):=⟨fun _ j _ h=>by omega,fun h=>absurd rfl h⟩
theorem best_skip {k i:Nat} {b:Int} (h:BestI all l k i b) (hi:i < l.length) (hr:rnk all l l[i] < k):BestI all l k (i+1) b:=by
 refine ⟨fun e j hj hji=>?_,fun e=>?_⟩
 ·by_cases hj':j < i
  ·exact h.none e j hj hj'
  ·have:j=i:=by omega
   subst this
   exact hr
 ·obtain ⟨j,hj,h1,h2,h3,h4⟩:=h.some e
  refine ⟨j,hj,h1,by omega,h3,fun q hq hqi hk=>?_⟩
  by_cases hq':q < i
  ·exact h4 q hq hq' hk
  ·have:q=i:=by omega
   subst this
   omega
theorem best_first {k i:Nat} (h:BestI all l k i (-1)) (hi:i < l.length) (hr:k<=rnk all l l[i]):BestI all l k (i+1) i:=by
 refine ⟨fun e=>by omega,fun e=>⟨i,hi,rfl,by omega,hr,fun q hq hqi hk=>?_⟩⟩
 by_cases hq':q < i
 ·have:=h.none rfl q hq hq'
  omega
 ·have:q=i:=by omega
  subst this
  omega
theorem best_better {k i j:Nat} (h:BestI all l k i j) (hi:i < l.length) (hj:j < l.length) (hr:k<=rnk all l l[i]) (hb:rnk all l l[i] < rnk all l l[j]):BestI all l k (i+1) i:=by
 obtain ⟨j',hj',h1,h2,h3,h4⟩:=h.some (by omega)
 have:j'=j:=by omega
 subst this
 refine ⟨fun e=>by omega,fun e=>⟨i,hi,rfl,by omega,hr,fun q hq hqi hk=>?_⟩⟩
 by_cases hq':q < i
 ·have:=h4 q hq hq' hk
  omega
 ·have:q=i:=by omega
  subst this
  omega
theorem best_same {k i j:Nat} (h:BestI all l k i j) (hi:i < l.length) (hj:j < l.length) (hb:¬ rnk all l l[i] < rnk all l l[j]):BestI all l k (i+1) j:=by
 obtain ⟨j',hj',h1,h2,h3,h4⟩:=h.some (by omega)
 have:j'=j:=by omega
 subst this
 refine ⟨fun e=>by omega,fun e=>⟨j',hj',h1,by omega,h3,fun q hq hqi hk=>?_⟩⟩
 by_cases hq':q < i
 ·exact h4 q hq hq' hk
 ·have:q=i:=by omega
  subst this
  omega
theorem best_end (h:DivOk all l) {k:Nat} {b:Int} (hk:k < l.length) (hb:BestI all l k l.length b):∃ (j:Nat) (hj:j < l.length),b=j/\rnk all l l[j]=k:=by
 obtain ⟨q,hq,e⟩:=rnk_onto h hk
 by_cases hn:b=-1
 ·have:=hb.none hn q hq hq
  omega
 ·obtain ⟨j,hj,h1,h2,h3,h4⟩:=hb.some hn
  have:=h4 q hq hq (by omega)
  exact ⟨j,hj,h1,by omega⟩
theorem best_ask (h:DivOk all l) {i j:Nat} (hi:i < l.length) (hj:j < l.length) (hij:i≠j):(rnk all l l[i] < rnk all l l[j])↔(rst all (wts l).sum l[j] < rst all (wts l).sum l[i]\/(rst all (wts l).sum l[i]=rst all (wts l).sum l[j]/\nlt l[i].1 l[j].1)):=by
 have:=rnk_bef h hi hj hij
 rw [Bool.eq_iff_iff,decide_eq_true_eq] at this
 rw [<-this]
 simp only [bef,Bool.or_eq_true,Bool.and_eq_true,decide_eq_true_eq]
 constructor
 ·rintro (k | ⟨k,k'⟩)
  ·exact .inl k
  ·exact .inr ⟨k.symm,k'⟩
 ·rintro (k | ⟨k,k'⟩)
  ·exact .inl k
  ·exact .inr ⟨k.symm,k'⟩
theorem outR_zero:outR all l 0=gets all l:=by
 simp [outR,gets]
theorem rstR_zero:rstR all l 0=l.map (rst all (wts l).sum):=by
 simp [rstR]
end
def strs (l:List ByteArray):List FV:=l.map .str
@[simp] theorem strs_length (l:List ByteArray):(strs l).length=l.length:=by simp [strs]
@[simp] theorem strs_get? (l:List ByteArray) (i:Nat):(strs l)[i]? = (l[i]?).map .str:=by simp [strs]
@[simp] theorem strs_get (l:List ByteArray) (i:Nat) (h:i < (strs l).length):(strs l)[i] = .str (l[i]'(by simpa using h)):=by simp [strs]
theorem wtsI_take (l:List Stk) (i:Nat) (h:i < l.length):sumI (wts (l.take (i+1)))=IntKind.i64.wrap (sumI (wts (l.take i))+l[i].2):=by
 rw [wts_take l i h]
 simp [sumI,List.foldl_append]
theorem v52 (ctx:Ctx) (hC:CtxOk (pg ctx)) (l:List Stk) (ro c:Bool) (hl:l.length < 2^44):Valid Tryd.prog 52 [(ro,.sl c 2 (stL l))] [.fv (.int .i64 (sumI (wts l)))]:=by
 refine valid_of_ev (G:=pg ctx) (tok ctx) hC mixed Tryd.func52 T52 L52 (by simp [Tryd.ntmps52]) ⟨_,rfl,?_⟩
 simp only [Tryd.ntmps52,Tryd.results52,initSt,initEnv]
 refine ev_seq (ev_reg (by simp; rfl) ?_)
 refine ev_seq (ev_reg (by simp; rfl) ?_)
 refine ev_seq (ev_seq (ev_reg (by simp; rfl) ?_))
 refine ev_block ?_
 refine ev_loop (fun i:Nat=>({ env:=[(0,V.fv ro (FV.sl c 2 (stL l))),(3,V.fv false (FV.int .i64 (sumI (wts (l.take i))))),(4,V.fv false (FV.int .i64 i))],blk:=[] }:St)) (fun i=>l.length-i) (fun i=>i<=l.length) 0 rfl (by simp) (by simp [R]; omega) (fun i hi=>?_)
 refine ev_seq (ev_seq (ev_reg (by simp; rfl) ?_))
 refine ev_cond rfl (fun hb=>?_) (fun hb=>?_)
 ·simp at hb
  refine ev_skip ?_
  refine ev_seq (ev_block ?_)
  refine ev_reg (by simp [hb]; rfl) ?_
  refine ev_reg (by simp; rfl) ?_
  refine ⟨i+1,?_,by omega,by omega⟩
  simp [wtsI_take l i hb]
  exact wrap_nat (n:=i+1) (by omega)
 ·simp at hb
  refine ev_exit ?_
  refine ev_seq (ev_reg (by simp; rfl) ?_)
  refine ev_ret ?_
  simp [List.take_of_length_le hb]
def H52 (ctx:Ctx):Prop:=∀ (l:List Stk) (ro c:Bool),l.length < 2^44->ctx 52 [(ro,.sl c 2 (stL l))]=some [.fv (.int .i64 (sumI (wts l)))]
theorem v78 (ctx:Ctx) (hC:CtxOk (pg ctx)) (h29:H29 ctx) (s:ByteArray) (ro:Bool):Valid Tryd.prog 78 [(ro,.str s)] [.fv (.bool (nameOk s))]:=by
 refine valid_of_ev (G:=pg ctx) (tok ctx) hC mixed Tryd.func78 T78 L78 (by simp [Tryd.ntmps78]) ⟨_,rfl,?_⟩
 simp only [Tryd.ntmps78,Tryd.results78,initSt,initEnv]
 refine ev_seq (ev_reg (by simp; rfl) ?_)
 have e29:ctx 29 [(false,.int .i64 s.size),(false,.int .i64 1),(false,.int .i64 16)]=some [.fv (.bool (decide (1<=s.size)&&decide (s.size<=16)))]:=by
  rw [h29]
  congr 4
  rw [Bool.eq_iff_iff]
  simp only [Bool.and_eq_true,decide_eq_true_eq]
  omega
 cases hz:decide (1<=s.size)&&decide (s.size<=16) with
 | false =>
  rw [hz] at e29
  refine ev_seq (ev_seq (ev_reg (by simp [e29,unsetS]; rfl) ?_))
  refine ev_cond rfl (fun hb=>?_) (fun hb=>?_)
  ·refine ev_seq (ev_reg (by simp; rfl) ?_)
   refine ev_ret ?_
   simp [nameOk,hz]
  ·simp at hb
 | true =>
  rw [hz] at e29
  have h1:1<=s.size:=by simp at hz; exact hz.1
  have h16:s.size<=16:=by simp at hz; exact hz.2
  have h0:=first_byte h1
  have hfst:decide ((fstB s).toNat < 97)=decide (fstB s < 97):=by rw [decide_eq_decide,UInt8.lt_iff_toNat_lt]; rfl
  refine ev_seq (ev_seq (ev_reg (by simp [e29,h0]; rfl) ?_))
  refine ev_cond rfl (fun hb=>?_) (fun hb=>?_)
  ·refine ev_seq (ev_reg (by simp; rfl) ?_)
   refine ev_ret ?_
   have hb':fstB s < 97:=by
    rw [UInt8.lt_iff_toNat_lt]
    simp at hb
    have:(97:UInt8).toNat=97:=rfl
    omega
   have hno:nameOk s=false:=by unfold nameOk; rw [hz,decide_eq_true hb']; rfl
   simp [hno]
  ·have hb':¬ fstB s < 97:=by
    rw [UInt8.lt_iff_toNat_lt]
    simp at hb
    have:(97:UInt8).toNat=97:=rfl
    omega
   refine ev_skip ?_
   refine ev_seq (ev_seq (ev_reg (by simp; rfl) ?_))
   refine ev_block ?_
   refine ev_loop (fun i:Nat=>({ env:=[(0,V.fv ro (.str s)),(3,V.fv false (FV.int .i64 i))],blk:=[] }:St)) (fun i=>s.size-i) (fun i=>i<=s.size/\∀ b∈(bys s).take i,okc b.toNat=true) 0 rfl (by simp) (by simp [R]; omega) (fun i hi=>?_)
   obtain ⟨hi,hn⟩:=hi
   refine ev_seq (ev_seq (ev_reg (by simp; rfl) ?_))
   refine ev_cond rfl (fun hb2=>?_) (fun hb2=>?_)
   ·simp at hb2
    have hbl:i < (bys s).length:=by simpa using hb2
    refine ev_skip ?_
    refine ev_seq (ev_block ?_)
    refine ev_seq (ev_reg (by simp [hb2]; rfl) ?_)
    have hc0:(bys s)[i].toNat < 256:=by have:=(bys s)[i].toNat_lt; omega
    have hokc:okc (bys s)[i].toNat=((decide (97<=((bys s)[i].toNat:Int))&&decide (((bys s)[i].toNat:Int)<=122))||(decide (48<=((bys s)[i].toNat:Int))&&decide (((bys s)[i].toNat:Int)<=57))||((bys s)[i].toNat:Int)==45):=rfl
    have hk:=take_allT (p:=fun b:UInt8=>okc b.toNat) hbl hn
    have hbad:okc (bys s)[i].toNat=false->nameOk s=false:=fun hbad=>by
     have:(bys s).all (fun b=>okc b.toNat)=false:=by
      rw [List.all_eq_false]
      exact ⟨_,List.getElem_mem hbl,by simp [hbad]⟩
     unfold nameOk; rw [this]; simp
    have hsi:(bys s)[i]=s[i]:=rfl
    rw [hsi] at hokc hk hbad hc0
    generalize s[i].toNat=n at hokc hk hbad hc0 ⊢
    rcases (show (97<=n/\n<=122)\/(48<=n/\n<=57)\/n=45\/122 < n\/(57 < n/\n < 97)\/(n < 48/\n≠45) by omega) with h | h | h | h | h | h
    ·have a1:97<=(n:Int):=by omega
     have a2:(n:Int)<=122:=by omega
     have a3:97<=n:=by omega
     have a4:n<=122:=by omega
     rw [decide_eq_true a1,decide_eq_true a2] at hokc
     simp only [Bool.and_self,Bool.true_or] at hokc
     refine ev_seq (ev_reg (by simp [a1,a2,a3,a4,unsetS]; rfl) ?_)
     refine ev_cond rfl (fun hb3=>?_) (fun hb3=>?_)
     ·simp at hb3
     ·refine ev_skip ?_
      refine ev_reg (by simp; rfl) ?_
      refine ⟨i+1,?_,⟨by omega,hk hokc⟩,by omega⟩
      simp
      exact wrap_nat (n:=i+1) (by omega)
    ·have a1:¬ 97<=(n:Int):=by omega
     have a2:48<=(n:Int):=by omega
     have a3:(n:Int)<=57:=by omega
     have a4:¬ 97<=n:=by omega
     have a5:48<=n:=by omega
     have a6:n<=57:=by omega
     rw [decide_eq_true a2,decide_eq_true a3] at hokc
     simp only [Bool.and_self,Bool.true_or,Bool.or_true] at hokc
     refine ev_seq (ev_reg (by simp [a1,a2,a3,a4,a5,a6,unsetS]; rfl) ?_)
     refine ev_cond rfl (fun hb3=>?_) (fun hb3=>?_)
     ·simp at hb3
     ·refine ev_skip ?_
      refine ev_reg (by simp; rfl) ?_
      refine ⟨i+1,?_,⟨by omega,hk hokc⟩,by omega⟩
      simp
      exact wrap_nat (n:=i+1) (by omega)
    ·subst h
     refine ev_seq (ev_reg (by simp [unsetS]; rfl) ?_)
     refine ev_cond rfl (fun hb3=>?_) (fun hb3=>?_)
     ·simp at hb3
     ·refine ev_skip ?_
      refine ev_reg (by simp; rfl) ?_
      refine ⟨i+1,?_,⟨by omega,hk (by rw [hokc]; rfl)⟩,by omega⟩
      simp
      exact wrap_nat (n:=i+1) (by omega)
    ·have a1:97<=(n:Int):=by omega
     have a2:¬ (n:Int)<=122:=by omega
     have a3:48<=(n:Int):=by omega
     have a4:¬ (n:Int)<=57:=by omega
     have a5:¬ (n:Int)=45:=by omega
     have b1:97<=n:=by omega
     have b2:¬ n<=122:=by omega
     have b3:48<=n:=by omega
     have b4:¬ n<=57:=by omega
     have b5:¬ n=45:=by omega
     have hf:okc n=false:=by rw [hokc]; simp [a1,a2,a3,a4,a5,b1,b2,b3,b4,b5]
     refine ev_seq (ev_reg (by simp [a1,a2,a3,a4,a5,b1,b2,b3,b4,b5,unsetS]; rfl) ?_)
     refine ev_cond rfl (fun hb3=>?_) (fun hb3=>?_)
     ·refine ev_seq (ev_reg (by simp; rfl) ?_)
      refine ev_ret ?_
      simp [hbad hf]
     ·simp at hb3; omega
    ·have a1:¬ 97<=(n:Int):=by omega
     have a3:48<=(n:Int):=by omega
     have a4:¬ (n:Int)<=57:=by omega
     have a5:¬ (n:Int)=45:=by omega
     have b1:¬ 97<=n:=by omega
     have b3:48<=n:=by omega
     have b4:¬ n<=57:=by omega
     have b5:¬ n=45:=by omega
     have hf:okc n=false:=by rw [hokc]; simp [a1,a3,a4,a5,b1,b3,b4,b5]
     refine ev_seq (ev_reg (by simp [a1,a3,a4,a5,b1,b3,b4,b5,unsetS]; rfl) ?_)
     refine ev_cond rfl (fun hb3=>?_) (fun hb3=>?_)
     ·refine ev_seq (ev_reg (by simp; rfl) ?_)
      refine ev_ret ?_
      simp [hbad hf]
     ·simp at hb3; omega
    ·have a1:¬ 97<=(n:Int):=by omega
     have a3:¬ 48<=(n:Int):=by omega
     have a5:¬ (n:Int)=45:=by omega
     have b1:¬ 97<=n:=by omega
     have b3:¬ 48<=n:=by omega
     have b5:¬ n=45:=by omega
     have hf:okc n=false:=by rw [hokc]; simp [a1,a3,a5,b1,b3,b5]
     refine ev_seq (ev_reg (by simp [a1,a3,a5,b1,b3,b5,unsetS]; rfl) ?_)
     refine ev_cond rfl (fun hb3=>?_) (fun hb3=>?_)
     ·refine ev_seq (ev_reg (by simp; rfl) ?_)
      refine ev_ret ?_
      simp [hbad hf]
     ·simp at hb3; omega
   ·simp at hb2
    refine ev_exit ?_
    refine ev_seq (ev_reg (by simp; rfl) ?_)
    refine ev_ret ?_
    have hall:(bys s).all (fun b=>okc b.toNat)=true:=by
     rw [List.take_of_length_le (by simpa using hb2)] at hn
     simpa using hn
    simp only [nameOk,hz,hb',hall]
    simp
def H78 (ctx:Ctx):Prop:=∀ (s:ByteArray) (ro:Bool),ctx 78 [(ro,.str s)]=some [.fv (.bool (nameOk s))]
theorem v79 (ctx:Ctx) (hC:CtxOk (pg ctx)) (l:List ByteArray) (n:ByteArray) (hl:l.length < 2^44) (ro r1 c:Bool):Valid Tryd.prog 79 [(ro,.sl c 1 (strs l)),(r1,.str n)] [.fv (.int .i64 (idx (fun x:ByteArray=>x==n) l))]:=by
 refine valid_of_ev (G:=pg ctx) (tok ctx) hC mixed Tryd.func79 T79 L79 (by simp [Tryd.ntmps79]) ⟨_,rfl,?_⟩
 simp only [Tryd.ntmps79,Tryd.results79,initSt,initEnv]
 refine ev_seq (ev_reg (by simp; rfl) ?_)
 refine ev_seq (ev_seq (ev_reg (by simp; rfl) ?_))
 refine ev_block ?_
 refine ev_loop (fun i:Nat=>({ env:=[(0,V.fv ro (.sl c 1 (strs l))),(1,V.fv r1 (.str n)),(5,V.fv false (FV.int .i64 i))],blk:=[] }:St)) (fun i=>l.length-i) (fun i=>i<=l.length/\∀ x∈l.take i,(x==n)=false) 0 rfl (by simp) (by simp [R]; omega) (fun i hi=>?_)
 obtain ⟨hi,hn⟩:=hi
 refine ev_seq (ev_seq (ev_reg (by simp; rfl) ?_))
 refine ev_cond rfl (fun hb=>?_) (fun hb=>?_)
 ·simp at hb
  refine ev_skip ?_
  refine ev_seq (ev_block ?_)
  cases hq:(l[i]==n) with
  | true =>
   refine ev_seq (ev_reg (by simp [hb,hq]; rfl) ?_)
   refine ev_cond rfl (fun hb2=>?_) (fun hb2=>?_)
   ·refine ev_seq (ev_reg (by simp; rfl) ?_)
    refine ev_ret ?_
    simp [idx,idx_some (p:=fun x:ByteArray=>x==n) hb hn hq]
   ·simp at hb2
  | false =>
   refine ev_seq (ev_reg (by simp [hb,hq]; rfl) ?_)
   refine ev_cond rfl (fun hb2=>?_) (fun hb2=>?_)
   ·simp at hb2
   ·refine ev_skip ?_
    refine ev_reg (by simp; rfl) ?_
    refine ⟨i+1,?_,⟨by omega,take_all (p:=fun x:ByteArray=>x==n) hb hn hq⟩,by omega⟩
    simp
    exact wrap_nat (n:=i+1) (by omega)
 ·simp at hb
  refine ev_exit ?_
  refine ev_seq (ev_reg (by simp; rfl) ?_)
  refine ev_ret ?_
  have hnone:l.findIdx? (fun x:ByteArray=>x==n)=none:=by
   rw [List.findIdx?_eq_none_iff]
   rw [List.take_of_length_le hb] at hn
   simpa using hn
  simp [idx,hnone]
def H79 (ctx:Ctx):Prop:=∀ (l:List ByteArray) (n:ByteArray) (ro r1 c:Bool),l.length < 2^44->ctx 79 [(ro,.sl c 1 (strs l)),(r1,.str n)]=some [.fv (.int .i64 (idx (fun x:ByteArray=>x==n) l))]
theorem idx_neg {α:Type} (p:α->Bool) (l:List α):decide (idx p l < 0) = !(l.any p):=by
 have:=idx_nonneg p l
 rw [<-this]
 by_cases h:0<=idx p l
 ·simp [h,Int.not_lt.2 h]
 ·simp [h,Int.not_le.1 h]
def nmsTo (l:List Stk) (i:Nat):List ByteArray:=(l.take i).map (·.1)
theorem nmsTo_length (l:List Stk) (i:Nat):(nmsTo l i).length=min i l.length:=by simp [nmsTo]
theorem nmsTo_succ (l:List Stk) (i:Nat) (h:i < l.length):nmsTo l (i+1)=nmsTo l i++[l[i].1]:=by
 simp only [nmsTo,List.take_add_one,List.getElem?_eq_getElem h,Option.toList_some,List.map_append,List.map_cons,List.map_nil]
theorem stTo_false {l:List Stk} {i:Nat} (hi:i<=l.length) (h:stTo l i=false):stakesOk l=false:=by
 unfold stakesOk stTo at *
 rw [Bool.and_eq_false_iff] at h ⊢
 refine h.imp id fun h=>?_
 rw [List.all_eq_false] at h ⊢
 obtain ⟨x,hx,h⟩:=h
 exact ⟨x,by simp at hx ⊢; omega,h⟩
theorem v51 (ctx:Ctx) (hC:CtxOk (pg ctx)) (h29:H29 ctx) (h78:H78 ctx) (h79:H79 ctx) (l:List Stk) (ro c:Bool) (hl:l.length < 2^44):Valid Tryd.prog 51 [(ro,.sl c 2 (stL l))] [.fv (.bool (stakesOk l))]:=by
 refine valid_of_ev (G:=pg ctx) (tok ctx) hC mixed Tryd.func51 T51 L51 (by simp [Tryd.ntmps51]) ⟨_,rfl,?_⟩
 simp only [Tryd.ntmps51,Tryd.results51,initSt,initEnv]
 refine ev_seq (ev_reg (by simp; rfl) ?_)
 refine ev_seq (ev_reg (by simp; rfl) ?_)
 refine ev_seq (ev_reg (by simp; rfl) ?_)
 refine ev_seq (ev_seq (ev_reg (by simp; rfl) ?_))
 refine ev_block ?_
 refine ev_loop (fun i:Nat=>({ env:=[(0,V.fv ro (FV.sl c 2 (stL l))),(3,V.fv false (.bool (stTo l i))),(4,V.own 4 0 (nmsTo l i).length),(5,V.fv false (FV.int .i64 i))],blk:=[(4,.arr 1 (strs (nmsTo l i)))] }:St)) (fun i=>l.length-i) (fun i=>i<=l.length) 0 (by simp [stTo,nmsTo,strs]; omega) (by simp) (by simp [R]; omega) (fun i hi=>?_)
 have hsf:=stTo_false (l:=l) hi
 have hs:=stTo_succ l i
 have hnl:=nmsTo_length l i
 have hns:=nmsTo_succ l i
 have hsend:i=l.length->stTo l i=stakesOk l:=fun e=>by rw [e]; rfl
 have h10:stTo l i=true->l.length<=10:=fun h=>by simp only [stTo,Bool.and_eq_true,decide_eq_true_eq] at h; exact h.1
 cases h0:stTo l i with
 | false =>
  refine ev_seq (ev_seq (ev_reg (by simp [unsetS]; rfl) ?_))
  refine ev_cond rfl (fun hb=>?_) (fun hb=>?_)
  ·simp at hb
  ·refine ev_exit ?_
   refine ev_seq (ev_reg (by simp; rfl) ?_)
   refine ev_ret ?_
   simp [hsf h0]
 | true =>
  refine ev_seq (ev_seq (ev_reg (by simp; rfl) ?_))
  refine ev_cond rfl (fun hb=>?_) (fun hb=>?_)
  ·simp at hb
   have h10:=h10 h0
   have hmin:min i l.length=i:=by omega
   rw [hmin] at hnl
   have hns:=hns hb
   have hst:stAt l i=(nameOk l[i].1&&(decide (0<=l[i].2)&&decide (l[i].2<=1000))&&!((l.take i).any fun p=>p.1==l[i].1)):=by simp [stAt,hb]
   have e78:ctx 78 [(false,.str l[i].1)]=some [.fv (.bool (nameOk l[i].1))]:=h78 _ _
   have e29:ctx 29 [(false,.int .i64 l[i].2),(false,.int .i64 0),(false,.int .i64 1000)]=some [.fv (.bool (decide (0<=l[i].2)&&decide (l[i].2<=1000)))]:=h29 _ _ _ _ _ _
   have e79:∀ r1 r2 c',ctx 79 [(r1,.sl c' 1 (strs (nmsTo l i))),(r2,.str l[i].1)]=some [.fv (.int .i64 (idx (fun x:ByteArray=>x==l[i].1) (nmsTo l i)))]:=fun r1 r2 c'=>h79 _ _ _ _ _ (by omega)
   have hix:decide (idx (fun x:ByteArray=>x==l[i].1) (nmsTo l i) < 0) = !((l.take i).any fun p=>p.1==l[i].1):=by
    rw [idx_neg]
    unfold nmsTo
    rw [List.any_map]
    rfl
   have hbd:(i+1)*16<=140737488355328:=by omega
   have tk:List.take i (strs (nmsTo l i))=strs (nmsTo l i):=List.take_of_length_le (by simp [hnl])
   rw [h0,hst] at hs
   generalize hND:nmsTo l i=N at *
   generalize nameOk l[i].1=a at *
   generalize (decide (0<=l[i].2)&&decide (l[i].2<=1000))=b at *
   generalize ((l.take i).any fun p=>p.1==l[i].1)=d at *
   generalize idx (fun x:ByteArray=>x==l[i].1) N=m at *
   refine ev_skip ?_
   refine ev_seq (ev_block ?_)
   cases a with
   | false =>
    refine ev_seq (ev_reg (by simp [hb,e78,unsetS]; rfl) ?_)
    refine ev_reg (by simp [hb,hbd,hnl]; rfl) ?_
    refine ev_reg (by simp; rfl) ?_
    refine ⟨i+1,?_,by omega,by omega⟩
    simp [hs,hns,hnl,strs]
    exact wrap_nat (n:=i+1) (by omega)
   | true =>
    cases d with
    | true =>
     have hm:¬ m < 0:=by simpa using hix
     refine ev_seq (ev_reg (by simp [hb,e78,e79,tk,hnl,hm,unsetS]; rfl) ?_)
     refine ev_reg (by simp [hb,hbd,hnl]; rfl) ?_
     refine ev_reg (by simp; rfl) ?_
     refine ⟨i+1,?_,by omega,by omega⟩
     simp [hs,hns,hnl,strs]
     exact wrap_nat (n:=i+1) (by omega)
    | false =>
     have hm:m < 0:=by simpa using hix
     refine ev_seq (ev_reg (by simp [hb,e78,e79,e29,tk,hnl,hm]; rfl) ?_)
     refine ev_reg (by simp [hb,hbd,hnl]; rfl) ?_
     refine ev_reg (by simp; rfl) ?_
     refine ⟨i+1,?_,by omega,by omega⟩
     simp [hs,hns,hnl,strs]
     exact wrap_nat (n:=i+1) (by omega)
  ·simp at hb
   have he:i=l.length:=by omega
   refine ev_exit ?_
   refine ev_seq (ev_reg (by simp; rfl) ?_)
   refine ev_ret ?_
   simp [<-hsend he,h0]
def H51 (ctx:Ctx):Prop:=∀ (l:List Stk) (ro c:Bool),l.length < 2^44->ctx 51 [(ro,.sl c 2 (stL l))]=some [.fv (.bool (stakesOk l))]
theorem gets_at {all:Int} {l:List Stk} {i:Nat} (hi:i < l.length):(gets all l)[i]'(by simpa [gets] using hi)=all*l[i].2 / (wts l).sum:=by simp [gets]
theorem gets_len (all:Int) (l:List Stk):(gets all l).length=l.length:=by simp [gets]
def rsts (all:Int) (l:List Stk):List Int:=l.map (rst all (wts l).sum)
theorem rsts_len (all:Int) (l:List Stk):(rsts all l).length=l.length:=by simp [rsts]
theorem outR_len (all:Int) (l:List Stk) (k:Nat):(outR all l k).length=l.length:=by simp [outR]
theorem rstR_len (all:Int) (l:List Stk) (k:Nat):(rstR all l k).length=l.length:=by simp [rstR]
theorem rstR_at {all:Int} {l:List Stk} {k i:Nat} (hi:i < l.length):(rstR all l k)[i]'(by simpa [rstR] using hi)=if rnk all l l[i] < k then -1 else rst all (wts l).sum l[i]:=by simp [rstR]
theorem take_snoc {α:Type} {l:List α} {i:Nat} (hi:i < l.length):l.take (i+1)=l.take i++[l[i]]:=by
 rw [List.take_add_one,List.getElem?_eq_getElem hi,Option.toList_some]
theorem sum_takeS {l:List Int} {i:Nat} (hi:i < l.length):(l.take (i+1)).sum=(l.take i).sum+l[i]:=by
 rw [take_snoc hi,List.sum_append,List.sum_cons,List.sum_nil]; omega
theorem sum_nn:∀ {l:List Int},(∀ x∈l,0<=x)->0<=l.sum
 | [],_=>by simp
 | x :: l,h=>by
  have:=sum_nn (l:=l) fun y hy=>h y (List.mem_cons_of_mem _ hy)
  have:=h x List.mem_cons_self
  rw [List.sum_cons]; omega
theorem sum_take_le {l:List Int} (h:∀ x∈l,0<=x) (i:Nat):0<=(l.take i).sum/\(l.take i).sum<=l.sum:=by
 have e:=List.take_append_drop i l
 have h1:0<=(l.take i).sum:=sum_nn fun x hx=>h x (List.mem_of_mem_take hx)
 have h2:0<=(l.drop i).sum:=sum_nn fun x hx=>h x (List.mem_of_mem_drop hx)
 have h3:(l.take i).sum+(l.drop i).sum=l.sum:=by rw [<-List.sum_append,e]
 omega
set_option maxHeartbeats 3200000 in
set_option maxRecDepth 20000 in
theorem v53 (ctx:Ctx) (hC:CtxOk (pg ctx)) (h52:H52 ctx) (all:Int) (l:List Stk) (r0 ro c:Bool) (hd:DivOk all l):Valid Tryd.prog 53 [(r0,.int .i64 all),(ro,.sl c 2 (stL l))] [.us 1 (ints (divF all l))]:=by
 refine valid_of_evH (G:=pg ctx) (tok ctx) hC mixed Tryd.func53 T53 [(6,11)] L53 (by simp [Tryd.ntmps53]) ⟨_,rfl,?_⟩
 simp only [Tryd.ntmps53,Tryd.results53,initSt,initEnv]
 have hlen:=hd.len
 have hpos:=hd.pos
 obtain ⟨hS,hS2⟩:=hd.sum
 have e52:∀ r c,ctx 52 [(r,.sl c 2 (stL l))]=some [.fv (.int .i64 (wts l).sum)]:=fun r c=>by rw [h52 l r c (by omega),hS]
 obtain ⟨S,hSS⟩:∃ S,(wts l).sum=S:=⟨_,rfl⟩
 have hS0:S≠0:=by omega
 obtain ⟨Gs,hG⟩:∃ Gs,gets all l=Gs:=⟨_,rfl⟩
 obtain ⟨Rs,hR⟩:∃ Rs,rsts all l=Rs:=⟨_,rfl⟩
 have hGl:Gs.length=l.length:=by rw [<-hG]; exact gets_len all l
 have hRl:Rs.length=l.length:=by rw [<-hR]; exact rsts_len all l
 have hG0:∀ x∈Gs,0<=x/\x<=10000000000000:=by rw [<-hG]; exact hd.getsB
 have htop:=(tops_len hd).2.1
 have htop2:=(tops_len hd).2.2
 have h0:=hd.h0
 have h1:=hd.h1
 rw [hG] at htop
 have hsum:Gs.sum<=all:=by omega
 rw [hSS] at e52
 refine ev_seq (ev_reg (by simp; rfl) ?_)
 refine ev_seq (ev_reg (by simp [e52]; rfl) ?_)
 refine ev_seq (ev_reg (by simp; rfl) ?_)
 refine ev_seq (ev_seq (ev_reg (by simp; rfl) ?_))
 refine ev_block ?_
 refine ev_loop (fun x:Nat×Bool=>({ env:=[(0,.fv r0 (.int .i64 all)),(1,.fv ro (.sl c 2 (stL l))),(5,.fv false (.int .i64 S)),(6,.fv x.2 (.int .i64 (all-(Gs.take x.1).sum))),(7,.own 7 0 (Gs.take x.1).length),(8,.own 8 0 (Rs.take x.1).length),(9,.fv false (.int .i64 x.1))],blk:=[(7,.arr 1 (ints (Gs.take x.1))),(8,.arr 1 (ints (Rs.take x.1)))] }:St)) (fun x=>l.length-x.1) (fun x=>x.1<=l.length) (0,r0) (by simp [ints]) (by simp) (by simp [R]; omega) (fun x hi=>?_)
 obtain ⟨i,q⟩:=x
 simp only at hi
 have hmG:min i Gs.length=i:=by omega
 have hmR:min i Rs.length=i:=by omega
 refine ev_seq (ev_seq (ev_reg (by simp; rfl) ?_))
 refine ev_cond rfl (fun hb=>?_) (fun hb=>?_)
 ·simp at hb
  have hbG:i < Gs.length:=by omega
  have hbR:i < Rs.length:=by omega
  have hx:=List.getElem_mem hb
  have hm:=hd.mul hx
  have hq:=hd.div hx
  have hwm:IntKind.i64.wrap (all*l[i].2)=all*l[i].2:=wrap_id (by omega) (by omega)
  have hqt:(all*l[i].2).tdiv S=Gs[i]:=by rw [<-hSS,<-hS,hq.1]; subst hG; rw [gets_at hb]
  have hrt:(all*l[i].2).tmod S=Rs[i]:=by
   rw [Int.tmod_eq_emod_of_nonneg hm.1]
   subst hR
   simp [rsts,rst,hSS]
  have hgb:=hG0 _ (List.getElem_mem hbG)
  have hqw:IntKind.i64.wrap Gs[i]=Gs[i]:=wrap_id (by omega) (by omega)
  have hrb:0<=Rs[i]/\Rs[i] < S:=by
   rw [<-hrt,Int.tmod_eq_emod_of_nonneg hm.1]
   exact ⟨Int.emod_nonneg _ hS0,Int.emod_lt_of_pos _ (by omega)⟩
  have hrw:IntKind.i64.wrap Rs[i]=Rs[i]:=wrap_id (by omega) (by omega)
  have hbd:(i+1)*8<=140737488355328:=by omega
  have hs1:=sum_takeS hbG
  have hs2:=sum_take_le (fun x hx=>(hG0 x hx).1) (i+1)
  have hs3:=sum_take_le (fun x hx=>(hG0 x hx).1) i
  have htG:=take_snoc hbG
  have htR:=take_snoc hbR
  have hlG:(Gs.take i).length=i:=by simp; omega
  have hlR:(Rs.take i).length=i:=by simp; omega
  have hsw:IntKind.i64.wrap (all-(Gs.take i).sum-Gs[i])=all-(Gs.take (i+1)).sum:=by rw [hs1]; rw [hs1] at hs2; rw [wrap_id (by omega) (by omega)]; omega
  refine ev_skip ?_
  refine ev_seq (ev_block ?_)
  refine ev_seq (ev_hole rfl rfl (by kernel_rfl) (by kernel_rfl) (fs:=[false,false,false,false,false,false,false,false,false,false,false,false,true,true,true,true,true,true,true,true,true,true,true]) (by kernel_rfl) rfl (by simp; rfl) (by simp [hb,hwm,hS0,hqt,hrt,hqw,hrw,hmG,hmR,hbd]; rfl) rfl (by simp [hmG,hmR,hbd]; exact ⟨rfl,rfl,rfl,rfl⟩) (by simp [hb,hwm,hS0,hqt,hrt,hqw,hrw,hmG,hmR,hbd]) (by simp [hmG,hmR,hbd]; rfl) ?_)
  have hlt1:(i:Int) < (i:Int)+1:=by omega
  have hget:(ints (List.take i Gs)++[FV.int IntKind.i64 Gs[i]])[i]? = some (.int .i64 Gs[i]):=by
   rw [List.getElem?_append_right (by simp [hmG])]
   simp [hmG]
  refine ev_reg (by simp [hmG,hmR,hlt1,hget,hsw]; rfl) ?_
  refine ev_reg (by simp; rfl) ?_
  refine ⟨(i+1,false),?_,by simp only; omega,by simp only; omega⟩
  have hIG:ints (List.take (i+1) Gs)=ints (List.take i Gs)++[FV.int IntKind.i64 Gs[i]]:=by rw [htG]; unfold ints; rw [List.map_append]; rfl
  have hIR:ints (List.take (i+1) Rs)=ints (List.take i Rs)++[FV.int IntKind.i64 Rs[i]]:=by rw [htR]; unfold ints; rw [List.map_append]; rfl
  have hmG1:min (i+1) Gs.length=i+1:=by omega
  have hmR1:min (i+1) Rs.length=i+1:=by omega
  simp only [hIG,hIR]
  simp [hmG,hmR,hmG1,hmR1]
  exact wrap_nat (n:=i+1) (by omega)
 ·have hb:i=l.length:=by simp at hb; omega
  subst hb
  have tG:Gs.take l.length=Gs:=List.take_of_length_le (by omega)
  have tR:Rs.take l.length=Rs:=List.take_of_length_le (by omega)
  refine ev_exit ?_
  refine ev_seq (ev_block ?_)
  refine ev_loop (fun x:Nat×Bool×Bool=>(bif x.2.2 then ({ env:=[(0,.fv r0 (.int .i64 all)),(1,.fv ro (.sl c 2 (stL l))),(5,.fv false (.int .i64 S)),(6,.fv x.2.1 (.int .i64 ((leftF all l:Int)-x.1))),(7,.own 7 0 (outR all l x.1).length),(8,.own 8 0 (rstR all l x.1).length),(9,.fv false (.int .i64 l.length)),(18,.fv false (.bool false))],blk:=[(7,.arr 1 (ints (outR all l x.1))),(8,.arr 1 (ints (rstR all l x.1)))] }:St)
   else { env:=[(1,.fv ro (.sl c 2 (stL l))),(6,.fv x.2.1 (.int .i64 ((leftF all l:Int)-x.1))),(7,.own 7 0 (outR all l x.1).length),(8,.own 8 0 (rstR all l x.1).length)],blk:=[(7,.arr 1 (ints (outR all l x.1))),(8,.arr 1 (ints (rstR all l x.1)))] })) (fun x=>leftF all l-x.1) (fun x=>x.1<=leftF all l) (0,q,true) (by
   have z1:outR all l 0=Gs:=by rw [outR_zero,hG]
   have z2:rstR all l 0=Rs:=by rw [rstR_zero,<-hR]; rfl
   simp only [z1,z2,tG,tR,cond_true]
   simp [htop]
   omega) (by simp) (by simp [R]; omega) (fun x hk=>?_)
  obtain ⟨k,q,fst⟩:=x
  simp only at hk
  have hOl:=outR_len all l k
  have hRRl:=rstR_len all l k
  refine ev_seq (ev_seq (ev_reg (σ':={ env:=[(1,.fv ro (.sl c 2 (stL l))),(6,.fv q (.int .i64 ((leftF all l:Int)-k))),(7,.own 7 0 (outR all l k).length),(8,.own 8 0 (rstR all l k).length),(52,.fv false (.bool (decide (0 < (leftF all l:Int)-k))))],blk:=[(7,.arr 1 (ints (outR all l k))),(8,.arr 1 (ints (rstR all l k)))] }) (by cases fst<;>simp) ?_))
  refine ev_cond rfl (fun hb=>?_) (fun hb=>?_)
  ·have hkl:k < leftF all l:=by simp at hb; omega
   obtain ⟨O,hO⟩:∃ O,outR all l k=O:=⟨_,rfl⟩
   obtain ⟨Q,hQ⟩:∃ Q,rstR all l k=Q:=⟨_,rfl⟩
   have hO':=hO
   have hQ':=hQ
   rw [hO] at hOl ⊢
   rw [hQ] at hRRl ⊢
   refine ev_skip ?_
   refine ev_seq (ev_block ?_)
   refine ev_seq (ev_reg (by simp; rfl) ?_)
   refine ev_seq (ev_seq (ev_reg (by simp; rfl) ?_))
   refine ev_block ?_
   refine ev_loop (fun x:Nat×Int=>({ env:=[(1,.fv ro (.sl c 2 (stL l))),(6,.fv q (.int .i64 ((leftF all l:Int)-k))),(7,.own 7 0 O.length),(8,.own 8 0 Q.length),(10,.fv false (.int .i64 x.2)),(11,.fv false (.int .i64 x.1))],blk:=[(7,.arr 1 (ints O)),(8,.arr 1 (ints Q))] }:St)) (fun x=>l.length-x.1) (fun x=>x.1<=l.length/\BestI all l k x.1 x.2) (0,-1) (by simp) ⟨by simp,best_start k⟩ (by simp [R]; omega) (fun x hx=>?_)
   obtain ⟨i,b⟩:=x
   obtain ⟨hi,hB⟩:=hx
   simp only at hi hB
   refine ev_seq (ev_seq (ev_reg (by simp; rfl) ?_))
   refine ev_cond rfl (fun hb2=>?_) (fun hb2=>?_)
   ·have hil:i < l.length:=by simp at hb2; omega
    have hiQ:i < Q.length:=by omega
    have hQi:Q[i]=if rnk all l l[i] < k then -1 else rst all (wts l).sum l[i]:=by subst hQ; exact rstR_at hil
    refine ev_skip ?_
    refine ev_seq (ev_block ?_)
    by_cases hr:rnk all l l[i] < k
    ·rw [if_pos hr] at hQi
     refine ev_seq (ev_drwH rfl rfl (by kernel_rfl) (by kernel_rfl) (by simp [hiQ,hQi,unsetS]; rfl) ?_)
     refine ev_cond rfl (fun hb3=>?_) (fun hb3=>?_)
     ·simp at hb3
     ·refine ev_skip ?_
      refine ev_reg (by simp; rfl) ?_
      refine ⟨(i+1,b),?_,⟨by simp only; omega,best_skip hB hil hr⟩,by simp only; omega⟩
      simp
      exact wrap_nat (n:=i+1) (by omega)
    ·rw [if_neg hr] at hQi
     have hri:=rst_range hd l[i]
     rw [<-hQi] at hri
     by_cases hbn:b=-1
     ·subst hbn
      have n0:0<=Q[i]:=hri.1
      refine ev_seq (ev_drwH rfl rfl (by kernel_rfl) (by kernel_rfl) (by simp [hiQ,n0,unsetS]; rfl) ?_)
      refine ev_cond rfl (fun hb3=>?_) (fun hb3=>?_)
      ·refine ev_reg (by simp; rfl) ?_
       refine ev_reg (by simp; rfl) ?_
       refine ⟨(i+1,(i:Int)),?_,⟨by simp only; omega,best_first hB hil (by omega)⟩,by simp only; omega⟩
       simp
       exact wrap_nat (n:=i+1) (by omega)
      ·simp at hb3
     ·obtain ⟨j,hj,hbj,hji,hrj,_⟩:=hB.some hbn
      subst hbj
      have hjQ:j < Q.length:=by omega
      have hQj:Q[j]=rst all (wts l).sum l[j]:=by
       have:Q[j]=if rnk all l l[j] < k then -1 else rst all (wts l).sum l[j]:=by subst hQ; exact rstR_at hj
       rw [this,if_neg (by omega)]
      have hask:=best_ask hd hil hj (show i≠j by omega)
      rw [<-hQi,<-hQj] at hask
      have n0:0<=Q[i]:=hri.1
      have nb:¬ (j:Int) < 0:=by omega
      rcases Int.lt_trichotomy Q[j] Q[i] with hc | hc | hc
      ·refine ev_seq (ev_drwH rfl rfl (by kernel_rfl) (by kernel_rfl) (by simp [hiQ,hjQ,n0,nb,hc,unsetS]; rfl) ?_)
       refine ev_cond rfl (fun hb3=>?_) (fun hb3=>?_)
       ·refine ev_reg (by simp; rfl) ?_
        refine ev_reg (by simp; rfl) ?_
        refine ⟨(i+1,(i:Int)),?_,⟨by simp only; omega,best_better hB hil hj (by omega) (hask.2 (.inl hc))⟩,by simp only; omega⟩
        simp
        exact wrap_nat (n:=i+1) (by omega)
       ·simp at hb3
      ·have hc1:¬ Q[j] < Q[i]:=by omega
       have hc2:Q[i]=Q[j]:=hc.symm
       have hc3:(Q[i]==Q[j])=true:=by simp [hc2]
       have n0':0<=Q[j]:=by omega
       cases hsl:sless l[i].1 l[j].1 with
       | true =>
        have hnl:=sless_iff.1 hsl
        refine ev_seq (ev_drwH rfl rfl (by kernel_rfl) (by kernel_rfl) (by simp [hiQ,hjQ,hil,hj,n0,n0',nb,hc1,hc2,hsl]; rfl) ?_)
        refine ev_cond rfl (fun hb3=>?_) (fun hb3=>?_)
        ·refine ev_reg (by simp; rfl) ?_
         refine ev_reg (by simp; rfl) ?_
         refine ⟨(i+1,(i:Int)),?_,⟨by simp only; omega,best_better hB hil hj (by omega) (hask.2 (.inr ⟨hc2,hnl⟩))⟩,by simp only; omega⟩
         simp
         exact wrap_nat (n:=i+1) (by omega)
        ·simp at hb3
       | false =>
        have hnl:¬ nlt l[i].1 l[j].1:=fun h=>by rw [sless_iff.2 h] at hsl; cases hsl
        refine ev_seq (ev_drwH rfl rfl (by kernel_rfl) (by kernel_rfl) (by simp [hiQ,hjQ,hil,hj,n0,n0',nb,hc1,hc2,hsl]; rfl) ?_)
        refine ev_cond rfl (fun hb3=>?_) (fun hb3=>?_)
        ·simp at hb3
        ·refine ev_skip ?_
         refine ev_reg (by simp; rfl) ?_
         refine ⟨(i+1,(j:Int)),?_,⟨by simp only; omega,best_same hB hil hj (fun h=>by
          rcases hask.1 h with h | h
          ·exact hc1 h
          ·exact hnl h.2)⟩,by simp only; omega⟩
         simp
         exact wrap_nat (n:=i+1) (by omega)
      ·have hc1:¬ Q[j] < Q[i]:=by omega
       have hc2:¬ Q[i]=Q[j]:=by omega
       have hc3:(Q[i]==Q[j])=false:=by simp [hc2]
       refine ev_seq (ev_drwH rfl rfl (by kernel_rfl) (by kernel_rfl) (by simp [hiQ,hjQ,n0,nb,hc1,hc2,hc3,unsetS]; rfl) ?_)
       refine ev_cond rfl (fun hb3=>?_) (fun hb3=>?_)
       ·simp at hb3
       ·refine ev_skip ?_
        refine ev_reg (by simp; rfl) ?_
        refine ⟨(i+1,(j:Int)),?_,⟨by simp only; omega,best_same hB hil hj (fun h=>by
         rcases hask.1 h with h | h
         ·exact hc1 h
         ·exact hc2 h.1)⟩,by simp only; omega⟩
        simp
        exact wrap_nat (n:=i+1) (by omega)
   ·have hil:i=l.length:=by simp at hb2; omega
    subst hil
    obtain ⟨j,hj,rfl,hrk⟩:=best_end hd (show k < l.length by omega) hB
    have hjO:j < O.length:=by omega
    have hjQ:j < Q.length:=by omega
    have hst:=outR_step hd hj hrk
    have hOb:0<=O[j]/\O[j]<=10000000000001:=by
     subst hO
     simp only [outR,List.getElem_map]
     have:=(hd.div (List.getElem_mem hj)).2
     split<;>omega
    have hwO:IntKind.i64.wrap (O[j]+1)=O[j]+1:=wrap_id (by omega) (by omega)
    have hwk:IntKind.i64.wrap ((leftF all l:Int)-k-1)=(leftF all l:Int)-k-1:=wrap_id (by omega) (by omega)
    refine ev_exit ?_
    refine ev_seq (ev_reg (by simp [hjO,hwO]; rfl) ?_)
    refine ev_reg (by simp [hjQ]; rfl) ?_
    refine ev_reg (by simp [hwk]; rfl) ?_
    refine ⟨(k+1,false,false),?_,by simp only; omega,by simp only; omega⟩
    simp [hst.1,hst.2,hO',hQ',ints,List.map_set]
    omega
  ·have hkl:k=leftF all l:=by simp at hb; omega
   subst hkl
   refine ev_exit ?_
   refine ev_seq (ev_reg (by simp; rfl) ?_)
   refine ev_ret ?_
   simp [outR_left hd]
def H53 (ctx:Ctx):Prop:=∀ (all:Int) (l:List Stk) (r0 ro c:Bool),DivOk all l->ctx 53 [(r0,.int .i64 all),(ro,.sl c 2 (stL l))]=some [.us 1 (ints (divF all l))]
def H16 (ctx:Ctx):Prop:=∀ (all:Int) (l:List Stk) (r0 ro c:Bool),l.length < 2^44->ctx 16 [(r0,.int .i64 all),(ro,.sl c 2 (stL l))]=some [.us 1 (ints (divideF all l).1),.fv (.int .i64 (divideF all l).2)]
theorem divide_len (all:Int) (l:List Stk):(divideF all l).1.length<=l.length:=by
 unfold divideF
 split
 ·split
  ·simp [divF_length]
  ·simp
 ·simp
theorem v3 (ctx:Ctx) (hC:CtxOk (pg ctx)) (h15:H15 ctx) (h16:H16 ctx) (h17:H17 ctx) (h18:H18 ctx) (all:Int) (l:List Stk) (hl:l.length < 2^44) (r0 ro c:Bool):Valid Tryd.prog 3 [(r0,.int .i64 all),(ro,.sl c 2 (stL l))] [.fv (.bool true)]:=by
 refine valid_of_ev (G:=pg ctx) (tok ctx) hC mixed Tryd.func3 T3 L3 (by simp [Tryd.ntmps3]) ⟨_,rfl,?_⟩
 simp only [Tryd.ntmps3,Tryd.results3,initSt,initEnv]
 have e18:ctx 18 []=some [.fv (.bool true)]:=h18
 have e15:=fun r r2=>h15 all l r r2 c hl
 have e16:=fun r r2=>h16 all l r r2 c hl
 have hdl:=divide_len all l
 generalize (divideF all l).1=d at e15 e16 hdl
 generalize (divideF all l).2=e at e15 e16
 have e17:∀ r c r2 c2,ctx 17 [(r,.sl c 1 (ints d)),(r2,.sl c2 1 (ints d))]=some [.fv (.bool true)]:=fun r c r2 c2=>by rw [h17 _ _ _ _ _ _ (by omega) (by omega)]; simp
 refine ev_seq (ev_reg (by simp; rfl) ?_)
 refine ev_seq (ev_reg (by simp [e15]; rfl) ?_)
 refine ev_seq (ev_reg (by simp [e16]; rfl) ?_)
 refine ev_seq (ev_reg (by simp [e17,e18]; rfl) ?_)
 refine ev_ret ?_
 simp
end Go.Proofs.YtejodhjhddnbeaaDoor.E
