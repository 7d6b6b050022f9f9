/-
  The chapter of the share: its functions, and what they compute. Conditions: none.
-/
import Derived.Test.YtejodhjhddnbeaaDoorZ16
import Derived.Test.YtejodhjhddnbeaaDoorZ17
set_option linter.unusedVariables false
set_option linter.unusedSimpArgs false
namespace Go.Proofs.YtejodhjhddnbeaaDoor.E
open Go Go.RowKit
section
variable (bal:List Int) (nums:List Nat)
def bestG (F:Nat->Int) (set:Nat):Nat->Int
 | 0=>0
 | i+1=>if set.testBit i=true then max (bestG F set i) (F (clr set i)) else bestG F set i
def gN:Nat->Nat->Int
 | 0,_=>0
 | n+1,set=>if set=0 then 0 else if sumS bal nums set=0 then IntKind.i64.wrap (bestG (gN n) set nums.length+1) else bestG (gN n) set nums.length
end
section
variable {bal:List Int} {nums:List Nat}
theorem bestG_congr {F F':Nat->Int} {set:Nat}:∀ {K:Nat},(∀ i,i < K->set.testBit i=true->F (clr set i)=F' (clr set i))->bestG F set K=bestG F' set K
 | 0,_=>rfl
 | K+1,h=>by
  simp only [bestG]
  rw [bestG_congr (K:=K) fun i hi=>h i (by omega)]
  split
  ·rename_i hb; rw [h K (by omega) hb]
  ·rfl
theorem gN_stable:∀ (n m set:Nat),pcK set nums.length < n->pcK set nums.length < m->gN bal nums n set=gN bal nums m set
 | 0,_,_,h,_=>absurd h (Nat.not_lt_zero _)
 | _,0,_,_,h=>absurd h (Nat.not_lt_zero _)
 | n+1,m+1,set,h,h'=>by
  simp only [gN]
  have:bestG (gN bal nums n) set nums.length=bestG (gN bal nums m) set nums.length:=bestG_congr fun i hi hb=>by
   have:=pcK_clr hb hi
   exact gN_stable n m (clr set i) (by omega) (by omega)
  rw [this]
theorem pcK_le (set K:Nat):pcK set K<=K:=Nat.le_trans (List.length_filter_le _ _) (by simp)
def gS (bal:List Int) (nums:List Nat) (set:Nat):Int:=gN bal nums (nums.length+1) set
theorem gS_eq (set:Nat) (h:set≠0):gS bal nums set=if sumS bal nums set=0 then IntKind.i64.wrap (bestG (gS bal nums) set nums.length+1) else bestG (gS bal nums) set nums.length:=by
 have:bestG (gN bal nums nums.length) set nums.length=bestG (gS bal nums) set nums.length:=bestG_congr fun i hi hb=>by
  have h1:=pcK_clr hb hi
  have h2:=pcK_le set nums.length
  exact gN_stable _ _ _ (by omega) (by omega)
 conv=>lhs; unfold gS gN
 rw [if_neg h,this]
theorem gS_zero:gS bal nums 0=0:=by unfold gS gN; simp
def subB (t s:Nat):Prop:=∀ j,t.testBit j=true->s.testBit j=true
theorem subB_refl (s:Nat):subB s s:=fun _ h=>h
theorem subB_trans {a b c:Nat} (h:subB a b) (h':subB b c):subB a c:=fun j x=>h' j (h j x)
theorem subB_clr (s i:Nat):subB (clr s i) s:=fun j h=>by rw [clr_bit] at h; simp only [Bool.and_eq_true] at h; exact h.1
theorem subB_lt {t s:Nat} (h:subB t s) {K:Nat} (hs:s < 2^K):t < 2^K:=by
 refine Nat.lt_of_le_of_lt (Nat.le_of_testBit fun j hj=>h j hj) hs
theorem subB_clr_of {t s i:Nat} (h:subB t s) (hi:t.testBit i=false):subB t (clr s i):=fun j hj=>by
 rw [clr_bit,h j hj]
 have:i≠j:=fun e=>by subst e; rw [hj] at hi; cases hi
 simp [this]
theorem subB_eq {t s:Nat} (h:subB t s) (hne:t≠s):∃ i,s.testBit i=true/\t.testBit i=false:=by
 refine Classical.byContradiction fun hx=>hne (Nat.eq_of_testBit_eq fun j=>?_)
 cases hs:s.testBit j with
 | true =>
  cases ht:t.testBit j with
  | true=>rfl
  | false=>exact absurd ⟨j,hs,ht⟩ hx
 | false =>
  cases ht:t.testBit j with
  | true=>have:=h j ht; rw [hs] at this; cases this
  | false=>rfl
def Closed (m:Memo) (s:Nat):Prop:=∀ t,t≠0->subB t s->lookM m t≠none
def GoodM (bal:List Int) (nums:List Nat) (m:Memo):Prop:=∀ s v,lookM m s=some v->v=gS bal nums s/\Closed m s
def Keep (m m':Memo):Prop:=∀ s v,lookM m s=some v->lookM m' s=some v
theorem Keep.refl (m:Memo):Keep m m:=fun _ _ h=>h
theorem Keep.trans {a b c:Memo} (h:Keep a b) (h':Keep b c):Keep a c:=fun s v x=>h' s v (h s v x)
theorem Closed.keep {m m':Memo} (h:Keep m m') {s:Nat} (hc:Closed m s):Closed m' s:=fun t h1 h2 h3=>by
 cases hl:lookM m t with
 | none=>exact hc t h1 h2 hl
 | some v=>rw [h t v hl] at h3; cases h3
theorem Closed.sub {m:Memo} {s t:Nat} (h:Closed m s) (ht:subB t s):Closed m t:=fun u h1 h2=>h u h1 (subB_trans h2 ht)
theorem look_ins (m:Memo) (s t:Nat) (v:Int):lookM (insM m s v) t=if t=s then some v else lookM m t:=by
 unfold insM
 cases hi:idxM m s with
 | some i =>
  simp only [idxM] at hi
  rw [List.findIdx?_eq_some_iff_getElem] at hi
  obtain ⟨hl,h1,h2⟩:=hi
  simp only [beq_iff_eq] at h1
  by_cases e:t=s
  ·subst e
   have hx:idxM (m.set i (t,v)) t=some i:=by
    simp only [idxM]
    rw [List.findIdx?_eq_some_iff_getElem]
    refine ⟨by simpa using hl,by simp,fun j hj=>?_⟩
    have:=h2 j hj
    rw [List.getElem_set_ne (by omega)]
    exact this
   simp [lookM,hx,hl]
  ·rw [if_neg e]
   have hx:idxM (m.set i (s,v)) t=idxM m t:=by
    simp only [idxM]
    cases h3:m.findIdx? (fun p=>p.1==t) with
    | none =>
     rw [List.findIdx?_eq_none_iff] at h3 ⊢
     intro x hx
     rcases List.mem_or_eq_of_mem_set hx with hx | rfl
     ·exact h3 x hx
     ·simp; exact fun e'=>e e'.symm
    | some j =>
     rw [List.findIdx?_eq_some_iff_getElem] at h3 ⊢
     obtain ⟨k1,k2,k3⟩:=h3
     have hij:i≠j:=fun e'=>by
      subst e'
      simp only [beq_iff_eq] at k2
      exact e (k2.symm.trans h1)
     refine ⟨by simpa using k1,by rw [List.getElem_set_ne hij]; exact k2,fun q hq=>?_⟩
     by_cases e':i=q
     ·subst e'; simp; exact fun e'=>e e'.symm
     ·rw [List.getElem_set_ne e']; exact k3 q hq
   simp only [lookM,hx]
   cases h3:idxM m t with
   | none=>rfl
   | some j =>
    have hij:i≠j:=fun e'=>by
     subst e'
     simp only [idxM] at h3
     rw [List.findIdx?_eq_some_iff_getElem] at h3
     obtain ⟨k1,k2,k3⟩:=h3
     simp only [beq_iff_eq] at k2
     exact e (k2.symm.trans h1)
    simp [List.getD_eq_getElem?_getD,List.getElem?_set,hij]
 | none =>
  simp only [idxM] at hi
  have hni:=hi
  rw [List.findIdx?_eq_none_iff] at hi
  simp only [lookM,idxM]
  rw [List.findIdx?_append]
  by_cases e:t=s
  ·subst e
   simp [hni,List.findIdx?_cons]
  ·have hne:(s==t)=false:=by simp; exact fun e'=>e e'.symm
   rw [if_neg e]
   cases h3:m.findIdx? (fun p=>p.1==t) with
   | none=>simp [List.findIdx?_cons,hne]
   | some j =>
    rw [List.findIdx?_eq_some_iff_getElem] at h3
    obtain ⟨k1,_⟩:=h3
    simp [List.getD_eq_getElem?_getD,List.getElem?_append_left k1]
theorem fill_spec:∀ (n set:Nat) (m:Memo),pcK set nums.length < n->set < 2^nums.length->GoodM bal nums m ->
  (fillN bal nums n set m).1=gS bal nums set/\GoodM bal nums (fillN bal nums n set m).2/\Keep m (fillN bal nums n set m).2/\Closed (fillN bal nums n set m).2 set
 | 0,_,_,h,_,_=>absurd h (Nat.not_lt_zero _)
 | n+1,set,m,h,hs,hg=>by
  unfold fillN
  cases hl:lookM m set with
  | some v=>exact ⟨(hg set v hl).1,hg,Keep.refl m,(hg set v hl).2⟩
  | none =>
   simp only
   by_cases h0:set=0
   ·rw [if_pos h0]
    subst h0
    exact ⟨gS_zero.symm,hg,Keep.refl m,fun t ht hsub=>absurd (Nat.eq_of_testBit_eq fun j=>by
     cases hj:t.testBit j with
     | true=>have:=hsub j hj; simp at this
     | false=>simp) ht⟩
   ·rw [if_neg h0]
    have loop:∀ i,i<=nums.length->(fillK (fillN bal nums n) set i (0,m)).1=bestG (gS bal nums) set i/\GoodM bal nums (fillK (fillN bal nums n) set i (0,m)).2/\Keep m (fillK (fillN bal nums n) set i (0,m)).2/\∀ j,j < i->set.testBit j=true->Closed (fillK (fillN bal nums n) set i (0,m)).2 (clr set j):=by
     intro i
     induction i with
     | zero=>intro _; exact ⟨rfl,hg,Keep.refl m,fun j hj=>absurd hj (Nat.not_lt_zero _)⟩
     | succ i ih =>
      intro hi
      obtain ⟨a1,a2,a3,a4⟩:=ih (by omega)
      simp only [fillK,bestG]
      cases hb:set.testBit i with
      | false =>
       simp only [Bool.false_eq_true,if_false]
       refine ⟨a1,a2,a3,fun j hj hbj=>?_⟩
       have:j≠i:=fun e=>by subst e; rw [hb] at hbj; cases hbj
       exact a4 j (by omega) hbj
      | true =>
       simp only [if_true]
       have hp:=pcK_clr hb (show i < nums.length by omega)
       obtain ⟨b1,b2,b3,b4⟩:=fill_spec n (clr set i) _ (by omega) (Nat.lt_of_le_of_lt (clr_le set i) hs) a2
       refine ⟨by rw [a1,b1],b2,a3.trans b3,fun j hj hbj=>?_⟩
       by_cases e:j=i
       ·subst e; exact b4
       ·exact (a4 j (by omega) hbj).keep b3
    obtain ⟨a1,a2,a3,a4⟩:=loop nums.length (Nat.le_refl _)
    generalize fillK (fillN bal nums n) set nums.length (0,m)=st at a1 a2 a3 a4 ⊢
    obtain ⟨best,mm⟩:=st
    simp only at a1 a2 a3 a4 ⊢
    have hv:(if sumS bal nums set=0 then IntKind.i64.wrap (best+1) else best)=gS bal nums set:=by rw [gS_eq set h0,a1]
    rw [hv]
    have hset:∀ mm',(∀ t,lookM mm' t=if t=set then some (gS bal nums set) else lookM mm t)->Closed mm' set:=fun mm' hl' t ht hsub=>by
     by_cases e:t=set
     ·rw [hl',if_pos e]; simp
     ·obtain ⟨i,h1,h2⟩:=subB_eq hsub e
      have hi:i < nums.length:=by
       refine Classical.byContradiction fun hx=>?_
       have:=Nat.testBit_lt_two_pow (x:=set) (i:=i) (Nat.lt_of_lt_of_le hs (Nat.pow_le_pow_right (by omega) (by omega)))
       rw [h1] at this; cases this
      rw [hl',if_neg e]
      exact a4 i hi h1 t ht (subB_clr_of hsub h2)
    have hlk:=look_ins mm set
    have hcl:=hset _ fun t=>look_ins mm set t (gS bal nums set)
    have hkp:∀ t,lookM mm t≠none->lookM (insM mm set (gS bal nums set)) t≠none:=fun t ht=>by
     rw [look_ins]; split<;>simp [ht]
    refine ⟨rfl,fun s v hsv=>?_,fun s v hsv=>?_,hcl⟩
    ·rw [look_ins] at hsv
     split at hsv
     ·rename_i e; subst e
      simp only [Option.some.injEq] at hsv
      exact ⟨hsv.symm,hcl⟩
     ·obtain ⟨c1,c2⟩:=a2 s v hsv
      exact ⟨c1,fun t h1 h2=>hkp t (c2 t h1 h2)⟩
    ·rw [look_ins]
     have hne:s≠set:=fun e=>by subst e; rw [hl] at hsv; cases hsv
     rw [if_neg hne]
     exact a3 s v hsv
theorem goodM_nil:GoodM bal nums []:=fun s v h=>by simp [lookM,idxM] at h
theorem fill_same {n set:Nat} {m:Memo} (h:set=0\/lookM m set≠none):(fillN bal nums (n+1) set m).2=m:=by
 unfold fillN
 cases hl:lookM m set with
 | some v=>rfl
 | none =>
  rcases h with rfl | h
  ·simp
  ·exact absurd hl h
end
theorem ev_mid {G:Pg} {L:Live} {N n:Nat} {D:Drawer} {x y:Code} {σ:St} {Q:Ex->St->Prop} (τ:St) (h1:Ev (exec G L N D n x σ) (fun e σ'=>e = .normal/\σ'=τ)) (h2:Ev (exec G L N D n y τ) Q):Ev (exec G L N D n (x.seq y) σ) Q:=by
 obtain ⟨e,σ',h3,h4,h5⟩:=h1.get
 subst h4; subst h5
 simp only [exec,h3]
 exact h2
theorem ev_midP {G:Pg} {L:Live} {N n:Nat} {D:Drawer} {x y:Code} {σ:St} {Q:Ex->St->Prop} (S:St->Prop) (h1:Ev (exec G L N D n x σ) (fun e σ'=>e = .normal/\S σ')) (h2:∀ τ,S τ->Ev (exec G L N D n y τ) Q):Ev (exec G L N D n (x.seq y) σ) Q:=by
 obtain ⟨e,σ',h3,h4,h5⟩:=h1.get
 subst h4
 simp only [exec,h3]
 exact h2 σ' h5
def firstK (p:Nat->Bool) (K:Nat):Option Nat:=(List.range K).find? p
theorem firstK_some {p:Nat->Bool} {K i:Nat} (hi:i < K) (hp:p i=true) (hn:∀ j,j < i->p j=false):firstK p K=some i:=by
 unfold firstK
 rw [List.find?_range_eq_some]
 exact ⟨hp,List.mem_range.2 hi,fun j hj=>by simp [hn j hj]⟩
def wantF (bal:List Int) (nums:List Nat) (set:Nat):Int:=if sumS bal nums set=0 then IntKind.i64.wrap (gS bal nums set-1) else gS bal nums set
def outP (bal:List Int) (nums:List Nat) (set op:Nat) (out:List Nat):List Nat:=if sumS bal nums set=0/\op≠0 then out++[op] else out
def opP (bal:List Int) (nums:List Nat) (set op:Nat):Nat:=if sumS bal nums set=0/\op≠0 then 0 else op
def hit (bal:List Int) (nums:List Nat) (set k:Nat):Bool:=set.testBit k&&(gS bal nums (clr set k)==wantF bal nums set)
def grpF (bal:List Int) (nums:List Nat):Nat->Nat->Nat->List Nat->List Nat
 | 0,_,_,out=>out
 | n+1,set,op,out=>if set=0 then (if op=0 then out else out++[op]) else
  match firstK (hit bal nums set) nums.length with
  | some k=>grpF bal nums n (clr set k) (opP bal nums set op ||| 2^k) (outP bal nums set op out)
  | none=>out
def groupsS (bal:List Int) (nums:List Nat) (set:Nat):List Nat:=grpF bal nums (pcK set nums.length+1) set 0 []
section
variable {bal:List Int} {nums:List Nat}
theorem best_bound {F:Nat->Int} {set:Nat} {B:Int} (hB:0<=B):∀ {K:Nat},(∀ i,i < K->set.testBit i=true->F (clr set i)<=B)->0<=bestG F set K/\bestG F set K<=B
 | 0,_=>⟨Int.le_refl _,hB⟩
 | K+1,h=>by
  obtain ⟨h1,h2⟩:=best_bound (K:=K) hB fun i hi=>h i (by omega)
  simp only [bestG]
  split
  ·rename_i hb
   have:=h K (by omega) hb
   omega
  ·exact ⟨h1,h2⟩
theorem bit_of {set K:Nat} (h0:set≠0) (hs:set < 2^K):∃ i,i < K/\set.testBit i=true:=by
 obtain ⟨i,h1,_⟩:=subB_eq (t:=0) (s:=set) (fun j hj=>by simp at hj) (fun e=>h0 e.symm)
 refine ⟨i,?_,h1⟩
 refine Classical.byContradiction fun hx=>?_
 have:=Nat.testBit_lt_two_pow (x:=set) (i:=i) (Nat.lt_of_lt_of_le hs (Nat.pow_le_pow_right (by omega) (by omega)))
 rw [h1] at this; cases this
theorem gS_bound (hn:nums.length<=10):∀ (n set:Nat),pcK set nums.length < n->set < 2^nums.length->0<=gS bal nums set/\gS bal nums set<=pcK set nums.length
 | 0,_,h,_=>absurd h (Nat.not_lt_zero _)
 | n+1,set,h,hs=>by
  by_cases h0:set=0
  ·subst h0; rw [gS_zero]; omega
  ·rw [gS_eq set h0]
   obtain ⟨i,hi,hb⟩:=bit_of h0 hs
   have hpos:0 < pcK set nums.length:=by have:=pcK_clr hb hi; omega
   have hbd:=best_bound (F:=gS bal nums) (set:=set) (B:=(pcK set nums.length:Int)-1) (by omega) (K:=nums.length) fun i hi hb=>by
    have h1:=pcK_clr hb hi
    have:=(gS_bound hn n (clr set i) (by omega) (Nat.lt_of_le_of_lt (clr_le set i) hs)).2
    omega
   have hle:=pcK_le set nums.length
   split
   ·rw [wrap_id (by omega) (by omega)]; omega
   ·omega
theorem best_at {F:Nat->Int} {set:Nat}:∀ {K:Nat},(∀ i,i < K->set.testBit i=true->0<=F (clr set i))->(∃ i,i < K/\set.testBit i=true)->∃ k,k < K/\set.testBit k=true/\F (clr set k)=bestG F set K
 | 0,_,⟨i,hi,_⟩=>absurd hi (Nat.not_lt_zero _)
 | K+1,h,hx=>by
  simp only [bestG]
  cases hb:set.testBit K with
  | false =>
   obtain ⟨i,hi,hbi⟩:=hx
   have hne:i≠K:=fun e=>by subst e; rw [hb] at hbi; cases hbi
   obtain ⟨k,h1,h2,h3⟩:=best_at (K:=K) (fun i hi=>h i (by omega)) ⟨i,by omega,hbi⟩
   exact ⟨k,by omega,h2,by simpa using h3⟩
  | true =>
   simp only [if_true]
   by_cases hy:∃ i,i < K/\set.testBit i=true
   ·obtain ⟨k,h1,h2,h3⟩:=best_at (K:=K) (fun i hi=>h i (by omega)) hy
    by_cases hle:bestG F set K<=F (clr set K)
    ·exact ⟨K,by omega,hb,by omega⟩
    ·exact ⟨k,by omega,h2,by rw [h3]; omega⟩
   ·have hz:bestG F set K=0:=by
     have key:∀ q,q<=K->bestG F set q=0:=by
      intro q
      induction q with
      | zero=>intro _; rfl
      | succ q ih =>
       intro hq
       simp only [bestG]
       have:¬ set.testBit q=true:=fun hbq=>hy ⟨q,by omega,hbq⟩
       rw [if_neg this,ih (by omega)]
     exact key K (Nat.le_refl _)
    have:=h K (by omega) hb
    exact ⟨K,by omega,hb,by rw [hz]; omega⟩
theorem hit_some (hn:nums.length<=10) {set:Nat} (h0:set≠0) (hs:set < 2^nums.length):∃ k,k < nums.length/\hit bal nums set k=true:=by
 have hlt:∀ i,clr set i < 2^nums.length:=fun i=>Nat.lt_of_le_of_lt (clr_le set i) hs
 obtain ⟨k,h1,h2,h3⟩:=best_at (F:=gS bal nums) (set:=set) (K:=nums.length) (fun i hi hb=>(gS_bound hn _ (clr set i) (Nat.lt_succ_self _) (hlt i)).1) (bit_of h0 hs)
 refine ⟨k,h1,?_⟩
 have hb0:=gS_bound (bal:=bal) hn _ (clr set k) (Nat.lt_succ_self _) (hlt k)
 have hle:=pcK_le (clr set k) nums.length
 simp only [hit,h2,Bool.true_and,beq_iff_eq,wantF]
 rw [gS_eq set h0,<-h3]
 split
 ·rw [wrap_id (n:=gS bal nums (clr set k)+1) (by omega) (by omega),wrap_id (by omega) (by omega)]
  omega
 ·rfl
theorem grpF_stable (hn:nums.length<=10):∀ (n m set op:Nat) (out:List Nat),pcK set nums.length < n->pcK set nums.length < m->grpF bal nums n set op out=grpF bal nums m set op out
 | 0,_,_,_,_,h,_=>absurd h (Nat.not_lt_zero _)
 | _,0,_,_,_,_,h=>absurd h (Nat.not_lt_zero _)
 | n+1,m+1,set,op,out,h,h'=>by
  simp only [grpF]
  by_cases h0:set=0
  ·simp [h0]
  ·rw [if_neg h0,if_neg h0]
   cases hf:firstK (hit bal nums set) nums.length with
   | none=>rfl
   | some k =>
    unfold firstK at hf
    rw [List.find?_range_eq_some] at hf
    obtain ⟨h1,h2,_⟩:=hf
    simp only [hit,Bool.and_eq_true] at h1
    have hp:=pcK_clr h1.1 (List.mem_range.1 h2)
    exact grpF_stable hn n m _ _ _ (by omega) (by omega)
end
def T69p:List (Nat×Plan):=[(15,[([1],[55]),([9],[55]),([44,45],[55]),([46],[55]),([47],[55]),([48],[55]),([5,49],[55]),([1,49],[55]),([9,49],[55]),([52,49],[55]),([51,53,49],[55]),([50,54,49],[]),([8,49],[55])]),(16,[([1],[]),([9],[]),([60],[]),([59,61],[]),([7],[]),([9],[]),([64],[]),([63,65],[]),([62,1],[])])]
def bsG (nums:List Nat) (m:Memo):List (Nat×Blk):=[(0,.arr 1 (ints (natL nums))),(1,.mp (memE m))]
def bookV (ro c1:Bool) (bal:List Int) (nums:List Nat) (a m:Nat):V:=.agg [.fv ro (.sl c1 1 (ints bal)),.own a 0 nums.length,.map m]
theorem inl69 (ctx:Ctx) (hC:CtxOk (pg ctx)) (h86:H86 ctx) (ro c1:Bool) (bal:List Int) (nums:List Nat) (set0:Nat) (ne:nums≠[]) (len:nums.length<=10) (hat:∀ i∈nums,i < bal.length) (hset0:set0 < 2^nums.length) :
  InlOK Tryd.prog 69 (tinyH (bsG nums [])) [bookV ro c1 bal nums 0 1,.fv false (.int .i64 (set0:Int))] ⟨witE 0 (bsG nums (fillN bal nums 11 set0 []).2),(2000000,.arr 1 (ints (natL (groupsS bal nums set0)))) :: bsG nums (fillN bal nums 11 set0 []).2,[]⟩ [.own 2000000 0 (groupsS bal nums set0).length]:=by
 have hG:=ctxG ctx hC h86
 have hpc0:pcK set0 nums.length < 11:=by have:=pcK_le set0 nums.length; omega
 have h62:∀ s,s < 2^nums.length->s < 2^62:=fun s hs=>Nat.lt_of_lt_of_le hs (Nat.pow_le_pow_right (by omega) (by omega))
 have hR:groupsS bal nums set0=grpF bal nums (pcK set0 nums.length+1) set0 0 []:=rfl
 generalize groupsS bal nums set0=RR at hR ⊢
 have hsp:=fill_spec (bal:=bal) (nums:=nums) 11 set0 [] hpc0 hset0 goodM_nil
 have hfull:∀ m x,m=(fillN bal nums 11 set0 []).2->x=(fillN bal nums 11 set0 []).1->wrF 11 85 ([(2,.box [.fv ro (.sl c1 1 (ints bal)),.own 100000000 0 nums.length,.map 100000001]),(5,.box [.fn (.func 85) [] [.ptr 2 0,.ptr 5 0]]),(100000000,.arr 1 (ints (natL nums))),(100000001,.mp [])]:List (Nat×Blk)) [.fv false (.int .i64 (set0:Int)),.ptr 2 0,.ptr 5 0]=some (100000001,.mp (memE m),.int .i64 x):=fun m x hm hx=>by
  subst hm; subst hx
  exact wrF_some.2 ⟨rfl,2,5,100000000,100000001,ro,c1,bal,nums,[],set0,{ ha:=rfl,hp:=rfl,hq:=rfl,hnb:=rfl,hm:=rfl,ne:=ne,len:=len,at':=hat,set':=hset0,pc:=hpc0,y:=by decide,r':=rfl }⟩
 have hnord:rdG 85 ([(2,.box [.fv ro (.sl c1 1 (ints bal)),.own 100000000 0 nums.length,.map 100000001]),(5,.box [.fn (.func 85) [] [.ptr 2 0,.ptr 5 0]]),(100000000,.arr 1 (ints (natL nums))),(100000001,.mp [])]:List (Nat×Blk)) [.fv false (.int .i64 (set0:Int)),.ptr 2 0,.ptr 5 0]=none\/(fillN bal nums 11 set0 []).2=[]/\rdG 85 ([(2,.box [.fv ro (.sl c1 1 (ints bal)),.own 100000000 0 nums.length,.map 100000001]),(5,.box [.fn (.func 85) [] [.ptr 2 0,.ptr 5 0]]),(100000000,.arr 1 (ints (natL nums))),(100000001,.mp [])]:List (Nat×Blk)) [.fv false (.int .i64 (set0:Int)),.ptr 2 0,.ptr 5 0]=some (.int .i64 (fillN bal nums 11 set0 []).1):=by
  cases hr:rdG 85 ([(2,.box [.fv ro (.sl c1 1 (ints bal)),.own 100000000 0 nums.length,.map 100000001]),(5,.box [.fn (.func 85) [] [.ptr 2 0,.ptr 5 0]]),(100000000,.arr 1 (ints (natL nums))),(100000001,.mp [])]:List (Nat×Blk)) [.fv false (.int .i64 (set0:Int)),.ptr 2 0,.ptr 5 0] with
  | none=>exact .inl rfl
  | some x =>
   right
   obtain ⟨_,⟨p,q,nb,m,ro',c1',bal',nums',memo',set',h,he⟩ | ⟨rfl,p,q,m,ro',c1',bal',h⟩⟩:=rdG_some.1 hr
   ·have hw:=(wrF_some.1 (hfull _ _ rfl rfl)).2
    have:=FillA.one ⟨_,_,_,_,_,_,_,_,_,_,h⟩ hw
    simp only [Prod.mk.injEq,Blk.mp.injEq] at this
    have hm2:lk m ([(2,.box [.fv ro (.sl c1 1 (ints bal)),.own 100000000 0 nums.length,.map 100000001]),(5,.box [.fn (.func 85) [] [.ptr 2 0,.ptr 5 0]]),(100000000,.arr 1 (ints (natL nums))),(100000001,.mp [])]:List (Nat×Blk))=some (.mp (memE memo')):=h.hm
    rw [this.1] at hm2
    have hm3:lk 100000001 ([(2,.box [.fv ro (.sl c1 1 (ints bal)),.own 100000000 0 nums.length,.map 100000001]),(5,.box [.fn (.func 85) [] [.ptr 2 0,.ptr 5 0]]),(100000000,.arr 1 (ints (natL nums))),(100000001,.mp [])]:List (Nat×Blk))=some (.mp (memE [])):=rfl
    rw [hm3] at hm2
    simp only [Option.some.injEq,Blk.mp.injEq] at hm2
    have e:=memE_inj hm2
    have e2:=memE_inj this.2.1
    exact ⟨by rw [<-e2,<-e],by rw [this.2.2]⟩
   ·exfalso
    have e1:=h.ha
    simp only [List.cons.injEq,V.fv.injEq,FV.int.injEq,true_and,V.ptr.injEq,and_true] at e1
    obtain ⟨_,rfl,rfl⟩:=e1
    have e2:=h.hp
    simp [lk] at e2
 generalize hfe:fillN bal nums 11 set0 []=fe at hfull hsp hnord ⊢
 obtain ⟨v0,M⟩:=fe
 simp only at hfull hsp hnord ⊢
 obtain ⟨_,hgood,_,hclosed⟩:=hsp
 have hwr:=hfull M v0 rfl rfl
 have hmem:∀ cs,subB cs set0->cs=0\/lookM M cs≠none:=fun cs hs=>by
  by_cases e:cs=0
  ·exact .inl e
  ·exact .inr (hclosed cs e hs)
 have key:∃ c,Tryd.f69.body=some c/\Ev (exec (pgG ctx) L69 Tryd.f69.ntmps (drawT T69p (pgG ctx) L69 Tryd.f69.ntmps) R c ((tinyH (bsG nums [])).enterI [bookV ro c1 bal nums 0 1,.fv false (.int .i64 (set0:Int))])) (fun e σ=>(e = .normal\/e = .ret)/\∃ vs,slotsA (pgG ctx) σ Tryd.f69.results.toList=some vs/\σ.leaveI 0=⟨witE 0 (bsG nums M),(2000000,.arr 1 (ints (natL RR))) :: bsG nums M,[]⟩/\vs.map (mapV (onLive σ (fdn 0 (surv σ.blk))) 6)=[.own 2000000 0 RR.length]):=by
  refine ⟨_,rfl,?_⟩
  have hent:(tinyH (bsG nums [])).enterI [bookV ro c1 bal nums 0 1,.fv false (.int .i64 (set0:Int))]=({ env:=[(0,.agg [.fv ro (.sl c1 1 (ints bal)),.own 100000000 0 nums.length,.map 100000001]),(1,.fv false (.int .i64 (set0:Int))),(100000000,.own 100000000 0 nums.length),(100000001,.map 100000001)],blk:=[(100000000,.arr 1 (ints (natL nums))),(100000001,.mp [])] }:St):=by
   simp [tinyH,bsG,bookV,witE,witV,St.enterI,St.mapN,mapEnv,mapBlk,parEnv,upEnv,fup,onLive,mapB,bmapB,mapV,pres,lk,memE]
  rw [hent]
  have hend:({ env:=[(4,.own 4 0 RR.length),(100000000,.own 100000000 0 nums.length),(100000001,.map 100000001)],blk:=[(4,.arr 1 (ints (natL RR))),(100000000,.arr 1 (ints (natL nums))),(100000001,.mp (memE M))] }:St).leaveI 0=⟨witE 0 (bsG nums M),(2000000,.arr 1 (ints (natL RR))) :: bsG nums M,[]⟩:=by
   simp [bsG,witE,witV,St.leaveI,St.leave,dnEnv,St.mapN,mapEnv,mapBlk,fdn,surv,idxOf,newN,onLive,mapB,bmapB,mapV,pres,lk]
   simp [memE,mapV]
  simp only [Tryd.ntmps69,Tryd.results69]
  refine ev_seq (ev_reg (by simp; rfl) ?_)
  refine ev_seq (ev_reg (by simp; rfl) ?_)
  refine ev_seq (ev_reg (by simp; rfl) ?_)
  have hs0:∀ s,subB s set0->s < 2^nums.length:=fun s hs=>subB_lt hs hset0
  have hrd:∀ (cs:Nat) (out:List Nat),subB cs set0->rdG 85 ([(2,.box [.fv ro (.sl c1 1 (ints bal)),.own 100000000 0 nums.length,.map 100000001]),(5,.box [.fn (.func 85) [] [.ptr 2 0,.ptr 5 0]]),(6,.arr 1 (ints (natL out))),(100000000,.arr 1 (ints (natL nums))),(100000001,.mp (memE M))]:List (Nat×Blk)) [.fv false (.int .i64 (cs:Int)),.ptr 2 0,.ptr 5 0]=some (.int .i64 (gS bal nums cs)):=fun cs out hs=>by
   have hlt:=hs0 cs hs
   have hp:pcK cs nums.length < 11:=by have:=pcK_le cs nums.length; omega
   have h1:=(fill_spec (bal:=bal) (nums:=nums) 11 cs M hp hlt hgood).1
   have h2:=fill_same (bal:=bal) (nums:=nums) (n:=10) (hmem cs hs)
   exact rdG_some.2 ⟨rfl,.inl ⟨2,5,100000000,100000001,ro,c1,bal,nums,M,cs,{ ha:=rfl,hp:=rfl,hq:=rfl,hnb:=rfl,hm:=rfl,ne:=ne,len:=len,at':=hat,set':=hlt,pc:=hp,y:=by decide,r':=by rw [h1,h2] },h2⟩⟩
  refine ev_mid ({ env:=[(1,.fv false (.int .i64 (set0:Int))),(2,.ptr 2 0),(5,.ptr 5 0),(100000000,.own 100000000 0 nums.length),(100000001,.map 100000001)],blk:=([(2,.box [.fv ro (.sl c1 1 (ints bal)),.own 100000000 0 nums.length,.map 100000001]),(5,.box [.fn (.func 85) [] [.ptr 2 0,.ptr 5 0]]),(100000000,.arr 1 (ints (natL nums))),(100000001,.mp (memE M))]:List (Nat×Blk)) }:St) ?_ ?_
  ·rcases hnord with hn | ⟨hn,hrr⟩
   ·refine ev_reg (by simp [hn,hwr]; rfl) ?_
    exact ⟨rfl,rfl⟩
   ·subst hn
    refine ev_reg (by simp [hrr]; rfl) ?_
    exact ⟨rfl,rfl⟩
  refine ev_seq (ev_reg (by simp; rfl) ?_)
  refine ev_seq (ev_reg (by simp; rfl) ?_)
  refine ev_seq (ev_block ?_)
  have htk:List.take nums.length (natL nums)=natL nums:=List.take_of_length_le (by simp)
  refine ev_loop (fun x:Nat×Nat×List Nat=>({ env:=[(1,.fv false (.int .i64 ((x.1:Nat):Int))),(2,.ptr 2 0),(5,.ptr 5 0),(6,.own 6 0 x.2.2.length),(7,.fv false (.int .i64 ((x.2.1:Nat):Int))),(100000000,.own 100000000 0 nums.length),(100000001,.map 100000001)],blk:=([(2,.box [.fv ro (.sl c1 1 (ints bal)),.own 100000000 0 nums.length,.map 100000001]),(5,.box [.fn (.func 85) [] [.ptr 2 0,.ptr 5 0]]),(6,.arr 1 (ints (natL x.2.2))),(100000000,.arr 1 (ints (natL nums))),(100000001,.mp (memE M))]:List (Nat×Blk)) }:St)) (fun x=>pcK x.1 nums.length) (fun x=>subB x.1 set0/\x.2.1 < 2^nums.length/\x.2.2.length+pcK x.1 nums.length<=nums.length/\grpF bal nums (pcK x.1 nums.length+1) x.1 x.2.1 x.2.2=RR) (set0,0,[]) (by simp [natL]) ⟨subB_refl _,Nat.pow_pos (by omega),by have:=pcK_le set0 nums.length; simp; omega,hR.symm⟩ (by have:=pcK_le set0 nums.length; simp [R]; omega) (fun x hx=>?_)
  obtain ⟨set,op,out⟩:=x
  obtain ⟨hx1,hx2,hx3,hx4⟩:=hx
  simp only at hx1 hx2 hx3 hx4 ⊢
  have hsl:=hs0 set hx1
  have hs62:=h62 set hsl
  have ho62:=h62 op hx2
  have ho10:out.length<=10:=by omega
  refine ev_seq (ev_seq (ev_reg (by simp; rfl) ?_))
  refine ev_cond rfl (fun hb=>?_) (fun hb=>?_)
  ·have hne:set≠0:=by simp at hb; omega
   have e86:∀ r r2,ctx 86 [(r,.agg [.sl c1 1 (ints bal),.sl false 1 (ints (natL nums)),.top]),(r2,.int .i64 (set:Int))]=some [.fv (.int .i64 (sumS bal nums set))]:=fun r r2=>h86 bal nums set r r2 c1 false 1 hs62 len hat (.inr rfl)
   refine ev_skip ?_
   refine ev_block ?_
   refine ev_midP (fun σ'=>σ'=({ env:=[(1,.fv false (.int .i64 ((set:Nat):Int))),(2,.ptr 2 0),(5,.ptr 5 0),(6,.own 6 0 (outP bal nums set op out).length),(7,.fv false (.int .i64 ((opP bal nums set op:Nat):Int))),(100000000,.own 100000000 0 nums.length),(100000001,.map 100000001)],blk:=([(2,.box [.fv ro (.sl c1 1 (ints bal)),.own 100000000 0 nums.length,.map 100000001]),(5,.box [.fn (.func 85) [] [.ptr 2 0,.ptr 5 0]]),(6,.arr 1 (ints (natL (outP bal nums set op out)))),(100000000,.arr 1 (ints (natL nums))),(100000001,.mp (memE M))]:List (Nat×Blk)) }:St)\/∃ b,σ'=({ env:=[(1,.fv false (.int .i64 ((set:Nat):Int))),(2,.ptr 2 0),(5,.ptr 5 0),(6,.own 6 0 (outP bal nums set op out).length),(7,.fv false (.int .i64 ((opP bal nums set op:Nat):Int))),(23,.fv false (.bool b)),(100000000,.own 100000000 0 nums.length),(100000001,.map 100000001)],blk:=([(2,.box [.fv ro (.sl c1 1 (ints bal)),.own 100000000 0 nums.length,.map 100000001]),(5,.box [.fn (.func 85) [] [.ptr 2 0,.ptr 5 0]]),(6,.arr 1 (ints (natL (outP bal nums set op out)))),(100000000,.arr 1 (ints (natL nums))),(100000001,.mp (memE M))]:List (Nat×Blk)) }:St)) ?_ (fun σ' hσ=>?_)
   ·by_cases hz:sumS bal nums set=0
    ·have hzb:(sumS bal nums set==0)=true:=by simp [hz]
     refine ev_seq (ev_reg (by simp [e86,htk,hzb]; rfl) ?_)
     refine ev_cond rfl (fun hb2=>?_) (fun hb2=>?_)
     ·have ho:op≠0:=by simp at hb2; omega
      have hbd:(out.length+1)*8<=140737488355328:=by omega
      have e1:outP bal nums set op out=out++[op]:=by unfold outP; rw [if_pos ⟨hz,ho⟩]
      have e2:opP bal nums set op=0:=by unfold opP; rw [if_pos ⟨hz,ho⟩]
      rw [e1,e2]
      refine ev_reg (by simp [hbd]; rfl) ?_
      refine ⟨rfl,.inl ?_⟩
      simp [natL]
     ·have ho:op=0:=by simp at hb2; omega
      have e1:outP bal nums set op out=out:=by unfold outP; rw [if_neg (by simp [ho])]
      have e2:opP bal nums set op=op:=by unfold opP; rw [if_neg (by simp [ho])]
      rw [e1,e2]
      refine ev_skip ?_
      exact ⟨rfl,.inr ⟨_,rfl⟩⟩
    ·have e1:outP bal nums set op out=out:=by unfold outP; rw [if_neg (by simp [hz])]
     have e2:opP bal nums set op=op:=by unfold opP; rw [if_neg (by simp [hz])]
     rw [e1,e2]
     have hzb:(sumS bal nums set==0)=false:=by simp [hz]
     refine ev_seq (ev_reg (by simp [e86,htk,hzb,unsetS]; rfl) ?_)
     refine ev_cond rfl (fun hb2=>?_) (fun hb2=>?_)
     ·simp at hb2
     ·refine ev_skip ?_
      exact ⟨rfl,.inr ⟨_,rfl⟩⟩
   obtain ⟨ix,hix,hval⟩:∃ ix,idxM M set=some ix/\(M.getD ix (0,0)).2=gS bal nums set:=by
    have h1:=hclosed set hne hx1
    cases hl:lookM M set with
    | none=>exact absurd hl h1
    | some v =>
     have h2:=(hgood set v hl).1
     unfold lookM at hl
     rw [Option.map_eq_some_iff] at hl
     obtain ⟨ix,h3,h4⟩:=hl
     exact ⟨ix,h3,by rw [h4,h2]⟩
   have hF:findF (kmatch (pgG ctx) 3 (.int .i64 (set:Int))) 0 (memE M)=some (some (ix,.fv false (.int .i64 (gS bal nums set)))):=by
    have:=findF_memE (G:=pgG ctx) rfl set M 0
    rw [hix,Option.map_some] at this
    simp only [hval,Nat.zero_add] at this
    exact this
   have hK:=keyOK_memE (G:=pgG ctx) rfl set
   have hout':(outP bal nums set op out).length<=out.length+1:=by unfold outP; split<;>simp
   have hop':opP bal nums set op < 2^nums.length:=by unfold opP; split; exact Nat.pow_pos (by omega); exact hx2
   generalize houte:outP bal nums set op out=out' at hout' hσ ⊢
   generalize hope:opP bal nums set op=op' at hop' hσ ⊢
   refine ev_mid ({ env:=[(1,.fv false (.int .i64 ((set:Nat):Int))),(2,.ptr 2 0),(5,.ptr 5 0),(6,.own 6 0 out'.length),(7,.fv false (.int .i64 ((op':Nat):Int))),(8,.fv false (.int .i64 (gS bal nums set))),(100000000,.own 100000000 0 nums.length),(100000001,.map 100000001)],blk:=([(2,.box [.fv ro (.sl c1 1 (ints bal)),.own 100000000 0 nums.length,.map 100000001]),(5,.box [.fn (.func 85) [] [.ptr 2 0,.ptr 5 0]]),(6,.arr 1 (ints (natL out'))),(100000000,.arr 1 (ints (natL nums))),(100000001,.mp (memE M))]:List (Nat×Blk)) }:St) ?_ ?_
   ·rcases hσ with rfl | ⟨b,rfl⟩
    ·refine ev_reg (by simp [-findF,-kmatch,-keyOK,hF,hK]; rfl) ?_
     exact ⟨rfl,rfl⟩
    ·refine ev_reg (by simp [-findF,-kmatch,-keyOK,hF,hK]; rfl) ?_
     exact ⟨rfl,rfl⟩
   refine ev_midP (fun σ'=>σ'=({ env:=[(1,.fv false (.int .i64 ((set:Nat):Int))),(2,.ptr 2 0),(5,.ptr 5 0),(6,.own 6 0 out'.length),(7,.fv false (.int .i64 ((op':Nat):Int))),(8,.fv false (.int .i64 (wantF bal nums set))),(100000000,.own 100000000 0 nums.length),(100000001,.map 100000001)],blk:=([(2,.box [.fv ro (.sl c1 1 (ints bal)),.own 100000000 0 nums.length,.map 100000001]),(5,.box [.fn (.func 85) [] [.ptr 2 0,.ptr 5 0]]),(6,.arr 1 (ints (natL out'))),(100000000,.arr 1 (ints (natL nums))),(100000001,.mp (memE M))]:List (Nat×Blk)) }:St)\/∃ b,σ'=({ env:=[(1,.fv false (.int .i64 ((set:Nat):Int))),(2,.ptr 2 0),(5,.ptr 5 0),(6,.own 6 0 out'.length),(7,.fv false (.int .i64 ((op':Nat):Int))),(8,.fv false (.int .i64 (wantF bal nums set))),(35,.fv false (.bool b)),(100000000,.own 100000000 0 nums.length),(100000001,.map 100000001)],blk:=([(2,.box [.fv ro (.sl c1 1 (ints bal)),.own 100000000 0 nums.length,.map 100000001]),(5,.box [.fn (.func 85) [] [.ptr 2 0,.ptr 5 0]]),(6,.arr 1 (ints (natL out'))),(100000000,.arr 1 (ints (natL nums))),(100000001,.mp (memE M))]:List (Nat×Blk)) }:St)) ?_ (fun σ' hσ=>?_)
   ·refine ev_seq (ev_reg (by simp [e86,htk]; rfl) ?_)
    refine ev_cond rfl (fun hb2=>?_) (fun hb2=>?_)
    ·have hz:sumS bal nums set=0:=by simpa using hb2
     have e1:wantF bal nums set=IntKind.i64.wrap (gS bal nums set-1):=by unfold wantF; rw [if_pos hz]
     rw [e1]
     refine ev_reg (by simp; rfl) ?_
     exact ⟨rfl,.inl rfl⟩
    ·have hz:sumS bal nums set≠0:=by simpa using hb2
     have e1:wantF bal nums set=gS bal nums set:=by unfold wantF; rw [if_neg hz]
     rw [e1]
     refine ev_skip ?_
     exact ⟨rfl,.inr ⟨_,rfl⟩⟩
   refine ev_mid ({ env:=[(1,.fv false (.int .i64 ((set:Nat):Int))),(2,.ptr 2 0),(5,.ptr 5 0),(6,.own 6 0 out'.length),(7,.fv false (.int .i64 ((op':Nat):Int))),(8,.fv false (.int .i64 (wantF bal nums set))),(40,.fv false (.int .i64 nums.length)),(41,.fv false (.int .i64 ((0:Nat):Int))),(100000000,.own 100000000 0 nums.length),(100000001,.map 100000001)],blk:=([(2,.box [.fv ro (.sl c1 1 (ints bal)),.own 100000000 0 nums.length,.map 100000001]),(5,.box [.fn (.func 85) [] [.ptr 2 0,.ptr 5 0]]),(6,.arr 1 (ints (natL out'))),(100000000,.arr 1 (ints (natL nums))),(100000001,.mp (memE M))]:List (Nat×Blk)) }:St) ?_ ?_
   ·rcases hσ with rfl | ⟨b,rfl⟩
    ·refine ev_reg (by simp; rfl) ?_
     exact ⟨rfl,rfl⟩
    ·refine ev_reg (by simp; rfl) ?_
     exact ⟨rfl,rfl⟩
   refine ev_block ?_
   refine ev_loop (fun i:Nat=>({ env:=[(1,.fv false (.int .i64 ((set:Nat):Int))),(2,.ptr 2 0),(5,.ptr 5 0),(6,.own 6 0 out'.length),(7,.fv false (.int .i64 ((op':Nat):Int))),(8,.fv false (.int .i64 (wantF bal nums set))),(40,.fv false (.int .i64 nums.length)),(41,.fv false (.int .i64 (i:Int))),(100000000,.own 100000000 0 nums.length),(100000001,.map 100000001)],blk:=([(2,.box [.fv ro (.sl c1 1 (ints bal)),.own 100000000 0 nums.length,.map 100000001]),(5,.box [.fn (.func 85) [] [.ptr 2 0,.ptr 5 0]]),(6,.arr 1 (ints (natL out'))),(100000000,.arr 1 (ints (natL nums))),(100000001,.mp (memE M))]:List (Nat×Blk)) }:St)) (fun i=>nums.length-i) (fun i=>i<=nums.length/\∀ j,j < i->hit bal nums set j=false) 0 rfl ⟨by omega,fun j hj=>absurd hj (Nat.not_lt_zero _)⟩ (by simp [R]; omega) (fun i hi=>?_)
   obtain ⟨hi1,hi2⟩:=hi
   refine ev_seq (ev_reg (by simp; rfl) ?_)
   refine ev_seq (ev_cond rfl (fun hb3=>?_) (fun hb3=>?_))
   ·simp at hb3
    refine ev_skip ?_
    refine ev_seq (ev_block ?_)
    refine ev_seq (ev_reg (by simp; rfl) ?_)
    obtain ⟨q,f1,r,f2,f3,_⟩:=bit_facts set i hs62 (by omega)
    obtain ⟨q2,g1,g2⟩:=clr_facts set i hs62 (by omega)
    have hsub:subB (clr set i) set0:=subB_trans (subB_clr set i) hx1
    have hr:=hrd (clr set i) out' hsub
    have hhit:hit bal nums set i=(set.testBit i&&(gS bal nums (clr set i)==wantF bal nums set)):=rfl
    refine ev_seq (ev_drw (σ':=({ env:=[(1,.fv false (.int .i64 ((set:Nat):Int))),(2,.ptr 2 0),(5,.ptr 5 0),(6,.own 6 0 out'.length),(7,.fv false (.int .i64 ((op':Nat):Int))),(8,.fv false (.int .i64 (wantF bal nums set))),(9,.fv false (.int .i64 (i:Int))),(40,.fv false (.int .i64 nums.length)),(41,.fv false (.int .i64 (i:Int))),(58,.fv false (.bool (hit bal nums set i))),(100000000,.own 100000000 0 nums.length),(100000001,.map 100000001)],blk:=([(2,.box [.fv ro (.sl c1 1 (ints bal)),.own 100000000 0 nums.length,.map 100000001]),(5,.box [.fn (.func 85) [] [.ptr 2 0,.ptr 5 0]]),(6,.arr 1 (ints (natL out'))),(100000000,.arr 1 (ints (natL nums))),(100000001,.mp (memE M))]:List (Nat×Blk)) }:St)) rfl (by kernel_rfl) (by kernel_rfl) ?_ ?_)
    ·rw [hhit]
     generalize clr set i=cs at hr g2
     cases hbit:set.testBit i with
     | false =>
      rw [hbit] at f3
      simp [-fint,f1,f2,f3,g1,g2]
     | true =>
      rw [hbit] at f3
      have f4:fint .eql .i64 (gS bal nums cs) (wantF bal nums set)=some (.bool (gS bal nums cs==wantF bal nums set)):=rfl
      simp [-fint,f1,f2,f3,g1,g2,hr,f4]
    refine ev_cond rfl (fun hb4=>?_) (fun hb4=>?_)
    ·have hb4:hit bal nums set i=true:=hb4
     have hfk:=firstK_some (K:=nums.length) hb3 hb4 hi2
     have hbit:set.testBit i=true:=by
      rw [hhit,Bool.and_eq_true] at hb4
      exact hb4.1
     have hpc:=pcK_clr hbit hb3
     have hgr:grpF bal nums (pcK set nums.length+1) set op out=grpF bal nums (pcK set nums.length) (clr set i) (op' ||| 2^i) out':=by
      conv=>lhs; unfold grpF
      rw [if_neg hne,hfk]
      simp only [houte,hope]
     have hst:=grpF_stable (bal:=bal) len (pcK set nums.length) (pcK (clr set i) nums.length+1) (clr set i) (op' ||| 2^i) out' hpc (Nat.lt_succ_self _)
     have hop62:=h62 op' hop'
     obtain ⟨q3,k1,k2⟩:=or_facts op' i hop62 (by omega)
     have e23:q3=q2:=by rw [g1] at k1; simpa using k1.symm
     subst e23
     have hop2:op' ||| 2^i < 2^nums.length:=Nat.or_lt_two_pow hop' (Nat.pow_lt_pow_right (by omega) hb3)
     refine ev_seq (ev_drw (σ':=({ env:=[(1,.fv false (.int .i64 (((clr set i):Nat):Int))),(2,.ptr 2 0),(5,.ptr 5 0),(6,.own 6 0 out'.length),(7,.fv false (.int .i64 (((op' ||| 2^i):Nat):Int))),(100000000,.own 100000000 0 nums.length),(100000001,.map 100000001)],blk:=([(2,.box [.fv ro (.sl c1 1 (ints bal)),.own 100000000 0 nums.length,.map 100000001]),(5,.box [.fn (.func 85) [] [.ptr 2 0,.ptr 5 0]]),(6,.arr 1 (ints (natL out'))),(100000000,.arr 1 (ints (natL nums))),(100000001,.mp (memE M))]:List (Nat×Blk)) }:St)) rfl (by kernel_rfl) (by kernel_rfl) ?_ ?_)
     ·generalize clr set i=cs at g2
      generalize op' ||| 2^i=o2 at k2
      simp [-fint,g1,g2,k2]
     refine ev_exit ?_
     exact ⟨(clr set i,op' ||| 2^i,out'),rfl,⟨hsub,hop2,by simp only; omega,by simp only; rw [<-hst,<-hgr]; exact hx4⟩,by simp only; omega⟩
    ·have hb4:hit bal nums set i=false:=hb4
     refine ev_skip ?_
     refine ev_reg (by simp; rfl) ?_
     refine ⟨i+1,?_,⟨by omega,fun j hj=>?_⟩,by omega⟩
     ·simp
      exact wrap_nat (n:=i+1) (by omega)
     ·by_cases e:j=i
      ·subst e; exact hb4
      ·exact hi2 j (by omega)
   ·simp at hb3
    exfalso
    obtain ⟨k,h1,h2⟩:=hit_some (bal:=bal) len hne hsl
    rw [hi2 k (by omega)] at h2
    cases h2
  ·have hs00:set=0:=by simp at hb; omega
   have hgr:RR=(if op=0 then out else out++[op]):=by
    rw [<-hx4]
    conv=>lhs; unfold grpF
    rw [if_pos hs00]
   refine ev_exit ?_
   refine ev_seq (ev_seq (ev_reg (by simp; rfl) ?_))
   have fin:(Ex.ret = .normal\/Ex.ret = .ret)/\∃ vs,slotsA (pgG ctx) ({ env:=[(4,.own 4 0 RR.length),(100000000,.own 100000000 0 nums.length),(100000001,.map 100000001)],blk:=[(4,.arr 1 (ints (natL RR))),(100000000,.arr 1 (ints (natL nums))),(100000001,.mp (memE M))] }:St) [.tmp 4]=some vs/\({ env:=[(4,.own 4 0 RR.length),(100000000,.own 100000000 0 nums.length),(100000001,.map 100000001)],blk:=[(4,.arr 1 (ints (natL RR))),(100000000,.arr 1 (ints (natL nums))),(100000001,.mp (memE M))] }:St).leaveI 0=⟨witE 0 (bsG nums M),(2000000,.arr 1 (ints (natL RR))) :: bsG nums M,[]⟩/\vs.map (mapV (onLive ({ env:=[(4,.own 4 0 RR.length),(100000000,.own 100000000 0 nums.length),(100000001,.map 100000001)],blk:=[(4,.arr 1 (ints (natL RR))),(100000000,.arr 1 (ints (natL nums))),(100000001,.mp (memE M))] }:St) (fdn 0 (surv [(4,.arr 1 (ints (natL RR))),(100000000,.arr 1 (ints (natL nums))),(100000001,.mp (memE M))]))) 6)=[.own 2000000 0 RR.length]:=by
    refine ⟨.inr rfl,[.own 4 0 RR.length],by simp,hend,?_⟩
    simp [mapV,onLive,pres,lk,fdn,surv,idxOf,newN]
   refine ev_cond rfl (fun hb2=>?_) (fun hb2=>?_)
   ·have ho:op≠0:=by simp at hb2; omega
    rw [if_neg ho] at hgr
    have hbd:(out.length+1)*8<=140737488355328:=by omega
    refine ev_reg (by simp [hbd]; rfl) ?_
    refine ev_seq (ev_reg (σ':=({ env:=[(4,.own 4 0 RR.length),(100000000,.own 100000000 0 nums.length),(100000001,.map 100000001)],blk:=[(4,.arr 1 (ints (natL RR))),(100000000,.arr 1 (ints (natL nums))),(100000001,.mp (memE M))] }:St)) (by rw [hgr]; simp [natL]) ?_)
    exact ev_ret fin
   ·have ho:op=0:=by simp at hb2; omega
    rw [if_pos ho] at hgr
    refine ev_skip ?_
    refine ev_seq (ev_reg (σ':=({ env:=[(4,.own 4 0 RR.length),(100000000,.own 100000000 0 nums.length),(100000001,.map 100000001)],blk:=[(4,.arr 1 (ints (natL RR))),(100000000,.arr 1 (ints (natL nums))),(100000001,.mp (memE M))] }:St)) (by rw [hgr]; simp) ?_)
    exact ev_ret fin
 obtain ⟨c,hb,hx⟩:=key
 obtain ⟨e,σ1,h1,h2,vs,h3,h4,h5⟩:=hx.get
 have:=inl_of_exec (G:=pgG ctx) (tokG ctx) hG rfl Tryd.func69 hb (drawOk (tokG ctx) hG mixed T69p L69 _) R 0 (by simp [Tryd.ntmps69]) h1 h2 h3
 rw [h4,h5] at this
 exact this
end Go.Proofs.YtejodhjhddnbeaaDoor.E
