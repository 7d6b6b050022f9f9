/-
  Clearings that are spoilt (ShareSpoilt): a clearing in which somebody pays a penny more, or is left out, is none; two of them after each other are one of both balances together, if these are balances, for any balances; a number chooses the payment. Conditions: none.
-/
import Derived.Test.YtejodhjhddnbeaaDoorZ21
import Derived.Test.YtejodhjhddnbeaaDoorZS1
import Derived.Test.YtejodhjhddnbeaaDoorZ25
set_option linter.unusedVariables false
set_option linter.unusedSimpArgs false
namespace Go.Proofs.YtejodhjhddnbeaaDoor.E
open Go Go.RowKit
def sumP (W:Nat->Int):Nat->Nat->Int
 | 0,_=>0
 | K+1,s=>sumP W K s+(if s.testBit K=true then W K else 0)
theorem sumP_congr {W:Nat->Int}:∀ {K s t:Nat},(∀ j,j < K->s.testBit j=t.testBit j)->sumP W K s=sumP W K t
 | 0,_,_,_=>rfl
 | K+1,s,t,h=>by
  simp only [sumP]
  rw [sumP_congr (K:=K) fun j hj=>h j (by omega),h K (by omega)]
theorem sumP_add {W:Nat->Int}:∀ {K x y z:Nat},(∀ j,j < K->z.testBit j=(x.testBit j||y.testBit j)/\(x.testBit j&&y.testBit j)=false)->sumP W K z=sumP W K x+sumP W K y
 | 0,_,_,_,_=>by simp [sumP]
 | K+1,x,y,z,h=>by
  simp only [sumP]
  rw [sumP_add (K:=K) fun j hj=>h j (by omega)]
  obtain ⟨h1,h2⟩:=h K (by omega)
  rw [h1]
  cases hx:x.testBit K<;>cases hy:y.testBit K
  ·simp
  ·simp; omega
  ·simp; omega
  ·rw [hx,hy] at h2; cases h2
theorem sumP_one {W:Nat->Int} {i:Nat}:∀ {K:Nat},i < K->sumP W K (2 ^ i)=W i
 | 0,h=>absurd h (Nat.not_lt_zero _)
 | K+1,h=>by
  simp only [sumP,Nat.testBit_two_pow]
  by_cases e:i=K
  ·subst e
   have:sumP W i (2 ^ i)=sumP W i 0:=sumP_congr fun j hj=>by
    rw [Nat.testBit_two_pow,Nat.zero_testBit]
    exact decide_eq_false (by omega)
   have h0:∀ K,sumP W K 0=0:=fun K=>by
    induction K with
    | zero=>rfl
    | succ K ih=>simp [sumP,ih]
   rw [this,h0]
   simp
  ·rw [sumP_one (K:=K) (by omega)]
   simp [e]
theorem sumP_zero {W:Nat->Int}:∀ K,sumP W K 0=0
 | 0=>rfl
 | K+1=>by simp [sumP,sumP_zero K]
theorem sumP_clr {W:Nat->Int} {K s i:Nat} (hi:i < K) (hb:s.testBit i=true):sumP W K (clr s i)=sumP W K s-W i:=by
 have:=sumP_add (W:=W) (K:=K) (x:=clr s i) (y:=2 ^ i) (z:=s) fun j _=>by
  rw [clr_bit,Nat.testBit_two_pow]
  by_cases e:i=j
  ·subst e; simp [hb]
  ·simp [e]
 rw [sumP_one hi] at this
 omega
def un (l:List Nat):Nat:=l.foldr (· ||| ·) 0
theorem un_bit:∀ (l:List Nat) (j:Nat),(un l).testBit j=l.any fun x=>x.testBit j
 | [],j=>by simp [un]
 | x :: l,j=>by
  have:=un_bit l j
  simp only [un] at this
  simp only [un,List.foldr_cons,Nat.testBit_or,List.any_cons,this]
def disj (x y:Nat):Prop:=∀ j,¬ (x.testBit j=true/\y.testBit j=true)
structure Part (W:Nat->Int) (K:Nat) (l:List Nat) (s:Nat):Prop where
 ne:∀ x∈l,x≠0
 sub:∀ x∈l,subB x s
 z:∀ x∈l,sumP W K x=0
 d:l.Pairwise disj
theorem un_sum {W:Nat->Int} {K:Nat}:∀ {l:List Nat},(∀ x∈l,sumP W K x=0)->l.Pairwise disj->sumP W K (un l)=0
 | [],_,_=>sumP_zero K
 | x :: l,h,hd=>by
  rw [List.pairwise_cons] at hd
  have:=sumP_add (W:=W) (K:=K) (x:=x) (y:=un l) (z:=un (x :: l)) fun j _=>by
   refine ⟨by rw [un_bit,un_bit,List.any_cons],?_⟩
   rw [un_bit]
   cases hx:x.testBit j with
   | false=>rfl
   | true =>
    rw [Bool.true_and,List.any_eq_false]
    intro y hy hb
    exact hd.1 y hy j ⟨hx,hb⟩
  rw [this,h x List.mem_cons_self,un_sum (fun y hy=>h y (List.mem_cons_of_mem _ hy)) hd.2]
  rfl
theorem best_ge {F:Nat->Int} {s i:Nat} (hb:s.testBit i=true):∀ {K:Nat},i < K->F (clr s i)<=bestG F s K
 | 0,h=>absurd h (Nat.not_lt_zero _)
 | K+1,h=>by
  simp only [bestG]
  by_cases e:i=K
  ·subst e
   rw [if_pos hb]
   omega
  ·have:=best_ge (F:=F) hb (K:=K) (by omega)
   split<;>omega
section
variable {bal:List Int} {nums:List Nat}
def wF (bal:List Int) (nums:List Nat) (k:Nat):Int:=bal.getD (nums.getD k 0) 0
theorem sumTo_eq {B:Int} (hB:0<=B) (hw:∀ k,-B<=wF bal nums k/\wF bal nums k<=B) (s:Nat):∀ i:Nat,(i:Int)*B < 4611686018427387904->sumTo bal nums s i=sumP (wF bal nums) i s/\-((i:Int)*B)<=sumP (wF bal nums) i s/\sumP (wF bal nums) i s<=(i:Int)*B
 | 0,_=>by simp [sumTo,sumP]
 | i+1,h=>by
  have hi:((i+1:Nat):Int)*B=(i:Int)*B+B:=by push_cast; rw [Int.add_mul,Int.one_mul]
  rw [hi] at h ⊢
  obtain ⟨h1,h2,h3⟩:=sumTo_eq hB hw s i (by omega)
  have hk:=hw i
  rw [sumTo_succ,h1]
  simp only [sumP]
  by_cases hb:s.testBit i=true
  ·rw [if_pos hb,if_pos hb]
   simp only [wF] at hk h2 h3 ⊢
   rw [wrap_id (by omega) (by omega)]
   omega
  ·rw [if_neg hb,if_neg hb]
   omega
structure BookOk (bal:List Int) (nums:List Nat):Prop where
 n:nums.length<=10
 w:∀ k,-1000000<=wF bal nums k/\wF bal nums k<=1000000
theorem BookOk.sum (h:BookOk bal nums) (s:Nat):sumS bal nums s=sumP (wF bal nums) nums.length s :=
 (sumTo_eq (B:=1000000) (by omega) h.w s nums.length (by have:=h.n; omega)).1
theorem part_le (h:BookOk bal nums):∀ (n s:Nat) (l:List Nat),pcK s nums.length < n->s < 2 ^ nums.length->Part (wF bal nums) nums.length l s->(l.length:Int)<=gS bal nums s
 | 0,_,_,hn,_,_=>absurd hn (Nat.not_lt_zero _)
 | n+1,s,l,hn,hs,hp=>by
  by_cases h0:s=0
  ·subst h0
   rw [gS_zero]
   cases l with
   | nil=>simp
   | cons x l =>
    exfalso
    refine hp.ne x List.mem_cons_self (Nat.eq_of_testBit_eq fun j=>?_)
    cases hj:x.testBit j with
    | false=>simp
    | true=>exact absurd (hp.sub x List.mem_cons_self j hj) (by simp)
  have hlt:∀ i,clr s i < 2 ^ nums.length:=fun i=>Nat.lt_of_le_of_lt (clr_le s i) hs
  have hin:∀ i,s.testBit i=true->i < nums.length:=fun i hb=>by
   refine Classical.byContradiction fun hx=>?_
   have:=Nat.testBit_lt_two_pow (x:=s) (i:=i) (Nat.lt_of_lt_of_le hs (Nat.pow_le_pow_right (by omega) (by omega)))
   rw [hb] at this; cases this
  have hbd:=gS_bound (bal:=bal) h.n _ s (Nat.lt_succ_self _) hs
  have hle:=pcK_le s nums.length
  have hn10:=h.n
  rw [gS_eq s h0] at hbd ⊢
  by_cases hx:∃ i,s.testBit i=true/\∀ x∈l,x.testBit i=false
  ·obtain ⟨i,hb,hno⟩:=hx
   have hi:=hin i hb
   have:=part_le h n (clr s i) l (by have:=pcK_clr hb hi; omega) (hlt i) ⟨hp.ne,fun x hx=>subB_clr_of (hp.sub x hx) (hno x hx),hp.z,hp.d⟩
   have hb2:=best_ge (F:=gS bal nums) hb hi
   split at hbd
   ·rename_i hz
    rw [if_pos hz]
    have hb0:=best_bound (F:=gS bal nums) (set:=s) (B:=10) (by omega) (K:=nums.length) fun i hi hb=>by
     have:=(gS_bound (bal:=bal) h.n _ (clr s i) (Nat.lt_succ_self _) (hlt i)).2
     have:=pcK_le (clr s i) nums.length
     omega
    rw [wrap_id (by omega) (by omega)]
    omega
   ·rename_i hz
    rw [if_neg hz]
    omega
  ·have hcov:∀ i,s.testBit i=true->∃ x∈l,x.testBit i=true:=fun i hb=>by
    refine Classical.byContradiction fun hno=>hx ⟨i,hb,fun x hxl=>?_⟩
    cases hxb:x.testBit i with
    | false=>rfl
    | true=>exact absurd ⟨x,hxl,hxb⟩ hno
   have hzs:sumS bal nums s=0:=by
    rw [h.sum]
    rw [<-un_sum hp.z hp.d]
    refine sumP_congr fun j _=>?_
    rw [un_bit,Bool.eq_iff_iff,List.any_eq_true]
    exact ⟨hcov j,fun ⟨x,hx,hb⟩=>hp.sub x hx j hb⟩
   rw [if_pos hzs] at hbd ⊢
   have hb0:=best_bound (F:=gS bal nums) (set:=s) (B:=10) (by omega) (K:=nums.length) fun i hi hb=>by
    have:=(gS_bound (bal:=bal) h.n _ (clr s i) (Nat.lt_succ_self _) (hlt i)).2
    have:=pcK_le (clr s i) nums.length
    omega
   rw [wrap_id (by omega) (by omega)]
   cases l with
   | nil=>simp; omega
   | cons x l =>
    have hxn:=hp.ne x List.mem_cons_self
    obtain ⟨i,hb,_⟩:=subB_eq (t:=0) (s:=x) (fun j hj=>by simp at hj) (fun e=>hxn e.symm)
    have hbs:=hp.sub x List.mem_cons_self i hb
    have hi:=hin i hbs
    have hd:=hp.d
    rw [List.pairwise_cons] at hd
    have:=part_le h n (clr s i) l (by have:=pcK_clr hbs hi; omega) (hlt i) ⟨fun y hy=>hp.ne y (List.mem_cons_of_mem _ hy),fun y hy=>subB_clr_of (hp.sub y (List.mem_cons_of_mem _ hy)) (by
     cases hyb:y.testBit i with
     | false=>rfl
     | true=>exact absurd ⟨hb,hyb⟩ (hd.1 y hy i)),fun y hy=>hp.z y (List.mem_cons_of_mem _ hy),hd.2⟩
    have hb2:=best_ge (F:=gS bal nums) hbs hi
    simp only [List.length_cons]
    push_cast
    omega
structure Way (bal:List Int) (nums:List Nat) (set op:Nat) (out:List Nat):Prop where
 s:set < 2 ^ nums.length
 o:op < 2 ^ nums.length
 ne:∀ x∈out,x≠0
 lt:∀ x∈out,x < 2 ^ nums.length
 z:∀ x∈out,sumP (wF bal nums) nums.length x=0
 d:out.Pairwise disj
 d1:∀ x∈out,disj x op/\disj x set
 d2:disj op set
 c:∀ j,j < nums.length->set.testBit j=true\/op.testBit j=true\/∃ x∈out,x.testBit j=true
 t:sumP (wF bal nums) nums.length op+sumP (wF bal nums) nums.length set=0
structure Done (bal:List Int) (nums:List Nat) (l:List Nat):Prop where
 ne:∀ x∈l,x≠0
 lt:∀ x∈l,x < 2 ^ nums.length
 z:∀ x∈l,sumP (wF bal nums) nums.length x=0
 d:l.Pairwise disj
 c:∀ j,j < nums.length->∃ x∈l,x.testBit j=true
theorem disj_symm {x y:Nat} (h:disj x y):disj y x:=fun j hj=>h j ⟨hj.2,hj.1⟩
theorem Way.push {set op:Nat} {out:List Nat} (h:Way bal nums set op out) (ho:op≠0) (hz:sumP (wF bal nums) nums.length op=0):(∀ x∈out++[op],x≠0)/\(∀ x∈out++[op],x < 2 ^ nums.length)/\(∀ x∈out++[op],sumP (wF bal nums) nums.length x=0)/\(out++[op]).Pairwise disj:=by
 refine ⟨fun x hx=>?_,fun x hx=>?_,fun x hx=>?_,?_⟩
 ·rcases List.mem_append.1 hx with hx | hx
  ·exact h.ne x hx
  ·simp only [List.mem_singleton] at hx; subst hx; exact ho
 ·rcases List.mem_append.1 hx with hx | hx
  ·exact h.lt x hx
  ·simp only [List.mem_singleton] at hx; subst hx; exact h.o
 ·rcases List.mem_append.1 hx with hx | hx
  ·exact h.z x hx
  ·simp only [List.mem_singleton] at hx; subst hx; exact hz
 ·rw [List.pairwise_append]
  refine ⟨h.d,by simp,fun a ha b hb=>?_⟩
  simp only [List.mem_singleton] at hb; subst hb
  exact (h.d1 a ha).1
theorem grp_done (h:BookOk bal nums):∀ (n set op:Nat) (out:List Nat),pcK set nums.length < n->Way bal nums set op out ->
  Done bal nums (grpF bal nums n set op out)/\(op≠0->((grpF bal nums n set op out).length:Int)=out.length+gS bal nums set+1)
 | 0,_,_,_,hn,_=>absurd hn (Nat.not_lt_zero _)
 | n+1,set,op,out,hn,hw=>by
  unfold grpF
  by_cases h0:set=0
  ·rw [if_pos h0]
   subst h0
   have hz0:sumP (wF bal nums) nums.length op=0:=by have:=hw.t; rw [sumP_zero] at this; omega
   by_cases ho:op=0
   ·subst ho
    rw [if_pos rfl]
    exact ⟨⟨hw.ne,hw.lt,hw.z,hw.d,fun j hj=>by
     rcases hw.c j hj with hx | hx | hx
     ·simp at hx
     ·simp at hx
     ·exact hx⟩,fun h=>absurd rfl h⟩
   ·rw [if_neg ho]
    obtain ⟨p1,p2,p3,p4⟩:=hw.push ho hz0
    refine ⟨⟨p1,p2,p3,p4,fun j hj=>?_⟩,fun _=>?_⟩
    ·rcases hw.c j hj with hx | hx | ⟨x,hx,hb⟩
     ·simp at hx
     ·exact ⟨op,by simp,hx⟩
     ·exact ⟨x,by simp [hx],hb⟩
    ·rw [gS_zero,List.length_append,List.length_singleton]
     push_cast
     omega
  ·rw [if_neg h0]
   obtain ⟨i,hi,hhit⟩:=hit_some (bal:=bal) h.n h0 hw.s
   cases hf:firstK (hit bal nums set) nums.length with
   | none=>exact absurd hf (firstK_ne hi hhit)
   | some k =>
    unfold firstK at hf
    rw [List.find?_range_eq_some] at hf
    obtain ⟨f1,f2,_⟩:=hf
    have hk:=List.mem_range.1 f2
    simp only [hit,Bool.and_eq_true,beq_iff_eq] at f1
    obtain ⟨hb,hwant⟩:=f1
    dsimp only
    have hbd:=gS_bound (bal:=bal) h.n _ set (Nat.lt_succ_self _) hw.s
    have hpl:=pcK_le set nums.length
    have hn10:=h.n
    have h2k:(2:Nat) ^ k < 2 ^ nums.length:=Nat.pow_lt_pow_right (by omega) hk
    have hpc:=pcK_clr hb hk
    have hclr:∀ {x:Nat},disj x set->disj x (clr set k):=fun hx j hj=>hx j ⟨hj.1,subB_clr set k j hj.2⟩
    have hk2:disj (2 ^ k) (clr set k):=fun j hj=>by
     rw [Nat.testBit_two_pow,clr_bit] at hj
     simp at hj
     exact hj.2.2 hj.1
    have hxk:∀ {x:Nat},disj x set->disj x (2 ^ k):=fun hx j hj=>by
     rw [Nat.testBit_two_pow] at hj
     simp at hj
     obtain ⟨h1,h2⟩:=hj
     subst h2
     exact hx k ⟨h1,hb⟩
    have hs':=sumP_clr (W:=wF bal nums) hk hb
    have hop2:(opP bal nums set op ||| 2 ^ k)≠0:=fun e=>by
     have:=congrArg (fun x=>Nat.testBit x k) e
     simp [Nat.testBit_or,Nat.testBit_two_pow] at this
    by_cases hpush:sumS bal nums set=0/\op≠0
    ·have eo:opP bal nums set op=0:=by unfold opP; rw [if_pos hpush]
     have eu:outP bal nums set op out=out++[op]:=by unfold outP; rw [if_pos hpush]
     have hz0:sumP (wF bal nums) nums.length op=0:=by
      have:=hw.t
      have hz:=hpush.1
      rw [h.sum] at hz
      omega
     obtain ⟨p1,p2,p3,p4⟩:=hw.push hpush.2 hz0
     rw [eo,Nat.zero_or] at hop2
     rw [eo,eu,Nat.zero_or]
     have hway:Way bal nums (clr set k) (2 ^ k) (out++[op]):=by
      refine ⟨Nat.lt_of_le_of_lt (clr_le set k) hw.s,h2k,p1,p2,p3,p4,fun x hx=>?_,hk2,fun j hj=>?_,?_⟩
      ·rcases List.mem_append.1 hx with hx | hx
       ·exact ⟨hxk (hw.d1 x hx).2,hclr (hw.d1 x hx).2⟩
       ·simp only [List.mem_singleton] at hx; subst hx
        exact ⟨hxk hw.d2,hclr hw.d2⟩
      ·rcases hw.c j hj with hx | hx | ⟨x,hx,hbx⟩
       ·by_cases e:k=j
        ·subst e; right; left; simp [Nat.testBit_two_pow]
        ·left; rw [clr_bit,hx]; simp [e]
       ·exact .inr (.inr ⟨op,by simp,hx⟩)
       ·exact .inr (.inr ⟨x,by simp [hx],hbx⟩)
      ·rw [sumP_one hk,hs']
       have hz:=hpush.1
       rw [h.sum] at hz
       omega
     obtain ⟨d1,d2⟩:=grp_done h n (clr set k) (2 ^ k) (out++[op]) (by omega) hway
     refine ⟨d1,fun _=>?_⟩
     rw [d2 hop2,hwant]
     unfold wantF
     rw [if_pos hpush.1,wrap_id (by omega) (by omega),List.length_append,List.length_singleton]
     push_cast
     omega
    ·have eo:opP bal nums set op=op:=by unfold opP; rw [if_neg hpush]
     have eu:outP bal nums set op out=out:=by unfold outP; rw [if_neg hpush]
     rw [eo] at hop2
     rw [eo,eu]
     have hway:Way bal nums (clr set k) (op ||| 2 ^ k) out:=by
      refine ⟨Nat.lt_of_le_of_lt (clr_le set k) hw.s,Nat.or_lt_two_pow hw.o h2k,hw.ne,hw.lt,hw.z,hw.d,fun x hx=>⟨fun j hj=>?_,hclr (hw.d1 x hx).2⟩,fun j hj=>?_,fun j hj=>?_,?_⟩
      ·rw [Nat.testBit_or] at hj
       obtain ⟨j1,j2⟩:=hj
       rcases (Bool.or_eq_true _ _).mp j2 with j2 | j2
       ·exact (hw.d1 x hx).1 j ⟨j1,j2⟩
       ·exact hxk (hw.d1 x hx).2 j ⟨j1,j2⟩
      ·rw [Nat.testBit_or] at hj
       obtain ⟨j1,j2⟩:=hj
       rcases (Bool.or_eq_true _ _).mp j1 with j1 | j1
       ·exact hclr hw.d2 j ⟨j1,j2⟩
       ·exact hk2 j ⟨j1,j2⟩
      ·rcases hw.c j hj with hx | hx | hx
       ·by_cases e:k=j
        ·subst e; right; left; simp [Nat.testBit_or,Nat.testBit_two_pow]
        ·left; rw [clr_bit,hx]; simp [e]
       ·right; left; simp [Nat.testBit_or,hx]
       ·exact .inr (.inr hx)
      ·have:=sumP_add (W:=wF bal nums) (K:=nums.length) (x:=op) (y:=2 ^ k) (z:=op ||| 2 ^ k) fun j _=>by
        refine ⟨Nat.testBit_or ..,?_⟩
        rw [Nat.testBit_two_pow]
        by_cases e:k=j
        ·subst e
         cases ho:op.testBit k with
         | false=>rfl
         | true=>exact absurd ⟨ho,hb⟩ (hw.d2 k)
        ·simp [e]
       rw [this,sumP_one hk,hs']
       have:=hw.t
       omega
     obtain ⟨d1,d2⟩:=grp_done h n (clr set k) (op ||| 2 ^ k) out (by omega) hway
     refine ⟨d1,fun ho=>?_⟩
     have hns:¬ sumS bal nums set=0:=fun hc=>hpush ⟨hc,ho⟩
     rw [d2 hop2,hwant]
     unfold wantF
     rw [if_neg hns]
theorem groups_done (h:BookOk bal nums) (hz:sumP (wF bal nums) nums.length (2 ^ nums.length-1)=0):Done bal nums (groupsS bal nums (2 ^ nums.length-1))/\((groupsS bal nums (2 ^ nums.length-1)).length:Int)=gS bal nums (2 ^ nums.length-1):=by
 have hall:∀ j,(2 ^ nums.length-1).testBit j=decide (j < nums.length):=fun j=>Nat.testBit_two_pow_sub_one ..
 have hpos:0 < 2 ^ nums.length:=Nat.pow_pos (by omega)
 have hw:Way bal nums (2 ^ nums.length-1) 0 []:=⟨by omega,hpos,by simp,by simp,by simp,by simp,by simp,fun j hj=>by simp at hj,fun j hj=>by left; rw [hall]; simp [hj],by rw [sumP_zero,hz]; rfl⟩
 obtain ⟨d1,_⟩:=grp_done h (pcK (2 ^ nums.length-1) nums.length+1) _ 0 [] (Nat.lt_succ_self _) hw
 refine ⟨d1,?_⟩
 have hle:=part_le h _ (2 ^ nums.length-1) (groupsS bal nums (2 ^ nums.length-1)) (Nat.lt_succ_self _) (by omega) ⟨d1.ne,fun x hx j hj=>by
  rw [hall]
  refine decide_eq_true (Classical.byContradiction fun hxx=>?_)
  have:=Nat.testBit_lt_two_pow (x:=x) (i:=j) (Nat.lt_of_lt_of_le (d1.lt x hx) (Nat.pow_le_pow_right (by omega) (by omega)))
  rw [hj] at this
  exact Bool.noConfusion this,d1.z,d1.d⟩
 refine Int.le_antisymm hle ?_
 by_cases h0:2 ^ nums.length-1=0
 ·rw [h0,gS_zero]; omega
 obtain ⟨i,hi,hhit⟩:=hit_some (bal:=bal) h.n h0 hw.s
 unfold groupsS
 rw [show pcK (2 ^ nums.length-1) nums.length+1=(pcK (2 ^ nums.length-1) nums.length)+1 from rfl]
 unfold grpF
 rw [if_neg h0]
 cases hf:firstK (hit bal nums (2 ^ nums.length-1)) nums.length with
 | none=>exact absurd hf (firstK_ne hi hhit)
 | some k =>
  unfold firstK at hf
  rw [List.find?_range_eq_some] at hf
  obtain ⟨f1,f2,_⟩:=hf
  have hk:=List.mem_range.1 f2
  simp only [hit,Bool.and_eq_true,beq_iff_eq] at f1
  obtain ⟨hb,hwant⟩:=f1
  have hbd:=gS_bound (bal:=bal) h.n _ _ (Nat.lt_succ_self _) hw.s
  have hpl:=pcK_le (2 ^ nums.length-1) nums.length
  have hn10:=h.n
  have hpc:=pcK_clr hb hk
  have eo:opP bal nums (2 ^ nums.length-1) 0=0:=by unfold opP; simp
  have eu:outP bal nums (2 ^ nums.length-1) 0 []=[]:=by unfold outP; simp
  have h2k:(2:Nat) ^ k < 2 ^ nums.length:=Nat.pow_lt_pow_right (by omega) hk
  have hs':=sumP_clr (W:=wF bal nums) hk hb
  have hway:Way bal nums (clr (2 ^ nums.length-1) k) (2 ^ k) []:=by
   refine ⟨Nat.lt_of_le_of_lt (clr_le _ k) hw.s,h2k,by simp,by simp,by simp,by simp,by simp,fun j hj=>?_,fun j hj=>?_,?_⟩
   ·rw [Nat.testBit_two_pow,clr_bit] at hj
    simp at hj
    exact hj.2.2 hj.1
   ·by_cases e:k=j
    ·subst e; right; left; simp [Nat.testBit_two_pow]
    ·left; rw [clr_bit,hall]; simp [e,hj]
   ·rw [sumP_one hk,hs',hz]; omega
  obtain ⟨_,d2⟩:=grp_done h (pcK (2 ^ nums.length-1) nums.length) (clr (2 ^ nums.length-1) k) (2 ^ k) [] hpc hway
  simp only [eo,eu,Nat.zero_or]
  rw [d2 (by have:0 < 2 ^ k:=Nat.pow_pos (by omega); omega),hwant]
  unfold wantF
  have hzs:sumS bal nums (2 ^ nums.length-1)=0:=by rw [h.sum]; exact hz
  rw [if_pos hzs,wrap_id (by omega) (by omega)]
  simp only [List.length_nil]
  omega
end
theorem nodup_sub_len:∀ {l m:List Nat},l.Nodup->(∀ x∈l,x∈m)->l.length<=m.length
 | [],m,_,_=>by simp
 | x :: l,m,hd,h=>by
  rw [List.nodup_cons] at hd
  have hx:=h x List.mem_cons_self
  have:=nodup_sub_len (l:=l) (m:=m.erase x) hd.2 fun y hy=>(List.mem_erase_of_ne (fun e=>by subst e; exact hd.1 hy)).2 (h y (List.mem_cons_of_mem _ hy))
  rw [List.length_erase_of_mem hx] at this
  have:=List.length_pos_of_mem hx
  simp only [List.length_cons]
  omega
theorem nodup_fl {L:List (List Nat)}:L.flatten.Nodup↔(∀ l∈L,l.Nodup)/\L.Pairwise (fun a b=>∀ x∈a,∀ y∈b,x≠y):=by
 simp only [List.nodup_iff_pairwise_ne,List.pairwise_flatten]
theorem nums_mono {bal:List Int} {a b:Nat} (hab:a < b) (hb:b < (numsF bal).length) (hup:(numsF bal).Pairwise (· < ·)):(numsF bal).getD a 0 < (numsF bal).getD b 0:=by
 rw [List.pairwise_iff_getElem] at hup
 have:=hup a b (by omega) hb hab
 have ea:(numsF bal).getD a 0=(numsF bal)[a]'(by omega):=by simp [List.getD_eq_getElem?_getD,show a < (numsF bal).length by omega]
 have eb:(numsF bal).getD b 0=(numsF bal)[b]:=by simp [List.getD_eq_getElem?_getD,hb]
 rw [ea,eb]
 exact this
theorem sumI_sgn {B:Int} (hB:0<=B):∀ (l:List Int) (n:Int),(∀ x∈l,-B<=x/\x<=B)->-(4611686018427387904-(l.length:Int)*B) < n->n < 4611686018427387904-(l.length:Int)*B->l.foldl (fun n x=>IntKind.i64.wrap (n+x)) n=n+l.sum/\-((l.length:Int)*B)<=l.sum/\l.sum<=(l.length:Int)*B
 | [],n,_,_,_=>by simp
 | x :: l,n,h,h1,h2=>by
  have hx:=h x List.mem_cons_self
  have e:((x :: l).length:Int)*B=l.length*B+B:=by rw [List.length_cons]; push_cast; rw [Int.add_mul,Int.one_mul]
  rw [e] at h1 h2 ⊢
  have hlB:0<=(l.length:Int)*B:=Int.mul_nonneg (by omega) hB
  have hw:IntKind.i64.wrap (n+x)=n+x:=wrap_id (by omega) (by omega)
  obtain ⟨k1,k2,k3⟩:=sumI_sgn hB l (n+x) (fun y hy=>h y (List.mem_cons_of_mem _ hy)) (by omega) (by omega)
  rw [List.foldl_cons,hw,k1,List.sum_cons]
  omega
theorem bal_facts {bal:List Int} (h:balances bal=true):bal.length<=10/\(∀ x∈bal,-1000000<=x/\x<=1000000)/\bal.sum=0:=by
 have h1:=bal_len h
 have h2:=bal_bound h
 have h3:=(sumI_sgn (B:=1000000) (by omega) bal 0 h2 (by omega) (by omega)).1
 refine ⟨h1,h2,?_⟩
 simp only [balances,Bool.and_eq_true,beq_iff_eq] at h
 have:=h.2
 unfold sumI at this
 omega
theorem bal_at {bal:List Int} (h:∀ x∈bal,-1000000<=x/\x<=1000000) (i:Nat):-1000000<=bal.getD i 0/\bal.getD i 0<=1000000:=by
 rw [List.getD_eq_getElem?_getD]
 cases hi:bal[i]? with
 | none=>simp
 | some x=>exact h x (List.mem_of_getElem? hi)
theorem book_ok {bal:List Int} (h:balances bal=true):BookOk bal (numsF bal) :=
 ⟨Nat.le_trans (nonz_len bal bal.length) (bal_facts h).1,fun k=>bal_at (bal_facts h).2.1 _⟩
theorem nonz_sum (bal:List Int):∀ i,i<=bal.length->((nonz bal i).map fun q=>bal.getD q 0).sum=(bal.take i).sum
 | 0,_=>by simp [nonz]
 | i+1,h=>by
  have ih:=nonz_sum bal i (by omega)
  have hg:bal.getD i 0=bal[i]'(by omega):=by simp [List.getD_eq_getElem?_getD,show i < bal.length by omega]
  rw [nonz_succ,List.take_add_one,List.getElem?_eq_getElem (show i < bal.length by omega),Option.toList_some,List.sum_append,List.sum_singleton]
  by_cases e:(bal.getD i 0==0)=true
  ·rw [if_pos e,ih]
   have:=beq_iff_eq.1 e
   omega
  ·rw [if_neg e,List.map_append,List.sum_append,ih]
   simp only [List.map_cons,List.map_nil,List.sum_singleton,hg]
def pos (K s:Nat):List Nat:=(List.range K).filter fun k=>s.testBit k
theorem pos_sum (W:Nat->Int):∀ (K s:Nat),((pos K s).map W).sum=sumP W K s
 | 0,s=>by simp [pos,sumP]
 | K+1,s=>by
  have ih:=pos_sum W K s
  unfold pos at ih ⊢
  rw [List.range_succ,List.filter_append,List.map_append,List.sum_append,ih]
  simp only [sumP]
  cases hb:s.testBit K<;>simp [hb]
theorem pos_all (K:Nat):pos K (2 ^ K-1)=List.range K:=by
 unfold pos
 refine List.filter_eq_self.2 fun a ha=>?_
 rw [Nat.testBit_two_pow_sub_one]
 exact decide_eq_true (List.mem_range.1 ha)
theorem range_nums (nums:List Nat) (f:Nat->Int):(List.range nums.length).map (fun k=>f (nums.getD k 0))=nums.map f:=by
 refine List.ext_getElem (by simp) fun i h1 h2=>?_
 have:i < nums.length:=by simpa using h1
 simp [List.getD_eq_getElem?_getD,this]
theorem all_zero {bal:List Int} (h:balances bal=true):sumP (wF bal (numsF bal)) (numsF bal).length (2 ^ (numsF bal).length-1)=0:=by
 rw [<-pos_sum,pos_all]
 have:=range_nums (numsF bal) fun q=>bal.getD q 0
 unfold wF
 rw [this]
 unfold numsF
 rw [nonz_sum bal _ (Nat.le_refl _),List.take_length]
 exact (bal_facts h).2.2
def mk (c:List Nat):Nat:=c.foldr (fun j a=>a ||| 2 ^ j) 0
theorem mk_bit:∀ (c:List Nat) (j:Nat),(mk c).testBit j=decide (j∈c)
 | [],j=>by simp [mk]
 | x :: c,j=>by
  have:=mk_bit c j
  simp only [mk] at this
  simp only [mk,List.foldr_cons,Nat.testBit_or,this,Nat.testBit_two_pow,List.mem_cons,Bool.decide_or]
  rw [Bool.or_comm]
  congr 1
  exact decide_eq_decide.2 eq_comm
theorem mk_sum {W:Nat->Int} {K:Nat}:∀ {c:List Nat},c.Nodup->(∀ j∈c,j < K)->sumP W K (mk c)=(c.map W).sum
 | [],_,_=>by simp [mk,sumP_zero]
 | x :: c,hd,h=>by
  rw [List.nodup_cons] at hd
  have hx:=h x List.mem_cons_self
  have ih:=mk_sum (W:=W) (K:=K) hd.2 fun j hj=>h j (List.mem_cons_of_mem _ hj)
  have:=sumP_add (W:=W) (K:=K) (x:=mk c) (y:=2 ^ x) (z:=mk (x :: c)) fun j _=>by
   refine ⟨by simp [mk],?_⟩
   rw [mk_bit,Nat.testBit_two_pow]
   by_cases e:x=j
   ·subst e; simp [hd.1]
   ·simp [e]
  rw [this,ih,sumP_one hx,List.map_cons,List.sum_cons]
  omega
theorem pos_nodup (K s:Nat):(pos K s).Nodup:=List.nodup_range.filter _
theorem pos_mem {K s j:Nat}:j∈pos K s↔j < K/\s.testBit j=true:=by
 unfold pos; rw [List.mem_filter,List.mem_range]
section
variable {bal:List Int} {nums:List Nat}
theorem no_part (h:BookOk bal nums) {L:List Nat} (hd:Done bal nums L) (hl:(L.length:Int)=gS bal nums (2 ^ nums.length-1)) {s:Nat} (hs:s∈L) {c:List Nat} (hc:c.Sublist (pos nums.length s)) (hne:c≠[]) (hlt:c.length < (pos nums.length s).length):(c.map (wF bal nums)).sum≠0:=by
 intro hz
 have hnd:c.Nodup:=hc.nodup (pos_nodup _ _)
 have hin:∀ j∈c,j < nums.length/\s.testBit j=true:=fun j hj=>pos_mem.1 (hc.subset hj)
 have hp:=mk_sum (W:=wF bal nums) hnd fun j hj=>(hin j hj).1
 rw [hz] at hp
 have hps:subB (mk c) s:=fun j hj=>by
  rw [mk_bit] at hj
  exact (hin j (of_decide_eq_true hj)).2
 have hpne:mk c≠0:=fun e=>by
  cases c with
  | nil=>exact hne rfl
  | cons x c =>
   have:=mk_bit (x :: c) x
   rw [e] at this
   simp at this
 obtain ⟨j,hj1,hj2⟩:∃ j,j∈pos nums.length s/\j∉c:=by
  refine Classical.byContradiction fun hx=>?_
  have hsub:pos nums.length s ⊆ c:=fun j hj=>Classical.byContradiction fun hjc=>hx ⟨j,hj,hjc⟩
  have:=nodup_sub_len (pos_nodup nums.length s) fun x hx=>hsub hx
  omega
 obtain ⟨hj1a,hj1b⟩:=pos_mem.1 hj1
 have hrb:∀ i,(s ^^^ mk c).testBit i=(s.testBit i&&!(mk c).testBit i):=fun i=>by
  rw [Nat.testBit_xor]
  cases hm:(mk c).testBit i with
  | false=>simp
  | true=>rw [hps i hm]; rfl
 have hr0:s ^^^ mk c≠0:=fun e=>by
  have:=hrb j
  rw [e,hj1b,mk_bit] at this
  simp [hj2] at this
 have hrs:sumP (wF bal nums) nums.length (s ^^^ mk c)=0:=by
  have:=sumP_add (W:=wF bal nums) (K:=nums.length) (x:=mk c) (y:=s ^^^ mk c) (z:=s) fun i _=>by
   rw [hrb]
   cases hm:(mk c).testBit i with
   | false=>simp
   | true=>rw [hps i hm]; simp
  rw [hd.z s hs,hp] at this
  omega
 have hall:∀ j,(2 ^ nums.length-1).testBit j=decide (j < nums.length):=fun j=>Nat.testBit_two_pow_sub_one ..
 have hsuball:∀ x,x < 2 ^ nums.length->subB x (2 ^ nums.length-1):=fun x hx j hj=>by
  rw [hall]
  refine decide_eq_true (Classical.byContradiction fun hxx=>?_)
  have:=Nat.testBit_lt_two_pow (x:=x) (i:=j) (Nat.lt_of_lt_of_le hx (Nat.pow_le_pow_right (by omega) (by omega)))
  rw [hj] at this; cases this
 have hrsub:subB (s ^^^ mk c) s:=fun i hi=>by
  rw [hrb] at hi
  simp only [Bool.and_eq_true] at hi
  exact hi.1
 have hpr:disj (mk c) (s ^^^ mk c):=fun i hi=>by
  rw [hrb,hi.1] at hi
  simp at hi
 obtain ⟨A,B,rfl⟩:=List.append_of_mem hs
 have hD:=hd.d
 rw [List.pairwise_append,List.pairwise_cons] at hD
 obtain ⟨dA,⟨dsB,dB⟩,dAB⟩:=hD
 have hsub2:∀ {x y:Nat},subB x s->disj s y->disj x y:=fun hx hy i hi=>hy i ⟨hx i hi.1,hi.2⟩
 have hnew:Part (wF bal nums) nums.length (A++mk c :: (s ^^^ mk c) :: B) (2 ^ nums.length-1):=by
  refine ⟨fun x hx=>?_,fun x hx=>?_,fun x hx=>?_,?_⟩
  ·simp only [List.mem_append,List.mem_cons] at hx
   rcases hx with hx | rfl | rfl | hx
   ·exact hd.ne x (by simp [hx])
   ·exact hpne
   ·exact hr0
   ·exact hd.ne x (by simp [hx])
  ·simp only [List.mem_append,List.mem_cons] at hx
   rcases hx with hx | rfl | rfl | hx
   ·exact hsuball x (hd.lt x (by simp [hx]))
   ·exact subB_trans hps (hsuball s (hd.lt s hs))
   ·exact subB_trans hrsub (hsuball s (hd.lt s hs))
   ·exact hsuball x (hd.lt x (by simp [hx]))
  ·simp only [List.mem_append,List.mem_cons] at hx
   rcases hx with hx | rfl | rfl | hx
   ·exact hd.z x (by simp [hx])
   ·exact hp
   ·exact hrs
   ·exact hd.z x (by simp [hx])
  ·rw [List.pairwise_append,List.pairwise_cons,List.pairwise_cons]
   refine ⟨dA,⟨fun y hy=>?_,fun y hy=>hsub2 hrsub (dsB y hy),dB⟩,fun a ha b hb=>?_⟩
   ·rcases List.mem_cons.1 hy with rfl | hy
    ·exact hpr
    ·exact hsub2 hps (dsB y hy)
   ·simp only [List.mem_cons] at hb
    have has:=disj_symm (dAB a ha s List.mem_cons_self)
    rcases hb with rfl | rfl | hb
    ·exact disj_symm (hsub2 hps has)
    ·exact disj_symm (hsub2 hrsub has)
    ·exact dAB a ha b (List.mem_cons_of_mem _ hb)
 have hpos:0 < 2 ^ nums.length:=Nat.pow_pos (by omega)
 have:=part_le h _ _ _ (Nat.lt_succ_self _) (by omega) hnew
 simp only [List.length_append,List.length_cons] at this hl
 omega
end
structure GroupOk (bal:List Int) (g:List Nat):Prop where
 two:2<=g.length
 ten:g.length<=10
 up:g.Pairwise (· < ·)
 nz:∀ q∈g,q < bal.length/\bal.getD q 0≠0
 sum:(g.map fun q=>bal.getD q 0).sum=0
 part:∀ c:List Nat,c.Sublist g->c≠[]->c.length < g.length->(c.map fun q=>bal.getD q 0).sum≠0
theorem nonz_mem2 {bal:List Int} {i q:Nat}:q∈nonz bal i↔q < i/\bal.getD q 0≠0:=by
 unfold nonz
 rw [List.mem_filter,List.mem_range]
 simp
theorem nonz_up (bal:List Int) (i:Nat):(nonz bal i).Pairwise (· < ·):=List.Pairwise.filter _ List.pairwise_lt_range
theorem mem_pos (nums:List Nat) (s:Nat):memS nums s=(pos nums.length s).map fun k=>nums.getD k 0:=rfl
theorem group_ok {bal:List Int} (h:balances bal=true):∀ g∈(groupsF bal).1,GroupOk bal g:=by
 intro g hg
 have hgf:(groupsF bal).1=(groupsS bal (numsF bal) (2^(numsF bal).length-1)).map (memS (numsF bal)):=by unfold groupsF; rw [if_pos h]
 rw [hgf,List.mem_map] at hg
 obtain ⟨s,hs,rfl⟩:=hg
 have hb:=book_ok h
 obtain ⟨hd,hl⟩:=groups_done hb (all_zero h)
 have hnum:∀ k,k < (numsF bal).length->(numsF bal).getD k 0∈numsF bal:=fun k hk=>by
  have:(numsF bal).getD k 0=(numsF bal)[k]:=by simp [List.getD_eq_getElem?_getD,hk]
  rw [this]; exact List.getElem_mem hk
 have hw:∀ k,k < (numsF bal).length->wF bal (numsF bal) k≠0:=fun k hk=>(nonz_mem2.1 (hnum k hk)).2
 have hmono:∀ a b,a < b->b < (numsF bal).length->(numsF bal).getD a 0 < (numsF bal).getD b 0:=fun a b hab hbl=>nums_mono hab hbl (nonz_up bal bal.length)
 rw [mem_pos]
 have hsum:((pos (numsF bal).length s).map (wF bal (numsF bal))).sum=0:=by rw [pos_sum]; exact hd.z s hs
 have hpart:=fun c hc h1 h2=>no_part hb hd hl hs (c:=c) hc h1 h2
 have hlen:(pos (numsF bal).length s).length<=10:=Nat.le_trans (pcK_le s (numsF bal).length) hb.n
 have hne:pos (numsF bal).length s≠[]:=fun e=>by
  refine hd.ne s hs (Nat.eq_of_testBit_eq fun j=>?_)
  cases hj:s.testBit j with
  | false=>simp
  | true =>
   exfalso
   have hjl:j < (numsF bal).length:=Classical.byContradiction fun hx=>by
    have:=Nat.testBit_lt_two_pow (x:=s) (i:=j) (Nat.lt_of_lt_of_le (hd.lt s hs) (Nat.pow_le_pow_right (by omega) (by omega)))
    rw [hj] at this; cases this
   have:=pos_mem.2 ⟨hjl,hj⟩
   rw [e] at this
   simp at this
 have hbd:∀ k∈pos (numsF bal).length s,k < (numsF bal).length:=fun k hk=>(pos_mem.1 hk).1
 have hup:(pos (numsF bal).length s).Pairwise (· < ·):=List.Pairwise.filter _ List.pairwise_lt_range
 generalize pos (numsF bal).length s=p at hsum hpart hlen hne hbd hup
 refine ⟨?_,by simpa using hlen,?_,fun q hq=>?_,?_,fun c hc h1 h2=>?_⟩
 ·rw [List.length_map]
  match p,hne,hsum,hbd with
  | [a],_,hz,hbd =>
   simp at hz
   exact absurd hz (hw a (hbd a (by simp)))
  | _ :: _ :: _,_,_,_=>simp
 ·rw [List.pairwise_map]
  exact hup.imp_of_mem fun {a b} ha hb' hab=>hmono a b hab (hbd b hb')
 ·obtain ⟨k,hk,rfl⟩:=List.mem_map.1 hq
  exact nonz_mem2.1 (hnum k (hbd k hk))
 ·rw [List.map_map]
  exact hsum
 ·obtain ⟨c',hc',rfl⟩:=List.sublist_map_iff.1 hc
  rw [List.map_map]
  exact hpart c' hc' (fun e=>h1 (by rw [e]; rfl)) (by simpa using h2)
theorem groups_once {bal:List Int} (h:balances bal=true):(groupsF bal).1.flatten.Nodup/\∀ q,q∈(groupsF bal).1.flatten↔q < bal.length/\bal.getD q 0≠0:=by
 have hgf:(groupsF bal).1=(groupsS bal (numsF bal) (2^(numsF bal).length-1)).map (memS (numsF bal)):=by unfold groupsF; rw [if_pos h]
 have hb:=book_ok h
 obtain ⟨hd,hl⟩:=groups_done hb (all_zero h)
 have hinj:∀ a b,a < (numsF bal).length->b < (numsF bal).length->(numsF bal).getD a 0=(numsF bal).getD b 0->a=b:=fun a b ha hb' e=>by
  have hmono:∀ a b,a < b->b < (numsF bal).length->(numsF bal).getD a 0 < (numsF bal).getD b 0:=fun a b hab hbl=>nums_mono hab hbl (nonz_up bal bal.length)
  rcases Nat.lt_trichotomy a b with k | k | k
  ·have:=hmono a b k hb'; omega
  ·exact k
  ·have:=hmono b a k ha; omega
 rw [hgf]
 constructor
 ·rw [nodup_fl]
  refine ⟨fun g hg=>?_,?_⟩
  ·obtain ⟨s,hs,rfl⟩:=List.mem_map.1 hg
   rw [mem_pos,List.nodup_iff_pairwise_ne,List.pairwise_map]
   exact (List.nodup_iff_pairwise_ne.1 (pos_nodup _ s)).imp_of_mem fun {a b} ha hb' hab e=>hab (hinj a b (pos_mem.1 ha).1 (pos_mem.1 hb').1 e)
  ·rw [List.pairwise_map]
   refine hd.d.imp fun {s t} hst=>?_
   intro q hq q' hq' eqq
   subst eqq
   rw [mem_pos,List.mem_map] at hq hq'
   obtain ⟨a,ha,e1⟩:=hq
   obtain ⟨b,hb',e2⟩:=hq'
   have:=hinj a b (pos_mem.1 ha).1 (pos_mem.1 hb').1 (e1.trans e2.symm)
   subst this
   exact hst a ⟨(pos_mem.1 ha).2,(pos_mem.1 hb').2⟩
 ·intro q
  rw [<-nonz_mem2 (bal:=bal) (i:=bal.length)]
  simp only [List.mem_flatten,List.mem_map]
  constructor
  ·rintro ⟨g,⟨s,hs,rfl⟩,hq⟩
   exact memS_mem q hq
  ·intro hq
   obtain ⟨k,hk,rfl⟩:=List.mem_iff_getElem.1 hq
   obtain ⟨s,hs,hbk⟩:=hd.c k hk
   refine ⟨_,⟨s,hs,rfl⟩,?_⟩
   rw [mem_pos,List.mem_map]
   exact ⟨k,pos_mem.2 ⟨hk,hbk⟩,by simp [List.getD_eq_getElem?_getD,hk,numsF]⟩
structure PayOk (l:List Int) (a b:Nat):Prop where
 ha:a < l.length
 hb:b < l.length
 na:l.getD a 0 < 0
 nb:0 < l.getD b 0
theorem PayOk.ne {l:List Int} {a b:Nat} (h:PayOk l a b):a≠b:=fun e=>by have:=h.na; have:=h.nb; rw [e] at *; omega
inductive Greedy:List Int->List Pay->List Int->Prop
 | nil (l:List Int):Greedy l [] l
 | cons {l:List Int} {a b:Nat} {ps:List Pay} {m:List Int} (h:PayOk l a b) (r:Greedy (payL l a b) ps m):Greedy l (⟨a,b,payN l a b⟩ :: ps) m
theorem Greedy.append {l m n:List Int} {p q:List Pay} (h:Greedy l p m) (h':Greedy m q n):Greedy l (p++q) n:=by
 induction h with
 | nil l=>exact h'
 | cons h _ ih=>exact .cons h (ih h')
theorem payL_get {l:List Int} {a b:Nat} (h:PayOk l a b) (q:Nat):(payL l a b).getD q 0=l.getD q 0+(if q=a then payN l a b else 0)-(if q=b then payN l a b else 0):=by
 have hne:=h.ne
 have ha:=h.ha
 have hb:=h.hb
 unfold payL
 rw [List.getD_eq_getElem?_getD,List.getElem?_set,List.getElem?_set,List.length_set]
 by_cases e1:b=q
 ·subst e1
  simp only [if_true,hb,Option.getD_some]
  rw [if_neg (fun e=>hne e.symm)]
  omega
 ·rw [if_neg e1]
  by_cases e2:a=q
  ·subst e2
   simp only [if_true,ha,Option.getD_some]
   rw [if_neg (fun e=>e1 e.symm)]
   omega
  ·rw [if_neg e2,if_neg (fun e=>e2 e.symm),if_neg (fun e=>e1 e.symm),<-List.getD_eq_getElem?_getD]
   omega
theorem payN_facts {l:List Int} {a b:Nat} (h:PayOk l a b):0 < payN l a b/\payN l a b<=-(l.getD a 0)/\payN l a b<=l.getD b 0/\(payN l a b=-(l.getD a 0)\/payN l a b=l.getD b 0):=by
 have h1:=h.na
 have h2:=h.nb
 unfold payN
 omega
theorem Greedy.length {l m:List Int} {p:List Pay} (h:Greedy l p m):m.length=l.length:=by
 induction h with
 | nil l=>rfl
 | cons h _ ih=>rw [ih,payL_length]
theorem sum_upd1 {f:List Nat} {g g':Nat->Int} {b:Nat} (hf:∀ q,q≠b->g q=g' q):f.Nodup->(b∉f->(f.map g).sum=(f.map g').sum)/\(b∈f->(f.map g).sum=(f.map g').sum+(g b-g' b)):=by
 induction f with
 | nil=>intro _; simp
 | cons x f ih =>
  intro hd
  rw [List.nodup_cons] at hd
  obtain ⟨i1,i2⟩:=ih hd.2
  simp only [List.map_cons,List.sum_cons,List.mem_cons,not_or]
  constructor
  ·rintro ⟨h1,h2⟩
   rw [i1 h2,hf x fun e=>h1 e.symm]
  ·intro h
   by_cases e:b=x
   ·subst e
    rw [i1 hd.1]; omega
   ·rw [i2 (h.resolve_left e),hf x fun e'=>e e'.symm]; omega
theorem pay_sum {l:List Int} {a b:Nat} (h:PayOk l a b) {f:List Nat} (hd:f.Nodup) (hab:a∈f↔b∈f):(f.map fun q=>(payL l a b).getD q 0).sum=(f.map fun q=>l.getD q 0).sum:=by
 have hne:=h.ne
 have e1:=sum_upd1 (f:=f) (g:=fun q=>(payL l a b).getD q 0) (g':=fun q=>if q=b then (payL l a b).getD a 0-payN l a b+(l.getD b 0-l.getD a 0) else (payL l a b).getD q 0) (b:=b) (fun q hq=>by simp [hq]) hd
 have e2:=sum_upd1 (f:=f) (g:=fun q=>(if q=a then (payL l a b).getD q 0 else l.getD q 0)) (g':=fun q=>l.getD q 0) (b:=a) (fun q hq=>by simp [hq]) hd
 have e3:=sum_upd1 (f:=f) (g:=fun q=>(payL l a b).getD q 0) (g':=fun q=>(if q=a then (payL l a b).getD q 0 else l.getD q 0)) (b:=b) (fun q hq=>by
  by_cases hqa:q=a
  ·simp [hqa]
  ·simp only [hqa,if_false]
   rw [payL_get h,if_neg hqa,if_neg hq]; omega) hd
 have ga:=payL_get h a
 have gb:=payL_get h b
 rw [if_pos rfl,if_neg hne] at ga
 rw [if_neg (fun e=>hne e.symm),if_pos rfl] at gb
 by_cases hm:b∈f
 ·have ha:=hab.2 hm
  rw [e3.2 hm,e2.2 ha]
  simp only [if_true,if_neg (fun e:b=a=>hne e.symm)]
  omega
 ·have ha:a∉f:=fun hx=>hm (hab.1 hx)
  rw [e3.1 hm,e2.1 ha]
theorem countP_lt {α:Type} {p q:α->Bool}:∀ {l:List α} {a:α},(∀ x∈l,p x=true->q x=true)->a∈l->q a=true->p a=false->l.countP p < l.countP q
 | [],a,_,h,_,_=>by simp at h
 | x :: l,a,hs,ha,hq,hp=>by
  rw [List.countP_cons,List.countP_cons]
  have hle:l.countP p<=l.countP q:=List.countP_mono_left fun y hy=>hs y (List.mem_cons_of_mem _ hy)
  rcases List.mem_cons.1 ha with rfl | ha
  ·simp [hq,hp]; omega
  ·have:=countP_lt (p:=p) (q:=q) (fun y hy=>hs y (List.mem_cons_of_mem _ hy)) ha hq hp
   have hx:=hs x List.mem_cons_self
   cases hpx:p x with
   | true=>simp [hx hpx]; omega
   | false=>simp; split<;>omega
theorem nzT {x:Int} (h:x≠0):(!(x==0))=true:=by simp [h]
theorem nzF {x:Int} (h:x=0):(!(x==0))=false:=by simp [h]
def nzc (l:List Int) (g:List Nat):Nat:=g.countP fun q=>!(l.getD q 0==0)
theorem nzc_pay {l:List Int} {a b:Nat} (h:PayOk l a b) {g:List Nat} (ha:a∈g) (hb:b∈g):nzc (payL l a b) g+1<=nzc l g/\2<=nzc l g:=by
 have hne:=h.ne
 have na:=h.na
 have nb:=h.nb
 obtain ⟨d0,d1,d2,d3⟩:=payN_facts h
 have ga:=payL_get h a
 have gb:=payL_get h b
 rw [if_pos rfl,if_neg hne] at ga
 rw [if_neg (fun e=>hne e.symm),if_pos rfl] at gb
 have hsub:∀ q∈g,(!((payL l a b).getD q 0==0))=true->(!(l.getD q 0==0))=true:=fun q _ hq=>by
  simp only [Bool.not_eq_true',beq_eq_false_iff_ne,ne_eq] at hq ⊢
  by_cases e1:q=a
  ·subst e1; omega
  ·by_cases e2:q=b
   ·subst e2; omega
   ·rw [payL_get h,if_neg e1,if_neg e2] at hq
    omega
 constructor
 ·rcases d3 with d3 | d3
  ·exact countP_lt hsub ha (nzT (by omega)) (nzF (by omega))
  ·exact countP_lt hsub hb (nzT (by omega)) (nzF (by omega))
 ·have h1:g.countP (fun q=>!(l.getD q 0==0)&&!(q==a)) < nzc l g:=countP_lt (fun q _ hq=>by rw [Bool.and_eq_true] at hq; exact hq.1) ha (nzT (by omega)) (by simp)
  have h2:0 < g.countP (fun q=>!(l.getD q 0==0)&&!(q==a)):=List.countP_pos_iff.2 ⟨b,hb,by
   rw [Bool.and_eq_true]
   exact ⟨nzT (by omega),by simp; exact fun e=>hne e.symm⟩⟩
  omega
theorem payF_neg {l:List Int}:∀ (mem:List Nat) (s:Int×Int),(0<=s.1->0<=(mem.foldl (payStep l) s).1)/\(0<=s.2->0<=(mem.foldl (payStep l) s).2)/\(∀ q∈mem,l.getD q 0 < 0->0<=(mem.foldl (payStep l) s).1)/\(∀ q∈mem,0 < l.getD q 0->0<=(mem.foldl (payStep l) s).2)
 | [],s=>by simp
 | x :: mem,s=>by
  obtain ⟨k1,k2,k3,k4⟩:=payF_neg mem (payStep l s x)
  simp only [List.foldl_cons]
  refine ⟨fun h=>k1 ?_,fun h=>k2 ?_,fun q hq hn=>?_,fun q hq hn=>?_⟩
  ·unfold payStep; split
   ·simp
   ·split<;>exact h
  ·unfold payStep; split
   ·exact h
   ·split
    ·simp
    ·exact h
  ·rcases List.mem_cons.1 hq with rfl | hq
   ·refine k1 ?_
    unfold payStep
    by_cases hs:s.1 < 0
    ·rw [if_pos ⟨hn,hs⟩]; simp
    ·rw [if_neg (fun e=>hs e.2)]
     split<;>(show 0<=s.1; omega)
   ·exact k3 q hq hn
  ·rcases List.mem_cons.1 hq with rfl | hq
   ·refine k2 ?_
    unfold payStep
    rw [if_neg (fun e=>by have:=e.1; omega)]
    by_cases hs:s.2 < 0
    ·rw [if_pos ⟨hn,hs⟩]; simp
    ·rw [if_neg (fun e=>hs e.2)]
     show 0<=s.2
     omega
   ·exact k4 q hq hn
theorem sum_signs:∀ {v:List Int},v.sum=0->((∀ x∈v,0<=x)\/(∀ x∈v,x<=0))->∀ x∈v,x=0:=fun {v} hz h x hx=>by
 rcases h with h | h
 ·have:=mem_le_sum h x hx
  have:=h x hx
  omega
 ·have h':∀ y∈v.map (fun x=>-x),0<=y:=fun y hy=>by
   obtain ⟨z,hz,rfl⟩:=List.mem_map.1 hy
   have:=h z hz; omega
  have e:(v.map (fun x=>-x)).sum=-v.sum:=by
   clear h h' hx hz
   induction v with
   | nil=>rfl
   | cons y v ih=>simp only [List.map_cons,List.sum_cons,ih]; omega
  have:=mem_le_sum h' (-x) (List.mem_map_of_mem hx)
  have:=h x hx
  omega
theorem settle_group {g:List Nat} (hd:g.Nodup):∀ (n:Nat) (s:List Int×List Pay),nzc s.1 g<=n->(∀ q∈g,q < s.1.length)->(g.map fun q=>s.1.getD q 0).sum=0 ->
  ∃ ps,(settle n g s).2=s.2++ps/\Greedy s.1 ps (settle n g s).1/\(∀ q∈g,(settle n g s).1.getD q 0=0)/\(∀ q,q∉g->(settle n g s).1.getD q 0=s.1.getD q 0)/\(ps=[]\/ps.length+1<=nzc s.1 g)
 | 0,s,hn,_,_=>by
  refine ⟨[],by simp [settle],.nil _,fun q hq=>?_,fun q _=>rfl,.inl rfl⟩
  have:nzc s.1 g=0:=by omega
  unfold nzc at this
  rw [List.countP_eq_zero] at this
  simpa [settle] using this q hq
 | n+1,s,hn,hin,hz=>by
  simp only [settle]
  by_cases hc:0<=(payF s.1 g).1/\0<=(payF s.1 g).2
  ·rw [if_pos hc]
   obtain ⟨a,b,hp⟩:=payF_some hc.1 hc.2
   have hok:PayOk s.1 a b:=⟨hin a hp.ha,hin b hp.hb,hp.na,hp.nb⟩
   rw [hp.ea,hp.eb]
   simp only [Int.toNat_natCast]
   obtain ⟨k1,k2⟩:=nzc_pay hok hp.ha hp.hb
   obtain ⟨ps,e1,e2,e3,e4,e5⟩:=settle_group hd n (payL s.1 a b,s.2++[⟨a,b,payN s.1 a b⟩]) (by simp only; omega) (fun q hq=>by simp only [payL_length]; exact hin q hq) (by
    simp only
    rw [pay_sum hok hd ⟨fun _=>hp.hb,fun _=>hp.ha⟩]; exact hz)
   refine ⟨⟨a,b,payN s.1 a b⟩ :: ps,by rw [e1]; simp,.cons hok e2,e3,fun q hq=>?_,.inr ?_⟩
   ·rw [e4 q hq]
    simp only
    rw [payL_get hok,if_neg (fun e=>hq (by rw [e]; exact hp.ha)),if_neg (fun e=>hq (by rw [e]; exact hp.hb))]
    omega
   ·rcases e5 with rfl | e5
    ·simp; omega
    ·simp only [List.length_cons] at e5 ⊢
     omega
  ·rw [if_neg hc]
   refine ⟨[],by simp,.nil _,fun q hq=>?_,fun q _=>rfl,.inl rfl⟩
   obtain ⟨_,_,k3,k4⟩:=payF_neg (l:=s.1) g (-1,-1)
   change (∀ q∈g,s.1.getD q 0 < 0->0<=(payF s.1 g).1) at k3
   change (∀ q∈g,0 < s.1.getD q 0->0<=(payF s.1 g).2) at k4
   refine sum_signs hz ?_ _ (List.mem_map_of_mem (f:=fun q=>s.1.getD q 0) hq)
   by_cases h1:0<=(payF s.1 g).1
   ·right
    intro x hx
    obtain ⟨q',hq',rfl⟩:=List.mem_map.1 hx
    exact Int.not_lt.1 fun hlt=>hc ⟨h1,k4 q' hq' hlt⟩
   ·left
    intro x hx
    obtain ⟨q',hq',rfl⟩:=List.mem_map.1 hx
    exact Int.not_lt.1 fun hlt=>h1 (k3 q' hq' hlt)
theorem settle_all:∀ (gs:List (List Nat)) (s:List Int×List Pay),gs.flatten.Nodup->(∀ g∈gs,g≠[]/\g.length<=10/\(∀ q∈g,q < s.1.length/\s.1.getD q 0≠0)/\(g.map fun q=>s.1.getD q 0).sum=0) ->
  ∃ ps,(settleAll gs s).2=s.2++ps/\Greedy s.1 ps (settleAll gs s).1/\(∀ q∈gs.flatten,(settleAll gs s).1.getD q 0=0)/\(∀ q,q∉gs.flatten->(settleAll gs s).1.getD q 0=s.1.getD q 0)/\ps.length+gs.length<=gs.flatten.length
 | [],s,_,_=>⟨[],by simp [settleAll],.nil _,by simp,fun q _=>rfl,by simp⟩
 | g :: gs,s,hd,h=>by
  rw [List.flatten_cons,List.nodup_append] at hd
  obtain ⟨hd1,hd2,hd3⟩:=hd
  obtain ⟨g0,g1,g2,g3⟩:=h g List.mem_cons_self
  have hnz:nzc s.1 g=g.length:=List.countP_eq_length.2 fun q hq=>by simpa using (g2 q hq).2
  obtain ⟨ps,e1,e2,e3,e4,e5⟩:=settle_group hd1 11 s (by omega) (fun q hq=>(g2 q hq).1) g3
  have hle:=e2.length
  have hkeep:∀ q∈gs.flatten,(settle 11 g s).1.getD q 0=s.1.getD q 0:=fun q hq=>e4 q fun hx=>hd3 q hx q hq rfl
  obtain ⟨qs,f1,f2,f3,f4,f5⟩:=settle_all gs (settle 11 g s) hd2 fun g' hg'=>by
   obtain ⟨k0,k1,k2,k3⟩:=h g' (List.mem_cons_of_mem _ hg')
   have hk:∀ q∈g',(settle 11 g s).1.getD q 0=s.1.getD q 0:=fun q hq=>hkeep q (List.mem_flatten.2 ⟨g',hg',hq⟩)
   refine ⟨k0,k1,fun q hq=>by rw [hle,hk q hq]; exact k2 q hq,?_⟩
   rw [List.map_congr_left hk]
   exact k3
  have hfold:settleAll (g :: gs) s=settleAll gs (settle 11 g s):=rfl
  rw [hfold]
  refine ⟨ps++qs,by rw [f1,e1,List.append_assoc],e2.append f2,fun q hq=>?_,fun q hq=>?_,?_⟩
  ·rw [List.flatten_cons,List.mem_append] at hq
   by_cases hx:q∈gs.flatten
   ·exact f3 q hx
   ·rw [f4 q hx]
    exact e3 q (hq.resolve_right hx)
  ·rw [List.flatten_cons,List.mem_append,not_or] at hq
   rw [f4 q hq.2,e4 q hq.1]
  ·rw [List.flatten_cons,List.length_append,List.length_append,List.length_cons]
   have:0 < g.length:=List.length_pos_iff.2 g0
   rcases e5 with rfl | e5
   ·simp only [List.length_nil]; omega
   ·omega
structure Fam2 (l:List Int) (F:List (List Nat)):Prop where
 ne:∀ f∈F,f≠[]
 nz:∀ f∈F,∀ q∈f,q < l.length/\l.getD q 0≠0
 z:∀ f∈F,(f.map fun q=>l.getD q 0).sum=0
 d:F.flatten.Nodup
theorem cnt_pay {l:List Int} {a b:Nat} (h:PayOk l a b):cntZ l=cntZ (payL l a b)+(if l.getD a 0+payN l a b=0 then 1 else 0)+(if l.getD b 0-payN l a b=0 then 1 else 0):=by
 have hne:=h.ne
 have ha:=h.ha
 have hb:=h.hb
 have na:=h.na
 have nb:=h.nb
 have ga:l.getD a 0=l[a]:=by simp [List.getD_eq_getElem?_getD,ha]
 have gb:l.getD b 0=l[b]:=by simp [List.getD_eq_getElem?_getD,hb]
 rw [ga] at na
 rw [gb] at nb
 have pa:(!(l[a]==0))=true:=nzT (by omega)
 have pb:(!(l[b]==0))=true:=nzT (by omega)
 have two:2<=cntZ l:=by
  have h1:=List.countP_set (p:=fun x:Int=>!(x==0)) (a:=0) ha
  rw [pa] at h1
  simp at h1
  have h2:0 < (l.set a 0).countP fun x=>!(x==0):=List.countP_pos_iff.2 ⟨l[b],by
   have:(l.set a 0)[b]'(by simpa using hb)=l[b]:=List.getElem_set_ne hne _
   rw [<-this]; exact List.getElem_mem _,pb⟩
  have h3:((l.set a 0).countP fun x=>!(x==0))=(l.countP fun x=>!(x==0))-1:=by simpa using h1
  unfold cntZ
  omega
 unfold payL
 rw [ga,gb]
 generalize payN l a b=d
 have hb':b < (l.set a (l[a]+d)).length:=by simpa using hb
 have hsb:(l.set a (l[a]+d))[b]=l[b]:=List.getElem_set_ne hne _
 unfold cntZ at two ⊢
 rw [List.countP_set hb',List.countP_set ha,hsb]
 rw [pa,pb]
 simp only [if_true]
 by_cases e1:l[a]+d=0<;>by_cases e2:l[b]-d=0<;>simp [e1,e2]<;>omega
theorem flatten_split {F:List (List Nat)} {b:Nat} (h:b∈F.flatten):∃ A f B,F=A++f :: B/\b∈f:=by
 obtain ⟨f,hf,hb⟩:=List.mem_flatten.1 h
 obtain ⟨A,B,rfl⟩:=List.append_of_mem hf
 exact ⟨A,f,B,rfl,hb⟩
theorem fam_join {l l':List Int} {a b:Nat} (hl:l'.length=l.length) (hab:a≠b) (ha:a < l.length) (hb:b < l.length) (na:l.getD a 0≠0) (nb:l.getD b 0≠0) (za:l'.getD a 0=0) (vb:l'.getD b 0=l.getD b 0+l.getD a 0) (ho:∀ q,q≠a->q≠b->l'.getD q 0=l.getD q 0) {F:List (List Nat)} (h:Fam2 l' F):∃ F',Fam2 l F'/\F'.length=F.length:=by
 have hna:a∉F.flatten:=fun hx=>by
  obtain ⟨f,hf,hq⟩:=List.mem_flatten.1 hx
  exact (h.nz f hf a hq).2 za
 have hsame:∀ f∈F,b∉f->(f.map fun q=>l.getD q 0).sum=0:=fun f hf hbf=>by
  refine (congrArg List.sum (List.map_congr_left fun q hq=>(ho q (fun e=>?_) fun e=>hbf (e▸hq)).symm)).trans (h.z f hf)
  subst e; exact hna (List.mem_flatten.2 ⟨f,hf,hq⟩)
 have hnz:∀ f∈F,∀ q∈f,q < l.length/\l.getD q 0≠0:=fun f hf q hq=>by
  have hk:=h.nz f hf q hq
  refine ⟨by omega,?_⟩
  by_cases e:q=b
  ·rw [e]; exact nb
  ·rw [<-ho q (fun e'=>by subst e'; exact hna (List.mem_flatten.2 ⟨f,hf,hq⟩)) e]
   exact hk.2
 by_cases hbF:b∈F.flatten
 ·obtain ⟨A,f,B,rfl,hbf⟩:=flatten_split hbF
  have hd:=h.d
  have hfl:(A++f :: B).flatten=A.flatten++(f++B.flatten):=by simp
  have hfd:f.Nodup:=by
   rw [hfl,List.nodup_append] at hd
   exact (List.nodup_append.1 hd.2.1).1
  have hother:∀ f'∈A++B,b∉f':=fun f' hf' hbf'=>by
   rw [hfl] at hd
   rw [List.nodup_append,List.nodup_append] at hd
   obtain ⟨_,⟨_,_,d2⟩,d3⟩:=hd
   rcases List.mem_append.1 hf' with hx | hx
   ·exact d3 b (List.mem_flatten.2 ⟨f',hx,hbf'⟩) b (List.mem_append_left _ hbf) rfl
   ·exact d2 b hbf b (List.mem_flatten.2 ⟨f',hx,hbf'⟩) rfl
  refine ⟨A++(a :: f) :: B,⟨fun f' hf'=>?_,fun f' hf'=>?_,fun f' hf'=>?_,?_⟩,by simp⟩
  ·simp only [List.mem_append,List.mem_cons] at hf'
   rcases hf' with hx | rfl | hx
   ·exact h.ne f' (by simp [hx])
   ·simp
   ·exact h.ne f' (by simp [hx])
  ·simp only [List.mem_append,List.mem_cons] at hf'
   rcases hf' with hx | rfl | hx
   ·exact hnz f' (by simp [hx])
   ·intro q hq
    rcases List.mem_cons.1 hq with rfl | hq
    ·exact ⟨ha,na⟩
    ·exact hnz f (by simp) q hq
   ·exact hnz f' (by simp [hx])
  ·simp only [List.mem_append,List.mem_cons] at hf'
   rcases hf' with hx | rfl | hx
   ·exact hsame f' (by simp [hx]) (hother f' (by simp [hx]))
   ·rw [List.map_cons,List.sum_cons]
    have haf:a∉f:=fun hx=>hna (List.mem_flatten.2 ⟨f,by simp,hx⟩)
    have e:=(sum_upd1 (f:=f) (g:=fun q=>l.getD q 0) (g':=fun q=>if q=b then l'.getD b 0 else l.getD q 0) (b:=b) (fun q hq=>by simp [hq]) hfd).2 hbf
    have e2:(f.map fun q=>if q=b then l'.getD b 0 else l.getD q 0)=f.map fun q=>l'.getD q 0:=List.map_congr_left fun q hq=>by
     by_cases eq:q=b
     ·simp [eq]
     ·rw [if_neg eq,ho q (fun e'=>haf (e'▸hq)) eq]
    rw [e,e2,h.z f (by simp)]
    simp only [if_true]
    omega
   ·exact hsame f' (by simp [hx]) (hother f' (by simp [hx]))
  ·have e1:(A++(a :: f) :: B).flatten=A.flatten++a :: (f++B.flatten):=by simp
   rw [e1,List.perm_middle.nodup_iff,List.nodup_cons]
   rw [hfl] at hd hna
   exact ⟨hna,hd⟩
 ·refine ⟨F,⟨h.ne,hnz,fun f hf=>hsame f hf fun hx=>hbF (List.mem_flatten.2 ⟨f,hf,hx⟩),h.d⟩,rfl⟩
theorem greedy_fam {l m:List Int} {p:List Pay} (h:Greedy l p m) (hz:cntZ m=0):∃ F,Fam2 l F/\cntZ l<=F.length+p.length:=by
 induction h with
 | nil l=>exact ⟨[],⟨by simp,by simp,by simp,by simp⟩,by simp; omega⟩
 | @cons l a b ps m h r ih =>
  obtain ⟨F,hF,hc⟩:=ih hz
  have hne:=h.ne
  have ha:=h.ha
  have hb:=h.hb
  have na:=h.na
  have nb:=h.nb
  obtain ⟨d0,d1,d2,d3⟩:=payN_facts h
  have hcnt:=cnt_pay h
  have ga:=payL_get h a
  have gb:=payL_get h b
  rw [if_pos rfl,if_neg hne] at ga
  rw [if_neg (fun e=>hne e.symm),if_pos rfl] at gb
  have go:∀ q,q≠a->q≠b->(payL l a b).getD q 0=l.getD q 0:=fun q h1 h2=>by
   rw [payL_get h,if_neg h1,if_neg h2]; omega
  have hlen:(payL l a b).length=l.length:=payL_length ..
  simp only [List.length_cons]
  by_cases e1:l.getD a 0+payN l a b=0
  ·by_cases e2:l.getD b 0-payN l a b=0
   ·rw [if_pos e1,if_pos e2] at hcnt
    have hn:∀ q∈F.flatten,q≠a/\q≠b:=fun q hq=>by
     obtain ⟨f,hf,hqf⟩:=List.mem_flatten.1 hq
     have:=(hF.nz f hf q hqf).2
     exact ⟨fun e=>by subst e; omega,fun e=>by subst e; omega⟩
    refine ⟨[a,b] :: F,⟨fun f hf=>?_,fun f hf=>?_,fun f hf=>?_,?_⟩,by simp only [List.length_cons]; omega⟩
    ·rcases List.mem_cons.1 hf with rfl | hf
     ·simp
     ·exact hF.ne f hf
    ·rcases List.mem_cons.1 hf with rfl | hf
     ·intro q hq
      simp only [List.mem_cons,List.not_mem_nil,or_false] at hq
      rcases hq with rfl | rfl
      ·exact ⟨ha,by omega⟩
      ·exact ⟨hb,by omega⟩
     ·intro q hq
      have hk:=hF.nz f hf q hq
      have:=hn q (List.mem_flatten.2 ⟨f,hf,hq⟩)
      rw [go q this.1 this.2] at hk
      exact ⟨by omega,hk.2⟩
    ·rcases List.mem_cons.1 hf with rfl | hf
     ·simp only [List.map_cons,List.map_nil,List.sum_cons,List.sum_nil]; omega
     ·refine (congrArg List.sum (List.map_congr_left fun q hq=>?_)).trans (hF.z f hf)
      have:=hn q (List.mem_flatten.2 ⟨f,hf,hq⟩)
      exact (go q this.1 this.2).symm
    ·rw [List.flatten_cons,List.nodup_append]
     refine ⟨by simp [hne],hF.d,fun x hx y hy e=>?_⟩
     subst e
     simp only [List.mem_cons,List.not_mem_nil,or_false] at hx
     have:=hn x hy
     rcases hx with hx | hx
     ·exact this.1 hx
     ·exact this.2 hx
   ·rw [if_pos e1,if_neg e2] at hcnt
    obtain ⟨F',h1,h2⟩:=fam_join (l:=l) (l':=payL l a b) (a:=a) (b:=b) hlen hne ha hb (by omega) (by omega) (by omega) (by omega) go hF
    exact ⟨F',h1,by omega⟩
  ·have e2:l.getD b 0-payN l a b=0:=by omega
   rw [if_neg e1,if_pos e2] at hcnt
   obtain ⟨F',h1,h2⟩:=fam_join (l:=l) (l':=payL l a b) (a:=b) (b:=a) hlen (fun e=>hne e.symm) hb ha (by omega) (by omega) (by omega) (by omega) (fun q k1 k2=>go q k2 k1) hF
   exact ⟨F',h1,by omega⟩
theorem nonz_count (bal:List Int):∀ i,i<=bal.length->(nonz bal i).length=cntZ (bal.take i)
 | 0,_=>by simp [nonz,cntZ]
 | i+1,h=>by
  have ih:=nonz_count bal i (by omega)
  have hg:bal.getD i 0=bal[i]'(by omega):=by simp [List.getD_eq_getElem?_getD,show i < bal.length by omega]
  unfold cntZ at ih ⊢
  rw [nonz_succ,List.take_add_one,List.getElem?_eq_getElem (show i < bal.length by omega),Option.toList_some,List.countP_append,hg]
  by_cases e:bal[i]'(by omega)=0
  ·simp [e,ih]
  ·simp [e,ih]
theorem fam_le {bal:List Int} (h:balances bal=true) {F:List (List Nat)} (hF:Fam2 bal F):F.length<=(groupsF bal).1.length:=by
 have hb:=book_ok h
 obtain ⟨_,hl⟩:=groups_done hb (all_zero h)
 have hgf:(groupsF bal).1=(groupsS bal (numsF bal) (2^(numsF bal).length-1)).map (memS (numsF bal)):=by unfold groupsF; rw [if_pos h]
 rw [hgf,List.length_map]
 have hnd:(numsF bal).Nodup:=List.nodup_iff_pairwise_ne.2 ((nonz_up bal bal.length).imp fun h=>by omega)
 have hcol:∀ f∈F,∀ k,k∈(List.range (numsF bal).length).filter (fun k=>decide ((numsF bal).getD k 0∈f))↔k < (numsF bal).length/\(numsF bal).getD k 0∈f:=fun f hf k=>by
  rw [List.mem_filter,List.mem_range,decide_eq_true_eq]
 have hsub:∀ f∈F,∀ q∈f,q∈numsF bal:=fun f hf q hq=>nonz_mem2.2 (hF.nz f hf q hq)
 have hfn:∀ f∈F,f.Nodup:=fun f hf=>(nodup_fl.1 hF.d).1 f hf
 have hP:Part (wF bal (numsF bal)) (numsF bal).length (F.map fun f=>mk ((List.range (numsF bal).length).filter fun k=>decide ((numsF bal).getD k 0∈f))) (2 ^ (numsF bal).length-1):=by
  refine ⟨fun x hx=>?_,fun x hx=>?_,fun x hx=>?_,?_⟩
  ·obtain ⟨f,hf,rfl⟩:=List.mem_map.1 hx
   intro e
   obtain ⟨q,r,rfl⟩:∃ q r,f=q :: r:=List.exists_cons_of_ne_nil (hF.ne f hf)
   obtain ⟨k,hk,e2⟩:=List.mem_iff_getElem.1 (hsub _ hf q List.mem_cons_self)
   have hkm:=(hcol _ hf k).2 ⟨hk,by
    have:(numsF bal).getD k 0=(numsF bal)[k]:=by simp [List.getD_eq_getElem?_getD,hk]
    rw [this,e2]; exact List.mem_cons_self⟩
   have:=mk_bit ((List.range (numsF bal).length).filter fun k=>decide ((numsF bal).getD k 0∈q :: r)) k
   rw [e] at this
   simp only [Nat.zero_testBit] at this
   exact absurd hkm (of_decide_eq_false this.symm)
  ·obtain ⟨f,hf,rfl⟩:=List.mem_map.1 hx
   intro j hj
   rw [mk_bit] at hj
   rw [Nat.testBit_two_pow_sub_one]
   exact decide_eq_true ((hcol f hf j).1 (of_decide_eq_true hj)).1
  ·obtain ⟨f,hf,rfl⟩:=List.mem_map.1 hx
   rw [mk_sum (List.nodup_range.filter _) fun j hj=>((hcol f hf j).1 hj).1]
   have e1:(((List.range (numsF bal).length).filter fun k=>decide ((numsF bal).getD k 0∈f)).map (wF bal (numsF bal)))=(((List.range (numsF bal).length).filter fun k=>decide ((numsF bal).getD k 0∈f)).map fun k=>(numsF bal).getD k 0).map fun q=>bal.getD q 0:=by
    rw [List.map_map]; rfl
   rw [e1]
   refine (sum_perm (List.Perm.map _ ?_)).trans (hF.z f hf)
   refine (List.perm_ext_iff_of_nodup ?_ (hfn f hf)).2 fun q=>?_
   ·rw [List.nodup_iff_pairwise_ne,List.pairwise_map]
    refine (List.nodup_iff_pairwise_ne.1 (List.nodup_range.filter _)).imp_of_mem fun {a b} ha hb' hab e=>hab ?_
    have ha':=((hcol f hf a).1 ha).1
    have hb'':=((hcol f hf b).1 hb').1
    rcases Nat.lt_trichotomy a b with k | k | k
    ·have:=nums_mono k hb'' (nonz_up bal bal.length); omega
    ·exact k
    ·have:=nums_mono k ha' (nonz_up bal bal.length); omega
   ·rw [List.mem_map]
    constructor
    ·rintro ⟨k,hk,rfl⟩
     exact ((hcol f hf k).1 hk).2
    ·intro hq
     obtain ⟨k,hk,e2⟩:=List.mem_iff_getElem.1 (hsub f hf q hq)
     have ek:(numsF bal).getD k 0=q:=by simp [List.getD_eq_getElem?_getD,hk,e2]
     exact ⟨k,(hcol f hf k).2 ⟨hk,by rw [ek]; exact hq⟩,ek⟩
  ·rw [List.pairwise_map]
   refine List.Pairwise.imp_of_mem ?_ (nodup_fl.1 hF.d).2
   intro f g hf hg hfg j hj
   rw [mk_bit,mk_bit] at hj
   exact hfg _ ((hcol f hf j).1 (of_decide_eq_true hj.1)).2 _ ((hcol g hg j).1 (of_decide_eq_true hj.2)).2 rfl
 have hpos:0 < 2 ^ (numsF bal).length:=Nat.pow_pos (by omega)
 have:=part_le hb _ _ _ (Nat.lt_succ_self _) (by omega) hP
 rw [List.length_map] at this
 omega
structure PayFine (n:Nat) (B:Int) (x:Pay):Prop where
 f:0<=x.fr/\x.fr < n
 t:0<=x.to/\x.to < n
 d:x.fr≠x.to
 s:0 < x.sum/\x.sum<=B
def netL (l:List Pay) (i:Nat):Int:=(l.map fun x=>(if x.to=(i:Int) then x.sum else 0)-(if x.fr=(i:Int) then x.sum else 0)).sum
theorem netL_append (l m:List Pay) (i:Nat):netL (l++m) i=netL l i+netL m i:=by
 unfold netL; rw [List.map_append,List.sum_append]
theorem payAll_net {n:Nat} {B:Int} (hB:0<=B):∀ (l:List Pay) (g:List Int) (M:Int),(∀ x∈l,PayFine n B x)->g.length=n->(∀ i,-M<=g.getD i 0/\g.getD i 0<=M)->0<=M->M+(l.length:Int)*B < 4611686018427387904 ->
  ∃ g',payAll n l g=some g'/\g'.length=n/\∀ i,i < n->g'.getD i 0=g.getD i 0+netL l i
 | [],g,M,_,hg,_,_,_=>⟨g,rfl,hg,fun i _=>by simp [netL]⟩
 | x :: l,g,M,h,hg,hM,hM0,hb=>by
  have hx:=h x List.mem_cons_self
  obtain ⟨f0,f1⟩:=hx.f
  obtain ⟨t0,t1⟩:=hx.t
  obtain ⟨s0,s1⟩:=hx.s
  have hd:=hx.d
  have e:((x :: l).length:Int)*B=l.length*B+B:=by rw [List.length_cons]; push_cast; rw [Int.add_mul,Int.one_mul]
  rw [e] at hb
  have hlB:0<=(l.length:Int)*B:=Int.mul_nonneg (by omega) hB
  have hbad:payBad n x=false:=by
   unfold payBad
   simp only [Bool.or_eq_false_iff,Bool.not_eq_false',Bool.and_eq_true,decide_eq_true_eq,decide_eq_false_iff_not,beq_eq_false_iff_ne]
   exact ⟨⟨⟨⟨f0,by omega⟩,t0,by omega⟩,hd⟩,by omega⟩
  obtain ⟨a,ha⟩:∃ a:Nat,x.fr=a:=⟨x.fr.toNat,by omega⟩
  obtain ⟨b,hb'⟩:∃ b:Nat,x.to=b:=⟨x.to.toNat,by omega⟩
  have hal:a < g.length:=by omega
  have hbl:b < g.length:=by omega
  have hab:a≠b:=by omega
  have ga:=hM a
  have gb:=hM b
  have w1:IntKind.i64.wrap (g.getD a 0-x.sum)=g.getD a 0-x.sum:=wrap_id (by omega) (by omega)
  have w2:IntKind.i64.wrap (g.getD b 0+x.sum)=g.getD b 0+x.sum:=wrap_id (by omega) (by omega)
  have hval:∀ i,(payTo g a b x.sum).getD i 0=g.getD i 0+((if (b:Int)=(i:Int) then x.sum else 0)-(if (a:Int)=(i:Int) then x.sum else 0)):=fun i=>by
   unfold payTo
   rw [w1,w2,List.getD_eq_getElem?_getD,List.getElem?_set,List.getElem?_set,List.length_set]
   by_cases e1:b=i
   ·subst e1
    rw [if_pos rfl,if_pos hbl,if_pos rfl,if_neg (by omega)]
    simp only [Option.getD_some]; omega
   ·rw [if_neg e1,if_neg (show ¬ (b:Int)=i by omega)]
    by_cases e2:a=i
    ·subst e2
     rw [if_pos rfl,if_pos hal,if_pos rfl]
     simp only [Option.getD_some]; omega
    ·rw [if_neg e2,if_neg (show ¬ (a:Int)=i by omega),<-List.getD_eq_getElem?_getD]
     omega
  obtain ⟨g',k1,k2,k3⟩:=payAll_net hB l (payTo g a b x.sum) (M+B) (fun y hy=>h y (List.mem_cons_of_mem _ hy)) (by simp [payTo,hg]) (fun i=>by
   rw [hval i]
   have:=hM i
   split<;>split<;>omega) (by omega) (by omega)
  refine ⟨g',?_,k2,fun i hi=>?_⟩
  ·simp only [payAll,pay1,hbad,Bool.false_eq_true,if_false,ha,hb',Int.toNat_natCast]
   exact k1
  ·rw [k3 i hi,hval i]
   simp only [netL,List.map_cons,List.sum_cons,ha,hb']
   omega
theorem list_getD_ext {a b:List Int} (hl:a.length=b.length) (h:∀ i,i < a.length->a.getD i 0=b.getD i 0):a=b:=by
 refine List.ext_getElem hl fun i h1 h2=>?_
 have:=h i h1
 simpa [List.getD_eq_getElem?_getD,h1,h2] using this
theorem isClear_net {bal:List Int} {l:List Pay} (hb:balances bal=true) (hl:l.length<=1000) (h:∀ x∈l,PayFine bal.length 10000000 x):∃ g,isClearF bal l=(decide (g=bal),0)/\g.length=bal.length/\∀ i,i < bal.length->g.getD i 0=netL l i:=by
 obtain ⟨g',k1,k2,k3⟩:=payAll_net (n:=bal.length) (B:=10000000) (by omega) l (List.replicate bal.length 0) 0 h (by simp) (fun i=>by simp [List.getD_eq_getElem?_getD,List.getElem?_replicate]; split<;>simp) (Int.le_refl _) (by omega)
 refine ⟨g',?_,k2,fun i hi=>?_⟩
 ·unfold isClearF
  rw [if_pos hb,k1]
 ·rw [k3 i hi]
  simp [List.getD_eq_getElem?_getD,List.getElem?_replicate,hi]
theorem clear_yes {bal:List Int} {l:List Pay} (hb:balances bal=true) (hl:l.length<=1000) (h:∀ x∈l,PayFine bal.length 10000000 x) (hn:∀ i,i < bal.length->netL l i=bal.getD i 0):isClearF bal l=(true,0):=by
 obtain ⟨g,k1,k2,k3⟩:=isClear_net hb hl h
 rw [k1]
 have:g=bal:=list_getD_ext k2 fun i hi=>by rw [k3 i (by omega),hn i (by omega)]
 simp [this]
theorem clear_no {bal:List Int} {l:List Pay} (hb:balances bal=true) (hl:l.length<=1000) (h:∀ x∈l,PayFine bal.length 10000000 x) {i:Nat} (hi:i < bal.length) (hn:netL l i≠bal.getD i 0):isClearF bal l=(false,0):=by
 obtain ⟨g,k1,k2,k3⟩:=isClear_net hb hl h
 rw [k1]
 have:g≠bal:=fun e=>hn (by rw [<-k3 i hi,e])
 simp [this]
theorem greedy_net {l m:List Int} {p:List Pay} (h:Greedy l p m) {B:Int} (hb:∀ i,-B<=l.getD i 0/\l.getD i 0<=B):(∀ x∈p,PayFine l.length B x)/\∀ i,netL p i=l.getD i 0-m.getD i 0:=by
 induction h with
 | nil l=>exact ⟨by simp,fun i=>by simp [netL]⟩
 | @cons l a b ps m h r ih =>
  obtain ⟨d0,d1,d2,d3⟩:=payN_facts h
  have ha:=h.ha
  have hbl:=h.hb
  have hne:=h.ne
  have ba:=hb a
  have bb:=hb b
  obtain ⟨k1,k2⟩:=ih fun i=>by
   rw [payL_get h]
   have:=hb i
   by_cases e1:i=a
   ·subst e1
    rw [if_pos rfl,if_neg hne]
    have:=h.na
    omega
   ·rw [if_neg e1]
    by_cases e2:i=b
    ·subst e2
     rw [if_pos rfl]
     have:=h.nb
     omega
    ·rw [if_neg e2]; omega
  rw [payL_length] at k1
  refine ⟨fun x hx=>?_,fun i=>?_⟩
  ·rcases List.mem_cons.1 hx with rfl | hx
   ·exact ⟨by simp only; omega,by simp only; omega,by simp only; omega,by simp only; omega⟩
   ·exact k1 x hx
  ·have:=k2 i
   rw [payL_get h] at this
   simp only [netL,List.map_cons,List.sum_cons] at this ⊢
   rw [this]
   by_cases e1:i=a
   ·subst e1
    rw [if_pos rfl,if_neg hne,if_neg (show ¬ (b:Int)=i by omega),if_pos rfl]; omega
   ·rw [if_neg e1,if_neg (show ¬ (a:Int)=i by omega)]
    by_cases e2:i=b
    ·subst e2
     rw [if_pos rfl,if_pos rfl]; omega
    ·rw [if_neg e2,if_neg (show ¬ (b:Int)=i by omega)]; omega
structure ClearIs (bal:List Int) (p:List Pay):Prop where
 g:∃ m,Greedy bal p m/\∀ i,m.getD i 0=0
theorem zeros_cnt {m:List Int} (h:∀ i,m.getD i 0=0):cntZ m=0:=by
 unfold cntZ
 rw [List.countP_eq_zero]
 intro x hx
 obtain ⟨i,hi,rfl⟩:=List.mem_iff_getElem.1 hx
 have:=h i
 simp [List.getD_eq_getElem?_getD,hi] at this
 simp [this]
theorem ClearIs.fewest {bal:List Int} {p:List Pay} (hb:balances bal=true) (h:ClearIs bal p):cntZ bal<=(groupsF bal).1.length+p.length:=by
 obtain ⟨m,h1,h2⟩:=h.g
 obtain ⟨F,f1,f2⟩:=greedy_fam h1 (zeros_cnt h2)
 have:=fam_le hb f1
 omega
theorem ClearIs.clear {bal:List Int} {p:List Pay} (hb:balances bal=true) (h:ClearIs bal p):(∀ x∈p,PayFine bal.length 1000000 x)/\∀ i,netL p i=bal.getD i 0:=by
 obtain ⟨m,h1,h2⟩:=h.g
 obtain ⟨k1,k2⟩:=greedy_net (B:=1000000) h1 fun i=>bal_at (bal_facts hb).2.1 i
 exact ⟨k1,fun i=>by rw [k2,h2]; omega⟩
theorem greedy_len {l m:List Int} {p:List Pay} (h:Greedy l p m):p.length+cntZ m<=cntZ l:=by
 induction h with
 | nil l=>simp
 | cons h _ ih =>
  have:=cnt_pay h
  obtain ⟨_,_,_,d3⟩:=payN_facts h
  simp only [List.length_cons]
  rcases d3 with d3 | d3
  ·rw [if_pos (by omega)] at this; omega
  ·rw [if_pos (show _-_=(0:Int) by omega)] at this; omega
theorem ClearIs.len {bal:List Int} {p:List Pay} (hb:balances bal=true) (h:ClearIs bal p):p.length<=10:=by
 obtain ⟨m,h1,h2⟩:=h.g
 have:=greedy_len h1
 have:=cntZ_le bal
 have:=(bal_facts hb).1
 omega
theorem clear_is {bal:List Int} (hb:balances bal=true):ClearIs bal (clearF bal).1/\(clearF bal).2=0/\(clearF bal).1.length+(groupsF bal).1.length=cntZ bal:=by
 have e:clearF bal=((settleAll (groupsF bal).1 (bal,[])).2,0):=by unfold clearF; rw [if_pos hb]
 obtain ⟨o1,o2⟩:=groups_once hb
 obtain ⟨ps,e1,e2,e3,e4,e5⟩:=settle_all (groupsF bal).1 (bal,[]) o1 fun g hg=>by
  have:=group_ok hb g hg
  exact ⟨fun e=>by have:=this.two; rw [e] at this; simp at this,this.ten,this.nz,this.sum⟩
 simp only [List.nil_append] at e1
 have hz:∀ i,(settleAll (groupsF bal).1 (bal,[])).1.getD i 0=0:=fun i=>by
  by_cases hi:i∈(groupsF bal).1.flatten
  ·exact e3 i hi
  ·rw [e4 i hi]
   refine Classical.byContradiction fun hne=>hi ((o2 i).2 ⟨?_,hne⟩)
   refine Classical.byContradiction fun hx=>hne ?_
   simp [List.getD_eq_getElem?_getD,List.getElem?_eq_none (show bal.length<=i by omega)]
 have hc:ClearIs bal (clearF bal).1:=⟨_,by rw [e,e1]; exact e2,hz⟩
 refine ⟨hc,by rw [e],?_⟩
 have hf:=hc.fewest hb
 have hlen:(groupsF bal).1.flatten.length=cntZ bal:=by
  have hp:(groupsF bal).1.flatten.Perm (nonz bal bal.length):=(List.perm_ext_iff_of_nodup o1 (List.nodup_iff_pairwise_ne.2 ((nonz_up bal bal.length).imp fun h=>by omega))).2 fun q=>by rw [o2,nonz_mem2]
  rw [hp.length_eq,nonz_count bal _ (Nat.le_refl _),List.take_length]
 have:(clearF bal).1=ps:=by rw [e]; exact e1
 rw [this] at hf ⊢
 omega
end Go.Proofs.YtejodhjhddnbeaaDoor.E
