/-
  What is said of single sums, voyages and balances (ShareKnown), a closed statement. Conditions: none.
-/
import Derived.Test.YtejodhjhddnbeaaDoorZN0
import Derived.Test.YtejodhjhddnbeaaDoorZ25
import Derived.Test.YtejodhjhddnbeaaDoorZ22
set_option linter.unusedVariables false
set_option linter.unusedSimpArgs false
namespace Go.Proofs.YtejodhjhddnbeaaDoor.E
open Go Go.RowKit
theorem getD_at {l:List Int} {i:Nat} (h:i < l.length):l.getD i 0=l[i]:=by simp [List.getD_eq_getElem?_getD,h]
theorem upd_get {l:List Int} {a b:Nat} {d:Int} (ha:a < l.length) (hb:b < l.length) (hab:a≠b) (i:Nat):(upd l a b d)[i]? = if i=b then some (l[b]+d) else if i=a then some (l[a]-d) else l[i]?:=by
 unfold upd
 rw [getD_at ha,getD_at hb,List.getElem?_set,List.getElem?_set]
 by_cases e:i=b
 ·subst e; simp [hb]
 ·by_cases e2:i=a
  ·subst e2; simp [e,ha,Ne.symm e]
  ·simp [e,e2,Ne.symm e,Ne.symm e2]
theorem placeF_at {l:List Stk} (hd:(l.map (·.1)).Nodup) {a:Nat} (ha:a < l.length):placeF l l[a].1=a:=by
 have:l.findIdx? (fun p:Stk=>p.1==l[a].1)=some a:=by
  rw [List.findIdx?_eq_some_iff_getElem]
  refine ⟨ha,bnn _,fun j hj=>?_⟩
  simp only [bytes_eq,ne_eq]
  intro e
  have:=List.pairwise_iff_getElem.1 hd j a (by simp; omega) (by simpa using ha) hj
  simp only [List.getElem_map] at this
  exact this e
 unfold placeF idx
 rw [this]
def more (v:Voy) (l:List Loan):Voy:={ v with loans:=v.loans++l }
def rst (all S:Int) (x:Stk):Int:=all*x.2 % S
def bef (all S:Int) (y x:Stk):Bool:=decide (rst all S x < rst all S y)||(decide (rst all S x=rst all S y)&&decide (nlt y.1 x.1))
def rnk (all:Int) (l:List Stk) (x:Stk):Nat:=l.countP fun y=>bef all (wts l).sum y x
theorem take_count {α:Type} {lt:α->α->Bool} (irr:∀ a,lt a a=false) (asym:∀ a b,lt a b=true->lt b a=false) (key:α->Int) {x:α}:∀ {s:List α} (m:Nat),s.Pairwise (fun u v=>lt u v=true)->x∈s->(∀ a∈s,∀ b∈s,key a=key b->a=b) ->
  (s.take m).countP (fun z=>key z==key x)=if s.countP (fun z=>lt z x) < m then 1 else 0
 | [],_,_,hx,_=>by simp at hx
 | a :: r,0,_,_,_=>by simp
 | a :: r,m+1,hs,hx,hk=>by
  rw [List.pairwise_cons] at hs
  rw [List.take_succ_cons,List.countP_cons,List.countP_cons]
  by_cases e:key a=key x
  ·have e':a=x:=hk a List.mem_cons_self x hx e
   subst e'
   have h0:(r.take m).countP (fun z=>key z==key a)=0:=List.countP_eq_zero.2 fun z hz h=>by
    have hz':=List.mem_of_mem_take hz
    have:z=a:=hk z (List.mem_cons_of_mem _ hz') a List.mem_cons_self (by simpa using h)
    subst this
    have:=hs.1 z hz'
    rw [irr] at this; cases this
   have h1:r.countP (fun z=>lt z a)=0:=List.countP_eq_zero.2 fun z hz h=>by
    have:=asym _ _ (hs.1 z hz)
    rw [this] at h; cases h
   simp [h0,h1,irr]
  ·have hne:a≠x:=fun e'=>e (by rw [e'])
   have hxr:x∈r:=by
    rcases List.mem_cons.1 hx with e' | h
    ·exact absurd e'.symm hne
    ·exact h
   have ih:=take_count irr asym key (x:=x) (s:=r) m hs.2 hxr fun u hu v hv=>hk u (List.mem_cons_of_mem _ hu) v (List.mem_cons_of_mem _ hv)
   rw [ih]
   have hlt:=hs.1 x hxr
   simp [e,hlt]
section
variable {all:Int} {l:List Stk}
theorem shrs_get:∀ (k:Nat),k<=l.length->∀ (i:Nat) (hi:i < l.length),i < k->(shrs all l k)[i]? = some ⟨l[i].1,l[i].2,(all*l[i].2).tdiv (sumI (wts l)),(all*l[i].2).tmod (sumI (wts l)),i⟩
 | 0,_,i,_,hk=>absurd hk (Nat.not_lt_zero _)
 | k+1,h,i,hi,hk=>by
  have hl:=shrs_length all l k (by omega)
  rw [shrs_succ all l k (by omega)]
  by_cases e:i < k
  ·rw [List.getElem?_append_left (by omega)]
   exact shrs_get k (by omega) i hi e
  ·have:i=k:=by omega
   subst this
   rw [List.getElem?_append_right (by omega),hl,Nat.sub_self]
   rfl
theorem shrs_stk:(shrs all l l.length).map (fun z=>(z.n,z.w))=l:=by
 refine List.ext_getElem? fun i=>?_
 rw [List.getElem?_map]
 by_cases hi:i < l.length
 ·rw [shrs_get l.length (Nat.le_refl _) i hi hi,List.getElem?_eq_getElem hi]
  rfl
 ·have hl:=shrs_length all l l.length (Nat.le_refl _)
  rw [List.getElem?_eq_none (by omega),List.getElem?_eq_none (by omega)]
  rfl
theorem shrs_at {z:Shr} (hz:z∈shrs all l l.length):∃ (i:Nat) (hi:i < l.length),z=⟨l[i].1,l[i].2,(all*l[i].2).tdiv (sumI (wts l)),(all*l[i].2).tmod (sumI (wts l)),i⟩:=by
 obtain ⟨i,hi,e0⟩:=List.mem_iff_getElem.1 hz
 have hl:=shrs_length all l l.length (Nat.le_refl _)
 have hil:i < l.length:=by omega
 have e:(shrs all l l.length)[i]? = some z:=by rw [List.getElem?_eq_getElem hi,e0]
 rw [shrs_get l.length (Nat.le_refl _) i hil hil] at e
 exact ⟨i,hil,by simpa using e.symm⟩
theorem DivOk.rest (h:DivOk all l) {z:Shr} (hz:z∈shrs all l l.length):z.r=rst all (wts l).sum (z.n,z.w):=by
 obtain ⟨i,hi,rfl⟩:=shrs_at hz
 have:=h.mul (List.getElem_mem hi)
 simp only [rst,h.sum.1]
 exact Int.tmod_eq_emod_of_nonneg this.1
theorem div_rank (h:DivOk all l) {i:Nat} (hi:i < l.length):(divF all l).getD i 0=all*l[i].2 / (wts l).sum+(if rnk all l l[i] < leftF all l then 1 else 0):=by
 obtain ⟨_,_,h3⟩:=div_facts h
 rw [h3 i]
 have hg:(gets all l).getD i 0=all*l[i].2 / (wts l).sum:=by
  simp [gets,List.getD_eq_getElem?_getD,hi]
 rw [hg]
 congr 1
 have hsi:=shrs_get (all:=all) l.length (Nat.le_refl _) i hi hi
 generalize hx:(⟨l[i].1,l[i].2,(all*l[i].2).tdiv (sumI (wts l)),(all*l[i].2).tmod (sumI (wts l)),i⟩:Shr)=x at hsi
 have hp:=isr_perm cmpS (shrs all l l.length)
 have hxm:x∈shrs all l l.length:=List.mem_of_getElem? hsi
 have hxp:x.p=(i:Int):=by rw [<-hx]
 have hnd:((isr cmpS (shrs all l l.length)).map Shr.n).Nodup:=((hp.map Shr.n).nodup_iff).2 (nodupB_iff.1 h.names.1)
 have hst:(isr cmpS (shrs all l l.length)).Pairwise (fun u v=>ltOf cmpS u v=true):=by
  have h1:=isr_sorted swoS (shrs all l l.length)
  have h2:(isr cmpS (shrs all l l.length)).Pairwise (fun u v=>u.n≠v.n):=List.pairwise_map.1 hnd
  refine (h1.and h2).imp fun {u v} ⟨k1,k2⟩=>?_
  simp only [ltOf,decide_eq_true_eq,decide_eq_false_iff_not,cmpS_lt] at k1 ⊢
  rcases nlt_total k2 with k3 | k3
  ·by_cases e:v.r < u.r
   ·exact .inl e
   ·exact .inr ⟨by have:=fun e=>k1 (.inl e); omega,k3⟩
  ·by_cases e:v.r < u.r
   ·exact .inl e
   ·exact absurd (show u.r < v.r\/v.r=u.r/\nlt v.n u.n by
     by_cases e2:u.r < v.r
     ·exact .inl e2
     ·exact .inr ⟨by omega,k3⟩) k1
 have key:=take_count (lt:=ltOf cmpS) (x:=x) (fun a=>by
   simp only [ltOf,decide_eq_false_iff_not,cmpS_lt]
   rintro (h | ⟨_,h⟩)
   ·omega
   ·exact nlt_irr _ h) (fun a b hab=>by
   simp only [ltOf,decide_eq_true_eq,decide_eq_false_iff_not,cmpS_lt] at hab ⊢
   rintro (h | ⟨h,h'⟩)
   ·rcases hab with k | ⟨k,_⟩<;>omega
   ·rcases hab with k | ⟨_,k'⟩
    ·omega
    ·exact nlt_asym h' k') Shr.p (leftF all l) hst (hp.symm.subset hxm) (fun a ha b hb e=>by
   obtain ⟨ia,hia,rfl⟩:=shrs_at (hp.subset ha)
   obtain ⟨ib,hib,rfl⟩:=shrs_at (hp.subset hb)
   simp only at e
   have:ia=ib:=by omega
   subst this; rfl)
 rw [hxp] at key
 have hr:(isr cmpS (shrs all l l.length)).countP (fun z=>ltOf cmpS z x)=rnk all l l[i]:=by
  rw [hp.countP_eq]
  unfold rnk
  have e1:l.countP (fun y=>bef all (wts l).sum y l[i])=(shrs all l l.length).countP ((fun y=>bef all (wts l).sum y l[i]) ∘ fun z=>(z.n,z.w)):=by
   rw [<-List.countP_map,shrs_stk]
  rw [e1]
  refine List.countP_congr fun z hz=>?_
  simp only [Function.comp,ltOf,decide_eq_true_eq,cmpS_lt,bef,Bool.or_eq_true,Bool.and_eq_true]
  rw [h.rest hz,h.rest hxm]
  have:(x.n,x.w)=l[i]:=by rw [<-hx]
  have hn:x.n=l[i].1:=by rw [<-hx]
  rw [this,hn]
  constructor
  ·rintro (k | ⟨k,k'⟩)
   ·exact .inl k
   ·exact .inr ⟨k.symm,k'⟩
  ·rintro (k | ⟨k,k'⟩)
   ·exact .inl k
   ·exact .inr ⟨k.symm,k'⟩
 rw [hr] at key
 show ((tops all l).countP (fun z=>z.p==(i:Int)):Int)=_
 unfold tops
 rw [key]
 split<;>rfl
end
structure FairP (sum:Int) (l w:List Int):Prop where
 len:l.length=w.length
 n:l.length<=10
 tot:l.sum=sum
 s:0<=sum/\sum<=10000000
 w0:∀ x∈w,0<=x/\x<=1000000
 pos:1<=w.sum
 nn:∀ x∈l,0<=x
 off:∀ i,i < l.length->-(w.sum) < l.getD i 0*w.sum-sum*w.getD i 0/\l.getD i 0*w.sum-sum*w.getD i 0 < w.sum
 mono:∀ i k,i < l.length->k < l.length->w.getD k 0 < w.getD i 0->l.getD k 0<=l.getD i 0
section
variable {all:Int} {l:List Stk}
theorem wts_getD {i:Nat} (hi:i < l.length):(wts l).getD i 0=l[i].2:=by simp [wts,List.getD_eq_getElem?_getD,hi]
end
theorem stakes_iff {l:List Stk}:stakesOk l=true↔l.length<=10/\(∀ x∈l,nameOk x.1=true/\0<=x.2/\x.2<=1000)/\(l.map (·.1)).Nodup:=by
 constructor
 ·intro h
  exact ⟨stakes_len h,fun x hx=>stakes_mem h hx,stakes_nodup h⟩
 ·rintro ⟨h1,h2,h3⟩
  simp only [stakesOk,stTo,Bool.and_eq_true,List.all_eq_true,List.mem_range,decide_eq_true_eq]
  refine ⟨h1,fun j hj=>?_⟩
  simp only [stAt,List.getElem?_eq_getElem hj,Bool.and_eq_true,decide_eq_true_eq,Bool.not_eq_true',List.any_eq_false]
  have hx:=h2 _ (List.getElem_mem hj)
  refine ⟨⟨hx.1,hx.2⟩,fun p hp e=>?_⟩
  obtain ⟨i,hi,rfl⟩:=List.mem_iff_getElem.1 hp
  have e':=(bytes_eq _ _).1 e
  simp only [List.length_take] at hi
  simp only [List.getElem_take] at e'
  unfold List.Nodup at h3
  rw [List.pairwise_iff_getElem] at h3
  have:=h3 i j (by simp; omega) (by simpa using hj) (by omega)
  simp only [List.getElem_map] at this
  exact this e'
theorem sum_perm {l m:List Int} (h:l.Perm m):l.sum=m.sum:=by
 induction h with
 | nil=>rfl
 | cons x _ ih=>simp only [List.sum_cons,ih]
 | swap x y l=>simp only [List.sum_cons]; omega
 | trans _ _ ih1 ih2=>exact ih1.trans ih2
theorem wts_perm {l m:List Stk} (h:l.Perm m):(wts l).sum=(wts m).sum:=by
 unfold wts
 exact sum_perm (h.map _)
section
variable {all:Int} {l m:List Stk}
theorem DivOk.perm (h : DivOk all l) (hp : m.Perm l) : DivOk all m :=
  { len := by rw [hp.length_eq]; exact h.len,h0 := h.h0,h1 := h.h1,w := fun x hx => h.w x (hp.subset hx),pos := by rw [wts_perm hp]; exact h.pos,nd := by
      have := nodupB_iff.1 h.nd
      exact nodupB_iff.2 ((hp.map (·.1)).nodup_iff.2 this),ne := fun x hx => h.ne x (hp.subset hx) }
theorem rnk_perm (hp:m.Perm l) (x:Stk):rnk all m x=rnk all l x:=by
 unfold rnk
 rw [wts_perm hp,hp.countP_eq]
theorem left_perm (hp:m.Perm l):leftF all m=leftF all l:=by
 unfold leftF gets
 rw [wts_perm hp,sum_perm (hp.map _)]
theorem div_perm (h:DivOk all l) (hp:m.Perm l) {i k:Nat} (hi:i < l.length) (hk:k < m.length) (e:m[k].1=l[i].1):(divF all m).getD k 0=(divF all l).getD i 0:=by
 have hx:m[k]=l[i]:=nodupB_inj Prod.fst h.nd _ (hp.subset (List.getElem_mem hk)) _ (List.getElem_mem hi) e
 rw [div_rank (h.perm hp) hk,div_rank h hi,hx,rnk_perm hp,left_perm hp,wts_perm hp]
def scale (t:Int) (l:List Stk):List Stk:=l.map fun x=>(x.1,x.2*t)
@[simp] theorem scale_length (t:Int) (l:List Stk):(scale t l).length=l.length:=by simp [scale]
end
def fld (i:Nat) (x:Due):Int:=match i with
 | 0=>x.b
 | 1=>x.t
 | _=>x.c
def valL:List Stk->List Int->ByteArray->Int
 | p :: s,a :: g,n=>if n=p.1 then a else valL s g n
 | _,_,_=>0
theorem valL_none:∀ {s:List Stk} {g:List Int} {n:ByteArray},n∉s.map (·.1)->valL s g n=0
 | [],_,_,_=>by simp [valL]
 | p :: s,[],_,_=>by simp [valL]
 | p :: s,a :: g,n,h=>by
  simp only [List.map_cons,List.mem_cons,not_or] at h
  simp only [valL,if_neg h.1]
  exact valL_none h.2
theorem valL_at:∀ {s:List Stk} {g:List Int} {i:Nat},(s.map (·.1)).Nodup->g.length=s.length->(hi:i < s.length)->valL s g s[i].1=g.getD i 0
 | [],_,i,_,_,hi=>by simp at hi
 | p :: s,[],_,_,h,_=>by simp at h
 | p :: s,a :: g,0,_,_,_=>by simp [valL]
 | p :: s,a :: g,i+1,hd,hl,hi=>by
  simp only [List.map_cons,List.nodup_cons] at hd
  have hi':i < s.length:=by simpa using hi
  have hne:s[i].1≠p.1:=fun e=>hd.1 (e▸List.mem_map_of_mem (List.getElem_mem hi'))
  simp only [List.getElem_cons_succ,valL,if_neg hne,List.getD_cons_succ]
  exact valL_at hd.2 (by simpa using hl) hi'
structure DueIs (l:List Due) (F:Nat->ByteArray->Int):Prop where
 f:∀ x∈l,∀ k,k < 3->fld k x=F k x.n
 z:∀ n,n∉l.map (·.n)->∀ k,k < 3->F k n=0
 d:(l.map (·.n)).Nodup
theorem DueIs.add {l:List Due} {F:Nat->ByteArray->Int} (h:DueIs l F) (n:ByteArray):DueIs (addD n l) F:=by
 unfold addD
 cases hi:ixD n l with
 | some j=>exact h
 | none =>
  have hn:n∉l.map (·.n):=fun hx=>by
   obtain ⟨x,hx,e⟩:=List.mem_map.1 hx
   have:=ixD_none hi x hx
   rw [e,bnn] at this
   cases this
  refine ⟨fun x hx k hk=>?_,fun m hm k hk=>?_,?_⟩
  ·rcases List.mem_append.1 hx with hx | hx
   ·exact h.f x hx k hk
   ·simp only [List.mem_singleton] at hx
    subst hx
    rw [h.z n hn k hk]
    unfold fld; split<;>rfl
  ·simp only [List.map_append,List.mem_append,not_or] at hm
   exact h.z m hm.1 k hk
  ·simp only [List.map_append,List.map_cons,List.map_nil]
   rw [List.nodup_append]
   exact ⟨h.d,by simp,fun a ha b hb e=>by simp at hb; subst hb; subst e; exact hn ha⟩
theorem DueIs.put {l:List Due} {F:Nat->ByteArray->Int} (h:DueIs l F) (i:Nat) (hi3:i < 3) (n:ByteArray) (g:Int):DueIs (putD i n g l) (fun k m=>if k=i/\m=n then g else F k m):=by
 have ha:=h.add n
 obtain ⟨j,h1,h2⟩:=ixD_add n l
 obtain ⟨hj,hjn⟩:=ixD_some h1
 have hjn':n=(addD n l)[j].n:=(bytes_eq _ _).1 hjn
 have hnm:=putD_names i n g l
 rw [putD_eq h1] at hnm ⊢
 refine ⟨fun x hx k hk=>?_,fun m hm k hk=>?_,by rw [hnm]; exact ha.d⟩
 ·obtain ⟨q,hq,rfl⟩:=List.mem_iff_getElem.1 hx
  simp only [List.length_set] at hq
  rw [List.getElem_set]
  by_cases e:j=q
  ·subst e
   have hg:(addD n l).getD j default=(addD n l)[j]:=by simp [List.getD_eq_getElem?_getD,hj]
   simp only [if_true,setD_n,hg,<-hjn']
   have:=ha.f _ (List.getElem_mem hj) k hk
   rw [<-hjn'] at this
   by_cases ek:k=i
   ·subst ek
    simp only [and_self,if_true]
    unfold fld setD
    match k,hk with
    | 0,_=>rfl
    | 1,_=>rfl
    | 2,_=>rfl
   ·simp only [ek,false_and,if_false]
    rw [<-this]
    unfold fld setD
    match k,i,hk,hi3,ek with
    | 0,1,_,_,_=>rfl
    | 0,2,_,_,_=>rfl
    | 1,0,_,_,_=>rfl
    | 1,2,_,_,_=>rfl
    | 2,0,_,_,_=>rfl
    | 2,1,_,_,_=>rfl
    | 0,0,_,_,e=>exact absurd rfl e
    | 1,1,_,_,e=>exact absurd rfl e
    | 2,2,_,_,e=>exact absurd rfl e
  ·simp only [e,if_false]
   have hne:(addD n l)[q].n≠n:=fun e'=>by
    have hd:=ha.d
    rw [List.nodup_iff_pairwise_ne,List.pairwise_iff_getElem] at hd
    rcases Nat.lt_or_gt_of_ne e with hlt | hlt
    ·have:=hd j q (by simpa using hj) (by simpa using hq) hlt
     simp only [List.getElem_map] at this
     exact this (hjn'.symm.trans e'.symm)
    ·have:=hd q j (by simpa using hq) (by simpa using hj) hlt
     simp only [List.getElem_map] at this
     exact this (e'.trans hjn')
   rw [if_neg (fun hc=>hne hc.2)]
   exact ha.f _ (List.getElem_mem hq) k hk
 ·rw [hnm] at hm
  have hmn:m≠n:=fun e=>by
   subst e
   refine hm ?_
   have:=List.mem_map_of_mem (f:=Due.n) (List.getElem_mem hj)
   rw [<-hjn'] at this
   exact this
  rw [if_neg fun hc=>hmn hc.2]
  exact ha.z m hm k hk
def valV (v:Voy) (k:Nat) (n:ByteArray):Int:=valL (partS v k) (gotF v k) n
theorem partS_nodup {v:Voy} (h:checkF v=0) (i:Nat) (hi:i < 3):((partS v i).map (·.1)).Nodup:=by
 rw [(partS_facts h i hi).2.1]
 exact stakes_nodup ((check_ok h).1.st i hi)
structure SharesIs (v:Voy) (l:List Due):Prop where
 f:∀ x∈l,x.b=valV v 0 x.n/\x.t=valV v 1 x.n/\x.c=valV v 2 x.n
 m:∀ m,m∈l.map (·.n)↔∃ k,k < 3/\m∈(partS v k).map (·.1)
 s:l.Pairwise (fun x y=>nlt x.n y.n)
theorem placeF_mem {l:List Stk} {n:ByteArray} (h:0<=placeF l n):∃ (a:Nat) (ha:a < l.length),placeF l n=a/\l[a].1=n:=by
 unfold placeF idx at h ⊢
 cases hf:l.findIdx? (fun p=>p.1==n) with
 | none=>rw [hf] at h; simp at h
 | some i =>
  rw [List.findIdx?_eq_some_iff_getElem] at hf
  obtain ⟨hi,h1,_⟩:=hf
  exact ⟨i,hi,rfl,(bytes_eq _ _).1 h1⟩
theorem placeF_iff {l:List Stk} (hd:(l.map (·.1)).Nodup) {n:ByteArray}:0<=placeF l n↔n∈l.map (·.1):=by
 constructor
 ·intro h
  obtain ⟨a,ha,_,e⟩:=placeF_mem h
  rw [<-e]
  exact List.mem_map_of_mem (List.getElem_mem ha)
 ·intro h
  obtain ⟨p,hp,rfl⟩:=List.mem_map.1 h
  obtain ⟨a,ha,rfl⟩:=List.mem_iff_getElem.1 hp
  rw [placeF_at hd ha]
  omega
structure LoanOk (names:List ByteArray) (x:Loan):Prop where
 f:x.fr∈names
 t:x.to∈names
 d:x.fr≠x.to
 n:1<=x.nets/\x.nets<=1000
 r:0<=x.rent/\x.rent<=8
theorem loanBad_iff {v:Voy} (hd:(v.lend.map (·.1)).Nodup) {x:Loan}:loanBad v x=false↔LoanOk (v.lend.map (·.1)) x:=by
 unfold loanBad
 simp only [Bool.or_eq_false_iff,Bool.not_eq_false',Bool.and_eq_true,decide_eq_false_iff_not,decide_eq_true_eq,Int.not_lt,beq_eq_false_iff_ne]
 constructor
 ·rintro ⟨⟨⟨⟨h1,h2⟩,h3⟩,h4⟩,h5⟩
  exact ⟨(placeF_iff hd).1 h1,(placeF_iff hd).1 h2,fun e=>h3 (by rw [e]),h4,h5⟩
 ·intro h
  have h1:=(placeF_iff hd).2 h.f
  have h2:=(placeF_iff hd).2 h.t
  refine ⟨⟨⟨⟨h1,h2⟩,fun e=>h.d ?_⟩,h.n⟩,h.r⟩
  obtain ⟨a,ha,e1,e2⟩:=placeF_mem h1
  obtain ⟨b,hb,e3,e4⟩:=placeF_mem h2
  have:a=b:=by omega
  subst this
  rw [<-e2,<-e4]
def mvL (d:Loan->Int) (n:ByteArray) (x:Loan):Int:=(if x.to=n then d x else 0)-(if x.fr=n then d x else 0)
def dN (x:Loan):Int:=x.nets
def dC (x:Loan):Int:=(8-x.rent)*x.nets
def netOf (loans:List Loan) (p:Stk):Int:=p.2+(loans.map (mvL dN p.1)).sum
def clmOf (loans:List Loan) (p:Stk):Int:=8*p.2+(loans.map (mvL dC p.1)).sum
theorem upd_getD {l:List Int} {a b:Nat} {d:Int} (ha:a < l.length) (hb:b < l.length) (hab:a≠b) (i:Nat) (hi:i < l.length):(upd l a b d).getD i 0=l.getD i 0+((if i=b then d else 0)-(if i=a then d else 0)):=by
 rw [List.getD_eq_getElem?_getD,upd_get ha hb hab]
 by_cases e1:i=b
 ·subst e1
  have:i≠a:=fun e=>hab e.symm
  simp [this,List.getD_eq_getElem?_getD,hi]
 ·by_cases e2:i=a
  ·subst e2
   simp [e1,List.getD_eq_getElem?_getD,hi]; omega
  ·simp [e1,e2,List.getD_eq_getElem?_getD,hi]
theorem lendF_iff {v:Voy} (hd:(v.lend.map (·.1)).Nodup):∀ (l:List Loan) (s:List Int×List Int),s.1.length=v.lend.length->s.2.length=v.lend.length ->
  ((∀ x∈l,LoanOk (v.lend.map (·.1)) x)->∃ s',lendF v l s=some s'/\s'.1.length=v.lend.length/\s'.2.length=v.lend.length/\∀ j (hj:j < v.lend.length),s'.1.getD j 0=s.1.getD j 0+(l.map (mvL dN v.lend[j].1)).sum/\s'.2.getD j 0=s.2.getD j 0+(l.map (mvL dC v.lend[j].1)).sum) ∧
  (∀ s',lendF v l s=some s'->∀ x∈l,LoanOk (v.lend.map (·.1)) x)
 | [],s,h1,h2=>⟨fun _=>⟨s,rfl,h1,h2,fun j hj=>by simp⟩,fun _ _ x hx=>by simp at hx⟩
 | x :: l,s,h1,h2=>by
  by_cases hx:LoanOk (v.lend.map (·.1)) x
  ·have hb:=(loanBad_iff hd).2 hx
   obtain ⟨a,ha,e1,e2⟩:=placeF_mem ((placeF_iff hd).2 hx.f)
   obtain ⟨b,hb',e3,e4⟩:=placeF_mem ((placeF_iff hd).2 hx.t)
   have hab:a≠b:=fun e=>by subst e; exact hx.d (by rw [<-e2,<-e4])
   have e:lend1 v s x=some (upd s.1 a b x.nets,upd s.2 a b ((8-x.rent)*x.nets)):=by
    unfold lend1
    rw [hb,e1,e3]
    rfl
   have ih:=lendF_iff hd l (upd s.1 a b x.nets,upd s.2 a b ((8-x.rent)*x.nets)) (by simpa using h1) (by simpa using h2)
   have hne:∀ j (hj:j < v.lend.length) (c:Nat) (hc:c < v.lend.length),(v.lend[c].1=v.lend[j].1)↔j=c:=fun j hj c hc=>by
    constructor
    ·intro e
     rw [List.nodup_iff_pairwise_ne,List.pairwise_iff_getElem] at hd
     rcases Nat.lt_trichotomy j c with h | h | h
     ·have:=hd j c (by simpa using hj) (by simpa using hc) h
      simp only [List.getElem_map] at this
      exact absurd e.symm this
     ·exact h
     ·have:=hd c j (by simpa using hc) (by simpa using hj) h
      simp only [List.getElem_map] at this
      exact absurd e this
    ·rintro rfl; rfl
   refine ⟨fun hall=>?_,fun s' hs'=>?_⟩
   ·obtain ⟨s',k1,k2,k3,k4⟩:=ih.1 fun y hy=>hall y (List.mem_cons_of_mem _ hy)
    refine ⟨s',by simp only [lendF,e]; exact k1,k2,k3,fun j hj=>?_⟩
    obtain ⟨q1,q2⟩:=k4 j hj
    simp only at q1 q2
    rw [upd_getD (by omega) (by omega) hab j (by omega)] at q1 q2
    simp only [List.map_cons,List.sum_cons]
    have m1:∀ d:Loan->Int,mvL d v.lend[j].1 x=(if j=b then d x else 0)-(if j=a then d x else 0):=fun d=>by
     unfold mvL
     rw [<-e4,<-e2]
     simp only [hne j hj b hb',hne j hj a ha]
    rw [m1,m1,q1,q2]
    simp only [dN,dC]
    omega
   ·simp only [lendF,e] at hs'
    intro y hy
    rcases List.mem_cons.1 hy with rfl | hy
    ·exact hx
    ·exact ih.2 s' hs' y hy
  ·refine ⟨fun hall=>absurd (hall x List.mem_cons_self) hx,fun s' hs'=>?_⟩
   have hb:loanBad v x=true:=by
    cases hb:loanBad v x with
    | true=>rfl
    | false=>exact absurd ((loanBad_iff hd).1 hb) hx
   simp [lendF,lend1,hb] at hs'
theorem neg_iff {l:List Int}:neg l=false↔∀ x∈l,0<=x:=by
 simp [neg]
theorem claims_iff {v:Voy} (hd:(v.lend.map (·.1)).Nodup) (c:List Int):claimsF v=some c↔(v.loans.length<=12/\(∀ x∈v.loans,LoanOk (v.lend.map (·.1)) x)/\(∀ p∈v.lend,0<=netOf v.loans p/\0<=clmOf v.loans p))/\c=v.lend.map (clmOf v.loans):=by
 obtain ⟨k1,k2⟩:=lendF_iff hd v.loans (wts v.lend,c8 v.lend) (by simp) (by simp)
 unfold claimsF
 by_cases h12:12 < v.loans.length
 ·rw [if_pos h12]
  simp only [reduceCtorEq,false_iff]
  rintro ⟨⟨h,_⟩,_⟩; omega
 rw [if_neg h12]
 by_cases hall:∀ x∈v.loans,LoanOk (v.lend.map (·.1)) x
 ·obtain ⟨⟨n,c'⟩,e1,e2,e3,e4⟩:=k1 hall
  rw [e1]
  simp only at e2 e3 e4 ⊢
  have en:n=v.lend.map (netOf v.loans):=by
   refine List.ext_getElem (by simp [e2]) fun j h1 h2=>?_
   have hj:j < v.lend.length:=by omega
   have:=(e4 j hj).1
   rw [wts_getD hj] at this
   simp only [List.getElem_map,netOf]
   rw [<-this]
   simp [List.getD_eq_getElem?_getD,h1]
  have ec:c'=v.lend.map (clmOf v.loans):=by
   refine List.ext_getElem (by simp [e3]) fun j h1 h2=>?_
   have hj:j < v.lend.length:=by omega
   have:=(e4 j hj).2
   have e8:(c8 v.lend).getD j 0=8*v.lend[j].2:=by simp [c8,wts,List.getD_eq_getElem?_getD,hj]
   rw [e8] at this
   simp only [List.getElem_map,clmOf]
   rw [<-this]
   simp [List.getD_eq_getElem?_getD,h1]
  have hneg:(neg n||neg c')=false↔∀ p∈v.lend,0<=netOf v.loans p/\0<=clmOf v.loans p:=by
   rw [Bool.or_eq_false_iff,neg_iff,neg_iff,en,ec]
   simp only [List.mem_map,forall_exists_index,and_imp,forall_apply_eq_imp_iff₂]
   exact ⟨fun ⟨a,b⟩ p hp=>⟨a p hp,b p hp⟩,fun h=>⟨fun p hp=>(h p hp).1,fun p hp=>(h p hp).2⟩⟩
  cases hb:(neg n||neg c') with
  | true =>
   simp only [if_true,reduceCtorEq,false_iff]
   rintro ⟨⟨_,_,h⟩,_⟩
   rw [hneg.2 h] at hb; cases hb
  | false =>
   simp only [Bool.false_eq_true,if_false,Option.some.injEq]
   rw [ec]
   exact ⟨fun e=>⟨⟨by omega,hall,hneg.1 hb⟩,e.symm⟩,fun h=>h.2.symm⟩
 ·have:lendF v v.loans (wts v.lend,c8 v.lend)=none:=by
   cases hl:lendF v v.loans (wts v.lend,c8 v.lend) with
   | none=>rfl
   | some s'=>exact absurd (k2 s' hl) hall
  rw [this]
  simp only [reduceCtorEq,false_iff]
  rintro ⟨⟨_,h,_⟩,_⟩
  exact hall h
structure VoyPerm (w v:Voy):Prop where
 g:w.gross=v.gross
 b:w.boat=v.boat
 n:w.nets=v.nets
 c:w.crew=v.crew
 costs:w.costs.Perm v.costs
 own:w.own.Perm v.own
 lend:w.lend.Perm v.lend
 hand:w.hand.Perm v.hand
 loans:w.loans.Perm v.loans
theorem stakes_perm {l m:List Stk} (h:l.Perm m) (hm:stakesOk m=true):stakesOk l=true:=by
 obtain ⟨h1,h2,h3⟩:=stakes_iff.1 hm
 exact stakes_iff.2 ⟨by rw [h.length_eq]; exact h1,fun x hx=>h2 x (h.subset hx),(h.map (·.1)).nodup_iff.2 h3⟩
section
variable {v w:Voy}
theorem VoyPerm.partL (p:VoyPerm w v) (i:Nat):(partL w i).Perm (partL v i):=by
 unfold E.partL
 split
 ·exact p.own
 ·exact p.lend
 ·exact p.hand
theorem VoyPerm.partE (p:VoyPerm w v) (i:Nat):partE w i=partE v i:=by
 unfold E.partE
 split
 ·exact p.b
 ·exact p.n
 ·exact p.c
theorem VoyPerm.ok (p : VoyPerm w v) (h : VoyOk v) : VoyOk w :=
  { g := by rw [p.g]; exact h.g,cl := by rw [p.costs.length_eq]; exact h.cl,c := fun x hx => by rw [p.g]; exact h.c x (p.costs.subset hx),cs := by rw [sum_perm p.costs,p.g]; exact h.cs
    e := fun i hi => by rw [p.partE]; exact h.e i hi,st := fun i hi => stakes_perm (p.partL i) (h.st i hi),p := fun i hi => by rw [p.partE,wts_perm (p.partL i)]; exact h.p i hi,s := by rw [p.b,p.n,p.c]; exact h.s }
theorem netOf_perm {l m:List Loan} (h:l.Perm m):netOf l=netOf m:=by
 funext q; unfold netOf; rw [sum_perm (h.map _)]
theorem clmOf_perm {l m:List Loan} (h:l.Perm m):clmOf l=clmOf m:=by
 funext q; unfold clmOf; rw [sum_perm (h.map _)]
theorem VoyPerm.claims (p:VoyPerm w v) (h:VoyOk v) {c:List Int} (hc:claimsF v=some c):claimsF w=some (w.lend.map (clmOf v.loans))/\c=v.lend.map (clmOf v.loans):=by
 have hd:=stakes_nodup (h.st 1 (by omega))
 have hd':=stakes_nodup ((p.ok h).st 1 (by omega))
 obtain ⟨⟨h1,h2,h3⟩,h4⟩:=(claims_iff (v:=v) hd c).1 hc
 refine ⟨(claims_iff (v:=w) hd' _).2 ⟨⟨by rw [p.loans.length_eq]; exact h1,fun x hx=>?_,fun q hq=>?_⟩,by rw [clmOf_perm p.loans]⟩,h4⟩
 ·have:=h2 x (p.loans.subset hx)
  exact { this with f:=(p.lend.map (·.1)).mem_iff.2 this.f,t:=(p.lend.map (·.1)).mem_iff.2 this.t }
 ·rw [netOf_perm p.loans,clmOf_perm p.loans]
  exact h3 q (p.lend.subset hq)
theorem claimsOf_map (l:List Stk) (f:Stk->Int):claimsOf l (l.map f)=l.map fun p=>(p.1,f p):=by
 unfold claimsOf
 refine List.ext_getElem (by simp) fun i h1 h2=>by simp
theorem VoyPerm.check (p:VoyPerm w v) (h:checkF v=0):checkF w=0:=by
 obtain ⟨hv,c,hc⟩:=check_ok h
 unfold checkF
 rw [if_pos (voyOk_iff.2 (p.ok hv)),(p.claims hv hc).1]
theorem VoyPerm.partS (p:VoyPerm w v) (h:checkF v=0) (i:Nat):(partS w i).Perm (partS v i):=by
 obtain ⟨hv,c,hc⟩:=check_ok h
 unfold E.partS
 split
 ·exact p.own
 ·obtain ⟨k1,k2⟩:=p.claims hv hc
  rw [hc,k1,k2]
  simp only [Option.getD_some,claimsOf_map]
  exact p.lend.map _
 ·exact p.hand
theorem VoyPerm.three (p:VoyPerm w v):threeF w=threeF v:=by
 unfold threeF netF parts3
 rw [p.g,sum_perm p.costs,p.b,p.n,p.c]
theorem VoyPerm.val (p:VoyPerm w v) (h:checkF v=0) (k:Nat) (n:ByteArray) (hk:k < 3):valV v k n=valV w k n:=by
 have hp:=p.partS h k
 have hd:=partS_nodup h k hk
 have hd':=partS_nodup (p.check h) k hk
 have hg:=gotF_length h k hk
 have hg':=gotF_length (p.check h) k hk
 by_cases hn:n∈(E.partS v k).map (·.1)
 ·obtain ⟨q,hq,rfl⟩:=List.mem_map.1 hn
  obtain ⟨i,hi,rfl⟩:=List.mem_iff_getElem.1 hq
  obtain ⟨j,hj,e⟩:=List.mem_iff_getElem.1 (hp.symm.subset hq)
  have e1:=valL_at hd hg hi
  have e2:=valL_at hd' hg' hj
  rw [e] at e2
  simp only [valV,e1,e2]
  unfold gotF
  rw [p.partE,p.three]
  by_cases he:0 < E.partE v k
  ·rw [if_pos he,if_pos he]
   exact (div_perm ((partS_facts h k hk).2.2 he) hp hi hj (by rw [e])).symm
  ·rw [if_neg he,if_neg he]
   simp [List.getD_eq_getElem?_getD,List.getElem?_replicate]
   split<;>split<;>rfl
 ·have hn':n∉(E.partS w k).map (·.1):=fun hx=>hn ((hp.map (·.1)).mem_iff.1 hx)
  simp only [valV,valL_none hn,valL_none hn']
end
end Go.Proofs.YtejodhjhddnbeaaDoor.E
