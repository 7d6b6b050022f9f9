/-
  The chapter of the share: its functions, and what they compute. Conditions: none.
-/
import Derived.Test.YtejodhjhddnbeaaDoorZ21
import Derived.Test.YtejodhjhddnbeaaDoorZ12
set_option linter.unusedVariables false
set_option linter.unusedSimpArgs false
namespace Go.Proofs.YtejodhjhddnbeaaDoor.E
open Go Go.RowKit
theorem sum_set:∀ (l:List Int) (a:Nat) (x:Int),a < l.length->(l.set a x).sum=l.sum-l.getD a 0+x
 | [],_,_,h=>by simp at h
 | y :: r,0,x,_=>by simp; omega
 | y :: r,a+1,x,h=>by
  have:=sum_set r a x (by simpa using h)
  simp only [List.set_cons_succ,List.sum_cons,this,List.getD_cons_succ]
  omega
theorem upd_sum {l:List Int} {a b:Nat} (d:Int) (ha:a < l.length) (hb:b < l.length) (hab:a≠b):(upd l a b d).sum=l.sum:=by
 unfold upd
 rw [sum_set _ _ _ (by simpa using hb),sum_set _ _ _ ha]
 have:(l.set a (l.getD a 0-d)).getD b 0=l.getD b 0:=by
  simp only [List.getD_eq_getElem?_getD,List.getElem?_set]
  rw [if_neg hab]
 rw [this]; omega
theorem lend1_sum {v:Voy} {s s':List Int×List Int} {x:Loan} (l1:s.1.length=v.lend.length) (l2:s.2.length=v.lend.length) (h:lend1 v s x=some s'):s'.2.sum=s.2.sum/\s'.1.length=v.lend.length/\s'.2.length=v.lend.length:=by
 unfold lend1 at h
 split at h
 ·cases h
 ·rename_i hb
  simp only [Bool.not_eq_true] at hb
  obtain ⟨h1,h2,h3,_⟩:=loanOk hb
  simp only [Option.some.injEq] at h
  subst h
  obtain ⟨a,ha,ea⟩:=placeF_lt h1
  obtain ⟨b,hb',eb⟩:=placeF_lt h2
  rw [ea,eb] at h3 ⊢
  refine ⟨?_,by simp [l1],by simp [l2]⟩
  simp only [Int.toNat_natCast]
  exact upd_sum _ (by omega) (by omega) (by omega)
theorem lendF_sum {v:Voy}:∀ (l:List Loan) {s s':List Int×List Int},s.1.length=v.lend.length->s.2.length=v.lend.length->lendF v l s=some s'->s'.2.sum=s.2.sum/\s'.2.length=v.lend.length
 | [],s,s',l1,l2,h=>by simp only [lendF,Option.some.injEq] at h; subst h; exact ⟨rfl,l2⟩
 | x :: r,s,s',l1,l2,h=>by
  simp only [lendF] at h
  split at h
  ·rename_i s1 h1
   obtain ⟨e1,e2,e3⟩:=lend1_sum l1 l2 h1
   obtain ⟨e4,e5⟩:=lendF_sum r e2 e3 h
   exact ⟨e4.trans e1,e5⟩
  ·cases h
theorem c8_sum (l:List Stk):(c8 l).sum=8*(wts l).sum:=by
 unfold c8
 induction wts l with
 | nil=>rfl
 | cons x r ih=>simp only [List.map_cons,List.sum_cons,ih]; omega
theorem claims_facts {v:Voy} {c:List Int} (h:claimsF v=some c):c.length=v.lend.length/\c.sum=8*(wts v.lend).sum/\∀ x∈c,0<=x:=by
 unfold claimsF at h
 split at h
 ·cases h
 ·split at h
  ·rename_i n c' hl
   split at h
   ·cases h
   ·rename_i hn
    simp only [Option.some.injEq] at h
    subst h
    obtain ⟨e1,e2⟩:=lendF_sum v.loans (by simp) (by simp) hl
    refine ⟨e2,by rw [e1]; exact c8_sum _,fun x hx=>?_⟩
    simp only [Bool.or_eq_true,not_or,Bool.not_eq_true,neg,List.any_eq_false,decide_eq_true_eq] at hn
    have:=hn.2 x hx
    omega
  ·cases h
def claimsOf (l:List Stk) (c:List Int):List Stk:=(l.zip c).map fun p=>(p.1.1,p.2)
theorem claimsOf_length {l:List Stk} {c:List Int} (h:c.length=l.length):(claimsOf l c).length=l.length:=by simp [claimsOf,h]
def partS (v:Voy):Nat->List Stk
 | 0=>v.own
 | 1=>claimsOf v.lend ((claimsF v).getD [])
 | _=>v.hand
def gotF (v:Voy) (i:Nat):List Int:=if 0 < partE v i then divF ((threeF v).getD i 0) (partS v i) else List.replicate (partL v i).length 0
def setD (i:Nat) (g:Int) (x:Due):Due:=match i with
 | 0=>{ x with b:=g }
 | 1=>{ x with t:=g }
 | _=>{ x with c:=g }
@[simp] theorem setD_n (i:Nat) (g:Int) (x:Due):(setD i g x).n=x.n:=by
 unfold setD; split<;>rfl
def addD (n:ByteArray) (l:List Due):List Due:=match ixD n l with
 | some _=>l
 | none=>l++[⟨n,0,0,0⟩]
def putD (i:Nat) (n:ByteArray) (g:Int) (l:List Due):List Due:=match ixD n (addD n l) with
 | some j=>(addD n l).set j (setD i g ((addD n l).getD j default))
 | none=>addD n l
def fillDu (i:Nat) (s:List Stk) (g:List Int) (k:Nat) (l:List Due):List Due:=(List.range k).foldl (fun l k=>putD i (s.getD k (ByteArray.empty,0)).1 (g.getD k 0) l) l
theorem fillDu_succ (i:Nat) (s:List Stk) (g:List Int) (k:Nat) (l:List Due):fillDu i s g (k+1) l=putD i (s.getD k (ByteArray.empty,0)).1 (g.getD k 0) (fillDu i s g k l):=by
 simp only [fillDu,List.range_succ,List.foldl_append,List.foldl_cons,List.foldl_nil]
@[simp] theorem fillDu_zero (i:Nat) (s:List Stk) (g:List Int) (l:List Due):fillDu i s g 0 l=l:=rfl
def duesTo (v:Voy):Nat->List Due
 | 0=>[]
 | i+1=>fillDu i (partS v i) (gotF v i) (partS v i).length (duesTo v i)
def sharesF (v:Voy):List Due:=if checkF v=0 then isr cmpD (duesTo v 3) else []
theorem ixD_some {n:ByteArray} {l:List Due} {j:Nat} (h:ixD n l=some j):∃ hj:j < l.length,(n==l[j].n)=true:=by
 unfold ixD at h
 rw [List.findIdx?_eq_some_iff_getElem] at h
 obtain ⟨hj,h1,_⟩:=h
 exact ⟨hj,h1⟩
theorem ixD_none {n:ByteArray} {l:List Due} (h:ixD n l=none):∀ x∈l,(n==x.n)=false:=by
 unfold ixD at h
 rw [List.findIdx?_eq_none_iff] at h
 exact h
theorem bnn (n:ByteArray):(n==n)=true:=(bytes_eq n n).2 rfl
theorem ixD_snoc {n:ByteArray} {l:List Due} (h:ixD n l=none) (x:Due) (hx:(n==x.n)=true):ixD n (l++[x])=some l.length:=by
 have h0:=ixD_none h
 unfold ixD
 rw [List.findIdx?_eq_some_iff_getElem]
 refine ⟨by simp,by simp [hx],fun j hj=>?_⟩
 rw [List.getElem_append_left hj]
 simp [h0 l[j] (List.getElem_mem _)]
theorem ixD_add (n:ByteArray) (l:List Due):∃ j,ixD n (addD n l)=some j/\j < (addD n l).length:=by
 unfold addD
 cases h:ixD n l with
 | some j=>exact ⟨j,h,(ixD_some h).1⟩
 | none=>exact ⟨l.length,ixD_snoc h _ (bnn n),by simp⟩
theorem putD_eq {i:Nat} {n:ByteArray} {g:Int} {l:List Due} {j:Nat} (h:ixD n (addD n l)=some j):putD i n g l=(addD n l).set j (setD i g ((addD n l).getD j default)):=by
 unfold putD; rw [h]
theorem addD_names (n:ByteArray) (l:List Due):(addD n l).map (·.n)=l.map (·.n)\/((addD n l).map (·.n)=l.map (·.n)++[n]/\n∉l.map (·.n)):=by
 unfold addD
 cases h:ixD n l with
 | some j=>exact .inl rfl
 | none =>
  right
  refine ⟨by simp,fun hx=>?_⟩
  obtain ⟨x,hx,e⟩:=List.mem_map.1 hx
  have:=ixD_none h x hx
  rw [e,bnn] at this
  cases this
theorem putD_names (i:Nat) (n:ByteArray) (g:Int) (l:List Due):(putD i n g l).map (·.n)=(addD n l).map (·.n):=by
 obtain ⟨j,h1,h2⟩:=ixD_add n l
 rw [putD_eq h1,List.map_set,setD_n]
 refine List.ext_getElem (by simp) fun k hk hk'=>?_
 simp only [List.getElem_set,List.getElem_map]
 split
 ·rename_i e; subst e
  simp [List.getD_eq_getElem?_getD,h2]
 ·rfl
theorem putD_nodup {i:Nat} {n:ByteArray} {g:Int} {l:List Due} (h:(l.map (·.n)).Nodup):((putD i n g l).map (·.n)).Nodup:=by
 rw [putD_names]
 rcases addD_names n l with e | ⟨e,hn⟩
 ·rw [e]; exact h
 ·rw [e]
  rw [List.nodup_append]
  exact ⟨h,by simp,fun a ha b hb e'=>by simp at hb; subst hb; subst e'; exact hn ha⟩
theorem putD_len (i:Nat) (n:ByteArray) (g:Int) (l:List Due):(putD i n g l).length<=l.length+1:=by
 have h:=congrArg List.length (putD_names i n g l)
 simp only [List.length_map] at h
 rw [h]
 rcases addD_names n l with e | ⟨e,_⟩ <;>
 ·have:=congrArg List.length e
  simp at this
  omega
theorem fillDu_facts (i:Nat) (s:List Stk) (g:List Int) (l:List Due) (h:(l.map (·.n)).Nodup):∀ k,((fillDu i s g k l).map (·.n)).Nodup/\(fillDu i s g k l).length<=l.length+k
 | 0=>⟨h,by simp⟩
 | k+1=>by
  obtain ⟨h1,h2⟩:=fillDu_facts i s g l h k
  rw [fillDu_succ]
  refine ⟨putD_nodup h1,?_⟩
  have:=putD_len i (s.getD k (ByteArray.empty,0)).1 (g.getD k 0) (fillDu i s g k l)
  omega
theorem addOne_facts {o:List Int} {p:Nat} {B:Int} (h:∀ x∈o,0<=x/\x<=B) (hB:B < 4611686018427387904) (hp:p < o.length):(∀ x∈addOne o p,0<=x/\x<=B+1)/\(addOne o p).sum=o.sum+1/\∀ i,(addOne o p).getD i 0=o.getD i 0+(if p=i then 1 else 0):=by
 have hg:=h o[p] (List.getElem_mem _)
 have e0:o.getD p 0=o[p]:=by simp [List.getD_eq_getElem?_getD,hp]
 have hw:IntKind.i64.wrap (o.getD p 0+1)=o[p]+1:=by rw [e0]; exact wrap_id (by omega) (by omega)
 unfold addOne
 rw [hw]
 refine ⟨fun x hx=>?_,?_,fun i=>?_⟩
 ·rcases List.mem_or_eq_of_mem_set hx with hx | rfl
  ·have:=h x hx; omega
  ·omega
 ·rw [sum_set _ _ _ hp,e0]; omega
 ·simp only [List.getD_eq_getElem?_getD,List.getElem?_set,hp,if_true]
  split
  ·rename_i e; subst e; simp [hp]
  ·omega
theorem pen_facts:∀ (zs:List Shr) (o:List Int) (B:Int),0<=B->(∀ x∈o,0<=x/\x<=B)->B+zs.length < 4611686018427387904->(∀ z∈zs,∃ q:Nat,q < o.length/\z.p=q) ->
  (∀ x∈zs.foldl (fun o x=>addOne o x.p.toNat) o,0<=x)/\(zs.foldl (fun o x=>addOne o x.p.toNat) o).sum=o.sum+zs.length/\∀ i:Nat,(zs.foldl (fun o x=>addOne o x.p.toNat) o).getD i 0=o.getD i 0+(zs.countP (fun z=>z.p==(i:Int)):Nat)
 | [],o,B,_,h,_,_=>⟨fun x hx=>(h x hx).1,by simp,fun i=>by simp⟩
 | z :: zs,o,B,hB,h,hb,hz=>by
  obtain ⟨q,hq,e⟩:=hz z List.mem_cons_self
  have hqn:z.p.toNat=q:=by rw [e]; rfl
  simp only [List.length_cons] at hb
  push_cast at hb
  obtain ⟨h1,h2,h3⟩:=addOne_facts (p:=z.p.toNat) h (by omega) (by omega)
  obtain ⟨k1,k2,k3⟩:=pen_facts zs (addOne o z.p.toNat) (B+1) (by omega) h1 (by omega) (fun y hy=>by
   obtain ⟨q',hq',e'⟩:=hz y (List.mem_cons_of_mem _ hy)
   exact ⟨q',by simpa [addOne] using hq',e'⟩)
  refine ⟨k1,by rw [List.foldl_cons,k2,h2,List.length_cons]; push_cast; omega,fun i=>?_⟩
  rw [List.foldl_cons,k3,h3,List.countP_cons]
  by_cases e2:z.p=(i:Int)
  ·have:z.p.toNat=i:=by omega
   simp [e2]; omega
  ·have:z.p.toNat≠i:=by omega
   simp [e2,this]
section
variable {all:Int} {l:List Stk}
def tops (all:Int) (l:List Stk):List Shr:=(isr cmpS (shrs all l l.length)).take (leftF all l)
theorem tops_len (h:DivOk all l):(tops all l).length=leftF all l/\(leftF all l:Int)=all-(gets all l).sum/\leftF all l<=l.length:=by
 obtain ⟨h1,h2⟩:=h.left
 have e:(leftF all l:Int)=all-(gets all l).sum:=by unfold leftF; omega
 refine ⟨?_,e,by omega⟩
 unfold tops
 rw [List.length_take,isr_length,shrs_length _ _ _ (Nat.le_refl _)]
 omega
theorem tops_mem {z:Shr} (hz:z∈tops all l):z∈shrs all l l.length:=(isr_perm cmpS _).subset (List.mem_of_mem_take hz)
@[simp] theorem gets_length (all:Int) (l:List Stk):(gets all l).length=l.length:=by simp [gets]
theorem div_facts (h:DivOk all l):(∀ x∈divF all l,0<=x)/\(divF all l).sum=all/\∀ i:Nat,(divF all l).getD i 0=(gets all l).getD i 0+((tops all l).countP (fun z=>z.p==(i:Int)):Nat):=by
 obtain ⟨t1,t2,t3⟩:=tops_len h
 have hlen:=h.len
 have e:divF all l=(tops all l).foldl (fun o x=>addOne o x.p.toNat) (gets all l):=by
  unfold divF pen
  rw [List.take_of_length_le (by rw [List.length_take]; omega)]
  rfl
 rw [e]
 obtain ⟨k1,k2,k3⟩:=pen_facts (tops all l) (gets all l) 10000000000000 (by omega) h.getsB (by omega) (fun z hz=>by
  obtain ⟨q,hq,e⟩:=shrs_place (tops_mem hz)
  exact ⟨q,by simpa using hq,e⟩)
 exact ⟨k1,by rw [k2,t1,t2]; omega,k3⟩
theorem divF_length (all:Int) (l:List Stk):(divF all l).length=l.length:=by unfold divF; rw [pen_length,gets_length]
end
theorem mem_le_sum:∀ {l:List Int},(∀ x∈l,0<=x)->∀ x∈l,x<=l.sum
 | [],_,x,hx=>by simp at hx
 | y :: r,h,x,hx=>by
  have h0:∀ z∈r,0<=z:=fun z hz=>h z (List.mem_cons_of_mem _ hz)
  have hs:0<=r.sum:=by
   clear hx h
   induction r with
   | nil=>simp
   | cons z r ih =>
    have:=ih fun z' hz'=>h0 z' (List.mem_cons_of_mem _ hz')
    have:=h0 z List.mem_cons_self
    simp only [List.sum_cons]; omega
  have hy:=h y List.mem_cons_self
  simp only [List.sum_cons]
  rcases List.mem_cons.1 hx with rfl | hx
  ·omega
  ·have:=mem_le_sum h0 x hx; omega
theorem VoyOk.three {v:Voy} (h:VoyOk v) (i:Nat):0<=(threeF v).getD i 0/\(threeF v).getD i 0<=10000000:=by
 obtain ⟨h1,h2,_⟩:=div_facts h.div3
 have hn:=h.div3.h1
 rw [List.getD_eq_getElem?_getD]
 cases hi:(threeF v)[i]? with
 | none=>simp
 | some x =>
  have hx:=List.mem_of_getElem? hi
  have:=mem_le_sum h1 x hx
  have:=h1 x hx
  simp only [Option.getD_some]
  omega
theorem claimsOf_wts {l:List Stk} {c:List Int} (h:c.length=l.length):wts (claimsOf l c)=c:=by
 unfold wts claimsOf
 rw [List.map_map]
 refine List.ext_getElem (by simp [h]) fun i h1 h2=>by simp
theorem claimsOf_names {l:List Stk} {c:List Int} (h:c.length=l.length):(claimsOf l c).map (·.1)=l.map (·.1):=by
 unfold claimsOf
 rw [List.map_map]
 refine List.ext_getElem (by simp [h]) fun i h1 h2=>by simp
theorem partS_facts {v:Voy} (h:checkF v=0) (i:Nat) (hi:i < 3):(partS v i).length=(partL v i).length/\(partS v i).map (·.1)=(partL v i).map (·.1)/\(0 < partE v i->DivOk ((threeF v).getD i 0) (partS v i)):=by
 obtain ⟨hv,c,hc⟩:=check_ok h
 have h3:=hv.three i
 have hst:=hv.st i hi
 have hp:=hv.p i hi
 have hd:partE v i≠0->DivOk ((threeF v).getD i 0) (partL v i):=fun he=>divOk_of h3.1 h3.2 hst (hp.resolve_left he)
 obtain rfl | rfl | rfl:i=0\/i=1\/i=2:=by omega
 ·exact ⟨rfl,rfl,fun he=>hd (by omega)⟩
 ·obtain ⟨k1,k2,k3⟩:=claims_facts hc
  simp only [partS,partL,hc,Option.getD_some]
  refine ⟨claimsOf_length k1,claimsOf_names k1,fun he=>?_⟩
  have hd1:=hd (by omega)
  simp only [partL] at hd1
  have hs:=stakes_sum hst
  simp only [partL] at hs
  refine { len:=by rw [claimsOf_length k1]; exact hd1.len,h0:=h3.1,h1:=h3.2,w:=fun x hx=>?_,pos:=?_,nd:=by rw [claimsOf_names k1]; exact hd1.nd,ne:=fun x hx=>?_ }
  ·have hx2:x.2∈c:=by
    have:x.2∈wts (claimsOf v.lend c):=List.mem_map_of_mem hx
    rwa [claimsOf_wts k1] at this
   have:=k3 x.2 hx2
   have:=mem_le_sum k3 x.2 hx2
   omega
  ·rw [claimsOf_wts k1,k2]
   have:=hd1.pos
   omega
  ·have:x.1∈v.lend.map (·.1):=by rw [<-claimsOf_names k1]; exact List.mem_map_of_mem hx
   obtain ⟨y,hy,e⟩:=List.mem_map.1 this
   rw [<-e]
   exact hd1.ne y hy
 ·exact ⟨rfl,rfl,fun he=>hd (by omega)⟩
theorem gotF_length {v:Voy} (h:checkF v=0) (i:Nat) (hi:i < 3):(gotF v i).length=(partS v i).length:=by
 unfold gotF
 split
 ·rw [divF_length]
 ·rw [List.length_replicate,(partS_facts h i hi).1]
theorem duesTo_facts {v:Voy} (h:checkF v=0):∀ i,i<=3->((duesTo v i).map (·.n)).Nodup/\(duesTo v i).length<=10*i
 | 0,_=>by simp [duesTo]
 | i+1,hi=>by
  obtain ⟨h1,h2⟩:=duesTo_facts h i (by omega)
  obtain ⟨k1,k2⟩:=fillDu_facts i (partS v i) (gotF v i) (duesTo v i) h1 (partS v i).length
  refine ⟨k1,?_⟩
  have e:=(partS_facts h i (by omega)).1
  obtain ⟨hv,_⟩:=check_ok h
  have:=stakes_len (hv.st i (by omega))
  simp only [duesTo]
  omega
def pickD (l:List Due) (seen:List Nat):List Due:=seen.map fun i=>l.getD i default
theorem nodup_len:∀ (n:Nat) (l:List Nat),l.Nodup->(∀ x∈l,x < n)->l.length<=n
 | 0,l,_,h=>by
  cases l with
  | nil=>simp
  | cons x r=>exact absurd (h x List.mem_cons_self) (by omega)
 | n+1,l,hd,h=>by
  have:=nodup_len n (l.erase n) (hd.erase n) (fun x hx=>by
   have h1:=h x (List.mem_of_mem_erase hx)
   have h2:x≠n:=fun e=>by subst e; exact hd.not_mem_erase hx
   omega)
  rw [List.length_erase] at this
  split at this<;>omega
theorem pick_all {l:List Due} {seen:List Nat} (hd:seen.Nodup) (hb:∀ x∈seen,x < l.length) (ha:∀ i,i < l.length->i∈seen):(pickD l seen).Perm l:=by
 have h1:seen.Perm (List.range l.length):=(List.perm_ext_iff_of_nodup hd List.nodup_range).2 fun a=>by
  rw [List.mem_range]; exact ⟨hb a,ha a⟩
 have h2:pickD l (List.range l.length)=l:=by
  refine List.ext_getElem (by simp [pickD]) fun i h1 h2=>?_
  simp [pickD,List.getD_eq_getElem?_getD,h2]
 have:=h1.map fun i=>l.getD i default
 rw [show (List.range l.length).map (fun i=>l.getD i default)=l from h2] at this
 exact this
theorem isrD_perm {l m:List Due} (h:l.Perm m) (hd:(m.map (·.n)).Nodup):isr cmpD l=isr cmpD m:=by
 have hp:(isr cmpD l).Perm (isr cmpD m):=(isr_perm cmpD l).trans (h.trans (isr_perm cmpD m).symm)
 refine List.Perm.eq_of_pairwise (le:=fun x y=>ltOf cmpD y x=false) (fun a b ha hb h1 h2=>?_) (isr_sorted swoD l) (isr_sorted swoD m) hp
 have ha':a∈m:=h.subset ((isr_perm cmpD l).subset ha)
 have hb':b∈m:=(isr_perm cmpD m).subset hb
 refine nodupB_inj Due.n (nodupB_iff.2 hd) a ha' b hb' ?_
 simp only [ltOf,decide_eq_false_iff_not] at h1 h2
 by_cases e:a.n=b.n
 ·exact e
 ·exact absurd (nlt_total e) (not_or.2 ⟨h2,h1⟩)
def voyB (v:Voy):Blk:=.box [.fv false (.int .i64 v.gross),.fv false (.sl false 1 (ints v.costs)),.fv false (.int .i64 v.boat),.fv false (.int .i64 v.nets),.fv false (.int .i64 v.crew),.fv false (.sl false 2 (stL v.own)),.fv false (.sl false 2 (stL v.lend)),.fv false (.sl false 2 (stL v.hand)),.fv false (.sl false 4 (loL v.loans))]
def P28:Plan:=[([6],[]),([17],[]),([100],[]),([99,101],[]),([8],[]),([14],[]),([16],[]),([104,105],[]),([106],[]),([102],[])]
def P35:Plan:=[([18],[134]),([19],[134]),([20],[134]),([121],[134]),([122],[134]),([123],[134]),([20],[134]),([125],[134]),([126],[134]),([127],[134]),([20],[134]),([129],[134]),([130],[134]),([131],[134]),([120,124,128,132],[134]),([133],[])]
def partC:Nat->List V
 | 0 => [.fv false (.str "boat".toUTF8), .fv false (.fn (.func 141) [] [])]
 | 1 => [.fv false (.str "nets".toUTF8), .fv false (.fn (.func 142) [] [])]
 | _ => [.fv false (.str "crew".toUTF8), .fv false (.fn (.func 143) [] [])]
def wst (l:List Stk) (c:List Int) (k:Nat):List Stk:=claimsOf (l.take k) (c.take k)++l.drop k
theorem wst_len {l:List Stk} {c:List Int} (h:c.length=l.length) (k:Nat):(wst l c k).length=l.length:=by
 unfold wst
 rw [List.length_append,claimsOf_length (by simp [h])]
 simp; omega
theorem wst_at {l:List Stk} {c:List Int} (h:c.length=l.length) {k:Nat} (hk:k < l.length):(wst l c k)[k]? = some l[k]:=by
 unfold wst
 rw [List.getElem?_append_right (by rw [claimsOf_length (by simp [h])]; simp; omega)]
 rw [claimsOf_length (by simp [h])]
 have e:min k l.length=k:=by omega
 simp [List.getElem?_drop,e,hk]
theorem wst_set {l:List Stk} {c:List Int} (h:c.length=l.length) {k:Nat} (hk:k < l.length):(stL (wst l c k)).set k (.agg [.str l[k].1,.int .i64 (c[k]'(by omega))])=stL (wst l c (k+1)):=by
 refine List.ext_getElem? fun j=>?_
 have hl:=wst_len h
 have key:∀ (k j:Nat),k<=l.length->(wst l c k)[j]? = if j < k then (l[j]?).bind fun x=>(c[j]?).map fun y=>(x.1,y) else l[j]?:=fun k j hk=>by
  unfold wst
  have hcl:=claimsOf_length (l:=l.take k) (c:=c.take k) (by simp [h])
  simp only [List.length_take,Nat.min_eq_left hk] at hcl
  split
  ·rename_i hj
   rw [List.getElem?_append_left (by omega)]
   unfold claimsOf
   have h1:j < l.length:=by omega
   have h2:j < c.length:=by omega
   simp [List.getElem?_zip_eq_some,List.getElem?_take,hj,h1,h2,List.zip_eq_zipWith,List.getElem?_zipWith]
  ·rename_i hj
   rw [List.getElem?_append_right (by omega),hcl,List.getElem?_drop]
   congr 1; omega
 rw [List.getElem?_set,stL_get?,stL_get?,key _ _ (by omega),key _ _ (by omega),stL_length,hl]
 have hc:k < c.length:=by omega
 by_cases e:k=j
 ·subst e
  simp [hk,hc,stF]
 ·simp only [e,if_false]
  by_cases e2:j < k
  ·simp [e2,show j < k+1 by omega]
  ·simp [e2,show ¬ j < k+1 by omega]
theorem wst_zero (l:List Stk) (c:List Int):wst l c 0=l:=by simp [wst,claimsOf]
theorem wst_all {l:List Stk} {c:List Int} (h:c.length=l.length):wst l c l.length=claimsOf l c:=by
 unfold wst
 rw [List.take_length,<-h,List.take_length,h,List.drop_length,List.append_nil]
theorem v25 (ctx : Ctx) (hC0 : CtxOk (pg ctx)) (h65 : H65 ctx) (h21 : H21 ctx) (h59 : H59 ctx) (h61 : H61 ctx) (h55 : H55 ctx) (h62 : H62 ctx) (h50 : H50 ctx) (h141 : H141 ctx) (h142 : H142 ctx) (h143 : H143 ctx) (h63 : ∀ xs,ctx 63 xs = none) (v : Voy) (hv : Small v) : Valid Tryd.prog 25 [(false,voyF v)] [.us 4 (duL (sharesF v)),.fv (.int .i64 (checkF v))] := by
  have hT := tokQ ctx
  have hC := ctxQ_ok ctx hC0 h65
  refine valid_of_evS (G := pgQ ctx) hT hC Tryd.func25 (by simp [Tryd.ntmps25]) ⟨_,rfl,?_⟩
  simp only [Tryd.ntmps25,Tryd.results25,initSt,initEnv,voyF,voyC]
  have e21 := h21 v hv
  simp only [voyF,voyC] at e21
  refine evS_seq (evS_k hT hC [1] [1] (by simp [keepO,keepS,voyB]; rfl) ?_)
  refine evS_seq (evS_seq (evS_k hT hC [1,4] [1] (by simp [keepO,keepS,e21,voyB]; rfl) ?_))
  refine evS_seq (evS_k hT hC [1,4,24] [1] (by simp [keepO,keepS,voyB]; rfl) ?_)
  refine evS_cond rfl (fun hb => ?_) (fun hb => ?_)
  · simp at hb
    refine evS_seq (evS_k hT hC [2,3] [2] (by simp [keepO,keepS,voyB]; rfl) ?_)
    refine evS_ret ?_
    simp [sharesF,hb,duL]
  · simp at hb
    refine evS_skip ?_
    refine evS_seq (evS_k hT hC [5] [5] (by simp [keepO,keepS,voyB]; rfl) ?_)
    refine evS_seq (evS_k hT hC [5,6] [5,28] (by simp [keepO,keepS,voyB]; rfl) ?_)
    obtain ⟨hvo,c,hc⟩ := check_ok hb
    have e59 := h59 v hvo
    simp only [voyF,voyC] at e59
    have e59l := threeF_len v
    refine evS_seq (evS_k hT hC [5,6,7] [5,7,28] (by simp [keepO,keepS,e59,voyB]; rfl) ?_)
    refine evS_seq (evS_seq (evS_k hT hC [5,6,7,31,32] [5,7,28] (τ := { env := [(5,V.ptr 5 0),(6,V.map 28),(7,V.own 7 0 (threeF v).length),(31,.fv false (.agg partsF)),(32,.fv false (.int .i64 (0 : Nat)))],blk := (5,voyB v) :: (7,.arr 1 (ints (threeF v))) :: (28,.mp (dueE 0 (duesTo v 0))) :: dueB 0 (duesTo v 0) }) (by simp [keepO,keepS,glTab,partsF,voyB,duesTo,dueE,dueB]) ?_))
    refine evS_block ?_
    refine evS_loop (fun i : Nat => ({ env := [(5,V.ptr 5 0),(6,V.map 28),(7,V.own 7 0 (threeF v).length),(31,.fv false (.agg partsF)),(32,.fv false (.int .i64 i))],blk := (5,voyB v) :: (7,.arr 1 (ints (threeF v))) :: (28,.mp (dueE 0 (duesTo v i))) :: dueB 0 (duesTo v i) } : St)) (fun i => 3 - i) (fun i => i ≤ 3) 0 (Wk.refl _) (by omega) (fun i hi => ?_)
    refine evS_seq (evS_k hT hC [5,6,7,31,32,33] [5,7,28] (by simp [keepO,keepS,kpIf_dueB,voyB]; rfl) ?_)
    refine evS_seq (evS_cond rfl (fun hb2 => ?_) (fun hb2 => ?_))
    · have hi3 : i < 3 := by simp at hb2; omega
      refine evS_skip ?_
      refine evS_seq (evS_block ?_)
      have hlen : (partL v i).length ≤ 10 := stakes_len (hvo.st i hi3)
      have e61 : ∀ r c,ctx 61 [(r,.sl c 2 (stL (partL v i)))] = some [.us 2 (stL (partL v i))] := fun r c => h61 _ r c hlen
      refine evS_seq (evS_k hT hC [5,6,7,8,9,31,32] [5,7,9,28] (τ := { env := [(5,V.ptr 5 0),(6,V.map 28),(7,V.own 7 0 (threeF v).length),(8,.fv false (.int .i64 i)),(9,V.ptr 9 0),(31,.fv false (.agg partsF)),(32,.fv false (.int .i64 i))],blk := (5,voyB v) :: (7,.arr 1 (ints (threeF v))) :: (9,.box (partC i)) :: (28,.mp (dueE 0 (duesTo v i))) :: dueB 0 (duesTo v i) }) (by
        generalize duesTo v i = ds
        obtain rfl | rfl | rfl : i = 0 ∨ i = 1 ∨ i = 2 := by omega
        all_goals simp [keepO,keepS,kpIf_dueB,partsF,partC,map_dueB,map_dueE,rm_dueB_lt,put_dueB_lt,lk_dueB_lt,dn_ne,ne_dn,voyB]) ?_)
      have e141 := h141 v
      have e142 := h142 v
      have e143 := h143 v
      simp only [voyF,voyC] at e141 e142 e143
      refine evS_seq (evS_k hT hC [5,6,7,8,10,31,32] [5,7,10,28] (τ := { env := [(5,V.ptr 5 0),(6,V.map 28),(7,V.own 7 0 (threeF v).length),(8,.fv false (.int .i64 i)),(10,.own 10 0 (partL v i).length),(31,.fv false (.agg partsF)),(32,.fv false (.int .i64 i))],blk := (5,voyB v) :: (7,.arr 1 (ints (threeF v))) :: (10,.arr 2 (stL (partL v i))) :: (28,.mp (dueE 0 (duesTo v i))) :: dueB 0 (duesTo v i) }) (by
        generalize duesTo v i = ds
        obtain rfl | rfl | rfl : i = 0 ∨ i = 1 ∨ i = 2 := by omega
        all_goals simp only [partL] at e61
        all_goals simp [keepO,keepS,kpIf_dueB,partL,partC,map_dueB,map_dueE,rm_dueB_lt,put_dueB_lt,lk_dueB_lt,dn_ne,ne_dn,voyB,e61,e141,e142,e143]) ?_)
      have e55 := h55 v hvo.lend.1 hvo.lend.2 hv.2.2.2.2
      rw [hc] at e55
      simp only [voyF,voyC,claimsR] at e55
      obtain ⟨cl,_,_⟩ := claims_facts hc
      refine evS_join { env := [(5,V.ptr 5 0),(6,V.map 28),(7,V.own 7 0 (threeF v).length),(8,.fv false (.int .i64 i)),(10,.own 10 0 (partS v i).length),(31,.fv false (.agg partsF)),(32,.fv false (.int .i64 i))],blk := (5,voyB v) :: (7,.arr 1 (ints (threeF v))) :: (10,.arr 2 (stL (partS v i))) :: (28,.mp (dueE 0 (duesTo v i))) :: dueB 0 (duesTo v i) } ?_ ?_
      · refine evS_seq (evS_k hT hC [5,6,7,8,10,31,32,42] [5,7,10,28] (by simp [keepO,keepS,kpIf_dueB,voyB]; rfl) ?_)
        refine evS_cond rfl (fun hb3 => ?_) (fun hb3 => ?_)
        · have hi1 : i = 1 := by simp at hb3; omega
          subst hi1
          generalize duesTo v 1 = ds
          simp only [partL] at hlen
          have hps : partS v 1 = claimsOf v.lend c := by simp [partS,hc]
          rw [hps]
          simp only [partL]
          refine evS_seq (evS_k hT hC [5,6,7,8,10,11,31,32] [5,7,10,11,28] (by simp [keepO,keepS,kpIf_dueB,map_dueB,map_dueE,rm_dueB_lt,put_dueB_lt,lk_dueB_lt,dn_ne,ne_dn,e55,voyB]; rfl) ?_)
          refine evS_seq (evS_k hT hC [5,6,7,8,10,11,31,32,49,50] [5,7,10,11,28] (by simp [keepO,keepS,kpIf_dueB,map_dueB,map_dueE,rm_dueB_lt,put_dueB_lt,lk_dueB_lt,dn_ne,ne_dn,voyB]; rfl) ?_)
          refine evS_block ?_
          refine evS_loop (fun k : Nat => ({ env := [(5,V.ptr 5 0),(6,V.map 28),(7,V.own 7 0 (threeF v).length),(8,.fv false (.int .i64 (1 : Nat))),(10,.own 10 0 (wst v.lend c k).length),(11,.own 11 0 c.length),(31,.fv false (.agg partsF)),(32,.fv false (.int .i64 (1 : Nat))),(49,.fv false (.int .i64 v.lend.length)),(50,.fv false (.int .i64 k))],blk := (5,voyB v) :: (7,.arr 1 (ints (threeF v))) :: (10,.arr 2 (stL (wst v.lend c k))) :: (11,.arr 1 (ints c)) :: (28,.mp (dueE 0 ds)) :: dueB 0 ds } : St)) (fun k => v.lend.length - k) (fun k => k ≤ v.lend.length) 0 (by simp only [wst_zero]; exact Wk.refl _) (by omega) (fun k hk => ?_)
          refine evS_seq (evS_k hT hC [5,6,7,8,10,11,31,32,49,50,51] [5,7,10,11,28] (by simp [keepO,keepS,kpIf_dueB,voyB]; rfl) ?_)
          refine evS_seq (evS_cond rfl (fun hb4 => ?_) (fun hb4 => ?_))
          · have hkl : k < v.lend.length := by simp at hb4; omega
            have hkc : k < c.length := by omega
            have hw := wst_at cl hkl
            have hs := wst_set cl hkl
            have hwl := wst_len cl k
            have hw2 : ∀ h,(wst v.lend c k)[k]'h = v.lend[k] := fun h => by
              have := List.getElem?_eq_getElem h
              rw [hw] at this
              simpa using this.symm
            refine evS_skip ?_
            refine evS_seq (evS_block ?_)
            refine evS_seq (evS_k hT hC [5,6,7,8,10,11,13,31,32,49,50] [5,7,10,11,28] (by simp [keepO,keepS,kpIf_dueB,voyB]; rfl) ?_)
            refine evS_k hT hC [5,6,7,8,10,11,31,32,49,50] [5,7,10,11,28] (τ := { env := [(5,V.ptr 5 0),(6,V.map 28),(7,V.own 7 0 (threeF v).length),(8,.fv false (.int .i64 (1 : Nat))),(10,.own 10 0 (wst v.lend c (k + 1)).length),(11,.own 11 0 c.length),(31,.fv false (.agg partsF)),(32,.fv false (.int .i64 (1 : Nat))),(49,.fv false (.int .i64 v.lend.length)),(50,.fv false (.int .i64 k))],blk := (5,voyB v) :: (7,.arr 1 (ints (threeF v))) :: (10,.arr 2 (stL (wst v.lend c (k + 1)))) :: (11,.arr 1 (ints c)) :: (28,.mp (dueE 0 ds)) :: dueB 0 ds }) (by
              rw [wst_len cl (k + 1)]
              simp [keepO,keepS,kpIf_dueB,hkc,hwl,hkl,hw,hw2,hs,stF,voyB]) ?_
            refine evS_k hT hC [5,6,7,8,10,11,31,32,49,50] [5,7,10,11,28] (by simp [keepO,keepS,kpIf_dueB,voyB]; rfl) ?_
            refine ⟨k + 1,?_,by omega,by omega⟩
            have hwr : IntKind.i64.wrap ((k : Int) + 1) = ((k + 1 : Nat) : Int) := by rw [wrap_id (by omega) (by omega)]; push_cast; rfl
            simp only [hwr]
            exact Wk.refl _
          · have hkl : k = v.lend.length := by simp at hb4; omega
            subst hkl
            refine evS_keep [5,6,7,8,10,31,32] [5,7,10,28] (by simp [keepS,kpIf_dueB,voyB]; rfl) (evS_exit ?_)
            simp [InBlock,Then,wst_all cl,voyB,claimsOf_length cl]
        · have hps : partS v i = partL v i := by
            have : i ≠ 1 := by simp at hb3; omega
            obtain rfl | rfl : i = 0 ∨ i = 2 := by omega
            · rfl
            · rfl
          rw [hps]
          exact evS_keep [5,6,7,8,10,31,32] [5,7,10,28] (by simp [keepS,kpIf_dueB,voyB]) (evS_skip ⟨rfl,rfl⟩)
      · obtain ⟨pl,pn,pd⟩ := partS_facts hb i hi3
        have gl := gotF_length hb i hi3
        refine evS_seq (evS_k hT hC [5,6,7,8,10,31,32] [5,7,10,28] (by simp [keepO,keepS,kpIf_dueB,map_dueB,map_dueE,rm_dueB_lt,put_dueB_lt,lk_dueB_lt,dn_ne,ne_dn,voyB]; rfl) ?_)
        refine evS_join { env := [(5,V.ptr 5 0),(6,V.map 28),(7,V.own 7 0 (threeF v).length),(8,.fv false (.int .i64 i)),(10,.own 10 0 (partS v i).length),(14,.own 14 0 (gotF v i).length),(31,.fv false (.agg partsF)),(32,.fv false (.int .i64 i))],blk := (5,voyB v) :: (7,.arr 1 (ints (threeF v))) :: (10,.arr 2 (stL (partS v i))) :: (14,.arr 1 (ints (gotF v i))) :: (28,.mp (dueE 0 (duesTo v i))) :: dueB 0 (duesTo v i) } ?_ ?_
        · have e62 := fun ro => h62 v ro
          simp only [voyF,voyC] at e62
          generalize duesTo v i = ds
          refine evS_seq (evS_k hT hC [5,6,7,8,10,15,31,32] [5,7,10,15,28] (by simp [keepO,keepS,kpIf_dueB,map_dueB,map_dueE,rm_dueB_lt,put_dueB_lt,lk_dueB_lt,dn_ne,ne_dn,e62,voyB]; rfl) ?_)
          refine evS_seq (evS_k hT hC [5,6,7,8,10,31,32,72] [5,7,10,28] (τ := { env := [(5,V.ptr 5 0),(6,V.map 28),(7,V.own 7 0 (threeF v).length),(8,.fv false (.int .i64 i)),(10,.own 10 0 (partS v i).length),(31,.fv false (.agg partsF)),(32,.fv false (.int .i64 i)),(72,.fv false (.bool (decide (0 < partE v i))))],blk := (5,voyB v) :: (7,.arr 1 (ints (threeF v))) :: (10,.arr 2 (stL (partS v i))) :: (28,.mp (dueE 0 ds)) :: dueB 0 ds }) (by
            generalize partS v i = ps
            obtain rfl | rfl | rfl : i = 0 ∨ i = 1 ∨ i = 2 := by omega
            all_goals simp only [partE]
            · by_cases hp : 0 < v.boat
              · have hp' : v.boat ≠ 0 := by omega
                simp [keepO,keepS,kpIf_dueB,hp,hp',voyB,fscals,fscal]
              · simp [keepO,keepS,kpIf_dueB,hp,voyB]
            · by_cases hp : 0 < v.nets
              · have hp' : v.nets ≠ 0 := by omega
                simp [keepO,keepS,kpIf_dueB,hp,hp',voyB,fscals,fscal]
              · simp [keepO,keepS,kpIf_dueB,hp,voyB]
            · by_cases hp : 0 < v.crew
              · have hp' : v.crew ≠ 0 := by omega
                simp [keepO,keepS,kpIf_dueB,hp,hp',voyB,fscals,fscal]
              · simp [keepO,keepS,kpIf_dueB,hp,voyB]) ?_)
          have hl3 : i < (threeF v).length := by omega
          obtain ⟨x3,ex3⟩ : ∃ x,(threeF v).getD i 0 = x := ⟨_,rfl⟩
          have hx3 : ∀ h,(threeF v)[i]'h = x3 := fun h => by rw [← ex3]; simp [List.getD_eq_getElem?_getD,hl3]
          have hn1 : 8 * ((partS v i).length : Int) ≤ 281474976710656 := by omega
          have hn2 : ((partS v i).length : Int) ≤ 9223372036854775807 := by omega
          refine evS_cond rfl (fun hb3 => ?_) (fun hb3 => ?_)
          · have hp : 0 < partE v i := by simpa using hb3
            have eg : gotF v i = divF ((threeF v).getD i 0) (partS v i) := by unfold gotF; rw [if_pos hp]
            have e50 : ∀ r0 ro c,ctx 50 [(r0,.int .i64 x3),(ro,.sl c 2 (stL (partS v i)))] = some [.us 1 (ints (gotF v i))] := fun r0 ro c => by rw [eg,← ex3]; exact h50 _ _ r0 ro c (pd hp)
            refine evS_k hT hC [5,6,7,8,10,14,31,32] [5,7,10,14,28] (by
              simp [keepO,keepS,kpIf_dueB,map_dueB,map_dueE,rm_dueB_lt,put_dueB_lt,lk_dueB_lt,dn_ne,ne_dn,hl3,hx3,e50,voyB]
              rfl) ?_
            exact ⟨rfl,by simp [voyB]⟩
          · have hp : ¬ 0 < partE v i := by simpa using hb3
            have eg : gotF v i = List.replicate (partS v i).length 0 := by unfold gotF; rw [if_neg hp,pl]
            refine evS_k hT hC [5,6,7,8,10,14,31,32] [5,7,10,14,28] (by
              simp [keepO,keepS,kpIf_dueB,map_dueB,map_dueE,rm_dueB_lt,put_dueB_lt,lk_dueB_lt,dn_ne,ne_dn,hn1,hn2,voyB]
              rfl) ?_
            exact ⟨rfl,by simp [voyB,eg,ints]⟩
        · have hds := duesTo_facts hb i (by omega)
          have hdn : duesTo v (i + 1) = fillDu i (partS v i) (gotF v i) (partS v i).length (duesTo v i) := rfl
          generalize duesTo v i = ds at hds hdn ⊢
          refine evS_seq (evS_k hT hC [5,6,7,8,14,31,32,82,83,84] [5,7,10,14,28] (by simp [keepO,keepS,kpIf_dueB,voyB]; rfl) ?_)
          refine evS_block ?_
          refine evS_loop (fun k : Nat => ({ env := [(5,V.ptr 5 0),(6,V.map 28),(7,V.own 7 0 (threeF v).length),(8,.fv false (.int .i64 i)),(14,.own 14 0 (gotF v i).length),(31,.fv false (.agg partsF)),(32,.fv false (.int .i64 i)),(82,.own 10 0 (partS v i).length),(83,.fv false (.int .i64 (partS v i).length)),(84,.fv false (.int .i64 k))],blk := (5,voyB v) :: (7,.arr 1 (ints (threeF v))) :: (10,.arr 2 (stL (partS v i))) :: (14,.arr 1 (ints (gotF v i))) :: (28,.mp (dueE 0 (fillDu i (partS v i) (gotF v i) k ds))) :: dueB 0 (fillDu i (partS v i) (gotF v i) k ds) } : St)) (fun k => (partS v i).length - k) (fun k => k ≤ (partS v i).length) 0 (Wk.refl _) (by omega) (fun k hk => ?_)
          have hfk := fillDu_facts i (partS v i) (gotF v i) ds hds.1 k
          have hsu := fillDu_succ i (partS v i) (gotF v i) k ds
          generalize hdk : fillDu i (partS v i) (gotF v i) k ds = dk at hfk hsu ⊢
          refine evS_seq (evS_k hT hC [5,6,7,8,14,31,32,82,83,84,85] [5,7,10,14,28] (by simp [keepO,keepS,kpIf_dueB,voyB]; rfl) ?_)
          refine evS_seq (evS_cond rfl (fun hb4 => ?_) (fun hb4 => ?_))
          · have hkl : k < (partS v i).length := by simp at hb4; omega
            refine evS_skip ?_
            refine evS_seq (evS_block ?_)
            refine evS_seq (evS_k hT hC [5,6,7,8,14,16,17,31,32,82,83,84] [5,7,10,14,17,28] (by simp [keepO,keepS,kpIf_dueB,map_dueB,map_dueE,rm_dueB_lt,put_dueB_lt,lk_dueB_lt,dn_ne,ne_dn,hkl,voyB]; rfl) ?_)
            generalize (partS v i)[k].2 = w1
            obtain ⟨n1,en1⟩ : ∃ n,(partS v i)[k].1 = n := ⟨_,rfl⟩
            simp only [en1]
            have hbn := bnn n1
            refine evS_join { env := [(5,V.ptr 5 0),(6,V.map 28),(7,V.own 7 0 (threeF v).length),(8,.fv false (.int .i64 i)),(14,.own 14 0 (gotF v i).length),(16,.fv false (.int .i64 k)),(17,V.ptr 17 0),(31,.fv false (.agg partsF)),(32,.fv false (.int .i64 i)),(82,.own 10 0 (partS v i).length),(83,.fv false (.int .i64 (partS v i).length)),(84,.fv false (.int .i64 k))],blk := (5,voyB v) :: (7,.arr 1 (ints (threeF v))) :: (10,.arr 2 (stL (partS v i))) :: (14,.arr 1 (ints (gotF v i))) :: (17,.box [.fv false (.str n1),.fv false (.int .i64 w1)]) :: (28,.mp (dueE 0 (addD n1 dk))) :: dueB 0 (addD n1 dk) } ?_ ?_
            · have hfd := find_due ctx n1 dk 0
              cases hix : ixD n1 dk with
              | some j =>
                rw [hix] at hfd
                simp only [Option.map_some,Nat.zero_add] at hfd
                obtain ⟨hj,_⟩ := ixD_some hix
                have ea : addD n1 dk = dk := by unfold addD; rw [hix]
                rw [ea]
                refine evS_seq (evS_k hT hC [5,6,7,8,14,16,17,31,32,82,83,84,93] [5,7,10,14,17,28] (by simp [keepO,keepS,kpIf_dueB,map_dueB,map_dueE,rm_dueB_lt,put_dueB_lt,lk_dueB_lt,dn_ne,ne_dn,dn_lt,lt_dn,dn_beq,beq_dn,hfd,hbn,hj,voyB]; rfl) ?_)
                refine evS_cond rfl (fun hb5 => ?_) (fun hb5 => ?_)
                · simp at hb5
                · exact evS_keep [5,6,7,8,14,16,17,31,32,82,83,84] [5,7,10,14,17,28] (by simp [keepS,kpIf_dueB,voyB]) (evS_skip ⟨rfl,rfl⟩)
              | none =>
                rw [hix] at hfd
                simp only [Option.map_none] at hfd
                have ea : addD n1 dk = dk ++ [⟨n1,0,0,0⟩] := by unfold addD; rw [hix]
                rw [ea]
                refine evS_seq (evS_k hT hC [5,6,7,8,14,16,17,31,32,82,83,84,93] [5,7,10,14,17,28] (by simp [keepO,keepS,kpIf_dueB,map_dueB,map_dueE,rm_dueB_lt,put_dueB_lt,lk_dueB_lt,dn_ne,ne_dn,dn_lt,lt_dn,dn_beq,beq_dn,hfd,hbn,voyB]; rfl) ?_)
                refine evS_cond rfl (fun hb5 => ?_) (fun hb5 => ?_)
                · refine evS_k hT hC [5,6,7,8,14,16,17,31,32,82,83,84] [5,7,10,14,17,28] (by simp [keepO,keepS,kpIf_dueB,map_dueB,map_dueE,rm_dueB_lt,put_dueB_lt,lk_dueB_lt,dn_ne,ne_dn,dn_lt,lt_dn,dn_beq,beq_dn,hfd,hbn,voyB,freshN,map_new]; rfl) ?_
                  exact ⟨rfl,by simp [voyB,put_new dk n1,ent_new dk n1,kpIf_dueB]⟩
                · simp at hb5
            · obtain ⟨j,hj1,hj2⟩ := ixD_add n1 dk
              have hput := putD_eq (i := i) (g := (gotF v i).getD k 0) hj1
              have hfd := find_due ctx n1 (addD n1 dk) 0
              rw [hj1] at hfd
              simp only [Option.map_some,Nat.zero_add] at hfd
              have hkg : k < (gotF v i).length := by omega
              obtain ⟨g1,eg1⟩ : ∃ g,(gotF v i).getD k 0 = g := ⟨_,rfl⟩
              have hg1 : ∀ h,(gotF v i)[k]'h = g1 := fun h => by rw [← eg1]; simp [List.getD_eq_getElem?_getD,hkg]
              have en2 : ((partS v i).getD k (ByteArray.empty,0)).1 = n1 := by rw [← en1]; simp [List.getD_eq_getElem?_getD,hkl]
              rw [en2,eg1] at hsu
              rw [eg1] at hput
              rw [hput] at hsu
              generalize addD n1 dk = da at hj1 hj2 hput hfd hsu ⊢
              have hda : ∀ h,da[j]'h = da.getD j default := fun h => by simp [List.getD_eq_getElem?_getD,hj2]
              generalize da.getD j default = dj at hsu hput hda
              have hset := put_set hj2 (setD i g1 dj)
              have hEset : dueE 0 (da.set j (setD i g1 dj)) = dueE 0 da := dueE_set hj2 (by rw [setD_n,← hda hj2])
              refine evS_kd hT hC mixed P28 [5,6,7,8,14,31,32,82,83,84] [5,7,10,14,28] (τ := { env := [(5,V.ptr 5 0),(6,V.map 28),(7,V.own 7 0 (threeF v).length),(8,.fv false (.int .i64 i)),(14,.own 14 0 (gotF v i).length),(31,.fv false (.agg partsF)),(32,.fv false (.int .i64 i)),(82,.own 10 0 (partS v i).length),(83,.fv false (.int .i64 (partS v i).length)),(84,.fv false (.int .i64 k))],blk := (5,voyB v) :: (7,.arr 1 (ints (threeF v))) :: (10,.arr 2 (stL (partS v i))) :: (14,.arr 1 (ints (gotF v i))) :: (28,.mp (dueE 0 (da.set j (setD i g1 dj)))) :: dueB 0 (da.set j (setD i g1 dj)) }) (by kernel_rfl) (by kernel_rfl) (by
                rw [hEset]
                generalize partS v i = ps
                generalize gotF v i = gf at hkg hg1
                obtain rfl | rfl | rfl : i = 0 ∨ i = 1 ∨ i = 2 := by omega
                all_goals simp only [setD] at hset
                all_goals simp [keepO,keepS,kpIf_dueB,map_dueB,map_dueE,rm_dueB_lt,put_dueB_lt,lk_dueB_lt,dn_ne,ne_dn,dn_lt,lt_dn,dn_beq,beq_dn,hfd,hbn,hj2,hkg,hg1,hda,voyB,dueX,P28,hset,setD]) ?_
              refine evS_k hT hC [5,6,7,8,14,31,32,82,83,84] [5,7,10,14,28] (by simp [keepO,keepS,kpIf_dueB,voyB]; rfl) ?_
              refine ⟨k + 1,?_,by omega,by omega⟩
              have hwr : IntKind.i64.wrap ((k : Int) + 1) = ((k + 1 : Nat) : Int) := by rw [wrap_id (by omega) (by omega)]; push_cast; rfl
              simp only [hwr,hsu]
              exact Wk.refl _
          · have hkl : k = (partS v i).length := by simp at hb4; omega
            subst hkl
            refine evS_keep [5,6,7,31,32] [5,7,28] (by simp [keepS,kpIf_dueB,voyB]; rfl) (evS_exit ?_)
            simp only [InBlock,Then]
            refine evS_k hT hC [5,6,7,31,32] [5,7,28] (by simp [keepO,keepS,kpIf_dueB,voyB]; rfl) ?_
            refine ⟨i + 1,?_,by omega,by omega⟩
            have hwr : IntKind.i64.wrap ((i : Int) + 1) = ((i + 1 : Nat) : Int) := by rw [wrap_id (by omega) (by omega)]; push_cast; rfl
            simp only [hwr,hdn,hdk]
            exact Wk.refl _
    · have hi3 : i = 3 := by simp at hb2; omega
      subst hi3
      obtain ⟨hnd,hln⟩ := duesTo_facts hb 3 (by omega)
      have hsf : sharesF v = isr cmpD (duesTo v 3) := by unfold sharesF; rw [if_pos hb]
      generalize duesTo v 3 = ds at hnd hln hsf ⊢
      refine evS_keep [6] [28] (by simp [keepS,kpIf_dueB,voyB]; rfl) (evS_exit ?_)
      simp only [InBlock,Then]
      refine evS_seq (evS_k hT hC [6,18] [18,28] (by simp [keepO,keepS,kpIf_dueB,map_dueB,map_dueE,rm_dueB_lt,put_dueB_lt,lk_dueB_lt,dn_ne,ne_dn,dn_lt,lt_dn,dn_beq,beq_dn]; rfl) ?_)
      refine evS_seq (evS_seq (evS_k hT hC [18,113] [18,28,113] (by simp [keepO,keepS,kpIf_dueB,map_dueB,map_dueE,rm_dueB_lt,put_dueB_lt,lk_dueB_lt,dn_ne,ne_dn,dn_lt,lt_dn,dn_beq,beq_dn]; rfl) ?_))
      refine evS_block ?_
      refine evS_loop (fun seen : List Nat => ({ env := [(18,.own 18 0 (pickD ds seen).length),(113,.ptr 113 0)],blk := (18,.arr 4 (duL (pickD ds seen))) :: (28,.mp (dueE 0 ds)) :: (113,.mit (.map 28) ds.length ds.length seen) :: dueB 0 ds } : St)) (fun seen => ds.length - seen.length) (fun seen => seen.Nodup ∧ ∀ x ∈ seen,x < ds.length) [] (by exact Wk.refl _) ⟨List.nodup_nil,by simp⟩ (fun seen hs => ?_)
      obtain ⟨hs1,hs2⟩ := hs
      refine evS_seq (evS_nextk hT hC [18,113,115] [18,28,113] rfl rfl rfl rfl (by omega) rfl rfl rfl (by simp) (fun hall => ?_) (fun i hi hni => ?_))
      · refine ⟨_,by simp [keepO,keepS,kpIf_dueB,map_dueB,map_dueE,rm_dueB_lt,put_dueB_lt,lk_dueB_lt,dn_ne,ne_dn,dn_lt,lt_dn,dn_beq,beq_dn]; rfl,?_⟩
        refine evS_seq (evS_cond rfl (fun hb3 => ?_) (fun hb3 => ?_))
        · simp at hb3
        · refine evS_exit ?_
          have hpm := pick_all hs1 hs2 (fun i hi => hall i (by simpa using hi))
          have hso : isr cmpD (pickD ds seen) = sharesF v := by rw [hsf]; exact isrD_perm hpm hnd
          have hlo : (pickD ds seen).length < 1000000 := by rw [hpm.length_eq]; omega
          have hno : nodupB ((pickD ds seen).map Due.n) = true := nodupB_iff.2 ((hpm.map Due.n).nodup_iff.2 hnd)
          have hle : (sharesF v).length = (pickD ds seen).length := by rw [← hso,isr_length]
          generalize pickD ds seen = out at hso hlo hno hle ⊢
          simp only [InBlock,Then]
          refine evS_seq (evS_k hT hC [18] [18] (by simp [keepO,keepS,kpIf_dueB,map_dueB,map_dueE,rm_dueB_lt,put_dueB_lt,lk_dueB_lt,dn_ne,ne_dn,dn_lt,lt_dn,dn_beq,beq_dn,inlQ,hlo,hno,h63,hso]; rfl) ?_)
          simp only [← hle]
          have hlq : (sharesF v).length < 1000000 := by omega
          generalize sharesF v = q at hlq ⊢
          refine evS_seq (evS_k hT hC [2,3] [2,18] (by simp [keepO,keepS,kpIf_dueB,map_dueB,map_dueE,rm_dueB_lt,put_dueB_lt,lk_dueB_lt,dn_ne,ne_dn,dn_lt,lt_dn,dn_beq,beq_dn]; rfl) ?_)
          refine evS_ret ?_
          simp [hb,lk_dueB_lt]
      · refine ⟨_,by simp [keepO,keepS,kpIf_dueB,map_dueB,map_dueE,rm_dueB_lt,put_dueB_lt,lk_dueB_lt,dn_ne,ne_dn,dn_lt,lt_dn,dn_beq,beq_dn]; rfl,?_⟩
        refine evS_seq (evS_cond rfl (fun hb3 => ?_) (fun hb3 => ?_))
        · have hi2 : i < ds.length := by simpa using hi
          have hdi := dueE_get ds 0 i
          simp only [Nat.zero_add,List.getElem?_eq_getElem hi2,Option.map_some] at hdi
          have hsn : (seen ++ [i]).Nodup := by
            rw [List.nodup_append]
            exact ⟨hs1,by simp,fun a ha b hb' e => by simp at hb'; subst hb'; subst e; exact hni ha⟩
          have hsb : ∀ x ∈ seen ++ [i],x < ds.length := fun x hx => by
            rcases List.mem_append.1 hx with hx | hx
            · exact hs2 x hx
            · simp at hx; omega
          have hsl := nodup_len ds.length _ hsn hsb
          simp only [List.length_append,List.length_cons,List.length_nil] at hsl
          have hpk : (pickD ds seen).length = seen.length := by simp [pickD]
          have hbd : ((pickD ds seen).length + 1) * 40 ≤ 140737488355328 := by omega
          have hps : pickD ds (seen ++ [i]) = pickD ds seen ++ [ds[i]] := by simp [pickD,List.getD_eq_getElem?_getD,hi2]
          have hdu : duL (pickD ds (seen ++ [i])) = duL (pickD ds seen) ++ [.agg [.str ds[i].n,.int .i64 ds[i].b,.int .i64 ds[i].t,.int .i64 ds[i].c]] := by rw [hps]; simp [duL,duF]
          refine evS_skip ?_
          refine evS_block ?_
          refine evS_seq (evS_k hT hC [18,19,20,113] [18,28,113] (by simp [keepO,keepS,kpIf_dueB,map_dueB,map_dueE,rm_dueB_lt,put_dueB_lt,lk_dueB_lt,dn_ne,ne_dn,dn_lt,lt_dn,dn_beq,beq_dn,hdi]; rfl) ?_)
          refine evS_kd hT hC mixed P35 [18,113] [18,28,113] (by kernel_rfl) (by kernel_rfl) (by
                simp [keepO,keepS,kpIf_dueB,map_dueB,map_dueE,rm_dueB_lt,put_dueB_lt,lk_dueB_lt,dn_ne,ne_dn,dn_lt,lt_dn,dn_beq,beq_dn,hi2,hbd,dueX,P35]
                rfl) ?_
          refine ⟨seen ++ [i],?_,⟨hsn,hsb⟩,by simp only [List.length_append,List.length_cons,List.length_nil]; omega⟩
          rw [hdu,hps,List.length_append]
          exact Wk.refl _
        · simp at hb3
def H25 (ctx:Ctx):Prop:=∀ v:Voy,Small v->ctx 25 [(false,voyF v)]=some [.us 4 (duL (sharesF v)),.fv (.int .i64 (checkF v))]
end Go.Proofs.YtejodhjhddnbeaaDoor.E
