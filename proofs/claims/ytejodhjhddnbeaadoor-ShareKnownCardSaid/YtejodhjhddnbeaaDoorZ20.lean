/-
  The chapter of the share: its functions, and what they compute. Conditions: none.
-/
import Derived.Test.YtejodhjhddnbeaaDoorZ19
import Derived.Test.YtejodhjhddnbeaaDoorZ16
set_option linter.unusedVariables false
set_option linter.unusedSimpArgs false
namespace Go.Proofs.YtejodhjhddnbeaaDoor.E
open Go Go.RowKit
def numsF (bal:List Int):List Nat:=nonz bal bal.length
def groupsF (bal:List Int):List (List Nat)×Int:=if balances bal=true then ((groupsS bal (numsF bal) (2^(numsF bal).length-1)).map (memS (numsF bal)),0) else ([],33)
def grL (l:List (List Nat)):List FV:=l.map fun m=>.sl false 1 (ints (natL m))
@[simp] theorem grL_length (l:List (List Nat)):(grL l).length=l.length:=by simp [grL]
theorem nonz_mem {bal:List Int}:∀ i∈nonz bal bal.length,i < bal.length:=fun i hi=>by
 unfold nonz at hi
 rw [List.mem_filter,List.mem_range] at hi
 exact hi.1
theorem grpF_len {bal:List Int} {nums:List Nat}:∀ (n set op:Nat) (out:List Nat),(grpF bal nums n set op out).length<=out.length+n
 | 0,_,_,out=>by simp [grpF]
 | n+1,set,op,out=>by
  unfold grpF
  split
  ·split
   ·omega
   ·simp
  ·split
   ·have h1:=grpF_len (bal:=bal) (nums:=nums) n (clr set ‹_›) (opP bal nums set op ||| 2^‹Nat›) (outP bal nums set op out)
    have h2:(outP bal nums set op out).length<=out.length+1:=by unfold outP; split<;>simp
    omega
   ·omega
theorem groupsS_len {bal:List Int} {nums:List Nat} {set:Nat}:(groupsS bal nums set).length<=nums.length+1:=by
 have h1:=grpF_len (bal:=bal) (nums:=nums) (pcK set nums.length+1) set 0 []
 have h2:=pcK_le set nums.length
 unfold groupsS
 simp at h1
 omega
theorem grpF_lt {bal:List Int} {nums:List Nat}:∀ (n set op:Nat) (out:List Nat),op < 2^nums.length->(∀ x∈out,x < 2^nums.length)->∀ x∈grpF bal nums n set op out,x < 2^nums.length
 | 0,_,_,out,_,h=>by simpa [grpF] using h
 | n+1,set,op,out,ho,h=>by
  unfold grpF
  split
  ·split
   ·exact h
   ·intro x hx
    rcases List.mem_append.1 hx with hx | hx
    ·exact h x hx
    ·simp only [List.mem_singleton] at hx; subst hx; exact ho
  ·split
   ·rename_i k hk
    unfold firstK at hk
    rw [List.find?_range_eq_some] at hk
    have hkl:=List.mem_range.1 hk.2.1
    refine grpF_lt n _ _ _ (Nat.or_lt_two_pow ?_ (Nat.pow_lt_pow_right (by omega) hkl)) ?_
    ·unfold opP; split
     ·exact Nat.pow_pos (by omega)
     ·exact ho
    ·unfold outP
     split
     ·intro x hx
      rcases List.mem_append.1 hx with hx | hx
      ·exact h x hx
      ·simp only [List.mem_singleton] at hx; subst hx; exact ho
     ·exact h
   ·exact h
theorem groupsS_lt {bal:List Int} {nums:List Nat} {set:Nat}:∀ x∈groupsS bal nums set,x < 2^nums.length :=
 grpF_lt _ _ _ _ (Nat.pow_pos (by omega)) (by simp)
theorem v37 (ctx:Ctx) (hC:CtxOk (pg ctx)) (h67:H67 ctx) (h70:H70 ctx) (h71:H71 ctx) (h86:H86 ctx) (h68n:∀ xs,ctx 68 xs=none) (h69n:∀ xs,ctx 69 xs=none) (bal:List Int) (r0 c0:Bool) (hbl:bal.length < 2^44):Valid Tryd.prog 37 [(r0,.sl c0 1 (ints bal))] [.us 1 (grL (groupsF bal).1),.fv (.int .i64 (groupsF bal).2)]:=by
 have hB:=ctxB_ok ctx hC h86
 refine valid_of_evC (G:=pgB ctx) (tokB ctx) hB mixed Tryd.func37 [] L37 (by simp [Tryd.ntmps37]) ⟨_,rfl,?_⟩
 simp only [Tryd.ntmps37,Tryd.results37,initSt,initEnv]
 have e67:=h67 bal r0 c0 hbl
 refine ev_seq (ev_reg (by simp; rfl) ?_)
 refine ev_seq (ev_seq (ev_reg (by simp [e67]; rfl) ?_))
 refine ev_cond rfl (fun hb=>?_) (fun hb=>?_)
 ·simp at hb
  refine ev_seq (ev_reg (by simp; rfl) ?_)
  refine ev_ret ?_
  simp [groupsF,hb,grL]
 ·simp at hb
  have hb10:=bal_len hb
  have hgf:groupsF bal=((groupsS bal (numsF bal) (2^(numsF bal).length-1)).map (memS (numsF bal)),0):=by unfold groupsF; rw [if_pos hb]
  have hnl:(numsF bal).length<=10:=Nat.le_trans (nonz_len bal bal.length) hb10
  have hat:∀ i∈numsF bal,i < bal.length:=nonz_mem
  have h68:∀ σ,freshB σ 3000024=true->freshB σ 3000025=true->inlB 68 12 σ [.fv r0 (.sl c0 1 (ints bal))]=some (opS 12 σ (numsF bal),[.agg [.fv r0 (.sl c0 1 (ints bal)),opV 12 (numsF bal),.map 3000025]]):=fun σ h1 h2=>inlB_some.2 (.inl ⟨rfl,r0,c0,bal,rfl,hb10,h1,h2,rfl⟩)
  refine ev_skip ?_
  generalize numsF bal=nums at hgf hnl hat h68
  have h2p:0 < 2^nums.length:=Nat.pow_pos (by omega)
  generalize hse:2^nums.length-1=set0 at hgf
  have hset0:set0 < 2^nums.length:=by omega
  cases hnums:nums with
  | nil =>
   subst hnums
   have hs0:set0=0:=by rw [<-hse]; rfl
   subst hs0
   have hg0:groupsS bal [] 0=[]:=by simp [groupsS,grpF,pcK]
   rw [hg0] at hgf
   simp only [opS,opV] at h68
   have e70:∀ r,ctx 70 [(r,.agg [.sl c0 1 (ints bal),.sl true 0 [],.top])]=some [.fv (.int .i64 0)]:=fun r=>h70 bal [] r c0 true 0 (by simp)
   have h69:∀ σ,lk 3000025 σ.blk=some (.mp [])->freshB σ 3000032=true->inlB 69 16 σ [.agg [.fv r0 (.sl c0 1 (ints bal)),.fv false (.sl true 0 []),.map 3000025],.fv false (.int .i64 0)]=some ({ σ with blk:=put 3000032 (.arr 1 []) σ.blk },[.own 3000032 0 0]):=fun σ h1 h2=>inlB_some.2 (.inr (.inr ⟨rfl,r0,c0,bal,3000025,rfl,h1,by decide,h2,rfl⟩))
   refine ev_seq (ev_reg (by simp [h68n,h68,freshB,ment,bcells,nmM]; rfl) ?_)
   refine ev_seq (ev_reg (by simp; rfl) ?_)
   refine ev_seq (ev_seq (ev_all rfl { env:=[(4,.ptr 4 0),(5,.own 5 0 0),(13,.agg [.fv r0 (.sl c0 1 (ints bal)),.fv false (.sl true 0 []),.map 3000025]),(14,.agg [.fv r0 (.sl c0 1 (ints bal)),.fv false (.sl true 0 []),.map 3000025]),(15,.fv false (.int .i64 0)),(16,.own 3000032 0 0),(17,.fv false (.int .i64 0)),(18,.fv false (.int .i64 0))],blk:=[(4,.box [.fv r0 (.sl c0 1 (ints bal)),.fv false (.sl true 0 []),.map 3000025]),(5,.arr 1 []),(3000025,.mp []),(3000032,.arr 1 [])] } (by
    refine allR_step (l:=[0,1,5]) (by kernel_rfl) (by simp) ?_
    refine ⟨?_,?_,?_,trivial⟩
    ·refine ⟨_,_,rfl,by simp [step1,h69n,e70,h69,freshB,ment,bcells]; rfl,?_⟩
     refine allR_step (l:=[1,5]) (by kernel_rfl) (by simp) ?_
     refine ⟨?_,?_,trivial⟩
     ·refine ⟨_,_,rfl,by simp [step1,h69n,e70,h69,freshB,ment,bcells]; rfl,?_⟩
      refine allR_step (l:=[2,5]) (by kernel_rfl) (by simp) ?_
      refine ⟨?_,?_,trivial⟩
      ·refine ⟨_,_,rfl,by simp [step1,h69n,e70,h69,freshB,ment,bcells]; rfl,?_⟩
       refine allR_step (l:=[3,5]) (by kernel_rfl) (by simp) ?_
       refine ⟨?_,?_,trivial⟩
       ·refine ⟨_,_,rfl,by simp [step1,h69n,e70,h69,freshB,ment,bcells]; rfl,?_⟩
        refine allR_step (l:=[4,5]) (by kernel_rfl) (by simp) ?_
        refine ⟨?_,?_,trivial⟩
        ·refine ⟨_,_,rfl,by simp [step1,h69n,e70,h69,freshB,ment,bcells]; rfl,?_⟩
         refine allR_step (l:=[5]) (by kernel_rfl) (by simp) ?_
         refine ⟨?_,trivial⟩
         refine ⟨_,_,rfl,by simp [step1,h69n,e70,h69,freshB,ment,bcells]; rfl,?_⟩
         exact ⟨by kernel_rfl,rfl⟩
        ·refine ⟨_,_,rfl,by simp [step1,h69n,e70,h69,freshB,ment,bcells]; rfl,?_⟩
         refine allR_step (l:=[4]) (by kernel_rfl) (by simp) ?_
         refine ⟨?_,trivial⟩
         refine ⟨_,_,rfl,by simp [step1,h69n,e70,h69,freshB,ment,bcells]; rfl,?_⟩
         exact ⟨by kernel_rfl,rfl⟩
       ·refine ⟨_,_,rfl,by simp [step1,h69n,e70,h69,freshB,ment,bcells]; rfl,?_⟩
        refine allR_step (l:=[3]) (by kernel_rfl) (by simp) ?_
        refine ⟨?_,trivial⟩
        refine ⟨_,_,rfl,by simp [step1,h69n,e70,h69,freshB,ment,bcells]; rfl,?_⟩
        refine allR_step (l:=[4]) (by kernel_rfl) (by simp) ?_
        refine ⟨?_,trivial⟩
        refine ⟨_,_,rfl,by simp [step1,h69n,e70,h69,freshB,ment,bcells]; rfl,?_⟩
        exact ⟨by kernel_rfl,rfl⟩
      ·refine ⟨_,_,rfl,by simp [step1,h69n,e70,h69,freshB,ment,bcells]; rfl,?_⟩
       refine allR_step (l:=[2]) (by kernel_rfl) (by simp) ?_
       refine ⟨?_,trivial⟩
       refine ⟨_,_,rfl,by simp [step1,h69n,e70,h69,freshB,ment,bcells]; rfl,?_⟩
       refine allR_step (l:=[3]) (by kernel_rfl) (by simp) ?_
       refine ⟨?_,trivial⟩
       refine ⟨_,_,rfl,by simp [step1,h69n,e70,h69,freshB,ment,bcells]; rfl,?_⟩
       refine allR_step (l:=[4]) (by kernel_rfl) (by simp) ?_
       refine ⟨?_,trivial⟩
       refine ⟨_,_,rfl,by simp [step1,h69n,e70,h69,freshB,ment,bcells]; rfl,?_⟩
       exact ⟨by kernel_rfl,rfl⟩
     ·refine ⟨_,_,rfl,by simp [step1,h69n,e70,h69,freshB,ment,bcells]; rfl,?_⟩
      refine allR_step (l:=[1]) (by kernel_rfl) (by simp) ?_
      refine ⟨?_,trivial⟩
      refine ⟨_,_,rfl,by simp [step1,h69n,e70,h69,freshB,ment,bcells]; rfl,?_⟩
      refine allR_step (l:=[2]) (by kernel_rfl) (by simp) ?_
      refine ⟨?_,trivial⟩
      refine ⟨_,_,rfl,by simp [step1,h69n,e70,h69,freshB,ment,bcells]; rfl,?_⟩
      refine allR_step (l:=[3]) (by kernel_rfl) (by simp) ?_
      refine ⟨?_,trivial⟩
      refine ⟨_,_,rfl,by simp [step1,h69n,e70,h69,freshB,ment,bcells]; rfl,?_⟩
      refine allR_step (l:=[4]) (by kernel_rfl) (by simp) ?_
      refine ⟨?_,trivial⟩
      refine ⟨_,_,rfl,by simp [step1,h69n,e70,h69,freshB,ment,bcells]; rfl,?_⟩
      exact ⟨by kernel_rfl,rfl⟩
    ·refine ⟨_,_,rfl,by simp [step1,h69n,e70,h69,freshB,ment,bcells]; rfl,?_⟩
     refine allR_step (l:=[0,2,5]) (by kernel_rfl) (by simp) ?_
     refine ⟨?_,?_,?_,trivial⟩
     ·refine ⟨_,_,rfl,by simp [step1,h69n,e70,h69,freshB,ment,bcells]; rfl,?_⟩
      refine allR_step (l:=[2,5]) (by kernel_rfl) (by simp) ?_
      refine ⟨?_,?_,trivial⟩
      ·refine ⟨_,_,rfl,by simp [step1,h69n,e70,h69,freshB,ment,bcells]; rfl,?_⟩
       refine allR_step (l:=[3,5]) (by kernel_rfl) (by simp) ?_
       refine ⟨?_,?_,trivial⟩
       ·refine ⟨_,_,rfl,by simp [step1,h69n,e70,h69,freshB,ment,bcells]; rfl,?_⟩
        refine allR_step (l:=[4,5]) (by kernel_rfl) (by simp) ?_
        refine ⟨?_,?_,trivial⟩
        ·refine ⟨_,_,rfl,by simp [step1,h69n,e70,h69,freshB,ment,bcells]; rfl,?_⟩
         refine allR_step (l:=[5]) (by kernel_rfl) (by simp) ?_
         refine ⟨?_,trivial⟩
         refine ⟨_,_,rfl,by simp [step1,h69n,e70,h69,freshB,ment,bcells]; rfl,?_⟩
         exact ⟨by kernel_rfl,rfl⟩
        ·refine ⟨_,_,rfl,by simp [step1,h69n,e70,h69,freshB,ment,bcells]; rfl,?_⟩
         refine allR_step (l:=[4]) (by kernel_rfl) (by simp) ?_
         refine ⟨?_,trivial⟩
         refine ⟨_,_,rfl,by simp [step1,h69n,e70,h69,freshB,ment,bcells]; rfl,?_⟩
         exact ⟨by kernel_rfl,rfl⟩
       ·refine ⟨_,_,rfl,by simp [step1,h69n,e70,h69,freshB,ment,bcells]; rfl,?_⟩
        refine allR_step (l:=[3]) (by kernel_rfl) (by simp) ?_
        refine ⟨?_,trivial⟩
        refine ⟨_,_,rfl,by simp [step1,h69n,e70,h69,freshB,ment,bcells]; rfl,?_⟩
        refine allR_step (l:=[4]) (by kernel_rfl) (by simp) ?_
        refine ⟨?_,trivial⟩
        refine ⟨_,_,rfl,by simp [step1,h69n,e70,h69,freshB,ment,bcells]; rfl,?_⟩
        exact ⟨by kernel_rfl,rfl⟩
      ·refine ⟨_,_,rfl,by simp [step1,h69n,e70,h69,freshB,ment,bcells]; rfl,?_⟩
       refine allR_step (l:=[2]) (by kernel_rfl) (by simp) ?_
       refine ⟨?_,trivial⟩
       refine ⟨_,_,rfl,by simp [step1,h69n,e70,h69,freshB,ment,bcells]; rfl,?_⟩
       refine allR_step (l:=[3]) (by kernel_rfl) (by simp) ?_
       refine ⟨?_,trivial⟩
       refine ⟨_,_,rfl,by simp [step1,h69n,e70,h69,freshB,ment,bcells]; rfl,?_⟩
       refine allR_step (l:=[4]) (by kernel_rfl) (by simp) ?_
       refine ⟨?_,trivial⟩
       refine ⟨_,_,rfl,by simp [step1,h69n,e70,h69,freshB,ment,bcells]; rfl,?_⟩
       exact ⟨by kernel_rfl,rfl⟩
     ·refine ⟨_,_,rfl,by simp [step1,h69n,e70,h69,freshB,ment,bcells]; rfl,?_⟩
      refine allR_step (l:=[0,5]) (by kernel_rfl) (by simp) ?_
      refine ⟨?_,?_,trivial⟩
      ·refine ⟨_,_,rfl,by simp [step1,h69n,e70,h69,freshB,ment,bcells]; rfl,?_⟩
       refine allR_step (l:=[3,5]) (by kernel_rfl) (by simp) ?_
       refine ⟨?_,?_,trivial⟩
       ·refine ⟨_,_,rfl,by simp [step1,h69n,e70,h69,freshB,ment,bcells]; rfl,?_⟩
        refine allR_step (l:=[4,5]) (by kernel_rfl) (by simp) ?_
        refine ⟨?_,?_,trivial⟩
        ·refine ⟨_,_,rfl,by simp [step1,h69n,e70,h69,freshB,ment,bcells]; rfl,?_⟩
         refine allR_step (l:=[5]) (by kernel_rfl) (by simp) ?_
         refine ⟨?_,trivial⟩
         refine ⟨_,_,rfl,by simp [step1,h69n,e70,h69,freshB,ment,bcells]; rfl,?_⟩
         exact ⟨by kernel_rfl,rfl⟩
        ·refine ⟨_,_,rfl,by simp [step1,h69n,e70,h69,freshB,ment,bcells]; rfl,?_⟩
         refine allR_step (l:=[4]) (by kernel_rfl) (by simp) ?_
         refine ⟨?_,trivial⟩
         refine ⟨_,_,rfl,by simp [step1,h69n,e70,h69,freshB,ment,bcells]; rfl,?_⟩
         exact ⟨by kernel_rfl,rfl⟩
       ·refine ⟨_,_,rfl,by simp [step1,h69n,e70,h69,freshB,ment,bcells]; rfl,?_⟩
        refine allR_step (l:=[3]) (by kernel_rfl) (by simp) ?_
        refine ⟨?_,trivial⟩
        refine ⟨_,_,rfl,by simp [step1,h69n,e70,h69,freshB,ment,bcells]; rfl,?_⟩
        refine allR_step (l:=[4]) (by kernel_rfl) (by simp) ?_
        refine ⟨?_,trivial⟩
        refine ⟨_,_,rfl,by simp [step1,h69n,e70,h69,freshB,ment,bcells]; rfl,?_⟩
        exact ⟨by kernel_rfl,rfl⟩
      ·refine ⟨_,_,rfl,by simp [step1,h69n,e70,h69,freshB,ment,bcells]; rfl,?_⟩
       refine allR_step (l:=[0]) (by kernel_rfl) (by simp) ?_
       refine ⟨?_,trivial⟩
       refine ⟨_,_,rfl,by simp [step1,h69n,e70,h69,freshB,ment,bcells]; rfl,?_⟩
       refine allR_step (l:=[3]) (by kernel_rfl) (by simp) ?_
       refine ⟨?_,trivial⟩
       refine ⟨_,_,rfl,by simp [step1,h69n,e70,h69,freshB,ment,bcells]; rfl,?_⟩
       refine allR_step (l:=[4]) (by kernel_rfl) (by simp) ?_
       refine ⟨?_,trivial⟩
       refine ⟨_,_,rfl,by simp [step1,h69n,e70,h69,freshB,ment,bcells]; rfl,?_⟩
       exact ⟨by kernel_rfl,rfl⟩
     ·refine ⟨_,_,rfl,by simp [step1,h69n,e70,h69,freshB,ment,bcells]; rfl,?_⟩
      refine allR_step (l:=[0,2]) (by kernel_rfl) (by simp) ?_
      refine ⟨?_,?_,trivial⟩
      ·refine ⟨_,_,rfl,by simp [step1,h69n,e70,h69,freshB,ment,bcells]; rfl,?_⟩
       refine allR_step (l:=[2]) (by kernel_rfl) (by simp) ?_
       refine ⟨?_,trivial⟩
       refine ⟨_,_,rfl,by simp [step1,h69n,e70,h69,freshB,ment,bcells]; rfl,?_⟩
       refine allR_step (l:=[3]) (by kernel_rfl) (by simp) ?_
       refine ⟨?_,trivial⟩
       refine ⟨_,_,rfl,by simp [step1,h69n,e70,h69,freshB,ment,bcells]; rfl,?_⟩
       refine allR_step (l:=[4]) (by kernel_rfl) (by simp) ?_
       refine ⟨?_,trivial⟩
       refine ⟨_,_,rfl,by simp [step1,h69n,e70,h69,freshB,ment,bcells]; rfl,?_⟩
       exact ⟨by kernel_rfl,rfl⟩
      ·refine ⟨_,_,rfl,by simp [step1,h69n,e70,h69,freshB,ment,bcells]; rfl,?_⟩
       refine allR_step (l:=[0]) (by kernel_rfl) (by simp) ?_
       refine ⟨?_,trivial⟩
       refine ⟨_,_,rfl,by simp [step1,h69n,e70,h69,freshB,ment,bcells]; rfl,?_⟩
       refine allR_step (l:=[3]) (by kernel_rfl) (by simp) ?_
       refine ⟨?_,trivial⟩
       refine ⟨_,_,rfl,by simp [step1,h69n,e70,h69,freshB,ment,bcells]; rfl,?_⟩
       refine allR_step (l:=[4]) (by kernel_rfl) (by simp) ?_
       refine ⟨?_,trivial⟩
       refine ⟨_,_,rfl,by simp [step1,h69n,e70,h69,freshB,ment,bcells]; rfl,?_⟩
       exact ⟨by kernel_rfl,rfl⟩
    ·refine ⟨_,_,rfl,by simp [step1,h69n,e70,h69,freshB,ment,bcells]; rfl,?_⟩
     refine allR_step (l:=[0,1]) (by kernel_rfl) (by simp) ?_
     refine ⟨?_,?_,trivial⟩
     ·refine ⟨_,_,rfl,by simp [step1,h69n,e70,h69,freshB,ment,bcells]; rfl,?_⟩
      refine allR_step (l:=[1]) (by kernel_rfl) (by simp) ?_
      refine ⟨?_,trivial⟩
      refine ⟨_,_,rfl,by simp [step1,h69n,e70,h69,freshB,ment,bcells]; rfl,?_⟩
      refine allR_step (l:=[2]) (by kernel_rfl) (by simp) ?_
      refine ⟨?_,trivial⟩
      refine ⟨_,_,rfl,by simp [step1,h69n,e70,h69,freshB,ment,bcells]; rfl,?_⟩
      refine allR_step (l:=[3]) (by kernel_rfl) (by simp) ?_
      refine ⟨?_,trivial⟩
      refine ⟨_,_,rfl,by simp [step1,h69n,e70,h69,freshB,ment,bcells]; rfl,?_⟩
      refine allR_step (l:=[4]) (by kernel_rfl) (by simp) ?_
      refine ⟨?_,trivial⟩
      refine ⟨_,_,rfl,by simp [step1,h69n,e70,h69,freshB,ment,bcells]; rfl,?_⟩
      exact ⟨by kernel_rfl,rfl⟩
     ·refine ⟨_,_,rfl,by simp [step1,h69n,e70,h69,freshB,ment,bcells]; rfl,?_⟩
      refine allR_step (l:=[0,2]) (by kernel_rfl) (by simp) ?_
      refine ⟨?_,?_,trivial⟩
      ·refine ⟨_,_,rfl,by simp [step1,h69n,e70,h69,freshB,ment,bcells]; rfl,?_⟩
       refine allR_step (l:=[2]) (by kernel_rfl) (by simp) ?_
       refine ⟨?_,trivial⟩
       refine ⟨_,_,rfl,by simp [step1,h69n,e70,h69,freshB,ment,bcells]; rfl,?_⟩
       refine allR_step (l:=[3]) (by kernel_rfl) (by simp) ?_
       refine ⟨?_,trivial⟩
       refine ⟨_,_,rfl,by simp [step1,h69n,e70,h69,freshB,ment,bcells]; rfl,?_⟩
       refine allR_step (l:=[4]) (by kernel_rfl) (by simp) ?_
       refine ⟨?_,trivial⟩
       refine ⟨_,_,rfl,by simp [step1,h69n,e70,h69,freshB,ment,bcells]; rfl,?_⟩
       exact ⟨by kernel_rfl,rfl⟩
      ·refine ⟨_,_,rfl,by simp [step1,h69n,e70,h69,freshB,ment,bcells]; rfl,?_⟩
       refine allR_step (l:=[0]) (by kernel_rfl) (by simp) ?_
       refine ⟨?_,trivial⟩
       refine ⟨_,_,rfl,by simp [step1,h69n,e70,h69,freshB,ment,bcells]; rfl,?_⟩
       refine allR_step (l:=[3]) (by kernel_rfl) (by simp) ?_
       refine ⟨?_,trivial⟩
       refine ⟨_,_,rfl,by simp [step1,h69n,e70,h69,freshB,ment,bcells]; rfl,?_⟩
       refine allR_step (l:=[4]) (by kernel_rfl) (by simp) ?_
       refine ⟨?_,trivial⟩
       refine ⟨_,_,rfl,by simp [step1,h69n,e70,h69,freshB,ment,bcells]; rfl,?_⟩
       exact ⟨by kernel_rfl,rfl⟩) ?_))
   refine ev_block ?_
   refine ev_loop (fun _:Unit=>({ env:=[(4,.ptr 4 0),(5,.own 5 0 0),(16,.own 3000032 0 0),(17,.fv false (.int .i64 0)),(18,.fv false (.int .i64 0))],blk:=[(4,.box [.fv r0 (.sl c0 1 (ints bal)),.fv false (.sl true 0 []),.map 3000025]),(5,.arr 1 []),(3000025,.mp []),(3000032,.arr 1 [])] }:St)) (fun _=>0) (fun _=>True) () (by simp) trivial (by simp [R]) (fun _ _=>?_)
   refine ev_seq (ev_reg (by simp; rfl) ?_)
   refine ev_seq (ev_cond rfl (fun hb=>?_) (fun hb=>?_))
   ·simp at hb
   ·refine ev_exit ?_
    refine ev_seq (ev_reg (by simp; rfl) ?_)
    refine ev_ret ?_
    simp [hgf,grL]
  | cons x r =>
   have ne:nums≠[]:=by rw [hnums]; simp
   have h68':∀ σ,freshB σ 3000024=true->freshB σ 3000025=true->inlB 68 12 σ [.fv r0 (.sl c0 1 (ints bal))]=some ({ σ with blk:=put 3000024 (.arr 1 (ints (natL nums))) (put 3000025 (.mp []) σ.blk) },[.agg [.fv r0 (.sl c0 1 (ints bal)),.own 3000024 0 nums.length,.map 3000025]]):=fun σ h1 h2=>by
    have:=h68 σ h1 h2
    rw [hnums] at this ⊢
    exact this
   clear h68 hnums
   have e70:∀ r,ctx 70 [(r,.agg [.sl c0 1 (ints bal),.sl false 1 (ints (natL nums)),.top])]=some [.fv (.int .i64 (set0:Int))]:=fun r=>by rw [<-hse]; exact h70 bal nums r c0 false 1 hnl
   have hgl:=groupsS_len (bal:=bal) (nums:=nums) (set:=set0)
   have hglt:=groupsS_lt (bal:=bal) (nums:=nums) (set:=set0)
   have h69:∀ σ,lk 3000024 σ.blk=some (.arr 1 (ints (natL nums)))->lk 3000025 σ.blk=some (.mp [])->freshB σ 3000032=true->inlB 69 16 σ [.agg [.fv r0 (.sl c0 1 (ints bal)),.own 3000024 0 nums.length,.map 3000025],.fv false (.int .i64 (set0:Int))]=some ({ σ with blk:=put 3000032 (.arr 1 (ints (natL (groupsS bal nums set0)))) (put 3000025 (.mp (memE (fillN bal nums 11 set0 []).2)) σ.blk) },[.own 3000032 0 (groupsS bal nums set0).length]):=fun σ h1 h2 h3=>inlB_some.2 (.inr (.inl ⟨rfl,r0,c0,bal,nums,set0,3000024,3000025,rfl,ne,hnl,hat,hset0,h1,h2,by decide,h3,rfl⟩))
   generalize groupsS bal nums set0=gs at hgf hgl hglt h69
   generalize (fillN bal nums 11 set0 []).2=M at h69
   have htk:List.take nums.length (natL nums)=natL nums:=List.take_of_length_le (by simp)
   refine ev_seq (ev_reg (by simp [h68n,h68',freshB,ment,bcells]; rfl) ?_)
   refine ev_seq (ev_reg (by simp; rfl) ?_)
   refine ev_seq (ev_seq (ev_all rfl { env:=[(4,.ptr 4 0),(5,.own 5 0 0),(13,.agg [.fv r0 (.sl c0 1 (ints bal)),.own 3000024 0 nums.length,.map 3000025]),(14,.agg [.fv r0 (.sl c0 1 (ints bal)),.own 3000024 0 nums.length,.map 3000025]),(15,.fv false (.int .i64 (set0:Int))),(16,.own 3000032 0 gs.length),(17,.fv false (.int .i64 gs.length)),(18,.fv false (.int .i64 0))],blk:=[(4,.box [.fv r0 (.sl c0 1 (ints bal)),.own 3000024 0 nums.length,.map 3000025]),(5,.arr 1 []),(3000024,.arr 1 (ints (natL nums))),(3000025,.mp (memE M)),(3000032,.arr 1 (ints (natL gs)))] } (by
    refine allR_step (l:=[0,1,5]) (by kernel_rfl) (by simp) ?_
    refine ⟨?_,?_,?_,trivial⟩
    ·refine ⟨_,_,rfl,by simp [step1,h69n,e70,h69,htk,freshB,ment,bcells]; rfl,?_⟩
     refine allR_step (l:=[1,5]) (by kernel_rfl) (by simp) ?_
     refine ⟨?_,?_,trivial⟩
     ·refine ⟨_,_,rfl,by simp [step1,h69n,e70,h69,htk,freshB,ment,bcells]; rfl,?_⟩
      refine allR_step (l:=[2,5]) (by kernel_rfl) (by simp) ?_
      refine ⟨?_,?_,trivial⟩
      ·refine ⟨_,_,rfl,by simp [step1,h69n,e70,h69,htk,freshB,ment,bcells]; rfl,?_⟩
       refine allR_step (l:=[3,5]) (by kernel_rfl) (by simp) ?_
       refine ⟨?_,?_,trivial⟩
       ·refine ⟨_,_,rfl,by simp [step1,h69n,e70,h69,htk,freshB,ment,bcells]; rfl,?_⟩
        refine allR_step (l:=[4,5]) (by kernel_rfl) (by simp) ?_
        refine ⟨?_,?_,trivial⟩
        ·refine ⟨_,_,rfl,by simp [step1,h69n,e70,h69,htk,freshB,ment,bcells]; rfl,?_⟩
         refine allR_step (l:=[5]) (by kernel_rfl) (by simp) ?_
         refine ⟨?_,trivial⟩
         refine ⟨_,_,rfl,by simp [step1,h69n,e70,h69,htk,freshB,ment,bcells]; rfl,?_⟩
         exact ⟨by kernel_rfl,rfl⟩
        ·refine ⟨_,_,rfl,by simp [step1,h69n,e70,h69,htk,freshB,ment,bcells]; rfl,?_⟩
         refine allR_step (l:=[4]) (by kernel_rfl) (by simp) ?_
         refine ⟨?_,trivial⟩
         refine ⟨_,_,rfl,by simp [step1,h69n,e70,h69,htk,freshB,ment,bcells]; rfl,?_⟩
         exact ⟨by kernel_rfl,rfl⟩
       ·refine ⟨_,_,rfl,by simp [step1,h69n,e70,h69,htk,freshB,ment,bcells]; rfl,?_⟩
        refine allR_step (l:=[3]) (by kernel_rfl) (by simp) ?_
        refine ⟨?_,trivial⟩
        refine ⟨_,_,rfl,by simp [step1,h69n,e70,h69,htk,freshB,ment,bcells]; rfl,?_⟩
        refine allR_step (l:=[4]) (by kernel_rfl) (by simp) ?_
        refine ⟨?_,trivial⟩
        refine ⟨_,_,rfl,by simp [step1,h69n,e70,h69,htk,freshB,ment,bcells]; rfl,?_⟩
        exact ⟨by kernel_rfl,rfl⟩
      ·refine ⟨_,_,rfl,by simp [step1,h69n,e70,h69,htk,freshB,ment,bcells]; rfl,?_⟩
       refine allR_step (l:=[2]) (by kernel_rfl) (by simp) ?_
       refine ⟨?_,trivial⟩
       refine ⟨_,_,rfl,by simp [step1,h69n,e70,h69,htk,freshB,ment,bcells]; rfl,?_⟩
       refine allR_step (l:=[3]) (by kernel_rfl) (by simp) ?_
       refine ⟨?_,trivial⟩
       refine ⟨_,_,rfl,by simp [step1,h69n,e70,h69,htk,freshB,ment,bcells]; rfl,?_⟩
       refine allR_step (l:=[4]) (by kernel_rfl) (by simp) ?_
       refine ⟨?_,trivial⟩
       refine ⟨_,_,rfl,by simp [step1,h69n,e70,h69,htk,freshB,ment,bcells]; rfl,?_⟩
       exact ⟨by kernel_rfl,rfl⟩
     ·refine ⟨_,_,rfl,by simp [step1,h69n,e70,h69,htk,freshB,ment,bcells]; rfl,?_⟩
      refine allR_step (l:=[1]) (by kernel_rfl) (by simp) ?_
      refine ⟨?_,trivial⟩
      refine ⟨_,_,rfl,by simp [step1,h69n,e70,h69,htk,freshB,ment,bcells]; rfl,?_⟩
      refine allR_step (l:=[2]) (by kernel_rfl) (by simp) ?_
      refine ⟨?_,trivial⟩
      refine ⟨_,_,rfl,by simp [step1,h69n,e70,h69,htk,freshB,ment,bcells]; rfl,?_⟩
      refine allR_step (l:=[3]) (by kernel_rfl) (by simp) ?_
      refine ⟨?_,trivial⟩
      refine ⟨_,_,rfl,by simp [step1,h69n,e70,h69,htk,freshB,ment,bcells]; rfl,?_⟩
      refine allR_step (l:=[4]) (by kernel_rfl) (by simp) ?_
      refine ⟨?_,trivial⟩
      refine ⟨_,_,rfl,by simp [step1,h69n,e70,h69,htk,freshB,ment,bcells]; rfl,?_⟩
      exact ⟨by kernel_rfl,rfl⟩
    ·refine ⟨_,_,rfl,by simp [step1,h69n,e70,h69,htk,freshB,ment,bcells]; rfl,?_⟩
     refine allR_step (l:=[0,2,5]) (by kernel_rfl) (by simp) ?_
     refine ⟨?_,?_,?_,trivial⟩
     ·refine ⟨_,_,rfl,by simp [step1,h69n,e70,h69,htk,freshB,ment,bcells]; rfl,?_⟩
      refine allR_step (l:=[2,5]) (by kernel_rfl) (by simp) ?_
      refine ⟨?_,?_,trivial⟩
      ·refine ⟨_,_,rfl,by simp [step1,h69n,e70,h69,htk,freshB,ment,bcells]; rfl,?_⟩
       refine allR_step (l:=[3,5]) (by kernel_rfl) (by simp) ?_
       refine ⟨?_,?_,trivial⟩
       ·refine ⟨_,_,rfl,by simp [step1,h69n,e70,h69,htk,freshB,ment,bcells]; rfl,?_⟩
        refine allR_step (l:=[4,5]) (by kernel_rfl) (by simp) ?_
        refine ⟨?_,?_,trivial⟩
        ·refine ⟨_,_,rfl,by simp [step1,h69n,e70,h69,htk,freshB,ment,bcells]; rfl,?_⟩
         refine allR_step (l:=[5]) (by kernel_rfl) (by simp) ?_
         refine ⟨?_,trivial⟩
         refine ⟨_,_,rfl,by simp [step1,h69n,e70,h69,htk,freshB,ment,bcells]; rfl,?_⟩
         exact ⟨by kernel_rfl,rfl⟩
        ·refine ⟨_,_,rfl,by simp [step1,h69n,e70,h69,htk,freshB,ment,bcells]; rfl,?_⟩
         refine allR_step (l:=[4]) (by kernel_rfl) (by simp) ?_
         refine ⟨?_,trivial⟩
         refine ⟨_,_,rfl,by simp [step1,h69n,e70,h69,htk,freshB,ment,bcells]; rfl,?_⟩
         exact ⟨by kernel_rfl,rfl⟩
       ·refine ⟨_,_,rfl,by simp [step1,h69n,e70,h69,htk,freshB,ment,bcells]; rfl,?_⟩
        refine allR_step (l:=[3]) (by kernel_rfl) (by simp) ?_
        refine ⟨?_,trivial⟩
        refine ⟨_,_,rfl,by simp [step1,h69n,e70,h69,htk,freshB,ment,bcells]; rfl,?_⟩
        refine allR_step (l:=[4]) (by kernel_rfl) (by simp) ?_
        refine ⟨?_,trivial⟩
        refine ⟨_,_,rfl,by simp [step1,h69n,e70,h69,htk,freshB,ment,bcells]; rfl,?_⟩
        exact ⟨by kernel_rfl,rfl⟩
      ·refine ⟨_,_,rfl,by simp [step1,h69n,e70,h69,htk,freshB,ment,bcells]; rfl,?_⟩
       refine allR_step (l:=[2]) (by kernel_rfl) (by simp) ?_
       refine ⟨?_,trivial⟩
       refine ⟨_,_,rfl,by simp [step1,h69n,e70,h69,htk,freshB,ment,bcells]; rfl,?_⟩
       refine allR_step (l:=[3]) (by kernel_rfl) (by simp) ?_
       refine ⟨?_,trivial⟩
       refine ⟨_,_,rfl,by simp [step1,h69n,e70,h69,htk,freshB,ment,bcells]; rfl,?_⟩
       refine allR_step (l:=[4]) (by kernel_rfl) (by simp) ?_
       refine ⟨?_,trivial⟩
       refine ⟨_,_,rfl,by simp [step1,h69n,e70,h69,htk,freshB,ment,bcells]; rfl,?_⟩
       exact ⟨by kernel_rfl,rfl⟩
     ·refine ⟨_,_,rfl,by simp [step1,h69n,e70,h69,htk,freshB,ment,bcells]; rfl,?_⟩
      refine allR_step (l:=[0,5]) (by kernel_rfl) (by simp) ?_
      refine ⟨?_,?_,trivial⟩
      ·refine ⟨_,_,rfl,by simp [step1,h69n,e70,h69,htk,freshB,ment,bcells]; rfl,?_⟩
       refine allR_step (l:=[3,5]) (by kernel_rfl) (by simp) ?_
       refine ⟨?_,?_,trivial⟩
       ·refine ⟨_,_,rfl,by simp [step1,h69n,e70,h69,htk,freshB,ment,bcells]; rfl,?_⟩
        refine allR_step (l:=[4,5]) (by kernel_rfl) (by simp) ?_
        refine ⟨?_,?_,trivial⟩
        ·refine ⟨_,_,rfl,by simp [step1,h69n,e70,h69,htk,freshB,ment,bcells]; rfl,?_⟩
         refine allR_step (l:=[5]) (by kernel_rfl) (by simp) ?_
         refine ⟨?_,trivial⟩
         refine ⟨_,_,rfl,by simp [step1,h69n,e70,h69,htk,freshB,ment,bcells]; rfl,?_⟩
         exact ⟨by kernel_rfl,rfl⟩
        ·refine ⟨_,_,rfl,by simp [step1,h69n,e70,h69,htk,freshB,ment,bcells]; rfl,?_⟩
         refine allR_step (l:=[4]) (by kernel_rfl) (by simp) ?_
         refine ⟨?_,trivial⟩
         refine ⟨_,_,rfl,by simp [step1,h69n,e70,h69,htk,freshB,ment,bcells]; rfl,?_⟩
         exact ⟨by kernel_rfl,rfl⟩
       ·refine ⟨_,_,rfl,by simp [step1,h69n,e70,h69,htk,freshB,ment,bcells]; rfl,?_⟩
        refine allR_step (l:=[3]) (by kernel_rfl) (by simp) ?_
        refine ⟨?_,trivial⟩
        refine ⟨_,_,rfl,by simp [step1,h69n,e70,h69,htk,freshB,ment,bcells]; rfl,?_⟩
        refine allR_step (l:=[4]) (by kernel_rfl) (by simp) ?_
        refine ⟨?_,trivial⟩
        refine ⟨_,_,rfl,by simp [step1,h69n,e70,h69,htk,freshB,ment,bcells]; rfl,?_⟩
        exact ⟨by kernel_rfl,rfl⟩
      ·refine ⟨_,_,rfl,by simp [step1,h69n,e70,h69,htk,freshB,ment,bcells]; rfl,?_⟩
       refine allR_step (l:=[0]) (by kernel_rfl) (by simp) ?_
       refine ⟨?_,trivial⟩
       refine ⟨_,_,rfl,by simp [step1,h69n,e70,h69,htk,freshB,ment,bcells]; rfl,?_⟩
       refine allR_step (l:=[3]) (by kernel_rfl) (by simp) ?_
       refine ⟨?_,trivial⟩
       refine ⟨_,_,rfl,by simp [step1,h69n,e70,h69,htk,freshB,ment,bcells]; rfl,?_⟩
       refine allR_step (l:=[4]) (by kernel_rfl) (by simp) ?_
       refine ⟨?_,trivial⟩
       refine ⟨_,_,rfl,by simp [step1,h69n,e70,h69,htk,freshB,ment,bcells]; rfl,?_⟩
       exact ⟨by kernel_rfl,rfl⟩
     ·refine ⟨_,_,rfl,by simp [step1,h69n,e70,h69,htk,freshB,ment,bcells]; rfl,?_⟩
      refine allR_step (l:=[0,2]) (by kernel_rfl) (by simp) ?_
      refine ⟨?_,?_,trivial⟩
      ·refine ⟨_,_,rfl,by simp [step1,h69n,e70,h69,htk,freshB,ment,bcells]; rfl,?_⟩
       refine allR_step (l:=[2]) (by kernel_rfl) (by simp) ?_
       refine ⟨?_,trivial⟩
       refine ⟨_,_,rfl,by simp [step1,h69n,e70,h69,htk,freshB,ment,bcells]; rfl,?_⟩
       refine allR_step (l:=[3]) (by kernel_rfl) (by simp) ?_
       refine ⟨?_,trivial⟩
       refine ⟨_,_,rfl,by simp [step1,h69n,e70,h69,htk,freshB,ment,bcells]; rfl,?_⟩
       refine allR_step (l:=[4]) (by kernel_rfl) (by simp) ?_
       refine ⟨?_,trivial⟩
       refine ⟨_,_,rfl,by simp [step1,h69n,e70,h69,htk,freshB,ment,bcells]; rfl,?_⟩
       exact ⟨by kernel_rfl,rfl⟩
      ·refine ⟨_,_,rfl,by simp [step1,h69n,e70,h69,htk,freshB,ment,bcells]; rfl,?_⟩
       refine allR_step (l:=[0]) (by kernel_rfl) (by simp) ?_
       refine ⟨?_,trivial⟩
       refine ⟨_,_,rfl,by simp [step1,h69n,e70,h69,htk,freshB,ment,bcells]; rfl,?_⟩
       refine allR_step (l:=[3]) (by kernel_rfl) (by simp) ?_
       refine ⟨?_,trivial⟩
       refine ⟨_,_,rfl,by simp [step1,h69n,e70,h69,htk,freshB,ment,bcells]; rfl,?_⟩
       refine allR_step (l:=[4]) (by kernel_rfl) (by simp) ?_
       refine ⟨?_,trivial⟩
       refine ⟨_,_,rfl,by simp [step1,h69n,e70,h69,htk,freshB,ment,bcells]; rfl,?_⟩
       exact ⟨by kernel_rfl,rfl⟩
    ·refine ⟨_,_,rfl,by simp [step1,h69n,e70,h69,htk,freshB,ment,bcells]; rfl,?_⟩
     refine allR_step (l:=[0,1]) (by kernel_rfl) (by simp) ?_
     refine ⟨?_,?_,trivial⟩
     ·refine ⟨_,_,rfl,by simp [step1,h69n,e70,h69,htk,freshB,ment,bcells]; rfl,?_⟩
      refine allR_step (l:=[1]) (by kernel_rfl) (by simp) ?_
      refine ⟨?_,trivial⟩
      refine ⟨_,_,rfl,by simp [step1,h69n,e70,h69,htk,freshB,ment,bcells]; rfl,?_⟩
      refine allR_step (l:=[2]) (by kernel_rfl) (by simp) ?_
      refine ⟨?_,trivial⟩
      refine ⟨_,_,rfl,by simp [step1,h69n,e70,h69,htk,freshB,ment,bcells]; rfl,?_⟩
      refine allR_step (l:=[3]) (by kernel_rfl) (by simp) ?_
      refine ⟨?_,trivial⟩
      refine ⟨_,_,rfl,by simp [step1,h69n,e70,h69,htk,freshB,ment,bcells]; rfl,?_⟩
      refine allR_step (l:=[4]) (by kernel_rfl) (by simp) ?_
      refine ⟨?_,trivial⟩
      refine ⟨_,_,rfl,by simp [step1,h69n,e70,h69,htk,freshB,ment,bcells]; rfl,?_⟩
      exact ⟨by kernel_rfl,rfl⟩
     ·refine ⟨_,_,rfl,by simp [step1,h69n,e70,h69,htk,freshB,ment,bcells]; rfl,?_⟩
      refine allR_step (l:=[0,2]) (by kernel_rfl) (by simp) ?_
      refine ⟨?_,?_,trivial⟩
      ·refine ⟨_,_,rfl,by simp [step1,h69n,e70,h69,htk,freshB,ment,bcells]; rfl,?_⟩
       refine allR_step (l:=[2]) (by kernel_rfl) (by simp) ?_
       refine ⟨?_,trivial⟩
       refine ⟨_,_,rfl,by simp [step1,h69n,e70,h69,htk,freshB,ment,bcells]; rfl,?_⟩
       refine allR_step (l:=[3]) (by kernel_rfl) (by simp) ?_
       refine ⟨?_,trivial⟩
       refine ⟨_,_,rfl,by simp [step1,h69n,e70,h69,htk,freshB,ment,bcells]; rfl,?_⟩
       refine allR_step (l:=[4]) (by kernel_rfl) (by simp) ?_
       refine ⟨?_,trivial⟩
       refine ⟨_,_,rfl,by simp [step1,h69n,e70,h69,htk,freshB,ment,bcells]; rfl,?_⟩
       exact ⟨by kernel_rfl,rfl⟩
      ·refine ⟨_,_,rfl,by simp [step1,h69n,e70,h69,htk,freshB,ment,bcells]; rfl,?_⟩
       refine allR_step (l:=[0]) (by kernel_rfl) (by simp) ?_
       refine ⟨?_,trivial⟩
       refine ⟨_,_,rfl,by simp [step1,h69n,e70,h69,htk,freshB,ment,bcells]; rfl,?_⟩
       refine allR_step (l:=[3]) (by kernel_rfl) (by simp) ?_
       refine ⟨?_,trivial⟩
       refine ⟨_,_,rfl,by simp [step1,h69n,e70,h69,htk,freshB,ment,bcells]; rfl,?_⟩
       refine allR_step (l:=[4]) (by kernel_rfl) (by simp) ?_
       refine ⟨?_,trivial⟩
       refine ⟨_,_,rfl,by simp [step1,h69n,e70,h69,htk,freshB,ment,bcells]; rfl,?_⟩
       exact ⟨by kernel_rfl,rfl⟩) ?_))
   refine ev_block ?_
   refine ev_loop (fun i:Nat=>({ env:=[(4,.ptr 4 0),(5,.own 5 0 ((gs.take i).map (memS nums)).length),(16,.own 3000032 0 gs.length),(17,.fv false (.int .i64 gs.length)),(18,.fv false (.int .i64 i))],blk:=[(4,.box [.fv r0 (.sl c0 1 (ints bal)),.own 3000024 0 nums.length,.map 3000025]),(5,.arr 1 (grL ((gs.take i).map (memS nums)))),(3000024,.arr 1 (ints (natL nums))),(3000025,.mp (memE M)),(3000032,.arr 1 (ints (natL gs)))] }:St)) (fun i=>gs.length-i) (fun i=>i<=gs.length) 0 (by simp [grL]) (by simp) (by simp [R]; omega) (fun i hi=>?_)
   have hmin:min i gs.length=i:=by omega
   refine ev_seq (ev_reg (by simp; rfl) ?_)
   refine ev_seq (ev_cond rfl (fun hb=>?_) (fun hb=>?_))
   ·simp at hb
    have hg:=nat_get gs i hb
    have hlt:gs[i] < 2^62:=Nat.lt_of_lt_of_le (hglt _ (List.getElem_mem hb)) (Nat.pow_le_pow_right (by omega) (by omega))
    have htk2:gs.take (i+1)=gs.take i++[gs[i]]:=by rw [List.take_add_one,List.getElem?_eq_getElem hb]; rfl
    have e71:∀ r q,ctx 71 [(r,.agg [.sl c0 1 (ints bal),.sl false 1 (ints (natL nums)),.top]),(q,.int .i64 ((gs[i]:Nat):Int))]=some [.us 1 (ints (natL (memS nums gs[i])))]:=fun r q=>h71 bal nums gs[i] r q c0 false 1 hlt hnl (.inr rfl)
    generalize hge:gs[i]=s at hg hlt htk2 e71
    refine ev_skip ?_
    refine ev_seq (ev_block ?_)
    refine ev_seq (ev_reg (by simp [hb,hg]; rfl) ?_)
    have hbd:(i+1)*24<=140737488355328:=by omega
    have hmk:List.take (memS nums s).length (natL (memS nums s))=natL (memS nums s):=List.take_of_length_le (by simp)
    refine ev_reg (by simp [e71,htk,hmin,hbd,hmk]; rfl) ?_
    refine ev_reg (by simp; rfl) ?_
    refine ⟨i+1,?_,by omega,by omega⟩
    simp [htk2,grL,hmin]
    exact wrap_nat (n:=i+1) (by omega)
   ·simp at hb
    obtain rfl:i=gs.length:=by omega
    refine ev_exit ?_
    refine ev_seq (ev_reg (by simp; rfl) ?_)
    refine ev_ret ?_
    have hall:List.take gs.length (List.map (memS nums) gs)=List.map (memS nums) gs:=List.take_of_length_le (by simp)
    simp [hgf,hall]
def H37 (ctx:Ctx):Prop:=∀ (bal:List Int) (r0 c0:Bool),bal.length < 2^44->ctx 37 [(r0,.sl c0 1 (ints bal))]=some [.us 1 (grL (groupsF bal).1),.fv (.int .i64 (groupsF bal).2)]
def cntZ (l:List Int):Nat:=l.countP fun x=>!(x==0)
def payN (l:List Int) (a b:Nat):Int:=min (-(l.getD a 0)) (l.getD b 0)
def payL (l:List Int) (a b:Nat):List Int:=(l.set a (l.getD a 0+payN l a b)).set b (l.getD b 0-payN l a b)
def settle:Nat->List Nat->List Int×List Pay->List Int×List Pay
 | 0,_,s=>s
 | n+1,mem,s=>if 0<=(payF s.1 mem).1/\0<=(payF s.1 mem).2 then settle n mem (payL s.1 (payF s.1 mem).1.toNat (payF s.1 mem).2.toNat,s.2++[⟨(payF s.1 mem).1,(payF s.1 mem).2,payN s.1 (payF s.1 mem).1.toNat (payF s.1 mem).2.toNat⟩]) else s
def settleAll (gs:List (List Nat)) (s:List Int×List Pay):List Int×List Pay:=gs.foldl (fun s g=>settle 11 g s) s
def clearF (bal:List Int):List Pay×Int:=if balances bal=true then ((settleAll (groupsF bal).1 (bal,[])).2,0) else ([],33)
theorem payF_at (l:List Int) (mem:List Nat):((payF l mem).1=-1\/∃ a∈mem,(payF l mem).1=(a:Int)/\l.getD a 0 < 0)/\((payF l mem).2=-1\/∃ b∈mem,(payF l mem).2=(b:Int)/\0 < l.getD b 0):=by
 have key:∀ (m:List Nat) (s:Int×Int),(s.1=-1\/∃ a∈mem,s.1=(a:Int)/\l.getD a 0 < 0)->(s.2=-1\/∃ b∈mem,s.2=(b:Int)/\0 < l.getD b 0)->(∀ q∈m,q∈mem)->((m.foldl (payStep l) s).1=-1\/∃ a∈mem,(m.foldl (payStep l) s).1=(a:Int)/\l.getD a 0 < 0)/\((m.foldl (payStep l) s).2=-1\/∃ b∈mem,(m.foldl (payStep l) s).2=(b:Int)/\0 < l.getD b 0):=by
  intro m
  induction m with
  | nil=>intro s h1 h2 _; exact ⟨h1,h2⟩
  | cons q m ih =>
   intro s h1 h2 hm
   simp only [List.foldl_cons]
   have hq:=hm q List.mem_cons_self
   refine ih (payStep l s q) ?_ ?_ fun x hx=>hm x (List.mem_cons_of_mem _ hx)
   ·unfold payStep
    split
    ·rename_i h; exact .inr ⟨q,hq,rfl,h.1⟩
    ·split<;>exact h1
   ·unfold payStep
    split
    ·exact h2
    ·split
     ·rename_i h; exact .inr ⟨q,hq,rfl,h.1⟩
     ·exact h2
 exact key mem (-1,-1) (.inl rfl) (.inl rfl) fun q hq=>hq
structure PayAt (l:List Int) (mem:List Nat) (a b:Nat):Prop where
 ha:a∈mem
 hb:b∈mem
 ea:(payF l mem).1=a
 eb:(payF l mem).2=b
 na:l.getD a 0 < 0
 nb:0 < l.getD b 0
theorem payF_some {l:List Int} {mem:List Nat} (h1:0<=(payF l mem).1) (h2:0<=(payF l mem).2):∃ a b,PayAt l mem a b:=by
 obtain ⟨k1,k2⟩:=payF_at l mem
 rcases k1 with k1 | ⟨a,ha,ea,na⟩
 ·omega
 rcases k2 with k2 | ⟨b,hb,eb,nb⟩
 ·omega
 exact ⟨a,b,ha,hb,ea,eb,na,nb⟩
theorem payL_length (l:List Int) (a b:Nat):(payL l a b).length=l.length:=by simp [payL]
theorem payL_cnt {l:List Int} {mem:List Nat} {a b:Nat} (h:PayAt l mem a b) (ha:a < l.length) (hb:b < l.length):cntZ (payL l a b) < cntZ l:=by
 have hne:a≠b:=fun e=>by have h1:=h.na; have h2:=h.nb; rw [e] at h1; omega
 have na:=h.na
 have nb:=h.nb
 have ga:l.getD a 0=l[a]:=by simp [List.getD_eq_getElem?_getD,ha]
 have gb:l.getD b 0=l[b]:=by simp [List.getD_eq_getElem?_getD,hb]
 rw [ga] at na
 rw [gb] at nb
 unfold cntZ payL payN
 rw [ga,gb]
 have hpos:0 < l.countP fun x=>!(x==0):=List.countP_pos_iff.2 ⟨l[a],List.getElem_mem ha,by simp; omega⟩
 have hb':b < (l.set a (l[a]+min (-l[a]) l[b])).length:=by simpa using hb
 have hsb:(l.set a (l[a]+min (-l[a]) l[b]))[b]=l[b]:=List.getElem_set_ne hne _
 rw [List.countP_set hb',List.countP_set ha,hsb]
 have pa:(!(l[a]==0))=true:=by simp; omega
 have pb:(!(l[b]==0))=true:=by simp; omega
 have hz:l[a]+min (-l[a]) l[b]=0\/l[b]-min (-l[a]) l[b]=0:=by omega
 have two:2<=l.countP fun x=>!(x==0):=by
  have h1:=List.countP_set (p:=fun x:Int=>!(x==0)) (a:=0) ha
  rw [pa] at h1
  simp at h1
  have h2:0 < (l.set a 0).countP fun x=>!(x==0):=List.countP_pos_iff.2 ⟨l[b],by
   have:(l.set a 0)[b]'(by simpa using hb)=l[b]:=List.getElem_set_ne hne _
   rw [<-this]; exact List.getElem_mem _,pb⟩
  have h3:((l.set a 0).countP fun x=>!(x==0))=(l.countP fun x=>!(x==0))-1:=by simpa using h1
  omega
 rw [pa,pb]
 simp only [if_true]
 rcases hz with hz | hz
 ·rw [hz]
  simp only [beq_self_eq_true,Bool.not_true,Bool.false_eq_true,if_false]
  split<;>omega
 ·rw [hz]
  simp only [beq_self_eq_true,Bool.not_true,Bool.false_eq_true,if_false]
  split<;>omega
theorem payL_bound {l:List Int} {mem:List Nat} {a b:Nat} {B:Int} (h:PayAt l mem a b) (hB:∀ x∈l,-B<=x/\x<=B) (hB0:0<=B):∀ x∈payL l a b,-B<=x/\x<=B:=by
 have hg:∀ i,-B<=l.getD i 0/\l.getD i 0<=B:=fun i=>by
  rw [List.getD_eq_getElem?_getD]
  cases hi:l[i]? with
  | none=>simp; omega
  | some x=>exact hB x (List.mem_of_getElem? hi)
 have g1:=hg a
 have g2:=hg b
 have n1:=h.na
 have n2:=h.nb
 intro x hx
 unfold payL payN at hx
 rcases List.mem_or_eq_of_mem_set hx with hx | rfl
 ·rcases List.mem_or_eq_of_mem_set hx with hx | rfl
  ·exact hB x hx
  ·omega
 ·omega
theorem settle_stable {mem:List Nat}:∀ (n m:Nat) (s:List Int×List Pay),(∀ q∈mem,q < s.1.length)->cntZ s.1 < n->cntZ s.1 < m->settle n mem s=settle m mem s
 | 0,_,_,_,h,_=>absurd h (Nat.not_lt_zero _)
 | _,0,_,_,_,h=>absurd h (Nat.not_lt_zero _)
 | n+1,m+1,s,hm,h,h'=>by
  simp only [settle]
  split
  ·rename_i hc
   obtain ⟨a,b,hp⟩:=payF_some hc.1 hc.2
   rw [hp.ea,hp.eb]
   simp only [Int.toNat_natCast]
   have:=payL_cnt hp (hm a hp.ha) (hm b hp.hb)
   exact settle_stable n m _ (fun q hq=>by simp only [payL_length]; exact hm q hq) (by simp only; omega) (by simp only; omega)
  ·rfl
theorem cntZ_le (l:List Int):cntZ l<=l.length:=List.countP_le_length
end Go.Proofs.YtejodhjhddnbeaaDoor.E
