/-
  The dues (ShareDues): Shares returns what the chapter says, for any voyage. Conditions: none.
-/
import Derived.Test.YtejodhjhddnbeaaDoorZE5
set_option linter.unusedVariables false
set_option linter.unusedSimpArgs false
namespace Go.Proofs.YtejodhjhddnbeaaDoor.E
open Go Go.RowKit
structure StkOk (l:List Stk):Prop where
 len:l.length<=10
 w:∀ x∈l,0<=x.2/\x.2<=1000000
 nd:nodupB (l.map (·.1))=true
 ne:∀ x∈l,(x.1==ByteArray.empty)=false
theorem StkOk.div {l:List Stk} (h:StkOk l) {all:Int} (ha:0<=all/\all<=10000000) (hp:0 < (wts l).sum):DivOk all l :=
 { len:=h.len,h0:=ha.1,h1:=ha.2,w:=h.w,pos:=hp,nd:=h.nd,ne:=h.ne }
theorem StkOk.sumI {l:List Stk} (h:StkOk l):sumI (wts l)=(wts l).sum:=by
 have hl:=h.len
 refine (sumI_eq (B:=1000000) (by omega) (wts l) (fun x hx=>?_) (by rw [wts_length]; omega)).1
 simp only [wts,List.mem_map] at hx
 obtain ⟨y,hy,rfl⟩:=hx
 exact h.w y hy
theorem stk_of {l:List Stk} (h:stakesOk l=true):StkOk l :=
 { len:=stakes_len h,w:=fun x hx=>by have:=(stakes_mem h hx).2; omega,nd:=nodupB_iff.2 (stakes_nodup h),ne:=fun x hx=>name_ne (stakes_mem h hx).1 }
theorem part_stk {v:Voy} (h:checkF v=0) (i:Nat) (hi:i < 3):StkOk (partS v i):=by
 obtain ⟨hv,c,hc⟩:=check_ok h
 have hst:=hv.st i hi
 obtain rfl | rfl | rfl:i=0\/i=1\/i=2:=by omega
 ·exact stk_of hst
 ·obtain ⟨k1,k2,k3⟩:=claims_facts hc
  simp only [partS,hc,Option.getD_some]
  simp only [partL] at hst
  have hd:=stk_of hst
  have hs:=stakes_sum hst
  refine { len:=by rw [claimsOf_length k1]; exact hd.len,w:=fun x hx=>?_,nd:=by rw [claimsOf_names k1]; exact hd.nd,ne:=fun x hx=>?_ }
  ·have hx2:x.2∈c:=by
    have:x.2∈wts (claimsOf v.lend c):=List.mem_map_of_mem hx
    rwa [claimsOf_wts k1] at this
   have:=k3 x.2 hx2
   have:=mem_le_sum k3 x.2 hx2
   omega
  ·have:x.1∈v.lend.map (·.1):=by rw [<-claimsOf_names k1]; exact List.mem_map_of_mem hx
   obtain ⟨y,hy,e⟩:=List.mem_map.1 this
   rw [<-e]
   exact hd.ne y hy
 ·exact stk_of hst
def ofF (all:Int) (l:List Stk) (n:ByteArray):Int:=if 0 < (wts l).sum then valL l (divF all l) n else 0
theorem valL_all0:∀ {s:List Stk} {g:List Int} {n:ByteArray},(∀ x∈g,x=0)->valL s g n=0
 | [],_,_,_=>by simp [valL]
 | p :: s,[],_,_=>by simp [valL]
 | p :: s,a :: g,n,h=>by
  simp only [valL]
  split
  ·exact h a List.mem_cons_self
  ·exact valL_all0 fun x hx=>h x (List.mem_cons_of_mem _ hx)
theorem of_val {v:Voy} (h:checkF v=0) (i:Nat) (hi:i < 3) (n:ByteArray):ofF ((threeF v).getD i 0) (partS v i) n=valV v i n:=by
 obtain ⟨hv,_⟩:=check_ok h
 unfold ofF valV gotF
 by_cases he:0 < partE v i
 ·have hd:=(partS_facts h i hi).2.2 he
  rw [if_pos he,if_pos hd.pos]
 ·have:=hv.e i hi
  rw [if_neg he,valL_zero,three_zero hv i hi (by omega)]
  split
  ·rename_i hp
   have hd:=(part_stk h i hi).div (all:=0) (by omega) hp
   have hf:=div_facts hd
   exact valL_all0 fun x hx=>by
    have h1:=hf.1 x hx
    have h2:=mem_le_sum hf.1 x hx
    have h3:=hf.2.1
    omega
  ·rfl
structure DocIs (F:ByteArray->Due) (P:ByteArray->Prop) (l:List Due):Prop where
 f:∀ x∈l,x=F x.n
 m:∀ n,n∈l.map (·.n)↔P n
 s:l.Pairwise (fun x y=>nlt x.n y.n)
theorem DocIs.same {F:ByteArray->Due} {P:ByteArray->Prop} {l:List Due} (h:DocIs F P l) {n:ByteArray} (hn:n∈l.map (·.n)):DocIs F (fun m=>P m\/m=n) l :=
 ⟨h.f,fun m=>by
  rw [h.m]
  exact ⟨.inl,fun hx=>hx.elim id fun e=>by rw [e]; exact (h.m n).1 hn⟩,h.s⟩
theorem DocIs.ins {F:ByteArray->Due} {P:ByteArray->Prop} {l:List Due} (h:DocIs F P l) {n:ByteArray} (hF:(F n).n=n) {a:Nat} (hl:∀ x∈l.take a,nlt x.n n) (hg:∀ (ha:a < l.length),¬ nlt l[a].n n/\l[a].n≠n):DocIs F (fun m=>P m\/m=n) (l.take a++F n :: l.drop a):=by
 have hta:=List.take_append_drop a l
 have hs:=h.s
 rw [<-hta,List.pairwise_append] at hs
 obtain ⟨s1,s2,s3⟩:=hs
 have hgt:∀ y∈l.drop a,nlt n y.n:=fun y hy=>by
  have hal:a < l.length:=by
   refine Classical.byContradiction fun hx=>?_
   rw [List.drop_of_length_le (by omega)] at hy
   cases hy
  obtain ⟨g1,g2⟩:=hg hal
  have g3:nlt n l[a].n:=(nlt_total g2).resolve_left g1
  rw [List.drop_eq_getElem_cons hal] at hy s2
  rcases List.mem_cons.1 hy with rfl | hy
  ·exact g3
  ·exact nlt_trans g3 ((List.pairwise_cons.1 s2).1 y hy)
 refine ⟨fun x hx=>?_,fun m=>?_,?_⟩
 ·rcases List.mem_append.1 hx with hx | hx
  ·exact h.f x (List.mem_of_mem_take hx)
  ·rcases List.mem_cons.1 hx with rfl | hx
   ·rw [hF]
   ·exact h.f x (List.mem_of_mem_drop hx)
 ·rw [<-h.m]
  conv=>rhs; rw [<-hta]
  simp only [List.map_append,List.map_cons,List.mem_append,List.mem_cons,hF]
  constructor
  ·rintro (k | k | k)
   ·exact .inl (.inl k)
   ·exact .inr k
   ·exact .inl (.inr k)
  ·rintro ((k | k) | k)
   ·exact .inl k
   ·exact .inr (.inr k)
   ·exact .inr (.inl k)
 ·rw [List.pairwise_append]
  refine ⟨s1,List.pairwise_cons.2 ⟨fun y hy=>by rw [hF]; exact hgt y hy,s2⟩,fun x hx y hy=>?_⟩
  rcases List.mem_cons.1 hy with rfl | hy
  ·rw [hF]; exact hl x hx
  ·exact s3 x hx y hy
def docF (v:Voy) (n:ByteArray):Due:=⟨n,ofF ((threeF v).getD 0 0) (partS v 0) n,ofF ((threeF v).getD 1 0) (partS v 1) n,ofF ((threeF v).getD 2 0) (partS v 2) n⟩
theorem doc_is {v:Voy} (h:checkF v=0) {l:List Due} {A:List Stk} (hA:A=partS v 0++partS v 1++partS v 2) (hd:DocIs (docF v) (fun m=>m∈A.map (·.1)) l):l=sharesF v:=by
 refine shares_one (v:=v) (w:=v) ⟨fun x hx=>?_,fun m=>?_,hd.s⟩ (shares_is h) (fun _ _ _=>rfl) (fun _ _ _=>Iff.rfl)
 ·have:=hd.f x hx
  obtain ⟨n,b,t,c⟩:=x
  simp only [docF,Due.mk.injEq] at this
  obtain ⟨_,e1,e2,e3⟩:=this
  simp only
  rw [e1,e2,e3,of_val h 0 (by omega),of_val h 1 (by omega),of_val h 2 (by omega)]
  exact ⟨rfl,rfl,rfl⟩
 ·rw [hd.m,hA]
  simp only [List.map_append,List.mem_append]
  constructor
  ·rintro ((k | k) | k)
   ·exact ⟨0,by omega,k⟩
   ·exact ⟨1,by omega,k⟩
   ·exact ⟨2,by omega,k⟩
  ·rintro ⟨k,hk,hx⟩
   obtain rfl | rfl | rfl:k=0\/k=1\/k=2:=by omega
   ·exact .inl (.inl hx)
   ·exact .inl (.inr hx)
   ·exact .inr hx
theorem sless_ff {a b:ByteArray} (h:sless a b=false):¬ nlt a b:=fun h'=>by rw [sless_iff.2 h'] at h; cases h
set_option maxRecDepth 20000 in
theorem v66 (ctx:Ctx) (hC:CtxOk (pg ctx)) (h52:H52 ctx) (h53:H53 ctx) (all:Int) (l:List Stk) (n:ByteArray) (hl:StkOk l) (ha:0<=all/\all<=10000000) (r0 ro r2 c:Bool):Valid Tryd.prog 66 [(r0,.int .i64 all),(ro,.sl c 2 (stL l)),(r2,.str n)] [.fv (.int .i64 (ofF all l n))]:=by
 refine valid_of_ev (G:=pg ctx) (tok ctx) hC mixed Tryd.func66 T66 L66 (by simp [Tryd.ntmps66]) ⟨_,rfl,?_⟩
 simp only [Tryd.ntmps66,Tryd.results66,initSt,initEnv]
 have hlen:=hl.len
 have e52:∀ r c,ctx 52 [(r,.sl c 2 (stL l))]=some [.fv (.int .i64 (wts l).sum)]:=fun r c=>by rw [h52 l r c (by omega),hl.sumI]
 refine ev_seq (ev_reg (by simp; rfl) ?_)
 refine ev_seq (ev_seq (ev_reg (by simp; rfl) ?_))
 refine ev_block ?_
 refine ev_loop (fun i:Nat=>({ env:=[(0,V.fv r0 (.int .i64 all)),(1,V.fv ro (.sl c 2 (stL l))),(2,V.fv r2 (.str n)),(7,V.fv false (FV.int .i64 i))],blk:=[] }:St)) (fun i=>l.length-i) (fun i=>i<=l.length/\(0 < (wts l).sum->∀ x∈l.take i,(x.1==n)=false)) 0 rfl (by simp) (by simp [R]; omega) (fun i hi=>?_)
 obtain ⟨hi,hn⟩:=hi
 refine ev_seq (ev_seq (ev_reg (by simp; rfl) ?_))
 refine ev_cond rfl (fun hb=>?_) (fun hb=>?_)
 ·simp at hb
  refine ev_skip ?_
  refine ev_seq (ev_block ?_)
  cases hq:(l[i].1==n) with
  | true =>
   by_cases hp:0 < (wts l).sum
   ·have e53:∀ r r2 c,ctx 53 [(r,.int .i64 all),(r2,.sl c 2 (stL l))]=some [.us 1 (ints (divF all l))]:=fun r r2 c=>h53 all l r r2 c (hl.div ha hp)
    have hv:ofF all l n=(divF all l).getD i 0:=by
     unfold ofF
     rw [if_pos hp,<-(bytes_eq _ _).1 hq]
     exact valL_at (nodupB_iff.1 hl.nd) (divF_length all l) hb
    have hdl:=divF_length all l
    rw [hv]
    generalize divF all l=D at e53 hdl
    have hiD:i < D.length:=by omega
    refine ev_seq (ev_reg (by simp [hb,hq,e52,hp]; rfl) ?_)
    refine ev_cond rfl (fun hb2=>?_) (fun hb2=>?_)
    ·refine ev_seq (ev_reg (by simp [e53,hiD]; rfl) ?_)
     refine ev_ret ?_
     simp [List.getD_eq_getElem?_getD,hiD]
    ·simp at hb2
   ·refine ev_seq (ev_reg (by simp [hb,hq,e52,hp]; rfl) ?_)
    refine ev_cond rfl (fun hb2=>?_) (fun hb2=>?_)
    ·simp at hb2
    ·refine ev_skip ?_
     refine ev_reg (by simp; rfl) ?_
     refine ⟨i+1,?_,⟨by omega,fun h=>absurd h hp⟩,by omega⟩
     simp
     exact wrap_nat (n:=i+1) (by omega)
  | false =>
   refine ev_seq (ev_reg (by simp [hb,hq,unsetS]; rfl) ?_)
   refine ev_cond rfl (fun hb2=>?_) (fun hb2=>?_)
   ·simp at hb2
   ·refine ev_skip ?_
    refine ev_reg (by simp; rfl) ?_
    refine ⟨i+1,?_,⟨by omega,fun h=>take_all (p:=fun x:Stk=>x.1==n) hb (hn h) hq⟩,by omega⟩
    simp
    exact wrap_nat (n:=i+1) (by omega)
 ·simp at hb
  refine ev_exit ?_
  refine ev_seq (ev_reg (by simp; rfl) ?_)
  refine ev_ret ?_
  have:ofF all l n=0:=by
   unfold ofF
   split
   ·rename_i hp
    refine valL_none fun hx=>?_
    obtain ⟨y,hy,e⟩:=List.mem_map.1 hx
    have hn:=hn hp
    rw [List.take_of_length_le hb] at hn
    have:=hn y hy
    rw [(bytes_eq _ _).2 e] at this
    cases this
   ·rfl
  simp [this]
def H66 (ctx:Ctx):Prop:=∀ (all:Int) (l:List Stk) (n:ByteArray) (r0 ro r2 c:Bool),StkOk l->(0<=all/\all<=10000000)->ctx 66 [(r0,.int .i64 all),(ro,.sl c 2 (stL l)),(r2,.str n)]=some [.fv (.int .i64 (ofF all l n))]
def T26h:List (Nat×Plan):=[(9,[([10],[51]),([1],[51]),([40],[51]),([11],[51]),([41,42],[51]),([43],[51]),([44],[51]),([8],[51]),([11],[51]),([46,47],[51]),([48],[51]),([45,49],[51]),([50],[])]),
 (10,[([],[56,58]),([1],[53,56,58]),([54],[53,56,58]),([53,55],[58]),([10],[53,56,58]),([56,57],[]),([1],[53,56,58]),([59],[53,56,58])]),
 (19,[([15],[106,110,115,17]),([4],[106,110,115,17]),([1],[106,110,115,17]),([103],[106,110,115,17]),([15],[106,110,115,17]),([102,104,105],[110,115,17]),([5],[106,110,115,17]),([10],[106,110,115,17]),([15],[106,110,115,17]),([107,108,109],[115,17]),([6],[106,110,115,17]),([1],[106,110,115,17]),([112],[106,110,115,17]),([15],[106,110,115,17]),([111,113,114],[17]),([101,106,110,115],[17]),([],[106,110,115])]),
 (20,[([],[121,123,124]),([13],[117,121,123,124]),([16],[117,121,123,124]),([118,119],[117,121,123,124]),([117,120],[123,124]),([17],[117,121,123,124]),([122],[117,121,124]),([121,123],[]),([13],[117,121,123,124]),([16],[117,121,123,124]),([125,126],[117,121,123,124])])]
theorem isDoc_start (F:ByteArray->Due) (A:List Stk):DocIs F (fun m=>m∈(A.take 0).map (·.1)) [] :=
 ⟨(fun x hx=>by cases hx),(fun n=>by simp),List.Pairwise.nil⟩
theorem DocIs.next {F:ByteArray->Due} {A:List Stk} {i:Nat} (hi:i < A.length) {l:List Due} (h:DocIs F (fun m=>m∈(A.take i).map (·.1)\/m=A[i].1) l):DocIs F (fun m=>m∈(A.take (i+1)).map (·.1)) l :=
 ⟨h.f,fun n=>by
  rw [h.m,take_snoc hi]
  simp only [List.map_append,List.map_cons,List.map_nil,List.mem_append,List.mem_cons,List.not_mem_nil,or_false],h.s⟩
theorem duL_mid (l:List Due) (a:Nat) (x:Due):duL (l.take a++x :: l.drop a)=List.take a (duL l)++duF x :: List.drop a (duL l):=by
 simp [duL,List.map_take,List.map_drop]
set_option maxHeartbeats 6400000 in
set_option maxRecDepth 20000 in
theorem v26 (ctx:Ctx) (hC:CtxOk (pg ctx)) (h24:H24 ctx) (h56:H56 ctx) (h66:H66 ctx) (v:Voy) (hv:Small v):Valid Tryd.prog 26 [(false,voyF v)] [.us 4 (duL (sharesF v)),.fv (.int .i64 (checkF v))]:=by
 refine valid_of_evH (G:=pg ctx) (tok ctx) hC mixed Tryd.func26 T26h [(10,5),(20,7)] L26 (by simp [Tryd.ntmps26]) ⟨_,rfl,?_⟩
 simp only [Tryd.ntmps26,Tryd.results26,initSt,initEnv,voyF,voyC]
 have e24:=h24 v hv
 simp only [voyF,voyC] at e24
 obtain ⟨a0,ha0⟩:∃ a,(partsR v).getD 0 0=a:=⟨_,rfl⟩
 obtain ⟨a1,ha1⟩:∃ a,(partsR v).getD 1 0=a:=⟨_,rfl⟩
 obtain ⟨a2,ha2⟩:∃ a,(partsR v).getD 2 0=a:=⟨_,rfl⟩
 rw [ha0,ha1,ha2] at e24
 refine ev_seq (ev_reg (by simp; rfl) ?_)
 refine ev_seq (ev_reg (by simp [e24]; rfl) ?_)
 refine ev_seq (ev_seq (ev_reg (by simp; rfl) ?_))
 refine ev_cond rfl (fun hb=>?_) (fun hb=>?_)
 ·simp at hb
  refine ev_seq (ev_reg (by simp; rfl) ?_)
  refine ev_ret ?_
  have:sharesF v=[]:=by unfold sharesF; rw [if_neg hb]
  simp [this,duL]
 ·have hk:checkF v=0:=by simpa using hb
  obtain ⟨hvo,c,hc⟩:=check_ok hk
  have e56:=h56 v hvo.lend.1 hvo.lend.2 hv.2.2.2.2
  rw [clmE_ok hc] at e56
  simp only [voyF,voyC] at e56
  have hr:partsR v=threeF v:=by unfold partsR; rw [if_pos hk]
  have h3a:=hvo.three 0
  have h3b:=hvo.three 1
  have h3c:=hvo.three 2
  have hcl:=(claims_facts hc).1
  have hp1:partS v 1=claimsOf v.lend c:=by simp [partS,hc]
  have hs0:=part_stk hk 0 (by omega)
  have hs1:=part_stk hk 1 (by omega)
  have hs2:=part_stk hk 2 (by omega)
  rw [hr] at ha0 ha1 ha2
  rw [ha0] at h3a
  rw [ha1] at h3b
  rw [ha2] at h3c
  have hdF:docF v=fun n=>⟨n,ofF a0 v.own n,ofF a1 (claimsOf v.lend c) n,ofF a2 v.hand n⟩:=by funext n; simp only [docF,hp1,ha0,ha1,ha2]; rfl
  have hdone:=fun (l:List Due) (A:List Stk) (hA:A=v.own++claimsOf v.lend c++v.hand) hd=>doc_is hk (l:=l) (A:=A) (by rw [hA,hp1]; rfl) hd
  rw [hp1] at hs1
  rw [hk]
  have hCl:=claimsOf_length hcl
  have hCat:∀ i (hi:i < v.lend.length) (h1:i < c.length),stL ((claimsOf v.lend c).take (i+1))=stL ((claimsOf v.lend c).take i)++[.agg [.str v.lend[i].1,.int .i64 c[i]]]:=fun i hi h1=>by
   have h2:i < (claimsOf v.lend c).length:=by omega
   rw [take_snoc h2]
   simp [stL,stF,claimsOf]
  have hlen0:=hs0.len
  have hlen1:=hs1.len
  have hlen2:=hs2.len
  have hL0:v.own.length<=10:=hlen0
  have hL2:v.hand.length<=10:=hlen2
  obtain ⟨CL,hCL⟩:∃ CL,claimsOf v.lend c=CL:=⟨_,rfl⟩
  rw [hCL] at hCl hCat hs1 hlen1 hdF hdone
  have e66a:∀ n r0 ro r2 c,ctx 66 [(r0,.int .i64 a0),(ro,.sl c 2 (stL v.own)),(r2,.str n)]=some [.fv (.int .i64 (ofF a0 v.own n))]:=fun n r0 ro r2 c=>h66 _ _ _ _ _ _ _ hs0 h3a
  have e66b:∀ n r0 ro r2 c,ctx 66 [(r0,.int .i64 a1),(ro,.sl c 2 (stL CL)),(r2,.str n)]=some [.fv (.int .i64 (ofF a1 CL n))]:=fun n r0 ro r2 c=>h66 _ _ _ _ _ _ _ hs1 h3b
  have e66c:∀ n r0 ro r2 c,ctx 66 [(r0,.int .i64 a2),(ro,.sl c 2 (stL v.hand)),(r2,.str n)]=some [.fv (.int .i64 (ofF a2 v.hand n))]:=fun n r0 ro r2 c=>h66 _ _ _ _ _ _ _ hs2 h3c
  refine ev_skip ?_
  refine ev_seq (ev_reg (by simp [e56]; rfl) ?_)
  refine ev_seq (ev_reg (by simp; rfl) ?_)
  refine ev_seq (ev_seq (ev_reg (by simp; rfl) ?_))
  refine ev_block ?_
  refine ev_loop (fun i:Nat=>({ env:=[(1,V.ptr 1 0),(4,.fv false (.int .i64 a0)),(5,.fv false (.int .i64 a1)),(6,.fv false (.int .i64 a2)),(8,V.own 8 0 c.length),(10,V.own 10 0 (stL (CL.take i)).length),(11,.fv false (.int .i64 i))],blk:=[(1,voyB v),(8,.arr 1 (ints c)),(10,.arr 2 (stL (CL.take i)))] }:St)) (fun i=>c.length-i) (fun i=>i<=c.length) 0 (by simp [voyB]) (by simp) (by simp [R]; omega) (fun i hi=>?_)
  have hmin:min i CL.length=i:=by omega
  refine ev_seq (ev_seq (ev_reg (by simp; rfl) ?_))
  refine ev_cond rfl (fun hb2=>?_) (fun hb2=>?_)
  ·have hic:i < c.length:=by simpa using hb2
   have hil:i < v.lend.length:=by omega
   have hbd:(i+1)*24<=140737488355328:=by omega
   have hC1:=hCat i hil hic
   have hC2:(stL (CL.take (i+1))).length=i+1:=by simp; omega
   refine ev_skip ?_
   refine ev_seq (ev_block ?_)
   refine ev_drwH rfl rfl (by kernel_rfl) (by kernel_rfl) (by simp [hic,hil,hmin,hbd,voyB]; rfl) ?_
   refine ev_reg (by simp; rfl) ?_
   refine ⟨i+1,?_,by omega,by omega⟩
   simp only [hC2,hC1]
   simp [voyB]
   exact ⟨by omega,wrap_nat (n:=i+1) (by omega)⟩
  ·have hic:i=c.length:=by simp at hb2; omega
   subst hic
   have tk:CL.take c.length=CL:=List.take_of_length_le (by omega)
   rw [tk]
   have hCLl:CL.length=c.length:=by omega
   have tkC:List.take c.length (stL CL)=stL CL:=List.take_of_length_le (by simp; omega)
   have hb1:v.own.length*24<=140737488355328:=by omega
   have hb3:(v.own.length+c.length)*24<=140737488355328:=by omega
   have hb4:(v.own.length+c.length+v.hand.length)*24<=140737488355328:=by omega
   refine ev_exit ?_
   refine ev_seq (ev_hole rfl rfl (by kernel_rfl) (by kernel_rfl) (fs:=[false,false,false,false,false,false,true,true]) (by kernel_rfl) rfl (by simp [hCLl]; rfl) (by simp [hCLl,tkC,hb1,voyB]; rfl) rfl (by simp [hCLl,tkC,hb1,hb3,voyB]; exact ⟨rfl,rfl,rfl,rfl⟩) (by simp [hCLl,tkC,hb1,hb3,voyB]) (by simp [hCLl,tkC,hb1,hb3,hb4,voyB]; rfl) ?_)
   obtain ⟨A,hA⟩:∃ A,v.own++CL++v.hand=A:=⟨_,rfl⟩
   have hAl:A.length=v.own.length+c.length+v.hand.length:=by rw [<-hA]; simp; omega
   have hAs:stL v.own++(stL CL++stL v.hand)=stL A:=by rw [<-hA]; simp [stL]
   have hdone:=hdone
   rw [hA] at hdone
   have hA30:A.length<=30:=by omega
   rw [hAs,<-hAl]
   clear tk hb1 hb3 hb4 hmin hCat
   refine ev_seq (ev_reg (by simp; rfl) ?_)
   refine ev_seq (ev_seq (ev_reg (by simp; rfl) ?_))
   refine ev_block ?_
   refine ev_loop (fun x:Nat×List Due=>({ env:=[(1,V.ptr 1 0),(4,.fv false (.int .i64 a0)),(5,.fv false (.int .i64 a1)),(6,.fv false (.int .i64 a2)),(10,V.own 10 0 c.length),(12,V.own 12 0 A.length),(13,V.own 13 0 x.2.length),(14,.fv false (.int .i64 x.1))],blk:=[(1,voyB v),(10,.arr 2 (stL CL)),(12,.arr 2 (stL A)),(13,.arr 4 (duL x.2))] }:St)) (fun x=>A.length-x.1) (fun x=>x.1<=A.length/\x.2.length<=x.1/\DocIs (docF v) (fun m=>m∈(A.take x.1).map (·.1)) x.2) (0,[]) (by simp [voyB,duL]) ⟨by simp,by simp,isDoc_start _ A⟩ (by simp [R]; omega) (fun x hx=>?_)
   obtain ⟨i,l⟩:=x
   obtain ⟨hi,hli,hd⟩:=hx
   simp only at hi hli hd
   refine ev_seq (ev_seq (ev_reg (by simp; rfl) ?_))
   refine ev_cond rfl (fun hb3=>?_) (fun hb3=>?_)
   ·have hiA:i < A.length:=by simpa using hb3
    refine ev_skip ?_
    refine ev_seq (ev_block ?_)
    refine ev_seq (ev_reg (by simp [hiA]; rfl) ?_)
    obtain ⟨n,hn⟩:∃ n,A[i].1=n:=⟨_,rfl⟩
    rw [hn]
    have hnx:∀ (l':List Due),DocIs (docF v) (fun m=>m∈(A.take i).map (·.1)\/m=n) l'->DocIs (docF v) (fun m=>m∈(A.take (i+1)).map (·.1)) l':=fun l' h=>DocIs.next hiA (l:=l') (F:=docF v) (by rw [hn]; exact h)
    have hFn:(docF v n).n=n:=rfl
    refine ev_seq (ev_block ?_)
    refine ev_loop (fun a:Nat=>({ env:=[(1,V.ptr 1 0),(4,.fv false (.int .i64 a0)),(5,.fv false (.int .i64 a1)),(6,.fv false (.int .i64 a2)),(10,V.own 10 0 c.length),(12,V.own 12 0 A.length),(13,V.own 13 0 l.length),(14,.fv false (.int .i64 i)),(15,.fv false (.str n)),(16,.fv false (.int .i64 a))],blk:=[(1,voyB v),(10,.arr 2 (stL CL)),(12,.arr 2 (stL A)),(13,.arr 4 (duL l))] }:St)) (fun a=>l.length-a) (fun a=>a<=l.length/\∀ x∈l.take a,nlt x.n n) 0 (by simp [voyB]) (by simp) (by simp [R]; omega) (fun a ha=>?_)
    obtain ⟨ha,hlt⟩:=ha
    by_cases hal:a < l.length
    ·have halI:(a:Int) < l.length:=by omega
     have hduA:(duL l)[a]? = some (.agg [.str l[a].n,.int .i64 l[a].b,.int .i64 l[a].t,.int .i64 l[a].c]):=by simp [hal,duF]
     cases hs:sless l[a].n n with
     | true =>
      refine ev_seq (ev_seq (ev_reg (by simp [hal,halI,hduA,duF,hs]; rfl) ?_))
      refine ev_cond rfl (fun hb4=>?_) (fun hb4=>?_)
      ·refine ev_skip ?_
       refine ev_block ?_
       refine ev_reg (by simp; rfl) ?_
       refine ⟨a+1,?_,⟨by omega,fun x hx=>?_⟩,by omega⟩
       ·simp [voyB]
        exact wrap_nat (n:=a+1) (by omega)
       ·rw [take_snoc hal,List.mem_append,List.mem_singleton] at hx
        rcases hx with hx | rfl
        ·exact hlt x hx
        ·exact sless_iff.1 hs
      ·simp at hb4
     | false =>
      refine ev_seq (ev_seq (ev_reg (by simp [hal,halI,hduA,duF,hs]; rfl) ?_))
      refine ev_cond rfl (fun hb4=>?_) (fun hb4=>?_)
      ·simp at hb4
      refine ev_exit ?_
      cases he:(l[a].n==n) with
      | true =>
       refine ev_seq (ev_seq (ev_reg (by simp [hal,halI,hduA,duF,he]; rfl) ?_))
       refine ev_cond rfl (fun hb5=>?_) (fun hb5=>?_)
       ·refine ev_exit ?_
        refine ev_reg (by simp; rfl) ?_
        refine ⟨(i+1,l),?_,⟨by simp only; omega,by simp only; omega,hnx _ (hd.same ?_)⟩,by simp only; omega⟩
        ·simp [voyB]
         exact wrap_nat (n:=i+1) (by omega)
        ·rw [<-(bytes_eq _ _).1 he]
         exact List.mem_map_of_mem (List.getElem_mem hal)
       ·simp at hb5
      | false =>
       refine ev_seq (ev_seq (ev_reg (by simp [hal,halI,hduA,duF,he]; rfl) ?_))
       refine ev_cond rfl (fun hb5=>?_) (fun hb5=>?_)
       ·simp at hb5
       have hg:∀ (h:a < l.length),¬ nlt l[a].n n/\l[a].n≠n:=fun _=>⟨sless_ff hs,fun e=>by rw [(bytes_eq _ _).2 e] at he; cases he⟩
       have hnew:=hnx _ (hd.ins hFn hlt hg)
       obtain ⟨x,hx⟩:∃ x,docF v n=x:=⟨_,rfl⟩
       have hxe:x=⟨n,ofF a0 v.own n,ofF a1 CL n,ofF a2 v.hand n⟩:=by rw [<-hx,hdF]
       have bd1:a*40<=140737488355328:=by omega
       have bd2:(a+1)*40<=140737488355328:=by omega
       have bd3:(a+1+(l.length-a))*40<=140737488355328:=by omega
       have mn:min a l.length=a:=by omega
       have tkD:List.take (l.length-a) (List.drop a (duL l))=List.drop a (duL l):=List.take_of_length_le (by simp)
       refine ev_skip ?_
       refine ev_seq (ev_drwH rfl rfl (by kernel_rfl) (by kernel_rfl) (by simp [e66a,e66b,e66c,tkC,voyB]; rfl) ?_)
       refine ev_hole rfl rfl (by kernel_rfl) (by kernel_rfl) (fs:=[false,false,false,false,false,false,false,false,true,true,true]) (by kernel_rfl) rfl (by simp; rfl) (by simp [ha,mn,bd1,tkD,voyB]; rfl) rfl (by simp [ha,mn,bd1,bd2,tkD,voyB]; exact ⟨rfl,rfl,rfl,rfl⟩) (by simp [ha,mn,bd1,bd2,tkD,voyB]) (by simp [ha,mn,bd1,bd2,bd3,tkD,voyB]; rfl) ?_
       refine ev_reg (by simp; rfl) ?_
       rw [hx] at hnew
       refine ⟨(i+1,l.take a++x :: l.drop a),?_,⟨by simp only; omega,by simp; omega,hnew⟩,by simp only; omega⟩
       simp only [duL_mid]
       simp [voyB,hxe,duF,mn]
       exact ⟨by omega,wrap_nat (n:=i+1) (by omega)⟩
    ·have halE:a=l.length:=by omega
     have halI:¬ (a:Int) < l.length:=by omega
     refine ev_seq (ev_seq (ev_reg (by simp [hal,halI,unsetS]; rfl) ?_))
     refine ev_cond rfl (fun hb4=>?_) (fun hb4=>?_)
     ·simp at hb4
     refine ev_exit ?_
     refine ev_seq (ev_seq (ev_reg (by simp [hal,halI,unsetS]; rfl) ?_))
     refine ev_cond rfl (fun hb5=>?_) (fun hb5=>?_)
     ·simp at hb5
     have hg:∀ (h:a < l.length),¬ nlt l[a].n n/\l[a].n≠n:=fun h=>absurd h hal
     have hnew:=hnx _ (hd.ins hFn hlt hg)
     obtain ⟨x,hx⟩:∃ x,docF v n=x:=⟨_,rfl⟩
     have hxe:x=⟨n,ofF a0 v.own n,ofF a1 CL n,ofF a2 v.hand n⟩:=by rw [<-hx,hdF]
     have bd1:a*40<=140737488355328:=by omega
     have bd2:(a+1)*40<=140737488355328:=by omega
     have bd3:(a+1+(l.length-a))*40<=140737488355328:=by omega
     have mn:min a l.length=a:=by omega
     have tkD:List.take (l.length-a) (List.drop a (duL l))=List.drop a (duL l):=List.take_of_length_le (by simp)
     refine ev_skip ?_
     refine ev_seq (ev_drwH rfl rfl (by kernel_rfl) (by kernel_rfl) (by simp [e66a,e66b,e66c,tkC,voyB]; rfl) ?_)
     refine ev_hole rfl rfl (by kernel_rfl) (by kernel_rfl) (fs:=[false,false,false,false,false,false,false,false,true,true,true]) (by kernel_rfl) rfl (by simp; rfl) (by simp [ha,mn,bd1,tkD,voyB]; rfl) rfl (by simp [ha,mn,bd1,bd2,tkD,voyB]; exact ⟨rfl,rfl,rfl,rfl⟩) (by simp [ha,mn,bd1,bd2,tkD,voyB]) (by simp [ha,mn,bd1,bd2,bd3,tkD,voyB]; rfl) ?_
     refine ev_reg (by simp; rfl) ?_
     rw [hx] at hnew
     refine ⟨(i+1,l.take a++x :: l.drop a),?_,⟨by simp only; omega,by simp; omega,hnew⟩,by simp only; omega⟩
     simp only [duL_mid]
     simp [voyB,hxe,duF,mn]
     exact ⟨by omega,wrap_nat (n:=i+1) (by omega)⟩
   ·have hiA:i=A.length:=by simp at hb3; omega
    subst hiA
    rw [List.take_length] at hd
    have hfin:=hdone l A rfl hd
    refine ev_exit ?_
    refine ev_seq (ev_reg (by simp; rfl) ?_)
    refine ev_ret ?_
    simp [hfin]
def H26 (ctx:Ctx):Prop:=∀ v:Voy,Small v->ctx 26 [(false,voyF v)]=some [.us 4 (duL (sharesF v)),.fv (.int .i64 (checkF v))]
theorem shares_len2 (v:Voy):(sharesF v).length<=30:=by
 by_cases h:checkF v=0
 ·exact shares_len h
 ·have:sharesF v=[]:=by unfold sharesF; rw [if_neg h]
  rw [this]; simp
theorem v5 (ctx:Ctx) (hC:CtxOk (pg ctx)) (h18:H18 ctx) (h25:H25 ctx) (h26:H26 ctx) (h27:H27 ctx) (v:Voy) (hv:Small v):Valid Tryd.prog 5 [(false,voyF v)] [.fv (.bool true)]:=by
 refine valid_of_ev (G:=pg ctx) (tok ctx) hC mixed Tryd.func5 T5 L5 (by simp [Tryd.ntmps5]) ⟨_,rfl,?_⟩
 simp only [Tryd.ntmps5,Tryd.results5,initSt,initEnv,voyF,voyC]
 have e18:ctx 18 []=some [.fv (.bool true)]:=h18
 have e25:=h25 v hv
 have e26:=h26 v hv
 simp only [voyF,voyC] at e25 e26
 have hl:=shares_len2 v
 generalize sharesF v=d at e25 e26 hl
 generalize checkF v=e at e25 e26
 have e27:∀ r c r2 c2,ctx 27 [(r,.sl c 4 (duL d)),(r2,.sl c2 4 (duL d))]=some [.fv (.bool true)]:=fun r c r2 c2=>by rw [h27 _ _ _ _ _ _ (by omega) (by omega)]; simp
 have tk:List.take d.length (duL d)=duL d:=List.take_of_length_le (by simp)
 refine ev_seq (ev_reg (by simp; rfl) ?_)
 refine ev_seq (ev_reg (by simp [e25]; rfl) ?_)
 refine ev_seq (ev_reg (by simp [e26]; rfl) ?_)
 refine ev_seq (ev_reg (by simp [e27,e18,tk]; rfl) ?_)
 refine ev_ret ?_
 simp
end Go.Proofs.YtejodhjhddnbeaaDoor.E
